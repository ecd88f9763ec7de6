/- Each function comes to what its model says; printed by a program of this repository. -/
import Derived.Test.YthhconilidaffaaProg
import Derived.Test.YthhconilidaffaaWTopMiddleModels
import Derived.Test.YthhconilidaffaaFwT
namespace Go.Proofs
def Try.lays189_ren : Shelf.Ren :=
{
  f := fun x =>
    match x with
    | 189 => 45
    | 125 => 68
    | 257 => 67
    | 128 => 81
    | 129 => 82
    | 294 => 72
    | 295 => 73
    | 296 => 74
    | 297 => 75
    | 298 => 76
    | 299 => 77
    | 216 => 78
    | 300 => 79
    | 301 => 80
    | 328 => 84
    | 329 => 85
    | 330 => 86
    | 331 => 87
    | 332 => 88
    | 215 => 89
    | 343 => 91
    | n => n,
  t := fun x =>
    match x with
    | 28 => 22
    | 3 => 3
    | 46 => 96
    | 0 => 0
    | 51 => 112
    | 53 => 114
    | 4 => 4
    | 183 => 104
    | 182 => 103
    | 131 => 109
    | 5 => 5
    | 9 => 9
    | 218 => 115
    | 222 => 119
    | 228 => 122
    | 229 => 123
    | n => n,
  g := fun x =>
    have n := x;
    n }
theorem Try.lays189 : Lays.n189 Try.prog Try.lays189_ren :=
{ mixed := Eq.refl true, f125 := Eq.trans Try.func68 (congrArg some (Eq.refl (Body.n125 Try.lays189_ren))),
  f128 := Eq.trans Try.func81 (congrArg some (Eq.refl (Body.n128 Try.lays189_ren))),
  f129 := Eq.trans Try.func82 (congrArg some (Eq.refl (Body.n129 Try.lays189_ren))),
  f189 := Eq.trans Try.func45 (congrArg some (Eq.refl (Body.n189 Try.lays189_ren))),
  f215 := Eq.trans Try.func89 (congrArg some (Eq.refl (Body.n215 Try.lays189_ren))),
  f216 := Eq.trans Try.func78 (congrArg some (Eq.refl (Body.n216 Try.lays189_ren))),
  f257 := Eq.trans Try.func67 (congrArg some (Eq.refl (Body.n257 Try.lays189_ren))),
  f294 := Eq.trans Try.func72 (congrArg some (Eq.refl (Body.n294 Try.lays189_ren))),
  f295 := Eq.trans Try.func73 (congrArg some (Eq.refl (Body.n295 Try.lays189_ren))),
  f296 := Eq.trans Try.func74 (congrArg some (Eq.refl (Body.n296 Try.lays189_ren))),
  f297 := Eq.trans Try.func75 (congrArg some (Eq.refl (Body.n297 Try.lays189_ren))),
  f298 := Eq.trans Try.func76 (congrArg some (Eq.refl (Body.n298 Try.lays189_ren))),
  f299 := Eq.trans Try.func77 (congrArg some (Eq.refl (Body.n299 Try.lays189_ren))),
  f300 := Eq.trans Try.func79 (congrArg some (Eq.refl (Body.n300 Try.lays189_ren))),
  f301 := Eq.trans Try.func80 (congrArg some (Eq.refl (Body.n301 Try.lays189_ren))),
  f328 := Eq.trans Try.func84 (congrArg some (Eq.refl (Body.n328 Try.lays189_ren))),
  f329 := Eq.trans Try.func85 (congrArg some (Eq.refl (Body.n329 Try.lays189_ren))),
  f330 := Eq.trans Try.func86 (congrArg some (Eq.refl (Body.n330 Try.lays189_ren))),
  f331 := Eq.trans Try.func87 (congrArg some (Eq.refl (Body.n331 Try.lays189_ren))),
  f332 := Eq.trans Try.func88 (congrArg some (Eq.refl (Body.n332 Try.lays189_ren))),
  f343 := Eq.trans Try.func91 (congrArg some (Eq.refl (Body.n343 Try.lays189_ren))), t0 := Try.underlying0,
  a0 := Try.isAgg0, z0 := Try.sizeOf0, v0 := Try.zeroValue0, t3 := Try.underlying3, a3 := Try.isAgg3, z3 := Try.sizeOf3,
  v3 := Try.zeroValue3, t4 := Try.underlying4, a4 := Try.isAgg4, z4 := Try.sizeOf4, v4 := Try.zeroValue4,
  t5 := Try.underlying5, a5 := Try.isAgg5, z5 := Try.sizeOf5, v5 := Try.zeroValue5, t9 := Try.underlying9,
  a9 := Try.isAgg9, z9 := Try.sizeOf9, v9 := Try.zeroValue9, t28 := Try.underlying22, a28 := Try.isAgg22,
  z28 := Try.sizeOf22, v28 := Try.zeroValue22, t46 := Try.underlying96, a46 := Try.isAgg96, z46 := Try.sizeOf96,
  v46 := Try.zeroValue96, t51 := Try.underlying112, a51 := Try.isAgg112, z51 := Try.sizeOf112, v51 := Try.zeroValue112,
  t53 := Try.underlying114, a53 := Try.isAgg114, z53 := Try.sizeOf114, v53 := Try.zeroValue114,
  t131 := Try.underlying109, a131 := Try.isAgg109, z131 := Try.sizeOf109, v131 := Try.zeroValue109,
  t182 := Try.underlying103, a182 := Try.isAgg103, z182 := Try.sizeOf103, v182 := Try.zeroValue103,
  t183 := Try.underlying104, a183 := Try.isAgg104, z183 := Try.sizeOf104, v183 := Try.zeroValue104,
  t218 := Try.underlying115, a218 := Try.isAgg115, z218 := Try.sizeOf115, v218 := Try.zeroValue115,
  t222 := Try.underlying119, a222 := Try.isAgg119, z222 := Try.sizeOf119, v222 := Try.zeroValue119,
  t228 := Try.underlying122, a228 := Try.isAgg122, z228 := Try.sizeOf122, v228 := Try.zeroValue122,
  t229 := Try.underlying123, a229 := Try.isAgg123, z229 := Try.sizeOf123, v229 := Try.zeroValue123 }
end Go.Proofs
namespace Go.Wk
open Go.Fw Go.Mo Go.Proofs Go.RowKit
set_option linter.all false
set_option maxRecDepth 100000
theorem loopNx {ρ σ β γ : Type} {body : σ → Option (Fl ρ β σ)} {n : Nat} {s : σ} {y : Fl ρ γ β} (h : stepM body n (.nx s) = some y) : loopM body n s = some y := h
theorem Try_info3 : (Try.prog.info? 3).map (fun i => (i.zero, i.size, i.bytes)) = some (some (.int .i64 0), 1, 8) := by kernel_rfl
theorem Try_ln3 : Ln Try.prog 3 1 false := Ln.of Try_info3 Try.underlying3 rfl
theorem Try_lo3 : LnO Try.prog 3 1 [.int .i64 0] := LnO.of Try_info3 rfl rfl (by decide) (by decide)
theorem Try_info4 : (Try.prog.info? 4).map (fun i => (i.zero, i.size, i.bytes)) = some (some (.bool false), 1, 1) := by kernel_rfl
theorem Try_ln4 : Ln Try.prog 4 1 false := Ln.of Try_info4 Try.underlying4 rfl
theorem Try_lo4 : LnO Try.prog 4 1 [.bool false] := LnO.of Try_info4 rfl rfl (by decide) (by decide)
theorem Try_info22 : (Try.prog.info? 22).map (fun i => (i.zero, i.size, i.bytes)) = some (some (.slice none 0 0), 1, 24) := by kernel_rfl
theorem Try_ln22 : Ln Try.prog 22 1 false := Ln.of Try_info22 Try.underlying22 rfl
theorem Try_lo22 : LnO Try.prog 22 1 [.slice none 0 0] := LnO.of Try_info22 rfl rfl (by decide) (by decide)
theorem Try_info28 : (Try.prog.info? 28).map (fun i => (i.zero, i.size, i.bytes)) = some (some (.int .i64 0), 1, 8) := by kernel_rfl
theorem Try_ln28 : Ln Try.prog 28 1 false := Ln.of Try_info28 Try.underlying28 rfl
theorem Try_lo28 : LnO Try.prog 28 1 [.int .i64 0] := LnO.of Try_info28 rfl rfl (by decide) (by decide)
theorem Try_info97 : (Try.prog.info? 97).map (fun i => (i.zero, i.size, i.bytes)) = some (some (.agg #[.bool false, .bool false, .bool false, .bool false, .bool false, .bool false]), 6, 6) := by kernel_rfl
theorem Try_ln97 : Ln Try.prog 97 6 true := Ln.of Try_info97 Try.underlying97 rfl
theorem Try_lo97 : LnO Try.prog 97 6 [.bool false, .bool false, .bool false, .bool false, .bool false, .bool false] := LnO.of Try_info97 rfl rfl (by decide) (by decide)
theorem Try_info98 : (Try.prog.info? 98).map (fun i => (i.zero, i.size, i.bytes)) = some (some (.agg #[.int .i64 0, .int .i64 0, .int .i64 0, .int .i64 0, .int .i64 0, .int .i64 0]), 6, 48) := by kernel_rfl
theorem Try_ln98 : Ln Try.prog 98 6 true := Ln.of Try_info98 Try.underlying98 rfl
theorem Try_lo98 : LnO Try.prog 98 6 [.int .i64 0, .int .i64 0, .int .i64 0, .int .i64 0, .int .i64 0, .int .i64 0] := LnO.of Try_info98 rfl rfl (by decide) (by decide)
theorem Try_fit10 : Fit Try.prog 10 := Fit.of Try.func10 (by kernel_rfl) rfl
theorem Try_fit11 : Fit Try.prog 11 := Fit.of Try.func11 (by kernel_rfl) rfl
theorem Try_fit18 : Fit Try.prog 18 := Fit.of Try.func18 (by kernel_rfl) rfl
theorem Try_fit19 : Fit Try.prog 19 := Fit.of Try.func19 (by kernel_rfl) rfl
theorem Try_fit20 : Fit Try.prog 20 := Fit.of Try.func20 (by kernel_rfl) rfl
theorem Try_fit21 : Fit Try.prog 21 := Fit.of Try.func21 (by kernel_rfl) rfl
theorem Try_fit22 : Fit Try.prog 22 := Fit.of Try.func22 (by kernel_rfl) rfl
theorem Try_fit23 : Fit Try.prog 23 := Fit.of Try.func23 (by kernel_rfl) rfl
theorem Try_fit24 : Fit Try.prog 24 := Fit.of Try.func24 (by kernel_rfl) rfl
theorem Try_fit25 : Fit Try.prog 25 := Fit.of Try.func25 (by kernel_rfl) rfl
theorem Try_fit26 : Fit Try.prog 26 := Fit.of Try.func26 (by kernel_rfl) rfl
theorem Try_fit27 : Fit Try.prog 27 := Fit.of Try.func27 (by kernel_rfl) rfl
theorem Try_fit28 : Fit Try.prog 28 := Fit.of Try.func28 (by kernel_rfl) rfl
theorem Try_fit30 : Fit Try.prog 30 := Fit.of Try.func30 (by kernel_rfl) rfl
theorem Try_fit31 : Fit Try.prog 31 := Fit.of Try.func31 (by kernel_rfl) rfl
theorem Try_fit32 : Fit Try.prog 32 := Fit.of Try.func32 (by kernel_rfl) rfl
theorem Try_fit33 : Fit Try.prog 33 := Fit.of Try.func33 (by kernel_rfl) rfl
theorem Try_fit35 : Fit Try.prog 35 := Fit.of Try.func35 (by kernel_rfl) rfl
theorem Try_fit45 : Fit Try.prog 45 := Fit.of Try.func45 (by kernel_rfl) rfl
theorem Try_fit46 : Fit Try.prog 46 := Fit.of Try.func46 (by kernel_rfl) rfl
theorem Try_fit47 : Fit Try.prog 47 := Fit.of Try.func47 (by kernel_rfl) rfl
theorem Try_fit48 : Fit Try.prog 48 := Fit.of Try.func48 (by kernel_rfl) rfl
theorem Try_fit49 : Fit Try.prog 49 := Fit.of Try.func49 (by kernel_rfl) rfl
theorem Try_fit50 : Fit Try.prog 50 := Fit.of Try.func50 (by kernel_rfl) rfl
theorem Try_fit51 : Fit Try.prog 51 := Fit.of Try.func51 (by kernel_rfl) rfl
theorem Try_fit52 : Fit Try.prog 52 := Fit.of Try.func52 (by kernel_rfl) rfl
theorem Try_fit53 : Fit Try.prog 53 := Fit.of Try.func53 (by kernel_rfl) rfl
theorem Try_fit54 : Fit Try.prog 54 := Fit.of Try.func54 (by kernel_rfl) rfl
theorem Try_fit55 : Fit Try.prog 55 := Fit.of Try.func55 (by kernel_rfl) rfl
theorem Try_fit56 : Fit Try.prog 56 := Fit.of Try.func56 (by kernel_rfl) rfl
theorem Try_fit57 : Fit Try.prog 57 := Fit.of Try.func57 (by kernel_rfl) rfl
theorem Try_fit58 : Fit Try.prog 58 := Fit.of Try.func58 (by kernel_rfl) rfl
theorem Try_fit59 : Fit Try.prog 59 := Fit.of Try.func59 (by kernel_rfl) rfl
theorem Try_fit60 : Fit Try.prog 60 := Fit.of Try.func60 (by kernel_rfl) rfl
theorem Try_fit61 : Fit Try.prog 61 := Fit.of Try.func61 (by kernel_rfl) rfl
theorem Try_fit62 : Fit Try.prog 62 := Fit.of Try.func62 (by kernel_rfl) rfl
theorem Try_fit63 : Fit Try.prog 63 := Fit.of Try.func63 (by kernel_rfl) rfl
theorem Try_fit64 : Fit Try.prog 64 := Fit.of Try.func64 (by kernel_rfl) rfl
theorem Try_fit67 : Fit Try.prog 67 := Fit.of Try.func67 (by kernel_rfl) rfl
theorem Try_fit68 : Fit Try.prog 68 := Fit.of Try.func68 (by kernel_rfl) rfl
theorem Try_fit69 : Fit Try.prog 69 := Fit.of Try.func69 (by kernel_rfl) rfl
theorem Try_fit7 : Fit Try.prog 7 := Fit.of Try.func7 (by kernel_rfl) rfl
theorem Try_fit72 : Fit Try.prog 72 := Fit.of Try.func72 (by kernel_rfl) rfl
theorem Try_fit78 : Fit Try.prog 78 := Fit.of Try.func78 (by kernel_rfl) rfl
theorem Try_fit81 : Fit Try.prog 81 := Fit.of Try.func81 (by kernel_rfl) rfl
theorem Try_fit82 : Fit Try.prog 82 := Fit.of Try.func82 (by kernel_rfl) rfl
theorem Try_fit89 : Fit Try.prog 89 := Fit.of Try.func89 (by kernel_rfl) rfl

set_option maxHeartbeats 4000000 in
theorem ref_Rest_c (S : Hp) (w : World) (hS : S.sub w) (x0 : Int) (x1 : Int) (res : Int) (hm : ref_Rest_m x0 x1 = some res) : Calls Try.prog 28 #[.int .i64 x0, .int .i64 x1] w (PostC w (.int .i64 res)) := by
 refine calls_enter 14 Try.func28 Try.ntmps28 rfl S true [(0, .int .i64 x0), (1, .int .i64 x1)] [] rfl ⟨rfl, ⟨rfl, trivial⟩⟩ hS trivial ?_
 unfold ref_Rest_m at hm
 refine GL.seq ?_
 refine GL.region ?_
 refine RL.asg rfl rfl rfl ?_
 refine RL.finG ?_
 refine GL.seq ?_
 refine GL.region ?_
 refine RL.mv rfl rfl rfl ?_
 refine RL.mv rfl rfl rfl ?_
 obtain ⟨y5, e6, hm⟩ := bind_some hm
 replace e6 := chk_some e6
 refine RL.rem rfl rfl rfl rfl e6 ?_
 refine RL.asg rfl rfl rfl ?_
 refine RL.finG ?_
 refine GL.seq ?_
 refine GL.seq ?_
 refine GL.region ?_
 refine RL.mv rfl rfl rfl ?_
 refine RL.binI (v := .bool (decide ((Int.tmod x0 x1) < (0 : Int)))) rfl rfl rfl rfl rfl ?_
 refine RL.finG ?_
 obtain ⟨y9, K10, h11, h12, h13, h14, h15⟩ := bindR_K hm
 refine GL.join (ι := Int) (fun (p : Int) => [(0, .int .i64 p)]) (fun (p : Int) => []) (fun (p : Int) => K10 (.nx p)) ?_ ?_
 ·skip
  refine GL.cond rfl (fun b16 => ?_) (fun b16 => ?_)
  ·replace h11 := ite_t b16 h11
   refine GL.region ?_
   refine RL.mv rfl rfl rfl ?_
   refine RL.mv rfl rfl rfl ?_
   refine RL.binI (v := .int .i64 (wadd (Int.tmod x0 x1) x1)) rfl rfl rfl rfl rfl ?_
   refine RL.asg rfl rfl rfl ?_
   refine RL.finG ?_
   cases h11
   exact fun a w st => mid_intro (wadd (Int.tmod x0 x1) x1) h12 (St.cut [] ⟨rfl, trivial⟩ (by decide) rfl st)
  replace h11 := ite_f b16 h11
  refine GL.skip ?_
  cases h11
  exact fun a w st => mid_intro (Int.tmod x0 x1) h12 (St.cut [] ⟨rfl, trivial⟩ (by decide) rfl st)
 rintro x8 h17
 have h18 := h13 _ h17
 try dsimp only at h18
 refine GL.weak (env' := [(0, .int .i64 x8)]) (L' := []) (fun _ _ st => st) ?_
 refine GL.seq ?_
 refine GL.region ?_
 refine RL.mv rfl rfl rfl ?_
 refine RL.asg rfl rfl rfl ?_
 refine RL.finG ?_
 have h18 := Option.some.inj h18
 subst h18
 exact GL.ret (Gx.ret (v := .int .i64 x8) (res1 rfl rfl) (fun a w st => st.toPostC rfl))

set_option maxHeartbeats 4000000 in
theorem pk_Within_c (S : Hp) (w : World) (hS : S.sub w) (x0 : Int) (x1 : Int) (res : Int) (hm : pk_Within_m x0 x1 = some res) : Calls Try.prog 7 #[.int .i64 x0, .int .i64 x1] w (PostC w (.int .i64 res)) := by
 refine calls_enter 8 Try.func7 Try.ntmps7 rfl S true [(0, .int .i64 x0), (1, .int .i64 x1)] [] rfl ⟨rfl, ⟨rfl, trivial⟩⟩ hS trivial ?_
 unfold pk_Within_m at hm
 refine GL.seq ?_
 refine GL.region ?_
 refine RL.asg rfl rfl rfl ?_
 refine RL.finG ?_
 refine GL.seq ?_
 refine GL.region ?_
 refine RL.mv rfl rfl rfl ?_
 refine RL.mv rfl rfl rfl ?_
 obtain ⟨y5, e6, hm⟩ := bind_some hm
 refine RL.callC (v := .int .i64 y5) (vs := [.int .i64 x0, .int .i64 x1]) Try_fit28 rfl rfl rfl rfl (fun U w hU hW hL => ref_Rest_c U w hU x0 x1 _ e6) ?_
 refine RL.asg rfl rfl rfl ?_
 refine RL.finG ?_
 have hm := Option.some.inj hm
 subst hm
 exact GL.ret (Gx.ret (v := .int .i64 y5) (res1 rfl rfl) (fun a w st => st.toPostC rfl))

set_option maxHeartbeats 4000000 in
theorem ref_Sides_c (S : Hp) (w : World) (hS : S.sub w) (x0 : Int) (res : (List Int)) (hm : ref_Sides_m x0 = some res) : Calls Try.prog 46 #[.int .i64 x0] w (Post w S (fun (o : Value) => o) (fun (o : Value) => [own 3 TR.int o res])) := by
 refine calls_enter 15 Try.func46 Try.ntmps46 rfl S false [(0, .int .i64 x0)] [] rfl ⟨rfl, trivial⟩ hS trivial ?_
 unfold ref_Sides_m at hm
 refine GL.seq ?_
 refine GL.region ?_
 refine RL.asg rfl rfl rfl ?_
 refine RL.finG ?_
 refine GL.seq ?_
 refine GL.region ?_
 refine RL.asg rfl rfl rfl ?_
 refine RL.finG ?_
 refine GL.seq ?_
 refine GL.seq ?_
 refine GL.region ?_
 refine RL.mv rfl rfl rfl ?_
 refine RL.mv rfl rfl rfl ?_
 refine RL.finG ?_
 refine GL.weak (fun a w st => st.nilOwn 3 TR.int) ?_
 obtain ⟨y13, e14, hm⟩ := bind_some hm
 replace e14 := chk_some e14
 obtain ⟨y15, K16, h17, h18, h19, h20, h21⟩ := bindR_K hm
 refine GL.join (ι := (List Int) × Value) (fun (p : (List Int) × Value) => [(3, p.2)]) (fun (p : (List Int) × Value) => [own 3 TR.int p.2 p.1]) (fun (p : (List Int) × Value) => K16 (.nx p.1)) ?_ ?_
 ·refine GL.block ?_
  refine GL.loop (ι := Nat × Nat × (List Int) × Value) (fun (p : Nat × Nat × (List Int) × Value) => [(3, p.2.2.2), (5, .int .i64 x0), (6, .int .i64 (p.1 : Int))]) (fun (p : Nat × Nat × (List Int) × Value) => [own 3 TR.int p.2.2.2 p.2.2.1]) (fun (p : Nat × Nat × (List Int) × Value) => p.1 + p.2.1 = (x0).toNat ∧ rangeN ref_Sides_b1 p.2.1 p.1 p.2.2.1 = some y15) (fun (p : Nat × Nat × (List Int) × Value) => p.2.1) (0, (x0).toNat, [], Value.slice none 0 0) ⟨by simp, h17⟩ (fun a w st => St.cut [0] ⟨rfl, rfl, rfl, trivial⟩ (by decide) rfl st) ?_
  rintro ⟨i22, r23, l2, v3⟩ ⟨h28, h27⟩
  try dsimp only at h28 h27
  refine GL.weak (env' := [(3, v3), (5, .int .i64 x0), (6, .int .i64 (i22 : Int))]) (L' := [own 3 TR.int v3 l2]) (fun _ _ st => st) ?_
  refine GL.seq ?_
  refine GL.region ?_
  refine RL.binI (v := .bool (decide ((i22 : Int) < x0))) rfl rfl rfl rfl rfl ?_
  refine RL.finG ?_
  refine GL.seq ?_
  refine GL.cond rfl (fun b30 => ?_) (fun b30 => ?_)
  ·have h31 : i22 < (x0).toNat := by have := of_decide_eq_true b30; omega
   obtain ⟨r32, hr⟩ : ∃ m, r23 = m + 1 := ⟨r23 - 1, by omega⟩
   subst hr
   obtain ⟨z24, h25, h26⟩ := rangeN_some h27
   unfold ref_Sides_b1 at h25
   try dsimp only at h25
   refine GL.skip ?_
   refine GL.seq ?_
   refine GL.block ?_
   refine GL.seq ?_
   refine GL.region ?_
   refine RL.mv rfl rfl rfl ?_
   refine RL.asg rfl rfl rfl ?_
   refine RL.finG ?_
   refine GL.region ?_
   refine RL.mv rfl rfl rfl ?_
   refine RL.mv rfl rfl rfl ?_
   refine RL.bS (t := TR.int) (vs := [.int .i64 (i22 : Int)]) ([(i22 : Int)] : (List Int)) Try.underlying22 Try_lo3 rfl rfl rfl rfl ⟨VR.int, trivial⟩ rfl (by decide) ?_
   intro v37
   obtain ⟨y38, e39, h25⟩ := bind_some h25
   replace e39 := chk_some e39
   refine RL.app 0 1 Try.underlying22 Try_lo3 rfl rfl rfl rfl rfl rfl rfl SlOf.own e39 ?_
   intro v40
   refine RL.reL (L' := [own 3 TR.int v40 (l2 ++ ([(i22 : Int)] : (List Int))), own 3 TR.int v37 ([(i22 : Int)] : (List Int))]) rfl ?_
   refine RL.asg rfl rfl rfl ?_
   refine RL.finG ?_
   refine GL.nilB ?_
   refine GL.region ?_
   refine RL.binI (v := .int .i64 ((i22 + 1 : Nat) : Int)) rfl rfl rfl rfl (binI_succ i22 (by omega)) ?_
   refine RL.mv rfl rfl rfl ?_
   refine RL.fin ?_
   cases h25
   exact fun a w st => lop_intro (i22 + 1, r32, (l2 ++ ([(i22 : Int)] : (List Int))), v40) ⟨by show i22 + 1 + r32 = (x0).toNat; omega, h26⟩ (by simp) (St.cut [0] ⟨rfl, rfl, rfl, trivial⟩ (by decide) rfl st)
  have h31 : ¬ i22 < (x0).toNat := by have := of_decide_eq_false b30; omega
  obtain rfl : r23 = 0 := by omega
  replace h27 : some (Fl.nx _) = some y15 := h27
  cases h27
  exact GL.exit (fun a w st => mid_intro (l2, v3) h18 (St.cut [0] ⟨rfl, trivial⟩ (by decide) rfl st))
 rintro ⟨l2, v3⟩ h41
 have h42 := h19 _ h41
 try dsimp only at h42
 refine GL.weak (env' := [(3, v3)]) (L' := [own 3 TR.int v3 l2]) (fun _ _ st => st) ?_
 refine GL.seq ?_
 refine GL.region ?_
 refine RL.mv rfl rfl rfl ?_
 refine RL.asg rfl rfl rfl ?_
 refine RL.finG ?_
 have h42 := Option.some.inj h42
 subst h42
 exact GL.ret (Gx.ret (v := v3) (res1 rfl rfl) (fun a w st => (st.pick [0] (by decide) rfl).toPost v3))

set_option maxHeartbeats 4000000 in
theorem slices_Delete_int_int_c (B : World) (S X : Hp) (f : Nat → Hp) (w : World) (v0 : Value) (x0 : List Int) (hO : HeapOk B.heap.size S f [own 3 TR.int v0 x0, keep X].length w) (hB : Below B.heap.size B w) (hI : Its [own 3 TR.int v0 x0, keep X] S f) (x1 x2 : Int) (res : List Int) (hm : slices_Delete_int_int_m x0 x1 x2 = some res) : Calls Try.prog 47 #[v0, .int .i64 x1, .int .i64 x2] w (PostM B S (fun (o : Value) => o) (fun (o : Value) => [own 3 TR.int o res, keep X])) := by
  refine calls_enterM 33 Try.func47 Try.ntmps47 rfl B S f [(0, v0), (1, .int .i64 x1), (2, .int .i64 x2)] [own 3 TR.int v0 x0, keep X] [] rfl ⟨rfl, rfl, rfl, trivial⟩ hB hO hI trivial ?_
  unfold slices_Delete_int_int_m at hm
  obtain ⟨_, hc, hm⟩ := bind_some hm
  replace hc := chk_some hc
  have hm := Option.some.inj hm
  subst hm
  obtain ⟨i, rfl⟩ : ∃ i : Nat, x1 = (i : Int) := ⟨x1.toNat, by omega⟩
  obtain ⟨j, rfl⟩ : ∃ j : Nat, x2 = (j : Int) := ⟨x2.toNat, by omega⟩
  simp only [Int.toNat_natCast]
  refine GL.capO 0 rfl (fun hcap hmax hrl hcr => ?_)
  repeat refine GL.seq ?_
  refine GL.region ?_
  refine RL.asg rfl rfl rfl ?_
  refine RL.finG ?_
  repeat refine GL.seq ?_
  refine GL.region ?_
  refine RL.mv rfl rfl rfl ?_
  refine RL.mv rfl rfl rfl ?_
  refine RL.mv rfl rfl rfl ?_
  refine RL.mv rfl rfl rfl ?_
  refine RL.lenS 0 Try.underlying22 rfl rfl rfl rfl SlOf.own ?_
  refine RL.cut3 (i := i) (j := j) (m := x0.length) 0 Try.underlying22 Try_ln3 rfl rfl rfl rfl rfl rfl rfl (by omega) (by omega) (by omega) ?_
  intro u
  refine RL.finG ?_
  repeat refine GL.seq ?_
  refine GL.region ?_
  refine RL.mv rfl rfl rfl ?_
  refine RL.mv rfl rfl rfl ?_
  refine RL.binI (v := .bool ((i : Int) == (j : Int))) rfl rfl rfl rfl rfl ?_
  refine RL.finG ?_
  repeat refine GL.seq ?_
  refine GL.cond rfl (fun h => ?_) (fun h => ?_)
  · have hij : i = j := by have := of_decide_eq_true (p := (i : Int) = (j : Int)) (by simpa using h); omega
    subst hij
    repeat refine GL.seq ?_
    refine GL.region ?_
    refine RL.mv rfl rfl rfl ?_
    refine RL.asg rfl rfl rfl ?_
    refine RL.finG ?_
    have hx : x0.take i ++ x0.drop i = x0 := List.take_append_drop _ _
    rw [hx]
    exact GL.ret (Gx.ret (v := v0) (res1 rfl rfl) (fun a w st => (st.pick [0, 1] (by decide) rfl).toPostM (LR := fun (o : Value) => [own 3 TR.int o x0, keep X]) v0))
  · have hij : i ≠ j := fun e => by subst e; simp at h
    have hll : (x0.take i ++ x0.drop j).length = i + (x0.length - j) := by rw [List.length_append, List.length_take, List.length_drop]; omega
    refine GL.skip ?_
    repeat refine GL.seq ?_
    refine GL.region ?_
    refine RL.mv rfl rfl rfl ?_
    refine RL.lenS 0 Try.underlying22 rfl rfl rfl rfl SlOf.own ?_
    refine RL.asg rfl rfl rfl ?_
    refine RL.finG ?_
    repeat refine GL.seq ?_
    refine GL.regionH 6 rfl rfl (by kernel_rfl) ?_
    simp only [List.take_succ_cons, List.take_zero, List.drop_succ_cons, List.drop_zero]
    refine RL.mv rfl rfl rfl ?_
    refine RL.mv rfl rfl rfl ?_
    refine RL.cutO (i := 0) (j := i) 0 Try.underlying22 Try_ln3 rfl rfl rfl (Or.inl ⟨rfl, rfl⟩) (Or.inr ⟨_, _, rfl, rfl⟩) rfl (by omega) (by show i ≤ capv v0; omega) ?_
    refine RL.mv rfl rfl rfl ?_
    refine RL.mv rfl rfl rfl ?_
    refine RL.cutO (i := j) (j := x0.length) 0 Try.underlying22 Try_ln3 rfl rfl rfl (Or.inr ⟨_, _, rfl, rfl⟩) (Or.inl ⟨rfl, rfl⟩) rfl (by omega) hcap ?_
    refine RL.finH ?_
    refine RL.del (i := i) (j := j) 0 Try.underlying22 Try_lo3 rfl rfl rfl rfl rfl rfl (by omega) (by omega) ?_
    refine RL.asg rfl rfl rfl ?_
    refine RL.finG ?_
    repeat refine GL.seq ?_
    refine GL.region ?_
    refine RL.mv rfl rfl rfl ?_
    refine RL.mv rfl rfl rfl ?_
    refine RL.lenS 0 Try.underlying22 rfl rfl rfl rfl SlOf.own ?_
    refine RL.mv rfl rfl rfl ?_
    refine RL.cutO (i := (x0.take i ++ x0.drop j).length) (j := x0.length) 0 Try.underlying22 Try_ln3 rfl rfl rfl (Or.inr ⟨_, _, rfl, rfl⟩) (Or.inr ⟨_, _, rfl, rfl⟩) rfl (by omega) (by rw [hcr]; exact hcap) ?_
    refine RL.clr (j := x0.length) 0 Try.underlying22 Try_lo3 (by decide) rfl rfl rfl rfl (by omega) (by rw [hcr]; exact hcap) ?_
    refine RL.finG ?_
    repeat refine GL.seq ?_
    refine GL.region ?_
    refine RL.mv rfl rfl rfl ?_
    refine RL.asg rfl rfl rfl ?_
    refine RL.finG ?_
    exact GL.ret (Gx.ret (v := relen v0 (i + (x0.length - j))) (res1 rfl rfl) (fun a w st => (st.pick [0, 1] (by decide) rfl).toPostM (LR := fun (o : Value) => [own 3 TR.int o (x0.take i ++ x0.drop j), keep X]) (relen v0 (i + (x0.length - j)))))

set_option maxHeartbeats 4000000 in
theorem pk_OrderOf_c (S : Hp) (w : World) (hS : S.sub w) (x0 : Int) (v1 : Value) (x1 : (List Int)) (k1 : ((TR.sl TR.int)).vrep S v1 x1) (res : (List Int)) (hm : pk_OrderOf_m x0 x1 = some res) : Calls Try.prog 18 #[.int .i64 x0, v1] w (Post w S (fun (o : Value) => o) (fun (o : Value) => [own 3 TR.int o res])) := by
 refine calls_enter 40 Try.func18 Try.ntmps18 rfl S false [(0, .int .i64 x0), (1, v1)] [imm (TR.sl TR.int) v1 x1] rfl ⟨rfl, ⟨rfl, trivial⟩⟩ hS ⟨k1, trivial⟩ ?_
 unfold pk_OrderOf_m at hm
 refine GL.seq ?_
 refine GL.region ?_
 refine RL.asg rfl rfl rfl ?_
 refine RL.finG ?_
 refine GL.seq ?_
 refine GL.region ?_
 refine RL.mv rfl rfl rfl ?_
 obtain ⟨y6, e7, hm⟩ := bind_some hm
 refine RL.call (vs := [.int .i64 x0]) Try_fit46 rfl rfl rfl rfl rfl (fun S f w hS hW hi => ref_Sides_c S w hS x0 _ e7) ?_
 intro v8
 refine RL.asg rfl rfl rfl ?_
 refine RL.finG ?_
 refine GL.seq ?_
 refine GL.region ?_
 refine RL.asg rfl rfl rfl ?_
 refine RL.finG ?_
 refine GL.seq ?_
 refine GL.seq ?_
 refine GL.region ?_
 refine RL.mv rfl rfl rfl ?_
 refine RL.mv rfl rfl rfl ?_
 refine RL.finG ?_
 refine GL.weak (fun a w st => st.nilOwn 3 TR.int) ?_
 obtain ⟨y60, e61, hm⟩ := bind_some hm
 replace e61 := chk_some e61
 obtain ⟨y62, K63, h64, h65, h66, h67, h68⟩ := bindR_K hm
 refine GL.join (ι := (List Int) × (List Int) × Value) (fun (p : (List Int) × (List Int) × Value) => [(6, p.2.2)]) (fun (p : (List Int) × (List Int) × Value) => [own 3 TR.int p.2.2 p.2.1]) (fun (p : (List Int) × (List Int) × Value) => K63 (.nx (p.1, p.2.1))) ?_ ?_
 ·refine GL.block ?_
  refine GL.loop (ι := Nat × Nat × (List Int) × (List Int) × Value × Value) (fun (p : Nat × Nat × (List Int) × (List Int) × Value × Value) => [(1, v1), (5, p.2.2.2.2.1), (6, p.2.2.2.2.2), (11, .int .i64 x0), (12, .int .i64 (p.1 : Int))]) (fun (p : Nat × Nat × (List Int) × (List Int) × Value × Value) => [imm (TR.sl TR.int) v1 x1, own 3 TR.int p.2.2.2.2.1 p.2.2.1, own 3 TR.int p.2.2.2.2.2 p.2.2.2.1]) (fun (p : Nat × Nat × (List Int) × (List Int) × Value × Value) => p.1 + p.2.1 = (x0).toNat ∧ rangeN (pk_OrderOf_b1 x1) p.2.1 p.1 (p.2.2.1, p.2.2.2.1) = some y62) (fun (p : Nat × Nat × (List Int) × (List Int) × Value × Value) => p.2.1) (0, (x0).toNat, y6, [], v8, Value.slice none 0 0) ⟨by simp, h64⟩ (fun a w st => St.cut [0, 1, 2] ⟨rfl, rfl, rfl, rfl, rfl, trivial⟩ (by decide) rfl st) ?_
  rintro ⟨i69, r70, l9, l11, v10, v12⟩ ⟨h75, h74⟩
  try dsimp only at h75 h74
  refine GL.weak (env' := [(1, v1), (5, v10), (6, v12), (11, .int .i64 x0), (12, .int .i64 (i69 : Int))]) (L' := [imm (TR.sl TR.int) v1 x1, own 3 TR.int v10 l9, own 3 TR.int v12 l11]) (fun _ _ st => st) ?_
  refine GL.seq ?_
  refine GL.region ?_
  refine RL.binI (v := .bool (decide ((i69 : Int) < x0))) rfl rfl rfl rfl rfl ?_
  refine RL.finG ?_
  refine GL.seq ?_
  refine GL.cond rfl (fun b77 => ?_) (fun b77 => ?_)
  ·have h78 : i69 < (x0).toNat := by have := of_decide_eq_true b77; omega
   obtain ⟨r79, hr⟩ : ∃ m, r70 = m + 1 := ⟨r70 - 1, by omega⟩
   subst hr
   obtain ⟨z71, h72, h73⟩ := rangeN_some h74
   unfold pk_OrderOf_b1 at h72
   try dsimp only at h72
   refine GL.skip ?_
   refine GL.seq ?_
   refine GL.block ?_
   refine GL.seq ?_
   refine GL.region ?_
   refine RL.mv rfl rfl rfl ?_
   refine RL.asg rfl rfl rfl ?_
   refine RL.finG ?_
   refine GL.seq ?_
   refine GL.region ?_
   refine RL.asg rfl rfl rfl ?_
   refine RL.finG ?_
   refine GL.seq ?_
   refine GL.seq ?_
   refine GL.region ?_
   refine RL.mv rfl rfl rfl ?_
   refine RL.mv rfl rfl rfl ?_
   refine RL.lenS 0 Try.underlying22 rfl rfl rfl rfl SlOf.imm ?_
   refine RL.binI (v := .bool (decide ((i69 : Int) < ((x1).length : Int)))) rfl rfl rfl rfl rfl ?_
   refine RL.finG ?_
   obtain ⟨y90, K91, h92, h93, h94, h95, h96⟩ := bindF_K h72
   refine GL.join (ι := Int) (fun (p : Int) => [(1, v1), (5, v10), (6, v12), (8, .int .i64 p), (11, .int .i64 x0), (12, .int .i64 (i69 : Int))]) (fun (p : Int) => [imm (TR.sl TR.int) v1 x1, own 3 TR.int v10 l9, own 3 TR.int v12 l11]) (fun (p : Int) => K91 (.nx p)) ?_ ?_
   ·skip
    refine GL.cond rfl (fun b97 => ?_) (fun b97 => ?_)
    ·replace h92 := ite_t b97 h92
     refine GL.region ?_
     refine RL.mv rfl rfl rfl ?_
     refine RL.mv rfl rfl rfl ?_
     obtain ⟨y102, e103, h92⟩ := bind_some h92
     refine RL.idxS (sz := 1) 0 Try.underlying22 Try_ln3 rfl rfl rfl rfl rfl SlOf.imm (idx_some e103).1 (idx_some e103).2.1 ?_
     refine RL.ldSx (i := i69) (e' := y102) 0 Ex.ik Try_ln3 rfl rfl rfl rfl SlOf.imm (idx_some e103).2.2 Part.self ?_
     refine RL.mv rfl rfl rfl ?_
     refine RL.lenS 1 Try.underlying22 rfl rfl rfl rfl SlOf.own ?_
     obtain ⟨y104, e105, h92⟩ := bind_some h92
     refine RL.callC (v := .int .i64 y104) (vs := [.int .i64 y102, .int .i64 ((l9).length : Int)]) Try_fit7 rfl rfl rfl rfl (fun U w hU hW hL => pk_Within_c U w hU y102 ((l9).length : Int) _ e105) ?_
     refine RL.asg rfl rfl rfl ?_
     refine RL.finG ?_
     cases h92
     exact fun a w st => mid_intro y104 h93 (St.cut [0, 1, 2] ⟨rfl, rfl, rfl, rfl, rfl, rfl, trivial⟩ (by decide) rfl st)
    replace h92 := ite_f b97 h92
    refine GL.skip ?_
    cases h92
    exact fun a w st => mid_intro (0 : Int) h93 (St.cut [0, 1, 2] ⟨rfl, rfl, rfl, rfl, rfl, rfl, trivial⟩ (by decide) rfl st)
   rintro x89 h106
   have h107 := h94 _ h106
   try dsimp only at h107
   refine GL.weak (env' := [(1, v1), (5, v10), (6, v12), (8, .int .i64 x89), (11, .int .i64 x0), (12, .int .i64 (i69 : Int))]) (L' := [imm (TR.sl TR.int) v1 x1, own 3 TR.int v10 l9, own 3 TR.int v12 l11]) (fun _ _ st => st) ?_
   refine GL.seq ?_
   refine GL.region ?_
   refine RL.mv rfl rfl rfl ?_
   refine RL.mv rfl rfl rfl ?_
   refine RL.mv rfl rfl rfl ?_
   obtain ⟨y114, e115, h107⟩ := bind_some h107
   refine RL.idxS (sz := 1) 1 Try.underlying22 Try_ln3 rfl rfl rfl rfl rfl SlOf.own (idx_some e115).1 (idx_some e115).2.1 ?_
   refine RL.ldSx (i := (x89).toNat) (e' := y114) 1 Ex.ik Try_ln3 rfl rfl rfl rfl SlOf.own (idx_some e115).2.2 Part.self ?_
   refine RL.bS (t := TR.int) (vs := [.int .i64 y114]) ([y114] : (List Int)) Try.underlying22 Try_lo3 rfl rfl rfl rfl ⟨VR.int, trivial⟩ rfl (by decide) ?_
   intro v116
   obtain ⟨y117, e118, h107⟩ := bind_some h107
   replace e118 := chk_some e118
   refine RL.app 2 3 Try.underlying22 Try_lo3 rfl rfl rfl rfl rfl rfl rfl SlOf.own e118 ?_
   intro v119
   refine RL.reL (L' := [imm (TR.sl TR.int) v1 x1, own 3 TR.int v10 l9, own 3 TR.int v119 (l11 ++ ([y114] : (List Int))), own 3 TR.int v116 ([y114] : (List Int))]) rfl ?_
   refine RL.asg rfl rfl rfl ?_
   refine RL.finG ?_
   refine GL.region ?_
   refine RL.mv rfl rfl rfl ?_
   refine RL.mv rfl rfl rfl ?_
   refine RL.mv rfl rfl rfl ?_
   refine RL.binI (v := .int .i64 (wadd x89 (1 : Int))) rfl rfl rfl rfl rfl ?_
   obtain ⟨y123, e124, h107⟩ := bind_some h107
   refine RL.callK (vs := [v10, .int .i64 x89, .int .i64 (wadd x89 (1 : Int))]) (V := fun (o : Value) => o) (LR := fun (o : Value) => [own 3 TR.int o y123]) (Ls := [own 3 TR.int v10 l9]) [1] (by decide) Try_fit47 rfl rfl rfl rfl rfl rfl (fun S f X w hO hB hW hI hL => slices_Delete_int_int_c _ S X f w _ _ hO hB hI x89 (wadd x89 (1 : Int)) _ e124) ?_
   intro v125
   refine RL.reL (L' := [imm (TR.sl TR.int) v1 x1, gone, own 3 TR.int v119 (l11 ++ ([y114] : (List Int))), own 3 TR.int v116 ([y114] : (List Int)), own 3 TR.int v125 y123]) rfl ?_
   refine RL.asg rfl rfl rfl ?_
   refine RL.finG ?_
   refine GL.nilB ?_
   refine GL.region ?_
   refine RL.binI (v := .int .i64 ((i69 + 1 : Nat) : Int)) rfl rfl rfl rfl (binI_succ i69 (by omega)) ?_
   refine RL.mv rfl rfl rfl ?_
   refine RL.fin ?_
   cases h107
   exact fun a w st => lop_intro (i69 + 1, r79, y123, (l11 ++ ([y114] : (List Int))), v125, v119) ⟨by show i69 + 1 + r79 = (x0).toNat; omega, h73⟩ (by simp) (St.cut [0, 4, 2] ⟨rfl, rfl, rfl, rfl, rfl, trivial⟩ (by decide) rfl st)
  have h78 : ¬ i69 < (x0).toNat := by have := of_decide_eq_false b77; omega
  obtain rfl : r70 = 0 := by omega
  replace h74 : some (Fl.nx _) = some y62 := h74
  cases h74
  exact GL.exit (fun a w st => mid_intro (l9, l11, v12) h65 (St.cut [2] ⟨rfl, trivial⟩ (by decide) rfl st))
 rintro ⟨l9, l11, v12⟩ h126
 have h127 := h66 _ h126
 try dsimp only at h127
 refine GL.weak (env' := [(6, v12)]) (L' := [own 3 TR.int v12 l11]) (fun _ _ st => st) ?_
 refine GL.seq ?_
 refine GL.region ?_
 refine RL.mv rfl rfl rfl ?_
 refine RL.asg rfl rfl rfl ?_
 refine RL.finG ?_
 have h127 := Option.some.inj h127
 subst h127
 exact GL.ret (Gx.ret (v := v12) (res1 rfl rfl) (fun a w st => (st.pick [0] (by decide) rfl).toPost v12))

set_option maxHeartbeats 4000000 in
theorem pk_VotesOf_c (S : Hp) (w : World) (hS : S.sub w) (x0 : Int) (v1 : Value) (x1 : (List (List Int))) (k1 : ((TR.sl (TR.sl TR.int))).vrep S v1 x1) (res : (List (List Int))) (hm : pk_VotesOf_m x0 x1 = some res) : Calls Try.prog 19 #[.int .i64 x0, v1] w (Post w S (fun (o : Value) => o) (fun (o : Value) => [own 22 (TR.sl TR.int) o res])) := by
 refine calls_enter 26 Try.func19 Try.ntmps19 rfl S false [(0, .int .i64 x0), (1, v1)] [imm (TR.sl (TR.sl TR.int)) v1 x1] rfl ⟨rfl, ⟨rfl, trivial⟩⟩ hS ⟨k1, trivial⟩ ?_
 unfold pk_VotesOf_m at hm
 refine GL.seq ?_
 refine GL.region ?_
 refine RL.asg rfl rfl rfl ?_
 refine RL.finG ?_
 refine GL.seq ?_
 refine GL.region ?_
 refine RL.asg rfl rfl rfl ?_
 refine RL.finG ?_
 refine GL.seq ?_
 refine GL.seq ?_
 refine GL.region ?_
 refine RL.mv rfl rfl rfl ?_
 refine RL.mv rfl rfl rfl ?_
 refine RL.lenS 0 Try.underlying27 rfl rfl rfl rfl SlOf.imm ?_
 refine RL.minI rfl rfl rfl rfl ?_
 obtain ⟨y6, e7, hm⟩ := bind_some hm
 replace e7 := chk_some e7
 refine RL.slc (t := (TR.sl TR.int)) (i := 0) (j := (if (30 : Int) < ((x1).length : Int) then (30 : Int) else ((x1).length : Int)).toNat) (sz := 1) 0 Try.underlying27 Try_ln22 rfl rfl rfl rfl (Or.inl ⟨rfl, rfl⟩) (Or.inr ⟨_, _, rfl, by rw [Int.toNat_of_nonneg (by omega)]; rfl⟩) rfl (by omega) (by omega) ?_
 intro v8
 refine RL.lenS 1 Try.underlying27 rfl rfl rfl rfl SlOf.imm ?_
 refine RL.mv rfl rfl rfl ?_
 refine RL.finG ?_
 refine GL.weak (fun a w st => st.nilOwn 22 (TR.sl TR.int)) ?_
 refine GL.open_ 1 rfl (fun S h => len_imm S h) (fun n31 => ?_)
 obtain ⟨y32, K33, h34, h35, h36, h37, h38⟩ := bindR_K hm
 refine GL.join (ι := (List (List Int)) × Value) (fun (p : (List (List Int)) × Value) => [(5, p.2)]) (fun (p : (List (List Int)) × Value) => [own 22 (TR.sl TR.int) p.2 p.1]) (fun (p : (List (List Int)) × Value) => K33 (.nx p.1)) ?_ ?_
 ·refine GL.block ?_
  refine GL.loop (ι := Nat × (List (List Int)) × (List (List Int)) × Value) (fun (p : Nat × (List (List Int)) × (List (List Int)) × Value) => [(0, .int .i64 x0), (5, p.2.2.2), (12, v8), (13, .int .i64 ((((List.take ((if (30 : Int) < ((x1).length : Int) then (30 : Int) else ((x1).length : Int)).toNat) x1).drop 0)).length : Int)), (14, .int .i64 (p.1 : Int))]) (fun (p : Nat × (List (List Int)) × (List (List Int)) × Value) => [own 22 (TR.sl TR.int) p.2.2.2 p.2.2.1, imm (TR.sl (TR.sl TR.int)) v8 ((List.take ((if (30 : Int) < ((x1).length : Int) then (30 : Int) else ((x1).length : Int)).toNat) x1).drop 0)]) (fun (p : Nat × (List (List Int)) × (List (List Int)) × Value) => p.1 + p.2.1.length = (((List.take ((if (30 : Int) < ((x1).length : Int) then (30 : Int) else ((x1).length : Int)).toNat) x1).drop 0)).length ∧ List.drop p.1 ((List.take ((if (30 : Int) < ((x1).length : Int) then (30 : Int) else ((x1).length : Int)).toNat) x1).drop 0) = p.2.1 ∧ rangeL (pk_VotesOf_b1 x0) p.2.1 p.1 p.2.2.1 = some y32) (fun (p : Nat × (List (List Int)) × (List (List Int)) × Value) => p.2.1.length) (0, ((List.take ((if (30 : Int) < ((x1).length : Int) then (30 : Int) else ((x1).length : Int)).toNat) x1).drop 0), [], Value.slice none 0 0) ⟨by simp, by simp, h34⟩ (fun a w st => St.cut [2, 1] ⟨rfl, rfl, rfl, rfl, rfl, trivial⟩ (by decide) rfl st) ?_
  rintro ⟨i39, r40, l9, v10⟩ ⟨h45, h46, h44⟩
  try dsimp only at h45 h46 h44
  refine GL.weak (env' := [(0, .int .i64 x0), (5, v10), (12, v8), (13, .int .i64 ((((List.take ((if (30 : Int) < ((x1).length : Int) then (30 : Int) else ((x1).length : Int)).toNat) x1).drop 0)).length : Int)), (14, .int .i64 (i39 : Int))]) (L' := [own 22 (TR.sl TR.int) v10 l9, imm (TR.sl (TR.sl TR.int)) v8 ((List.take ((if (30 : Int) < ((x1).length : Int) then (30 : Int) else ((x1).length : Int)).toNat) x1).drop 0)]) (fun _ _ st => st) ?_
  refine GL.seq ?_
  refine GL.region ?_
  refine RL.binI (v := .bool (decide ((i39 : Int) < ((((List.take ((if (30 : Int) < ((x1).length : Int) then (30 : Int) else ((x1).length : Int)).toNat) x1).drop 0)).length : Int)))) rfl rfl rfl rfl rfl ?_
  refine RL.finG ?_
  refine GL.seq ?_
  refine GL.cond rfl (fun b47 => ?_) (fun b47 => ?_)
  ·have h48 : i39 < (((List.take ((if (30 : Int) < ((x1).length : Int) then (30 : Int) else ((x1).length : Int)).toNat) x1).drop 0)).length := by have := of_decide_eq_true b47; omega
   obtain ⟨y49, r51, hr, e50, h52⟩ := drop_cons h46 rfl h48
   subst hr
   obtain ⟨z41, h42, h43⟩ := rangeL_some h44
   unfold pk_VotesOf_b1 at h42
   try dsimp only at h42
   refine GL.skip ?_
   refine GL.seq ?_
   refine GL.block ?_
   refine GL.seq ?_
   refine GL.region ?_
   refine RL.idxS (sz := 1) 1 Try.underlying27 Try_ln22 rfl rfl rfl rfl rfl SlOf.imm (by omega) (by omega) ?_
   refine RL.ldS (i := i39) (r := (TR.sl TR.int)) (e' := y49) 1 Try_ln22 rfl rfl rfl rfl SlOf.imm e50 Part.self ?_
   intro v54
   refine RL.asg rfl rfl rfl ?_
   refine RL.finG ?_
   refine GL.region ?_
   refine RL.mv rfl rfl rfl ?_
   refine RL.mv rfl rfl rfl ?_
   refine RL.mv rfl rfl rfl ?_
   obtain ⟨y62, e63, h42⟩ := bind_some h42
   refine RL.call (vs := [.int .i64 x0, v54]) Try_fit18 rfl rfl rfl rfl rfl (fun S f w hS hW hi => pk_OrderOf_c S w hS x0 _ _ (hi 2 _ rfl) _ e63) ?_
   intro v64
   refine RL.reL (L' := [own 22 (TR.sl TR.int) v10 l9, imm (TR.sl (TR.sl TR.int)) v8 ((List.take ((if (30 : Int) < ((x1).length : Int) then (30 : Int) else ((x1).length : Int)).toNat) x1).drop 0), imm (TR.sl TR.int) v54 y49, own 3 TR.int v64 y62]) rfl ?_
   refine RL.weak (fun a w st => st.freeze 3 rfl) ?_
   refine RL.bS (t := (TR.sl TR.int)) (vs := [v64]) ([y62] : (List (List Int))) Try.underlying27 Try_lo22 rfl rfl rfl rfl ⟨(VR.item 3 rfl), trivial⟩ rfl (by decide) ?_
   intro v65
   refine RL.reL (L' := [own 22 (TR.sl TR.int) v10 l9, imm (TR.sl (TR.sl TR.int)) v8 ((List.take ((if (30 : Int) < ((x1).length : Int) then (30 : Int) else ((x1).length : Int)).toNat) x1).drop 0), imm (TR.sl TR.int) v54 y49, imm (TR.sl TR.int) v64 y62, own 22 (TR.sl TR.int) v65 ([y62] : (List (List Int)))]) rfl ?_
   obtain ⟨y66, e67, h42⟩ := bind_some h42
   replace e67 := chk_some e67
   refine RL.app 0 4 Try.underlying27 Try_lo22 rfl rfl rfl rfl rfl rfl rfl SlOf.own e67 ?_
   intro v68
   refine RL.asg rfl rfl rfl ?_
   refine RL.finG ?_
   refine GL.nilB ?_
   refine GL.region ?_
   refine RL.binI (v := .int .i64 ((i39 + 1 : Nat) : Int)) rfl rfl rfl rfl (binI_succ i39 (by omega)) ?_
   refine RL.mv rfl rfl rfl ?_
   refine RL.fin ?_
   cases h42
   exact fun a w st => lop_intro (i39 + 1, r51, (l9 ++ ([y62] : (List (List Int)))), v68) ⟨by show i39 + 1 + r51.length = (((List.take ((if (30 : Int) < ((x1).length : Int) then (30 : Int) else ((x1).length : Int)).toNat) x1).drop 0)).length; simp only [List.length_cons] at h45; omega, h52, h43⟩ (by simp) (St.cut [0, 1] ⟨rfl, rfl, rfl, rfl, rfl, trivial⟩ (by decide) rfl st)
  have h48 : ¬ i39 < (((List.take ((if (30 : Int) < ((x1).length : Int) then (30 : Int) else ((x1).length : Int)).toNat) x1).drop 0)).length := by have := of_decide_eq_false b47; omega
  obtain rfl : r40 = [] := by rw [← h46]; exact List.drop_of_length_le (by omega)
  replace h44 : some (Fl.nx _) = some y32 := h44
  cases h44
  exact GL.exit (fun a w st => mid_intro (l9, v10) h35 (St.cut [0] ⟨rfl, trivial⟩ (by decide) rfl st))
 rintro ⟨l9, v10⟩ h69
 have h70 := h36 _ h69
 try dsimp only at h70
 refine GL.weak (env' := [(5, v10)]) (L' := [own 22 (TR.sl TR.int) v10 l9]) (fun _ _ st => st) ?_
 refine GL.seq ?_
 refine GL.region ?_
 refine RL.mv rfl rfl rfl ?_
 refine RL.asg rfl rfl rfl ?_
 refine RL.finG ?_
 have h70 := Option.some.inj h70
 subst h70
 exact GL.ret (Gx.ret (v := v10) (res1 rfl rfl) (fun a w st => (st.pick [0] (by decide) rfl).toPost v10))

set_option maxHeartbeats 4000000 in
theorem order_Check_c (S : Hp) (w : World) (hS : S.sub w) (x0 : Int) (v1 : Value) (x1 : (List Int)) (k1 : ((TR.sl TR.int)).vrep S v1 x1) (res : Int) (hm : order_Check_m x0 x1 = some res) : Calls Try.prog 48 #[.int .i64 x0, v1] w (PostV w (.int .i64 res)) := by
 refine calls_enter 39 Try.func48 Try.ntmps48 rfl S false [(0, .int .i64 x0), (1, v1)] [imm (TR.sl TR.int) v1 x1] rfl ⟨rfl, ⟨rfl, trivial⟩⟩ hS ⟨k1, trivial⟩ ?_
 unfold order_Check_m at hm
 refine GL.seq ?_
 refine GL.region ?_
 refine RL.asg rfl rfl rfl ?_
 refine RL.finG ?_
 refine GL.seq ?_
 refine GL.seq ?_
 obtain ⟨y6, K7, h8, h9, h10, h11, h12⟩ := bindR_K hm
 refine GL.join (ι := Bool) (fun (p : Bool) => [(0, .int .i64 x0), (1, v1), (13, .bool p)]) (fun (p : Bool) => [imm (TR.sl TR.int) v1 x1]) (fun (p : Bool) => K7 (.nx p)) ?_ ?_
 ·skip
  refine GL.region ?_
  refine RL.mv rfl rfl rfl ?_
  refine RL.binI (v := .bool (decide (x0 < (1 : Int)))) rfl rfl rfl rfl rfl ?_
  refine RL.mv rfl rfl rfl ?_
  refine RL.split (t := 10) rfl (fun b13 => ?_) (fun b13 => ?_)
  ·replace h8 := ite_t b13 h8
   refine RL.skip rfl rfl ?_
   refine RL.skip rfl rfl ?_
   refine RL.pickT rfl rfl rfl rfl ?_
   refine RL.fin ?_
   cases h8
   exact fun a w st => mid_intro true h9 (St.cut [0] ⟨rfl, rfl, rfl, trivial⟩ (by decide) rfl st)
  replace h8 := ite_f b13 h8
  refine RL.mv rfl rfl rfl ?_
  refine RL.binI (v := .bool (decide (x0 > (6 : Int)))) rfl rfl rfl rfl rfl ?_
  refine RL.pickF rfl rfl rfl rfl ?_
  refine RL.fin ?_
  cases h8
  exact fun a w st => mid_intro (decide (x0 > (6 : Int))) h9 (St.cut [0] ⟨rfl, rfl, rfl, trivial⟩ (by decide) rfl st)
 rintro x5 h14
 have h15 := h10 _ h14
 try dsimp only at h15
 refine GL.weak (env' := [(0, .int .i64 x0), (1, v1), (13, .bool x5)]) (L' := [imm (TR.sl TR.int) v1 x1]) (fun _ _ st => st) ?_
 refine GL.cond rfl (fun b16 => ?_) (fun b16 => ?_)
 ·replace h15 := ite_t b16 h15
  refine GL.seq ?_
  refine GL.region ?_
  refine RL.asg rfl rfl rfl ?_
  refine RL.finG ?_
  have h15 := Option.some.inj h15
  subst h15
  exact GL.ret (Gx.ret (v := .int .i64 (1 : Int)) (res1 rfl rfl) (fun a w st => st.toPostV))
 replace h15 := ite_f b16 h15
 refine GL.skip ?_
 refine GL.seq ?_
 refine GL.region ?_
 refine RL.alloc (t := (TR.arr 6 TR.bool)) (z := (List.replicate 6 false)) Try_lo97 (fun S => ⟨rfl, ⟨_, _, rfl, rfl, ⟨_, _, rfl, rfl, ⟨_, _, rfl, rfl, ⟨_, _, rfl, rfl, ⟨_, _, rfl, rfl, ⟨_, _, rfl, rfl, rfl⟩⟩⟩⟩⟩⟩⟩) rfl rfl rfl ?_
 intro v18
 refine RL.finG ?_
 refine GL.seq ?_
 refine GL.seq ?_
 refine GL.region ?_
 refine RL.mv rfl rfl rfl ?_
 refine RL.lenS 0 Try.underlying22 rfl rfl rfl rfl SlOf.imm ?_
 refine RL.mv rfl rfl rfl ?_
 refine RL.finG ?_
 refine GL.open_ 0 rfl (fun S h => len_imm S h) (fun n82 => ?_)
 obtain ⟨y83, K84, h85, h86, h87, h88, h89⟩ := bindR_K h15
 refine GL.join (ι := (List Bool)) (fun (p : (List Bool)) => [(0, .int .i64 x0), (1, v1)]) (fun (p : (List Bool)) => [imm (TR.sl TR.int) v1 x1]) (fun (p : (List Bool)) => K84 (.nx p)) ?_ ?_
 ·refine GL.block ?_
  refine GL.loop (ι := Nat × (List Int) × (List Bool)) (fun (p : Nat × (List Int) × (List Bool)) => [(0, .int .i64 x0), (1, v1), (5, v18), (14, v1), (15, .int .i64 ((x1).length : Int)), (16, .int .i64 (p.1 : Int))]) (fun (p : Nat × (List Int) × (List Bool)) => [imm (TR.sl TR.int) v1 x1, obox 97 (TR.arr 6 TR.bool) v18 p.2.2]) (fun (p : Nat × (List Int) × (List Bool)) => p.1 + p.2.1.length = (x1).length ∧ List.drop p.1 x1 = p.2.1 ∧ rangeL (order_Check_b1 x0) p.2.1 p.1 p.2.2 = some y83) (fun (p : Nat × (List Int) × (List Bool)) => p.2.1.length) (0, x1, (List.replicate 6 false)) ⟨by simp, by simp, h85⟩ (fun a w st => St.cut [0, 1] ⟨rfl, rfl, rfl, rfl, rfl, rfl, trivial⟩ (by decide) rfl st) ?_
  rintro ⟨i90, r91, l50⟩ ⟨h96, h97, h95⟩
  try dsimp only at h96 h97 h95
  refine GL.weak (env' := [(0, .int .i64 x0), (1, v1), (5, v18), (14, v1), (15, .int .i64 ((x1).length : Int)), (16, .int .i64 (i90 : Int))]) (L' := [imm (TR.sl TR.int) v1 x1, obox 97 (TR.arr 6 TR.bool) v18 l50]) (fun _ _ st => st) ?_
  refine GL.seq ?_
  refine GL.region ?_
  refine RL.binI (v := .bool (decide ((i90 : Int) < ((x1).length : Int)))) rfl rfl rfl rfl rfl ?_
  refine RL.finG ?_
  refine GL.seq ?_
  refine GL.cond rfl (fun b98 => ?_) (fun b98 => ?_)
  ·have h99 : i90 < (x1).length := by have := of_decide_eq_true b98; omega
   obtain ⟨y100, r102, hr, e101, h103⟩ := drop_cons h97 rfl h99
   subst hr
   obtain ⟨z92, h93, h94⟩ := rangeL_some h95
   unfold order_Check_b1 at h93
   try dsimp only at h93
   refine GL.skip ?_
   refine GL.seq ?_
   refine GL.block ?_
   refine GL.seq ?_
   refine GL.region ?_
   refine RL.idxS (sz := 1) 0 Try.underlying22 Try_ln3 rfl rfl rfl rfl rfl SlOf.imm (by omega) (by omega) ?_
   refine RL.ldSx (i := i90) (e' := y100) 0 Ex.ik Try_ln3 rfl rfl rfl rfl SlOf.imm e101 Part.self ?_
   refine RL.asg rfl rfl rfl ?_
   refine RL.finG ?_
   refine GL.seq ?_
   refine GL.seq ?_
   obtain ⟨y113, K114, h115, h116, h117, h118, h119⟩ := bindF_K h93
   refine GL.join (ι := Bool) (fun (p : Bool) => [(0, .int .i64 x0), (1, v1), (5, v18), (7, .int .i64 y100), (14, v1), (15, .int .i64 ((x1).length : Int)), (16, .int .i64 (i90 : Int)), (31, .bool p)]) (fun (p : Bool) => [imm (TR.sl TR.int) v1 x1, obox 97 (TR.arr 6 TR.bool) v18 l50]) (fun (p : Bool) => K114 (.nx p)) ?_ ?_
   ·skip
    refine GL.region ?_
    refine RL.mv rfl rfl rfl ?_
    refine RL.binI (v := .bool (decide (y100 < (0 : Int)))) rfl rfl rfl rfl rfl ?_
    refine RL.mv rfl rfl rfl ?_
    refine RL.split (t := 22) rfl (fun b120 => ?_) (fun b120 => ?_)
    ·replace h115 := ite_t b120 h115
     refine RL.skip rfl rfl ?_
     refine RL.skip rfl rfl ?_
     refine RL.skip rfl rfl ?_
     refine RL.pickT rfl rfl rfl rfl ?_
     refine RL.mv rfl rfl rfl ?_
     refine RL.skip rfl rfl ?_
     refine RL.skip rfl rfl ?_
     refine RL.skip rfl rfl ?_
     refine RL.pickT rfl rfl rfl rfl ?_
     refine RL.fin ?_
     cases h115
     exact fun a w st => mid_intro true h116 (St.cut [0, 1] ⟨rfl, rfl, rfl, rfl, rfl, rfl, rfl, rfl, trivial⟩ (by decide) rfl st)
    replace h115 := ite_f b120 h115
    refine RL.mv rfl rfl rfl ?_
    refine RL.mv rfl rfl rfl ?_
    refine RL.binI (v := .bool (decide (y100 ≥ x0))) rfl rfl rfl rfl rfl ?_
    refine RL.pickF rfl rfl rfl rfl ?_
    refine RL.mv rfl rfl rfl ?_
    refine RL.split (t := 27) rfl (fun b121 => ?_) (fun b121 => ?_)
    ·replace h115 := ite_t b121 h115
     refine RL.skip rfl rfl ?_
     refine RL.skip rfl rfl ?_
     refine RL.skip rfl rfl ?_
     refine RL.pickT rfl rfl rfl rfl ?_
     refine RL.fin ?_
     cases h115
     exact fun a w st => mid_intro true h116 (St.cut [0, 1] ⟨rfl, rfl, rfl, rfl, rfl, rfl, rfl, rfl, trivial⟩ (by decide) rfl st)
    replace h115 := ite_f b121 h115
    refine RL.mv rfl rfl rfl ?_
    obtain ⟨y122, e123, h115⟩ := bind_some h115
    refine RL.idxA0 (sz := 1) (t' := TR.bool) 1 Try.underlying97 Try_ln4 rfl rfl rfl PtOf.obox rfl rfl Part.self (idx_some e123).1 (idx_some e123).2.1 ?_
    refine RL.ldPx (off := ((y100).toNat * 1)) (e' := y122) 1 Ex.bool Try_ln4 rfl rfl (Or.inl rfl) rfl PtOf.obox (Part.arr (idx_some e123).2.2 Part.self) ?_
    refine RL.pickF rfl rfl rfl rfl ?_
    refine RL.fin ?_
    cases h115
    exact fun a w st => mid_intro y122 h116 (St.cut [0, 1] ⟨rfl, rfl, rfl, rfl, rfl, rfl, rfl, rfl, trivial⟩ (by decide) rfl st)
   rintro x112 h124
   have h125 := h117 _ h124
   try dsimp only at h125
   refine GL.weak (env' := [(0, .int .i64 x0), (1, v1), (5, v18), (7, .int .i64 y100), (14, v1), (15, .int .i64 ((x1).length : Int)), (16, .int .i64 (i90 : Int)), (31, .bool x112)]) (L' := [imm (TR.sl TR.int) v1 x1, obox 97 (TR.arr 6 TR.bool) v18 l50]) (fun _ _ st => st) ?_
   refine GL.cond rfl (fun b126 => ?_) (fun b126 => ?_)
   ·replace h125 := ite_t b126 h125
    refine GL.seq ?_
    refine GL.region ?_
    refine RL.asg rfl rfl rfl ?_
    refine RL.finG ?_
    cases h125
    replace h94 : some (Fl.rt _) = some y83 := h94
    cases h94
    have hh := h88 _ h86
    subst hh
    exact GL.ret (Gx.ret (v := .int .i64 (3 : Int)) (res1 rfl rfl) (fun a w st => st.toPostV))
   replace h125 := ite_f b126 h125
   refine GL.skip ?_
   refine GL.region ?_
   refine RL.mv rfl rfl rfl ?_
   obtain ⟨y129, e130, h125⟩ := bind_some h125
   refine RL.idxA0 (sz := 1) (t' := TR.bool) 1 Try.underlying97 Try_ln4 rfl rfl rfl PtOf.obox rfl rfl Part.self (idx_some e130).1 (idx_some e130).2.1 ?_
   refine RL.stP (off := ((y100).toNat * 1)) (e' := true) (d1 := (List.set l50 ((y100).toNat) true)) (r := TR.bool) 1 Try_ln4 rfl rfl (Or.inl rfl) rfl VR.bool rfl (Upd.arr (idx_some e130).2.2 Upd.self) ?_
   refine RL.finG ?_
   refine GL.nilB ?_
   refine GL.region ?_
   refine RL.binI (v := .int .i64 ((i90 + 1 : Nat) : Int)) rfl rfl rfl rfl (binI_succ i90 (by omega)) ?_
   refine RL.mv rfl rfl rfl ?_
   refine RL.fin ?_
   cases h125
   exact fun a w st => lop_intro (i90 + 1, r102, (List.set l50 ((y100).toNat) true)) ⟨by show i90 + 1 + r102.length = (x1).length; simp only [List.length_cons] at h96; omega, h103, h94⟩ (by simp) (St.cut [0, 1] ⟨rfl, rfl, rfl, rfl, rfl, rfl, trivial⟩ (by decide) rfl st)
  have h99 : ¬ i90 < (x1).length := by have := of_decide_eq_false b98; omega
  obtain rfl : r91 = [] := by rw [← h97]; exact List.drop_of_length_le (by omega)
  replace h95 : some (Fl.nx _) = some y83 := h95
  cases h95
  exact GL.exit (fun a w st => mid_intro l50 h86 (St.cut [0] ⟨rfl, rfl, trivial⟩ (by decide) rfl st))
 rintro l50 h131
 have h132 := h87 _ h131
 try dsimp only at h132
 refine GL.weak (env' := [(0, .int .i64 x0), (1, v1)]) (L' := [imm (TR.sl TR.int) v1 x1]) (fun _ _ st => st) ?_
 refine GL.seq ?_
 refine GL.seq ?_
 refine GL.region ?_
 refine RL.mv rfl rfl rfl ?_
 refine RL.lenS 0 Try.underlying22 rfl rfl rfl rfl SlOf.imm ?_
 refine RL.mv rfl rfl rfl ?_
 refine RL.binI (v := .bool (((x1).length : Int) != x0)) rfl rfl rfl rfl rfl ?_
 refine RL.finG ?_
 refine GL.cond rfl (fun b133 => ?_) (fun b133 => ?_)
 ·replace h132 := ite_t b133 h132
  refine GL.seq ?_
  refine GL.region ?_
  refine RL.asg rfl rfl rfl ?_
  refine RL.finG ?_
  have h132 := Option.some.inj h132
  subst h132
  exact GL.ret (Gx.ret (v := .int .i64 (3 : Int)) (res1 rfl rfl) (fun a w st => st.toPostV))
 replace h132 := ite_f b133 h132
 refine GL.skip ?_
 refine GL.seq ?_
 refine GL.region ?_
 refine RL.asg rfl rfl rfl ?_
 refine RL.finG ?_
 have h132 := Option.some.inj h132
 subst h132
 exact GL.ret (Gx.ret (v := .int .i64 (0 : Int)) (res1 rfl rfl) (fun a w st => st.toPostV))

set_option maxHeartbeats 4000000 in
theorem peak_Along_c (S : Hp) (w : World) (hS : S.sub w) (v0 : Value) (x0 : (List Int)) (k0 : ((TR.sl TR.int)).vrep S v0 x0) (v1 : Value) (x1 : (List Int)) (k1 : ((TR.sl TR.int)).vrep S v1 x1) (res : Bool × Int) (hm : peak_Along_m x0 x1 = some res) : Calls Try.prog 20 #[v0, v1] w (PostV w (.tuple #[.bool res.1, .int .i64 res.2])) := by
 refine calls_enter 55 Try.func20 Try.ntmps20 rfl S false [(0, v0), (1, v1)] [imm (TR.sl TR.int) v0 x0, imm (TR.sl TR.int) v1 x1] rfl ⟨rfl, ⟨rfl, trivial⟩⟩ hS ⟨k0, ⟨k1, trivial⟩⟩ ?_
 unfold peak_Along_m at hm
 refine GL.seq ?_
 refine GL.region ?_
 refine RL.asg rfl rfl rfl ?_
 refine RL.asg rfl rfl rfl ?_
 refine RL.finG ?_
 refine GL.seq ?_
 refine GL.seq ?_
 refine GL.region ?_
 refine RL.mv rfl rfl rfl ?_
 refine RL.lenS 0 Try.underlying22 rfl rfl rfl rfl SlOf.imm ?_
 refine RL.mv rfl rfl rfl ?_
 obtain ⟨y5, e6, hm⟩ := bind_some hm
 refine RL.callV (v := .int .i64 y5) (vs := [.int .i64 ((x0).length : Int), v0]) Try_fit48 rfl (Or.inl rfl) rfl rfl rfl rfl (fun U w hU hW hL => order_Check_c U w hU ((x0).length : Int) _ _ (hL 0 _ _ rfl Seen.imm) _ e6) ?_
 refine RL.asg rfl rfl rfl ?_
 refine RL.finG ?_
 refine GL.seq ?_
 refine GL.region ?_
 refine RL.mv rfl rfl rfl ?_
 refine RL.binI (v := .bool (y5 != (0 : Int))) rfl rfl rfl rfl rfl ?_
 refine RL.finG ?_
 refine GL.cond rfl (fun b7 => ?_) (fun b7 => ?_)
 ·replace hm := ite_t b7 hm
  refine GL.seq ?_
  refine GL.region ?_
  refine RL.mv rfl rfl rfl ?_
  refine RL.asg rfl rfl rfl ?_
  refine RL.asg rfl rfl rfl ?_
  refine RL.finG ?_
  have hm := Option.some.inj hm
  subst hm
  exact GL.ret (Gx.ret (v := .tuple #[.bool false, .int .i64 y5]) (res2 rfl rfl rfl) (fun a w st => st.toPostV))
 replace hm := ite_f b7 hm
 refine GL.skip ?_
 refine GL.seq ?_
 refine GL.seq ?_
 refine GL.region ?_
 refine RL.mv rfl rfl rfl ?_
 refine RL.lenS 0 Try.underlying22 rfl rfl rfl rfl SlOf.imm ?_
 refine RL.mv rfl rfl rfl ?_
 obtain ⟨y10, e11, hm⟩ := bind_some hm
 refine RL.callV (v := .int .i64 y10) (vs := [.int .i64 ((x0).length : Int), v1]) Try_fit48 rfl (Or.inl rfl) rfl rfl rfl rfl (fun U w hU hW hL => order_Check_c U w hU ((x0).length : Int) _ _ (hL 1 _ _ rfl Seen.imm) _ e11) ?_
 refine RL.asg rfl rfl rfl ?_
 refine RL.finG ?_
 refine GL.seq ?_
 refine GL.region ?_
 refine RL.mv rfl rfl rfl ?_
 refine RL.binI (v := .bool (y10 != (0 : Int))) rfl rfl rfl rfl rfl ?_
 refine RL.finG ?_
 refine GL.cond rfl (fun b12 => ?_) (fun b12 => ?_)
 ·replace hm := ite_t b12 hm
  refine GL.seq ?_
  refine GL.region ?_
  refine RL.mv rfl rfl rfl ?_
  refine RL.asg rfl rfl rfl ?_
  refine RL.asg rfl rfl rfl ?_
  refine RL.finG ?_
  have hm := Option.some.inj hm
  subst hm
  exact GL.ret (Gx.ret (v := .tuple #[.bool false, .int .i64 y10]) (res2 rfl rfl rfl) (fun a w st => st.toPostV))
 replace hm := ite_f b12 hm
 refine GL.skip ?_
 refine GL.seq ?_
 refine GL.region ?_
 refine RL.mv rfl rfl rfl ?_
 refine RL.lenS 0 Try.underlying22 rfl rfl rfl rfl SlOf.imm ?_
 refine RL.binI (v := .int .i64 (wsub ((x0).length : Int) (1 : Int))) rfl rfl rfl rfl rfl ?_
 refine RL.asg rfl rfl rfl ?_
 refine RL.asg rfl rfl rfl ?_
 refine RL.finG ?_
 refine GL.seq ?_
 refine GL.seq ?_
 refine GL.region ?_
 refine RL.mv rfl rfl rfl ?_
 refine RL.lenS 1 Try.underlying22 rfl rfl rfl rfl SlOf.imm ?_
 refine RL.binI (v := .int .i64 (wsub ((x1).length : Int) (1 : Int))) rfl rfl rfl rfl rfl ?_
 refine RL.asg rfl rfl rfl ?_
 refine RL.finG ?_
 obtain ⟨y31, K32, h33, h34, h35, h36, h37⟩ := bindR_K hm
 refine GL.join (ι := Int × Int × Int) (fun (p : Int × Int × Int) => []) (fun (p : Int × Int × Int) => []) (fun (p : Int × Int × Int) => K32 (.nx (p.1, p.2.1, p.2.2))) ?_ ?_
 ·refine GL.block ?_
  refine GL.loop (ι := Nat × Int × Int × Int) (fun (p : Nat × Int × Int × Int) => [(0, v0), (1, v1), (8, .int .i64 p.2.1), (9, .int .i64 p.2.2.1), (10, .int .i64 p.2.2.2)]) (fun (p : Nat × Int × Int × Int) => [imm (TR.sl TR.int) v0 x0, imm (TR.sl TR.int) v1 x1]) (fun (p : Nat × Int × Int × Int) => loopM (peak_Along_b1 x1 x0) p.1 (p.2.1, p.2.2.1, p.2.2.2) = some y31) (fun (p : Nat × Int × Int × Int) => p.1) (1048576, (0 : Int), wsub ((x0).length : Int) (1 : Int), wsub ((x1).length : Int) (1 : Int)) h33 (fun a w st => St.cut [0, 1] ⟨rfl, rfl, rfl, rfl, rfl, trivial⟩ (by decide) rfl st) ?_
  rintro ⟨r39, x13, x14, x15⟩ h43
  try dsimp only at h43
  refine GL.weak (env' := [(0, v0), (1, v1), (8, .int .i64 x13), (9, .int .i64 x14), (10, .int .i64 x15)]) (L' := [imm (TR.sl TR.int) v0 x0, imm (TR.sl TR.int) v1 x1]) (fun _ _ st => st) ?_
  obtain ⟨r46, z40, hr, h41, h42⟩ := loopM_some h43
  subst hr
  unfold peak_Along_b1 at h41
  try dsimp only at h41
  refine GL.seq ?_
  refine GL.seq ?_
  refine GL.region ?_
  refine RL.mv rfl rfl rfl ?_
  refine RL.binI (v := .bool (decide (x15 > (0 : Int)))) rfl rfl rfl rfl rfl ?_
  refine RL.finG ?_
  refine GL.cond rfl (fun b47 => ?_) (fun b47 => ?_)
  ·replace h41 := ite_t b47 h41
   refine GL.skip ?_
   refine GL.seq ?_
   refine GL.block ?_
   refine GL.seq ?_
   refine GL.region ?_
   refine RL.mv rfl rfl rfl ?_
   refine RL.mv rfl rfl rfl ?_
   obtain ⟨y50, e51, h41⟩ := bind_some h41
   refine RL.idxS (sz := 1) 1 Try.underlying22 Try_ln3 rfl rfl rfl rfl rfl SlOf.imm (idx_some e51).1 (idx_some e51).2.1 ?_
   refine RL.ldSx (i := (x15).toNat) (e' := y50) 1 Ex.ik Try_ln3 rfl rfl rfl rfl SlOf.imm (idx_some e51).2.2 Part.self ?_
   refine RL.finG ?_
   refine GL.block ?_
   refine GL.seq ?_
   refine GL.region ?_
   refine RL.mv rfl rfl rfl ?_
   refine RL.mv rfl rfl rfl ?_
   obtain ⟨y54, e55, h41⟩ := bind_some h41
   refine RL.idxS (sz := 1) 0 Try.underlying22 Try_ln3 rfl rfl rfl rfl rfl SlOf.imm (idx_some e55).1 (idx_some e55).2.1 ?_
   refine RL.ldSx (i := (x13).toNat) (e' := y54) 0 Ex.ik Try_ln3 rfl rfl rfl rfl SlOf.imm (idx_some e55).2.2 Part.self ?_
   refine RL.binI (v := .bool (y50 == y54)) rfl rfl rfl rfl rfl ?_
   refine RL.asg rfl rfl rfl ?_
   refine RL.finG ?_
   refine GL.cond rfl (fun b56 => ?_) (fun b56 => ?_)
   ·replace h41 := ite_t b56 h41
    refine GL.region ?_
    refine RL.mv rfl rfl rfl ?_
    refine RL.binI (v := .int .i64 (wadd x13 (1 : Int))) rfl rfl rfl rfl rfl ?_
    refine RL.asg rfl rfl rfl ?_
    refine RL.finG ?_
    refine GL.nilB ?_
    refine GL.nilB ?_
    refine GL.region ?_
    refine RL.mv rfl rfl rfl ?_
    refine RL.binI (v := .int .i64 (wsub x15 (1 : Int))) rfl rfl rfl rfl rfl ?_
    refine RL.asg rfl rfl rfl ?_
    refine RL.finG ?_
    cases h41
    exact fun a w st => lop_intro (r46, wadd x13 (1 : Int), x14, wsub x15 (1 : Int)) (by exact h42) (by simp) (St.cut [0, 1] ⟨rfl, rfl, rfl, rfl, rfl, trivial⟩ (by decide) rfl st)
   replace h41 := ite_f b56 h41
   refine GL.seq ?_
   refine GL.region ?_
   refine RL.mv rfl rfl rfl ?_
   refine RL.mv rfl rfl rfl ?_
   obtain ⟨y59, e60, h41⟩ := bind_some h41
   refine RL.idxS (sz := 1) 0 Try.underlying22 Try_ln3 rfl rfl rfl rfl rfl SlOf.imm (idx_some e60).1 (idx_some e60).2.1 ?_
   refine RL.ldSx (i := (x14).toNat) (e' := y59) 0 Ex.ik Try_ln3 rfl rfl rfl rfl SlOf.imm (idx_some e60).2.2 Part.self ?_
   refine RL.binI (v := .bool (y50 == y59)) rfl rfl rfl rfl rfl ?_
   refine RL.asg rfl rfl rfl ?_
   refine RL.finG ?_
   refine GL.cond rfl (fun b61 => ?_) (fun b61 => ?_)
   ·replace h41 := ite_t b61 h41
    refine GL.region ?_
    refine RL.mv rfl rfl rfl ?_
    refine RL.binI (v := .int .i64 (wsub x14 (1 : Int))) rfl rfl rfl rfl rfl ?_
    refine RL.asg rfl rfl rfl ?_
    refine RL.finG ?_
    refine GL.nilB ?_
    refine GL.nilB ?_
    refine GL.region ?_
    refine RL.mv rfl rfl rfl ?_
    refine RL.binI (v := .int .i64 (wsub x15 (1 : Int))) rfl rfl rfl rfl rfl ?_
    refine RL.asg rfl rfl rfl ?_
    refine RL.finG ?_
    cases h41
    exact fun a w st => lop_intro (r46, x13, wsub x14 (1 : Int), wsub x15 (1 : Int)) (by exact h42) (by simp) (St.cut [0, 1] ⟨rfl, rfl, rfl, rfl, rfl, trivial⟩ (by decide) rfl st)
   replace h41 := ite_f b61 h41
   refine GL.seq ?_
   refine GL.region ?_
   refine RL.asg rfl rfl rfl ?_
   refine RL.asg rfl rfl rfl ?_
   refine RL.finG ?_
   cases h41
   replace h42 : some (Fl.rt _) = some y31 := h42
   cases h42
   have hh := h36 _ h34
   subst hh
   exact GL.ret (Gx.ret (v := .tuple #[.bool false, .int .i64 (0 : Int)]) (res2 rfl rfl rfl) (fun a w st => st.toPostV))
  replace h41 := ite_f b47 h41
  cases h41
  replace h42 : some (Fl.nx _) = some y31 := h42
  cases h42
  exact GL.exit (fun a w st => mid_intro (x13, x14, x15) h34 (St.cut [] trivial (by decide) rfl st))
 rintro ⟨x13, x14, x15⟩ h62
 have h63 := h35 _ h62
 try dsimp only at h63
 refine GL.weak (env' := []) (L' := []) (fun _ _ st => st) ?_
 refine GL.seq ?_
 refine GL.region ?_
 refine RL.asg rfl rfl rfl ?_
 refine RL.asg rfl rfl rfl ?_
 refine RL.finG ?_
 have h63 := Option.some.inj h63
 subst h63
 exact GL.ret (Gx.ret (v := .tuple #[.bool true, .int .i64 (0 : Int)]) (res2 rfl rfl rfl) (fun a w st => st.toPostV))

set_option maxHeartbeats 4000000 in
theorem tally_Check_c (S : Hp) (w : World) (hS : S.sub w) (x0 : Int) (v1 : Value) (x1 : (List (List Int))) (k1 : ((TR.sl (TR.sl TR.int))).vrep S v1 x1) (res : Int) (hm : tally_Check_m x0 x1 = some res) : Calls Try.prog 51 #[.int .i64 x0, v1] w (PostV w (.int .i64 res)) := by
 refine calls_enter 27 Try.func51 Try.ntmps51 rfl S false [(0, .int .i64 x0), (1, v1)] [imm (TR.sl (TR.sl TR.int)) v1 x1] rfl ⟨rfl, ⟨rfl, trivial⟩⟩ hS ⟨k1, trivial⟩ ?_
 unfold tally_Check_m at hm
 refine GL.seq ?_
 refine GL.region ?_
 refine RL.asg rfl rfl rfl ?_
 refine RL.finG ?_
 refine GL.seq ?_
 refine GL.seq ?_
 obtain ⟨y6, K7, h8, h9, h10, h11, h12⟩ := bindR_K hm
 refine GL.join (ι := Bool) (fun (p : Bool) => [(0, .int .i64 x0), (1, v1), (12, .bool p)]) (fun (p : Bool) => [imm (TR.sl (TR.sl TR.int)) v1 x1]) (fun (p : Bool) => K7 (.nx p)) ?_ ?_
 ·skip
  refine GL.region ?_
  refine RL.mv rfl rfl rfl ?_
  refine RL.binI (v := .bool (decide (x0 < (1 : Int)))) rfl rfl rfl rfl rfl ?_
  refine RL.mv rfl rfl rfl ?_
  refine RL.split (t := 9) rfl (fun b13 => ?_) (fun b13 => ?_)
  ·replace h8 := ite_t b13 h8
   refine RL.skip rfl rfl ?_
   refine RL.skip rfl rfl ?_
   refine RL.pickT rfl rfl rfl rfl ?_
   refine RL.fin ?_
   cases h8
   exact fun a w st => mid_intro true h9 (St.cut [0] ⟨rfl, rfl, rfl, trivial⟩ (by decide) rfl st)
  replace h8 := ite_f b13 h8
  refine RL.mv rfl rfl rfl ?_
  refine RL.binI (v := .bool (decide (x0 > (6 : Int)))) rfl rfl rfl rfl rfl ?_
  refine RL.pickF rfl rfl rfl rfl ?_
  refine RL.fin ?_
  cases h8
  exact fun a w st => mid_intro (decide (x0 > (6 : Int))) h9 (St.cut [0] ⟨rfl, rfl, rfl, trivial⟩ (by decide) rfl st)
 rintro x5 h14
 have h15 := h10 _ h14
 try dsimp only at h15
 refine GL.weak (env' := [(0, .int .i64 x0), (1, v1), (12, .bool x5)]) (L' := [imm (TR.sl (TR.sl TR.int)) v1 x1]) (fun _ _ st => st) ?_
 refine GL.cond rfl (fun b16 => ?_) (fun b16 => ?_)
 ·replace h15 := ite_t b16 h15
  refine GL.seq ?_
  refine GL.region ?_
  refine RL.asg rfl rfl rfl ?_
  refine RL.finG ?_
  have h15 := Option.some.inj h15
  subst h15
  exact GL.ret (Gx.ret (v := .int .i64 (1 : Int)) (res1 rfl rfl) (fun a w st => st.toPostV))
 replace h15 := ite_f b16 h15
 refine GL.skip ?_
 refine GL.seq ?_
 refine GL.seq ?_
 refine GL.region ?_
 refine RL.mv rfl rfl rfl ?_
 refine RL.lenS 0 Try.underlying27 rfl rfl rfl rfl SlOf.imm ?_
 refine RL.binI (v := .bool (decide (((x1).length : Int) > (30 : Int)))) rfl rfl rfl rfl rfl ?_
 refine RL.finG ?_
 refine GL.cond rfl (fun b17 => ?_) (fun b17 => ?_)
 ·replace h15 := ite_t b17 h15
  refine GL.seq ?_
  refine GL.region ?_
  refine RL.asg rfl rfl rfl ?_
  refine RL.finG ?_
  have h15 := Option.some.inj h15
  subst h15
  exact GL.ret (Gx.ret (v := .int .i64 (2 : Int)) (res1 rfl rfl) (fun a w st => st.toPostV))
 replace h15 := ite_f b17 h15
 refine GL.skip ?_
 refine GL.seq ?_
 refine GL.seq ?_
 refine GL.region ?_
 refine RL.mv rfl rfl rfl ?_
 refine RL.lenS 0 Try.underlying27 rfl rfl rfl rfl SlOf.imm ?_
 refine RL.mv rfl rfl rfl ?_
 refine RL.finG ?_
 refine GL.open_ 0 rfl (fun S h => len_imm S h) (fun n29 => ?_)
 obtain ⟨y30, K31, h32, h33, h34, h35, h36⟩ := bindR_K h15
 refine GL.join (ι := Unit) (fun (p : Unit) => []) (fun (p : Unit) => []) (fun (p : Unit) => K31 (.nx ())) ?_ ?_
 ·refine GL.block ?_
  refine GL.loop (ι := Nat × (List (List Int))) (fun (p : Nat × (List (List Int))) => [(0, .int .i64 x0), (16, v1), (17, .int .i64 ((x1).length : Int)), (18, .int .i64 (p.1 : Int))]) (fun (p : Nat × (List (List Int))) => [imm (TR.sl (TR.sl TR.int)) v1 x1]) (fun (p : Nat × (List (List Int))) => p.1 + p.2.length = (x1).length ∧ List.drop p.1 x1 = p.2 ∧ rangeL (tally_Check_b1 x0) p.2 p.1 () = some y30) (fun (p : Nat × (List (List Int))) => p.2.length) (0, x1) ⟨by simp, by simp, h32⟩ (fun a w st => St.cut [0] ⟨rfl, rfl, rfl, rfl, trivial⟩ (by decide) rfl st) ?_
  rintro ⟨i37, r38⟩ ⟨h43, h44, h42⟩
  try dsimp only at h43 h44 h42
  refine GL.weak (env' := [(0, .int .i64 x0), (16, v1), (17, .int .i64 ((x1).length : Int)), (18, .int .i64 (i37 : Int))]) (L' := [imm (TR.sl (TR.sl TR.int)) v1 x1]) (fun _ _ st => st) ?_
  refine GL.seq ?_
  refine GL.region ?_
  refine RL.binI (v := .bool (decide ((i37 : Int) < ((x1).length : Int)))) rfl rfl rfl rfl rfl ?_
  refine RL.finG ?_
  refine GL.seq ?_
  refine GL.cond rfl (fun b45 => ?_) (fun b45 => ?_)
  ·have h46 : i37 < (x1).length := by have := of_decide_eq_true b45; omega
   obtain ⟨y47, r49, hr, e48, h50⟩ := drop_cons h44 rfl h46
   subst hr
   obtain ⟨z39, h40, h41⟩ := rangeL_some h42
   unfold tally_Check_b1 at h40
   try dsimp only at h40
   refine GL.skip ?_
   refine GL.seq ?_
   refine GL.block ?_
   refine GL.seq ?_
   refine GL.region ?_
   refine RL.idxS (sz := 1) 0 Try.underlying27 Try_ln22 rfl rfl rfl rfl rfl SlOf.imm (by omega) (by omega) ?_
   refine RL.ldS (i := i37) (r := (TR.sl TR.int)) (e' := y47) 0 Try_ln22 rfl rfl rfl rfl SlOf.imm e48 Part.self ?_
   intro v52
   refine RL.asg rfl rfl rfl ?_
   refine RL.finG ?_
   refine GL.seq ?_
   refine GL.region ?_
   refine RL.mv rfl rfl rfl ?_
   refine RL.mv rfl rfl rfl ?_
   obtain ⟨y55, e56, h40⟩ := bind_some h40
   refine RL.callV (v := .int .i64 y55) (vs := [.int .i64 x0, v52]) Try_fit48 rfl (Or.inl rfl) rfl rfl rfl rfl (fun U w hU hW hL => order_Check_c U w hU x0 _ _ (hL 1 _ _ rfl Seen.imm) _ e56) ?_
   refine RL.binI (v := .bool (y55 != (0 : Int))) rfl rfl rfl rfl rfl ?_
   refine RL.finG ?_
   refine GL.cond rfl (fun b57 => ?_) (fun b57 => ?_)
   ·replace h40 := ite_t b57 h40
    refine GL.seq ?_
    refine GL.region ?_
    refine RL.asg rfl rfl rfl ?_
    refine RL.finG ?_
    cases h40
    replace h41 : some (Fl.rt _) = some y30 := h41
    cases h41
    have hh := h35 _ h33
    subst hh
    exact GL.ret (Gx.ret (v := .int .i64 (3 : Int)) (res1 rfl rfl) (fun a w st => st.toPostV))
   replace h40 := ite_f b57 h40
   refine GL.skip ?_
   refine GL.nilB ?_
   refine GL.region ?_
   refine RL.binI (v := .int .i64 ((i37 + 1 : Nat) : Int)) rfl rfl rfl rfl (binI_succ i37 (by omega)) ?_
   refine RL.mv rfl rfl rfl ?_
   refine RL.fin ?_
   cases h40
   exact fun a w st => lop_intro (i37 + 1, r49) ⟨by show i37 + 1 + r49.length = (x1).length; simp only [List.length_cons] at h43; omega, h50, h41⟩ (by simp) (St.cut [0] ⟨rfl, rfl, rfl, rfl, trivial⟩ (by decide) rfl st)
  have h46 : ¬ i37 < (x1).length := by have := of_decide_eq_false b45; omega
  obtain rfl : r38 = [] := by rw [← h44]; exact List.drop_of_length_le (by omega)
  replace h42 : some (Fl.nx _) = some y30 := h42
  cases h42
  exact GL.exit (fun a w st => mid_intro () h33 (St.cut [] trivial (by decide) rfl st))
 rintro ⟨⟩ h58
 have h59 := h34 _ h58
 try dsimp only at h59
 refine GL.weak (env' := []) (L' := []) (fun _ _ st => st) ?_
 refine GL.seq ?_
 refine GL.region ?_
 refine RL.asg rfl rfl rfl ?_
 refine RL.finG ?_
 have h59 := Option.some.inj h59
 subst h59
 exact GL.ret (Gx.ret (v := .int .i64 (0 : Int)) (res1 rfl rfl) (fun a w st => st.toPostV))

set_option maxHeartbeats 4000000 in
theorem peak_All_c (S : Hp) (w : World) (hS : S.sub w) (v0 : Value) (x0 : (List Int)) (k0 : ((TR.sl TR.int)).vrep S v0 x0) (v1 : Value) (x1 : (List (List Int))) (k1 : ((TR.sl (TR.sl TR.int))).vrep S v1 x1) (res : Bool × Int) (hm : peak_All_m x0 x1 = some res) : Calls Try.prog 49 #[v0, v1] w (PostV w (.tuple #[.bool res.1, .int .i64 res.2])) := by
 refine calls_enter 41 Try.func49 Try.ntmps49 rfl S false [(0, v0), (1, v1)] [imm (TR.sl TR.int) v0 x0, imm (TR.sl (TR.sl TR.int)) v1 x1] rfl ⟨rfl, ⟨rfl, trivial⟩⟩ hS ⟨k0, ⟨k1, trivial⟩⟩ ?_
 unfold peak_All_m at hm
 refine GL.seq ?_
 refine GL.region ?_
 refine RL.asg rfl rfl rfl ?_
 refine RL.asg rfl rfl rfl ?_
 refine RL.finG ?_
 refine GL.seq ?_
 refine GL.seq ?_
 refine GL.region ?_
 refine RL.mv rfl rfl rfl ?_
 refine RL.lenS 0 Try.underlying22 rfl rfl rfl rfl SlOf.imm ?_
 refine RL.mv rfl rfl rfl ?_
 obtain ⟨y5, e6, hm⟩ := bind_some hm
 refine RL.callV (v := .int .i64 y5) (vs := [.int .i64 ((x0).length : Int), v0]) Try_fit48 rfl (Or.inl rfl) rfl rfl rfl rfl (fun U w hU hW hL => order_Check_c U w hU ((x0).length : Int) _ _ (hL 0 _ _ rfl Seen.imm) _ e6) ?_
 refine RL.asg rfl rfl rfl ?_
 refine RL.finG ?_
 refine GL.seq ?_
 refine GL.region ?_
 refine RL.mv rfl rfl rfl ?_
 refine RL.binI (v := .bool (y5 != (0 : Int))) rfl rfl rfl rfl rfl ?_
 refine RL.finG ?_
 refine GL.cond rfl (fun b7 => ?_) (fun b7 => ?_)
 ·replace hm := ite_t b7 hm
  refine GL.seq ?_
  refine GL.region ?_
  refine RL.mv rfl rfl rfl ?_
  refine RL.asg rfl rfl rfl ?_
  refine RL.asg rfl rfl rfl ?_
  refine RL.finG ?_
  have hm := Option.some.inj hm
  subst hm
  exact GL.ret (Gx.ret (v := .tuple #[.bool false, .int .i64 y5]) (res2 rfl rfl rfl) (fun a w st => st.toPostV))
 replace hm := ite_f b7 hm
 refine GL.skip ?_
 refine GL.seq ?_
 refine GL.seq ?_
 refine GL.region ?_
 refine RL.mv rfl rfl rfl ?_
 refine RL.lenS 0 Try.underlying22 rfl rfl rfl rfl SlOf.imm ?_
 refine RL.mv rfl rfl rfl ?_
 obtain ⟨y10, e11, hm⟩ := bind_some hm
 refine RL.callV (v := .int .i64 y10) (vs := [.int .i64 ((x0).length : Int), v1]) Try_fit51 rfl (Or.inl rfl) rfl rfl rfl rfl (fun U w hU hW hL => tally_Check_c U w hU ((x0).length : Int) _ _ (hL 1 _ _ rfl Seen.imm) _ e11) ?_
 refine RL.asg rfl rfl rfl ?_
 refine RL.finG ?_
 refine GL.seq ?_
 refine GL.region ?_
 refine RL.mv rfl rfl rfl ?_
 refine RL.binI (v := .bool (y10 != (0 : Int))) rfl rfl rfl rfl rfl ?_
 refine RL.finG ?_
 refine GL.cond rfl (fun b12 => ?_) (fun b12 => ?_)
 ·replace hm := ite_t b12 hm
  refine GL.seq ?_
  refine GL.region ?_
  refine RL.mv rfl rfl rfl ?_
  refine RL.asg rfl rfl rfl ?_
  refine RL.asg rfl rfl rfl ?_
  refine RL.finG ?_
  have hm := Option.some.inj hm
  subst hm
  exact GL.ret (Gx.ret (v := .tuple #[.bool false, .int .i64 y10]) (res2 rfl rfl rfl) (fun a w st => st.toPostV))
 replace hm := ite_f b12 hm
 refine GL.skip ?_
 refine GL.seq ?_
 refine GL.seq ?_
 refine GL.region ?_
 refine RL.mv rfl rfl rfl ?_
 refine RL.lenS 1 Try.underlying27 rfl rfl rfl rfl SlOf.imm ?_
 refine RL.mv rfl rfl rfl ?_
 refine RL.finG ?_
 refine GL.open_ 1 rfl (fun S h => len_imm S h) (fun n24 => ?_)
 obtain ⟨y25, K26, h27, h28, h29, h30, h31⟩ := bindR_K hm
 refine GL.join (ι := Unit) (fun (p : Unit) => []) (fun (p : Unit) => []) (fun (p : Unit) => K26 (.nx ())) ?_ ?_
 ·refine GL.block ?_
  refine GL.loop (ι := Nat × (List (List Int))) (fun (p : Nat × (List (List Int))) => [(0, v0), (26, v1), (27, .int .i64 ((x1).length : Int)), (28, .int .i64 (p.1 : Int))]) (fun (p : Nat × (List (List Int))) => [imm (TR.sl TR.int) v0 x0, imm (TR.sl (TR.sl TR.int)) v1 x1]) (fun (p : Nat × (List (List Int))) => p.1 + p.2.length = (x1).length ∧ List.drop p.1 x1 = p.2 ∧ rangeL (peak_All_b1 x0) p.2 p.1 () = some y25) (fun (p : Nat × (List (List Int))) => p.2.length) (0, x1) ⟨by simp, by simp, h27⟩ (fun a w st => St.cut [0, 1] ⟨rfl, rfl, rfl, rfl, trivial⟩ (by decide) rfl st) ?_
  rintro ⟨i33, r34⟩ ⟨h39, h40, h38⟩
  try dsimp only at h39 h40 h38
  refine GL.weak (env' := [(0, v0), (26, v1), (27, .int .i64 ((x1).length : Int)), (28, .int .i64 (i33 : Int))]) (L' := [imm (TR.sl TR.int) v0 x0, imm (TR.sl (TR.sl TR.int)) v1 x1]) (fun _ _ st => st) ?_
  refine GL.seq ?_
  refine GL.region ?_
  refine RL.binI (v := .bool (decide ((i33 : Int) < ((x1).length : Int)))) rfl rfl rfl rfl rfl ?_
  refine RL.finG ?_
  refine GL.seq ?_
  refine GL.cond rfl (fun b41 => ?_) (fun b41 => ?_)
  ·have h42 : i33 < (x1).length := by have := of_decide_eq_true b41; omega
   obtain ⟨y43, r45, hr, e44, h46⟩ := drop_cons h40 rfl h42
   subst hr
   obtain ⟨z35, h36, h37⟩ := rangeL_some h38
   unfold peak_All_b1 at h36
   try dsimp only at h36
   refine GL.skip ?_
   refine GL.seq ?_
   refine GL.block ?_
   refine GL.seq ?_
   refine GL.region ?_
   refine RL.idxS (sz := 1) 1 Try.underlying27 Try_ln22 rfl rfl rfl rfl rfl SlOf.imm (by omega) (by omega) ?_
   refine RL.ldS (i := i33) (r := (TR.sl TR.int)) (e' := y43) 1 Try_ln22 rfl rfl rfl rfl SlOf.imm e44 Part.self ?_
   intro v48
   refine RL.asg rfl rfl rfl ?_
   refine RL.finG ?_
   refine GL.seq ?_
   refine GL.region ?_
   refine RL.mv rfl rfl rfl ?_
   refine RL.mv rfl rfl rfl ?_
   obtain ⟨y51, e52, h36⟩ := bind_some h36
   refine RL.callV (v := .tuple #[.bool y51.1, .int .i64 y51.2]) (vs := [v0, v48]) Try_fit20 rfl (Or.inl rfl) rfl rfl rfl rfl (fun U w hU hW hL => peak_Along_c U w hU _ _ (hL 0 _ _ rfl Seen.imm) _ _ (hL 2 _ _ rfl Seen.imm) _ e52) ?_
   refine RL.mv rfl rfl rfl ?_
   refine RL.ext rfl rfl rfl rfl ?_
   refine RL.ext rfl rfl rfl rfl ?_
   refine RL.asg rfl rfl rfl ?_
   refine RL.asg rfl rfl rfl ?_
   refine RL.finG ?_
   refine GL.seq ?_
   refine GL.region ?_
   refine RL.mv rfl rfl rfl ?_
   refine RL.notB rfl rfl rfl ?_
   refine RL.finG ?_
   refine GL.cond rfl (fun b53 => ?_) (fun b53 => ?_)
   ·replace h36 := ite_t b53 h36
    refine GL.seq ?_
    refine GL.region ?_
    refine RL.asg rfl rfl rfl ?_
    refine RL.asg rfl rfl rfl ?_
    refine RL.finG ?_
    cases h36
    replace h37 : some (Fl.rt _) = some y25 := h37
    cases h37
    have hh := h30 _ h28
    subst hh
    exact GL.ret (Gx.ret (v := .tuple #[.bool false, .int .i64 (0 : Int)]) (res2 rfl rfl rfl) (fun a w st => st.toPostV))
   replace h36 := ite_f b53 h36
   refine GL.skip ?_
   refine GL.nilB ?_
   refine GL.region ?_
   refine RL.binI (v := .int .i64 ((i33 + 1 : Nat) : Int)) rfl rfl rfl rfl (binI_succ i33 (by omega)) ?_
   refine RL.mv rfl rfl rfl ?_
   refine RL.fin ?_
   cases h36
   exact fun a w st => lop_intro (i33 + 1, r45) ⟨by show i33 + 1 + r45.length = (x1).length; simp only [List.length_cons] at h39; omega, h46, h37⟩ (by simp) (St.cut [0, 1] ⟨rfl, rfl, rfl, rfl, trivial⟩ (by decide) rfl st)
  have h42 : ¬ i33 < (x1).length := by have := of_decide_eq_false b41; omega
  obtain rfl : r34 = [] := by rw [← h40]; exact List.drop_of_length_le (by omega)
  replace h38 : some (Fl.nx _) = some y25 := h38
  cases h38
  exact GL.exit (fun a w st => mid_intro () h28 (St.cut [] trivial (by decide) rfl st))
 rintro ⟨⟩ h54
 have h55 := h29 _ h54
 try dsimp only at h55
 refine GL.weak (env' := []) (L' := []) (fun _ _ st => st) ?_
 refine GL.seq ?_
 refine GL.region ?_
 refine RL.asg rfl rfl rfl ?_
 refine RL.asg rfl rfl rfl ?_
 refine RL.finG ?_
 have h55 := Option.some.inj h55
 subst h55
 exact GL.ret (Gx.ret (v := .tuple #[.bool true, .int .i64 (0 : Int)]) (res2 rfl rfl rfl) (fun a w st => st.toPostV))

set_option maxHeartbeats 4000000 in
theorem slices_Index_int_int_c (S : Hp) (w : World) (hS : S.sub w) (v0 : Value) (x0 : (List Int)) (k0 : ((TR.sl TR.int)).vrep S v0 x0) (x1 : Int) (res : Int) (hm : slices_Index_int_int_m x0 x1 = some res) : Calls Try.prog 50 #[v0, .int .i64 x1] w (PostC w (.int .i64 res)) := by
 refine calls_enter 19 Try.func50 Try.ntmps50 rfl S true [(0, v0), (1, .int .i64 x1)] [imm (TR.sl TR.int) v0 x0] rfl ⟨rfl, ⟨rfl, trivial⟩⟩ hS ⟨k0, trivial⟩ ?_
 unfold slices_Index_int_int_m at hm
 refine GL.seq ?_
 refine GL.region ?_
 refine RL.asg rfl rfl rfl ?_
 refine RL.finG ?_
 refine GL.seq ?_
 refine GL.seq ?_
 refine GL.region ?_
 refine RL.mv rfl rfl rfl ?_
 refine RL.lenS 0 Try.underlying22 rfl rfl rfl rfl SlOf.imm ?_
 refine RL.mv rfl rfl rfl ?_
 refine RL.finG ?_
 refine GL.open_ 0 rfl (fun S h => len_imm S h) (fun n8 => ?_)
 obtain ⟨y9, K10, h11, h12, h13, h14, h15⟩ := bindR_K hm
 refine GL.join (ι := Unit) (fun (p : Unit) => []) (fun (p : Unit) => []) (fun (p : Unit) => K10 (.nx ())) ?_ ?_
 ·refine GL.block ?_
  refine GL.loop (ι := Nat × (List Int)) (fun (p : Nat × (List Int)) => [(0, v0), (1, .int .i64 x1), (7, .int .i64 ((x0).length : Int)), (8, .int .i64 (p.1 : Int))]) (fun (p : Nat × (List Int)) => [imm (TR.sl TR.int) v0 x0]) (fun (p : Nat × (List Int)) => p.1 + p.2.length = (x0).length ∧ List.drop p.1 x0 = p.2 ∧ rangeL (slices_Index_int_int_b1 x1) p.2 p.1 () = some y9) (fun (p : Nat × (List Int)) => p.2.length) (0, x0) ⟨by simp, by simp, h11⟩ (fun a w st => St.cut [0] ⟨rfl, rfl, rfl, rfl, trivial⟩ (by decide) rfl st) ?_
  rintro ⟨i17, r18⟩ ⟨h23, h24, h22⟩
  try dsimp only at h23 h24 h22
  refine GL.weak (env' := [(0, v0), (1, .int .i64 x1), (7, .int .i64 ((x0).length : Int)), (8, .int .i64 (i17 : Int))]) (L' := [imm (TR.sl TR.int) v0 x0]) (fun _ _ st => st) ?_
  refine GL.seq ?_
  refine GL.region ?_
  refine RL.binI (v := .bool (decide ((i17 : Int) < ((x0).length : Int)))) rfl rfl rfl rfl rfl ?_
  refine RL.finG ?_
  refine GL.seq ?_
  refine GL.cond rfl (fun b25 => ?_) (fun b25 => ?_)
  ·have h26 : i17 < (x0).length := by have := of_decide_eq_true b25; omega
   obtain ⟨y27, r29, hr, e28, h30⟩ := drop_cons h24 rfl h26
   subst hr
   obtain ⟨z19, h20, h21⟩ := rangeL_some h22
   unfold slices_Index_int_int_b1 at h20
   try dsimp only at h20
   refine GL.skip ?_
   refine GL.seq ?_
   refine GL.block ?_
   refine GL.seq ?_
   refine GL.region ?_
   refine RL.mv rfl rfl rfl ?_
   refine RL.asg rfl rfl rfl ?_
   refine RL.finG ?_
   refine GL.seq ?_
   refine GL.region ?_
   refine RL.mv rfl rfl rfl ?_
   refine RL.mv rfl rfl rfl ?_
   refine RL.mv rfl rfl rfl ?_
   refine RL.idxS (sz := 1) 0 Try.underlying22 Try_ln3 rfl rfl rfl rfl rfl SlOf.imm (by omega) (by omega) ?_
   refine RL.ldSx (i := i17) (e' := y27) 0 Ex.ik Try_ln3 rfl rfl rfl rfl SlOf.imm e28 Part.self ?_
   refine RL.binI (v := .bool (x1 == y27)) rfl rfl rfl rfl rfl ?_
   refine RL.finG ?_
   refine GL.cond rfl (fun b31 => ?_) (fun b31 => ?_)
   ·replace h20 := ite_t b31 h20
    refine GL.seq ?_
    refine GL.region ?_
    refine RL.mv rfl rfl rfl ?_
    refine RL.asg rfl rfl rfl ?_
    refine RL.finG ?_
    cases h20
    replace h21 : some (Fl.rt _) = some y9 := h21
    cases h21
    have hh := h14 _ h12
    subst hh
    exact GL.ret (Gx.ret (v := .int .i64 (i17 : Int)) (res1 rfl rfl) (fun a w st => st.toPostC rfl))
   replace h20 := ite_f b31 h20
   refine GL.skip ?_
   refine GL.nilB ?_
   refine GL.region ?_
   refine RL.binI (v := .int .i64 ((i17 + 1 : Nat) : Int)) rfl rfl rfl rfl (binI_succ i17 (by omega)) ?_
   refine RL.mv rfl rfl rfl ?_
   refine RL.fin ?_
   cases h20
   exact fun a w st => lop_intro (i17 + 1, r29) ⟨by show i17 + 1 + r29.length = (x0).length; simp only [List.length_cons] at h23; omega, h30, h21⟩ (by simp) (St.cut [0] ⟨rfl, rfl, rfl, rfl, trivial⟩ (by decide) rfl st)
  have h26 : ¬ i17 < (x0).length := by have := of_decide_eq_false b25; omega
  obtain rfl : r18 = [] := by rw [← h24]; exact List.drop_of_length_le (by omega)
  replace h22 : some (Fl.nx _) = some y9 := h22
  cases h22
  exact GL.exit (fun a w st => mid_intro () h12 (St.cut [] trivial (by decide) rfl st))
 rintro ⟨⟩ h32
 have h33 := h13 _ h32
 try dsimp only at h33
 refine GL.weak (env' := []) (L' := []) (fun _ _ st => st) ?_
 refine GL.seq ?_
 refine GL.region ?_
 refine RL.asg rfl rfl rfl ?_
 refine RL.finG ?_
 have h33 := Option.some.inj h33
 subst h33
 exact GL.ret (Gx.ret (v := .int .i64 (-1 : Int)) (res1 rfl rfl) (fun a w st => st.toPostC rfl))

set_option maxHeartbeats 4000000 in
theorem math_bits_Len32_c (S : Hp) (w : World) (hS : S.sub w) (x0 : Int) (res : Int) (hm : math_bits_Len32_m x0 = some res) : Calls Try.prog 81 #[.int .u32 x0] w (PostC w (.int .i64 res)) := by
 refine calls_enter 19 Try.func81 Try.ntmps81 rfl S true [(0, .int .u32 x0)] [] rfl ⟨rfl, trivial⟩ hS trivial ?_
 unfold math_bits_Len32_m at hm
 refine GL.seq ?_
 refine GL.region ?_
 refine RL.asg rfl rfl rfl ?_
 refine RL.finG ?_
 refine GL.seq ?_
 refine GL.seq ?_
 refine GL.region ?_
 refine RL.mv rfl rfl rfl ?_
 refine RL.binI (v := .bool (decide (x0 ≥ (65536 : Int)))) rfl rfl rfl rfl rfl ?_
 refine RL.finG ?_
 obtain ⟨y9, K10, h11, h12, h13, h14, h15⟩ := bindR_K hm
 refine GL.join (ι := Int × Int) (fun (p : Int × Int) => [(0, .int .u32 p.1), (2, .int .i64 p.2)]) (fun (p : Int × Int) => []) (fun (p : Int × Int) => K10 (.nx (p.1, p.2))) ?_ ?_
 ·skip
  refine GL.cond rfl (fun b16 => ?_) (fun b16 => ?_)
  ·replace h11 := ite_t b16 h11
   refine GL.seq ?_
   refine GL.region ?_
   refine RL.mv rfl rfl rfl ?_
   obtain ⟨y19, e20, h11⟩ := bind_some h11
   replace e20 := chk_some e20
   refine RL.sh (by simp) rfl rfl rfl rfl e20 ?_
   refine RL.asg rfl rfl rfl ?_
   refine RL.finG ?_
   refine GL.region ?_
   refine RL.asg rfl rfl rfl ?_
   refine RL.finG ?_
   cases h11
   exact fun a w st => mid_intro (Int.fdiv x0 (2 ^ (min (16 : Int).toNat (IntKind.bits .u32))), (16 : Int)) h12 (St.cut [] ⟨rfl, rfl, trivial⟩ (by decide) rfl st)
  replace h11 := ite_f b16 h11
  refine GL.skip ?_
  cases h11
  exact fun a w st => mid_intro (x0, (0 : Int)) h12 (St.cut [] ⟨rfl, rfl, trivial⟩ (by decide) rfl st)
 rintro ⟨x7, x8⟩ h21
 have h22 := h13 _ h21
 try dsimp only at h22
 refine GL.weak (env' := [(0, .int .u32 x7), (2, .int .i64 x8)]) (L' := []) (fun _ _ st => st) ?_
 refine GL.seq ?_
 refine GL.seq ?_
 refine GL.region ?_
 refine RL.mv rfl rfl rfl ?_
 refine RL.binI (v := .bool (decide (x7 ≥ (256 : Int)))) rfl rfl rfl rfl rfl ?_
 refine RL.finG ?_
 obtain ⟨y30, K31, h32, h33, h34, h35, h36⟩ := bindR_K h22
 refine GL.join (ι := Int × Int) (fun (p : Int × Int) => [(0, .int .u32 p.1), (2, .int .i64 p.2)]) (fun (p : Int × Int) => []) (fun (p : Int × Int) => K31 (.nx (p.1, p.2))) ?_ ?_
 ·skip
  refine GL.cond rfl (fun b37 => ?_) (fun b37 => ?_)
  ·replace h32 := ite_t b37 h32
   refine GL.seq ?_
   refine GL.region ?_
   refine RL.mv rfl rfl rfl ?_
   obtain ⟨y40, e41, h32⟩ := bind_some h32
   replace e41 := chk_some e41
   refine RL.sh (by simp) rfl rfl rfl rfl e41 ?_
   refine RL.asg rfl rfl rfl ?_
   refine RL.finG ?_
   refine GL.region ?_
   refine RL.mv rfl rfl rfl ?_
   refine RL.binI (v := .int .i64 (wadd x8 (8 : Int))) rfl rfl rfl rfl rfl ?_
   refine RL.asg rfl rfl rfl ?_
   refine RL.finG ?_
   cases h32
   exact fun a w st => mid_intro (Int.fdiv x7 (2 ^ (min (8 : Int).toNat (IntKind.bits .u32))), wadd x8 (8 : Int)) h33 (St.cut [] ⟨rfl, rfl, trivial⟩ (by decide) rfl st)
  replace h32 := ite_f b37 h32
  refine GL.skip ?_
  cases h32
  exact fun a w st => mid_intro (x7, x8) h33 (St.cut [] ⟨rfl, rfl, trivial⟩ (by decide) rfl st)
 rintro ⟨x28, x29⟩ h42
 have h43 := h34 _ h42
 try dsimp only at h43
 refine GL.weak (env' := [(0, .int .u32 x28), (2, .int .i64 x29)]) (L' := []) (fun _ _ st => st) ?_
 refine GL.seq ?_
 refine GL.region ?_
 refine RL.mv rfl rfl rfl ?_
 refine RL.mv rfl rfl rfl ?_
 refine RL.cvI Try.underlying112 Try.underlying5 rfl rfl rfl ?_
 obtain ⟨y46, e47, h43⟩ := bind_some h43
 refine RL.idxT Try.underlying9 rfl rfl rfl rfl (idx_some e47).1 (idx_some e47).2.2 ?_
 refine RL.cvI Try.underlying5 Try.underlying3 rfl rfl rfl ?_
 refine RL.binI (v := .int .i64 (wadd x29 (IntKind.wrap .i64 (y46.toNat : Int)))) rfl rfl rfl rfl rfl ?_
 refine RL.asg rfl rfl rfl ?_
 refine RL.finG ?_
 have h43 := Option.some.inj h43
 subst h43
 exact GL.ret (Gx.ret (v := .int .i64 (wadd x29 (IntKind.wrap .i64 (y46.toNat : Int)))) (res1 rfl rfl) (fun a w st => st.toPostC rfl))

set_option maxHeartbeats 4000000 in
theorem math_bits_Len64_c (S : Hp) (w : World) (hS : S.sub w) (x0 : Int) (res : Int) (hm : math_bits_Len64_m x0 = some res) : Calls Try.prog 82 #[.int .u64 x0] w (PostC w (.int .i64 res)) := by
 refine calls_enter 25 Try.func82 Try.ntmps82 rfl S true [(0, .int .u64 x0)] [] rfl ⟨rfl, trivial⟩ hS trivial ?_
 unfold math_bits_Len64_m at hm
 refine GL.seq ?_
 refine GL.region ?_
 refine RL.asg rfl rfl rfl ?_
 refine RL.finG ?_
 refine GL.seq ?_
 refine GL.seq ?_
 refine GL.region ?_
 refine RL.mv rfl rfl rfl ?_
 refine RL.binI (v := .bool (decide (x0 ≥ (4294967296 : Int)))) rfl rfl rfl rfl rfl ?_
 refine RL.finG ?_
 obtain ⟨y9, K10, h11, h12, h13, h14, h15⟩ := bindR_K hm
 refine GL.join (ι := Int × Int) (fun (p : Int × Int) => [(0, .int .u64 p.1), (2, .int .i64 p.2)]) (fun (p : Int × Int) => []) (fun (p : Int × Int) => K10 (.nx (p.1, p.2))) ?_ ?_
 ·skip
  refine GL.cond rfl (fun b16 => ?_) (fun b16 => ?_)
  ·replace h11 := ite_t b16 h11
   refine GL.seq ?_
   refine GL.region ?_
   refine RL.mv rfl rfl rfl ?_
   obtain ⟨y19, e20, h11⟩ := bind_some h11
   replace e20 := chk_some e20
   refine RL.sh (by simp) rfl rfl rfl rfl e20 ?_
   refine RL.asg rfl rfl rfl ?_
   refine RL.finG ?_
   refine GL.region ?_
   refine RL.asg rfl rfl rfl ?_
   refine RL.finG ?_
   cases h11
   exact fun a w st => mid_intro (Int.fdiv x0 (2 ^ (min (32 : Int).toNat (IntKind.bits .u64))), (32 : Int)) h12 (St.cut [] ⟨rfl, rfl, trivial⟩ (by decide) rfl st)
  replace h11 := ite_f b16 h11
  refine GL.skip ?_
  cases h11
  exact fun a w st => mid_intro (x0, (0 : Int)) h12 (St.cut [] ⟨rfl, rfl, trivial⟩ (by decide) rfl st)
 rintro ⟨x7, x8⟩ h21
 have h22 := h13 _ h21
 try dsimp only at h22
 refine GL.weak (env' := [(0, .int .u64 x7), (2, .int .i64 x8)]) (L' := []) (fun _ _ st => st) ?_
 refine GL.seq ?_
 refine GL.seq ?_
 refine GL.region ?_
 refine RL.mv rfl rfl rfl ?_
 refine RL.binI (v := .bool (decide (x7 ≥ (65536 : Int)))) rfl rfl rfl rfl rfl ?_
 refine RL.finG ?_
 obtain ⟨y30, K31, h32, h33, h34, h35, h36⟩ := bindR_K h22
 refine GL.join (ι := Int × Int) (fun (p : Int × Int) => [(0, .int .u64 p.1), (2, .int .i64 p.2)]) (fun (p : Int × Int) => []) (fun (p : Int × Int) => K31 (.nx (p.1, p.2))) ?_ ?_
 ·skip
  refine GL.cond rfl (fun b37 => ?_) (fun b37 => ?_)
  ·replace h32 := ite_t b37 h32
   refine GL.seq ?_
   refine GL.region ?_
   refine RL.mv rfl rfl rfl ?_
   obtain ⟨y40, e41, h32⟩ := bind_some h32
   replace e41 := chk_some e41
   refine RL.sh (by simp) rfl rfl rfl rfl e41 ?_
   refine RL.asg rfl rfl rfl ?_
   refine RL.finG ?_
   refine GL.region ?_
   refine RL.mv rfl rfl rfl ?_
   refine RL.binI (v := .int .i64 (wadd x8 (16 : Int))) rfl rfl rfl rfl rfl ?_
   refine RL.asg rfl rfl rfl ?_
   refine RL.finG ?_
   cases h32
   exact fun a w st => mid_intro (Int.fdiv x7 (2 ^ (min (16 : Int).toNat (IntKind.bits .u64))), wadd x8 (16 : Int)) h33 (St.cut [] ⟨rfl, rfl, trivial⟩ (by decide) rfl st)
  replace h32 := ite_f b37 h32
  refine GL.skip ?_
  cases h32
  exact fun a w st => mid_intro (x7, x8) h33 (St.cut [] ⟨rfl, rfl, trivial⟩ (by decide) rfl st)
 rintro ⟨x28, x29⟩ h42
 have h43 := h34 _ h42
 try dsimp only at h43
 refine GL.weak (env' := [(0, .int .u64 x28), (2, .int .i64 x29)]) (L' := []) (fun _ _ st => st) ?_
 refine GL.seq ?_
 refine GL.seq ?_
 refine GL.region ?_
 refine RL.mv rfl rfl rfl ?_
 refine RL.binI (v := .bool (decide (x28 ≥ (256 : Int)))) rfl rfl rfl rfl rfl ?_
 refine RL.finG ?_
 obtain ⟨y51, K52, h53, h54, h55, h56, h57⟩ := bindR_K h43
 refine GL.join (ι := Int × Int) (fun (p : Int × Int) => [(0, .int .u64 p.1), (2, .int .i64 p.2)]) (fun (p : Int × Int) => []) (fun (p : Int × Int) => K52 (.nx (p.1, p.2))) ?_ ?_
 ·skip
  refine GL.cond rfl (fun b58 => ?_) (fun b58 => ?_)
  ·replace h53 := ite_t b58 h53
   refine GL.seq ?_
   refine GL.region ?_
   refine RL.mv rfl rfl rfl ?_
   obtain ⟨y61, e62, h53⟩ := bind_some h53
   replace e62 := chk_some e62
   refine RL.sh (by simp) rfl rfl rfl rfl e62 ?_
   refine RL.asg rfl rfl rfl ?_
   refine RL.finG ?_
   refine GL.region ?_
   refine RL.mv rfl rfl rfl ?_
   refine RL.binI (v := .int .i64 (wadd x29 (8 : Int))) rfl rfl rfl rfl rfl ?_
   refine RL.asg rfl rfl rfl ?_
   refine RL.finG ?_
   cases h53
   exact fun a w st => mid_intro (Int.fdiv x28 (2 ^ (min (8 : Int).toNat (IntKind.bits .u64))), wadd x29 (8 : Int)) h54 (St.cut [] ⟨rfl, rfl, trivial⟩ (by decide) rfl st)
  replace h53 := ite_f b58 h53
  refine GL.skip ?_
  cases h53
  exact fun a w st => mid_intro (x28, x29) h54 (St.cut [] ⟨rfl, rfl, trivial⟩ (by decide) rfl st)
 rintro ⟨x49, x50⟩ h63
 have h64 := h55 _ h63
 try dsimp only at h64
 refine GL.weak (env' := [(0, .int .u64 x49), (2, .int .i64 x50)]) (L' := []) (fun _ _ st => st) ?_
 refine GL.seq ?_
 refine GL.region ?_
 refine RL.mv rfl rfl rfl ?_
 refine RL.mv rfl rfl rfl ?_
 refine RL.cvI Try.underlying114 Try.underlying5 rfl rfl rfl ?_
 obtain ⟨y67, e68, h64⟩ := bind_some h64
 refine RL.idxT Try.underlying9 rfl rfl rfl rfl (idx_some e68).1 (idx_some e68).2.2 ?_
 refine RL.cvI Try.underlying5 Try.underlying3 rfl rfl rfl ?_
 refine RL.binI (v := .int .i64 (wadd x50 (IntKind.wrap .i64 (y67.toNat : Int)))) rfl rfl rfl rfl rfl ?_
 refine RL.asg rfl rfl rfl ?_
 refine RL.finG ?_
 have h64 := Option.some.inj h64
 subst h64
 exact GL.ret (Gx.ret (v := .int .i64 (wadd x50 (IntKind.wrap .i64 (y67.toNat : Int)))) (res1 rfl rfl) (fun a w st => st.toPostC rfl))

set_option maxHeartbeats 4000000 in
theorem math_bits_Len_c (S : Hp) (w : World) (hS : S.sub w) (x0 : Int) (res : Int) (hm : math_bits_Len_m x0 = some res) : Calls Try.prog 68 #[.int .u64 x0] w (PostC w (.int .i64 res)) := by
 refine calls_enter 8 Try.func68 Try.ntmps68 rfl S true [(0, .int .u64 x0)] [] rfl ⟨rfl, trivial⟩ hS trivial ?_
 unfold math_bits_Len_m at hm
 refine GL.seq ?_
 refine GL.region ?_
 refine RL.asg rfl rfl rfl ?_
 refine RL.finG ?_
 refine GL.seq ?_
 refine GL.cond rfl (fun b2 => ?_) (fun b2 => ?_)
 ·replace hm := ite_t b2 hm
  refine GL.seq ?_
  refine GL.region ?_
  refine RL.mv rfl rfl rfl ?_
  refine RL.cvI Try.underlying96 Try.underlying112 rfl rfl rfl ?_
  obtain ⟨y5, e6, hm⟩ := bind_some hm
  refine RL.callC (v := .int .i64 y5) (vs := [.int .u32 (IntKind.wrap .u32 x0)]) Try_fit81 rfl rfl rfl rfl (fun U w hU hW hL => math_bits_Len32_c U w hU (IntKind.wrap .u32 x0) _ e6) ?_
  refine RL.asg rfl rfl rfl ?_
  refine RL.finG ?_
  have hm := Option.some.inj hm
  subst hm
  exact GL.ret (Gx.ret (v := .int .i64 y5) (res1 rfl rfl) (fun a w st => st.toPostC rfl))
 replace hm := ite_f b2 hm
 refine GL.skip ?_
 refine GL.seq ?_
 refine GL.region ?_
 refine RL.mv rfl rfl rfl ?_
 obtain ⟨y9, e10, hm⟩ := bind_some hm
 refine RL.callC (v := .int .i64 y9) (vs := [.int .u64 x0]) Try_fit82 rfl rfl rfl rfl (fun U w hU hW hL => math_bits_Len64_c U w hU x0 _ e10) ?_
 refine RL.asg rfl rfl rfl ?_
 refine RL.finG ?_
 have hm := Option.some.inj hm
 subst hm
 exact GL.ret (Gx.ret (v := .int .i64 y9) (res1 rfl rfl) (fun a w st => st.toPostC rfl))

set_option maxHeartbeats 4000000 in
theorem cmp_isNaN_int_c (S : Hp) (w : World) (hS : S.sub w) (x0 : Int) (res : Bool) (hm : cmp_isNaN_int_m x0 = some res) : Calls Try.prog 89 #[.int .i64 x0] w (PostC w (.bool res)) := by
 refine calls_enter 6 Try.func89 Try.ntmps89 rfl S true [(0, .int .i64 x0)] [] rfl ⟨rfl, trivial⟩ hS trivial ?_
 unfold cmp_isNaN_int_m at hm
 refine GL.seq ?_
 refine GL.region ?_
 refine RL.asg rfl rfl rfl ?_
 refine RL.finG ?_
 refine GL.seq ?_
 refine GL.region ?_
 refine RL.mv rfl rfl rfl ?_
 refine RL.mv rfl rfl rfl ?_
 refine RL.binI (v := .bool (x0 != x0)) rfl rfl rfl rfl rfl ?_
 refine RL.asg rfl rfl rfl ?_
 refine RL.finG ?_
 have hm := Option.some.inj hm
 subst hm
 exact GL.ret (Gx.ret (v := .bool (x0 != x0)) (res1 rfl rfl) (fun a w st => st.toPostC rfl))

set_option maxHeartbeats 4000000 in
theorem cmp_Less_int_c (S : Hp) (w : World) (hS : S.sub w) (x0 : Int) (x1 : Int) (res : Bool) (hm : cmp_Less_int_m x0 x1 = some res) : Calls Try.prog 78 #[.int .i64 x0, .int .i64 x1] w (PostC w (.bool res)) := by
 refine calls_enter 17 Try.func78 Try.ntmps78 rfl S true [(0, .int .i64 x0), (1, .int .i64 x1)] [] rfl ⟨rfl, ⟨rfl, trivial⟩⟩ hS trivial ?_
 unfold cmp_Less_int_m at hm
 refine GL.seq ?_
 refine GL.region ?_
 refine RL.asg rfl rfl rfl ?_
 refine RL.finG ?_
 refine GL.seq ?_
 obtain ⟨y16, K17, h18, h19, h20, h21, h22⟩ := bindR_K hm
 refine GL.join (ι := Bool) (fun (p : Bool) => [(4, .bool p)]) (fun (p : Bool) => []) (fun (p : Bool) => K17 (.nx p)) ?_ ?_
 ·skip
  refine GL.region ?_
  refine RL.mv rfl rfl rfl ?_
  obtain ⟨y23, e24, h18⟩ := bind_some h18
  refine RL.callC (v := .bool y23) (vs := [.int .i64 x0]) Try_fit89 rfl rfl rfl rfl (fun U w hU hW hL => cmp_isNaN_int_c U w hU x0 _ e24) ?_
  refine RL.mv rfl rfl rfl ?_
  refine RL.split (t := 7) rfl (fun b25 => ?_) (fun b25 => ?_)
  ·replace h18 := ite_t b25 h18
   refine RL.mv rfl rfl rfl ?_
   obtain ⟨y26, e27, h18⟩ := bind_some h18
   refine RL.callC (v := .bool y26) (vs := [.int .i64 x1]) Try_fit89 rfl rfl rfl rfl (fun U w hU hW hL => cmp_isNaN_int_c U w hU x1 _ e27) ?_
   refine RL.notB rfl rfl rfl ?_
   refine RL.pickT rfl rfl rfl rfl ?_
   refine RL.mv rfl rfl rfl ?_
   refine RL.split (t := 12) rfl (fun b28 => ?_) (fun b28 => ?_)
   ·replace h18 := ite_t b28 h18
    refine RL.skip rfl rfl ?_
    refine RL.skip rfl rfl ?_
    refine RL.skip rfl rfl ?_
    refine RL.pickT rfl rfl rfl rfl ?_
    refine RL.asg rfl rfl rfl ?_
    refine RL.fin ?_
    cases h18
    exact fun a w st => mid_intro true h19 (St.cut [] ⟨rfl, trivial⟩ (by decide) rfl st)
   replace h18 := ite_f b28 h18
   refine RL.mv rfl rfl rfl ?_
   refine RL.mv rfl rfl rfl ?_
   refine RL.binI (v := .bool (decide (x0 < x1))) rfl rfl rfl rfl rfl ?_
   refine RL.pickF rfl rfl rfl rfl ?_
   refine RL.asg rfl rfl rfl ?_
   refine RL.fin ?_
   cases h18
   exact fun a w st => mid_intro (decide (x0 < x1)) h19 (St.cut [] ⟨rfl, trivial⟩ (by decide) rfl st)
  replace h18 := ite_f b25 h18
  refine RL.skip rfl rfl ?_
  refine RL.skip rfl rfl ?_
  refine RL.skip rfl rfl ?_
  refine RL.pickF rfl rfl rfl rfl ?_
  refine RL.mv rfl rfl rfl ?_
  refine RL.mv rfl rfl rfl ?_
  refine RL.mv rfl rfl rfl ?_
  refine RL.binI (v := .bool (decide (x0 < x1))) rfl rfl rfl rfl rfl ?_
  refine RL.pickF rfl rfl rfl rfl ?_
  refine RL.asg rfl rfl rfl ?_
  refine RL.fin ?_
  cases h18
  exact fun a w st => mid_intro (decide (x0 < x1)) h19 (St.cut [] ⟨rfl, trivial⟩ (by decide) rfl st)
 rintro x15 h29
 have h30 := h20 _ h29
 try dsimp only at h30
 refine GL.weak (env' := [(4, .bool x15)]) (L' := []) (fun _ _ st => st) ?_
 have h30 := Option.some.inj h30
 subst h30
 exact GL.ret (Gx.ret (v := .bool x15) (res1 rfl rfl) (fun a w st => st.toPostC rfl))

set_option maxHeartbeats 4000000 in
theorem slices_insertionSortOrdered_int_c (B : World) (S X : Hp) (f : Nat → Hp) (w : World) (v0 : Value) (x0 : (List Int)) (hO : HeapOk B.heap.size S f [own 3 TR.int v0 x0, keep X].length w) (hB : Below B.heap.size B w) (hI : Its [own 3 TR.int v0 x0, keep X] S f) (x1 : Int) (x2 : Int) (res : (List Int)) (hm : slices_insertionSortOrdered_int_m x0 x1 x2 = some res) : Calls Try.prog 72 #[v0, .int .i64 x1, .int .i64 x2] w (PostM B S (fun (o : Unit) => .tuple #[]) (fun (o : Unit) => [own 3 TR.int v0 res, keep X])) := by
 refine calls_enterM 49 Try.func72 Try.ntmps72 rfl B S f [(0, v0), (1, .int .i64 x1), (2, .int .i64 x2)] [own 3 TR.int v0 x0, keep X] [] rfl ⟨rfl, ⟨rfl, ⟨rfl, trivial⟩⟩⟩ hB hO hI trivial ?_
 unfold slices_insertionSortOrdered_int_m at hm
 refine GL.seq ?_
 refine GL.region ?_
 refine RL.mv rfl rfl rfl ?_
 refine RL.binI (v := .int .i64 (wadd x1 (1 : Int))) rfl rfl rfl rfl rfl ?_
 refine RL.asg rfl rfl rfl ?_
 refine RL.finG ?_
 obtain ⟨y339, K340, h341, h342, h343, h344, h345⟩ := bindR_K hm
 refine GL.join (ι := (List Int) × Int) (fun (p : (List Int) × Int) => []) (fun (p : (List Int) × Int) => [own 3 TR.int v0 p.1, keep X]) (fun (p : (List Int) × Int) => K340 (.nx (p.1, p.2))) ?_ ?_
 ·refine GL.block ?_
  refine GL.loop (ι := Nat × (List Int) × Int) (fun (p : Nat × (List Int) × Int) => [(0, v0), (1, .int .i64 x1), (2, .int .i64 x2), (6, .int .i64 p.2.2)]) (fun (p : Nat × (List Int) × Int) => [own 3 TR.int v0 p.2.1, keep X]) (fun (p : Nat × (List Int) × Int) => loopM (slices_insertionSortOrdered_int_b1 x2 x1) p.1 (p.2.1, p.2.2) = some y339) (fun (p : Nat × (List Int) × Int) => p.1) (1048576, x0, wadd x1 (1 : Int)) h341 (fun a w st => St.cut [0, 1] ⟨rfl, rfl, rfl, rfl, trivial⟩ (by decide) rfl st) ?_
  rintro ⟨r347, l171, x172⟩ h351
  try dsimp only at h351
  refine GL.weak (env' := [(0, v0), (1, .int .i64 x1), (2, .int .i64 x2), (6, .int .i64 x172)]) (L' := [own 3 TR.int v0 l171, keep X]) (fun _ _ st => st) ?_
  obtain ⟨r354, z348, hr, h349, h350⟩ := loopM_some h351
  subst hr
  unfold slices_insertionSortOrdered_int_b1 at h349
  try dsimp only at h349
  refine GL.seq ?_
  refine GL.seq ?_
  refine GL.region ?_
  refine RL.mv rfl rfl rfl ?_
  refine RL.mv rfl rfl rfl ?_
  refine RL.binI (v := .bool (decide (x172 < x2))) rfl rfl rfl rfl rfl ?_
  refine RL.finG ?_
  refine GL.cond rfl (fun b355 => ?_) (fun b355 => ?_)
  ·replace h349 := ite_t b355 h349
   refine GL.skip ?_
   refine GL.seq ?_
   refine GL.block ?_
   refine GL.seq ?_
   refine GL.region ?_
   refine RL.mv rfl rfl rfl ?_
   refine RL.asg rfl rfl rfl ?_
   refine RL.finG ?_
   obtain ⟨y455, K456, h457, h458, h459, h460, h461⟩ := bindF_K h349
   refine GL.join (ι := (List Int) × Int) (fun (p : (List Int) × Int) => [(0, v0), (1, .int .i64 x1), (2, .int .i64 x2), (6, .int .i64 x172)]) (fun (p : (List Int) × Int) => [own 3 TR.int v0 p.1, keep X]) (fun (p : (List Int) × Int) => K456 (.nx (p.1, p.2))) ?_ ?_
   ·refine GL.block ?_
    refine GL.loop (ι := Nat × (List Int) × Int) (fun (p : Nat × (List Int) × Int) => [(0, v0), (1, .int .i64 x1), (2, .int .i64 x2), (6, .int .i64 x172), (7, .int .i64 p.2.2)]) (fun (p : Nat × (List Int) × Int) => [own 3 TR.int v0 p.2.1, keep X]) (fun (p : Nat × (List Int) × Int) => loopM (slices_insertionSortOrdered_int_b2 x1) p.1 (p.2.1, p.2.2) = some y455) (fun (p : Nat × (List Int) × Int) => p.1) (1048576, l171, x172) h457 (fun a w st => St.cut [0, 1] ⟨rfl, rfl, rfl, rfl, rfl, trivial⟩ (by decide) rfl st) ?_
    rintro ⟨r463, l405, x406⟩ h467
    try dsimp only at h467
    refine GL.weak (env' := [(0, v0), (1, .int .i64 x1), (2, .int .i64 x2), (6, .int .i64 x172), (7, .int .i64 x406)]) (L' := [own 3 TR.int v0 l405, keep X]) (fun _ _ st => st) ?_
    obtain ⟨r470, z464, hr, h465, h466⟩ := loopM_some h467
    subst hr
    unfold slices_insertionSortOrdered_int_b2 at h465
    try dsimp only at h465
    refine GL.seq ?_
    refine GL.seq ?_
    obtain ⟨y486, K487, h488, h489, h490, h491, h492⟩ := bindF_K h465
    refine GL.join (ι := Bool) (fun (p : Bool) => [(0, v0), (1, .int .i64 x1), (2, .int .i64 x2), (6, .int .i64 x172), (7, .int .i64 x406), (30, .bool p)]) (fun (p : Bool) => [own 3 TR.int v0 l405, keep X]) (fun (p : Bool) => K487 (.nx p)) ?_ ?_
    ·skip
     refine GL.regionQ rfl rfl (by kernel_rfl) ?_
     refine RL.mv rfl rfl rfl ?_
     refine RL.mv rfl rfl rfl ?_
     refine RL.binI (v := .bool (decide (x406 > x1))) rfl rfl rfl rfl rfl ?_
     refine RL.mv rfl rfl rfl ?_
     refine RL.split (t := 19) rfl (fun b493 => ?_) (fun b493 => ?_)
     ·replace h488 := ite_t b493 h488
      refine RL.mv rfl rfl rfl ?_
      refine RL.mv rfl rfl rfl ?_
      obtain ⟨y494, e495, h488⟩ := bind_some h488
      refine RL.idxS (sz := 1) 0 Try.underlying22 Try_ln3 rfl rfl rfl rfl rfl SlOf.own (idx_some e495).1 (idx_some e495).2.1 ?_
      refine RL.ldSx (i := (x406).toNat) (e' := y494) 0 Ex.ik Try_ln3 rfl rfl rfl rfl SlOf.own (idx_some e495).2.2 Part.self ?_
      refine RL.mv rfl rfl rfl ?_
      refine RL.mv rfl rfl rfl ?_
      refine RL.binI (v := .int .i64 (wsub x406 (1 : Int))) rfl rfl rfl rfl rfl ?_
      obtain ⟨y496, e497, h488⟩ := bind_some h488
      refine RL.idxS (sz := 1) 0 Try.underlying22 Try_ln3 rfl rfl rfl rfl rfl SlOf.own (idx_some e497).1 (idx_some e497).2.1 ?_
      refine RL.ldSx (i := (wsub x406 (1 : Int)).toNat) (e' := y496) 0 Ex.ik Try_ln3 rfl rfl rfl rfl SlOf.own (idx_some e497).2.2 Part.self ?_
      obtain ⟨y498, e499, h488⟩ := bind_some h488
      refine RL.callC (v := .bool y498) (vs := [.int .i64 y494, .int .i64 y496]) Try_fit78 rfl rfl rfl rfl (fun U w hU hW hL => cmp_Less_int_c U w hU y494 y496 _ e499) ?_
      refine RL.pickT rfl rfl rfl rfl ?_
      refine RL.finQ ?_
      cases h488
      exact fun a w st => mid_intro y498 h489 (St.cut [0, 1] ⟨rfl, rfl, rfl, rfl, rfl, rfl, trivial⟩ (by decide) rfl st)
     replace h488 := ite_f b493 h488
     refine RL.skip rfl rfl ?_
     refine RL.skip rfl rfl ?_
     refine RL.skip rfl rfl ?_
     refine RL.skip rfl rfl ?_
     refine RL.skip rfl rfl ?_
     refine RL.skip rfl rfl ?_
     refine RL.skip rfl rfl ?_
     refine RL.skip rfl rfl ?_
     refine RL.skip rfl rfl ?_
     refine RL.skip rfl rfl ?_
     refine RL.pickF rfl rfl rfl rfl ?_
     refine RL.finQ ?_
     cases h488
     exact fun a w st => mid_intro false h489 (St.cut [0, 1] ⟨rfl, rfl, rfl, rfl, rfl, rfl, trivial⟩ (by decide) rfl st)
    rintro x485 h500
    have h501 := h490 _ h500
    try dsimp only at h501
    refine GL.weak (env' := [(0, v0), (1, .int .i64 x1), (2, .int .i64 x2), (6, .int .i64 x172), (7, .int .i64 x406), (30, .bool x485)]) (L' := [own 3 TR.int v0 l405, keep X]) (fun _ _ st => st) ?_
    refine GL.cond rfl (fun b502 => ?_) (fun b502 => ?_)
    ·replace h501 := ite_t b502 h501
     refine GL.skip ?_
     refine GL.seq ?_
     refine GL.block ?_
     refine GL.regionA rfl rfl ?_
     refine RA.mv 0 rfl (by kernel_rfl) rfl rfl rfl ?_
     refine RA.mv 1 rfl (by kernel_rfl) rfl rfl rfl ?_
     refine RA.mv 2 rfl (by kernel_rfl) rfl rfl rfl ?_
     refine RA.mv 3 rfl (by kernel_rfl) rfl rfl rfl ?_
     refine RA.binI (v := .int .i64 (wsub x406 (1 : Int))) 4 rfl (by kernel_rfl) rfl rfl rfl rfl rfl ?_
     refine RA.mv 5 rfl (by kernel_rfl) rfl rfl rfl ?_
     refine RA.mv 6 rfl (by kernel_rfl) rfl rfl rfl ?_
     refine RA.binI (v := .int .i64 (wsub x406 (1 : Int))) 7 rfl (by kernel_rfl) rfl rfl rfl rfl rfl ?_
     obtain ⟨y511, e512, h501⟩ := bind_some h501
     refine RA.idxS (sz := 1) 0 Try.underlying22 Try_ln3 8 rfl (by kernel_rfl) rfl rfl rfl rfl rfl SlOf.own (idx_some e512).1 (idx_some e512).2.1 ?_
     refine RA.mv 10 rfl (by kernel_rfl) rfl rfl rfl ?_
     refine RA.mv 11 rfl (by kernel_rfl) rfl rfl rfl ?_
     obtain ⟨y513, e514, h501⟩ := bind_some h501
     refine RA.idxS (sz := 1) 0 Try.underlying22 Try_ln3 12 rfl (by kernel_rfl) rfl rfl rfl rfl rfl SlOf.own (idx_some e514).1 (idx_some e514).2.1 ?_
     refine RA.still (le := #[true, true, true, true, true, true, true, true, true, true, true, true, true, true, true, false, false, false]) (f := 3) [9, 13, 14] 15 rfl (by kernel_rfl) ?_
     simp only [pickOps, List.getElem?_toArray, List.getElem?_cons_succ, List.getElem?_cons_zero]
     refine RL.ldSx (i := (wsub x406 (1 : Int)).toNat) (e' := y511) 0 Ex.ik Try_ln3 rfl rfl rfl rfl SlOf.own (idx_some e512).2.2 Part.self ?_
     refine RL.ldSx (i := (x406).toNat) (e' := y513) 0 Ex.ik Try_ln3 rfl rfl rfl rfl SlOf.own (idx_some e514).2.2 Part.self ?_
     obtain ⟨y515, e516, h501⟩ := bind_some h501
     refine RL.idxS (sz := 1) 0 Try.underlying22 Try_ln3 rfl rfl rfl rfl rfl SlOf.own (idx_some e516).1 (idx_some e516).2.1 ?_
     refine RL.finH ?_
     refine RL.fin ?_
     refine RA.next ?_
     refine RA.seq 15 rfl (by kernel_rfl) ?_
     refine RL.stS (i := (x406).toNat) (e' := y511) (e1 := y511) (r := TR.int) 0 Try_ln3 rfl rfl rfl rfl VR.int rfl (idx_some e516).2.2 Upd.self ?_
     refine RL.fin ?_
     refine RA.next ?_
     obtain ⟨y517, e518, h501⟩ := bind_some h501
     refine RA.idxS (sz := 1) 0 Try.underlying22 Try_ln3 16 rfl (by kernel_rfl) rfl rfl rfl rfl rfl SlOf.own (idx_some e518).1 (idx_some e518).2.1 ?_
     refine RA.seq 17 rfl (by kernel_rfl) ?_
     refine RL.stS (i := (wsub x406 (1 : Int)).toNat) (e' := y513) (e1 := y513) (r := TR.int) 0 Try_ln3 rfl rfl rfl rfl VR.int rfl (idx_some e518).2.2 Upd.self ?_
     refine RL.fin ?_
     refine RA.next ?_
     refine RA.doneG (by kernel_rfl) ?_
     refine GL.weak (env' := [(0, v0), (1, .int .i64 x1), (2, .int .i64 x2), (6, .int .i64 x172), (7, .int .i64 x406)]) (L' := [own 3 TR.int v0 (List.set (List.set l405 ((x406).toNat) y511) ((wsub x406 (1 : Int)).toNat) y513), keep X]) (fun a w st => St.cut [0, 1] ⟨rfl, rfl, rfl, rfl, rfl, trivial⟩ (by decide) rfl st) ?_
     refine GL.nilB ?_
     refine GL.region ?_
     refine RL.mv rfl rfl rfl ?_
     refine RL.binI (v := .int .i64 (wsub x406 (1 : Int))) rfl rfl rfl rfl rfl ?_
     refine RL.asg rfl rfl rfl ?_
     refine RL.finG ?_
     cases h501
     exact fun a w st => lop_intro (r470, (List.set (List.set l405 ((x406).toNat) y511) ((wsub x406 (1 : Int)).toNat) y513), wsub x406 (1 : Int)) (by exact h466) (by simp) (St.cut [0, 1] ⟨rfl, rfl, rfl, rfl, rfl, trivial⟩ (by decide) rfl st)
    replace h501 := ite_f b502 h501
    cases h501
    replace h466 : some (Fl.nx _) = some y455 := h466
    cases h466
    exact GL.exit (fun a w st => mid_intro (l405, x406) h458 (St.cut [0, 1] ⟨rfl, rfl, rfl, rfl, trivial⟩ (by decide) rfl st))
   rintro ⟨l405, x406⟩ h519
   have h520 := h459 _ h519
   try dsimp only at h520
   refine GL.weak (env' := [(0, v0), (1, .int .i64 x1), (2, .int .i64 x2), (6, .int .i64 x172)]) (L' := [own 3 TR.int v0 l405, keep X]) (fun _ _ st => st) ?_
   refine GL.nilB ?_
   refine GL.region ?_
   refine RL.mv rfl rfl rfl ?_
   refine RL.binI (v := .int .i64 (wadd x172 (1 : Int))) rfl rfl rfl rfl rfl ?_
   refine RL.asg rfl rfl rfl ?_
   refine RL.finG ?_
   cases h520
   exact fun a w st => lop_intro (r354, l405, wadd x172 (1 : Int)) (by exact h350) (by simp) (St.cut [0, 1] ⟨rfl, rfl, rfl, rfl, trivial⟩ (by decide) rfl st)
  replace h349 := ite_f b355 h349
  cases h349
  replace h350 : some (Fl.nx _) = some y339 := h350
  cases h350
  exact GL.exit (fun a w st => mid_intro (l171, x172) h342 (St.cut [0, 1] trivial (by decide) rfl st))
 rintro ⟨l171, x172⟩ h521
 have h522 := h343 _ h521
 try dsimp only at h522
 refine GL.weak (env' := []) (L' := [own 3 TR.int v0 l171, keep X]) (fun _ _ st => st) ?_
 have h522 := Option.some.inj h522
 subst h522
 exact GL.nil (Gx.retN (v := .tuple #[]) (res0 rfl) (fun a w st => (st.pick [0, 1] (by decide) rfl).toPostM (V := fun (o : Unit) => .tuple #[]) (LR := fun (o : Unit) => [own 3 TR.int v0 l171, keep X]) ()))

set_option maxHeartbeats 4000000 in
theorem slices_pdqsortOrdered_int_c (B : World) (S X : Hp) (f : Nat → Hp) (w : World) (v0 : Value) (x0 : (List Int)) (hO : HeapOk B.heap.size S f [own 3 TR.int v0 x0, keep X].length w) (hB : Below B.heap.size B w) (hI : Its [own 3 TR.int v0 x0, keep X] S f) (x1 : Int) (x2 : Int) (x3 : Int) (res : (List Int)) (hm : slices_pdqsortOrdered_int_m x0 x1 x2 x3 = some res) : Calls Try.prog 67 #[v0, .int .i64 x1, .int .i64 x2, .int .i64 x3] w (PostM B S (fun (o : Unit) => .tuple #[]) (fun (o : Unit) => [own 3 TR.int v0 res, keep X])) := by
 refine calls_enterM 134 Try.func67 Try.ntmps67 rfl B S f [(0, v0), (1, .int .i64 x1), (2, .int .i64 x2), (3, .int .i64 x3)] [own 3 TR.int v0 x0, keep X] [] rfl ⟨rfl, ⟨rfl, ⟨rfl, ⟨rfl, trivial⟩⟩⟩⟩ hB hO hI trivial ?_
 unfold slices_pdqsortOrdered_int_m at hm
 refine GL.seq ?_
 refine GL.region ?_
 refine RL.asg rfl rfl rfl ?_
 refine RL.finG ?_
 refine GL.seq ?_
 refine GL.region ?_
 refine RL.asg rfl rfl rfl ?_
 refine RL.finG ?_
 obtain ⟨y82, K83, h84, h85, h86, h87, h88⟩ := bindR_K hm
 refine GL.join (ι := (List Int) × Int × Int × Int × Bool × Bool) (fun (p : (List Int) × Int × Int × Int × Bool × Bool) => []) (fun (p : (List Int) × Int × Int × Int × Bool × Bool) => [own 3 TR.int v0 p.1, keep X]) (fun (p : (List Int) × Int × Int × Int × Bool × Bool) => K83 (.nx (p.1, p.2.1, p.2.2.1, p.2.2.2.1, p.2.2.2.2.1, p.2.2.2.2.2))) ?_ ?_
 ·refine GL.block ?_
  refine GL.loop (ι := Nat × (List Int) × Int × Int × Int × Bool × Bool) (fun (p : Nat × (List Int) × Int × Int × Int × Bool × Bool) => [(0, v0), (1, .int .i64 p.2.2.1), (2, .int .i64 p.2.2.2.1), (3, .int .i64 p.2.2.2.2.1), (8, .bool p.2.2.2.2.2.1), (9, .bool p.2.2.2.2.2.2)]) (fun (p : Nat × (List Int) × Int × Int × Int × Bool × Bool) => [own 3 TR.int v0 p.2.1, keep X]) (fun (p : Nat × (List Int) × Int × Int × Int × Bool × Bool) => loopM slices_pdqsortOrdered_int_b1 p.1 (p.2.1, p.2.2.1, p.2.2.2.1, p.2.2.2.2.1, p.2.2.2.2.2.1, p.2.2.2.2.2.2) = some y82) (fun (p : Nat × (List Int) × Int × Int × Int × Bool × Bool) => p.1) (1048576, x0, x1, x2, x3, true, true) h84 (fun a w st => St.cut [0, 1] ⟨rfl, rfl, rfl, rfl, rfl, rfl, trivial⟩ (by decide) rfl st) ?_
  rintro ⟨r90, l43, x44, x45, x46, x47, x48⟩ h94
  try dsimp only at h94
  refine GL.weak (env' := [(0, v0), (1, .int .i64 x44), (2, .int .i64 x45), (3, .int .i64 x46), (8, .bool x47), (9, .bool x48)]) (L' := [own 3 TR.int v0 l43, keep X]) (fun _ _ st => st) ?_
  obtain ⟨r97, z91, hr, h92, h93⟩ := loopM_some h94
  subst hr
  unfold slices_pdqsortOrdered_int_b1 at h92
  try dsimp only at h92
  refine GL.block ?_
  refine GL.seq ?_
  refine GL.region ?_
  refine RL.mv rfl rfl rfl ?_
  refine RL.mv rfl rfl rfl ?_
  refine RL.binI (v := .int .i64 (wsub x45 x44)) rfl rfl rfl rfl rfl ?_
  refine RL.asg rfl rfl rfl ?_
  refine RL.finG ?_
  refine GL.seq ?_
  refine GL.seq ?_
  refine GL.region ?_
  refine RL.mv rfl rfl rfl ?_
  refine RL.binI (v := .bool (decide ((wsub x45 x44) ≤ (12 : Int)))) rfl rfl rfl rfl rfl ?_
  refine RL.finG ?_
  refine GL.cond rfl (fun b98 => ?_) (fun b98 => ?_)
  ·replace h92 := ite_t b98 h92
   refine GL.seq ?_
   refine GL.region ?_
   refine RL.mv rfl rfl rfl ?_
   refine RL.mv rfl rfl rfl ?_
   refine RL.mv rfl rfl rfl ?_
   obtain ⟨y105, e106, h92⟩ := bind_some h92
   refine RL.callK (vs := [v0, .int .i64 x44, .int .i64 x45]) (V := fun (o : Unit) => .tuple #[]) (LR := fun (o : Unit) => [own 3 TR.int v0 y105]) (Ls := [own 3 TR.int v0 l43]) [0] (by decide) Try_fit72 rfl rfl rfl rfl rfl rfl (fun S f X w hO hB hW hI hL => slices_insertionSortOrdered_int_c _ S X f w _ _ hO hB hI x44 x45 _ e106) ?_
   intro _
   refine RL.reL (L' := [gone, keep X, own 3 TR.int v0 y105]) rfl ?_
   refine RL.finG ?_
   cases h92
   replace h93 : some (Fl.rt _) = some y82 := h93
   cases h93
   have hh := h87 _ h85
   subst hh
   exact GL.ret (Gx.ret (v := .tuple #[]) (res0 rfl) (fun a w st => (st.pick [2, 1] (by decide) rfl).toPostM (V := fun (o : Unit) => .tuple #[]) (LR := fun (o : Unit) => [own 3 TR.int v0 y105, keep X]) ()))
  replace h92 := ite_f b98 h92
  refine GL.skip ?_
  refine GL.seq ?_
  refine GL.seq ?_
  refine GL.region ?_
  refine RL.mv rfl rfl rfl ?_
  refine RL.binI (v := .bool (x46 == (0 : Int))) rfl rfl rfl rfl rfl ?_
  refine RL.finG ?_
  refine GL.cond rfl (fun b119 => ?_) (fun b119 => ?_)
  ·replace h92 := ite_t b119 h92
   cases h92
  replace h92 := ite_f b119 h92
  cases h92
 rintro ⟨l43, x44, x45, x46, x47, x48⟩ h131
 have h132 := h86 _ h131
 try dsimp only at h132
 cases h132

set_option maxHeartbeats 4000000 in
theorem slices_Sort_int_int_pc (B : World) (S X : Hp) (f : Nat → Hp) (w : World) (v0 : Value) (x0 : (List Int)) (hO : HeapOk B.heap.size S f [own 3 TR.int v0 x0, keep X].length w) (hB : Below B.heap.size B w) (hI : Its [own 3 TR.int v0 x0, keep X] S f)  (res : (List Int)) (hm : slices_Sort_int_int_p x0 = some res) : Calls Try.prog 45 #[v0] w (PostM B S (fun (o : Unit) => .tuple #[]) (fun (o : Unit) => [own 3 TR.int v0 res, keep X])) := by
 refine calls_enterM 11 Try.func45 Try.ntmps45 rfl B S f [(0, v0)] [own 3 TR.int v0 x0, keep X] [] rfl ⟨rfl, trivial⟩ hB hO hI trivial ?_
 unfold slices_Sort_int_int_p at hm
 refine GL.seq ?_
 refine GL.region ?_
 refine RL.mv rfl rfl rfl ?_
 refine RL.lenS 0 Try.underlying22 rfl rfl rfl rfl SlOf.own ?_
 refine RL.asg rfl rfl rfl ?_
 refine RL.finG ?_
 refine GL.region ?_
 refine RL.mv rfl rfl rfl ?_
 refine RL.mv rfl rfl rfl ?_
 refine RL.mv rfl rfl rfl ?_
 refine RL.cvI Try.underlying3 Try.underlying96 rfl rfl rfl ?_
 obtain ⟨y6, e7, hm⟩ := bind_some hm
 refine RL.callC (v := .int .i64 y6) (vs := [.int .u64 (IntKind.wrap .u64 ((x0).length : Int))]) Try_fit68 rfl rfl rfl rfl (fun U w hU hW hL => math_bits_Len_c U w hU (IntKind.wrap .u64 ((x0).length : Int)) _ e7) ?_
 obtain ⟨y8, e9, hm⟩ := bind_some hm
 refine RL.callK (vs := [v0, .int .i64 (0 : Int), .int .i64 ((x0).length : Int), .int .i64 y6]) (V := fun (o : Unit) => .tuple #[]) (LR := fun (o : Unit) => [own 3 TR.int v0 y8]) (Ls := [own 3 TR.int v0 x0]) [0] (by decide) Try_fit67 rfl rfl rfl rfl rfl rfl (fun S f X w hO hB hW hI hL => slices_pdqsortOrdered_int_c _ S X f w _ _ hO hB hI (0 : Int) ((x0).length : Int) y6 _ e9) ?_
 intro _
 refine RL.reL (L' := [gone, keep X, own 3 TR.int v0 y8]) rfl ?_
 refine RL.finG ?_
 have hm := Option.some.inj hm
 subst hm
 exact GL.nil (Gx.retN (v := .tuple #[]) (res0 rfl) (fun a w st => (st.pick [2, 1] (by decide) rfl).toPostM (V := fun (o : Unit) => .tuple #[]) (LR := fun (o : Unit) => [own 3 TR.int v0 y8, keep X]) ()))
theorem slices_Sort_int_int_c (B : World) (S X : Hp) (f : Nat → Hp) (w : World) (v0 : Value) (x0 : (List Int)) (hO : HeapOk B.heap.size S f [own 3 TR.int v0 x0, keep X].length w) (hB : Below B.heap.size B w) (hI : Its [own 3 TR.int v0 x0, keep X] S f)  (res : (List Int)) (hm : slices_Sort_int_int_m x0 = some res) : Calls Try.prog 45 #[v0] w (PostM B S (fun (o : Unit) => .tuple #[]) (fun (o : Unit) => [own 3 TR.int v0 res, keep X])) := by
  unfold slices_Sort_int_int_m at hm
  by_cases h : x0.length ≤ 12
  · rw [if_pos h] at hm; exact slices_Sort_int_int_pc B S X f w v0 x0 hO hB hI res hm
  · rw [if_neg h] at hm
    by_cases hl : x0.length < 4611686018427387904
    · rw [show chk (x0.length < 4611686018427387904) = some () from if_pos hl] at hm
      cases hm
      exact sort_big Try.lays189 3 B S X f w v0 x0 hO hB hI (by rintro rfl; exact h (Nat.zero_le _)) hl
    · rw [show chk (x0.length < 4611686018427387904) = none from if_neg hl] at hm; cases hm

set_option maxHeartbeats 4000000 in
theorem peak_Middle_c (S : Hp) (w : World) (hS : S.sub w) (v0 : Value) (x0 : (List Int)) (k0 : ((TR.sl TR.int)).vrep S v0 x0) (v1 : Value) (x1 : (List (List Int))) (k1 : ((TR.sl (TR.sl TR.int))).vrep S v1 x1) (res : Int × Int) (hm : peak_Middle_m x0 x1 = some res) : Calls Try.prog 21 #[v0, v1] w (PostV w (.tuple #[.int .i64 res.1, .int .i64 res.2])) := by
 refine calls_enter 52 Try.func21 Try.ntmps21 rfl S false [(0, v0), (1, v1)] [imm (TR.sl TR.int) v0 x0, imm (TR.sl (TR.sl TR.int)) v1 x1] rfl ⟨rfl, ⟨rfl, trivial⟩⟩ hS ⟨k0, ⟨k1, trivial⟩⟩ ?_
 unfold peak_Middle_m at hm
 refine GL.seq ?_
 refine GL.region ?_
 refine RL.asg rfl rfl rfl ?_
 refine RL.asg rfl rfl rfl ?_
 refine RL.finG ?_
 refine GL.seq ?_
 refine GL.region ?_
 refine RL.mv rfl rfl rfl ?_
 refine RL.mv rfl rfl rfl ?_
 obtain ⟨y5, e6, hm⟩ := bind_some hm
 refine RL.callV (v := .tuple #[.bool y5.1, .int .i64 y5.2]) (vs := [v0, v1]) Try_fit49 rfl (Or.inl rfl) rfl rfl rfl rfl (fun U w hU hW hL => peak_All_c U w hU _ _ (hL 0 _ _ rfl Seen.imm) _ _ (hL 1 _ _ rfl Seen.imm) _ e6) ?_
 refine RL.mv rfl rfl rfl ?_
 refine RL.ext rfl rfl rfl rfl ?_
 refine RL.ext rfl rfl rfl rfl ?_
 refine RL.asg rfl rfl rfl ?_
 refine RL.asg rfl rfl rfl ?_
 refine RL.finG ?_
 refine GL.seq ?_
 refine GL.seq ?_
 refine GL.region ?_
 refine RL.mv rfl rfl rfl ?_
 refine RL.binI (v := .bool (y5.2 != (0 : Int))) rfl rfl rfl rfl rfl ?_
 refine RL.finG ?_
 refine GL.cond rfl (fun b7 => ?_) (fun b7 => ?_)
 ·replace hm := ite_t b7 hm
  refine GL.seq ?_
  refine GL.region ?_
  refine RL.mv rfl rfl rfl ?_
  refine RL.asg rfl rfl rfl ?_
  refine RL.asg rfl rfl rfl ?_
  refine RL.finG ?_
  have hm := Option.some.inj hm
  subst hm
  exact GL.ret (Gx.ret (v := .tuple #[.int .i64 (0 : Int), .int .i64 y5.2]) (res2 rfl rfl rfl) (fun a w st => st.toPostV))
 replace hm := ite_f b7 hm
 refine GL.skip ?_
 refine GL.seq ?_
 refine GL.seq ?_
 refine GL.region ?_
 refine RL.mv rfl rfl rfl ?_
 refine RL.notB rfl rfl rfl ?_
 refine RL.finG ?_
 refine GL.cond rfl (fun b8 => ?_) (fun b8 => ?_)
 ·replace hm := ite_t b8 hm
  refine GL.seq ?_
  refine GL.region ?_
  refine RL.asg rfl rfl rfl ?_
  refine RL.asg rfl rfl rfl ?_
  refine RL.finG ?_
  have hm := Option.some.inj hm
  subst hm
  exact GL.ret (Gx.ret (v := .tuple #[.int .i64 (0 : Int), .int .i64 (3 : Int)]) (res2 rfl rfl rfl) (fun a w st => st.toPostV))
 replace hm := ite_f b8 hm
 refine GL.skip ?_
 refine GL.seq ?_
 refine GL.seq ?_
 refine GL.region ?_
 refine RL.mv rfl rfl rfl ?_
 refine RL.lenS 1 Try.underlying27 rfl rfl rfl rfl SlOf.imm ?_
 refine RL.binI (v := .bool (((x1).length : Int) == (0 : Int))) rfl rfl rfl rfl rfl ?_
 refine RL.finG ?_
 refine GL.cond rfl (fun b9 => ?_) (fun b9 => ?_)
 ·replace hm := ite_t b9 hm
  refine GL.seq ?_
  refine GL.region ?_
  refine RL.asg rfl rfl rfl ?_
  refine RL.asg rfl rfl rfl ?_
  refine RL.finG ?_
  have hm := Option.some.inj hm
  subst hm
  exact GL.ret (Gx.ret (v := .tuple #[.int .i64 (0 : Int), .int .i64 (4 : Int)]) (res2 rfl rfl rfl) (fun a w st => st.toPostV))
 replace hm := ite_f b9 hm
 refine GL.skip ?_
 refine GL.seq ?_
 refine GL.region ?_
 refine RL.asg rfl rfl rfl ?_
 refine RL.finG ?_
 refine GL.seq ?_
 refine GL.seq ?_
 refine GL.region ?_
 refine RL.mv rfl rfl rfl ?_
 refine RL.lenS 1 Try.underlying27 rfl rfl rfl rfl SlOf.imm ?_
 refine RL.mv rfl rfl rfl ?_
 refine RL.finG ?_
 refine GL.weak (fun a w st => st.nilOwn 3 TR.int) ?_
 refine GL.open_ 1 rfl (fun S h => len_imm S h) (fun n34 => ?_)
 obtain ⟨y35, K36, h37, h38, h39, h40, h41⟩ := bindR_K hm
 refine GL.join (ι := (List Int) × Value) (fun (p : (List Int) × Value) => [(0, v0), (8, p.2)]) (fun (p : (List Int) × Value) => [imm (TR.sl TR.int) v0 x0, own 3 TR.int p.2 p.1]) (fun (p : (List Int) × Value) => K36 (.nx p.1)) ?_ ?_
 ·refine GL.block ?_
  refine GL.loop (ι := Nat × (List (List Int)) × (List Int) × Value) (fun (p : Nat × (List (List Int)) × (List Int) × Value) => [(0, v0), (8, p.2.2.2), (25, v1), (26, .int .i64 ((x1).length : Int)), (27, .int .i64 (p.1 : Int))]) (fun (p : Nat × (List (List Int)) × (List Int) × Value) => [imm (TR.sl TR.int) v0 x0, own 3 TR.int p.2.2.2 p.2.2.1, imm (TR.sl (TR.sl TR.int)) v1 x1]) (fun (p : Nat × (List (List Int)) × (List Int) × Value) => p.1 + p.2.1.length = (x1).length ∧ List.drop p.1 x1 = p.2.1 ∧ rangeL (peak_Middle_b1 x0) p.2.1 p.1 p.2.2.1 = some y35) (fun (p : Nat × (List (List Int)) × (List Int) × Value) => p.2.1.length) (0, x1, [], Value.slice none 0 0) ⟨by simp, by simp, h37⟩ (fun a w st => St.cut [0, 2, 1] ⟨rfl, rfl, rfl, rfl, rfl, trivial⟩ (by decide) rfl st) ?_
  rintro ⟨i42, r43, l10, v11⟩ ⟨h48, h49, h47⟩
  try dsimp only at h48 h49 h47
  refine GL.weak (env' := [(0, v0), (8, v11), (25, v1), (26, .int .i64 ((x1).length : Int)), (27, .int .i64 (i42 : Int))]) (L' := [imm (TR.sl TR.int) v0 x0, own 3 TR.int v11 l10, imm (TR.sl (TR.sl TR.int)) v1 x1]) (fun _ _ st => st) ?_
  refine GL.seq ?_
  refine GL.region ?_
  refine RL.binI (v := .bool (decide ((i42 : Int) < ((x1).length : Int)))) rfl rfl rfl rfl rfl ?_
  refine RL.finG ?_
  refine GL.seq ?_
  refine GL.cond rfl (fun b50 => ?_) (fun b50 => ?_)
  ·have h51 : i42 < (x1).length := by have := of_decide_eq_true b50; omega
   obtain ⟨y52, r54, hr, e53, h55⟩ := drop_cons h49 rfl h51
   subst hr
   obtain ⟨z44, h45, h46⟩ := rangeL_some h47
   unfold peak_Middle_b1 at h45
   try dsimp only at h45
   refine GL.skip ?_
   refine GL.seq ?_
   refine GL.block ?_
   refine GL.seq ?_
   refine GL.region ?_
   refine RL.idxS (sz := 1) 2 Try.underlying27 Try_ln22 rfl rfl rfl rfl rfl SlOf.imm (by omega) (by omega) ?_
   refine RL.ldS (i := i42) (r := (TR.sl TR.int)) (e' := y52) 2 Try_ln22 rfl rfl rfl rfl SlOf.imm e53 Part.self ?_
   intro v57
   refine RL.asg rfl rfl rfl ?_
   refine RL.finG ?_
   refine GL.region ?_
   refine RL.mv rfl rfl rfl ?_
   refine RL.mv rfl rfl rfl ?_
   refine RL.mv rfl rfl rfl ?_
   obtain ⟨y66, e67, h45⟩ := bind_some h45
   refine RL.idxS (sz := 1) 3 Try.underlying22 Try_ln3 rfl rfl rfl rfl rfl SlOf.imm (idx_some e67).1 (idx_some e67).2.1 ?_
   refine RL.ldSx (i := ((0 : Int)).toNat) (e' := y66) 3 Ex.ik Try_ln3 rfl rfl rfl rfl SlOf.imm (idx_some e67).2.2 Part.self ?_
   obtain ⟨y68, e69, h45⟩ := bind_some h45
   refine RL.callC (v := .int .i64 y68) (vs := [v0, .int .i64 y66]) Try_fit50 rfl rfl rfl rfl (fun U w hU hW hL => slices_Index_int_int_c U w hU _ _ (hL 0 _ _ rfl Seen.imm) y66 _ e69) ?_
   refine RL.bS (t := TR.int) (vs := [.int .i64 y68]) ([y68] : (List Int)) Try.underlying22 Try_lo3 rfl rfl rfl rfl ⟨VR.int, trivial⟩ rfl (by decide) ?_
   intro v70
   refine RL.reL (L' := [imm (TR.sl TR.int) v0 x0, own 3 TR.int v11 l10, imm (TR.sl (TR.sl TR.int)) v1 x1, imm (TR.sl TR.int) v57 y52, own 3 TR.int v70 ([y68] : (List Int))]) rfl ?_
   obtain ⟨y71, e72, h45⟩ := bind_some h45
   replace e72 := chk_some e72
   refine RL.app 1 4 Try.underlying22 Try_lo3 rfl rfl rfl rfl rfl rfl rfl SlOf.own e72 ?_
   intro v73
   refine RL.asg rfl rfl rfl ?_
   refine RL.finG ?_
   refine GL.nilB ?_
   refine GL.region ?_
   refine RL.binI (v := .int .i64 ((i42 + 1 : Nat) : Int)) rfl rfl rfl rfl (binI_succ i42 (by omega)) ?_
   refine RL.mv rfl rfl rfl ?_
   refine RL.fin ?_
   cases h45
   exact fun a w st => lop_intro (i42 + 1, r54, (l10 ++ ([y68] : (List Int))), v73) ⟨by show i42 + 1 + r54.length = (x1).length; simp only [List.length_cons] at h48; omega, h55, h46⟩ (by simp) (St.cut [0, 1, 2] ⟨rfl, rfl, rfl, rfl, rfl, trivial⟩ (by decide) rfl st)
  have h51 : ¬ i42 < (x1).length := by have := of_decide_eq_false b50; omega
  obtain rfl : r43 = [] := by rw [← h49]; exact List.drop_of_length_le (by omega)
  replace h47 : some (Fl.nx _) = some y35 := h47
  cases h47
  exact GL.exit (fun a w st => mid_intro (l10, v11) h38 (St.cut [0, 1] ⟨rfl, rfl, trivial⟩ (by decide) rfl st))
 rintro ⟨l10, v11⟩ h74
 have h75 := h39 _ h74
 try dsimp only at h75
 refine GL.weak (env' := [(0, v0), (8, v11)]) (L' := [imm (TR.sl TR.int) v0 x0, own 3 TR.int v11 l10]) (fun _ _ st => st) ?_
 refine GL.seq ?_
 refine GL.region ?_
 refine RL.mv rfl rfl rfl ?_
 obtain ⟨y78, e79, h75⟩ := bind_some h75
 refine RL.callK (vs := [v11]) (V := fun (o : Unit) => .tuple #[]) (LR := fun (o : Unit) => [own 3 TR.int v11 y78]) (Ls := [own 3 TR.int v11 l10]) [1] (by decide) Try_fit45 rfl rfl rfl rfl rfl rfl (fun S f X w hO hB hW hI hL => slices_Sort_int_int_c _ S X f w _ _ hO hB hI  _ e79) ?_
 intro _
 refine RL.reL (L' := [imm (TR.sl TR.int) v0 x0, gone, own 3 TR.int v11 y78]) rfl ?_
 refine RL.finG ?_
 refine GL.seq ?_
 refine GL.region ?_
 refine RL.mv rfl rfl rfl ?_
 refine RL.mv rfl rfl rfl ?_
 refine RL.mv rfl rfl rfl ?_
 refine RL.lenS 2 Try.underlying22 rfl rfl rfl rfl SlOf.own ?_
 refine RL.binI (v := .int .i64 (wsub ((y78).length : Int) (1 : Int))) rfl rfl rfl rfl rfl ?_
 obtain ⟨y86, e87, h75⟩ := bind_some h75
 replace e87 := chk_some e87
 refine RL.quo rfl rfl rfl rfl e87 ?_
 obtain ⟨y88, e89, h75⟩ := bind_some h75
 refine RL.idxS (sz := 1) 2 Try.underlying22 Try_ln3 rfl rfl rfl rfl rfl SlOf.own (idx_some e89).1 (idx_some e89).2.1 ?_
 refine RL.ldSx (i := (IntKind.wrap .i64 (Int.tdiv (wsub ((y78).length : Int) (1 : Int)) (2 : Int))).toNat) (e' := y88) 2 Ex.ik Try_ln3 rfl rfl rfl rfl SlOf.own (idx_some e89).2.2 Part.self ?_
 obtain ⟨y90, e91, h75⟩ := bind_some h75
 refine RL.idxS (sz := 1) 0 Try.underlying22 Try_ln3 rfl rfl rfl rfl rfl SlOf.imm (idx_some e91).1 (idx_some e91).2.1 ?_
 refine RL.ldSx (i := (y88).toNat) (e' := y90) 0 Ex.ik Try_ln3 rfl rfl rfl rfl SlOf.imm (idx_some e91).2.2 Part.self ?_
 refine RL.asg rfl rfl rfl ?_
 refine RL.asg rfl rfl rfl ?_
 refine RL.finG ?_
 have h75 := Option.some.inj h75
 subst h75
 exact GL.ret (Gx.ret (v := .tuple #[.int .i64 y90, .int .i64 (0 : Int)]) (res2 rfl rfl rfl) (fun a w st => st.toPostV))

set_option maxHeartbeats 4000000 in
theorem tally_Duels_c (S : Hp) (w : World) (hS : S.sub w) (x0 : Int) (v1 : Value) (x1 : (List (List Int))) (k1 : ((TR.sl (TR.sl TR.int))).vrep S v1 x1) (res : (List (List Int)) × Int) (hm : tally_Duels_m x0 x1 = some res) : Calls Try.prog 22 #[.int .i64 x0, v1] w (Post w S (fun (o : Value) => .tuple #[o, .int .i64 res.2]) (fun (o : Value) => [imm (TR.sl (TR.sl TR.int)) o res.1])) := by
 refine calls_enter 69 Try.func22 Try.ntmps22 rfl S false [(0, .int .i64 x0), (1, v1)] [imm (TR.sl (TR.sl TR.int)) v1 x1] rfl ⟨rfl, ⟨rfl, trivial⟩⟩ hS ⟨k1, trivial⟩ ?_
 unfold tally_Duels_m at hm
 refine GL.seq ?_
 refine GL.region ?_
 refine RL.asg rfl rfl rfl ?_
 refine RL.asg rfl rfl rfl ?_
 refine RL.finG ?_
 refine GL.seq ?_
 refine GL.seq ?_
 refine GL.region ?_
 refine RL.mv rfl rfl rfl ?_
 refine RL.mv rfl rfl rfl ?_
 obtain ⟨y5, e6, hm⟩ := bind_some hm
 refine RL.callV (v := .int .i64 y5) (vs := [.int .i64 x0, v1]) Try_fit51 rfl (Or.inl rfl) rfl rfl rfl rfl (fun U w hU hW hL => tally_Check_c U w hU x0 _ _ (hL 0 _ _ rfl Seen.imm) _ e6) ?_
 refine RL.asg rfl rfl rfl ?_
 refine RL.finG ?_
 refine GL.seq ?_
 refine GL.region ?_
 refine RL.mv rfl rfl rfl ?_
 refine RL.binI (v := .bool (y5 != (0 : Int))) rfl rfl rfl rfl rfl ?_
 refine RL.finG ?_
 refine GL.cond rfl (fun b7 => ?_) (fun b7 => ?_)
 ·replace hm := ite_t b7 hm
  refine GL.seq ?_
  refine GL.region ?_
  refine RL.mv rfl rfl rfl ?_
  refine RL.asg rfl rfl rfl ?_
  refine RL.asg rfl rfl rfl ?_
  refine RL.finG ?_
  refine GL.weak (fun a w st => st.nilImm (TR.sl TR.int)) ?_
  have hm := Option.some.inj hm
  subst hm
  exact GL.ret (Gx.ret (v := .tuple #[Value.slice none 0 0, .int .i64 y5]) (res2 rfl rfl rfl) (fun a w st => (st.pick [1] (by decide) rfl).toPost (Value.slice none 0 0)))
 replace hm := ite_f b7 hm
 refine GL.skip ?_
 refine GL.seq ?_
 refine GL.region ?_
 refine RL.mv rfl rfl rfl ?_
 obtain ⟨y11, e12, hm⟩ := bind_some hm
 replace e12 := chk_some e12
 refine RL.mkS (t := TR.raw) (z := .slice none 0 0) Try.underlying27 Try_lo22 (fun S => ⟨rfl, rfl⟩) rfl rfl rfl rfl e12.1 e12.2 ?_
 intro v13
 refine RL.weak (fun a w st => st.toRows 3 TR.int 1 rfl) ?_
 refine RL.reL (L' := [imm (TR.sl (TR.sl TR.int)) v1 x1, own2 22 3 TR.int v13 (List.replicate (x0).toNat (Value.slice none 0 0)) (List.replicate (x0).toNat ([] : (List Int)))]) rfl ?_
 refine RL.asg rfl rfl rfl ?_
 refine RL.finG ?_
 refine GL.seq ?_
 refine GL.seq ?_
 refine GL.region ?_
 refine RL.mv rfl rfl rfl ?_
 refine RL.lenR 1 Try.underlying27 rfl rfl rfl rfl ?_
 refine RL.mv rfl rfl rfl ?_
 refine RL.finG ?_
 refine GL.lenR 1 rfl (fun n36 => ?_)
 obtain ⟨y37, K38, h39, h40, h41, h42, h43⟩ := bindR_K hm
 refine GL.join (ι := (List (List Int)) × (List Value)) (fun (p : (List (List Int)) × (List Value)) => [(1, v1), (7, v13)]) (fun (p : (List (List Int)) × (List Value)) => [imm (TR.sl (TR.sl TR.int)) v1 x1, own2 22 3 TR.int v13 p.2 p.1]) (fun (p : (List (List Int)) × (List Value)) => K38 (.nx p.1)) ?_ ?_
 ·refine GL.block ?_
  refine GL.loop (ι := Nat × Nat × (List (List Int)) × (List Value)) (fun (p : Nat × Nat × (List (List Int)) × (List Value)) => [(0, .int .i64 x0), (1, v1), (7, v13), (24, .int .i64 (((List.replicate (x0).toNat ([] : (List Int)))).length : Int)), (25, .int .i64 (p.1 : Int))]) (fun (p : Nat × Nat × (List (List Int)) × (List Value)) => [imm (TR.sl (TR.sl TR.int)) v1 x1, own2 22 3 TR.int v13 p.2.2.2 p.2.2.1]) (fun (p : Nat × Nat × (List (List Int)) × (List Value)) => p.1 + p.2.1 = ((List.replicate (x0).toNat ([] : (List Int)))).length ∧ rangeN (tally_Duels_b1 x0) p.2.1 p.1 p.2.2.1 = some y37) (fun (p : Nat × Nat × (List (List Int)) × (List Value)) => p.2.1) (0, ((List.replicate (x0).toNat ([] : (List Int)))).length, (List.replicate (x0).toNat ([] : (List Int))), (List.replicate (x0).toNat (Value.slice none 0 0))) ⟨by simp, h39⟩ (fun a w st => St.cut [0, 1] ⟨rfl, rfl, rfl, rfl, rfl, trivial⟩ (by decide) rfl st) ?_
  rintro ⟨i44, r45, l24, V25⟩ ⟨h50, h49⟩
  try dsimp only at h50 h49
  refine GL.weak (env' := [(0, .int .i64 x0), (1, v1), (7, v13), (24, .int .i64 (((List.replicate (x0).toNat ([] : (List Int)))).length : Int)), (25, .int .i64 (i44 : Int))]) (L' := [imm (TR.sl (TR.sl TR.int)) v1 x1, own2 22 3 TR.int v13 V25 l24]) (fun _ _ st => st) ?_
  refine GL.seq ?_
  refine GL.region ?_
  refine RL.binI (v := .bool (decide ((i44 : Int) < (((List.replicate (x0).toNat ([] : (List Int)))).length : Int)))) rfl rfl rfl rfl rfl ?_
  refine RL.finG ?_
  refine GL.seq ?_
  refine GL.cond rfl (fun b52 => ?_) (fun b52 => ?_)
  ·have h53 : i44 < ((List.replicate (x0).toNat ([] : (List Int)))).length := by have := of_decide_eq_true b52; omega
   obtain ⟨r54, hr⟩ : ∃ m, r45 = m + 1 := ⟨r45 - 1, by omega⟩
   subst hr
   obtain ⟨z46, h47, h48⟩ := rangeN_some h49
   unfold tally_Duels_b1 at h47
   try dsimp only at h47
   refine GL.skip ?_
   refine GL.seq ?_
   refine GL.block ?_
   refine GL.seq ?_
   refine GL.region ?_
   refine RL.mv rfl rfl rfl ?_
   refine RL.asg rfl rfl rfl ?_
   refine RL.finG ?_
   refine GL.region ?_
   refine RL.mv rfl rfl rfl ?_
   refine RL.mv rfl rfl rfl ?_
   refine RL.mv rfl rfl rfl ?_
   obtain ⟨y60, e61, h47⟩ := bind_some h47
   replace e61 := chk_some e61
   refine RL.mkS (t := TR.int) (z := (0 : Int)) Try.underlying22 Try_lo3 (fun S => rfl) rfl rfl rfl rfl e61.1 e61.2 ?_
   intro v62
   obtain ⟨y63, e64, h47⟩ := bind_some h47
   refine RL.idxR 1 Try.underlying27 Try_ln22 rfl rfl rfl rfl rfl (idx_some e64).1 (idx_some e64).2.1 ?_
   refine RL.stSp (i := i44) (r0 := y63) 1 2 (by decide) Try_ln22 rfl rfl rfl rfl rfl rfl (idx_some e64).2.2 ?_
   refine RL.reL (L' := [imm (TR.sl (TR.sl TR.int)) v1 x1, own2 22 3 TR.int v13 (List.set V25 i44 v62) (List.set l24 i44 (List.replicate (x0).toNat (0 : Int))), gone]) rfl ?_
   refine RL.finG ?_
   refine GL.nilB ?_
   refine GL.region ?_
   refine RL.binI (v := .int .i64 ((i44 + 1 : Nat) : Int)) rfl rfl rfl rfl (binI_succ i44 (by omega)) ?_
   refine RL.mv rfl rfl rfl ?_
   refine RL.fin ?_
   cases h47
   exact fun a w st => lop_intro (i44 + 1, r54, (List.set l24 i44 (List.replicate (x0).toNat (0 : Int))), (List.set V25 i44 v62)) ⟨by show i44 + 1 + r54 = ((List.replicate (x0).toNat ([] : (List Int)))).length; omega, h48⟩ (by simp) (St.cut [0, 1] ⟨rfl, rfl, rfl, rfl, rfl, trivial⟩ (by decide) rfl st)
  have h53 : ¬ i44 < ((List.replicate (x0).toNat ([] : (List Int)))).length := by have := of_decide_eq_false b52; omega
  obtain rfl : r45 = 0 := by omega
  replace h49 : some (Fl.nx _) = some y37 := h49
  cases h49
  exact GL.exit (fun a w st => mid_intro (l24, V25) h40 (St.cut [0, 1] ⟨rfl, rfl, trivial⟩ (by decide) rfl st))
 rintro ⟨l24, V25⟩ h65
 have h66 := h41 _ h65
 try dsimp only at h66
 refine GL.weak (env' := [(1, v1), (7, v13)]) (L' := [imm (TR.sl (TR.sl TR.int)) v1 x1, own2 22 3 TR.int v13 V25 l24]) (fun _ _ st => st) ?_
 refine GL.seq ?_
 refine GL.seq ?_
 refine GL.region ?_
 refine RL.mv rfl rfl rfl ?_
 refine RL.lenS 0 Try.underlying27 rfl rfl rfl rfl SlOf.imm ?_
 refine RL.mv rfl rfl rfl ?_
 refine RL.finG ?_
 refine GL.open_ 0 rfl (fun S h => len_imm S h) (fun n605 => ?_)
 obtain ⟨y606, K607, h608, h609, h610, h611, h612⟩ := bindR_K h66
 refine GL.join (ι := (List (List Int)) × (List Value)) (fun (p : (List (List Int)) × (List Value)) => [(7, v13)]) (fun (p : (List (List Int)) × (List Value)) => [own2 22 3 TR.int v13 p.2 p.1]) (fun (p : (List (List Int)) × (List Value)) => K607 (.nx p.1)) ?_ ?_
 ·refine GL.block ?_
  refine GL.loop (ι := Nat × (List (List Int)) × (List (List Int)) × (List Value)) (fun (p : Nat × (List (List Int)) × (List (List Int)) × (List Value)) => [(7, v13), (34, v1), (35, .int .i64 ((x1).length : Int)), (36, .int .i64 (p.1 : Int))]) (fun (p : Nat × (List (List Int)) × (List (List Int)) × (List Value)) => [own2 22 3 TR.int v13 p.2.2.2 p.2.2.1, imm (TR.sl (TR.sl TR.int)) v1 x1]) (fun (p : Nat × (List (List Int)) × (List (List Int)) × (List Value)) => p.1 + p.2.1.length = (x1).length ∧ List.drop p.1 x1 = p.2.1 ∧ rangeL tally_Duels_b2 p.2.1 p.1 p.2.2.1 = some y606) (fun (p : Nat × (List (List Int)) × (List (List Int)) × (List Value)) => p.2.1.length) (0, x1, l24, V25) ⟨by simp, by simp, h608⟩ (fun a w st => St.cut [1, 0] ⟨rfl, rfl, rfl, rfl, trivial⟩ (by decide) rfl st) ?_
  rintro ⟨i613, r614, l335, V336⟩ ⟨h619, h620, h618⟩
  try dsimp only at h619 h620 h618
  refine GL.weak (env' := [(7, v13), (34, v1), (35, .int .i64 ((x1).length : Int)), (36, .int .i64 (i613 : Int))]) (L' := [own2 22 3 TR.int v13 V336 l335, imm (TR.sl (TR.sl TR.int)) v1 x1]) (fun _ _ st => st) ?_
  refine GL.seq ?_
  refine GL.region ?_
  refine RL.binI (v := .bool (decide ((i613 : Int) < ((x1).length : Int)))) rfl rfl rfl rfl rfl ?_
  refine RL.finG ?_
  refine GL.seq ?_
  refine GL.cond rfl (fun b621 => ?_) (fun b621 => ?_)
  ·have h622 : i613 < (x1).length := by have := of_decide_eq_true b621; omega
   obtain ⟨y623, r625, hr, e624, h626⟩ := drop_cons h620 rfl h622
   subst hr
   obtain ⟨z615, h616, h617⟩ := rangeL_some h618
   unfold tally_Duels_b2 at h616
   try dsimp only at h616
   refine GL.skip ?_
   refine GL.seq ?_
   refine GL.block ?_
   refine GL.seq ?_
   refine GL.region ?_
   refine RL.idxS (sz := 1) 1 Try.underlying27 Try_ln22 rfl rfl rfl rfl rfl SlOf.imm (by omega) (by omega) ?_
   refine RL.ldS (i := i613) (r := (TR.sl TR.int)) (e' := y623) 1 Try_ln22 rfl rfl rfl rfl SlOf.imm e624 Part.self ?_
   intro v628
   refine RL.asg rfl rfl rfl ?_
   refine RL.finG ?_
   refine GL.seq ?_
   refine GL.region ?_
   refine RL.mv rfl rfl rfl ?_
   refine RL.lenS 2 Try.underlying22 rfl rfl rfl rfl SlOf.imm ?_
   refine RL.mv rfl rfl rfl ?_
   refine RL.finG ?_
   refine GL.open_ 2 rfl (fun S h => len_imm S h) (fun n791 => ?_)
   obtain ⟨y792, K793, h794, h795, h796, h797, h798⟩ := bindF_K h616
   refine GL.join (ι := (List (List Int)) × (List Value)) (fun (p : (List (List Int)) × (List Value)) => [(7, v13), (34, v1), (35, .int .i64 ((x1).length : Int)), (36, .int .i64 (i613 : Int))]) (fun (p : (List (List Int)) × (List Value)) => [own2 22 3 TR.int v13 p.2 p.1, imm (TR.sl (TR.sl TR.int)) v1 x1]) (fun (p : (List (List Int)) × (List Value)) => K793 (.nx p.1)) ?_ ?_
   ·refine GL.block ?_
    refine GL.loop (ι := Nat × (List Int) × (List (List Int)) × (List Value)) (fun (p : Nat × (List Int) × (List (List Int)) × (List Value)) => [(7, v13), (10, v628), (34, v1), (35, .int .i64 ((x1).length : Int)), (36, .int .i64 (i613 : Int)), (40, v628), (41, .int .i64 ((y623).length : Int)), (42, .int .i64 (p.1 : Int))]) (fun (p : Nat × (List Int) × (List (List Int)) × (List Value)) => [own2 22 3 TR.int v13 p.2.2.2 p.2.2.1, imm (TR.sl TR.int) v628 y623, imm (TR.sl (TR.sl TR.int)) v1 x1]) (fun (p : Nat × (List Int) × (List (List Int)) × (List Value)) => p.1 + p.2.1.length = (y623).length ∧ List.drop p.1 y623 = p.2.1 ∧ rangeL (tally_Duels_b3 y623) p.2.1 p.1 p.2.2.1 = some y792) (fun (p : Nat × (List Int) × (List (List Int)) × (List Value)) => p.2.1.length) (0, y623, l335, V336) ⟨by simp, by simp, h794⟩ (fun a w st => St.cut [0, 2, 1] ⟨rfl, rfl, rfl, rfl, rfl, rfl, rfl, rfl, trivial⟩ (by decide) rfl st) ?_
    rintro ⟨i799, r800, l709, V710⟩ ⟨h805, h806, h804⟩
    try dsimp only at h805 h806 h804
    refine GL.weak (env' := [(7, v13), (10, v628), (34, v1), (35, .int .i64 ((x1).length : Int)), (36, .int .i64 (i613 : Int)), (40, v628), (41, .int .i64 ((y623).length : Int)), (42, .int .i64 (i799 : Int))]) (L' := [own2 22 3 TR.int v13 V710 l709, imm (TR.sl TR.int) v628 y623, imm (TR.sl (TR.sl TR.int)) v1 x1]) (fun _ _ st => st) ?_
    refine GL.seq ?_
    refine GL.region ?_
    refine RL.binI (v := .bool (decide ((i799 : Int) < ((y623).length : Int)))) rfl rfl rfl rfl rfl ?_
    refine RL.finG ?_
    refine GL.seq ?_
    refine GL.cond rfl (fun b807 => ?_) (fun b807 => ?_)
    ·have h808 : i799 < (y623).length := by have := of_decide_eq_true b807; omega
     obtain ⟨y809, r811, hr, e810, h812⟩ := drop_cons h806 rfl h808
     subst hr
     obtain ⟨z801, h802, h803⟩ := rangeL_some h804
     unfold tally_Duels_b3 at h802
     try dsimp only at h802
     refine GL.skip ?_
     refine GL.seq ?_
     refine GL.block ?_
     refine GL.seq ?_
     refine GL.region ?_
     refine RL.mv rfl rfl rfl ?_
     refine RL.idxS (sz := 1) 1 Try.underlying22 Try_ln3 rfl rfl rfl rfl rfl SlOf.imm (by omega) (by omega) ?_
     refine RL.ldSx (i := i799) (e' := y809) 1 Ex.ik Try_ln3 rfl rfl rfl rfl SlOf.imm e810 Part.self ?_
     refine RL.asg rfl rfl rfl ?_
     refine RL.asg rfl rfl rfl ?_
     refine RL.finG ?_
     refine GL.seq ?_
     refine GL.region ?_
     refine RL.mv rfl rfl rfl ?_
     refine RL.mv rfl rfl rfl ?_
     refine RL.binI (v := .int .i64 (wadd (i799 : Int) (1 : Int))) rfl rfl rfl rfl rfl ?_
     obtain ⟨y816, e817, h802⟩ := bind_some h802
     replace e817 := chk_some e817
     refine RL.slc (t := TR.int) (i := (wadd (i799 : Int) (1 : Int)).toNat) (j := (y623).length) (sz := 1) 1 Try.underlying22 Try_ln3 rfl rfl rfl rfl (Or.inr ⟨_, _, rfl, by rw [Int.toNat_of_nonneg (by omega)]; rfl⟩) (Or.inl ⟨rfl, rfl⟩) rfl (by omega) (by omega) ?_
     intro v818
     refine RL.lenS 3 Try.underlying22 rfl rfl rfl rfl SlOf.imm ?_
     refine RL.mv rfl rfl rfl ?_
     refine RL.finG ?_
     refine GL.open_ 3 rfl (fun S h => len_imm S h) (fun n853 => ?_)
     obtain ⟨y854, K855, h856, h857, h858, h859, h860⟩ := bindF_K h802
     refine GL.join (ι := (List (List Int)) × (List Value)) (fun (p : (List (List Int)) × (List Value)) => [(7, v13), (10, v628), (34, v1), (35, .int .i64 ((x1).length : Int)), (36, .int .i64 (i613 : Int)), (40, v628), (41, .int .i64 ((y623).length : Int)), (42, .int .i64 (i799 : Int))]) (fun (p : (List (List Int)) × (List Value)) => [own2 22 3 TR.int v13 p.2 p.1, imm (TR.sl TR.int) v628 y623, imm (TR.sl (TR.sl TR.int)) v1 x1]) (fun (p : (List (List Int)) × (List Value)) => K855 (.nx p.1)) ?_ ?_
     ·refine GL.block ?_
      refine GL.loop (ι := Nat × (List Int) × (List (List Int)) × (List Value)) (fun (p : Nat × (List Int) × (List (List Int)) × (List Value)) => [(7, v13), (10, v628), (12, .int .i64 y809), (34, v1), (35, .int .i64 ((x1).length : Int)), (36, .int .i64 (i613 : Int)), (40, v628), (41, .int .i64 ((y623).length : Int)), (42, .int .i64 (i799 : Int)), (50, v818), (51, .int .i64 ((((List.take ((y623).length) y623).drop ((wadd (i799 : Int) (1 : Int)).toNat))).length : Int)), (52, .int .i64 (p.1 : Int))]) (fun (p : Nat × (List Int) × (List (List Int)) × (List Value)) => [own2 22 3 TR.int v13 p.2.2.2 p.2.2.1, imm (TR.sl TR.int) v628 y623, imm (TR.sl (TR.sl TR.int)) v1 x1, imm (TR.sl TR.int) v818 ((List.take ((y623).length) y623).drop ((wadd (i799 : Int) (1 : Int)).toNat))]) (fun (p : Nat × (List Int) × (List (List Int)) × (List Value)) => p.1 + p.2.1.length = (((List.take ((y623).length) y623).drop ((wadd (i799 : Int) (1 : Int)).toNat))).length ∧ List.drop p.1 ((List.take ((y623).length) y623).drop ((wadd (i799 : Int) (1 : Int)).toNat)) = p.2.1 ∧ rangeL (tally_Duels_b4 y809) p.2.1 p.1 p.2.2.1 = some y854) (fun (p : Nat × (List Int) × (List (List Int)) × (List Value)) => p.2.1.length) (0, ((List.take ((y623).length) y623).drop ((wadd (i799 : Int) (1 : Int)).toNat)), l709, V710) ⟨by simp, by simp, h856⟩ (fun a w st => St.cut [0, 1, 2, 3] ⟨rfl, rfl, rfl, rfl, rfl, rfl, rfl, rfl, rfl, rfl, rfl, rfl, trivial⟩ (by decide) rfl st) ?_
      rintro ⟨i861, r862, l835, V836⟩ ⟨h867, h868, h866⟩
      try dsimp only at h867 h868 h866
      refine GL.weak (env' := [(7, v13), (10, v628), (12, .int .i64 y809), (34, v1), (35, .int .i64 ((x1).length : Int)), (36, .int .i64 (i613 : Int)), (40, v628), (41, .int .i64 ((y623).length : Int)), (42, .int .i64 (i799 : Int)), (50, v818), (51, .int .i64 ((((List.take ((y623).length) y623).drop ((wadd (i799 : Int) (1 : Int)).toNat))).length : Int)), (52, .int .i64 (i861 : Int))]) (L' := [own2 22 3 TR.int v13 V836 l835, imm (TR.sl TR.int) v628 y623, imm (TR.sl (TR.sl TR.int)) v1 x1, imm (TR.sl TR.int) v818 ((List.take ((y623).length) y623).drop ((wadd (i799 : Int) (1 : Int)).toNat))]) (fun _ _ st => st) ?_
      refine GL.seq ?_
      refine GL.region ?_
      refine RL.binI (v := .bool (decide ((i861 : Int) < ((((List.take ((y623).length) y623).drop ((wadd (i799 : Int) (1 : Int)).toNat))).length : Int)))) rfl rfl rfl rfl rfl ?_
      refine RL.finG ?_
      refine GL.seq ?_
      refine GL.cond rfl (fun b869 => ?_) (fun b869 => ?_)
      ·have h870 : i861 < (((List.take ((y623).length) y623).drop ((wadd (i799 : Int) (1 : Int)).toNat))).length := by have := of_decide_eq_true b869; omega
       obtain ⟨y871, r873, hr, e872, h874⟩ := drop_cons h868 rfl h870
       subst hr
       obtain ⟨z863, h864, h865⟩ := rangeL_some h866
       unfold tally_Duels_b4 at h864
       try dsimp only at h864
       refine GL.skip ?_
       refine GL.seq ?_
       refine GL.block ?_
       refine GL.seq ?_
       refine GL.region ?_
       refine RL.idxS (sz := 1) 3 Try.underlying22 Try_ln3 rfl rfl rfl rfl rfl SlOf.imm (by omega) (by omega) ?_
       refine RL.ldSx (i := i861) (e' := y871) 3 Ex.ik Try_ln3 rfl rfl rfl rfl SlOf.imm e872 Part.self ?_
       refine RL.asg rfl rfl rfl ?_
       refine RL.finG ?_
       refine GL.region ?_
       refine RL.mv rfl rfl rfl ?_
       refine RL.mv rfl rfl rfl ?_
       obtain ⟨y881, e882, h864⟩ := bind_some h864
       refine RL.idxR 0 Try.underlying27 Try_ln22 rfl rfl rfl rfl rfl (idx_some e882).1 (idx_some e882).2.1 ?_
       refine RL.ldR (i := (y809).toNat) (r := y881) 0 Try_ln22 rfl rfl rfl rfl (idx_some e882).2.2 ?_
       refine RL.mv rfl rfl rfl ?_
       obtain ⟨y883, e884, h864⟩ := bind_some h864
       refine RL.idxS (sz := 1) 0 Try.underlying22 Try_ln3 rfl rfl rfl rfl rfl (SlOf.row (idx_some e882).2.2) (idx_some e884).1 (idx_some e884).2.1 ?_
       refine RL.ldSx (i := (y871).toNat) (e' := y883) 0 Ex.ik Try_ln3 rfl rfl rfl rfl (SlOf.row (idx_some e882).2.2) (idx_some e884).2.2 Part.self ?_
       refine RL.binI (v := .int .i64 (wadd y883 (1 : Int))) rfl rfl rfl rfl rfl ?_
       obtain ⟨y885, e886, h864⟩ := bind_some h864
       refine RL.idxS (sz := 1) 0 Try.underlying22 Try_ln3 rfl rfl rfl rfl rfl (SlOf.row (idx_some e882).2.2) (idx_some e886).1 (idx_some e886).2.1 ?_
       refine RL.stR (i := (y809).toNat) (j := (y871).toNat) (row := y881) (e' := wadd y883 (1 : Int)) (e1 := wadd y883 (1 : Int)) (r := TR.int) 0 Try_ln3 rfl rfl rfl rfl VR.int rfl (idx_some e882).2.2 (idx_some e886).2.2 Upd.self ?_
       refine RL.finG ?_
       refine GL.nilB ?_
       refine GL.region ?_
       refine RL.binI (v := .int .i64 ((i861 + 1 : Nat) : Int)) rfl rfl rfl rfl (binI_succ i861 (by omega)) ?_
       refine RL.mv rfl rfl rfl ?_
       refine RL.fin ?_
       cases h864
       exact fun a w st => lop_intro (i861 + 1, r873, (List.set l835 ((y809).toNat) (List.set y881 ((y871).toNat) (wadd y883 (1 : Int)))), V836) ⟨by show i861 + 1 + r873.length = (((List.take ((y623).length) y623).drop ((wadd (i799 : Int) (1 : Int)).toNat))).length; simp only [List.length_cons] at h867; omega, h874, h865⟩ (by simp) (St.cut [0, 1, 2, 3] ⟨rfl, rfl, rfl, rfl, rfl, rfl, rfl, rfl, rfl, rfl, rfl, rfl, trivial⟩ (by decide) rfl st)
      have h870 : ¬ i861 < (((List.take ((y623).length) y623).drop ((wadd (i799 : Int) (1 : Int)).toNat))).length := by have := of_decide_eq_false b869; omega
      obtain rfl : r862 = [] := by rw [← h868]; exact List.drop_of_length_le (by omega)
      replace h866 : some (Fl.nx _) = some y854 := h866
      cases h866
      exact GL.exit (fun a w st => mid_intro (l835, V836) h857 (St.cut [0, 1, 2] ⟨rfl, rfl, rfl, rfl, rfl, rfl, rfl, rfl, trivial⟩ (by decide) rfl st))
     rintro ⟨l835, V836⟩ h887
     have h888 := h858 _ h887
     try dsimp only at h888
     refine GL.weak (env' := [(7, v13), (10, v628), (34, v1), (35, .int .i64 ((x1).length : Int)), (36, .int .i64 (i613 : Int)), (40, v628), (41, .int .i64 ((y623).length : Int)), (42, .int .i64 (i799 : Int))]) (L' := [own2 22 3 TR.int v13 V836 l835, imm (TR.sl TR.int) v628 y623, imm (TR.sl (TR.sl TR.int)) v1 x1]) (fun _ _ st => st) ?_
     refine GL.nilB ?_
     refine GL.region ?_
     refine RL.binI (v := .int .i64 ((i799 + 1 : Nat) : Int)) rfl rfl rfl rfl (binI_succ i799 (by omega)) ?_
     refine RL.mv rfl rfl rfl ?_
     refine RL.fin ?_
     cases h888
     exact fun a w st => lop_intro (i799 + 1, r811, l835, V836) ⟨by show i799 + 1 + r811.length = (y623).length; simp only [List.length_cons] at h805; omega, h812, h803⟩ (by simp) (St.cut [0, 1, 2] ⟨rfl, rfl, rfl, rfl, rfl, rfl, rfl, rfl, trivial⟩ (by decide) rfl st)
    have h808 : ¬ i799 < (y623).length := by have := of_decide_eq_false b807; omega
    obtain rfl : r800 = [] := by rw [← h806]; exact List.drop_of_length_le (by omega)
    replace h804 : some (Fl.nx _) = some y792 := h804
    cases h804
    exact GL.exit (fun a w st => mid_intro (l709, V710) h795 (St.cut [0, 2] ⟨rfl, rfl, rfl, rfl, trivial⟩ (by decide) rfl st))
   rintro ⟨l709, V710⟩ h889
   have h890 := h796 _ h889
   try dsimp only at h890
   refine GL.weak (env' := [(7, v13), (34, v1), (35, .int .i64 ((x1).length : Int)), (36, .int .i64 (i613 : Int))]) (L' := [own2 22 3 TR.int v13 V710 l709, imm (TR.sl (TR.sl TR.int)) v1 x1]) (fun _ _ st => st) ?_
   refine GL.nilB ?_
   refine GL.region ?_
   refine RL.binI (v := .int .i64 ((i613 + 1 : Nat) : Int)) rfl rfl rfl rfl (binI_succ i613 (by omega)) ?_
   refine RL.mv rfl rfl rfl ?_
   refine RL.fin ?_
   cases h890
   exact fun a w st => lop_intro (i613 + 1, r625, l709, V710) ⟨by show i613 + 1 + r625.length = (x1).length; simp only [List.length_cons] at h619; omega, h626, h617⟩ (by simp) (St.cut [0, 1] ⟨rfl, rfl, rfl, rfl, trivial⟩ (by decide) rfl st)
  have h622 : ¬ i613 < (x1).length := by have := of_decide_eq_false b621; omega
  obtain rfl : r614 = [] := by rw [← h620]; exact List.drop_of_length_le (by omega)
  replace h618 : some (Fl.nx _) = some y606 := h618
  cases h618
  exact GL.exit (fun a w st => mid_intro (l335, V336) h609 (St.cut [0] ⟨rfl, trivial⟩ (by decide) rfl st))
 rintro ⟨l335, V336⟩ h891
 have h892 := h610 _ h891
 try dsimp only at h892
 refine GL.weak (env' := [(7, v13)]) (L' := [own2 22 3 TR.int v13 V336 l335]) (fun _ _ st => st) ?_
 refine GL.seq ?_
 refine GL.region ?_
 refine RL.mv rfl rfl rfl ?_
 refine RL.asg rfl rfl rfl ?_
 refine RL.asg rfl rfl rfl ?_
 refine RL.finG ?_
 refine GL.weak (fun a w st => st.freeze2 0 rfl) ?_
 have h892 := Option.some.inj h892
 subst h892
 exact GL.ret (Gx.ret (v := .tuple #[v13, .int .i64 (0 : Int)]) (res2 rfl rfl rfl) (fun a w st => (st.pick [0] (by decide) rfl).toPost v13))

set_option maxHeartbeats 4000000 in
theorem duel_Check_c (S : Hp) (w : World) (hS : S.sub w) (v0 : Value) (x0 : (List (List Int))) (k0 : ((TR.sl (TR.sl TR.int))).vrep S v0 x0) (res : Int) (hm : duel_Check_m x0 = some res) : Calls Try.prog 53 #[v0] w (PostC w (.int .i64 res)) := by
 refine calls_enter 55 Try.func53 Try.ntmps53 rfl S true [(0, v0)] [imm (TR.sl (TR.sl TR.int)) v0 x0] rfl ⟨rfl, trivial⟩ hS ⟨k0, trivial⟩ ?_
 unfold duel_Check_m at hm
 refine GL.seq ?_
 refine GL.region ?_
 refine RL.asg rfl rfl rfl ?_
 refine RL.finG ?_
 refine GL.seq ?_
 refine GL.seq ?_
 obtain ⟨y5, K6, h7, h8, h9, h10, h11⟩ := bindR_K hm
 refine GL.join (ι := Bool) (fun (p : Bool) => [(0, v0), (15, .bool p)]) (fun (p : Bool) => [imm (TR.sl (TR.sl TR.int)) v0 x0]) (fun (p : Bool) => K6 (.nx p)) ?_ ?_
 ·skip
  refine GL.region ?_
  refine RL.mv rfl rfl rfl ?_
  refine RL.lenS 0 Try.underlying27 rfl rfl rfl rfl SlOf.imm ?_
  refine RL.binI (v := .bool (decide (((x0).length : Int) < (1 : Int)))) rfl rfl rfl rfl rfl ?_
  refine RL.mv rfl rfl rfl ?_
  refine RL.split (t := 11) rfl (fun b12 => ?_) (fun b12 => ?_)
  ·replace h7 := ite_t b12 h7
   refine RL.skip rfl rfl ?_
   refine RL.skip rfl rfl ?_
   refine RL.skip rfl rfl ?_
   refine RL.pickT rfl rfl rfl rfl ?_
   refine RL.fin ?_
   cases h7
   exact fun a w st => mid_intro true h8 (St.cut [0] ⟨rfl, rfl, trivial⟩ (by decide) rfl st)
  replace h7 := ite_f b12 h7
  refine RL.mv rfl rfl rfl ?_
  refine RL.lenS 0 Try.underlying27 rfl rfl rfl rfl SlOf.imm ?_
  refine RL.binI (v := .bool (decide (((x0).length : Int) > (6 : Int)))) rfl rfl rfl rfl rfl ?_
  refine RL.pickF rfl rfl rfl rfl ?_
  refine RL.fin ?_
  cases h7
  exact fun a w st => mid_intro (decide (((x0).length : Int) > (6 : Int))) h8 (St.cut [0] ⟨rfl, rfl, trivial⟩ (by decide) rfl st)
 rintro x4 h13
 have h14 := h9 _ h13
 try dsimp only at h14
 refine GL.weak (env' := [(0, v0), (15, .bool x4)]) (L' := [imm (TR.sl (TR.sl TR.int)) v0 x0]) (fun _ _ st => st) ?_
 refine GL.cond rfl (fun b15 => ?_) (fun b15 => ?_)
 ·replace h14 := ite_t b15 h14
  refine GL.seq ?_
  refine GL.region ?_
  refine RL.asg rfl rfl rfl ?_
  refine RL.finG ?_
  have h14 := Option.some.inj h14
  subst h14
  exact GL.ret (Gx.ret (v := .int .i64 (2 : Int)) (res1 rfl rfl) (fun a w st => st.toPostC rfl))
 replace h14 := ite_f b15 h14
 refine GL.skip ?_
 refine GL.seq ?_
 refine GL.seq ?_
 refine GL.region ?_
 refine RL.mv rfl rfl rfl ?_
 refine RL.lenS 0 Try.underlying27 rfl rfl rfl rfl SlOf.imm ?_
 refine RL.mv rfl rfl rfl ?_
 refine RL.finG ?_
 refine GL.open_ 0 rfl (fun S h => len_imm S h) (fun n79 => ?_)
 obtain ⟨y80, K81, h82, h83, h84, h85, h86⟩ := bindR_K h14
 refine GL.join (ι := Unit) (fun (p : Unit) => [(0, v0)]) (fun (p : Unit) => [imm (TR.sl (TR.sl TR.int)) v0 x0]) (fun (p : Unit) => K81 (.nx ())) ?_ ?_
 ·refine GL.block ?_
  refine GL.loop (ι := Nat × (List (List Int))) (fun (p : Nat × (List (List Int))) => [(0, v0), (16, v0), (17, .int .i64 ((x0).length : Int)), (18, .int .i64 (p.1 : Int))]) (fun (p : Nat × (List (List Int))) => [imm (TR.sl (TR.sl TR.int)) v0 x0]) (fun (p : Nat × (List (List Int))) => p.1 + p.2.length = (x0).length ∧ List.drop p.1 x0 = p.2 ∧ rangeL (duel_Check_b1 x0) p.2 p.1 () = some y80) (fun (p : Nat × (List (List Int))) => p.2.length) (0, x0) ⟨by simp, by simp, h82⟩ (fun a w st => St.cut [0] ⟨rfl, rfl, rfl, rfl, trivial⟩ (by decide) rfl st) ?_
  rintro ⟨i87, r88⟩ ⟨h93, h94, h92⟩
  try dsimp only at h93 h94 h92
  refine GL.weak (env' := [(0, v0), (16, v0), (17, .int .i64 ((x0).length : Int)), (18, .int .i64 (i87 : Int))]) (L' := [imm (TR.sl (TR.sl TR.int)) v0 x0]) (fun _ _ st => st) ?_
  refine GL.seq ?_
  refine GL.region ?_
  refine RL.binI (v := .bool (decide ((i87 : Int) < ((x0).length : Int)))) rfl rfl rfl rfl rfl ?_
  refine RL.finG ?_
  refine GL.seq ?_
  refine GL.cond rfl (fun b95 => ?_) (fun b95 => ?_)
  ·have h96 : i87 < (x0).length := by have := of_decide_eq_true b95; omega
   obtain ⟨y97, r99, hr, e98, h100⟩ := drop_cons h94 rfl h96
   subst hr
   obtain ⟨z89, h90, h91⟩ := rangeL_some h92
   unfold duel_Check_b1 at h90
   try dsimp only at h90
   refine GL.skip ?_
   refine GL.seq ?_
   refine GL.block ?_
   refine GL.seq ?_
   refine GL.region ?_
   refine RL.idxS (sz := 1) 0 Try.underlying27 Try_ln22 rfl rfl rfl rfl rfl SlOf.imm (by omega) (by omega) ?_
   refine RL.ldS (i := i87) (r := (TR.sl TR.int)) (e' := y97) 0 Try_ln22 rfl rfl rfl rfl SlOf.imm e98 Part.self ?_
   intro v102
   refine RL.asg rfl rfl rfl ?_
   refine RL.finG ?_
   refine GL.seq ?_
   refine GL.seq ?_
   refine GL.region ?_
   refine RL.mv rfl rfl rfl ?_
   refine RL.lenS 1 Try.underlying22 rfl rfl rfl rfl SlOf.imm ?_
   refine RL.mv rfl rfl rfl ?_
   refine RL.lenS 0 Try.underlying27 rfl rfl rfl rfl SlOf.imm ?_
   refine RL.binI (v := .bool (((y97).length : Int) != ((x0).length : Int))) rfl rfl rfl rfl rfl ?_
   refine RL.finG ?_
   refine GL.cond rfl (fun b103 => ?_) (fun b103 => ?_)
   ·replace h90 := ite_t b103 h90
    refine GL.seq ?_
    refine GL.region ?_
    refine RL.asg rfl rfl rfl ?_
    refine RL.finG ?_
    cases h90
    replace h91 : some (Fl.rt _) = some y80 := h91
    cases h91
    have hh := h85 _ h83
    subst hh
    exact GL.ret (Gx.ret (v := .int .i64 (3 : Int)) (res1 rfl rfl) (fun a w st => st.toPostC rfl))
   replace h90 := ite_f b103 h90
   refine GL.skip ?_
   refine GL.seq ?_
   refine GL.region ?_
   refine RL.mv rfl rfl rfl ?_
   refine RL.lenS 1 Try.underlying22 rfl rfl rfl rfl SlOf.imm ?_
   refine RL.mv rfl rfl rfl ?_
   refine RL.finG ?_
   refine GL.open_ 1 rfl (fun S h => len_imm S h) (fun n122 => ?_)
   obtain ⟨y123, K124, h125, h126, h127, h128, h129⟩ := bindF_K h90
   refine GL.join (ι := Unit) (fun (p : Unit) => [(0, v0), (16, v0), (17, .int .i64 ((x0).length : Int)), (18, .int .i64 (i87 : Int))]) (fun (p : Unit) => [imm (TR.sl (TR.sl TR.int)) v0 x0]) (fun (p : Unit) => K124 (.nx ())) ?_ ?_
   ·refine GL.block ?_
    refine GL.loop (ι := Nat × (List Int)) (fun (p : Nat × (List Int)) => [(0, v0), (16, v0), (17, .int .i64 ((x0).length : Int)), (18, .int .i64 (i87 : Int)), (27, v102), (28, .int .i64 ((y97).length : Int)), (29, .int .i64 (p.1 : Int))]) (fun (p : Nat × (List Int)) => [imm (TR.sl (TR.sl TR.int)) v0 x0, imm (TR.sl TR.int) v102 y97]) (fun (p : Nat × (List Int)) => p.1 + p.2.length = (y97).length ∧ List.drop p.1 y97 = p.2 ∧ rangeL duel_Check_b2 p.2 p.1 () = some y123) (fun (p : Nat × (List Int)) => p.2.length) (0, y97) ⟨by simp, by simp, h125⟩ (fun a w st => St.cut [0, 1] ⟨rfl, rfl, rfl, rfl, rfl, rfl, rfl, trivial⟩ (by decide) rfl st) ?_
    rintro ⟨i130, r131⟩ ⟨h136, h137, h135⟩
    try dsimp only at h136 h137 h135
    refine GL.weak (env' := [(0, v0), (16, v0), (17, .int .i64 ((x0).length : Int)), (18, .int .i64 (i87 : Int)), (27, v102), (28, .int .i64 ((y97).length : Int)), (29, .int .i64 (i130 : Int))]) (L' := [imm (TR.sl (TR.sl TR.int)) v0 x0, imm (TR.sl TR.int) v102 y97]) (fun _ _ st => st) ?_
    refine GL.seq ?_
    refine GL.region ?_
    refine RL.binI (v := .bool (decide ((i130 : Int) < ((y97).length : Int)))) rfl rfl rfl rfl rfl ?_
    refine RL.finG ?_
    refine GL.seq ?_
    refine GL.cond rfl (fun b138 => ?_) (fun b138 => ?_)
    ·have h139 : i130 < (y97).length := by have := of_decide_eq_true b138; omega
     obtain ⟨y140, r142, hr, e141, h143⟩ := drop_cons h137 rfl h139
     subst hr
     obtain ⟨z132, h133, h134⟩ := rangeL_some h135
     unfold duel_Check_b2 at h133
     try dsimp only at h133
     refine GL.skip ?_
     refine GL.seq ?_
     refine GL.block ?_
     refine GL.seq ?_
     refine GL.region ?_
     refine RL.idxS (sz := 1) 1 Try.underlying22 Try_ln3 rfl rfl rfl rfl rfl SlOf.imm (by omega) (by omega) ?_
     refine RL.ldSx (i := i130) (e' := y140) 1 Ex.ik Try_ln3 rfl rfl rfl rfl SlOf.imm e141 Part.self ?_
     refine RL.asg rfl rfl rfl ?_
     refine RL.finG ?_
     refine GL.seq ?_
     obtain ⟨y147, K148, h149, h150, h151, h152, h153⟩ := bindF_K h133
     refine GL.join (ι := Bool) (fun (p : Bool) => [(0, v0), (16, v0), (17, .int .i64 ((x0).length : Int)), (18, .int .i64 (i87 : Int)), (27, v102), (28, .int .i64 ((y97).length : Int)), (29, .int .i64 (i130 : Int)), (38, .bool p)]) (fun (p : Bool) => [imm (TR.sl (TR.sl TR.int)) v0 x0, imm (TR.sl TR.int) v102 y97]) (fun (p : Bool) => K148 (.nx p)) ?_ ?_
     ·skip
      refine GL.region ?_
      refine RL.mv rfl rfl rfl ?_
      refine RL.binI (v := .bool (decide (y140 < (0 : Int)))) rfl rfl rfl rfl rfl ?_
      refine RL.mv rfl rfl rfl ?_
      refine RL.split (t := 35) rfl (fun b154 => ?_) (fun b154 => ?_)
      ·replace h149 := ite_t b154 h149
       refine RL.skip rfl rfl ?_
       refine RL.skip rfl rfl ?_
       refine RL.pickT rfl rfl rfl rfl ?_
       refine RL.fin ?_
       cases h149
       exact fun a w st => mid_intro true h150 (St.cut [0, 1] ⟨rfl, rfl, rfl, rfl, rfl, rfl, rfl, rfl, trivial⟩ (by decide) rfl st)
      replace h149 := ite_f b154 h149
      refine RL.mv rfl rfl rfl ?_
      refine RL.binI (v := .bool (decide (y140 > (30 : Int)))) rfl rfl rfl rfl rfl ?_
      refine RL.pickF rfl rfl rfl rfl ?_
      refine RL.fin ?_
      cases h149
      exact fun a w st => mid_intro (decide (y140 > (30 : Int))) h150 (St.cut [0, 1] ⟨rfl, rfl, rfl, rfl, rfl, rfl, rfl, rfl, trivial⟩ (by decide) rfl st)
     rintro x146 h155
     have h156 := h151 _ h155
     try dsimp only at h156
     refine GL.weak (env' := [(0, v0), (16, v0), (17, .int .i64 ((x0).length : Int)), (18, .int .i64 (i87 : Int)), (27, v102), (28, .int .i64 ((y97).length : Int)), (29, .int .i64 (i130 : Int)), (38, .bool x146)]) (L' := [imm (TR.sl (TR.sl TR.int)) v0 x0, imm (TR.sl TR.int) v102 y97]) (fun _ _ st => st) ?_
     refine GL.cond rfl (fun b157 => ?_) (fun b157 => ?_)
     ·replace h156 := ite_t b157 h156
      refine GL.seq ?_
      refine GL.region ?_
      refine RL.asg rfl rfl rfl ?_
      refine RL.finG ?_
      cases h156
      replace h134 : some (Fl.rt _) = some y123 := h134
      cases h134
      have hh := h128 _ h126
      subst hh
      replace h91 : some (Fl.rt _) = some y80 := h91
      cases h91
      have hh := h85 _ h83
      subst hh
      exact GL.ret (Gx.ret (v := .int .i64 (1 : Int)) (res1 rfl rfl) (fun a w st => st.toPostC rfl))
     replace h156 := ite_f b157 h156
     refine GL.skip ?_
     refine GL.nilB ?_
     refine GL.region ?_
     refine RL.binI (v := .int .i64 ((i130 + 1 : Nat) : Int)) rfl rfl rfl rfl (binI_succ i130 (by omega)) ?_
     refine RL.mv rfl rfl rfl ?_
     refine RL.fin ?_
     cases h156
     exact fun a w st => lop_intro (i130 + 1, r142) ⟨by show i130 + 1 + r142.length = (y97).length; simp only [List.length_cons] at h136; omega, h143, h134⟩ (by simp) (St.cut [0, 1] ⟨rfl, rfl, rfl, rfl, rfl, rfl, rfl, trivial⟩ (by decide) rfl st)
    have h139 : ¬ i130 < (y97).length := by have := of_decide_eq_false b138; omega
    obtain rfl : r131 = [] := by rw [← h137]; exact List.drop_of_length_le (by omega)
    replace h135 : some (Fl.nx _) = some y123 := h135
    cases h135
    exact GL.exit (fun a w st => mid_intro () h126 (St.cut [0] ⟨rfl, rfl, rfl, rfl, trivial⟩ (by decide) rfl st))
   rintro ⟨⟩ h158
   have h159 := h127 _ h158
   try dsimp only at h159
   refine GL.weak (env' := [(0, v0), (16, v0), (17, .int .i64 ((x0).length : Int)), (18, .int .i64 (i87 : Int))]) (L' := [imm (TR.sl (TR.sl TR.int)) v0 x0]) (fun _ _ st => st) ?_
   refine GL.nilB ?_
   refine GL.region ?_
   refine RL.binI (v := .int .i64 ((i87 + 1 : Nat) : Int)) rfl rfl rfl rfl (binI_succ i87 (by omega)) ?_
   refine RL.mv rfl rfl rfl ?_
   refine RL.fin ?_
   cases h159
   exact fun a w st => lop_intro (i87 + 1, r99) ⟨by show i87 + 1 + r99.length = (x0).length; simp only [List.length_cons] at h93; omega, h100, h91⟩ (by simp) (St.cut [0] ⟨rfl, rfl, rfl, rfl, trivial⟩ (by decide) rfl st)
  have h96 : ¬ i87 < (x0).length := by have := of_decide_eq_false b95; omega
  obtain rfl : r88 = [] := by rw [← h94]; exact List.drop_of_length_le (by omega)
  replace h92 : some (Fl.nx _) = some y80 := h92
  cases h92
  exact GL.exit (fun a w st => mid_intro () h83 (St.cut [0] ⟨rfl, trivial⟩ (by decide) rfl st))
 rintro ⟨⟩ h160
 have h161 := h84 _ h160
 try dsimp only at h161
 refine GL.weak (env' := [(0, v0)]) (L' := [imm (TR.sl (TR.sl TR.int)) v0 x0]) (fun _ _ st => st) ?_
 refine GL.seq ?_
 refine GL.seq ?_
 refine GL.region ?_
 refine RL.mv rfl rfl rfl ?_
 refine RL.lenS 0 Try.underlying27 rfl rfl rfl rfl SlOf.imm ?_
 refine RL.mv rfl rfl rfl ?_
 refine RL.finG ?_
 refine GL.open_ 0 rfl (fun S h => len_imm S h) (fun n173 => ?_)
 obtain ⟨y174, K175, h176, h177, h178, h179, h180⟩ := bindR_K h161
 refine GL.join (ι := Unit) (fun (p : Unit) => []) (fun (p : Unit) => []) (fun (p : Unit) => K175 (.nx ())) ?_ ?_
 ·refine GL.block ?_
  refine GL.loop (ι := Nat × (List (List Int))) (fun (p : Nat × (List (List Int))) => [(0, v0), (42, .int .i64 ((x0).length : Int)), (43, .int .i64 (p.1 : Int))]) (fun (p : Nat × (List (List Int))) => [imm (TR.sl (TR.sl TR.int)) v0 x0]) (fun (p : Nat × (List (List Int))) => p.1 + p.2.length = (x0).length ∧ List.drop p.1 x0 = p.2 ∧ rangeL duel_Check_b3 p.2 p.1 () = some y174) (fun (p : Nat × (List (List Int))) => p.2.length) (0, x0) ⟨by simp, by simp, h176⟩ (fun a w st => St.cut [0] ⟨rfl, rfl, rfl, trivial⟩ (by decide) rfl st) ?_
  rintro ⟨i181, r182⟩ ⟨h187, h188, h186⟩
  try dsimp only at h187 h188 h186
  refine GL.weak (env' := [(0, v0), (42, .int .i64 ((x0).length : Int)), (43, .int .i64 (i181 : Int))]) (L' := [imm (TR.sl (TR.sl TR.int)) v0 x0]) (fun _ _ st => st) ?_
  refine GL.seq ?_
  refine GL.region ?_
  refine RL.binI (v := .bool (decide ((i181 : Int) < ((x0).length : Int)))) rfl rfl rfl rfl rfl ?_
  refine RL.finG ?_
  refine GL.seq ?_
  refine GL.cond rfl (fun b189 => ?_) (fun b189 => ?_)
  ·have h190 : i181 < (x0).length := by have := of_decide_eq_true b189; omega
   obtain ⟨y191, r193, hr, e192, h194⟩ := drop_cons h188 rfl h190
   subst hr
   obtain ⟨z183, h184, h185⟩ := rangeL_some h186
   unfold duel_Check_b3 at h184
   try dsimp only at h184
   refine GL.skip ?_
   refine GL.seq ?_
   refine GL.block ?_
   refine GL.seq ?_
   refine GL.region ?_
   refine RL.mv rfl rfl rfl ?_
   refine RL.asg rfl rfl rfl ?_
   refine RL.finG ?_
   refine GL.seq ?_
   refine GL.region ?_
   refine RL.mv rfl rfl rfl ?_
   refine RL.mv rfl rfl rfl ?_
   refine RL.idxS (sz := 1) 0 Try.underlying27 Try_ln22 rfl rfl rfl rfl rfl SlOf.imm (by omega) (by omega) ?_
   refine RL.ldS (i := i181) (r := (TR.sl TR.int)) (e' := y191) 0 Try_ln22 rfl rfl rfl rfl SlOf.imm e192 Part.self ?_
   intro v198
   refine RL.mv rfl rfl rfl ?_
   obtain ⟨y199, e200, h184⟩ := bind_some h184
   refine RL.idxS (sz := 1) 1 Try.underlying22 Try_ln3 rfl rfl rfl rfl rfl SlOf.imm (idx_some e200).1 (idx_some e200).2.1 ?_
   refine RL.ldSx (i := i181) (e' := y199) 1 Ex.ik Try_ln3 rfl rfl rfl rfl SlOf.imm (idx_some e200).2.2 Part.self ?_
   refine RL.binI (v := .bool (y199 != (0 : Int))) rfl rfl rfl rfl rfl ?_
   refine RL.finG ?_
   refine GL.cond rfl (fun b201 => ?_) (fun b201 => ?_)
   ·replace h184 := ite_t b201 h184
    refine GL.seq ?_
    refine GL.region ?_
    refine RL.asg rfl rfl rfl ?_
    refine RL.finG ?_
    cases h184
    replace h185 : some (Fl.rt _) = some y174 := h185
    cases h185
    have hh := h179 _ h177
    subst hh
    exact GL.ret (Gx.ret (v := .int .i64 (3 : Int)) (res1 rfl rfl) (fun a w st => st.toPostC rfl))
   replace h184 := ite_f b201 h184
   refine GL.skip ?_
   refine GL.nilB ?_
   refine GL.region ?_
   refine RL.binI (v := .int .i64 ((i181 + 1 : Nat) : Int)) rfl rfl rfl rfl (binI_succ i181 (by omega)) ?_
   refine RL.mv rfl rfl rfl ?_
   refine RL.fin ?_
   cases h184
   exact fun a w st => lop_intro (i181 + 1, r193) ⟨by show i181 + 1 + r193.length = (x0).length; simp only [List.length_cons] at h187; omega, h194, h185⟩ (by simp) (St.cut [0] ⟨rfl, rfl, rfl, trivial⟩ (by decide) rfl st)
  have h190 : ¬ i181 < (x0).length := by have := of_decide_eq_false b189; omega
  obtain rfl : r182 = [] := by rw [← h188]; exact List.drop_of_length_le (by omega)
  replace h186 : some (Fl.nx _) = some y174 := h186
  cases h186
  exact GL.exit (fun a w st => mid_intro () h177 (St.cut [] trivial (by decide) rfl st))
 rintro ⟨⟩ h202
 have h203 := h178 _ h202
 try dsimp only at h203
 refine GL.weak (env' := []) (L' := []) (fun _ _ st => st) ?_
 refine GL.seq ?_
 refine GL.region ?_
 refine RL.asg rfl rfl rfl ?_
 refine RL.finG ?_
 have h203 := Option.some.inj h203
 subst h203
 exact GL.ret (Gx.ret (v := .int .i64 (0 : Int)) (res1 rfl rfl) (fun a w st => st.toPostC rfl))

set_option maxHeartbeats 4000000 in
theorem widest_Paths_c (S : Hp) (w : World) (hS : S.sub w) (v0 : Value) (x0 : (List (List Int))) (k0 : ((TR.sl (TR.sl TR.int))).vrep S v0 x0) (res : (List (List Int)) × Int) (hm : widest_Paths_m x0 = some res) : Calls Try.prog 52 #[v0] w (Post w S (fun (o : Value) => .tuple #[o, .int .i64 res.2]) (fun (o : Value) => [imm (TR.sl (TR.sl TR.int)) o res.1])) := by
 refine calls_enter 123 Try.func52 Try.ntmps52 rfl S false [(0, v0)] [imm (TR.sl (TR.sl TR.int)) v0 x0] rfl ⟨rfl, trivial⟩ hS ⟨k0, trivial⟩ ?_
 unfold widest_Paths_m at hm
 refine GL.seq ?_
 refine GL.region ?_
 refine RL.asg rfl rfl rfl ?_
 refine RL.asg rfl rfl rfl ?_
 refine RL.finG ?_
 refine GL.seq ?_
 refine GL.seq ?_
 refine GL.region ?_
 refine RL.mv rfl rfl rfl ?_
 obtain ⟨y4, e5, hm⟩ := bind_some hm
 refine RL.callC (v := .int .i64 y4) (vs := [v0]) Try_fit53 rfl rfl rfl rfl (fun U w hU hW hL => duel_Check_c U w hU _ _ (hL 0 _ _ rfl Seen.imm) _ e5) ?_
 refine RL.asg rfl rfl rfl ?_
 refine RL.finG ?_
 refine GL.seq ?_
 refine GL.region ?_
 refine RL.mv rfl rfl rfl ?_
 refine RL.binI (v := .bool (y4 != (0 : Int))) rfl rfl rfl rfl rfl ?_
 refine RL.finG ?_
 refine GL.cond rfl (fun b6 => ?_) (fun b6 => ?_)
 ·replace hm := ite_t b6 hm
  refine GL.seq ?_
  refine GL.region ?_
  refine RL.mv rfl rfl rfl ?_
  refine RL.asg rfl rfl rfl ?_
  refine RL.asg rfl rfl rfl ?_
  refine RL.finG ?_
  refine GL.weak (fun a w st => st.nilImm (TR.sl TR.int)) ?_
  have hm := Option.some.inj hm
  subst hm
  exact GL.ret (Gx.ret (v := .tuple #[Value.slice none 0 0, .int .i64 y4]) (res2 rfl rfl rfl) (fun a w st => (st.pick [1] (by decide) rfl).toPost (Value.slice none 0 0)))
 replace hm := ite_f b6 hm
 refine GL.skip ?_
 refine GL.seq ?_
 refine GL.region ?_
 refine RL.mv rfl rfl rfl ?_
 refine RL.lenS 0 Try.underlying27 rfl rfl rfl rfl SlOf.imm ?_
 refine RL.asg rfl rfl rfl ?_
 refine RL.finG ?_
 refine GL.seq ?_
 refine GL.region ?_
 refine RL.mv rfl rfl rfl ?_
 obtain ⟨y10, e11, hm⟩ := bind_some hm
 replace e11 := chk_some e11
 refine RL.mkS (t := TR.raw) (z := .slice none 0 0) Try.underlying27 Try_lo22 (fun S => ⟨rfl, rfl⟩) rfl rfl rfl rfl e11.1 e11.2 ?_
 intro v12
 refine RL.weak (fun a w st => st.toRows 3 TR.int 1 rfl) ?_
 refine RL.reL (L' := [imm (TR.sl (TR.sl TR.int)) v0 x0, own2 22 3 TR.int v12 (List.replicate (((x0).length : Int)).toNat (Value.slice none 0 0)) (List.replicate (((x0).length : Int)).toNat ([] : (List Int)))]) rfl ?_
 refine RL.asg rfl rfl rfl ?_
 refine RL.finG ?_
 refine GL.seq ?_
 refine GL.seq ?_
 refine GL.region ?_
 refine RL.mv rfl rfl rfl ?_
 refine RL.lenR 1 Try.underlying27 rfl rfl rfl rfl ?_
 refine RL.mv rfl rfl rfl ?_
 refine RL.finG ?_
 refine GL.lenR 1 rfl (fun n313 => ?_)
 obtain ⟨y314, K315, h316, h317, h318, h319, h320⟩ := bindR_K hm
 refine GL.join (ι := (List (List Int)) × (List Value)) (fun (p : (List (List Int)) × (List Value)) => [(5, .int .i64 ((x0).length : Int)), (6, v12)]) (fun (p : (List (List Int)) × (List Value)) => [own2 22 3 TR.int v12 p.2 p.1]) (fun (p : (List (List Int)) × (List Value)) => K315 (.nx p.1)) ?_ ?_
 ·refine GL.block ?_
  refine GL.loop (ι := Nat × Nat × (List (List Int)) × (List Value)) (fun (p : Nat × Nat × (List (List Int)) × (List Value)) => [(0, v0), (5, .int .i64 ((x0).length : Int)), (6, v12), (22, .int .i64 (((List.replicate (((x0).length : Int)).toNat ([] : (List Int)))).length : Int)), (23, .int .i64 (p.1 : Int))]) (fun (p : Nat × Nat × (List (List Int)) × (List Value)) => [imm (TR.sl (TR.sl TR.int)) v0 x0, own2 22 3 TR.int v12 p.2.2.2 p.2.2.1]) (fun (p : Nat × Nat × (List (List Int)) × (List Value)) => p.1 + p.2.1 = ((List.replicate (((x0).length : Int)).toNat ([] : (List Int)))).length ∧ rangeN (widest_Paths_b1 x0) p.2.1 p.1 p.2.2.1 = some y314) (fun (p : Nat × Nat × (List (List Int)) × (List Value)) => p.2.1) (0, ((List.replicate (((x0).length : Int)).toNat ([] : (List Int)))).length, (List.replicate (((x0).length : Int)).toNat ([] : (List Int))), (List.replicate (((x0).length : Int)).toNat (Value.slice none 0 0))) ⟨by simp, h316⟩ (fun a w st => St.cut [0, 1] ⟨rfl, rfl, rfl, rfl, rfl, trivial⟩ (by decide) rfl st) ?_
  rintro ⟨i321, r322, l162, V163⟩ ⟨h327, h326⟩
  try dsimp only at h327 h326
  refine GL.weak (env' := [(0, v0), (5, .int .i64 ((x0).length : Int)), (6, v12), (22, .int .i64 (((List.replicate (((x0).length : Int)).toNat ([] : (List Int)))).length : Int)), (23, .int .i64 (i321 : Int))]) (L' := [imm (TR.sl (TR.sl TR.int)) v0 x0, own2 22 3 TR.int v12 V163 l162]) (fun _ _ st => st) ?_
  refine GL.seq ?_
  refine GL.region ?_
  refine RL.binI (v := .bool (decide ((i321 : Int) < (((List.replicate (((x0).length : Int)).toNat ([] : (List Int)))).length : Int)))) rfl rfl rfl rfl rfl ?_
  refine RL.finG ?_
  refine GL.seq ?_
  refine GL.cond rfl (fun b329 => ?_) (fun b329 => ?_)
  ·have h330 : i321 < ((List.replicate (((x0).length : Int)).toNat ([] : (List Int)))).length := by have := of_decide_eq_true b329; omega
   obtain ⟨r331, hr⟩ : ∃ m, r322 = m + 1 := ⟨r322 - 1, by omega⟩
   subst hr
   obtain ⟨z323, h324, h325⟩ := rangeN_some h326
   unfold widest_Paths_b1 at h324
   try dsimp only at h324
   refine GL.skip ?_
   refine GL.seq ?_
   refine GL.block ?_
   refine GL.seq ?_
   refine GL.region ?_
   refine RL.mv rfl rfl rfl ?_
   refine RL.asg rfl rfl rfl ?_
   refine RL.finG ?_
   refine GL.seq ?_
   refine GL.region ?_
   refine RL.mv rfl rfl rfl ?_
   refine RL.mv rfl rfl rfl ?_
   refine RL.mv rfl rfl rfl ?_
   obtain ⟨y337, e338, h324⟩ := bind_some h324
   replace e338 := chk_some e338
   refine RL.mkS (t := TR.int) (z := (0 : Int)) Try.underlying22 Try_lo3 (fun S => rfl) rfl rfl rfl rfl e338.1 e338.2 ?_
   intro v339
   obtain ⟨y340, e341, h324⟩ := bind_some h324
   refine RL.idxR 1 Try.underlying27 Try_ln22 rfl rfl rfl rfl rfl (idx_some e341).1 (idx_some e341).2.1 ?_
   refine RL.stSp (i := i321) (r0 := y340) 1 2 (by decide) Try_ln22 rfl rfl rfl rfl rfl rfl (idx_some e341).2.2 ?_
   refine RL.reL (L' := [imm (TR.sl (TR.sl TR.int)) v0 x0, own2 22 3 TR.int v12 (List.set V163 i321 v339) (List.set l162 i321 (List.replicate (((x0).length : Int)).toNat (0 : Int))), gone]) rfl ?_
   refine RL.finG ?_
   refine GL.seq ?_
   refine GL.region ?_
   refine RL.mv rfl rfl rfl ?_
   refine RL.mv rfl rfl rfl ?_
   refine RL.finG ?_
   refine GL.open_ 0 rfl (fun S h => len_imm S h) (fun n422 => ?_)
   obtain ⟨y423, K424, h425, h426, h427, h428, h429⟩ := bindF_K h324
   refine GL.join (ι := (List (List Int)) × (List Value)) (fun (p : (List (List Int)) × (List Value)) => [(0, v0), (5, .int .i64 ((x0).length : Int)), (6, v12), (22, .int .i64 (((List.replicate (((x0).length : Int)).toNat ([] : (List Int)))).length : Int)), (23, .int .i64 (i321 : Int))]) (fun (p : (List (List Int)) × (List Value)) => [imm (TR.sl (TR.sl TR.int)) v0 x0, own2 22 3 TR.int v12 p.2 p.1]) (fun (p : (List (List Int)) × (List Value)) => K424 (.nx p.1)) ?_ ?_
   ·refine GL.block ?_
    refine GL.loop (ι := Nat × (List (List Int)) × (List (List Int)) × (List Value)) (fun (p : Nat × (List (List Int)) × (List (List Int)) × (List Value)) => [(0, v0), (5, .int .i64 ((x0).length : Int)), (6, v12), (7, .int .i64 (i321 : Int)), (22, .int .i64 (((List.replicate (((x0).length : Int)).toNat ([] : (List Int)))).length : Int)), (23, .int .i64 (i321 : Int)), (31, .int .i64 ((x0).length : Int)), (32, .int .i64 (p.1 : Int))]) (fun (p : Nat × (List (List Int)) × (List (List Int)) × (List Value)) => [imm (TR.sl (TR.sl TR.int)) v0 x0, own2 22 3 TR.int v12 p.2.2.2 p.2.2.1]) (fun (p : Nat × (List (List Int)) × (List (List Int)) × (List Value)) => p.1 + p.2.1.length = (x0).length ∧ List.drop p.1 x0 = p.2.1 ∧ rangeL (widest_Paths_b2 x0 i321) p.2.1 p.1 p.2.2.1 = some y423) (fun (p : Nat × (List (List Int)) × (List (List Int)) × (List Value)) => p.2.1.length) (0, x0, (List.set l162 i321 (List.replicate (((x0).length : Int)).toNat (0 : Int))), (List.set V163 i321 v339)) ⟨by simp, by simp, h425⟩ (fun a w st => St.cut [0, 1] ⟨rfl, rfl, rfl, rfl, rfl, rfl, rfl, rfl, trivial⟩ (by decide) rfl st) ?_
    rintro ⟨i430, r431, l381, V382⟩ ⟨h436, h437, h435⟩
    try dsimp only at h436 h437 h435
    refine GL.weak (env' := [(0, v0), (5, .int .i64 ((x0).length : Int)), (6, v12), (7, .int .i64 (i321 : Int)), (22, .int .i64 (((List.replicate (((x0).length : Int)).toNat ([] : (List Int)))).length : Int)), (23, .int .i64 (i321 : Int)), (31, .int .i64 ((x0).length : Int)), (32, .int .i64 (i430 : Int))]) (L' := [imm (TR.sl (TR.sl TR.int)) v0 x0, own2 22 3 TR.int v12 V382 l381]) (fun _ _ st => st) ?_
    refine GL.seq ?_
    refine GL.region ?_
    refine RL.binI (v := .bool (decide ((i430 : Int) < ((x0).length : Int)))) rfl rfl rfl rfl rfl ?_
    refine RL.finG ?_
    refine GL.seq ?_
    refine GL.cond rfl (fun b438 => ?_) (fun b438 => ?_)
    ·have h439 : i430 < (x0).length := by have := of_decide_eq_true b438; omega
     obtain ⟨y440, r442, hr, e441, h443⟩ := drop_cons h437 rfl h439
     subst hr
     obtain ⟨z432, h433, h434⟩ := rangeL_some h435
     unfold widest_Paths_b2 at h433
     try dsimp only at h433
     refine GL.skip ?_
     refine GL.seq ?_
     refine GL.block ?_
     refine GL.seq ?_
     refine GL.region ?_
     refine RL.mv rfl rfl rfl ?_
     refine RL.asg rfl rfl rfl ?_
     refine RL.finG ?_
     refine GL.seq ?_
     refine GL.regionQ rfl rfl (by kernel_rfl) ?_
     refine RL.mv rfl rfl rfl ?_
     refine RL.mv rfl rfl rfl ?_
     obtain ⟨y452, e453, h433⟩ := bind_some h433
     refine RL.idxS (sz := 1) 0 Try.underlying27 Try_ln22 rfl rfl rfl rfl rfl SlOf.imm (idx_some e453).1 (idx_some e453).2.1 ?_
     refine RL.ldS (i := i321) (r := (TR.sl TR.int)) (e' := y452) 0 Try_ln22 rfl rfl rfl rfl SlOf.imm (idx_some e453).2.2 Part.self ?_
     intro v454
     refine RL.mv rfl rfl rfl ?_
     obtain ⟨y455, e456, h433⟩ := bind_some h433
     refine RL.idxS (sz := 1) 2 Try.underlying22 Try_ln3 rfl rfl rfl rfl rfl SlOf.imm (idx_some e456).1 (idx_some e456).2.1 ?_
     refine RL.ldSx (i := i430) (e' := y455) 2 Ex.ik Try_ln3 rfl rfl rfl rfl SlOf.imm (idx_some e456).2.2 Part.self ?_
     refine RL.mv rfl rfl rfl ?_
     refine RL.mv rfl rfl rfl ?_
     refine RL.idxS (sz := 1) 0 Try.underlying27 Try_ln22 rfl rfl rfl rfl rfl SlOf.imm (by omega) (by omega) ?_
     refine RL.ldS (i := i430) (r := (TR.sl TR.int)) (e' := y440) 0 Try_ln22 rfl rfl rfl rfl SlOf.imm e441 Part.self ?_
     intro v457
     refine RL.reL (L' := [imm (TR.sl (TR.sl TR.int)) v0 x0, own2 22 3 TR.int v12 V382 l381, imm (TR.sl TR.int) v454 y452, imm (TR.sl TR.int) v457 y440]) rfl ?_
     refine RL.mv rfl rfl rfl ?_
     obtain ⟨y458, e459, h433⟩ := bind_some h433
     refine RL.idxS (sz := 1) 3 Try.underlying22 Try_ln3 rfl rfl rfl rfl rfl SlOf.imm (idx_some e459).1 (idx_some e459).2.1 ?_
     refine RL.ldSx (i := i321) (e' := y458) 3 Ex.ik Try_ln3 rfl rfl rfl rfl SlOf.imm (idx_some e459).2.2 Part.self ?_
     refine RL.binI (v := .bool (decide (y455 > y458))) rfl rfl rfl rfl rfl ?_
     refine RL.finQG ?_
     refine GL.cond rfl (fun b460 => ?_) (fun b460 => ?_)
     ·replace h433 := ite_t b460 h433
      refine GL.regionH 13 rfl rfl (by kernel_rfl) ?_
      simp only [List.take_succ_cons, List.take_zero, List.drop_succ_cons, List.drop_zero]
      refine RL.mv rfl rfl rfl ?_
      refine RL.mv rfl rfl rfl ?_
      obtain ⟨y470, e471, h433⟩ := bind_some h433
      refine RL.idxR 1 Try.underlying27 Try_ln22 rfl rfl rfl rfl rfl (idx_some e471).1 (idx_some e471).2.1 ?_
      refine RL.ldR (i := i321) (r := y470) 1 Try_ln22 rfl rfl rfl rfl (idx_some e471).2.2 ?_
      refine RL.mv rfl rfl rfl ?_
      refine RL.mv rfl rfl rfl ?_
      refine RL.mv rfl rfl rfl ?_
      obtain ⟨y472, e473, h433⟩ := bind_some h433
      refine RL.idxS (sz := 1) 0 Try.underlying27 Try_ln22 rfl rfl rfl rfl rfl SlOf.imm (idx_some e473).1 (idx_some e473).2.1 ?_
      refine RL.ldS (i := i321) (r := (TR.sl TR.int)) (e' := y472) 0 Try_ln22 rfl rfl rfl rfl SlOf.imm (idx_some e473).2.2 Part.self ?_
      intro v474
      refine RL.mv rfl rfl rfl ?_
      obtain ⟨y475, e476, h433⟩ := bind_some h433
      refine RL.idxS (sz := 1) 4 Try.underlying22 Try_ln3 rfl rfl rfl rfl rfl SlOf.imm (idx_some e476).1 (idx_some e476).2.1 ?_
      refine RL.ldSx (i := i430) (e' := y475) 4 Ex.ik Try_ln3 rfl rfl rfl rfl SlOf.imm (idx_some e476).2.2 Part.self ?_
      obtain ⟨y477, e478, h433⟩ := bind_some h433
      refine RL.idxS (sz := 1) 1 Try.underlying22 Try_ln3 rfl rfl rfl rfl rfl (SlOf.row (idx_some e471).2.2) (idx_some e478).1 (idx_some e478).2.1 ?_
      refine RL.finH ?_
      refine RL.stR (i := i321) (j := i430) (row := y470) (e' := y475) (e1 := y475) (r := TR.int) 1 Try_ln3 rfl rfl rfl rfl VR.int rfl (idx_some e471).2.2 (idx_some e478).2.2 Upd.self ?_
      refine RL.reL (L' := [imm (TR.sl (TR.sl TR.int)) v0 x0, own2 22 3 TR.int v12 V382 (List.set l381 i321 (List.set y470 i430 y475)), imm (TR.sl TR.int) v454 y452, imm (TR.sl TR.int) v457 y440, imm (TR.sl TR.int) v474 y472]) rfl ?_
      refine RL.finG ?_
      refine GL.nilB ?_
      refine GL.region ?_
      refine RL.binI (v := .int .i64 ((i430 + 1 : Nat) : Int)) rfl rfl rfl rfl (binI_succ i430 (by omega)) ?_
      refine RL.mv rfl rfl rfl ?_
      refine RL.fin ?_
      cases h433
      exact fun a w st => lop_intro (i430 + 1, r442, (List.set l381 i321 (List.set y470 i430 y475)), V382) ⟨by show i430 + 1 + r442.length = (x0).length; simp only [List.length_cons] at h436; omega, h443, h434⟩ (by simp) (St.cut [0, 1] ⟨rfl, rfl, rfl, rfl, rfl, rfl, rfl, rfl, trivial⟩ (by decide) rfl st)
     replace h433 := ite_f b460 h433
     refine GL.skip ?_
     refine GL.nilB ?_
     refine GL.region ?_
     refine RL.binI (v := .int .i64 ((i430 + 1 : Nat) : Int)) rfl rfl rfl rfl (binI_succ i430 (by omega)) ?_
     refine RL.mv rfl rfl rfl ?_
     refine RL.fin ?_
     cases h433
     exact fun a w st => lop_intro (i430 + 1, r442, l381, V382) ⟨by show i430 + 1 + r442.length = (x0).length; simp only [List.length_cons] at h436; omega, h443, h434⟩ (by simp) (St.cut [0, 1] ⟨rfl, rfl, rfl, rfl, rfl, rfl, rfl, rfl, trivial⟩ (by decide) rfl st)
    have h439 : ¬ i430 < (x0).length := by have := of_decide_eq_false b438; omega
    obtain rfl : r431 = [] := by rw [← h437]; exact List.drop_of_length_le (by omega)
    replace h435 : some (Fl.nx _) = some y423 := h435
    cases h435
    exact GL.exit (fun a w st => mid_intro (l381, V382) h426 (St.cut [0, 1] ⟨rfl, rfl, rfl, rfl, rfl, trivial⟩ (by decide) rfl st))
   rintro ⟨l381, V382⟩ h479
   have h480 := h427 _ h479
   try dsimp only at h480
   refine GL.weak (env' := [(0, v0), (5, .int .i64 ((x0).length : Int)), (6, v12), (22, .int .i64 (((List.replicate (((x0).length : Int)).toNat ([] : (List Int)))).length : Int)), (23, .int .i64 (i321 : Int))]) (L' := [imm (TR.sl (TR.sl TR.int)) v0 x0, own2 22 3 TR.int v12 V382 l381]) (fun _ _ st => st) ?_
   refine GL.nilB ?_
   refine GL.region ?_
   refine RL.binI (v := .int .i64 ((i321 + 1 : Nat) : Int)) rfl rfl rfl rfl (binI_succ i321 (by omega)) ?_
   refine RL.mv rfl rfl rfl ?_
   refine RL.fin ?_
   cases h480
   exact fun a w st => lop_intro (i321 + 1, r331, l381, V382) ⟨by show i321 + 1 + r331 = ((List.replicate (((x0).length : Int)).toNat ([] : (List Int)))).length; omega, h325⟩ (by simp) (St.cut [0, 1] ⟨rfl, rfl, rfl, rfl, rfl, trivial⟩ (by decide) rfl st)
  have h330 : ¬ i321 < ((List.replicate (((x0).length : Int)).toNat ([] : (List Int)))).length := by have := of_decide_eq_false b329; omega
  obtain rfl : r322 = 0 := by omega
  replace h326 : some (Fl.nx _) = some y314 := h326
  cases h326
  exact GL.exit (fun a w st => mid_intro (l162, V163) h317 (St.cut [1] ⟨rfl, rfl, trivial⟩ (by decide) rfl st))
 rintro ⟨l162, V163⟩ h481
 have h482 := h318 _ h481
 try dsimp only at h482
 refine GL.weak (env' := [(5, .int .i64 ((x0).length : Int)), (6, v12)]) (L' := [own2 22 3 TR.int v12 V163 l162]) (fun _ _ st => st) ?_
 refine GL.seq ?_
 refine GL.seq ?_
 refine GL.region ?_
 refine RL.mv rfl rfl rfl ?_
 refine RL.mv rfl rfl rfl ?_
 refine RL.finG ?_
 obtain ⟨y1568, e1569, h482⟩ := bind_some h482
 replace e1569 := chk_some e1569
 obtain ⟨y1570, K1571, h1572, h1573, h1574, h1575, h1576⟩ := bindR_K h482
 refine GL.join (ι := (List (List Int)) × (List Value)) (fun (p : (List (List Int)) × (List Value)) => [(6, v12)]) (fun (p : (List (List Int)) × (List Value)) => [own2 22 3 TR.int v12 p.2 p.1]) (fun (p : (List (List Int)) × (List Value)) => K1571 (.nx p.1)) ?_ ?_
 ·refine GL.block ?_
  refine GL.loop (ι := Nat × Nat × (List (List Int)) × (List Value)) (fun (p : Nat × Nat × (List (List Int)) × (List Value)) => [(5, .int .i64 ((x0).length : Int)), (6, v12), (65, .int .i64 ((x0).length : Int)), (66, .int .i64 (p.1 : Int))]) (fun (p : Nat × Nat × (List (List Int)) × (List Value)) => [own2 22 3 TR.int v12 p.2.2.2 p.2.2.1]) (fun (p : Nat × Nat × (List (List Int)) × (List Value)) => p.1 + p.2.1 = (((x0).length : Int)).toNat ∧ rangeN (widest_Paths_b3 x0) p.2.1 p.1 p.2.2.1 = some y1570) (fun (p : Nat × Nat × (List (List Int)) × (List Value)) => p.2.1) (0, (((x0).length : Int)).toNat, l162, V163) ⟨by simp, h1572⟩ (fun a w st => St.cut [0] ⟨rfl, rfl, rfl, rfl, trivial⟩ (by decide) rfl st) ?_
  rintro ⟨i1577, r1578, l1024, V1025⟩ ⟨h1583, h1582⟩
  try dsimp only at h1583 h1582
  refine GL.weak (env' := [(5, .int .i64 ((x0).length : Int)), (6, v12), (65, .int .i64 ((x0).length : Int)), (66, .int .i64 (i1577 : Int))]) (L' := [own2 22 3 TR.int v12 V1025 l1024]) (fun _ _ st => st) ?_
  refine GL.seq ?_
  refine GL.region ?_
  refine RL.binI (v := .bool (decide ((i1577 : Int) < ((x0).length : Int)))) rfl rfl rfl rfl rfl ?_
  refine RL.finG ?_
  refine GL.seq ?_
  refine GL.cond rfl (fun b1585 => ?_) (fun b1585 => ?_)
  ·have h1586 : i1577 < (((x0).length : Int)).toNat := by have := of_decide_eq_true b1585; omega
   obtain ⟨r1587, hr⟩ : ∃ m, r1578 = m + 1 := ⟨r1578 - 1, by omega⟩
   subst hr
   obtain ⟨z1579, h1580, h1581⟩ := rangeN_some h1582
   unfold widest_Paths_b3 at h1580
   try dsimp only at h1580
   refine GL.skip ?_
   refine GL.seq ?_
   refine GL.block ?_
   refine GL.seq ?_
   refine GL.region ?_
   refine RL.mv rfl rfl rfl ?_
   refine RL.asg rfl rfl rfl ?_
   refine RL.finG ?_
   refine GL.seq ?_
   refine GL.region ?_
   refine RL.mv rfl rfl rfl ?_
   refine RL.mv rfl rfl rfl ?_
   refine RL.finG ?_
   obtain ⟨y1935, e1936, h1580⟩ := bind_some h1580
   replace e1936 := chk_some e1936
   obtain ⟨y1937, K1938, h1939, h1940, h1941, h1942, h1943⟩ := bindF_K h1580
   refine GL.join (ι := (List (List Int)) × (List Value)) (fun (p : (List (List Int)) × (List Value)) => [(5, .int .i64 ((x0).length : Int)), (6, v12), (65, .int .i64 ((x0).length : Int)), (66, .int .i64 (i1577 : Int))]) (fun (p : (List (List Int)) × (List Value)) => [own2 22 3 TR.int v12 p.2 p.1]) (fun (p : (List (List Int)) × (List Value)) => K1938 (.nx p.1)) ?_ ?_
   ·refine GL.block ?_
    refine GL.loop (ι := Nat × Nat × (List (List Int)) × (List Value)) (fun (p : Nat × Nat × (List (List Int)) × (List Value)) => [(5, .int .i64 ((x0).length : Int)), (6, v12), (9, .int .i64 (i1577 : Int)), (65, .int .i64 ((x0).length : Int)), (66, .int .i64 (i1577 : Int)), (69, .int .i64 ((x0).length : Int)), (70, .int .i64 (p.1 : Int))]) (fun (p : Nat × Nat × (List (List Int)) × (List Value)) => [own2 22 3 TR.int v12 p.2.2.2 p.2.2.1]) (fun (p : Nat × Nat × (List (List Int)) × (List Value)) => p.1 + p.2.1 = (((x0).length : Int)).toNat ∧ rangeN (widest_Paths_b4 x0 i1577) p.2.1 p.1 p.2.2.1 = some y1937) (fun (p : Nat × Nat × (List (List Int)) × (List Value)) => p.2.1) (0, (((x0).length : Int)).toNat, l1024, V1025) ⟨by simp, h1939⟩ (fun a w st => St.cut [0] ⟨rfl, rfl, rfl, rfl, rfl, rfl, rfl, trivial⟩ (by decide) rfl st) ?_
    rintro ⟨i1944, r1945, l1760, V1761⟩ ⟨h1950, h1949⟩
    try dsimp only at h1950 h1949
    refine GL.weak (env' := [(5, .int .i64 ((x0).length : Int)), (6, v12), (9, .int .i64 (i1577 : Int)), (65, .int .i64 ((x0).length : Int)), (66, .int .i64 (i1577 : Int)), (69, .int .i64 ((x0).length : Int)), (70, .int .i64 (i1944 : Int))]) (L' := [own2 22 3 TR.int v12 V1761 l1760]) (fun _ _ st => st) ?_
    refine GL.seq ?_
    refine GL.region ?_
    refine RL.binI (v := .bool (decide ((i1944 : Int) < ((x0).length : Int)))) rfl rfl rfl rfl rfl ?_
    refine RL.finG ?_
    refine GL.seq ?_
    refine GL.cond rfl (fun b1952 => ?_) (fun b1952 => ?_)
    ·have h1953 : i1944 < (((x0).length : Int)).toNat := by have := of_decide_eq_true b1952; omega
     obtain ⟨r1954, hr⟩ : ∃ m, r1945 = m + 1 := ⟨r1945 - 1, by omega⟩
     subst hr
     obtain ⟨z1946, h1947, h1948⟩ := rangeN_some h1949
     unfold widest_Paths_b4 at h1947
     try dsimp only at h1947
     refine GL.skip ?_
     refine GL.seq ?_
     refine GL.block ?_
     refine GL.seq ?_
     refine GL.region ?_
     refine RL.mv rfl rfl rfl ?_
     refine RL.asg rfl rfl rfl ?_
     refine RL.finG ?_
     refine GL.seq ?_
     refine GL.region ?_
     refine RL.mv rfl rfl rfl ?_
     refine RL.mv rfl rfl rfl ?_
     refine RL.finG ?_
     obtain ⟨y2056, e2057, h1947⟩ := bind_some h1947
     replace e2057 := chk_some e2057
     obtain ⟨y2058, K2059, h2060, h2061, h2062, h2063, h2064⟩ := bindF_K h1947
     refine GL.join (ι := (List (List Int)) × (List Value)) (fun (p : (List (List Int)) × (List Value)) => [(5, .int .i64 ((x0).length : Int)), (6, v12), (9, .int .i64 (i1577 : Int)), (65, .int .i64 ((x0).length : Int)), (66, .int .i64 (i1577 : Int)), (69, .int .i64 ((x0).length : Int)), (70, .int .i64 (i1944 : Int))]) (fun (p : (List (List Int)) × (List Value)) => [own2 22 3 TR.int v12 p.2 p.1]) (fun (p : (List (List Int)) × (List Value)) => K2059 (.nx p.1)) ?_ ?_
     ·refine GL.block ?_
      refine GL.loop (ι := Nat × Nat × (List (List Int)) × (List Value)) (fun (p : Nat × Nat × (List (List Int)) × (List Value)) => [(5, .int .i64 ((x0).length : Int)), (6, v12), (9, .int .i64 (i1577 : Int)), (10, .int .i64 (i1944 : Int)), (65, .int .i64 ((x0).length : Int)), (66, .int .i64 (i1577 : Int)), (69, .int .i64 ((x0).length : Int)), (70, .int .i64 (i1944 : Int)), (73, .int .i64 ((x0).length : Int)), (74, .int .i64 (p.1 : Int))]) (fun (p : Nat × Nat × (List (List Int)) × (List Value)) => [own2 22 3 TR.int v12 p.2.2.2 p.2.2.1]) (fun (p : Nat × Nat × (List (List Int)) × (List Value)) => p.1 + p.2.1 = (((x0).length : Int)).toNat ∧ rangeN (widest_Paths_b5 i1944 i1577) p.2.1 p.1 p.2.2.1 = some y2058) (fun (p : Nat × Nat × (List (List Int)) × (List Value)) => p.2.1) (0, (((x0).length : Int)).toNat, l1760, V1761) ⟨by simp, h2060⟩ (fun a w st => St.cut [0] ⟨rfl, rfl, rfl, rfl, rfl, rfl, rfl, rfl, rfl, rfl, trivial⟩ (by decide) rfl st) ?_
      rintro ⟨i2065, r2066, l2004, V2005⟩ ⟨h2071, h2070⟩
      try dsimp only at h2071 h2070
      refine GL.weak (env' := [(5, .int .i64 ((x0).length : Int)), (6, v12), (9, .int .i64 (i1577 : Int)), (10, .int .i64 (i1944 : Int)), (65, .int .i64 ((x0).length : Int)), (66, .int .i64 (i1577 : Int)), (69, .int .i64 ((x0).length : Int)), (70, .int .i64 (i1944 : Int)), (73, .int .i64 ((x0).length : Int)), (74, .int .i64 (i2065 : Int))]) (L' := [own2 22 3 TR.int v12 V2005 l2004]) (fun _ _ st => st) ?_
      refine GL.seq ?_
      refine GL.region ?_
      refine RL.binI (v := .bool (decide ((i2065 : Int) < ((x0).length : Int)))) rfl rfl rfl rfl rfl ?_
      refine RL.finG ?_
      refine GL.seq ?_
      refine GL.cond rfl (fun b2073 => ?_) (fun b2073 => ?_)
      ·have h2074 : i2065 < (((x0).length : Int)).toNat := by have := of_decide_eq_true b2073; omega
       obtain ⟨r2075, hr⟩ : ∃ m, r2066 = m + 1 := ⟨r2066 - 1, by omega⟩
       subst hr
       obtain ⟨z2067, h2068, h2069⟩ := rangeN_some h2070
       unfold widest_Paths_b5 at h2068
       try dsimp only at h2068
       refine GL.skip ?_
       refine GL.seq ?_
       refine GL.block ?_
       refine GL.seq ?_
       refine GL.region ?_
       refine RL.mv rfl rfl rfl ?_
       refine RL.asg rfl rfl rfl ?_
       refine RL.finG ?_
       refine GL.seq ?_
       obtain ⟨y2081, K2082, h2083, h2084, h2085, h2086, h2087⟩ := bindF_K h2068
       refine GL.join (ι := Bool) (fun (p : Bool) => [(5, .int .i64 ((x0).length : Int)), (6, v12), (9, .int .i64 (i1577 : Int)), (10, .int .i64 (i1944 : Int)), (11, .int .i64 (i2065 : Int)), (65, .int .i64 ((x0).length : Int)), (66, .int .i64 (i1577 : Int)), (69, .int .i64 ((x0).length : Int)), (70, .int .i64 (i1944 : Int)), (73, .int .i64 ((x0).length : Int)), (74, .int .i64 (i2065 : Int)), (89, .bool p)]) (fun (p : Bool) => [own2 22 3 TR.int v12 V2005 l2004]) (fun (p : Bool) => K2082 (.nx p)) ?_ ?_
       ·skip
        refine GL.region ?_
        refine RL.mv rfl rfl rfl ?_
        refine RL.mv rfl rfl rfl ?_
        refine RL.binI (v := .bool ((i1944 : Int) != (i2065 : Int))) rfl rfl rfl rfl rfl ?_
        refine RL.mv rfl rfl rfl ?_
        refine RL.split (t := 80) rfl (fun b2088 => ?_) (fun b2088 => ?_)
        ·replace h2083 := ite_t b2088 h2083
         refine RL.mv rfl rfl rfl ?_
         refine RL.mv rfl rfl rfl ?_
         refine RL.binI (v := .bool ((i1944 : Int) != (i1577 : Int))) rfl rfl rfl rfl rfl ?_
         refine RL.pickT rfl rfl rfl rfl ?_
         refine RL.mv rfl rfl rfl ?_
         refine RL.split (t := 85) rfl (fun b2089 => ?_) (fun b2089 => ?_)
         ·replace h2083 := ite_t b2089 h2083
          refine RL.mv rfl rfl rfl ?_
          refine RL.mv rfl rfl rfl ?_
          refine RL.binI (v := .bool ((i2065 : Int) != (i1577 : Int))) rfl rfl rfl rfl rfl ?_
          refine RL.pickT rfl rfl rfl rfl ?_
          refine RL.fin ?_
          cases h2083
          exact fun a w st => mid_intro ((i2065 : Int) != (i1577 : Int)) h2084 (St.cut [0] ⟨rfl, rfl, rfl, rfl, rfl, rfl, rfl, rfl, rfl, rfl, rfl, rfl, trivial⟩ (by decide) rfl st)
         replace h2083 := ite_f b2089 h2083
         refine RL.skip rfl rfl ?_
         refine RL.skip rfl rfl ?_
         refine RL.skip rfl rfl ?_
         refine RL.pickF rfl rfl rfl rfl ?_
         refine RL.fin ?_
         cases h2083
         exact fun a w st => mid_intro false h2084 (St.cut [0] ⟨rfl, rfl, rfl, rfl, rfl, rfl, rfl, rfl, rfl, rfl, rfl, rfl, trivial⟩ (by decide) rfl st)
        replace h2083 := ite_f b2088 h2083
        refine RL.skip rfl rfl ?_
        refine RL.skip rfl rfl ?_
        refine RL.skip rfl rfl ?_
        refine RL.pickF rfl rfl rfl rfl ?_
        refine RL.mv rfl rfl rfl ?_
        refine RL.skip rfl rfl ?_
        refine RL.skip rfl rfl ?_
        refine RL.skip rfl rfl ?_
        refine RL.pickF rfl rfl rfl rfl ?_
        refine RL.fin ?_
        cases h2083
        exact fun a w st => mid_intro false h2084 (St.cut [0] ⟨rfl, rfl, rfl, rfl, rfl, rfl, rfl, rfl, rfl, rfl, rfl, rfl, trivial⟩ (by decide) rfl st)
       rintro x2080 h2090
       have h2091 := h2085 _ h2090
       try dsimp only at h2091
       refine GL.weak (env' := [(5, .int .i64 ((x0).length : Int)), (6, v12), (9, .int .i64 (i1577 : Int)), (10, .int .i64 (i1944 : Int)), (11, .int .i64 (i2065 : Int)), (65, .int .i64 ((x0).length : Int)), (66, .int .i64 (i1577 : Int)), (69, .int .i64 ((x0).length : Int)), (70, .int .i64 (i1944 : Int)), (73, .int .i64 ((x0).length : Int)), (74, .int .i64 (i2065 : Int)), (89, .bool x2080)]) (L' := [own2 22 3 TR.int v12 V2005 l2004]) (fun _ _ st => st) ?_
       refine GL.cond rfl (fun b2092 => ?_) (fun b2092 => ?_)
       ·replace h2091 := ite_t b2092 h2091
        refine GL.regionH 29 rfl rfl (by kernel_rfl) ?_
        simp only [List.take_succ_cons, List.take_zero, List.drop_succ_cons, List.drop_zero]
        refine RL.mv rfl rfl rfl ?_
        refine RL.mv rfl rfl rfl ?_
        obtain ⟨y2109, e2110, h2091⟩ := bind_some h2091
        refine RL.idxR 0 Try.underlying27 Try_ln22 rfl rfl rfl rfl rfl (idx_some e2110).1 (idx_some e2110).2.1 ?_
        refine RL.ldR (i := i1944) (r := y2109) 0 Try_ln22 rfl rfl rfl rfl (idx_some e2110).2.2 ?_
        refine RL.mv rfl rfl rfl ?_
        refine RL.mv rfl rfl rfl ?_
        refine RL.mv rfl rfl rfl ?_
        obtain ⟨y2111, e2112, h2091⟩ := bind_some h2091
        refine RL.idxR 0 Try.underlying27 Try_ln22 rfl rfl rfl rfl rfl (idx_some e2112).1 (idx_some e2112).2.1 ?_
        refine RL.ldR (i := i1944) (r := y2111) 0 Try_ln22 rfl rfl rfl rfl (idx_some e2112).2.2 ?_
        refine RL.mv rfl rfl rfl ?_
        obtain ⟨y2113, e2114, h2091⟩ := bind_some h2091
        refine RL.idxS (sz := 1) 0 Try.underlying22 Try_ln3 rfl rfl rfl rfl rfl (SlOf.row (idx_some e2112).2.2) (idx_some e2114).1 (idx_some e2114).2.1 ?_
        refine RL.ldSx (i := i2065) (e' := y2113) 0 Ex.ik Try_ln3 rfl rfl rfl rfl (SlOf.row (idx_some e2112).2.2) (idx_some e2114).2.2 Part.self ?_
        refine RL.mv rfl rfl rfl ?_
        refine RL.mv rfl rfl rfl ?_
        obtain ⟨y2115, e2116, h2091⟩ := bind_some h2091
        refine RL.idxR 0 Try.underlying27 Try_ln22 rfl rfl rfl rfl rfl (idx_some e2116).1 (idx_some e2116).2.1 ?_
        refine RL.ldR (i := i1944) (r := y2115) 0 Try_ln22 rfl rfl rfl rfl (idx_some e2116).2.2 ?_
        refine RL.mv rfl rfl rfl ?_
        obtain ⟨y2117, e2118, h2091⟩ := bind_some h2091
        refine RL.idxS (sz := 1) 0 Try.underlying22 Try_ln3 rfl rfl rfl rfl rfl (SlOf.row (idx_some e2116).2.2) (idx_some e2118).1 (idx_some e2118).2.1 ?_
        refine RL.ldSx (i := i1577) (e' := y2117) 0 Ex.ik Try_ln3 rfl rfl rfl rfl (SlOf.row (idx_some e2116).2.2) (idx_some e2118).2.2 Part.self ?_
        refine RL.mv rfl rfl rfl ?_
        refine RL.mv rfl rfl rfl ?_
        obtain ⟨y2119, e2120, h2091⟩ := bind_some h2091
        refine RL.idxR 0 Try.underlying27 Try_ln22 rfl rfl rfl rfl rfl (idx_some e2120).1 (idx_some e2120).2.1 ?_
        refine RL.ldR (i := i1577) (r := y2119) 0 Try_ln22 rfl rfl rfl rfl (idx_some e2120).2.2 ?_
        refine RL.mv rfl rfl rfl ?_
        obtain ⟨y2121, e2122, h2091⟩ := bind_some h2091
        refine RL.idxS (sz := 1) 0 Try.underlying22 Try_ln3 rfl rfl rfl rfl rfl (SlOf.row (idx_some e2120).2.2) (idx_some e2122).1 (idx_some e2122).2.1 ?_
        refine RL.ldSx (i := i2065) (e' := y2121) 0 Ex.ik Try_ln3 rfl rfl rfl rfl (SlOf.row (idx_some e2120).2.2) (idx_some e2122).2.2 Part.self ?_
        refine RL.minI rfl rfl rfl rfl ?_
        refine RL.maxI rfl rfl rfl rfl ?_
        obtain ⟨y2123, e2124, h2091⟩ := bind_some h2091
        refine RL.idxS (sz := 1) 0 Try.underlying22 Try_ln3 rfl rfl rfl rfl rfl (SlOf.row (idx_some e2110).2.2) (idx_some e2124).1 (idx_some e2124).2.1 ?_
        refine RL.finH ?_
        refine RL.stR (i := i1944) (j := i2065) (row := y2109) (e' := if (if y2121 < y2117 then y2121 else y2117) > y2113 then if y2121 < y2117 then y2121 else y2117 else y2113) (e1 := if (if y2121 < y2117 then y2121 else y2117) > y2113 then if y2121 < y2117 then y2121 else y2117 else y2113) (r := TR.int) 0 Try_ln3 rfl rfl rfl rfl VR.int rfl (idx_some e2110).2.2 (idx_some e2124).2.2 Upd.self ?_
        refine RL.finG ?_
        refine GL.weak (env' := [(5, .int .i64 ((x0).length : Int)), (6, v12), (9, .int .i64 (i1577 : Int)), (10, .int .i64 (i1944 : Int)), (65, .int .i64 ((x0).length : Int)), (66, .int .i64 (i1577 : Int)), (69, .int .i64 ((x0).length : Int)), (70, .int .i64 (i1944 : Int)), (73, .int .i64 ((x0).length : Int)), (74, .int .i64 (i2065 : Int))]) (L' := [own2 22 3 TR.int v12 V2005 (List.set l2004 i1944 (List.set y2109 i2065 (if (if y2121 < y2117 then y2121 else y2117) > y2113 then if y2121 < y2117 then y2121 else y2117 else y2113)))]) (fun a w st => St.cut [0] ⟨rfl, rfl, rfl, rfl, rfl, rfl, rfl, rfl, rfl, rfl, trivial⟩ (by decide) rfl st) ?_
        refine GL.nilB ?_
        refine GL.region ?_
        refine RL.binI (v := .int .i64 ((i2065 + 1 : Nat) : Int)) rfl rfl rfl rfl (binI_succ i2065 (by omega)) ?_
        refine RL.mv rfl rfl rfl ?_
        refine RL.fin ?_
        cases h2091
        exact fun a w st => lop_intro (i2065 + 1, r2075, (List.set l2004 i1944 (List.set y2109 i2065 (if (if y2121 < y2117 then y2121 else y2117) > y2113 then if y2121 < y2117 then y2121 else y2117 else y2113))), V2005) ⟨by show i2065 + 1 + r2075 = (((x0).length : Int)).toNat; omega, h2069⟩ (by simp) (St.cut [0] ⟨rfl, rfl, rfl, rfl, rfl, rfl, rfl, rfl, rfl, rfl, trivial⟩ (by decide) rfl st)
       replace h2091 := ite_f b2092 h2091
       refine GL.skip ?_
       refine GL.nilB ?_
       refine GL.region ?_
       refine RL.binI (v := .int .i64 ((i2065 + 1 : Nat) : Int)) rfl rfl rfl rfl (binI_succ i2065 (by omega)) ?_
       refine RL.mv rfl rfl rfl ?_
       refine RL.fin ?_
       cases h2091
       exact fun a w st => lop_intro (i2065 + 1, r2075, l2004, V2005) ⟨by show i2065 + 1 + r2075 = (((x0).length : Int)).toNat; omega, h2069⟩ (by simp) (St.cut [0] ⟨rfl, rfl, rfl, rfl, rfl, rfl, rfl, rfl, rfl, rfl, trivial⟩ (by decide) rfl st)
      have h2074 : ¬ i2065 < (((x0).length : Int)).toNat := by have := of_decide_eq_false b2073; omega
      obtain rfl : r2066 = 0 := by omega
      replace h2070 : some (Fl.nx _) = some y2058 := h2070
      cases h2070
      exact GL.exit (fun a w st => mid_intro (l2004, V2005) h2061 (St.cut [0] ⟨rfl, rfl, rfl, rfl, rfl, rfl, rfl, trivial⟩ (by decide) rfl st))
     rintro ⟨l2004, V2005⟩ h2125
     have h2126 := h2062 _ h2125
     try dsimp only at h2126
     refine GL.weak (env' := [(5, .int .i64 ((x0).length : Int)), (6, v12), (9, .int .i64 (i1577 : Int)), (65, .int .i64 ((x0).length : Int)), (66, .int .i64 (i1577 : Int)), (69, .int .i64 ((x0).length : Int)), (70, .int .i64 (i1944 : Int))]) (L' := [own2 22 3 TR.int v12 V2005 l2004]) (fun _ _ st => st) ?_
     refine GL.nilB ?_
     refine GL.region ?_
     refine RL.binI (v := .int .i64 ((i1944 + 1 : Nat) : Int)) rfl rfl rfl rfl (binI_succ i1944 (by omega)) ?_
     refine RL.mv rfl rfl rfl ?_
     refine RL.fin ?_
     cases h2126
     exact fun a w st => lop_intro (i1944 + 1, r1954, l2004, V2005) ⟨by show i1944 + 1 + r1954 = (((x0).length : Int)).toNat; omega, h1948⟩ (by simp) (St.cut [0] ⟨rfl, rfl, rfl, rfl, rfl, rfl, rfl, trivial⟩ (by decide) rfl st)
    have h1953 : ¬ i1944 < (((x0).length : Int)).toNat := by have := of_decide_eq_false b1952; omega
    obtain rfl : r1945 = 0 := by omega
    replace h1949 : some (Fl.nx _) = some y1937 := h1949
    cases h1949
    exact GL.exit (fun a w st => mid_intro (l1760, V1761) h1940 (St.cut [0] ⟨rfl, rfl, rfl, rfl, trivial⟩ (by decide) rfl st))
   rintro ⟨l1760, V1761⟩ h2127
   have h2128 := h1941 _ h2127
   try dsimp only at h2128
   refine GL.weak (env' := [(5, .int .i64 ((x0).length : Int)), (6, v12), (65, .int .i64 ((x0).length : Int)), (66, .int .i64 (i1577 : Int))]) (L' := [own2 22 3 TR.int v12 V1761 l1760]) (fun _ _ st => st) ?_
   refine GL.nilB ?_
   refine GL.region ?_
   refine RL.binI (v := .int .i64 ((i1577 + 1 : Nat) : Int)) rfl rfl rfl rfl (binI_succ i1577 (by omega)) ?_
   refine RL.mv rfl rfl rfl ?_
   refine RL.fin ?_
   cases h2128
   exact fun a w st => lop_intro (i1577 + 1, r1587, l1760, V1761) ⟨by show i1577 + 1 + r1587 = (((x0).length : Int)).toNat; omega, h1581⟩ (by simp) (St.cut [0] ⟨rfl, rfl, rfl, rfl, trivial⟩ (by decide) rfl st)
  have h1586 : ¬ i1577 < (((x0).length : Int)).toNat := by have := of_decide_eq_false b1585; omega
  obtain rfl : r1578 = 0 := by omega
  replace h1582 : some (Fl.nx _) = some y1570 := h1582
  cases h1582
  exact GL.exit (fun a w st => mid_intro (l1024, V1025) h1573 (St.cut [0] ⟨rfl, trivial⟩ (by decide) rfl st))
 rintro ⟨l1024, V1025⟩ h2129
 have h2130 := h1574 _ h2129
 try dsimp only at h2130
 refine GL.weak (env' := [(6, v12)]) (L' := [own2 22 3 TR.int v12 V1025 l1024]) (fun _ _ st => st) ?_
 refine GL.seq ?_
 refine GL.region ?_
 refine RL.mv rfl rfl rfl ?_
 refine RL.asg rfl rfl rfl ?_
 refine RL.asg rfl rfl rfl ?_
 refine RL.finG ?_
 refine GL.weak (fun a w st => st.freeze2 0 rfl) ?_
 have h2130 := Option.some.inj h2130
 subst h2130
 exact GL.ret (Gx.ret (v := .tuple #[v12, .int .i64 (0 : Int)]) (res2 rfl rfl rfl) (fun a w st => (st.pick [0] (by decide) rfl).toPost v12))

set_option maxHeartbeats 4000000 in
theorem widest_Winners_c (S : Hp) (w : World) (hS : S.sub w) (v0 : Value) (x0 : (List (List Int))) (k0 : ((TR.sl (TR.sl TR.int))).vrep S v0 x0) (res : (List Int) × Int) (hm : widest_Winners_m x0 = some res) : Calls Try.prog 23 #[v0] w (Post w S (fun (o : Value) => .tuple #[o, .int .i64 res.2]) (fun (o : Value) => [own 3 TR.int o res.1])) := by
 refine calls_enter 54 Try.func23 Try.ntmps23 rfl S false [(0, v0)] [imm (TR.sl (TR.sl TR.int)) v0 x0] rfl ⟨rfl, trivial⟩ hS ⟨k0, trivial⟩ ?_
 unfold widest_Winners_m at hm
 refine GL.seq ?_
 refine GL.region ?_
 refine RL.asg rfl rfl rfl ?_
 refine RL.asg rfl rfl rfl ?_
 refine RL.finG ?_
 refine GL.seq ?_
 refine GL.region ?_
 refine RL.mv rfl rfl rfl ?_
 obtain ⟨y5, e6, hm⟩ := bind_some hm
 refine RL.call (vs := [v0]) Try_fit52 rfl rfl rfl rfl rfl (fun S f w hS hW hi => widest_Paths_c S w hS _ _ (hi 0 _ rfl) _ e6) ?_
 intro v7
 refine RL.mv rfl rfl rfl ?_
 refine RL.ext rfl rfl rfl rfl ?_
 refine RL.ext rfl rfl rfl rfl ?_
 refine RL.asg rfl rfl rfl ?_
 refine RL.asg rfl rfl rfl ?_
 refine RL.finG ?_
 refine GL.seq ?_
 refine GL.seq ?_
 refine GL.region ?_
 refine RL.mv rfl rfl rfl ?_
 refine RL.binI (v := .bool (y5.2 != (0 : Int))) rfl rfl rfl rfl rfl ?_
 refine RL.finG ?_
 refine GL.cond rfl (fun b8 => ?_) (fun b8 => ?_)
 ·replace hm := ite_t b8 hm
  refine GL.seq ?_
  refine GL.region ?_
  refine RL.mv rfl rfl rfl ?_
  refine RL.asg rfl rfl rfl ?_
  refine RL.asg rfl rfl rfl ?_
  refine RL.finG ?_
  refine GL.weak (fun a w st => st.nilOwn 3 TR.int) ?_
  have hm := Option.some.inj hm
  subst hm
  exact GL.ret (Gx.ret (v := .tuple #[Value.slice none 0 0, .int .i64 y5.2]) (res2 rfl rfl rfl) (fun a w st => (st.pick [2] (by decide) rfl).toPost (Value.slice none 0 0)))
 replace hm := ite_f b8 hm
 refine GL.skip ?_
 refine GL.seq ?_
 refine GL.region ?_
 refine RL.asg rfl rfl rfl ?_
 refine RL.finG ?_
 refine GL.seq ?_
 refine GL.seq ?_
 refine GL.region ?_
 refine RL.mv rfl rfl rfl ?_
 refine RL.lenS 1 Try.underlying27 rfl rfl rfl rfl SlOf.imm ?_
 refine RL.mv rfl rfl rfl ?_
 refine RL.finG ?_
 refine GL.weak (fun a w st => st.nilOwn 3 TR.int) ?_
 refine GL.open_ 1 rfl (fun S h => len_imm S h) (fun n125 => ?_)
 obtain ⟨y126, K127, h128, h129, h130, h131, h132⟩ := bindR_K hm
 refine GL.join (ι := (List Int) × Value) (fun (p : (List Int) × Value) => [(6, p.2)]) (fun (p : (List Int) × Value) => [own 3 TR.int p.2 p.1]) (fun (p : (List Int) × Value) => K127 (.nx p.1)) ?_ ?_
 ·refine GL.block ?_
  refine GL.loop (ι := Nat × (List (List Int)) × (List Int) × Value) (fun (p : Nat × (List (List Int)) × (List Int) × Value) => [(4, v7), (6, p.2.2.2), (19, .int .i64 ((y5.1).length : Int)), (20, .int .i64 (p.1 : Int))]) (fun (p : Nat × (List (List Int)) × (List Int) × Value) => [imm (TR.sl (TR.sl TR.int)) v7 y5.1, own 3 TR.int p.2.2.2 p.2.2.1]) (fun (p : Nat × (List (List Int)) × (List Int) × Value) => p.1 + p.2.1.length = (y5.1).length ∧ List.drop p.1 y5.1 = p.2.1 ∧ rangeL (widest_Winners_b1 y5) p.2.1 p.1 p.2.2.1 = some y126) (fun (p : Nat × (List (List Int)) × (List Int) × Value) => p.2.1.length) (0, y5.1, [], Value.slice none 0 0) ⟨by simp, by simp, h128⟩ (fun a w st => St.cut [1, 2] ⟨rfl, rfl, rfl, rfl, trivial⟩ (by decide) rfl st) ?_
  rintro ⟨i133, r134, l9, v10⟩ ⟨h139, h140, h138⟩
  try dsimp only at h139 h140 h138
  refine GL.weak (env' := [(4, v7), (6, v10), (19, .int .i64 ((y5.1).length : Int)), (20, .int .i64 (i133 : Int))]) (L' := [imm (TR.sl (TR.sl TR.int)) v7 y5.1, own 3 TR.int v10 l9]) (fun _ _ st => st) ?_
  refine GL.seq ?_
  refine GL.region ?_
  refine RL.binI (v := .bool (decide ((i133 : Int) < ((y5.1).length : Int)))) rfl rfl rfl rfl rfl ?_
  refine RL.finG ?_
  refine GL.seq ?_
  refine GL.cond rfl (fun b141 => ?_) (fun b141 => ?_)
  ·have h142 : i133 < (y5.1).length := by have := of_decide_eq_true b141; omega
   obtain ⟨y143, r145, hr, e144, h146⟩ := drop_cons h140 rfl h142
   subst hr
   obtain ⟨z135, h136, h137⟩ := rangeL_some h138
   unfold widest_Winners_b1 at h136
   try dsimp only at h136
   refine GL.skip ?_
   refine GL.seq ?_
   refine GL.block ?_
   refine GL.seq ?_
   refine GL.region ?_
   refine RL.mv rfl rfl rfl ?_
   refine RL.asg rfl rfl rfl ?_
   refine RL.finG ?_
   refine GL.seq ?_
   refine GL.region ?_
   refine RL.asg rfl rfl rfl ?_
   refine RL.finG ?_
   refine GL.seq ?_
   refine GL.seq ?_
   refine GL.region ?_
   refine RL.mv rfl rfl rfl ?_
   refine RL.lenS 0 Try.underlying27 rfl rfl rfl rfl SlOf.imm ?_
   refine RL.mv rfl rfl rfl ?_
   refine RL.finG ?_
   refine GL.open_ 0 rfl (fun S h => len_imm S h) (fun n185 => ?_)
   obtain ⟨y186, K187, h188, h189, h190, h191, h192⟩ := bindF_K h136
   refine GL.join (ι := Bool) (fun (p : Bool) => [(4, v7), (6, v10), (7, .int .i64 (i133 : Int)), (8, .bool p), (19, .int .i64 ((y5.1).length : Int)), (20, .int .i64 (i133 : Int))]) (fun (p : Bool) => [imm (TR.sl (TR.sl TR.int)) v7 y5.1, own 3 TR.int v10 l9]) (fun (p : Bool) => K187 (.nx p)) ?_ ?_
   ·refine GL.block ?_
    refine GL.loop (ι := Nat × (List (List Int)) × Bool) (fun (p : Nat × (List (List Int)) × Bool) => [(4, v7), (6, v10), (7, .int .i64 (i133 : Int)), (8, .bool p.2.2), (19, .int .i64 ((y5.1).length : Int)), (20, .int .i64 (i133 : Int)), (24, .int .i64 ((y5.1).length : Int)), (25, .int .i64 (p.1 : Int))]) (fun (p : Nat × (List (List Int)) × Bool) => [imm (TR.sl (TR.sl TR.int)) v7 y5.1, own 3 TR.int v10 l9]) (fun (p : Nat × (List (List Int)) × Bool) => p.1 + p.2.1.length = (y5.1).length ∧ List.drop p.1 y5.1 = p.2.1 ∧ rangeL (widest_Winners_b2 y143 i133) p.2.1 p.1 p.2.2 = some y186) (fun (p : Nat × (List (List Int)) × Bool) => p.2.1.length) (0, y5.1, true) ⟨by simp, by simp, h188⟩ (fun a w st => St.cut [0, 1] ⟨rfl, rfl, rfl, rfl, rfl, rfl, rfl, rfl, trivial⟩ (by decide) rfl st) ?_
    rintro ⟨i193, r194, x147⟩ ⟨h199, h200, h198⟩
    try dsimp only at h199 h200 h198
    refine GL.weak (env' := [(4, v7), (6, v10), (7, .int .i64 (i133 : Int)), (8, .bool x147), (19, .int .i64 ((y5.1).length : Int)), (20, .int .i64 (i133 : Int)), (24, .int .i64 ((y5.1).length : Int)), (25, .int .i64 (i193 : Int))]) (L' := [imm (TR.sl (TR.sl TR.int)) v7 y5.1, own 3 TR.int v10 l9]) (fun _ _ st => st) ?_
    refine GL.seq ?_
    refine GL.region ?_
    refine RL.binI (v := .bool (decide ((i193 : Int) < ((y5.1).length : Int)))) rfl rfl rfl rfl rfl ?_
    refine RL.finG ?_
    refine GL.seq ?_
    refine GL.cond rfl (fun b201 => ?_) (fun b201 => ?_)
    ·have h202 : i193 < (y5.1).length := by have := of_decide_eq_true b201; omega
     obtain ⟨y203, r205, hr, e204, h206⟩ := drop_cons h200 rfl h202
     subst hr
     obtain ⟨z195, h196, h197⟩ := rangeL_some h198
     unfold widest_Winners_b2 at h196
     try dsimp only at h196
     refine GL.skip ?_
     refine GL.seq ?_
     refine GL.block ?_
     refine GL.seq ?_
     refine GL.region ?_
     refine RL.mv rfl rfl rfl ?_
     refine RL.asg rfl rfl rfl ?_
     refine RL.finG ?_
     obtain ⟨y222, K223, h224, h225, h226, h227, h228⟩ := bindF_K h196
     refine GL.join (ι := Bool) (fun (p : Bool) => [(4, v7), (6, v10), (7, .int .i64 (i133 : Int)), (8, .bool p), (19, .int .i64 ((y5.1).length : Int)), (20, .int .i64 (i133 : Int)), (24, .int .i64 ((y5.1).length : Int)), (25, .int .i64 (i193 : Int))]) (fun (p : Bool) => [imm (TR.sl (TR.sl TR.int)) v7 y5.1, own 3 TR.int v10 l9]) (fun (p : Bool) => K223 (.nx p)) ?_ ?_
     ·skip
      refine GL.regionQ rfl rfl (by kernel_rfl) ?_
      refine RL.mv rfl rfl rfl ?_
      refine RL.mv rfl rfl rfl ?_
      refine RL.split (t := 29) rfl (fun b229 => ?_) (fun b229 => ?_)
      ·replace h224 := ite_t b229 h224
       refine RL.mv rfl rfl rfl ?_
       refine RL.mv rfl rfl rfl ?_
       refine RL.idxS (sz := 1) 0 Try.underlying27 Try_ln22 rfl rfl rfl rfl rfl SlOf.imm (by omega) (by omega) ?_
       refine RL.ldS (i := i133) (r := (TR.sl TR.int)) (e' := y143) 0 Try_ln22 rfl rfl rfl rfl SlOf.imm e144 Part.self ?_
       intro v230
       refine RL.mv rfl rfl rfl ?_
       obtain ⟨y231, e232, h224⟩ := bind_some h224
       refine RL.idxS (sz := 1) 2 Try.underlying22 Try_ln3 rfl rfl rfl rfl rfl SlOf.imm (idx_some e232).1 (idx_some e232).2.1 ?_
       refine RL.ldSx (i := i193) (e' := y231) 2 Ex.ik Try_ln3 rfl rfl rfl rfl SlOf.imm (idx_some e232).2.2 Part.self ?_
       refine RL.mv rfl rfl rfl ?_
       refine RL.mv rfl rfl rfl ?_
       refine RL.idxS (sz := 1) 0 Try.underlying27 Try_ln22 rfl rfl rfl rfl rfl SlOf.imm (by omega) (by omega) ?_
       refine RL.ldS (i := i193) (r := (TR.sl TR.int)) (e' := y203) 0 Try_ln22 rfl rfl rfl rfl SlOf.imm e204 Part.self ?_
       intro v233
       refine RL.reL (L' := [imm (TR.sl (TR.sl TR.int)) v7 y5.1, own 3 TR.int v10 l9, imm (TR.sl TR.int) v230 y143, imm (TR.sl TR.int) v233 y203]) rfl ?_
       refine RL.mv rfl rfl rfl ?_
       obtain ⟨y234, e235, h224⟩ := bind_some h224
       refine RL.idxS (sz := 1) 3 Try.underlying22 Try_ln3 rfl rfl rfl rfl rfl SlOf.imm (idx_some e235).1 (idx_some e235).2.1 ?_
       refine RL.ldSx (i := i133) (e' := y234) 3 Ex.ik Try_ln3 rfl rfl rfl rfl SlOf.imm (idx_some e235).2.2 Part.self ?_
       refine RL.binI (v := .bool (decide (y231 ≥ y234))) rfl rfl rfl rfl rfl ?_
       refine RL.pickT rfl rfl rfl rfl ?_
       refine RL.asg rfl rfl rfl ?_
       refine RL.finQ ?_
       cases h224
       exact fun a w st => mid_intro (decide (y231 ≥ y234)) h225 (St.cut [0, 1] ⟨rfl, rfl, rfl, rfl, rfl, rfl, rfl, rfl, trivial⟩ (by decide) rfl st)
      replace h224 := ite_f b229 h224
      refine RL.skip rfl rfl ?_
      refine RL.skip rfl rfl ?_
      refine RL.skip rfl rfl ?_
      refine RL.skip rfl rfl ?_
      refine RL.skip rfl rfl ?_
      refine RL.skip rfl rfl ?_
      refine RL.skip rfl rfl ?_
      refine RL.skip rfl rfl ?_
      refine RL.skip rfl rfl ?_
      refine RL.skip rfl rfl ?_
      refine RL.skip rfl rfl ?_
      refine RL.skip rfl rfl ?_
      refine RL.skip rfl rfl ?_
      refine RL.skip rfl rfl ?_
      refine RL.skip rfl rfl ?_
      refine RL.pickF rfl rfl rfl rfl ?_
      refine RL.asg rfl rfl rfl ?_
      refine RL.finQ ?_
      cases h224
      exact fun a w st => mid_intro false h225 (St.cut [0, 1] ⟨rfl, rfl, rfl, rfl, rfl, rfl, rfl, rfl, trivial⟩ (by decide) rfl st)
     rintro x221 h236
     have h237 := h226 _ h236
     try dsimp only at h237
     refine GL.weak (env' := [(4, v7), (6, v10), (7, .int .i64 (i133 : Int)), (8, .bool x221), (19, .int .i64 ((y5.1).length : Int)), (20, .int .i64 (i133 : Int)), (24, .int .i64 ((y5.1).length : Int)), (25, .int .i64 (i193 : Int))]) (L' := [imm (TR.sl (TR.sl TR.int)) v7 y5.1, own 3 TR.int v10 l9]) (fun _ _ st => st) ?_
     refine GL.nilB ?_
     refine GL.region ?_
     refine RL.binI (v := .int .i64 ((i193 + 1 : Nat) : Int)) rfl rfl rfl rfl (binI_succ i193 (by omega)) ?_
     refine RL.mv rfl rfl rfl ?_
     refine RL.fin ?_
     cases h237
     exact fun a w st => lop_intro (i193 + 1, r205, x221) ⟨by show i193 + 1 + r205.length = (y5.1).length; simp only [List.length_cons] at h199; omega, h206, h197⟩ (by simp) (St.cut [0, 1] ⟨rfl, rfl, rfl, rfl, rfl, rfl, rfl, rfl, trivial⟩ (by decide) rfl st)
    have h202 : ¬ i193 < (y5.1).length := by have := of_decide_eq_false b201; omega
    obtain rfl : r194 = [] := by rw [← h200]; exact List.drop_of_length_le (by omega)
    replace h198 : some (Fl.nx _) = some y186 := h198
    cases h198
    exact GL.exit (fun a w st => mid_intro x147 h189 (St.cut [0, 1] ⟨rfl, rfl, rfl, rfl, rfl, rfl, trivial⟩ (by decide) rfl st))
   rintro x147 h238
   have h239 := h190 _ h238
   try dsimp only at h239
   refine GL.weak (env' := [(4, v7), (6, v10), (7, .int .i64 (i133 : Int)), (8, .bool x147), (19, .int .i64 ((y5.1).length : Int)), (20, .int .i64 (i133 : Int))]) (L' := [imm (TR.sl (TR.sl TR.int)) v7 y5.1, own 3 TR.int v10 l9]) (fun _ _ st => st) ?_
   refine GL.seq ?_
   refine GL.region ?_
   refine RL.mv rfl rfl rfl ?_
   refine RL.finG ?_
   refine GL.cond rfl (fun b240 => ?_) (fun b240 => ?_)
   ·replace h239 := ite_t b240 h239
    refine GL.region ?_
    refine RL.mv rfl rfl rfl ?_
    refine RL.mv rfl rfl rfl ?_
    refine RL.bS (t := TR.int) (vs := [.int .i64 (i133 : Int)]) ([(i133 : Int)] : (List Int)) Try.underlying22 Try_lo3 rfl rfl rfl rfl ⟨VR.int, trivial⟩ rfl (by decide) ?_
    intro v245
    obtain ⟨y246, e247, h239⟩ := bind_some h239
    replace e247 := chk_some e247
    refine RL.app 1 2 Try.underlying22 Try_lo3 rfl rfl rfl rfl rfl rfl rfl SlOf.own e247 ?_
    intro v248
    refine RL.reL (L' := [imm (TR.sl (TR.sl TR.int)) v7 y5.1, own 3 TR.int v248 (l9 ++ ([(i133 : Int)] : (List Int))), own 3 TR.int v245 ([(i133 : Int)] : (List Int))]) rfl ?_
    refine RL.asg rfl rfl rfl ?_
    refine RL.finG ?_
    refine GL.nilB ?_
    refine GL.region ?_
    refine RL.binI (v := .int .i64 ((i133 + 1 : Nat) : Int)) rfl rfl rfl rfl (binI_succ i133 (by omega)) ?_
    refine RL.mv rfl rfl rfl ?_
    refine RL.fin ?_
    cases h239
    exact fun a w st => lop_intro (i133 + 1, r145, (l9 ++ ([(i133 : Int)] : (List Int))), v248) ⟨by show i133 + 1 + r145.length = (y5.1).length; simp only [List.length_cons] at h139; omega, h146, h137⟩ (by simp) (St.cut [0, 1] ⟨rfl, rfl, rfl, rfl, trivial⟩ (by decide) rfl st)
   replace h239 := ite_f b240 h239
   refine GL.skip ?_
   refine GL.nilB ?_
   refine GL.region ?_
   refine RL.binI (v := .int .i64 ((i133 + 1 : Nat) : Int)) rfl rfl rfl rfl (binI_succ i133 (by omega)) ?_
   refine RL.mv rfl rfl rfl ?_
   refine RL.fin ?_
   cases h239
   exact fun a w st => lop_intro (i133 + 1, r145, l9, v10) ⟨by show i133 + 1 + r145.length = (y5.1).length; simp only [List.length_cons] at h139; omega, h146, h137⟩ (by simp) (St.cut [0, 1] ⟨rfl, rfl, rfl, rfl, trivial⟩ (by decide) rfl st)
  have h142 : ¬ i133 < (y5.1).length := by have := of_decide_eq_false b141; omega
  obtain rfl : r134 = [] := by rw [← h140]; exact List.drop_of_length_le (by omega)
  replace h138 : some (Fl.nx _) = some y126 := h138
  cases h138
  exact GL.exit (fun a w st => mid_intro (l9, v10) h129 (St.cut [1] ⟨rfl, trivial⟩ (by decide) rfl st))
 rintro ⟨l9, v10⟩ h249
 have h250 := h130 _ h249
 try dsimp only at h250
 refine GL.weak (env' := [(6, v10)]) (L' := [own 3 TR.int v10 l9]) (fun _ _ st => st) ?_
 refine GL.seq ?_
 refine GL.region ?_
 refine RL.mv rfl rfl rfl ?_
 refine RL.asg rfl rfl rfl ?_
 refine RL.asg rfl rfl rfl ?_
 refine RL.finG ?_
 have h250 := Option.some.inj h250
 subst h250
 exact GL.ret (Gx.ret (v := .tuple #[v10, .int .i64 (0 : Int)]) (res2 rfl rfl rfl) (fun a w st => (st.pick [0] (by decide) rfl).toPost v10))

set_option maxHeartbeats 4000000 in
theorem duel_Top_c (S : Hp) (w : World) (hS : S.sub w) (v0 : Value) (x0 : (List (List Int))) (k0 : ((TR.sl (TR.sl TR.int))).vrep S v0 x0) (res : (List Int) × Int) (hm : duel_Top_m x0 = some res) : Calls Try.prog 24 #[v0] w (Post w S (fun (o : Value) => .tuple #[o, .int .i64 res.2]) (fun (o : Value) => [own 3 TR.int o res.1])) := by
 refine calls_enter 133 Try.func24 Try.ntmps24 rfl S false [(0, v0)] [imm (TR.sl (TR.sl TR.int)) v0 x0] rfl ⟨rfl, trivial⟩ hS ⟨k0, trivial⟩ ?_
 unfold duel_Top_m at hm
 refine GL.seq ?_
 refine GL.region ?_
 refine RL.asg rfl rfl rfl ?_
 refine RL.asg rfl rfl rfl ?_
 refine RL.finG ?_
 refine GL.seq ?_
 refine GL.seq ?_
 refine GL.region ?_
 refine RL.mv rfl rfl rfl ?_
 obtain ⟨y4, e5, hm⟩ := bind_some hm
 refine RL.callC (v := .int .i64 y4) (vs := [v0]) Try_fit53 rfl rfl rfl rfl (fun U w hU hW hL => duel_Check_c U w hU _ _ (hL 0 _ _ rfl Seen.imm) _ e5) ?_
 refine RL.asg rfl rfl rfl ?_
 refine RL.finG ?_
 refine GL.seq ?_
 refine GL.region ?_
 refine RL.mv rfl rfl rfl ?_
 refine RL.binI (v := .bool (y4 != (0 : Int))) rfl rfl rfl rfl rfl ?_
 refine RL.finG ?_
 refine GL.cond rfl (fun b6 => ?_) (fun b6 => ?_)
 ·replace hm := ite_t b6 hm
  refine GL.seq ?_
  refine GL.region ?_
  refine RL.mv rfl rfl rfl ?_
  refine RL.asg rfl rfl rfl ?_
  refine RL.asg rfl rfl rfl ?_
  refine RL.finG ?_
  refine GL.weak (fun a w st => st.nilOwn 3 TR.int) ?_
  have hm := Option.some.inj hm
  subst hm
  exact GL.ret (Gx.ret (v := .tuple #[Value.slice none 0 0, .int .i64 y4]) (res2 rfl rfl rfl) (fun a w st => (st.pick [1] (by decide) rfl).toPost (Value.slice none 0 0)))
 replace hm := ite_f b6 hm
 refine GL.skip ?_
 refine GL.seq ?_
 refine GL.region ?_
 refine RL.mv rfl rfl rfl ?_
 refine RL.lenS 0 Try.underlying27 rfl rfl rfl rfl SlOf.imm ?_
 refine RL.asg rfl rfl rfl ?_
 refine RL.finG ?_
 refine GL.seq ?_
 refine GL.region ?_
 refine RL.mv rfl rfl rfl ?_
 obtain ⟨y10, e11, hm⟩ := bind_some hm
 replace e11 := chk_some e11
 refine RL.mkS (t := TR.raw) (z := .slice none 0 0) Try.underlying27 Try_lo22 (fun S => ⟨rfl, rfl⟩) rfl rfl rfl rfl e11.1 e11.2 ?_
 intro v12
 refine RL.weak (fun a w st => st.toRows 3 TR.int 1 rfl) ?_
 refine RL.reL (L' := [imm (TR.sl (TR.sl TR.int)) v0 x0, own2 22 3 TR.int v12 (List.replicate (((x0).length : Int)).toNat (Value.slice none 0 0)) (List.replicate (((x0).length : Int)).toNat ([] : (List Int)))]) rfl ?_
 refine RL.asg rfl rfl rfl ?_
 refine RL.finG ?_
 refine GL.seq ?_
 refine GL.seq ?_
 refine GL.region ?_
 refine RL.mv rfl rfl rfl ?_
 refine RL.lenR 1 Try.underlying27 rfl rfl rfl rfl ?_
 refine RL.mv rfl rfl rfl ?_
 refine RL.finG ?_
 refine GL.lenR 1 rfl (fun n387 => ?_)
 obtain ⟨y388, K389, h390, h391, h392, h393, h394⟩ := bindR_K hm
 refine GL.join (ι := (List (List Int)) × (List Value)) (fun (p : (List (List Int)) × (List Value)) => [(5, .int .i64 ((x0).length : Int)), (6, v12)]) (fun (p : (List (List Int)) × (List Value)) => [own2 22 3 TR.int v12 p.2 p.1]) (fun (p : (List (List Int)) × (List Value)) => K389 (.nx p.1)) ?_ ?_
 ·refine GL.block ?_
  refine GL.loop (ι := Nat × Nat × (List (List Int)) × (List Value)) (fun (p : Nat × Nat × (List (List Int)) × (List Value)) => [(0, v0), (5, .int .i64 ((x0).length : Int)), (6, v12), (26, .int .i64 (((List.replicate (((x0).length : Int)).toNat ([] : (List Int)))).length : Int)), (27, .int .i64 (p.1 : Int))]) (fun (p : Nat × Nat × (List (List Int)) × (List Value)) => [imm (TR.sl (TR.sl TR.int)) v0 x0, own2 22 3 TR.int v12 p.2.2.2 p.2.2.1]) (fun (p : Nat × Nat × (List (List Int)) × (List Value)) => p.1 + p.2.1 = ((List.replicate (((x0).length : Int)).toNat ([] : (List Int)))).length ∧ rangeN (duel_Top_b1 x0) p.2.1 p.1 p.2.2.1 = some y388) (fun (p : Nat × Nat × (List (List Int)) × (List Value)) => p.2.1) (0, ((List.replicate (((x0).length : Int)).toNat ([] : (List Int)))).length, (List.replicate (((x0).length : Int)).toNat ([] : (List Int))), (List.replicate (((x0).length : Int)).toNat (Value.slice none 0 0))) ⟨by simp, h390⟩ (fun a w st => St.cut [0, 1] ⟨rfl, rfl, rfl, rfl, rfl, trivial⟩ (by decide) rfl st) ?_
  rintro ⟨i395, r396, l199, V200⟩ ⟨h401, h400⟩
  try dsimp only at h401 h400
  refine GL.weak (env' := [(0, v0), (5, .int .i64 ((x0).length : Int)), (6, v12), (26, .int .i64 (((List.replicate (((x0).length : Int)).toNat ([] : (List Int)))).length : Int)), (27, .int .i64 (i395 : Int))]) (L' := [imm (TR.sl (TR.sl TR.int)) v0 x0, own2 22 3 TR.int v12 V200 l199]) (fun _ _ st => st) ?_
  refine GL.seq ?_
  refine GL.region ?_
  refine RL.binI (v := .bool (decide ((i395 : Int) < (((List.replicate (((x0).length : Int)).toNat ([] : (List Int)))).length : Int)))) rfl rfl rfl rfl rfl ?_
  refine RL.finG ?_
  refine GL.seq ?_
  refine GL.cond rfl (fun b403 => ?_) (fun b403 => ?_)
  ·have h404 : i395 < ((List.replicate (((x0).length : Int)).toNat ([] : (List Int)))).length := by have := of_decide_eq_true b403; omega
   obtain ⟨r405, hr⟩ : ∃ m, r396 = m + 1 := ⟨r396 - 1, by omega⟩
   subst hr
   obtain ⟨z397, h398, h399⟩ := rangeN_some h400
   unfold duel_Top_b1 at h398
   try dsimp only at h398
   refine GL.skip ?_
   refine GL.seq ?_
   refine GL.block ?_
   refine GL.seq ?_
   refine GL.region ?_
   refine RL.mv rfl rfl rfl ?_
   refine RL.asg rfl rfl rfl ?_
   refine RL.finG ?_
   refine GL.seq ?_
   refine GL.region ?_
   refine RL.mv rfl rfl rfl ?_
   refine RL.mv rfl rfl rfl ?_
   refine RL.mv rfl rfl rfl ?_
   obtain ⟨y411, e412, h398⟩ := bind_some h398
   replace e412 := chk_some e412
   refine RL.mkS (t := TR.int) (z := (0 : Int)) Try.underlying22 Try_lo3 (fun S => rfl) rfl rfl rfl rfl e412.1 e412.2 ?_
   intro v413
   obtain ⟨y414, e415, h398⟩ := bind_some h398
   refine RL.idxR 1 Try.underlying27 Try_ln22 rfl rfl rfl rfl rfl (idx_some e415).1 (idx_some e415).2.1 ?_
   refine RL.stSp (i := i395) (r0 := y414) 1 2 (by decide) Try_ln22 rfl rfl rfl rfl rfl rfl (idx_some e415).2.2 ?_
   refine RL.reL (L' := [imm (TR.sl (TR.sl TR.int)) v0 x0, own2 22 3 TR.int v12 (List.set V200 i395 v413) (List.set l199 i395 (List.replicate (((x0).length : Int)).toNat (0 : Int))), gone]) rfl ?_
   refine RL.finG ?_
   refine GL.seq ?_
   refine GL.region ?_
   refine RL.mv rfl rfl rfl ?_
   refine RL.mv rfl rfl rfl ?_
   refine RL.finG ?_
   refine GL.open_ 0 rfl (fun S h => len_imm S h) (fun n522 => ?_)
   obtain ⟨y523, K524, h525, h526, h527, h528, h529⟩ := bindF_K h398
   refine GL.join (ι := (List (List Int)) × (List Value)) (fun (p : (List (List Int)) × (List Value)) => [(0, v0), (5, .int .i64 ((x0).length : Int)), (6, v12), (26, .int .i64 (((List.replicate (((x0).length : Int)).toNat ([] : (List Int)))).length : Int)), (27, .int .i64 (i395 : Int))]) (fun (p : (List (List Int)) × (List Value)) => [imm (TR.sl (TR.sl TR.int)) v0 x0, own2 22 3 TR.int v12 p.2 p.1]) (fun (p : (List (List Int)) × (List Value)) => K524 (.nx p.1)) ?_ ?_
   ·refine GL.block ?_
    refine GL.loop (ι := Nat × (List (List Int)) × (List (List Int)) × (List Value)) (fun (p : Nat × (List (List Int)) × (List (List Int)) × (List Value)) => [(0, v0), (5, .int .i64 ((x0).length : Int)), (6, v12), (7, .int .i64 (i395 : Int)), (26, .int .i64 (((List.replicate (((x0).length : Int)).toNat ([] : (List Int)))).length : Int)), (27, .int .i64 (i395 : Int)), (35, .int .i64 ((x0).length : Int)), (36, .int .i64 (p.1 : Int))]) (fun (p : Nat × (List (List Int)) × (List (List Int)) × (List Value)) => [imm (TR.sl (TR.sl TR.int)) v0 x0, own2 22 3 TR.int v12 p.2.2.2 p.2.2.1]) (fun (p : Nat × (List (List Int)) × (List (List Int)) × (List Value)) => p.1 + p.2.1.length = (x0).length ∧ List.drop p.1 x0 = p.2.1 ∧ rangeL (duel_Top_b2 i395 x0) p.2.1 p.1 p.2.2.1 = some y523) (fun (p : Nat × (List (List Int)) × (List (List Int)) × (List Value)) => p.2.1.length) (0, x0, (List.set l199 i395 (List.replicate (((x0).length : Int)).toNat (0 : Int))), (List.set V200 i395 v413)) ⟨by simp, by simp, h525⟩ (fun a w st => St.cut [0, 1] ⟨rfl, rfl, rfl, rfl, rfl, rfl, rfl, rfl, trivial⟩ (by decide) rfl st) ?_
    rintro ⟨i530, r531, l468, V469⟩ ⟨h536, h537, h535⟩
    try dsimp only at h536 h537 h535
    refine GL.weak (env' := [(0, v0), (5, .int .i64 ((x0).length : Int)), (6, v12), (7, .int .i64 (i395 : Int)), (26, .int .i64 (((List.replicate (((x0).length : Int)).toNat ([] : (List Int)))).length : Int)), (27, .int .i64 (i395 : Int)), (35, .int .i64 ((x0).length : Int)), (36, .int .i64 (i530 : Int))]) (L' := [imm (TR.sl (TR.sl TR.int)) v0 x0, own2 22 3 TR.int v12 V469 l468]) (fun _ _ st => st) ?_
    refine GL.seq ?_
    refine GL.region ?_
    refine RL.binI (v := .bool (decide ((i530 : Int) < ((x0).length : Int)))) rfl rfl rfl rfl rfl ?_
    refine RL.finG ?_
    refine GL.seq ?_
    refine GL.cond rfl (fun b538 => ?_) (fun b538 => ?_)
    ·have h539 : i530 < (x0).length := by have := of_decide_eq_true b538; omega
     obtain ⟨y540, r542, hr, e541, h543⟩ := drop_cons h537 rfl h539
     subst hr
     obtain ⟨z532, h533, h534⟩ := rangeL_some h535
     unfold duel_Top_b2 at h533
     try dsimp only at h533
     refine GL.skip ?_
     refine GL.seq ?_
     refine GL.block ?_
     refine GL.seq ?_
     refine GL.region ?_
     refine RL.mv rfl rfl rfl ?_
     refine RL.asg rfl rfl rfl ?_
     refine RL.finG ?_
     refine GL.seq ?_
     obtain ⟨y563, K564, h565, h566, h567, h568, h569⟩ := bindF_K h533
     refine GL.join (ι := Bool) (fun (p : Bool) => [(0, v0), (5, .int .i64 ((x0).length : Int)), (6, v12), (7, .int .i64 (i395 : Int)), (8, .int .i64 (i530 : Int)), (26, .int .i64 (((List.replicate (((x0).length : Int)).toNat ([] : (List Int)))).length : Int)), (27, .int .i64 (i395 : Int)), (35, .int .i64 ((x0).length : Int)), (36, .int .i64 (i530 : Int)), (58, .bool p)]) (fun (p : Bool) => [imm (TR.sl (TR.sl TR.int)) v0 x0, own2 22 3 TR.int v12 V469 l468]) (fun (p : Bool) => K564 (.nx p)) ?_ ?_
     ·skip
      refine GL.regionQ rfl rfl (by kernel_rfl) ?_
      refine RL.mv rfl rfl rfl ?_
      refine RL.mv rfl rfl rfl ?_
      refine RL.binI (v := .bool ((i395 : Int) == (i530 : Int))) rfl rfl rfl rfl rfl ?_
      refine RL.mv rfl rfl rfl ?_
      refine RL.split (t := 42) rfl (fun b570 => ?_) (fun b570 => ?_)
      ·replace h565 := ite_t b570 h565
       refine RL.skip rfl rfl ?_
       refine RL.skip rfl rfl ?_
       refine RL.skip rfl rfl ?_
       refine RL.skip rfl rfl ?_
       refine RL.skip rfl rfl ?_
       refine RL.skip rfl rfl ?_
       refine RL.skip rfl rfl ?_
       refine RL.skip rfl rfl ?_
       refine RL.skip rfl rfl ?_
       refine RL.skip rfl rfl ?_
       refine RL.skip rfl rfl ?_
       refine RL.skip rfl rfl ?_
       refine RL.skip rfl rfl ?_
       refine RL.skip rfl rfl ?_
       refine RL.skip rfl rfl ?_
       refine RL.pickT rfl rfl rfl rfl ?_
       refine RL.finQ ?_
       cases h565
       exact fun a w st => mid_intro true h566 (St.cut [0, 1] ⟨rfl, rfl, rfl, rfl, rfl, rfl, rfl, rfl, rfl, rfl, trivial⟩ (by decide) rfl st)
      replace h565 := ite_f b570 h565
      refine RL.mv rfl rfl rfl ?_
      refine RL.mv rfl rfl rfl ?_
      obtain ⟨y571, e572, h565⟩ := bind_some h565
      refine RL.idxS (sz := 1) 0 Try.underlying27 Try_ln22 rfl rfl rfl rfl rfl SlOf.imm (idx_some e572).1 (idx_some e572).2.1 ?_
      refine RL.ldS (i := i395) (r := (TR.sl TR.int)) (e' := y571) 0 Try_ln22 rfl rfl rfl rfl SlOf.imm (idx_some e572).2.2 Part.self ?_
      intro v573
      refine RL.mv rfl rfl rfl ?_
      obtain ⟨y574, e575, h565⟩ := bind_some h565
      refine RL.idxS (sz := 1) 2 Try.underlying22 Try_ln3 rfl rfl rfl rfl rfl SlOf.imm (idx_some e575).1 (idx_some e575).2.1 ?_
      refine RL.ldSx (i := i530) (e' := y574) 2 Ex.ik Try_ln3 rfl rfl rfl rfl SlOf.imm (idx_some e575).2.2 Part.self ?_
      refine RL.mv rfl rfl rfl ?_
      refine RL.mv rfl rfl rfl ?_
      refine RL.idxS (sz := 1) 0 Try.underlying27 Try_ln22 rfl rfl rfl rfl rfl SlOf.imm (by omega) (by omega) ?_
      refine RL.ldS (i := i530) (r := (TR.sl TR.int)) (e' := y540) 0 Try_ln22 rfl rfl rfl rfl SlOf.imm e541 Part.self ?_
      intro v576
      refine RL.reL (L' := [imm (TR.sl (TR.sl TR.int)) v0 x0, own2 22 3 TR.int v12 V469 l468, imm (TR.sl TR.int) v573 y571, imm (TR.sl TR.int) v576 y540]) rfl ?_
      refine RL.mv rfl rfl rfl ?_
      obtain ⟨y577, e578, h565⟩ := bind_some h565
      refine RL.idxS (sz := 1) 3 Try.underlying22 Try_ln3 rfl rfl rfl rfl rfl SlOf.imm (idx_some e578).1 (idx_some e578).2.1 ?_
      refine RL.ldSx (i := i395) (e' := y577) 3 Ex.ik Try_ln3 rfl rfl rfl rfl SlOf.imm (idx_some e578).2.2 Part.self ?_
      refine RL.binI (v := .bool (decide (y574 ≥ y577))) rfl rfl rfl rfl rfl ?_
      refine RL.pickF rfl rfl rfl rfl ?_
      refine RL.finQ ?_
      cases h565
      exact fun a w st => mid_intro (decide (y574 ≥ y577)) h566 (St.cut [0, 1] ⟨rfl, rfl, rfl, rfl, rfl, rfl, rfl, rfl, rfl, rfl, trivial⟩ (by decide) rfl st)
     rintro x562 h579
     have h580 := h567 _ h579
     try dsimp only at h580
     refine GL.weak (env' := [(0, v0), (5, .int .i64 ((x0).length : Int)), (6, v12), (7, .int .i64 (i395 : Int)), (8, .int .i64 (i530 : Int)), (26, .int .i64 (((List.replicate (((x0).length : Int)).toNat ([] : (List Int)))).length : Int)), (27, .int .i64 (i395 : Int)), (35, .int .i64 ((x0).length : Int)), (36, .int .i64 (i530 : Int)), (58, .bool x562)]) (L' := [imm (TR.sl (TR.sl TR.int)) v0 x0, own2 22 3 TR.int v12 V469 l468]) (fun _ _ st => st) ?_
     refine GL.cond rfl (fun b581 => ?_) (fun b581 => ?_)
     ·replace h580 := ite_t b581 h580
      refine GL.region ?_
      refine RL.mv rfl rfl rfl ?_
      refine RL.mv rfl rfl rfl ?_
      obtain ⟨y586, e587, h580⟩ := bind_some h580
      refine RL.idxR 1 Try.underlying27 Try_ln22 rfl rfl rfl rfl rfl (idx_some e587).1 (idx_some e587).2.1 ?_
      refine RL.ldR (i := i395) (r := y586) 1 Try_ln22 rfl rfl rfl rfl (idx_some e587).2.2 ?_
      refine RL.mv rfl rfl rfl ?_
      obtain ⟨y588, e589, h580⟩ := bind_some h580
      refine RL.idxS (sz := 1) 1 Try.underlying22 Try_ln3 rfl rfl rfl rfl rfl (SlOf.row (idx_some e587).2.2) (idx_some e589).1 (idx_some e589).2.1 ?_
      refine RL.stR (i := i395) (j := i530) (row := y586) (e' := (1 : Int)) (e1 := (1 : Int)) (r := TR.int) 1 Try_ln3 rfl rfl rfl rfl VR.int rfl (idx_some e587).2.2 (idx_some e589).2.2 Upd.self ?_
      refine RL.finG ?_
      refine GL.nilB ?_
      refine GL.region ?_
      refine RL.binI (v := .int .i64 ((i530 + 1 : Nat) : Int)) rfl rfl rfl rfl (binI_succ i530 (by omega)) ?_
      refine RL.mv rfl rfl rfl ?_
      refine RL.fin ?_
      cases h580
      exact fun a w st => lop_intro (i530 + 1, r542, (List.set l468 i395 (List.set y586 i530 (1 : Int))), V469) ⟨by show i530 + 1 + r542.length = (x0).length; simp only [List.length_cons] at h536; omega, h543, h534⟩ (by simp) (St.cut [0, 1] ⟨rfl, rfl, rfl, rfl, rfl, rfl, rfl, rfl, trivial⟩ (by decide) rfl st)
     replace h580 := ite_f b581 h580
     refine GL.skip ?_
     refine GL.nilB ?_
     refine GL.region ?_
     refine RL.binI (v := .int .i64 ((i530 + 1 : Nat) : Int)) rfl rfl rfl rfl (binI_succ i530 (by omega)) ?_
     refine RL.mv rfl rfl rfl ?_
     refine RL.fin ?_
     cases h580
     exact fun a w st => lop_intro (i530 + 1, r542, l468, V469) ⟨by show i530 + 1 + r542.length = (x0).length; simp only [List.length_cons] at h536; omega, h543, h534⟩ (by simp) (St.cut [0, 1] ⟨rfl, rfl, rfl, rfl, rfl, rfl, rfl, rfl, trivial⟩ (by decide) rfl st)
    have h539 : ¬ i530 < (x0).length := by have := of_decide_eq_false b538; omega
    obtain rfl : r531 = [] := by rw [← h537]; exact List.drop_of_length_le (by omega)
    replace h535 : some (Fl.nx _) = some y523 := h535
    cases h535
    exact GL.exit (fun a w st => mid_intro (l468, V469) h526 (St.cut [0, 1] ⟨rfl, rfl, rfl, rfl, rfl, trivial⟩ (by decide) rfl st))
   rintro ⟨l468, V469⟩ h590
   have h591 := h527 _ h590
   try dsimp only at h591
   refine GL.weak (env' := [(0, v0), (5, .int .i64 ((x0).length : Int)), (6, v12), (26, .int .i64 (((List.replicate (((x0).length : Int)).toNat ([] : (List Int)))).length : Int)), (27, .int .i64 (i395 : Int))]) (L' := [imm (TR.sl (TR.sl TR.int)) v0 x0, own2 22 3 TR.int v12 V469 l468]) (fun _ _ st => st) ?_
   refine GL.nilB ?_
   refine GL.region ?_
   refine RL.binI (v := .int .i64 ((i395 + 1 : Nat) : Int)) rfl rfl rfl rfl (binI_succ i395 (by omega)) ?_
   refine RL.mv rfl rfl rfl ?_
   refine RL.fin ?_
   cases h591
   exact fun a w st => lop_intro (i395 + 1, r405, l468, V469) ⟨by show i395 + 1 + r405 = ((List.replicate (((x0).length : Int)).toNat ([] : (List Int)))).length; omega, h399⟩ (by simp) (St.cut [0, 1] ⟨rfl, rfl, rfl, rfl, rfl, trivial⟩ (by decide) rfl st)
  have h404 : ¬ i395 < ((List.replicate (((x0).length : Int)).toNat ([] : (List Int)))).length := by have := of_decide_eq_false b403; omega
  obtain rfl : r396 = 0 := by omega
  replace h400 : some (Fl.nx _) = some y388 := h400
  cases h400
  exact GL.exit (fun a w st => mid_intro (l199, V200) h391 (St.cut [1] ⟨rfl, rfl, trivial⟩ (by decide) rfl st))
 rintro ⟨l199, V200⟩ h592
 have h593 := h392 _ h592
 try dsimp only at h593
 refine GL.weak (env' := [(5, .int .i64 ((x0).length : Int)), (6, v12)]) (L' := [own2 22 3 TR.int v12 V200 l199]) (fun _ _ st => st) ?_
 refine GL.seq ?_
 refine GL.seq ?_
 refine GL.region ?_
 refine RL.mv rfl rfl rfl ?_
 refine RL.mv rfl rfl rfl ?_
 refine RL.finG ?_
 obtain ⟨y1625, e1626, h593⟩ := bind_some h593
 replace e1626 := chk_some e1626
 obtain ⟨y1627, K1628, h1629, h1630, h1631, h1632, h1633⟩ := bindR_K h593
 refine GL.join (ι := (List (List Int)) × (List Value)) (fun (p : (List (List Int)) × (List Value)) => [(5, .int .i64 ((x0).length : Int)), (6, v12)]) (fun (p : (List (List Int)) × (List Value)) => [own2 22 3 TR.int v12 p.2 p.1]) (fun (p : (List (List Int)) × (List Value)) => K1628 (.nx p.1)) ?_ ?_
 ·refine GL.block ?_
  refine GL.loop (ι := Nat × Nat × (List (List Int)) × (List Value)) (fun (p : Nat × Nat × (List (List Int)) × (List Value)) => [(5, .int .i64 ((x0).length : Int)), (6, v12), (67, .int .i64 ((x0).length : Int)), (68, .int .i64 (p.1 : Int))]) (fun (p : Nat × Nat × (List (List Int)) × (List Value)) => [own2 22 3 TR.int v12 p.2.2.2 p.2.2.1]) (fun (p : Nat × Nat × (List (List Int)) × (List Value)) => p.1 + p.2.1 = (((x0).length : Int)).toNat ∧ rangeN (duel_Top_b3 x0) p.2.1 p.1 p.2.2.1 = some y1627) (fun (p : Nat × Nat × (List (List Int)) × (List Value)) => p.2.1) (0, (((x0).length : Int)).toNat, l199, V200) ⟨by simp, h1629⟩ (fun a w st => St.cut [0] ⟨rfl, rfl, rfl, rfl, trivial⟩ (by decide) rfl st) ?_
  rintro ⟨i1634, r1635, l1108, V1109⟩ ⟨h1640, h1639⟩
  try dsimp only at h1640 h1639
  refine GL.weak (env' := [(5, .int .i64 ((x0).length : Int)), (6, v12), (67, .int .i64 ((x0).length : Int)), (68, .int .i64 (i1634 : Int))]) (L' := [own2 22 3 TR.int v12 V1109 l1108]) (fun _ _ st => st) ?_
  refine GL.seq ?_
  refine GL.region ?_
  refine RL.binI (v := .bool (decide ((i1634 : Int) < ((x0).length : Int)))) rfl rfl rfl rfl rfl ?_
  refine RL.finG ?_
  refine GL.seq ?_
  refine GL.cond rfl (fun b1642 => ?_) (fun b1642 => ?_)
  ·have h1643 : i1634 < (((x0).length : Int)).toNat := by have := of_decide_eq_true b1642; omega
   obtain ⟨r1644, hr⟩ : ∃ m, r1635 = m + 1 := ⟨r1635 - 1, by omega⟩
   subst hr
   obtain ⟨z1636, h1637, h1638⟩ := rangeN_some h1639
   unfold duel_Top_b3 at h1637
   try dsimp only at h1637
   refine GL.skip ?_
   refine GL.seq ?_
   refine GL.block ?_
   refine GL.seq ?_
   refine GL.region ?_
   refine RL.mv rfl rfl rfl ?_
   refine RL.asg rfl rfl rfl ?_
   refine RL.finG ?_
   refine GL.seq ?_
   refine GL.region ?_
   refine RL.mv rfl rfl rfl ?_
   refine RL.mv rfl rfl rfl ?_
   refine RL.finG ?_
   obtain ⟨y1974, e1975, h1637⟩ := bind_some h1637
   replace e1975 := chk_some e1975
   obtain ⟨y1976, K1977, h1978, h1979, h1980, h1981, h1982⟩ := bindF_K h1637
   refine GL.join (ι := (List (List Int)) × (List Value)) (fun (p : (List (List Int)) × (List Value)) => [(5, .int .i64 ((x0).length : Int)), (6, v12), (67, .int .i64 ((x0).length : Int)), (68, .int .i64 (i1634 : Int))]) (fun (p : (List (List Int)) × (List Value)) => [own2 22 3 TR.int v12 p.2 p.1]) (fun (p : (List (List Int)) × (List Value)) => K1977 (.nx p.1)) ?_ ?_
   ·refine GL.block ?_
    refine GL.loop (ι := Nat × Nat × (List (List Int)) × (List Value)) (fun (p : Nat × Nat × (List (List Int)) × (List Value)) => [(5, .int .i64 ((x0).length : Int)), (6, v12), (9, .int .i64 (i1634 : Int)), (67, .int .i64 ((x0).length : Int)), (68, .int .i64 (i1634 : Int)), (71, .int .i64 ((x0).length : Int)), (72, .int .i64 (p.1 : Int))]) (fun (p : Nat × Nat × (List (List Int)) × (List Value)) => [own2 22 3 TR.int v12 p.2.2.2 p.2.2.1]) (fun (p : Nat × Nat × (List (List Int)) × (List Value)) => p.1 + p.2.1 = (((x0).length : Int)).toNat ∧ rangeN (duel_Top_b4 x0 i1634) p.2.1 p.1 p.2.2.1 = some y1976) (fun (p : Nat × Nat × (List (List Int)) × (List Value)) => p.2.1) (0, (((x0).length : Int)).toNat, l1108, V1109) ⟨by simp, h1978⟩ (fun a w st => St.cut [0] ⟨rfl, rfl, rfl, rfl, rfl, rfl, rfl, trivial⟩ (by decide) rfl st) ?_
    rintro ⟨i1983, r1984, l1808, V1809⟩ ⟨h1989, h1988⟩
    try dsimp only at h1989 h1988
    refine GL.weak (env' := [(5, .int .i64 ((x0).length : Int)), (6, v12), (9, .int .i64 (i1634 : Int)), (67, .int .i64 ((x0).length : Int)), (68, .int .i64 (i1634 : Int)), (71, .int .i64 ((x0).length : Int)), (72, .int .i64 (i1983 : Int))]) (L' := [own2 22 3 TR.int v12 V1809 l1808]) (fun _ _ st => st) ?_
    refine GL.seq ?_
    refine GL.region ?_
    refine RL.binI (v := .bool (decide ((i1983 : Int) < ((x0).length : Int)))) rfl rfl rfl rfl rfl ?_
    refine RL.finG ?_
    refine GL.seq ?_
    refine GL.cond rfl (fun b1991 => ?_) (fun b1991 => ?_)
    ·have h1992 : i1983 < (((x0).length : Int)).toNat := by have := of_decide_eq_true b1991; omega
     obtain ⟨r1993, hr⟩ : ∃ m, r1984 = m + 1 := ⟨r1984 - 1, by omega⟩
     subst hr
     obtain ⟨z1985, h1986, h1987⟩ := rangeN_some h1988
     unfold duel_Top_b4 at h1986
     try dsimp only at h1986
     refine GL.skip ?_
     refine GL.seq ?_
     refine GL.block ?_
     refine GL.seq ?_
     refine GL.region ?_
     refine RL.mv rfl rfl rfl ?_
     refine RL.asg rfl rfl rfl ?_
     refine RL.finG ?_
     refine GL.seq ?_
     refine GL.region ?_
     refine RL.mv rfl rfl rfl ?_
     refine RL.mv rfl rfl rfl ?_
     refine RL.finG ?_
     obtain ⟨y2089, e2090, h1986⟩ := bind_some h1986
     replace e2090 := chk_some e2090
     obtain ⟨y2091, K2092, h2093, h2094, h2095, h2096, h2097⟩ := bindF_K h1986
     refine GL.join (ι := (List (List Int)) × (List Value)) (fun (p : (List (List Int)) × (List Value)) => [(5, .int .i64 ((x0).length : Int)), (6, v12), (9, .int .i64 (i1634 : Int)), (67, .int .i64 ((x0).length : Int)), (68, .int .i64 (i1634 : Int)), (71, .int .i64 ((x0).length : Int)), (72, .int .i64 (i1983 : Int))]) (fun (p : (List (List Int)) × (List Value)) => [own2 22 3 TR.int v12 p.2 p.1]) (fun (p : (List (List Int)) × (List Value)) => K2092 (.nx p.1)) ?_ ?_
     ·refine GL.block ?_
      refine GL.loop (ι := Nat × Nat × (List (List Int)) × (List Value)) (fun (p : Nat × Nat × (List (List Int)) × (List Value)) => [(5, .int .i64 ((x0).length : Int)), (6, v12), (9, .int .i64 (i1634 : Int)), (10, .int .i64 (i1983 : Int)), (67, .int .i64 ((x0).length : Int)), (68, .int .i64 (i1634 : Int)), (71, .int .i64 ((x0).length : Int)), (72, .int .i64 (i1983 : Int)), (75, .int .i64 ((x0).length : Int)), (76, .int .i64 (p.1 : Int))]) (fun (p : Nat × Nat × (List (List Int)) × (List Value)) => [own2 22 3 TR.int v12 p.2.2.2 p.2.2.1]) (fun (p : Nat × Nat × (List (List Int)) × (List Value)) => p.1 + p.2.1 = (((x0).length : Int)).toNat ∧ rangeN (duel_Top_b5 i1983 i1634) p.2.1 p.1 p.2.2.1 = some y2091) (fun (p : Nat × Nat × (List (List Int)) × (List Value)) => p.2.1) (0, (((x0).length : Int)).toNat, l1808, V1809) ⟨by simp, h2093⟩ (fun a w st => St.cut [0] ⟨rfl, rfl, rfl, rfl, rfl, rfl, rfl, rfl, rfl, rfl, trivial⟩ (by decide) rfl st) ?_
      rintro ⟨i2098, r2099, l2040, V2041⟩ ⟨h2104, h2103⟩
      try dsimp only at h2104 h2103
      refine GL.weak (env' := [(5, .int .i64 ((x0).length : Int)), (6, v12), (9, .int .i64 (i1634 : Int)), (10, .int .i64 (i1983 : Int)), (67, .int .i64 ((x0).length : Int)), (68, .int .i64 (i1634 : Int)), (71, .int .i64 ((x0).length : Int)), (72, .int .i64 (i1983 : Int)), (75, .int .i64 ((x0).length : Int)), (76, .int .i64 (i2098 : Int))]) (L' := [own2 22 3 TR.int v12 V2041 l2040]) (fun _ _ st => st) ?_
      refine GL.seq ?_
      refine GL.region ?_
      refine RL.binI (v := .bool (decide ((i2098 : Int) < ((x0).length : Int)))) rfl rfl rfl rfl rfl ?_
      refine RL.finG ?_
      refine GL.seq ?_
      refine GL.cond rfl (fun b2106 => ?_) (fun b2106 => ?_)
      ·have h2107 : i2098 < (((x0).length : Int)).toNat := by have := of_decide_eq_true b2106; omega
       obtain ⟨r2108, hr⟩ : ∃ m, r2099 = m + 1 := ⟨r2099 - 1, by omega⟩
       subst hr
       obtain ⟨z2100, h2101, h2102⟩ := rangeN_some h2103
       unfold duel_Top_b5 at h2101
       try dsimp only at h2101
       refine GL.skip ?_
       refine GL.seq ?_
       refine GL.block ?_
       refine GL.seq ?_
       refine GL.region ?_
       refine RL.mv rfl rfl rfl ?_
       refine RL.asg rfl rfl rfl ?_
       refine RL.finG ?_
       refine GL.seq ?_
       obtain ⟨y2128, K2129, h2130, h2131, h2132, h2133, h2134⟩ := bindF_K h2101
       refine GL.join (ι := Bool) (fun (p : Bool) => [(5, .int .i64 ((x0).length : Int)), (6, v12), (9, .int .i64 (i1634 : Int)), (10, .int .i64 (i1983 : Int)), (11, .int .i64 (i2098 : Int)), (67, .int .i64 ((x0).length : Int)), (68, .int .i64 (i1634 : Int)), (71, .int .i64 ((x0).length : Int)), (72, .int .i64 (i1983 : Int)), (75, .int .i64 ((x0).length : Int)), (76, .int .i64 (i2098 : Int)), (96, .bool p)]) (fun (p : Bool) => [own2 22 3 TR.int v12 V2041 l2040]) (fun (p : Bool) => K2129 (.nx p)) ?_ ?_
       ·skip
        refine GL.region ?_
        refine RL.mv rfl rfl rfl ?_
        refine RL.mv rfl rfl rfl ?_
        obtain ⟨y2135, e2136, h2130⟩ := bind_some h2130
        refine RL.idxR 0 Try.underlying27 Try_ln22 rfl rfl rfl rfl rfl (idx_some e2136).1 (idx_some e2136).2.1 ?_
        refine RL.ldR (i := i1983) (r := y2135) 0 Try_ln22 rfl rfl rfl rfl (idx_some e2136).2.2 ?_
        refine RL.mv rfl rfl rfl ?_
        obtain ⟨y2137, e2138, h2130⟩ := bind_some h2130
        refine RL.idxS (sz := 1) 0 Try.underlying22 Try_ln3 rfl rfl rfl rfl rfl (SlOf.row (idx_some e2136).2.2) (idx_some e2138).1 (idx_some e2138).2.1 ?_
        refine RL.ldSx (i := i1634) (e' := y2137) 0 Ex.ik Try_ln3 rfl rfl rfl rfl (SlOf.row (idx_some e2136).2.2) (idx_some e2138).2.2 Part.self ?_
        refine RL.binI (v := .bool (y2137 == (1 : Int))) rfl rfl rfl rfl rfl ?_
        refine RL.mv rfl rfl rfl ?_
        refine RL.split (t := 87) rfl (fun b2139 => ?_) (fun b2139 => ?_)
        ·replace h2130 := ite_t b2139 h2130
         refine RL.mv rfl rfl rfl ?_
         refine RL.mv rfl rfl rfl ?_
         obtain ⟨y2140, e2141, h2130⟩ := bind_some h2130
         refine RL.idxR 0 Try.underlying27 Try_ln22 rfl rfl rfl rfl rfl (idx_some e2141).1 (idx_some e2141).2.1 ?_
         refine RL.ldR (i := i1634) (r := y2140) 0 Try_ln22 rfl rfl rfl rfl (idx_some e2141).2.2 ?_
         refine RL.mv rfl rfl rfl ?_
         obtain ⟨y2142, e2143, h2130⟩ := bind_some h2130
         refine RL.idxS (sz := 1) 0 Try.underlying22 Try_ln3 rfl rfl rfl rfl rfl (SlOf.row (idx_some e2141).2.2) (idx_some e2143).1 (idx_some e2143).2.1 ?_
         refine RL.ldSx (i := i2098) (e' := y2142) 0 Ex.ik Try_ln3 rfl rfl rfl rfl (SlOf.row (idx_some e2141).2.2) (idx_some e2143).2.2 Part.self ?_
         refine RL.binI (v := .bool (y2142 == (1 : Int))) rfl rfl rfl rfl rfl ?_
         refine RL.pickT rfl rfl rfl rfl ?_
         refine RL.fin ?_
         cases h2130
         exact fun a w st => mid_intro (y2142 == (1 : Int)) h2131 (St.cut [0] ⟨rfl, rfl, rfl, rfl, rfl, rfl, rfl, rfl, rfl, rfl, rfl, rfl, trivial⟩ (by decide) rfl st)
        replace h2130 := ite_f b2139 h2130
        refine RL.skip rfl rfl ?_
        refine RL.skip rfl rfl ?_
        refine RL.skip rfl rfl ?_
        refine RL.skip rfl rfl ?_
        refine RL.skip rfl rfl ?_
        refine RL.skip rfl rfl ?_
        refine RL.skip rfl rfl ?_
        refine RL.skip rfl rfl ?_
        refine RL.pickF rfl rfl rfl rfl ?_
        refine RL.fin ?_
        cases h2130
        exact fun a w st => mid_intro false h2131 (St.cut [0] ⟨rfl, rfl, rfl, rfl, rfl, rfl, rfl, rfl, rfl, rfl, rfl, rfl, trivial⟩ (by decide) rfl st)
       rintro x2127 h2144
       have h2145 := h2132 _ h2144
       try dsimp only at h2145
       refine GL.weak (env' := [(5, .int .i64 ((x0).length : Int)), (6, v12), (9, .int .i64 (i1634 : Int)), (10, .int .i64 (i1983 : Int)), (11, .int .i64 (i2098 : Int)), (67, .int .i64 ((x0).length : Int)), (68, .int .i64 (i1634 : Int)), (71, .int .i64 ((x0).length : Int)), (72, .int .i64 (i1983 : Int)), (75, .int .i64 ((x0).length : Int)), (76, .int .i64 (i2098 : Int)), (96, .bool x2127)]) (L' := [own2 22 3 TR.int v12 V2041 l2040]) (fun _ _ st => st) ?_
       refine GL.cond rfl (fun b2146 => ?_) (fun b2146 => ?_)
       ·replace h2145 := ite_t b2146 h2145
        refine GL.region ?_
        refine RL.mv rfl rfl rfl ?_
        refine RL.mv rfl rfl rfl ?_
        obtain ⟨y2151, e2152, h2145⟩ := bind_some h2145
        refine RL.idxR 0 Try.underlying27 Try_ln22 rfl rfl rfl rfl rfl (idx_some e2152).1 (idx_some e2152).2.1 ?_
        refine RL.ldR (i := i1983) (r := y2151) 0 Try_ln22 rfl rfl rfl rfl (idx_some e2152).2.2 ?_
        refine RL.mv rfl rfl rfl ?_
        obtain ⟨y2153, e2154, h2145⟩ := bind_some h2145
        refine RL.idxS (sz := 1) 0 Try.underlying22 Try_ln3 rfl rfl rfl rfl rfl (SlOf.row (idx_some e2152).2.2) (idx_some e2154).1 (idx_some e2154).2.1 ?_
        refine RL.stR (i := i1983) (j := i2098) (row := y2151) (e' := (1 : Int)) (e1 := (1 : Int)) (r := TR.int) 0 Try_ln3 rfl rfl rfl rfl VR.int rfl (idx_some e2152).2.2 (idx_some e2154).2.2 Upd.self ?_
        refine RL.finG ?_
        refine GL.nilB ?_
        refine GL.region ?_
        refine RL.binI (v := .int .i64 ((i2098 + 1 : Nat) : Int)) rfl rfl rfl rfl (binI_succ i2098 (by omega)) ?_
        refine RL.mv rfl rfl rfl ?_
        refine RL.fin ?_
        cases h2145
        exact fun a w st => lop_intro (i2098 + 1, r2108, (List.set l2040 i1983 (List.set y2151 i2098 (1 : Int))), V2041) ⟨by show i2098 + 1 + r2108 = (((x0).length : Int)).toNat; omega, h2102⟩ (by simp) (St.cut [0] ⟨rfl, rfl, rfl, rfl, rfl, rfl, rfl, rfl, rfl, rfl, trivial⟩ (by decide) rfl st)
       replace h2145 := ite_f b2146 h2145
       refine GL.skip ?_
       refine GL.nilB ?_
       refine GL.region ?_
       refine RL.binI (v := .int .i64 ((i2098 + 1 : Nat) : Int)) rfl rfl rfl rfl (binI_succ i2098 (by omega)) ?_
       refine RL.mv rfl rfl rfl ?_
       refine RL.fin ?_
       cases h2145
       exact fun a w st => lop_intro (i2098 + 1, r2108, l2040, V2041) ⟨by show i2098 + 1 + r2108 = (((x0).length : Int)).toNat; omega, h2102⟩ (by simp) (St.cut [0] ⟨rfl, rfl, rfl, rfl, rfl, rfl, rfl, rfl, rfl, rfl, trivial⟩ (by decide) rfl st)
      have h2107 : ¬ i2098 < (((x0).length : Int)).toNat := by have := of_decide_eq_false b2106; omega
      obtain rfl : r2099 = 0 := by omega
      replace h2103 : some (Fl.nx _) = some y2091 := h2103
      cases h2103
      exact GL.exit (fun a w st => mid_intro (l2040, V2041) h2094 (St.cut [0] ⟨rfl, rfl, rfl, rfl, rfl, rfl, rfl, trivial⟩ (by decide) rfl st))
     rintro ⟨l2040, V2041⟩ h2155
     have h2156 := h2095 _ h2155
     try dsimp only at h2156
     refine GL.weak (env' := [(5, .int .i64 ((x0).length : Int)), (6, v12), (9, .int .i64 (i1634 : Int)), (67, .int .i64 ((x0).length : Int)), (68, .int .i64 (i1634 : Int)), (71, .int .i64 ((x0).length : Int)), (72, .int .i64 (i1983 : Int))]) (L' := [own2 22 3 TR.int v12 V2041 l2040]) (fun _ _ st => st) ?_
     refine GL.nilB ?_
     refine GL.region ?_
     refine RL.binI (v := .int .i64 ((i1983 + 1 : Nat) : Int)) rfl rfl rfl rfl (binI_succ i1983 (by omega)) ?_
     refine RL.mv rfl rfl rfl ?_
     refine RL.fin ?_
     cases h2156
     exact fun a w st => lop_intro (i1983 + 1, r1993, l2040, V2041) ⟨by show i1983 + 1 + r1993 = (((x0).length : Int)).toNat; omega, h1987⟩ (by simp) (St.cut [0] ⟨rfl, rfl, rfl, rfl, rfl, rfl, rfl, trivial⟩ (by decide) rfl st)
    have h1992 : ¬ i1983 < (((x0).length : Int)).toNat := by have := of_decide_eq_false b1991; omega
    obtain rfl : r1984 = 0 := by omega
    replace h1988 : some (Fl.nx _) = some y1976 := h1988
    cases h1988
    exact GL.exit (fun a w st => mid_intro (l1808, V1809) h1979 (St.cut [0] ⟨rfl, rfl, rfl, rfl, trivial⟩ (by decide) rfl st))
   rintro ⟨l1808, V1809⟩ h2157
   have h2158 := h1980 _ h2157
   try dsimp only at h2158
   refine GL.weak (env' := [(5, .int .i64 ((x0).length : Int)), (6, v12), (67, .int .i64 ((x0).length : Int)), (68, .int .i64 (i1634 : Int))]) (L' := [own2 22 3 TR.int v12 V1809 l1808]) (fun _ _ st => st) ?_
   refine GL.nilB ?_
   refine GL.region ?_
   refine RL.binI (v := .int .i64 ((i1634 + 1 : Nat) : Int)) rfl rfl rfl rfl (binI_succ i1634 (by omega)) ?_
   refine RL.mv rfl rfl rfl ?_
   refine RL.fin ?_
   cases h2158
   exact fun a w st => lop_intro (i1634 + 1, r1644, l1808, V1809) ⟨by show i1634 + 1 + r1644 = (((x0).length : Int)).toNat; omega, h1638⟩ (by simp) (St.cut [0] ⟨rfl, rfl, rfl, rfl, trivial⟩ (by decide) rfl st)
  have h1643 : ¬ i1634 < (((x0).length : Int)).toNat := by have := of_decide_eq_false b1642; omega
  obtain rfl : r1635 = 0 := by omega
  replace h1639 : some (Fl.nx _) = some y1627 := h1639
  cases h1639
  exact GL.exit (fun a w st => mid_intro (l1108, V1109) h1630 (St.cut [0] ⟨rfl, rfl, trivial⟩ (by decide) rfl st))
 rintro ⟨l1108, V1109⟩ h2159
 have h2160 := h1631 _ h2159
 try dsimp only at h2160
 refine GL.weak (env' := [(5, .int .i64 ((x0).length : Int)), (6, v12)]) (L' := [own2 22 3 TR.int v12 V1109 l1108]) (fun _ _ st => st) ?_
 refine GL.seq ?_
 refine GL.region ?_
 refine RL.asg rfl rfl rfl ?_
 refine RL.finG ?_
 refine GL.seq ?_
 refine GL.seq ?_
 refine GL.region ?_
 refine RL.mv rfl rfl rfl ?_
 refine RL.mv rfl rfl rfl ?_
 refine RL.finG ?_
 refine GL.weak (fun a w st => st.nilOwn 3 TR.int) ?_
 obtain ⟨y2213, e2214, h2160⟩ := bind_some h2160
 replace e2214 := chk_some e2214
 obtain ⟨y2215, K2216, h2217, h2218, h2219, h2220, h2221⟩ := bindR_K h2160
 refine GL.join (ι := (List Int) × Value) (fun (p : (List Int) × Value) => [(12, p.2)]) (fun (p : (List Int) × Value) => [own 3 TR.int p.2 p.1]) (fun (p : (List Int) × Value) => K2216 (.nx p.1)) ?_ ?_
 ·refine GL.block ?_
  refine GL.loop (ι := Nat × Nat × (List Int) × Value) (fun (p : Nat × Nat × (List Int) × Value) => [(5, .int .i64 ((x0).length : Int)), (6, v12), (12, p.2.2.2), (106, .int .i64 ((x0).length : Int)), (107, .int .i64 (p.1 : Int))]) (fun (p : Nat × Nat × (List Int) × Value) => [own2 22 3 TR.int v12 V1109 l1108, own 3 TR.int p.2.2.2 p.2.2.1]) (fun (p : Nat × Nat × (List Int) × Value) => p.1 + p.2.1 = (((x0).length : Int)).toNat ∧ rangeN (duel_Top_b6 x0 l1108) p.2.1 p.1 p.2.2.1 = some y2215) (fun (p : Nat × Nat × (List Int) × Value) => p.2.1) (0, (((x0).length : Int)).toNat, [], Value.slice none 0 0) ⟨by simp, h2217⟩ (fun a w st => St.cut [0, 1] ⟨rfl, rfl, rfl, rfl, rfl, trivial⟩ (by decide) rfl st) ?_
  rintro ⟨i2222, r2223, l2161, v2162⟩ ⟨h2228, h2227⟩
  try dsimp only at h2228 h2227
  refine GL.weak (env' := [(5, .int .i64 ((x0).length : Int)), (6, v12), (12, v2162), (106, .int .i64 ((x0).length : Int)), (107, .int .i64 (i2222 : Int))]) (L' := [own2 22 3 TR.int v12 V1109 l1108, own 3 TR.int v2162 l2161]) (fun _ _ st => st) ?_
  refine GL.seq ?_
  refine GL.region ?_
  refine RL.binI (v := .bool (decide ((i2222 : Int) < ((x0).length : Int)))) rfl rfl rfl rfl rfl ?_
  refine RL.finG ?_
  refine GL.seq ?_
  refine GL.cond rfl (fun b2230 => ?_) (fun b2230 => ?_)
  ·have h2231 : i2222 < (((x0).length : Int)).toNat := by have := of_decide_eq_true b2230; omega
   obtain ⟨r2232, hr⟩ : ∃ m, r2223 = m + 1 := ⟨r2223 - 1, by omega⟩
   subst hr
   obtain ⟨z2224, h2225, h2226⟩ := rangeN_some h2227
   unfold duel_Top_b6 at h2225
   try dsimp only at h2225
   refine GL.skip ?_
   refine GL.seq ?_
   refine GL.block ?_
   refine GL.seq ?_
   refine GL.region ?_
   refine RL.mv rfl rfl rfl ?_
   refine RL.asg rfl rfl rfl ?_
   refine RL.finG ?_
   refine GL.seq ?_
   refine GL.region ?_
   refine RL.asg rfl rfl rfl ?_
   refine RL.finG ?_
   refine GL.seq ?_
   refine GL.seq ?_
   refine GL.region ?_
   refine RL.mv rfl rfl rfl ?_
   refine RL.mv rfl rfl rfl ?_
   refine RL.finG ?_
   obtain ⟨y2243, e2244, h2225⟩ := bind_some h2225
   replace e2244 := chk_some e2244
   obtain ⟨y2245, K2246, h2247, h2248, h2249, h2250, h2251⟩ := bindF_K h2225
   refine GL.join (ι := Int) (fun (p : Int) => [(5, .int .i64 ((x0).length : Int)), (6, v12), (12, v2162), (13, .int .i64 (i2222 : Int)), (14, .int .i64 p), (106, .int .i64 ((x0).length : Int)), (107, .int .i64 (i2222 : Int))]) (fun (p : Int) => [own2 22 3 TR.int v12 V1109 l1108, own 3 TR.int v2162 l2161]) (fun (p : Int) => K2246 (.nx p)) ?_ ?_
   ·refine GL.block ?_
    refine GL.loop (ι := Nat × Nat × Int) (fun (p : Nat × Nat × Int) => [(5, .int .i64 ((x0).length : Int)), (6, v12), (12, v2162), (13, .int .i64 (i2222 : Int)), (14, .int .i64 p.2.2), (106, .int .i64 ((x0).length : Int)), (107, .int .i64 (i2222 : Int)), (110, .int .i64 ((x0).length : Int)), (111, .int .i64 (p.1 : Int))]) (fun (p : Nat × Nat × Int) => [own2 22 3 TR.int v12 V1109 l1108, own 3 TR.int v2162 l2161]) (fun (p : Nat × Nat × Int) => p.1 + p.2.1 = (((x0).length : Int)).toNat ∧ rangeN (duel_Top_b7 l1108 i2222) p.2.1 p.1 p.2.2 = some y2245) (fun (p : Nat × Nat × Int) => p.2.1) (0, (((x0).length : Int)).toNat, (0 : Int)) ⟨by simp, h2247⟩ (fun a w st => St.cut [0, 1] ⟨rfl, rfl, rfl, rfl, rfl, rfl, rfl, rfl, rfl, trivial⟩ (by decide) rfl st) ?_
    rintro ⟨i2252, r2253, x2233⟩ ⟨h2258, h2257⟩
    try dsimp only at h2258 h2257
    refine GL.weak (env' := [(5, .int .i64 ((x0).length : Int)), (6, v12), (12, v2162), (13, .int .i64 (i2222 : Int)), (14, .int .i64 x2233), (106, .int .i64 ((x0).length : Int)), (107, .int .i64 (i2222 : Int)), (110, .int .i64 ((x0).length : Int)), (111, .int .i64 (i2252 : Int))]) (L' := [own2 22 3 TR.int v12 V1109 l1108, own 3 TR.int v2162 l2161]) (fun _ _ st => st) ?_
    refine GL.seq ?_
    refine GL.region ?_
    refine RL.binI (v := .bool (decide ((i2252 : Int) < ((x0).length : Int)))) rfl rfl rfl rfl rfl ?_
    refine RL.finG ?_
    refine GL.seq ?_
    refine GL.cond rfl (fun b2260 => ?_) (fun b2260 => ?_)
    ·have h2261 : i2252 < (((x0).length : Int)).toNat := by have := of_decide_eq_true b2260; omega
     obtain ⟨r2262, hr⟩ : ∃ m, r2253 = m + 1 := ⟨r2253 - 1, by omega⟩
     subst hr
     obtain ⟨z2254, h2255, h2256⟩ := rangeN_some h2257
     unfold duel_Top_b7 at h2255
     try dsimp only at h2255
     refine GL.skip ?_
     refine GL.seq ?_
     refine GL.block ?_
     refine GL.seq ?_
     refine GL.region ?_
     refine RL.mv rfl rfl rfl ?_
     refine RL.asg rfl rfl rfl ?_
     refine RL.finG ?_
     refine GL.region ?_
     refine RL.mv rfl rfl rfl ?_
     refine RL.mv rfl rfl rfl ?_
     refine RL.mv rfl rfl rfl ?_
     obtain ⟨y2267, e2268, h2255⟩ := bind_some h2255
     refine RL.idxR 0 Try.underlying27 Try_ln22 rfl rfl rfl rfl rfl (idx_some e2268).1 (idx_some e2268).2.1 ?_
     refine RL.ldR (i := i2222) (r := y2267) 0 Try_ln22 rfl rfl rfl rfl (idx_some e2268).2.2 ?_
     refine RL.mv rfl rfl rfl ?_
     obtain ⟨y2269, e2270, h2255⟩ := bind_some h2255
     refine RL.idxS (sz := 1) 0 Try.underlying22 Try_ln3 rfl rfl rfl rfl rfl (SlOf.row (idx_some e2268).2.2) (idx_some e2270).1 (idx_some e2270).2.1 ?_
     refine RL.ldSx (i := i2252) (e' := y2269) 0 Ex.ik Try_ln3 rfl rfl rfl rfl (SlOf.row (idx_some e2268).2.2) (idx_some e2270).2.2 Part.self ?_
     refine RL.binI (v := .int .i64 (wadd x2233 y2269)) rfl rfl rfl rfl rfl ?_
     refine RL.asg rfl rfl rfl ?_
     refine RL.finG ?_
     refine GL.nilB ?_
     refine GL.region ?_
     refine RL.binI (v := .int .i64 ((i2252 + 1 : Nat) : Int)) rfl rfl rfl rfl (binI_succ i2252 (by omega)) ?_
     refine RL.mv rfl rfl rfl ?_
     refine RL.fin ?_
     cases h2255
     exact fun a w st => lop_intro (i2252 + 1, r2262, wadd x2233 y2269) ⟨by show i2252 + 1 + r2262 = (((x0).length : Int)).toNat; omega, h2256⟩ (by simp) (St.cut [0, 1] ⟨rfl, rfl, rfl, rfl, rfl, rfl, rfl, rfl, rfl, trivial⟩ (by decide) rfl st)
    have h2261 : ¬ i2252 < (((x0).length : Int)).toNat := by have := of_decide_eq_false b2260; omega
    obtain rfl : r2253 = 0 := by omega
    replace h2257 : some (Fl.nx _) = some y2245 := h2257
    cases h2257
    exact GL.exit (fun a w st => mid_intro x2233 h2248 (St.cut [0, 1] ⟨rfl, rfl, rfl, rfl, rfl, rfl, rfl, trivial⟩ (by decide) rfl st))
   rintro x2233 h2271
   have h2272 := h2249 _ h2271
   try dsimp only at h2272
   refine GL.weak (env' := [(5, .int .i64 ((x0).length : Int)), (6, v12), (12, v2162), (13, .int .i64 (i2222 : Int)), (14, .int .i64 x2233), (106, .int .i64 ((x0).length : Int)), (107, .int .i64 (i2222 : Int))]) (L' := [own2 22 3 TR.int v12 V1109 l1108, own 3 TR.int v2162 l2161]) (fun _ _ st => st) ?_
   refine GL.seq ?_
   refine GL.region ?_
   refine RL.mv rfl rfl rfl ?_
   refine RL.mv rfl rfl rfl ?_
   refine RL.binI (v := .bool (x2233 == ((x0).length : Int))) rfl rfl rfl rfl rfl ?_
   refine RL.finG ?_
   refine GL.cond rfl (fun b2273 => ?_) (fun b2273 => ?_)
   ·replace h2272 := ite_t b2273 h2272
    refine GL.region ?_
    refine RL.mv rfl rfl rfl ?_
    refine RL.mv rfl rfl rfl ?_
    refine RL.bS (t := TR.int) (vs := [.int .i64 (i2222 : Int)]) ([(i2222 : Int)] : (List Int)) Try.underlying22 Try_lo3 rfl rfl rfl rfl ⟨VR.int, trivial⟩ rfl (by decide) ?_
    intro v2278
    obtain ⟨y2279, e2280, h2272⟩ := bind_some h2272
    replace e2280 := chk_some e2280
    refine RL.app 1 2 Try.underlying22 Try_lo3 rfl rfl rfl rfl rfl rfl rfl SlOf.own e2280 ?_
    intro v2281
    refine RL.reL (L' := [own2 22 3 TR.int v12 V1109 l1108, own 3 TR.int v2281 (l2161 ++ ([(i2222 : Int)] : (List Int))), own 3 TR.int v2278 ([(i2222 : Int)] : (List Int))]) rfl ?_
    refine RL.asg rfl rfl rfl ?_
    refine RL.finG ?_
    refine GL.nilB ?_
    refine GL.region ?_
    refine RL.binI (v := .int .i64 ((i2222 + 1 : Nat) : Int)) rfl rfl rfl rfl (binI_succ i2222 (by omega)) ?_
    refine RL.mv rfl rfl rfl ?_
    refine RL.fin ?_
    cases h2272
    exact fun a w st => lop_intro (i2222 + 1, r2232, (l2161 ++ ([(i2222 : Int)] : (List Int))), v2281) ⟨by show i2222 + 1 + r2232 = (((x0).length : Int)).toNat; omega, h2226⟩ (by simp) (St.cut [0, 1] ⟨rfl, rfl, rfl, rfl, rfl, trivial⟩ (by decide) rfl st)
   replace h2272 := ite_f b2273 h2272
   refine GL.skip ?_
   refine GL.nilB ?_
   refine GL.region ?_
   refine RL.binI (v := .int .i64 ((i2222 + 1 : Nat) : Int)) rfl rfl rfl rfl (binI_succ i2222 (by omega)) ?_
   refine RL.mv rfl rfl rfl ?_
   refine RL.fin ?_
   cases h2272
   exact fun a w st => lop_intro (i2222 + 1, r2232, l2161, v2162) ⟨by show i2222 + 1 + r2232 = (((x0).length : Int)).toNat; omega, h2226⟩ (by simp) (St.cut [0, 1] ⟨rfl, rfl, rfl, rfl, rfl, trivial⟩ (by decide) rfl st)
  have h2231 : ¬ i2222 < (((x0).length : Int)).toNat := by have := of_decide_eq_false b2230; omega
  obtain rfl : r2223 = 0 := by omega
  replace h2227 : some (Fl.nx _) = some y2215 := h2227
  cases h2227
  exact GL.exit (fun a w st => mid_intro (l2161, v2162) h2218 (St.cut [1] ⟨rfl, trivial⟩ (by decide) rfl st))
 rintro ⟨l2161, v2162⟩ h2282
 have h2283 := h2219 _ h2282
 try dsimp only at h2283
 refine GL.weak (env' := [(12, v2162)]) (L' := [own 3 TR.int v2162 l2161]) (fun _ _ st => st) ?_
 refine GL.seq ?_
 refine GL.region ?_
 refine RL.mv rfl rfl rfl ?_
 refine RL.asg rfl rfl rfl ?_
 refine RL.asg rfl rfl rfl ?_
 refine RL.finG ?_
 have h2283 := Option.some.inj h2283
 subst h2283
 exact GL.ret (Gx.ret (v := .tuple #[v2162, .int .i64 (0 : Int)]) (res2 rfl rfl rfl) (fun a w st => (st.pick [0] (by decide) rfl).toPost v2162))

set_option maxHeartbeats 4000000 in
theorem tally_Firsts_c (S : Hp) (w : World) (hS : S.sub w) (x0 : Int) (v1 : Value) (x1 : (List (List Int))) (k1 : ((TR.sl (TR.sl TR.int))).vrep S v1 x1) (res : (List Int) × Int) (hm : tally_Firsts_m x0 x1 = some res) : Calls Try.prog 54 #[.int .i64 x0, v1] w (Post w S (fun (o : Value) => .tuple #[o, .int .i64 res.2]) (fun (o : Value) => [own 3 TR.int o res.1])) := by
 refine calls_enter 34 Try.func54 Try.ntmps54 rfl S false [(0, .int .i64 x0), (1, v1)] [imm (TR.sl (TR.sl TR.int)) v1 x1] rfl ⟨rfl, ⟨rfl, trivial⟩⟩ hS ⟨k1, trivial⟩ ?_
 unfold tally_Firsts_m at hm
 refine GL.seq ?_
 refine GL.region ?_
 refine RL.asg rfl rfl rfl ?_
 refine RL.asg rfl rfl rfl ?_
 refine RL.finG ?_
 refine GL.seq ?_
 refine GL.seq ?_
 refine GL.region ?_
 refine RL.mv rfl rfl rfl ?_
 refine RL.mv rfl rfl rfl ?_
 obtain ⟨y5, e6, hm⟩ := bind_some hm
 refine RL.callV (v := .int .i64 y5) (vs := [.int .i64 x0, v1]) Try_fit51 rfl (Or.inl rfl) rfl rfl rfl rfl (fun U w hU hW hL => tally_Check_c U w hU x0 _ _ (hL 0 _ _ rfl Seen.imm) _ e6) ?_
 refine RL.asg rfl rfl rfl ?_
 refine RL.finG ?_
 refine GL.seq ?_
 refine GL.region ?_
 refine RL.mv rfl rfl rfl ?_
 refine RL.binI (v := .bool (y5 != (0 : Int))) rfl rfl rfl rfl rfl ?_
 refine RL.finG ?_
 refine GL.cond rfl (fun b7 => ?_) (fun b7 => ?_)
 ·replace hm := ite_t b7 hm
  refine GL.seq ?_
  refine GL.region ?_
  refine RL.mv rfl rfl rfl ?_
  refine RL.asg rfl rfl rfl ?_
  refine RL.asg rfl rfl rfl ?_
  refine RL.finG ?_
  refine GL.weak (fun a w st => st.nilOwn 3 TR.int) ?_
  have hm := Option.some.inj hm
  subst hm
  exact GL.ret (Gx.ret (v := .tuple #[Value.slice none 0 0, .int .i64 y5]) (res2 rfl rfl rfl) (fun a w st => (st.pick [1] (by decide) rfl).toPost (Value.slice none 0 0)))
 replace hm := ite_f b7 hm
 refine GL.skip ?_
 refine GL.seq ?_
 refine GL.region ?_
 refine RL.mv rfl rfl rfl ?_
 obtain ⟨y11, e12, hm⟩ := bind_some hm
 replace e12 := chk_some e12
 refine RL.mkS (t := TR.int) (z := (0 : Int)) Try.underlying22 Try_lo3 (fun S => rfl) rfl rfl rfl rfl e12.1 e12.2 ?_
 intro v13
 refine RL.asg rfl rfl rfl ?_
 refine RL.finG ?_
 refine GL.seq ?_
 refine GL.seq ?_
 refine GL.region ?_
 refine RL.mv rfl rfl rfl ?_
 refine RL.lenS 0 Try.underlying27 rfl rfl rfl rfl SlOf.imm ?_
 refine RL.mv rfl rfl rfl ?_
 refine RL.finG ?_
 refine GL.open_ 0 rfl (fun S h => len_imm S h) (fun n51 => ?_)
 obtain ⟨y52, K53, h54, h55, h56, h57, h58⟩ := bindR_K hm
 refine GL.join (ι := (List Int)) (fun (p : (List Int)) => [(7, v13)]) (fun (p : (List Int)) => [own 3 TR.int v13 p]) (fun (p : (List Int)) => K53 (.nx p)) ?_ ?_
 ·refine GL.block ?_
  refine GL.loop (ι := Nat × (List (List Int)) × (List Int)) (fun (p : Nat × (List (List Int)) × (List Int)) => [(7, v13), (18, v1), (19, .int .i64 ((x1).length : Int)), (20, .int .i64 (p.1 : Int))]) (fun (p : Nat × (List (List Int)) × (List Int)) => [own 3 TR.int v13 p.2.2, imm (TR.sl (TR.sl TR.int)) v1 x1]) (fun (p : Nat × (List (List Int)) × (List Int)) => p.1 + p.2.1.length = (x1).length ∧ List.drop p.1 x1 = p.2.1 ∧ rangeL tally_Firsts_b1 p.2.1 p.1 p.2.2 = some y52) (fun (p : Nat × (List (List Int)) × (List Int)) => p.2.1.length) (0, x1, (List.replicate (x0).toNat (0 : Int))) ⟨by simp, by simp, h54⟩ (fun a w st => St.cut [1, 0] ⟨rfl, rfl, rfl, rfl, trivial⟩ (by decide) rfl st) ?_
  rintro ⟨i59, r60, l32⟩ ⟨h65, h66, h64⟩
  try dsimp only at h65 h66 h64
  refine GL.weak (env' := [(7, v13), (18, v1), (19, .int .i64 ((x1).length : Int)), (20, .int .i64 (i59 : Int))]) (L' := [own 3 TR.int v13 l32, imm (TR.sl (TR.sl TR.int)) v1 x1]) (fun _ _ st => st) ?_
  refine GL.seq ?_
  refine GL.region ?_
  refine RL.binI (v := .bool (decide ((i59 : Int) < ((x1).length : Int)))) rfl rfl rfl rfl rfl ?_
  refine RL.finG ?_
  refine GL.seq ?_
  refine GL.cond rfl (fun b67 => ?_) (fun b67 => ?_)
  ·have h68 : i59 < (x1).length := by have := of_decide_eq_true b67; omega
   obtain ⟨y69, r71, hr, e70, h72⟩ := drop_cons h66 rfl h68
   subst hr
   obtain ⟨z61, h62, h63⟩ := rangeL_some h64
   unfold tally_Firsts_b1 at h62
   try dsimp only at h62
   refine GL.skip ?_
   refine GL.seq ?_
   refine GL.block ?_
   refine GL.seq ?_
   refine GL.region ?_
   refine RL.idxS (sz := 1) 1 Try.underlying27 Try_ln22 rfl rfl rfl rfl rfl SlOf.imm (by omega) (by omega) ?_
   refine RL.ldS (i := i59) (r := (TR.sl TR.int)) (e' := y69) 1 Try_ln22 rfl rfl rfl rfl SlOf.imm e70 Part.self ?_
   intro v74
   refine RL.asg rfl rfl rfl ?_
   refine RL.finG ?_
   refine GL.region ?_
   refine RL.mv rfl rfl rfl ?_
   refine RL.mv rfl rfl rfl ?_
   obtain ⟨y81, e82, h62⟩ := bind_some h62
   refine RL.idxS (sz := 1) 2 Try.underlying22 Try_ln3 rfl rfl rfl rfl rfl SlOf.imm (idx_some e82).1 (idx_some e82).2.1 ?_
   refine RL.ldSx (i := ((0 : Int)).toNat) (e' := y81) 2 Ex.ik Try_ln3 rfl rfl rfl rfl SlOf.imm (idx_some e82).2.2 Part.self ?_
   obtain ⟨y83, e84, h62⟩ := bind_some h62
   refine RL.idxS (sz := 1) 0 Try.underlying22 Try_ln3 rfl rfl rfl rfl rfl SlOf.own (idx_some e84).1 (idx_some e84).2.1 ?_
   refine RL.ldSx (i := (y81).toNat) (e' := y83) 0 Ex.ik Try_ln3 rfl rfl rfl rfl SlOf.own (idx_some e84).2.2 Part.self ?_
   refine RL.binI (v := .int .i64 (wadd y83 (1 : Int))) rfl rfl rfl rfl rfl ?_
   obtain ⟨y85, e86, h62⟩ := bind_some h62
   refine RL.idxS (sz := 1) 0 Try.underlying22 Try_ln3 rfl rfl rfl rfl rfl SlOf.own (idx_some e86).1 (idx_some e86).2.1 ?_
   refine RL.stS (i := (y81).toNat) (e' := wadd y83 (1 : Int)) (e1 := wadd y83 (1 : Int)) (r := TR.int) 0 Try_ln3 rfl rfl rfl rfl VR.int rfl (idx_some e86).2.2 Upd.self ?_
   refine RL.reL (L' := [own 3 TR.int v13 (List.set l32 ((y81).toNat) (wadd y83 (1 : Int))), imm (TR.sl (TR.sl TR.int)) v1 x1, imm (TR.sl TR.int) v74 y69]) rfl ?_
   refine RL.finG ?_
   refine GL.nilB ?_
   refine GL.region ?_
   refine RL.binI (v := .int .i64 ((i59 + 1 : Nat) : Int)) rfl rfl rfl rfl (binI_succ i59 (by omega)) ?_
   refine RL.mv rfl rfl rfl ?_
   refine RL.fin ?_
   cases h62
   exact fun a w st => lop_intro (i59 + 1, r71, (List.set l32 ((y81).toNat) (wadd y83 (1 : Int)))) ⟨by show i59 + 1 + r71.length = (x1).length; simp only [List.length_cons] at h65; omega, h72, h63⟩ (by simp) (St.cut [0, 1] ⟨rfl, rfl, rfl, rfl, trivial⟩ (by decide) rfl st)
  have h68 : ¬ i59 < (x1).length := by have := of_decide_eq_false b67; omega
  obtain rfl : r60 = [] := by rw [← h66]; exact List.drop_of_length_le (by omega)
  replace h64 : some (Fl.nx _) = some y52 := h64
  cases h64
  exact GL.exit (fun a w st => mid_intro l32 h55 (St.cut [0] ⟨rfl, trivial⟩ (by decide) rfl st))
 rintro l32 h87
 have h88 := h56 _ h87
 try dsimp only at h88
 refine GL.weak (env' := [(7, v13)]) (L' := [own 3 TR.int v13 l32]) (fun _ _ st => st) ?_
 refine GL.seq ?_
 refine GL.region ?_
 refine RL.mv rfl rfl rfl ?_
 refine RL.asg rfl rfl rfl ?_
 refine RL.asg rfl rfl rfl ?_
 refine RL.finG ?_
 have h88 := Option.some.inj h88
 subst h88
 exact GL.ret (Gx.ret (v := .tuple #[v13, .int .i64 (0 : Int)]) (res2 rfl rfl rfl) (fun a w st => (st.pick [0] (by decide) rfl).toPost v13))
end Go.Wk
