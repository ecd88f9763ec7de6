/- Each function comes to what its model says; printed by a program of this repository. -/
import Derived.Test.YthhconilidaffaaProg
import Derived.Test.YthhconilidaffaaWTopSeatsModels
namespace Go.Wk
open Go.Fw Go.Mo Go.Proofs Go.RowKit
set_option linter.all false
set_option maxRecDepth 100000
theorem loopNx {ρ σ β γ : Type} {body : σ → Option (Fl ρ β σ)} {n : Nat} {s : σ} {y : Fl ρ γ β} (h : stepM body n (.nx s) = some y) : loopM body n s = some y := h
theorem Try_info3 : (Try.prog.info? 3).map (fun i => (i.zero, i.size, i.bytes)) = some (some (.int .i64 0), 1, 8) := by kernel_rfl
theorem Try_ln3 : Ln Try.prog 3 1 false := Ln.of Try_info3 Try.underlying3 rfl
theorem Try_lo3 : LnO Try.prog 3 1 [.int .i64 0] := LnO.of Try_info3 rfl rfl (by decide) (by decide)
theorem Try_info4 : (Try.prog.info? 4).map (fun i => (i.zero, i.size, i.bytes)) = some (some (.bool false), 1, 1) := by kernel_rfl
theorem Try_ln4 : Ln Try.prog 4 1 false := Ln.of Try_info4 Try.underlying4 rfl
theorem Try_lo4 : LnO Try.prog 4 1 [.bool false] := LnO.of Try_info4 rfl rfl (by decide) (by decide)
theorem Try_info22 : (Try.prog.info? 22).map (fun i => (i.zero, i.size, i.bytes)) = some (some (.slice none 0 0), 1, 24) := by kernel_rfl
theorem Try_ln22 : Ln Try.prog 22 1 false := Ln.of Try_info22 Try.underlying22 rfl
theorem Try_lo22 : LnO Try.prog 22 1 [.slice none 0 0] := LnO.of Try_info22 rfl rfl (by decide) (by decide)
theorem Try_info28 : (Try.prog.info? 28).map (fun i => (i.zero, i.size, i.bytes)) = some (some (.int .i64 0), 1, 8) := by kernel_rfl
theorem Try_ln28 : Ln Try.prog 28 1 false := Ln.of Try_info28 Try.underlying28 rfl
theorem Try_lo28 : LnO Try.prog 28 1 [.int .i64 0] := LnO.of Try_info28 rfl rfl (by decide) (by decide)
theorem Try_info97 : (Try.prog.info? 97).map (fun i => (i.zero, i.size, i.bytes)) = some (some (.agg #[.bool false, .bool false, .bool false, .bool false, .bool false, .bool false]), 6, 6) := by kernel_rfl
theorem Try_ln97 : Ln Try.prog 97 6 true := Ln.of Try_info97 Try.underlying97 rfl
theorem Try_lo97 : LnO Try.prog 97 6 [.bool false, .bool false, .bool false, .bool false, .bool false, .bool false] := LnO.of Try_info97 rfl rfl (by decide) (by decide)
theorem Try_fit10 : Fit Try.prog 10 := Fit.of Try.func10 (by kernel_rfl) rfl
theorem Try_fit11 : Fit Try.prog 11 := Fit.of Try.func11 (by kernel_rfl) rfl
theorem Try_fit16 : Fit Try.prog 16 := Fit.of Try.func16 (by kernel_rfl) rfl
theorem Try_fit17 : Fit Try.prog 17 := Fit.of Try.func17 (by kernel_rfl) rfl
theorem Try_fit27 : Fit Try.prog 27 := Fit.of Try.func27 (by kernel_rfl) rfl
theorem Try_fit28 : Fit Try.prog 28 := Fit.of Try.func28 (by kernel_rfl) rfl
theorem Try_fit30 : Fit Try.prog 30 := Fit.of Try.func30 (by kernel_rfl) rfl
theorem Try_fit31 : Fit Try.prog 31 := Fit.of Try.func31 (by kernel_rfl) rfl
theorem Try_fit32 : Fit Try.prog 32 := Fit.of Try.func32 (by kernel_rfl) rfl
theorem Try_fit33 : Fit Try.prog 33 := Fit.of Try.func33 (by kernel_rfl) rfl
theorem Try_fit40 : Fit Try.prog 40 := Fit.of Try.func40 (by kernel_rfl) rfl
theorem Try_fit41 : Fit Try.prog 41 := Fit.of Try.func41 (by kernel_rfl) rfl
theorem Try_fit42 : Fit Try.prog 42 := Fit.of Try.func42 (by kernel_rfl) rfl
theorem Try_fit43 : Fit Try.prog 43 := Fit.of Try.func43 (by kernel_rfl) rfl
theorem Try_fit44 : Fit Try.prog 44 := Fit.of Try.func44 (by kernel_rfl) rfl
theorem Try_fit45 : Fit Try.prog 45 := Fit.of Try.func45 (by kernel_rfl) rfl
theorem Try_fit48 : Fit Try.prog 48 := Fit.of Try.func48 (by kernel_rfl) rfl
theorem Try_fit50 : Fit Try.prog 50 := Fit.of Try.func50 (by kernel_rfl) rfl
theorem Try_fit61 : Fit Try.prog 61 := Fit.of Try.func61 (by kernel_rfl) rfl
theorem Try_fit62 : Fit Try.prog 62 := Fit.of Try.func62 (by kernel_rfl) rfl
theorem Try_fit63 : Fit Try.prog 63 := Fit.of Try.func63 (by kernel_rfl) rfl
theorem Try_fit64 : Fit Try.prog 64 := Fit.of Try.func64 (by kernel_rfl) rfl
theorem Try_fit66 : Fit Try.prog 66 := Fit.of Try.func66 (by kernel_rfl) rfl
theorem Try_fit67 : Fit Try.prog 67 := Fit.of Try.func67 (by kernel_rfl) rfl
theorem Try_fit68 : Fit Try.prog 68 := Fit.of Try.func68 (by kernel_rfl) rfl
theorem Try_fit7 : Fit Try.prog 7 := Fit.of Try.func7 (by kernel_rfl) rfl
theorem Try_fit70 : Fit Try.prog 70 := Fit.of Try.func70 (by kernel_rfl) rfl
theorem Try_fit72 : Fit Try.prog 72 := Fit.of Try.func72 (by kernel_rfl) rfl
theorem Try_fit78 : Fit Try.prog 78 := Fit.of Try.func78 (by kernel_rfl) rfl
theorem Try_fit81 : Fit Try.prog 81 := Fit.of Try.func81 (by kernel_rfl) rfl
theorem Try_fit82 : Fit Try.prog 82 := Fit.of Try.func82 (by kernel_rfl) rfl
theorem Try_fit89 : Fit Try.prog 89 := Fit.of Try.func89 (by kernel_rfl) rfl

set_option maxHeartbeats 4000000 in
theorem ref_Rest_c (S : Hp) (w : World) (hS : S.sub w) (x0 : Int) (x1 : Int) (res : Int) (hm : ref_Rest_m x0 x1 = some res) : Calls Try.prog 28 #[.int .i64 x0, .int .i64 x1] w (PostC w (.int .i64 res)) := by
 refine calls_enter 14 Try.func28 Try.ntmps28 rfl S true [(0, .int .i64 x0), (1, .int .i64 x1)] [] rfl ⟨rfl, ⟨rfl, trivial⟩⟩ hS trivial ?_
 unfold ref_Rest_m at hm
 refine GL.seq ?_
 refine GL.region ?_
 refine RL.asg rfl rfl rfl ?_
 refine RL.finG ?_
 refine GL.seq ?_
 refine GL.region ?_
 refine RL.mv rfl rfl rfl ?_
 refine RL.mv rfl rfl rfl ?_
 obtain ⟨y5, e6, hm⟩ := bind_some hm
 replace e6 := chk_some e6
 refine RL.rem rfl rfl rfl rfl e6 ?_
 refine RL.asg rfl rfl rfl ?_
 refine RL.finG ?_
 refine GL.seq ?_
 refine GL.seq ?_
 refine GL.region ?_
 refine RL.mv rfl rfl rfl ?_
 refine RL.binI (v := .bool (decide ((Int.tmod x0 x1) < (0 : Int)))) rfl rfl rfl rfl rfl ?_
 refine RL.finG ?_
 obtain ⟨y9, K10, h11, h12, h13, h14, h15⟩ := bindR_K hm
 refine GL.join (ι := Int) (fun (p : Int) => [(0, .int .i64 p)]) (fun (p : Int) => []) (fun (p : Int) => K10 (.nx p)) ?_ ?_
 ·skip
  refine GL.cond rfl (fun b16 => ?_) (fun b16 => ?_)
  ·replace h11 := ite_t b16 h11
   refine GL.region ?_
   refine RL.mv rfl rfl rfl ?_
   refine RL.mv rfl rfl rfl ?_
   refine RL.binI (v := .int .i64 (wadd (Int.tmod x0 x1) x1)) rfl rfl rfl rfl rfl ?_
   refine RL.asg rfl rfl rfl ?_
   refine RL.finG ?_
   cases h11
   exact fun a w st => mid_intro (wadd (Int.tmod x0 x1) x1) h12 (St.cut [] ⟨rfl, trivial⟩ (by decide) rfl st)
  replace h11 := ite_f b16 h11
  refine GL.skip ?_
  cases h11
  exact fun a w st => mid_intro (Int.tmod x0 x1) h12 (St.cut [] ⟨rfl, trivial⟩ (by decide) rfl st)
 rintro x8 h17
 have h18 := h13 _ h17
 try dsimp only at h18
 refine GL.weak (env' := [(0, .int .i64 x8)]) (L' := []) (fun _ _ st => st) ?_
 refine GL.seq ?_
 refine GL.region ?_
 refine RL.mv rfl rfl rfl ?_
 refine RL.asg rfl rfl rfl ?_
 refine RL.finG ?_
 have h18 := Option.some.inj h18
 subst h18
 exact GL.ret (Gx.ret (v := .int .i64 x8) (res1 rfl rfl) (fun a w st => st.toPostC rfl))

set_option maxHeartbeats 4000000 in
theorem pk_Within_c (S : Hp) (w : World) (hS : S.sub w) (x0 : Int) (x1 : Int) (res : Int) (hm : pk_Within_m x0 x1 = some res) : Calls Try.prog 7 #[.int .i64 x0, .int .i64 x1] w (PostC w (.int .i64 res)) := by
 refine calls_enter 8 Try.func7 Try.ntmps7 rfl S true [(0, .int .i64 x0), (1, .int .i64 x1)] [] rfl ⟨rfl, ⟨rfl, trivial⟩⟩ hS trivial ?_
 unfold pk_Within_m at hm
 refine GL.seq ?_
 refine GL.region ?_
 refine RL.asg rfl rfl rfl ?_
 refine RL.finG ?_
 refine GL.seq ?_
 refine GL.region ?_
 refine RL.mv rfl rfl rfl ?_
 refine RL.mv rfl rfl rfl ?_
 obtain ⟨y5, e6, hm⟩ := bind_some hm
 refine RL.callC (v := .int .i64 y5) (vs := [.int .i64 x0, .int .i64 x1]) Try_fit28 rfl rfl rfl rfl (fun U w hU hW hL => ref_Rest_c U w hU x0 x1 _ e6) ?_
 refine RL.asg rfl rfl rfl ?_
 refine RL.finG ?_
 have hm := Option.some.inj hm
 subst hm
 exact GL.ret (Gx.ret (v := .int .i64 y5) (res1 rfl rfl) (fun a w st => st.toPostC rfl))

set_option maxHeartbeats 4000000 in
theorem seats_Check_c (S : Hp) (w : World) (hS : S.sub w) (v0 : Value) (x0 : (List Int)) (k0 : ((TR.sl TR.int)).vrep S v0 x0) (x1 : Int) (res : Int) (hm : seats_Check_m x0 x1 = some res) : Calls Try.prog 40 #[v0, .int .i64 x1] w (PostC w (.int .i64 res)) := by
 refine calls_enter 40 Try.func40 Try.ntmps40 rfl S true [(0, v0), (1, .int .i64 x1)] [imm (TR.sl TR.int) v0 x0] rfl ⟨rfl, ⟨rfl, trivial⟩⟩ hS ⟨k0, trivial⟩ ?_
 unfold seats_Check_m at hm
 refine GL.seq ?_
 refine GL.region ?_
 refine RL.asg rfl rfl rfl ?_
 refine RL.finG ?_
 refine GL.seq ?_
 refine GL.seq ?_
 obtain ⟨y6, K7, h8, h9, h10, h11, h12⟩ := bindR_K hm
 refine GL.join (ι := Bool) (fun (p : Bool) => [(0, v0), (1, .int .i64 x1), (15, .bool p)]) (fun (p : Bool) => [imm (TR.sl TR.int) v0 x0]) (fun (p : Bool) => K7 (.nx p)) ?_ ?_
 ·skip
  refine GL.region ?_
  refine RL.mv rfl rfl rfl ?_
  refine RL.lenS 0 Try.underlying22 rfl rfl rfl rfl SlOf.imm ?_
  refine RL.binI (v := .bool (decide (((x0).length : Int) < (1 : Int)))) rfl rfl rfl rfl rfl ?_
  refine RL.mv rfl rfl rfl ?_
  refine RL.split (t := 11) rfl (fun b13 => ?_) (fun b13 => ?_)
  ·replace h8 := ite_t b13 h8
   refine RL.skip rfl rfl ?_
   refine RL.skip rfl rfl ?_
   refine RL.skip rfl rfl ?_
   refine RL.pickT rfl rfl rfl rfl ?_
   refine RL.fin ?_
   cases h8
   exact fun a w st => mid_intro true h9 (St.cut [0] ⟨rfl, rfl, rfl, trivial⟩ (by decide) rfl st)
  replace h8 := ite_f b13 h8
  refine RL.mv rfl rfl rfl ?_
  refine RL.lenS 0 Try.underlying22 rfl rfl rfl rfl SlOf.imm ?_
  refine RL.binI (v := .bool (decide (((x0).length : Int) > (8 : Int)))) rfl rfl rfl rfl rfl ?_
  refine RL.pickF rfl rfl rfl rfl ?_
  refine RL.fin ?_
  cases h8
  exact fun a w st => mid_intro (decide (((x0).length : Int) > (8 : Int))) h9 (St.cut [0] ⟨rfl, rfl, rfl, trivial⟩ (by decide) rfl st)
 rintro x5 h14
 have h15 := h10 _ h14
 try dsimp only at h15
 refine GL.weak (env' := [(0, v0), (1, .int .i64 x1), (15, .bool x5)]) (L' := [imm (TR.sl TR.int) v0 x0]) (fun _ _ st => st) ?_
 refine GL.cond rfl (fun b16 => ?_) (fun b16 => ?_)
 ·replace h15 := ite_t b16 h15
  refine GL.seq ?_
  refine GL.region ?_
  refine RL.asg rfl rfl rfl ?_
  refine RL.finG ?_
  have h15 := Option.some.inj h15
  subst h15
  exact GL.ret (Gx.ret (v := .int .i64 (2 : Int)) (res1 rfl rfl) (fun a w st => st.toPostC rfl))
 replace h15 := ite_f b16 h15
 refine GL.skip ?_
 refine GL.seq ?_
 refine GL.region ?_
 refine RL.asg rfl rfl rfl ?_
 refine RL.finG ?_
 refine GL.seq ?_
 refine GL.seq ?_
 refine GL.region ?_
 refine RL.mv rfl rfl rfl ?_
 refine RL.lenS 0 Try.underlying22 rfl rfl rfl rfl SlOf.imm ?_
 refine RL.mv rfl rfl rfl ?_
 refine RL.finG ?_
 refine GL.open_ 0 rfl (fun S h => len_imm S h) (fun n36 => ?_)
 obtain ⟨y37, K38, h39, h40, h41, h42, h43⟩ := bindR_K h15
 refine GL.join (ι := Int) (fun (p : Int) => [(1, .int .i64 x1), (5, .int .i64 p)]) (fun (p : Int) => []) (fun (p : Int) => K38 (.nx p)) ?_ ?_
 ·refine GL.block ?_
  refine GL.loop (ι := Nat × (List Int) × Int) (fun (p : Nat × (List Int) × Int) => [(1, .int .i64 x1), (5, .int .i64 p.2.2), (16, v0), (17, .int .i64 ((x0).length : Int)), (18, .int .i64 (p.1 : Int))]) (fun (p : Nat × (List Int) × Int) => [imm (TR.sl TR.int) v0 x0]) (fun (p : Nat × (List Int) × Int) => p.1 + p.2.1.length = (x0).length ∧ List.drop p.1 x0 = p.2.1 ∧ rangeL seats_Check_b1 p.2.1 p.1 p.2.2 = some y37) (fun (p : Nat × (List Int) × Int) => p.2.1.length) (0, x0, (0 : Int)) ⟨by simp, by simp, h39⟩ (fun a w st => St.cut [0] ⟨rfl, rfl, rfl, rfl, rfl, trivial⟩ (by decide) rfl st) ?_
  rintro ⟨i44, r45, x17⟩ ⟨h50, h51, h49⟩
  try dsimp only at h50 h51 h49
  refine GL.weak (env' := [(1, .int .i64 x1), (5, .int .i64 x17), (16, v0), (17, .int .i64 ((x0).length : Int)), (18, .int .i64 (i44 : Int))]) (L' := [imm (TR.sl TR.int) v0 x0]) (fun _ _ st => st) ?_
  refine GL.seq ?_
  refine GL.region ?_
  refine RL.binI (v := .bool (decide ((i44 : Int) < ((x0).length : Int)))) rfl rfl rfl rfl rfl ?_
  refine RL.finG ?_
  refine GL.seq ?_
  refine GL.cond rfl (fun b52 => ?_) (fun b52 => ?_)
  ·have h53 : i44 < (x0).length := by have := of_decide_eq_true b52; omega
   obtain ⟨y54, r56, hr, e55, h57⟩ := drop_cons h51 rfl h53
   subst hr
   obtain ⟨z46, h47, h48⟩ := rangeL_some h49
   unfold seats_Check_b1 at h47
   try dsimp only at h47
   refine GL.skip ?_
   refine GL.seq ?_
   refine GL.block ?_
   refine GL.seq ?_
   refine GL.region ?_
   refine RL.idxS (sz := 1) 0 Try.underlying22 Try_ln3 rfl rfl rfl rfl rfl SlOf.imm (by omega) (by omega) ?_
   refine RL.ldSx (i := i44) (e' := y54) 0 Ex.ik Try_ln3 rfl rfl rfl rfl SlOf.imm e55 Part.self ?_
   refine RL.asg rfl rfl rfl ?_
   refine RL.finG ?_
   refine GL.seq ?_
   refine GL.seq ?_
   obtain ⟨y61, K62, h63, h64, h65, h66, h67⟩ := bindF_K h47
   refine GL.join (ι := Bool) (fun (p : Bool) => [(1, .int .i64 x1), (5, .int .i64 x17), (7, .int .i64 y54), (16, v0), (17, .int .i64 ((x0).length : Int)), (18, .int .i64 (i44 : Int)), (27, .bool p)]) (fun (p : Bool) => [imm (TR.sl TR.int) v0 x0]) (fun (p : Bool) => K62 (.nx p)) ?_ ?_
   ·skip
    refine GL.region ?_
    refine RL.mv rfl rfl rfl ?_
    refine RL.binI (v := .bool (decide (y54 < (0 : Int)))) rfl rfl rfl rfl rfl ?_
    refine RL.mv rfl rfl rfl ?_
    refine RL.split (t := 24) rfl (fun b68 => ?_) (fun b68 => ?_)
    ·replace h63 := ite_t b68 h63
     refine RL.skip rfl rfl ?_
     refine RL.skip rfl rfl ?_
     refine RL.pickT rfl rfl rfl rfl ?_
     refine RL.fin ?_
     cases h63
     exact fun a w st => mid_intro true h64 (St.cut [0] ⟨rfl, rfl, rfl, rfl, rfl, rfl, rfl, trivial⟩ (by decide) rfl st)
    replace h63 := ite_f b68 h63
    refine RL.mv rfl rfl rfl ?_
    refine RL.binI (v := .bool (decide (y54 > (1000000 : Int)))) rfl rfl rfl rfl rfl ?_
    refine RL.pickF rfl rfl rfl rfl ?_
    refine RL.fin ?_
    cases h63
    exact fun a w st => mid_intro (decide (y54 > (1000000 : Int))) h64 (St.cut [0] ⟨rfl, rfl, rfl, rfl, rfl, rfl, rfl, trivial⟩ (by decide) rfl st)
   rintro x60 h69
   have h70 := h65 _ h69
   try dsimp only at h70
   refine GL.weak (env' := [(1, .int .i64 x1), (5, .int .i64 x17), (7, .int .i64 y54), (16, v0), (17, .int .i64 ((x0).length : Int)), (18, .int .i64 (i44 : Int)), (27, .bool x60)]) (L' := [imm (TR.sl TR.int) v0 x0]) (fun _ _ st => st) ?_
   refine GL.cond rfl (fun b71 => ?_) (fun b71 => ?_)
   ·replace h70 := ite_t b71 h70
    refine GL.seq ?_
    refine GL.region ?_
    refine RL.asg rfl rfl rfl ?_
    refine RL.finG ?_
    cases h70
    replace h48 : some (Fl.rt _) = some y37 := h48
    cases h48
    have hh := h42 _ h40
    subst hh
    exact GL.ret (Gx.ret (v := .int .i64 (1 : Int)) (res1 rfl rfl) (fun a w st => st.toPostC rfl))
   replace h70 := ite_f b71 h70
   refine GL.skip ?_
   refine GL.region ?_
   refine RL.mv rfl rfl rfl ?_
   refine RL.mv rfl rfl rfl ?_
   refine RL.binI (v := .int .i64 (wadd x17 y54)) rfl rfl rfl rfl rfl ?_
   refine RL.asg rfl rfl rfl ?_
   refine RL.finG ?_
   refine GL.nilB ?_
   refine GL.region ?_
   refine RL.binI (v := .int .i64 ((i44 + 1 : Nat) : Int)) rfl rfl rfl rfl (binI_succ i44 (by omega)) ?_
   refine RL.mv rfl rfl rfl ?_
   refine RL.fin ?_
   cases h70
   exact fun a w st => lop_intro (i44 + 1, r56, wadd x17 y54) ⟨by show i44 + 1 + r56.length = (x0).length; simp only [List.length_cons] at h50; omega, h57, h48⟩ (by simp) (St.cut [0] ⟨rfl, rfl, rfl, rfl, rfl, trivial⟩ (by decide) rfl st)
  have h53 : ¬ i44 < (x0).length := by have := of_decide_eq_false b52; omega
  obtain rfl : r45 = [] := by rw [← h51]; exact List.drop_of_length_le (by omega)
  replace h49 : some (Fl.nx _) = some y37 := h49
  cases h49
  exact GL.exit (fun a w st => mid_intro x17 h40 (St.cut [] ⟨rfl, rfl, trivial⟩ (by decide) rfl st))
 rintro x17 h72
 have h73 := h41 _ h72
 try dsimp only at h73
 refine GL.weak (env' := [(1, .int .i64 x1), (5, .int .i64 x17)]) (L' := []) (fun _ _ st => st) ?_
 refine GL.seq ?_
 refine GL.seq ?_
 refine GL.region ?_
 refine RL.mv rfl rfl rfl ?_
 refine RL.binI (v := .bool (x17 == (0 : Int))) rfl rfl rfl rfl rfl ?_
 refine RL.finG ?_
 refine GL.cond rfl (fun b74 => ?_) (fun b74 => ?_)
 ·replace h73 := ite_t b74 h73
  refine GL.seq ?_
  refine GL.region ?_
  refine RL.asg rfl rfl rfl ?_
  refine RL.finG ?_
  have h73 := Option.some.inj h73
  subst h73
  exact GL.ret (Gx.ret (v := .int .i64 (4 : Int)) (res1 rfl rfl) (fun a w st => st.toPostC rfl))
 replace h73 := ite_f b74 h73
 refine GL.skip ?_
 refine GL.seq ?_
 refine GL.seq ?_
 obtain ⟨y78, K79, h80, h81, h82, h83, h84⟩ := bindR_K h73
 refine GL.join (ι := Bool) (fun (p : Bool) => [(39, .bool p)]) (fun (p : Bool) => []) (fun (p : Bool) => K79 (.nx p)) ?_ ?_
 ·skip
  refine GL.region ?_
  refine RL.mv rfl rfl rfl ?_
  refine RL.binI (v := .bool (decide (x1 < (0 : Int)))) rfl rfl rfl rfl rfl ?_
  refine RL.mv rfl rfl rfl ?_
  refine RL.split (t := 36) rfl (fun b85 => ?_) (fun b85 => ?_)
  ·replace h80 := ite_t b85 h80
   refine RL.skip rfl rfl ?_
   refine RL.skip rfl rfl ?_
   refine RL.pickT rfl rfl rfl rfl ?_
   refine RL.fin ?_
   cases h80
   exact fun a w st => mid_intro true h81 (St.cut [] ⟨rfl, trivial⟩ (by decide) rfl st)
  replace h80 := ite_f b85 h80
  refine RL.mv rfl rfl rfl ?_
  refine RL.binI (v := .bool (decide (x1 > (100 : Int)))) rfl rfl rfl rfl rfl ?_
  refine RL.pickF rfl rfl rfl rfl ?_
  refine RL.fin ?_
  cases h80
  exact fun a w st => mid_intro (decide (x1 > (100 : Int))) h81 (St.cut [] ⟨rfl, trivial⟩ (by decide) rfl st)
 rintro x77 h86
 have h87 := h82 _ h86
 try dsimp only at h87
 refine GL.weak (env' := [(39, .bool x77)]) (L' := []) (fun _ _ st => st) ?_
 refine GL.cond rfl (fun b88 => ?_) (fun b88 => ?_)
 ·replace h87 := ite_t b88 h87
  refine GL.seq ?_
  refine GL.region ?_
  refine RL.asg rfl rfl rfl ?_
  refine RL.finG ?_
  have h87 := Option.some.inj h87
  subst h87
  exact GL.ret (Gx.ret (v := .int .i64 (1 : Int)) (res1 rfl rfl) (fun a w st => st.toPostC rfl))
 replace h87 := ite_f b88 h87
 refine GL.skip ?_
 refine GL.seq ?_
 refine GL.region ?_
 refine RL.asg rfl rfl rfl ?_
 refine RL.finG ?_
 have h87 := Option.some.inj h87
 subst h87
 exact GL.ret (Gx.ret (v := .int .i64 (0 : Int)) (res1 rfl rfl) (fun a w st => st.toPostC rfl))

set_option maxHeartbeats 4000000 in
theorem seats_divided_c (S : Hp) (w : World) (hS : S.sub w) (v0 : Value) (x0 : (List Int)) (k0 : ((TR.sl TR.int)).vrep S v0 x0) (x1 : Int) (x2 : Int) (res : (List Int)) (hm : seats_divided_m x0 x1 x2 = some res) : Calls Try.prog 41 #[v0, .int .i64 x1, .int .i64 x2] w (Post w S (fun (o : Value) => o) (fun (o : Value) => [own 3 TR.int o res])) := by
 refine calls_enter 56 Try.func41 Try.ntmps41 rfl S false [(0, v0), (1, .int .i64 x1), (2, .int .i64 x2)] [imm (TR.sl TR.int) v0 x0] rfl ⟨rfl, ⟨rfl, ⟨rfl, trivial⟩⟩⟩ hS ⟨k0, trivial⟩ ?_
 unfold seats_divided_m at hm
 refine GL.seq ?_
 refine GL.region ?_
 refine RL.asg rfl rfl rfl ?_
 refine RL.finG ?_
 refine GL.seq ?_
 refine GL.region ?_
 refine RL.mv rfl rfl rfl ?_
 refine RL.lenS 0 Try.underlying22 rfl rfl rfl rfl SlOf.imm ?_
 obtain ⟨y7, e8, hm⟩ := bind_some hm
 replace e8 := chk_some e8
 refine RL.mkS (t := TR.int) (z := (0 : Int)) Try.underlying22 Try_lo3 (fun S => rfl) rfl rfl rfl rfl e8.1 e8.2 ?_
 intro v9
 refine RL.asg rfl rfl rfl ?_
 refine RL.finG ?_
 refine GL.seq ?_
 refine GL.seq ?_
 refine GL.region ?_
 refine RL.mv rfl rfl rfl ?_
 refine RL.mv rfl rfl rfl ?_
 refine RL.finG ?_
 obtain ⟨y138, e139, hm⟩ := bind_some hm
 replace e139 := chk_some e139
 obtain ⟨y140, K141, h142, h143, h144, h145, h146⟩ := bindR_K hm
 refine GL.join (ι := (List Int)) (fun (p : (List Int)) => [(7, v9)]) (fun (p : (List Int)) => [own 3 TR.int v9 p]) (fun (p : (List Int)) => K141 (.nx p)) ?_ ?_
 ·refine GL.block ?_
  refine GL.loop (ι := Nat × Nat × (List Int)) (fun (p : Nat × Nat × (List Int)) => [(0, v0), (2, .int .i64 x2), (7, v9), (14, .int .i64 x1), (15, .int .i64 (p.1 : Int))]) (fun (p : Nat × Nat × (List Int)) => [imm (TR.sl TR.int) v0 x0, own 3 TR.int v9 p.2.2]) (fun (p : Nat × Nat × (List Int)) => p.1 + p.2.1 = (x1).toNat ∧ rangeN (seats_divided_b1 x0 x2) p.2.1 p.1 p.2.2 = some y140) (fun (p : Nat × Nat × (List Int)) => p.2.1) (0, (x1).toNat, (List.replicate (((x0).length : Int)).toNat (0 : Int))) ⟨by simp, h142⟩ (fun a w st => St.cut [0, 1] ⟨rfl, rfl, rfl, rfl, rfl, trivial⟩ (by decide) rfl st) ?_
  rintro ⟨i147, r148, l73⟩ ⟨h153, h152⟩
  try dsimp only at h153 h152
  refine GL.weak (env' := [(0, v0), (2, .int .i64 x2), (7, v9), (14, .int .i64 x1), (15, .int .i64 (i147 : Int))]) (L' := [imm (TR.sl TR.int) v0 x0, own 3 TR.int v9 l73]) (fun _ _ st => st) ?_
  refine GL.seq ?_
  refine GL.region ?_
  refine RL.binI (v := .bool (decide ((i147 : Int) < x1))) rfl rfl rfl rfl rfl ?_
  refine RL.finG ?_
  refine GL.seq ?_
  refine GL.cond rfl (fun b155 => ?_) (fun b155 => ?_)
  ·have h156 : i147 < (x1).toNat := by have := of_decide_eq_true b155; omega
   obtain ⟨r157, hr⟩ : ∃ m, r148 = m + 1 := ⟨r148 - 1, by omega⟩
   subst hr
   obtain ⟨z149, h150, h151⟩ := rangeN_some h152
   unfold seats_divided_b1 at h150
   try dsimp only at h150
   refine GL.skip ?_
   refine GL.seq ?_
   refine GL.block ?_
   refine GL.seq ?_
   refine GL.region ?_
   refine RL.asg rfl rfl rfl ?_
   refine RL.finG ?_
   refine GL.seq ?_
   refine GL.seq ?_
   refine GL.region ?_
   refine RL.mv rfl rfl rfl ?_
   refine RL.lenS 0 Try.underlying22 rfl rfl rfl rfl SlOf.imm ?_
   refine RL.mv rfl rfl rfl ?_
   refine RL.finG ?_
   refine GL.open_ 0 rfl (fun S h => len_imm S h) (fun n176 => ?_)
   obtain ⟨y177, K178, h179, h180, h181, h182, h183⟩ := bindF_K h150
   refine GL.join (ι := Int) (fun (p : Int) => [(0, v0), (2, .int .i64 x2), (7, v9), (8, .int .i64 p), (14, .int .i64 x1), (15, .int .i64 (i147 : Int))]) (fun (p : Int) => [imm (TR.sl TR.int) v0 x0, own 3 TR.int v9 l73]) (fun (p : Int) => K178 (.nx p)) ?_ ?_
   ·refine GL.block ?_
    refine GL.loop (ι := Nat × (List Int) × Int) (fun (p : Nat × (List Int) × Int) => [(0, v0), (2, .int .i64 x2), (7, v9), (8, .int .i64 p.2.2), (14, .int .i64 x1), (15, .int .i64 (i147 : Int)), (17, v0), (18, .int .i64 ((x0).length : Int)), (19, .int .i64 (p.1 : Int))]) (fun (p : Nat × (List Int) × Int) => [imm (TR.sl TR.int) v0 x0, own 3 TR.int v9 l73]) (fun (p : Nat × (List Int) × Int) => p.1 + p.2.1.length = (x0).length ∧ List.drop p.1 x0 = p.2.1 ∧ rangeL (seats_divided_b2 l73 x0 x2) p.2.1 p.1 p.2.2 = some y177) (fun (p : Nat × (List Int) × Int) => p.2.1.length) (0, x0, (0 : Int)) ⟨by simp, by simp, h179⟩ (fun a w st => St.cut [0, 1] ⟨rfl, rfl, rfl, rfl, rfl, rfl, rfl, rfl, rfl, trivial⟩ (by decide) rfl st) ?_
    rintro ⟨i184, r185, x158⟩ ⟨h190, h191, h189⟩
    try dsimp only at h190 h191 h189
    refine GL.weak (env' := [(0, v0), (2, .int .i64 x2), (7, v9), (8, .int .i64 x158), (14, .int .i64 x1), (15, .int .i64 (i147 : Int)), (17, v0), (18, .int .i64 ((x0).length : Int)), (19, .int .i64 (i184 : Int))]) (L' := [imm (TR.sl TR.int) v0 x0, own 3 TR.int v9 l73]) (fun _ _ st => st) ?_
    refine GL.seq ?_
    refine GL.region ?_
    refine RL.binI (v := .bool (decide ((i184 : Int) < ((x0).length : Int)))) rfl rfl rfl rfl rfl ?_
    refine RL.finG ?_
    refine GL.seq ?_
    refine GL.cond rfl (fun b192 => ?_) (fun b192 => ?_)
    ·have h193 : i184 < (x0).length := by have := of_decide_eq_true b192; omega
     obtain ⟨y194, r196, hr, e195, h197⟩ := drop_cons h191 rfl h193
     subst hr
     obtain ⟨z186, h187, h188⟩ := rangeL_some h189
     unfold seats_divided_b2 at h187
     try dsimp only at h187
     refine GL.skip ?_
     refine GL.seq ?_
     refine GL.block ?_
     refine GL.seq ?_
     refine GL.region ?_
     refine RL.mv rfl rfl rfl ?_
     refine RL.idxS (sz := 1) 0 Try.underlying22 Try_ln3 rfl rfl rfl rfl rfl SlOf.imm (by omega) (by omega) ?_
     refine RL.ldSx (i := i184) (e' := y194) 0 Ex.ik Try_ln3 rfl rfl rfl rfl SlOf.imm e195 Part.self ?_
     refine RL.asg rfl rfl rfl ?_
     refine RL.asg rfl rfl rfl ?_
     refine RL.finG ?_
     refine GL.seq ?_
     refine GL.regionQ rfl rfl (by kernel_rfl) ?_
     refine RL.mv rfl rfl rfl ?_
     refine RL.mv rfl rfl rfl ?_
     refine RL.mv rfl rfl rfl ?_
     refine RL.mv rfl rfl rfl ?_
     obtain ⟨y204, e205, h187⟩ := bind_some h187
     refine RL.idxS (sz := 1) 1 Try.underlying22 Try_ln3 rfl rfl rfl rfl rfl SlOf.own (idx_some e205).1 (idx_some e205).2.1 ?_
     refine RL.ldSx (i := (x158).toNat) (e' := y204) 1 Ex.ik Try_ln3 rfl rfl rfl rfl SlOf.own (idx_some e205).2.2 Part.self ?_
     refine RL.binI (v := .int .i64 (wmul x2 y204)) rfl rfl rfl rfl rfl ?_
     refine RL.binI (v := .int .i64 (wadd (wmul x2 y204) (1 : Int))) rfl rfl rfl rfl rfl ?_
     refine RL.binI (v := .int .i64 (wmul y194 (wadd (wmul x2 y204) (1 : Int)))) rfl rfl rfl rfl rfl ?_
     refine RL.mv rfl rfl rfl ?_
     refine RL.mv rfl rfl rfl ?_
     obtain ⟨y206, e207, h187⟩ := bind_some h187
     refine RL.idxS (sz := 1) 0 Try.underlying22 Try_ln3 rfl rfl rfl rfl rfl SlOf.imm (idx_some e207).1 (idx_some e207).2.1 ?_
     refine RL.ldSx (i := (x158).toNat) (e' := y206) 0 Ex.ik Try_ln3 rfl rfl rfl rfl SlOf.imm (idx_some e207).2.2 Part.self ?_
     refine RL.mv rfl rfl rfl ?_
     refine RL.mv rfl rfl rfl ?_
     refine RL.mv rfl rfl rfl ?_
     obtain ⟨y208, e209, h187⟩ := bind_some h187
     refine RL.idxS (sz := 1) 1 Try.underlying22 Try_ln3 rfl rfl rfl rfl rfl SlOf.own (idx_some e209).1 (idx_some e209).2.1 ?_
     refine RL.ldSx (i := i184) (e' := y208) 1 Ex.ik Try_ln3 rfl rfl rfl rfl SlOf.own (idx_some e209).2.2 Part.self ?_
     refine RL.binI (v := .int .i64 (wmul x2 y208)) rfl rfl rfl rfl rfl ?_
     refine RL.binI (v := .int .i64 (wadd (wmul x2 y208) (1 : Int))) rfl rfl rfl rfl rfl ?_
     refine RL.binI (v := .int .i64 (wmul y206 (wadd (wmul x2 y208) (1 : Int)))) rfl rfl rfl rfl rfl ?_
     refine RL.binI (v := .bool (decide ((wmul y194 (wadd (wmul x2 y204) (1 : Int))) > (wmul y206 (wadd (wmul x2 y208) (1 : Int)))))) rfl rfl rfl rfl rfl ?_
     refine RL.finQG ?_
     refine GL.weak (env' := [(0, v0), (2, .int .i64 x2), (7, v9), (8, .int .i64 x158), (9, .int .i64 (i184 : Int)), (14, .int .i64 x1), (15, .int .i64 (i147 : Int)), (17, v0), (18, .int .i64 ((x0).length : Int)), (19, .int .i64 (i184 : Int)), (45, .bool (decide ((wmul y194 (wadd (wmul x2 y204) (1 : Int))) > (wmul y206 (wadd (wmul x2 y208) (1 : Int))))))]) (L' := [imm (TR.sl TR.int) v0 x0, own 3 TR.int v9 l73]) (fun a w st => St.cut [0, 1] ⟨rfl, rfl, rfl, rfl, rfl, rfl, rfl, rfl, rfl, rfl, rfl, trivial⟩ (by decide) rfl st) ?_
     refine GL.cond rfl (fun b210 => ?_) (fun b210 => ?_)
     ·replace h187 := ite_t b210 h187
      refine GL.region ?_
      refine RL.mv rfl rfl rfl ?_
      refine RL.asg rfl rfl rfl ?_
      refine RL.finG ?_
      refine GL.nilB ?_
      refine GL.region ?_
      refine RL.binI (v := .int .i64 ((i184 + 1 : Nat) : Int)) rfl rfl rfl rfl (binI_succ i184 (by omega)) ?_
      refine RL.mv rfl rfl rfl ?_
      refine RL.fin ?_
      cases h187
      exact fun a w st => lop_intro (i184 + 1, r196, (i184 : Int)) ⟨by show i184 + 1 + r196.length = (x0).length; simp only [List.length_cons] at h190; omega, h197, h188⟩ (by simp) (St.cut [0, 1] ⟨rfl, rfl, rfl, rfl, rfl, rfl, rfl, rfl, rfl, trivial⟩ (by decide) rfl st)
     replace h187 := ite_f b210 h187
     refine GL.skip ?_
     refine GL.nilB ?_
     refine GL.region ?_
     refine RL.binI (v := .int .i64 ((i184 + 1 : Nat) : Int)) rfl rfl rfl rfl (binI_succ i184 (by omega)) ?_
     refine RL.mv rfl rfl rfl ?_
     refine RL.fin ?_
     cases h187
     exact fun a w st => lop_intro (i184 + 1, r196, x158) ⟨by show i184 + 1 + r196.length = (x0).length; simp only [List.length_cons] at h190; omega, h197, h188⟩ (by simp) (St.cut [0, 1] ⟨rfl, rfl, rfl, rfl, rfl, rfl, rfl, rfl, rfl, trivial⟩ (by decide) rfl st)
    have h193 : ¬ i184 < (x0).length := by have := of_decide_eq_false b192; omega
    obtain rfl : r185 = [] := by rw [← h191]; exact List.drop_of_length_le (by omega)
    replace h189 : some (Fl.nx _) = some y177 := h189
    cases h189
    exact GL.exit (fun a w st => mid_intro x158 h180 (St.cut [0, 1] ⟨rfl, rfl, rfl, rfl, rfl, rfl, trivial⟩ (by decide) rfl st))
   rintro x158 h211
   have h212 := h181 _ h211
   try dsimp only at h212
   refine GL.weak (env' := [(0, v0), (2, .int .i64 x2), (7, v9), (8, .int .i64 x158), (14, .int .i64 x1), (15, .int .i64 (i147 : Int))]) (L' := [imm (TR.sl TR.int) v0 x0, own 3 TR.int v9 l73]) (fun _ _ st => st) ?_
   refine GL.region ?_
   refine RL.mv rfl rfl rfl ?_
   refine RL.mv rfl rfl rfl ?_
   obtain ⟨y217, e218, h212⟩ := bind_some h212
   refine RL.idxS (sz := 1) 1 Try.underlying22 Try_ln3 rfl rfl rfl rfl rfl SlOf.own (idx_some e218).1 (idx_some e218).2.1 ?_
   refine RL.ldSx (i := (x158).toNat) (e' := y217) 1 Ex.ik Try_ln3 rfl rfl rfl rfl SlOf.own (idx_some e218).2.2 Part.self ?_
   refine RL.binI (v := .int .i64 (wadd y217 (1 : Int))) rfl rfl rfl rfl rfl ?_
   obtain ⟨y219, e220, h212⟩ := bind_some h212
   refine RL.idxS (sz := 1) 1 Try.underlying22 Try_ln3 rfl rfl rfl rfl rfl SlOf.own (idx_some e220).1 (idx_some e220).2.1 ?_
   refine RL.stS (i := (x158).toNat) (e' := wadd y217 (1 : Int)) (e1 := wadd y217 (1 : Int)) (r := TR.int) 1 Try_ln3 rfl rfl rfl rfl VR.int rfl (idx_some e220).2.2 Upd.self ?_
   refine RL.finG ?_
   refine GL.nilB ?_
   refine GL.region ?_
   refine RL.binI (v := .int .i64 ((i147 + 1 : Nat) : Int)) rfl rfl rfl rfl (binI_succ i147 (by omega)) ?_
   refine RL.mv rfl rfl rfl ?_
   refine RL.fin ?_
   cases h212
   exact fun a w st => lop_intro (i147 + 1, r157, (List.set l73 ((x158).toNat) (wadd y217 (1 : Int)))) ⟨by show i147 + 1 + r157 = (x1).toNat; omega, h151⟩ (by simp) (St.cut [0, 1] ⟨rfl, rfl, rfl, rfl, rfl, trivial⟩ (by decide) rfl st)
  have h156 : ¬ i147 < (x1).toNat := by have := of_decide_eq_false b155; omega
  obtain rfl : r148 = 0 := by omega
  replace h152 : some (Fl.nx _) = some y140 := h152
  cases h152
  exact GL.exit (fun a w st => mid_intro l73 h143 (St.cut [1] ⟨rfl, trivial⟩ (by decide) rfl st))
 rintro l73 h221
 have h222 := h144 _ h221
 try dsimp only at h222
 refine GL.weak (env' := [(7, v9)]) (L' := [own 3 TR.int v9 l73]) (fun _ _ st => st) ?_
 refine GL.seq ?_
 refine GL.region ?_
 refine RL.mv rfl rfl rfl ?_
 refine RL.asg rfl rfl rfl ?_
 refine RL.finG ?_
 have h222 := Option.some.inj h222
 subst h222
 exact GL.ret (Gx.ret (v := v9) (res1 rfl rfl) (fun a w st => (st.pick [0] (by decide) rfl).toPost v9))

set_option maxHeartbeats 4000000 in
theorem seats_Share_c (S : Hp) (w : World) (hS : S.sub w) (x0 : Int) (v1 : Value) (x1 : (List Int)) (k1 : ((TR.sl TR.int)).vrep S v1 x1) (x2 : Int) (res : (List Int) × Int) (hm : seats_Share_m x0 x1 x2 = some res) : Calls Try.prog 16 #[.int .i64 x0, v1, .int .i64 x2] w (Post w S (fun (o : Value) => .tuple #[o, .int .i64 res.2]) (fun (o : Value) => [own 3 TR.int o res.1])) := by
 refine calls_enter 119 Try.func16 Try.ntmps16 rfl S false [(0, .int .i64 x0), (1, v1), (2, .int .i64 x2)] [imm (TR.sl TR.int) v1 x1] rfl ⟨rfl, ⟨rfl, ⟨rfl, trivial⟩⟩⟩ hS ⟨k1, trivial⟩ ?_
 unfold seats_Share_m at hm
 refine GL.seq ?_
 refine GL.region ?_
 refine RL.asg rfl rfl rfl ?_
 refine RL.asg rfl rfl rfl ?_
 refine RL.finG ?_
 refine GL.seq ?_
 refine GL.seq ?_
 obtain ⟨y7, K8, h9, h10, h11, h12, h13⟩ := bindR_K hm
 refine GL.join (ι := Bool) (fun (p : Bool) => [(0, .int .i64 x0), (1, v1), (2, .int .i64 x2), (24, .bool p)]) (fun (p : Bool) => [imm (TR.sl TR.int) v1 x1]) (fun (p : Bool) => K8 (.nx p)) ?_ ?_
 ·skip
  refine GL.region ?_
  refine RL.mv rfl rfl rfl ?_
  refine RL.binI (v := .bool (decide (x0 < (1 : Int)))) rfl rfl rfl rfl rfl ?_
  refine RL.mv rfl rfl rfl ?_
  refine RL.split (t := 21) rfl (fun b14 => ?_) (fun b14 => ?_)
  ·replace h9 := ite_t b14 h9
   refine RL.skip rfl rfl ?_
   refine RL.skip rfl rfl ?_
   refine RL.pickT rfl rfl rfl rfl ?_
   refine RL.fin ?_
   cases h9
   exact fun a w st => mid_intro true h10 (St.cut [0] ⟨rfl, rfl, rfl, rfl, trivial⟩ (by decide) rfl st)
  replace h9 := ite_f b14 h9
  refine RL.mv rfl rfl rfl ?_
  refine RL.binI (v := .bool (decide (x0 > (3 : Int)))) rfl rfl rfl rfl rfl ?_
  refine RL.pickF rfl rfl rfl rfl ?_
  refine RL.fin ?_
  cases h9
  exact fun a w st => mid_intro (decide (x0 > (3 : Int))) h10 (St.cut [0] ⟨rfl, rfl, rfl, rfl, trivial⟩ (by decide) rfl st)
 rintro x6 h15
 have h16 := h11 _ h15
 try dsimp only at h16
 refine GL.weak (env' := [(0, .int .i64 x0), (1, v1), (2, .int .i64 x2), (24, .bool x6)]) (L' := [imm (TR.sl TR.int) v1 x1]) (fun _ _ st => st) ?_
 refine GL.cond rfl (fun b17 => ?_) (fun b17 => ?_)
 ·replace h16 := ite_t b17 h16
  refine GL.seq ?_
  refine GL.region ?_
  refine RL.asg rfl rfl rfl ?_
  refine RL.asg rfl rfl rfl ?_
  refine RL.finG ?_
  refine GL.weak (fun a w st => st.nilOwn 3 TR.int) ?_
  have h16 := Option.some.inj h16
  subst h16
  exact GL.ret (Gx.ret (v := .tuple #[Value.slice none 0 0, .int .i64 (1 : Int)]) (res2 rfl rfl rfl) (fun a w st => (st.pick [1] (by decide) rfl).toPost (Value.slice none 0 0)))
 replace h16 := ite_f b17 h16
 refine GL.skip ?_
 refine GL.seq ?_
 refine GL.seq ?_
 refine GL.region ?_
 refine RL.mv rfl rfl rfl ?_
 refine RL.mv rfl rfl rfl ?_
 obtain ⟨y20, e21, h16⟩ := bind_some h16
 refine RL.callC (v := .int .i64 y20) (vs := [v1, .int .i64 x2]) Try_fit40 rfl rfl rfl rfl (fun U w hU hW hL => seats_Check_c U w hU _ _ (hL 0 _ _ rfl Seen.imm) x2 _ e21) ?_
 refine RL.asg rfl rfl rfl ?_
 refine RL.finG ?_
 refine GL.seq ?_
 refine GL.region ?_
 refine RL.mv rfl rfl rfl ?_
 refine RL.binI (v := .bool (y20 != (0 : Int))) rfl rfl rfl rfl rfl ?_
 refine RL.finG ?_
 refine GL.cond rfl (fun b22 => ?_) (fun b22 => ?_)
 ·replace h16 := ite_t b22 h16
  refine GL.seq ?_
  refine GL.region ?_
  refine RL.mv rfl rfl rfl ?_
  refine RL.asg rfl rfl rfl ?_
  refine RL.asg rfl rfl rfl ?_
  refine RL.finG ?_
  refine GL.weak (fun a w st => st.nilOwn 3 TR.int) ?_
  have h16 := Option.some.inj h16
  subst h16
  exact GL.ret (Gx.ret (v := .tuple #[Value.slice none 0 0, .int .i64 y20]) (res2 rfl rfl rfl) (fun a w st => (st.pick [1] (by decide) rfl).toPost (Value.slice none 0 0)))
 replace h16 := ite_f b22 h16
 refine GL.skip ?_
 refine GL.seq ?_
 refine GL.seq ?_
 refine GL.region ?_
 refine RL.mv rfl rfl rfl ?_
 refine RL.finG ?_
 refine GL.block ?_
 refine GL.seq ?_
 refine GL.region ?_
 refine RL.binI (v := .bool (x0 == (1 : Int))) rfl rfl rfl rfl rfl ?_
 refine RL.asg rfl rfl rfl ?_
 refine RL.finG ?_
 refine GL.cond rfl (fun b23 => ?_) (fun b23 => ?_)
 ·replace h16 := ite_t b23 h16
  refine GL.seq ?_
  refine GL.region ?_
  refine RL.mv rfl rfl rfl ?_
  refine RL.mv rfl rfl rfl ?_
  obtain ⟨y27, e28, h16⟩ := bind_some h16
  refine RL.call (vs := [v1, .int .i64 x2, .int .i64 (1 : Int)]) Try_fit41 rfl rfl rfl rfl rfl (fun S f w hS hW hi => seats_divided_c S w hS _ _ (hi 0 _ rfl) x2 (1 : Int) _ e28) ?_
  intro v29
  refine RL.asg rfl rfl rfl ?_
  refine RL.asg rfl rfl rfl ?_
  refine RL.finG ?_
  have h16 := Option.some.inj h16
  subst h16
  exact GL.ret (Gx.ret (v := .tuple #[v29, .int .i64 (0 : Int)]) (res2 rfl rfl rfl) (fun a w st => (st.pick [1] (by decide) rfl).toPost v29))
 replace h16 := ite_f b23 h16
 refine GL.seq ?_
 refine GL.region ?_
 refine RL.binI (v := .bool (x0 == (2 : Int))) rfl rfl rfl rfl rfl ?_
 refine RL.asg rfl rfl rfl ?_
 refine RL.finG ?_
 refine GL.cond rfl (fun b30 => ?_) (fun b30 => ?_)
 ·replace h16 := ite_t b30 h16
  refine GL.seq ?_
  refine GL.region ?_
  refine RL.mv rfl rfl rfl ?_
  refine RL.mv rfl rfl rfl ?_
  obtain ⟨y34, e35, h16⟩ := bind_some h16
  refine RL.call (vs := [v1, .int .i64 x2, .int .i64 (2 : Int)]) Try_fit41 rfl rfl rfl rfl rfl (fun S f w hS hW hi => seats_divided_c S w hS _ _ (hi 0 _ rfl) x2 (2 : Int) _ e35) ?_
  intro v36
  refine RL.asg rfl rfl rfl ?_
  refine RL.asg rfl rfl rfl ?_
  refine RL.finG ?_
  have h16 := Option.some.inj h16
  subst h16
  exact GL.ret (Gx.ret (v := .tuple #[v36, .int .i64 (0 : Int)]) (res2 rfl rfl rfl) (fun a w st => (st.pick [1] (by decide) rfl).toPost v36))
 replace h16 := ite_f b30 h16
 refine GL.skip ?_
 refine GL.nilB ?_
 refine GL.seq ?_
 refine GL.region ?_
 refine RL.asg rfl rfl rfl ?_
 refine RL.finG ?_
 refine GL.seq ?_
 refine GL.seq ?_
 refine GL.region ?_
 refine RL.mv rfl rfl rfl ?_
 refine RL.lenS 0 Try.underlying22 rfl rfl rfl rfl SlOf.imm ?_
 refine RL.mv rfl rfl rfl ?_
 refine RL.finG ?_
 refine GL.open_ 0 rfl (fun S h => len_imm S h) (fun n42 => ?_)
 obtain ⟨y43, K44, h45, h46, h47, h48, h49⟩ := bindR_K h16
 refine GL.join (ι := Int) (fun (p : Int) => [(1, v1), (2, .int .i64 x2), (9, .int .i64 p)]) (fun (p : Int) => [imm (TR.sl TR.int) v1 x1]) (fun (p : Int) => K44 (.nx p)) ?_ ?_
 ·refine GL.block ?_
  refine GL.loop (ι := Nat × (List Int) × Int) (fun (p : Nat × (List Int) × Int) => [(1, v1), (2, .int .i64 x2), (9, .int .i64 p.2.2), (42, v1), (43, .int .i64 ((x1).length : Int)), (44, .int .i64 (p.1 : Int))]) (fun (p : Nat × (List Int) × Int) => [imm (TR.sl TR.int) v1 x1]) (fun (p : Nat × (List Int) × Int) => p.1 + p.2.1.length = (x1).length ∧ List.drop p.1 x1 = p.2.1 ∧ rangeL seats_Share_b1 p.2.1 p.1 p.2.2 = some y43) (fun (p : Nat × (List Int) × Int) => p.2.1.length) (0, x1, (0 : Int)) ⟨by simp, by simp, h45⟩ (fun a w st => St.cut [0] ⟨rfl, rfl, rfl, rfl, rfl, rfl, trivial⟩ (by decide) rfl st) ?_
  rintro ⟨i50, r51, x37⟩ ⟨h56, h57, h55⟩
  try dsimp only at h56 h57 h55
  refine GL.weak (env' := [(1, v1), (2, .int .i64 x2), (9, .int .i64 x37), (42, v1), (43, .int .i64 ((x1).length : Int)), (44, .int .i64 (i50 : Int))]) (L' := [imm (TR.sl TR.int) v1 x1]) (fun _ _ st => st) ?_
  refine GL.seq ?_
  refine GL.region ?_
  refine RL.binI (v := .bool (decide ((i50 : Int) < ((x1).length : Int)))) rfl rfl rfl rfl rfl ?_
  refine RL.finG ?_
  refine GL.seq ?_
  refine GL.cond rfl (fun b58 => ?_) (fun b58 => ?_)
  ·have h59 : i50 < (x1).length := by have := of_decide_eq_true b58; omega
   obtain ⟨y60, r62, hr, e61, h63⟩ := drop_cons h57 rfl h59
   subst hr
   obtain ⟨z52, h53, h54⟩ := rangeL_some h55
   unfold seats_Share_b1 at h53
   try dsimp only at h53
   refine GL.skip ?_
   refine GL.seq ?_
   refine GL.block ?_
   refine GL.seq ?_
   refine GL.region ?_
   refine RL.idxS (sz := 1) 0 Try.underlying22 Try_ln3 rfl rfl rfl rfl rfl SlOf.imm (by omega) (by omega) ?_
   refine RL.ldSx (i := i50) (e' := y60) 0 Ex.ik Try_ln3 rfl rfl rfl rfl SlOf.imm e61 Part.self ?_
   refine RL.asg rfl rfl rfl ?_
   refine RL.finG ?_
   refine GL.region ?_
   refine RL.mv rfl rfl rfl ?_
   refine RL.mv rfl rfl rfl ?_
   refine RL.binI (v := .int .i64 (wadd x37 y60)) rfl rfl rfl rfl rfl ?_
   refine RL.asg rfl rfl rfl ?_
   refine RL.finG ?_
   refine GL.nilB ?_
   refine GL.region ?_
   refine RL.binI (v := .int .i64 ((i50 + 1 : Nat) : Int)) rfl rfl rfl rfl (binI_succ i50 (by omega)) ?_
   refine RL.mv rfl rfl rfl ?_
   refine RL.fin ?_
   cases h53
   exact fun a w st => lop_intro (i50 + 1, r62, wadd x37 y60) ⟨by show i50 + 1 + r62.length = (x1).length; simp only [List.length_cons] at h56; omega, h63, h54⟩ (by simp) (St.cut [0] ⟨rfl, rfl, rfl, rfl, rfl, rfl, trivial⟩ (by decide) rfl st)
  have h59 : ¬ i50 < (x1).length := by have := of_decide_eq_false b58; omega
  obtain rfl : r51 = [] := by rw [← h57]; exact List.drop_of_length_le (by omega)
  replace h55 : some (Fl.nx _) = some y43 := h55
  cases h55
  exact GL.exit (fun a w st => mid_intro x37 h46 (St.cut [0] ⟨rfl, rfl, rfl, trivial⟩ (by decide) rfl st))
 rintro x37 h64
 have h65 := h47 _ h64
 try dsimp only at h65
 refine GL.weak (env' := [(1, v1), (2, .int .i64 x2), (9, .int .i64 x37)]) (L' := [imm (TR.sl TR.int) v1 x1]) (fun _ _ st => st) ?_
 refine GL.seq ?_
 refine GL.region ?_
 refine RL.mv rfl rfl rfl ?_
 refine RL.lenS 0 Try.underlying22 rfl rfl rfl rfl SlOf.imm ?_
 obtain ⟨y69, e70, h65⟩ := bind_some h65
 replace e70 := chk_some e70
 refine RL.mkS (t := TR.int) (z := (0 : Int)) Try.underlying22 Try_lo3 (fun S => rfl) rfl rfl rfl rfl e70.1 e70.2 ?_
 intro v71
 refine RL.asg rfl rfl rfl ?_
 refine RL.finG ?_
 refine GL.seq ?_
 refine GL.region ?_
 refine RL.mv rfl rfl rfl ?_
 refine RL.lenS 0 Try.underlying22 rfl rfl rfl rfl SlOf.imm ?_
 obtain ⟨y75, e76, h65⟩ := bind_some h65
 replace e76 := chk_some e76
 refine RL.mkS (t := TR.int) (z := (0 : Int)) Try.underlying22 Try_lo3 (fun S => rfl) rfl rfl rfl rfl e76.1 e76.2 ?_
 intro v77
 refine RL.reL (L' := [imm (TR.sl TR.int) v1 x1, own 3 TR.int v71 (List.replicate (((x1).length : Int)).toNat (0 : Int)), own 3 TR.int v77 (List.replicate (((x1).length : Int)).toNat (0 : Int))]) rfl ?_
 refine RL.asg rfl rfl rfl ?_
 refine RL.finG ?_
 refine GL.seq ?_
 refine GL.region ?_
 refine RL.mv rfl rfl rfl ?_
 refine RL.asg rfl rfl rfl ?_
 refine RL.finG ?_
 refine GL.seq ?_
 refine GL.seq ?_
 refine GL.region ?_
 refine RL.mv rfl rfl rfl ?_
 refine RL.lenS 0 Try.underlying22 rfl rfl rfl rfl SlOf.imm ?_
 refine RL.mv rfl rfl rfl ?_
 refine RL.finG ?_
 refine GL.open_ 0 rfl (fun S h => len_imm S h) (fun n130 => ?_)
 obtain ⟨y131, K132, h133, h134, h135, h136, h137⟩ := bindR_K h65
 refine GL.join (ι := (List Int) × (List Int) × Int) (fun (p : (List Int) × (List Int) × Int) => [(12, v71), (13, v77), (14, .int .i64 p.2.2)]) (fun (p : (List Int) × (List Int) × Int) => [own 3 TR.int v71 p.1, own 3 TR.int v77 p.2.1]) (fun (p : (List Int) × (List Int) × Int) => K132 (.nx (p.1, p.2.1, p.2.2))) ?_ ?_
 ·refine GL.block ?_
  refine GL.loop (ι := Nat × (List Int) × (List Int) × (List Int) × Int) (fun (p : Nat × (List Int) × (List Int) × (List Int) × Int) => [(2, .int .i64 x2), (9, .int .i64 x37), (12, v71), (13, v77), (14, .int .i64 p.2.2.2.2), (59, v1), (60, .int .i64 ((x1).length : Int)), (61, .int .i64 (p.1 : Int))]) (fun (p : Nat × (List Int) × (List Int) × (List Int) × Int) => [own 3 TR.int v71 p.2.2.1, own 3 TR.int v77 p.2.2.2.1, imm (TR.sl TR.int) v1 x1]) (fun (p : Nat × (List Int) × (List Int) × (List Int) × Int) => p.1 + p.2.1.length = (x1).length ∧ List.drop p.1 x1 = p.2.1 ∧ rangeL (seats_Share_b2 x37 x2) p.2.1 p.1 (p.2.2.1, p.2.2.2.1, p.2.2.2.2) = some y131) (fun (p : Nat × (List Int) × (List Int) × (List Int) × Int) => p.2.1.length) (0, x1, (List.replicate (((x1).length : Int)).toNat (0 : Int)), (List.replicate (((x1).length : Int)).toNat (0 : Int)), x2) ⟨by simp, by simp, h133⟩ (fun a w st => St.cut [1, 2, 0] ⟨rfl, rfl, rfl, rfl, rfl, rfl, rfl, rfl, trivial⟩ (by decide) rfl st) ?_
  rintro ⟨i138, r139, l103, l104, x105⟩ ⟨h144, h145, h143⟩
  try dsimp only at h144 h145 h143
  refine GL.weak (env' := [(2, .int .i64 x2), (9, .int .i64 x37), (12, v71), (13, v77), (14, .int .i64 x105), (59, v1), (60, .int .i64 ((x1).length : Int)), (61, .int .i64 (i138 : Int))]) (L' := [own 3 TR.int v71 l103, own 3 TR.int v77 l104, imm (TR.sl TR.int) v1 x1]) (fun _ _ st => st) ?_
  refine GL.seq ?_
  refine GL.region ?_
  refine RL.binI (v := .bool (decide ((i138 : Int) < ((x1).length : Int)))) rfl rfl rfl rfl rfl ?_
  refine RL.finG ?_
  refine GL.seq ?_
  refine GL.cond rfl (fun b146 => ?_) (fun b146 => ?_)
  ·have h147 : i138 < (x1).length := by have := of_decide_eq_true b146; omega
   obtain ⟨y148, r150, hr, e149, h151⟩ := drop_cons h145 rfl h147
   subst hr
   obtain ⟨z140, h141, h142⟩ := rangeL_some h143
   unfold seats_Share_b2 at h141
   try dsimp only at h141
   refine GL.skip ?_
   refine GL.seq ?_
   refine GL.block ?_
   refine GL.seq ?_
   refine GL.region ?_
   refine RL.mv rfl rfl rfl ?_
   refine RL.idxS (sz := 1) 2 Try.underlying22 Try_ln3 rfl rfl rfl rfl rfl SlOf.imm (by omega) (by omega) ?_
   refine RL.ldSx (i := i138) (e' := y148) 2 Ex.ik Try_ln3 rfl rfl rfl rfl SlOf.imm e149 Part.self ?_
   refine RL.asg rfl rfl rfl ?_
   refine RL.asg rfl rfl rfl ?_
   refine RL.finG ?_
   refine GL.seq ?_
   refine GL.regionA rfl rfl ?_
   refine RA.mv 0 rfl (by kernel_rfl) rfl rfl rfl ?_
   refine RA.mv 1 rfl (by kernel_rfl) rfl rfl rfl ?_
   refine RA.mv 2 rfl (by kernel_rfl) rfl rfl rfl ?_
   refine RA.mv 3 rfl (by kernel_rfl) rfl rfl rfl ?_
   refine RA.mv 4 rfl (by kernel_rfl) rfl rfl rfl ?_
   refine RA.mv 5 rfl (by kernel_rfl) rfl rfl rfl ?_
   refine RA.binI (v := .int .i64 (wmul y148 x2)) 6 rfl (by kernel_rfl) rfl rfl rfl rfl rfl ?_
   refine RA.mv 7 rfl (by kernel_rfl) rfl rfl rfl ?_
   obtain ⟨y160, e161, h141⟩ := bind_some h141
   replace e161 := chk_some e161
   refine RA.quo 8 rfl (by kernel_rfl) rfl rfl rfl rfl e161 ?_
   refine RA.mv 9 rfl (by kernel_rfl) rfl rfl rfl ?_
   refine RA.mv 10 rfl (by kernel_rfl) rfl rfl rfl ?_
   refine RA.binI (v := .int .i64 (wmul y148 x2)) 11 rfl (by kernel_rfl) rfl rfl rfl rfl rfl ?_
   refine RA.mv 12 rfl (by kernel_rfl) rfl rfl rfl ?_
   obtain ⟨y162, e163, h141⟩ := bind_some h141
   replace e163 := chk_some e163
   refine RA.rem 13 rfl (by kernel_rfl) rfl rfl rfl rfl e163 ?_
   obtain ⟨y164, e165, h141⟩ := bind_some h141
   refine RA.idxS (sz := 1) 0 Try.underlying22 Try_ln3 14 rfl (by kernel_rfl) rfl rfl rfl rfl rfl SlOf.own (idx_some e165).1 (idx_some e165).2.1 ?_
   refine RA.seq 15 rfl (by kernel_rfl) ?_
   refine RL.stS (i := i138) (e' := IntKind.wrap .i64 (Int.tdiv (wmul y148 x2) x37)) (e1 := IntKind.wrap .i64 (Int.tdiv (wmul y148 x2) x37)) (r := TR.int) 0 Try_ln3 rfl rfl rfl rfl VR.int rfl (idx_some e165).2.2 Upd.self ?_
   refine RL.fin ?_
   refine RA.next ?_
   obtain ⟨y166, e167, h141⟩ := bind_some h141
   refine RA.idxS (sz := 1) 1 Try.underlying22 Try_ln3 16 rfl (by kernel_rfl) rfl rfl rfl rfl rfl SlOf.own (idx_some e167).1 (idx_some e167).2.1 ?_
   refine RA.seq 17 rfl (by kernel_rfl) ?_
   refine RL.stS (i := i138) (e' := Int.tmod (wmul y148 x2) x37) (e1 := Int.tmod (wmul y148 x2) x37) (r := TR.int) 1 Try_ln3 rfl rfl rfl rfl VR.int rfl (idx_some e167).2.2 Upd.self ?_
   refine RL.fin ?_
   refine RA.next ?_
   refine RA.doneG (by kernel_rfl) ?_
   refine GL.weak (env' := [(2, .int .i64 x2), (9, .int .i64 x37), (12, v71), (13, v77), (14, .int .i64 x105), (15, .int .i64 (i138 : Int)), (59, v1), (60, .int .i64 ((x1).length : Int)), (61, .int .i64 (i138 : Int))]) (L' := [own 3 TR.int v71 (List.set l103 i138 (IntKind.wrap .i64 (Int.tdiv (wmul y148 x2) x37))), own 3 TR.int v77 (List.set l104 i138 (Int.tmod (wmul y148 x2) x37)), imm (TR.sl TR.int) v1 x1]) (fun a w st => St.cut [0, 1, 2] ⟨rfl, rfl, rfl, rfl, rfl, rfl, rfl, rfl, rfl, trivial⟩ (by decide) rfl st) ?_
   refine GL.region ?_
   refine RL.mv rfl rfl rfl ?_
   refine RL.mv rfl rfl rfl ?_
   refine RL.mv rfl rfl rfl ?_
   obtain ⟨y170, e171, h141⟩ := bind_some h141
   refine RL.idxS (sz := 1) 0 Try.underlying22 Try_ln3 rfl rfl rfl rfl rfl SlOf.own (idx_some e171).1 (idx_some e171).2.1 ?_
   refine RL.ldSx (i := i138) (e' := y170) 0 Ex.ik Try_ln3 rfl rfl rfl rfl SlOf.own (idx_some e171).2.2 Part.self ?_
   refine RL.binI (v := .int .i64 (wsub x105 y170)) rfl rfl rfl rfl rfl ?_
   refine RL.asg rfl rfl rfl ?_
   refine RL.finG ?_
   refine GL.nilB ?_
   refine GL.region ?_
   refine RL.binI (v := .int .i64 ((i138 + 1 : Nat) : Int)) rfl rfl rfl rfl (binI_succ i138 (by omega)) ?_
   refine RL.mv rfl rfl rfl ?_
   refine RL.fin ?_
   cases h141
   exact fun a w st => lop_intro (i138 + 1, r150, (List.set l103 i138 (IntKind.wrap .i64 (Int.tdiv (wmul y148 x2) x37))), (List.set l104 i138 (Int.tmod (wmul y148 x2) x37)), wsub x105 y170) ⟨by show i138 + 1 + r150.length = (x1).length; simp only [List.length_cons] at h144; omega, h151, h142⟩ (by simp) (St.cut [0, 1, 2] ⟨rfl, rfl, rfl, rfl, rfl, rfl, rfl, rfl, trivial⟩ (by decide) rfl st)
  have h147 : ¬ i138 < (x1).length := by have := of_decide_eq_false b146; omega
  obtain rfl : r139 = [] := by rw [← h145]; exact List.drop_of_length_le (by omega)
  replace h143 : some (Fl.nx _) = some y131 := h143
  cases h143
  exact GL.exit (fun a w st => mid_intro (l103, l104, x105) h134 (St.cut [0, 1] ⟨rfl, rfl, rfl, trivial⟩ (by decide) rfl st))
 rintro ⟨l103, l104, x105⟩ h172
 have h173 := h135 _ h172
 try dsimp only at h173
 refine GL.weak (env' := [(12, v71), (13, v77), (14, .int .i64 x105)]) (L' := [own 3 TR.int v71 l103, own 3 TR.int v77 l104]) (fun _ _ st => st) ?_
 refine GL.seq ?_
 refine GL.seq ?_
 refine GL.region ?_
 refine RL.mv rfl rfl rfl ?_
 refine RL.mv rfl rfl rfl ?_
 refine RL.finG ?_
 obtain ⟨y281, e282, h173⟩ := bind_some h173
 replace e282 := chk_some e282
 obtain ⟨y283, K284, h285, h286, h287, h288, h289⟩ := bindR_K h173
 refine GL.join (ι := (List Int) × (List Int)) (fun (p : (List Int) × (List Int)) => [(12, v71)]) (fun (p : (List Int) × (List Int)) => [own 3 TR.int v71 p.1]) (fun (p : (List Int) × (List Int)) => K284 (.nx (p.1, p.2))) ?_ ?_
 ·refine GL.block ?_
  refine GL.loop (ι := Nat × Nat × (List Int) × (List Int)) (fun (p : Nat × Nat × (List Int) × (List Int)) => [(12, v71), (13, v77), (89, .int .i64 x105), (90, .int .i64 (p.1 : Int))]) (fun (p : Nat × Nat × (List Int) × (List Int)) => [own 3 TR.int v71 p.2.2.1, own 3 TR.int v77 p.2.2.2]) (fun (p : Nat × Nat × (List Int) × (List Int)) => p.1 + p.2.1 = (x105).toNat ∧ rangeN seats_Share_b3 p.2.1 p.1 (p.2.2.1, p.2.2.2) = some y283) (fun (p : Nat × Nat × (List Int) × (List Int)) => p.2.1) (0, (x105).toNat, l103, l104) ⟨by simp, h285⟩ (fun a w st => St.cut [0, 1] ⟨rfl, rfl, rfl, rfl, trivial⟩ (by decide) rfl st) ?_
  rintro ⟨i290, r291, l226, l227⟩ ⟨h296, h295⟩
  try dsimp only at h296 h295
  refine GL.weak (env' := [(12, v71), (13, v77), (89, .int .i64 x105), (90, .int .i64 (i290 : Int))]) (L' := [own 3 TR.int v71 l226, own 3 TR.int v77 l227]) (fun _ _ st => st) ?_
  refine GL.seq ?_
  refine GL.region ?_
  refine RL.binI (v := .bool (decide ((i290 : Int) < x105))) rfl rfl rfl rfl rfl ?_
  refine RL.finG ?_
  refine GL.seq ?_
  refine GL.cond rfl (fun b298 => ?_) (fun b298 => ?_)
  ·have h299 : i290 < (x105).toNat := by have := of_decide_eq_true b298; omega
   obtain ⟨r300, hr⟩ : ∃ m, r291 = m + 1 := ⟨r291 - 1, by omega⟩
   subst hr
   obtain ⟨z292, h293, h294⟩ := rangeN_some h295
   unfold seats_Share_b3 at h293
   try dsimp only at h293
   refine GL.skip ?_
   refine GL.seq ?_
   refine GL.block ?_
   refine GL.seq ?_
   refine GL.region ?_
   refine RL.asg rfl rfl rfl ?_
   refine RL.finG ?_
   refine GL.seq ?_
   refine GL.seq ?_
   refine GL.region ?_
   refine RL.mv rfl rfl rfl ?_
   refine RL.lenS 1 Try.underlying22 rfl rfl rfl rfl SlOf.own ?_
   refine RL.mv rfl rfl rfl ?_
   refine RL.finG ?_
   refine GL.lenOwn 1 rfl (fun n311 => ?_)
   obtain ⟨y312, K313, h314, h315, h316, h317, h318⟩ := bindF_K h293
   refine GL.join (ι := Int) (fun (p : Int) => [(12, v71), (13, v77), (17, .int .i64 p), (89, .int .i64 x105), (90, .int .i64 (i290 : Int))]) (fun (p : Int) => [own 3 TR.int v71 l226, own 3 TR.int v77 l227]) (fun (p : Int) => K313 (.nx p)) ?_ ?_
   ·refine GL.block ?_
    refine GL.loop (ι := Nat × Nat × Int) (fun (p : Nat × Nat × Int) => [(12, v71), (13, v77), (17, .int .i64 p.2.2), (89, .int .i64 x105), (90, .int .i64 (i290 : Int)), (93, .int .i64 ((l227).length : Int)), (94, .int .i64 (p.1 : Int))]) (fun (p : Nat × Nat × Int) => [own 3 TR.int v71 l226, own 3 TR.int v77 l227]) (fun (p : Nat × Nat × Int) => p.1 + p.2.1 = (l227).length ∧ rangeN (seats_Share_b4 l227) p.2.1 p.1 p.2.2 = some y312) (fun (p : Nat × Nat × Int) => p.2.1) (0, (l227).length, (0 : Int)) ⟨by simp, h314⟩ (fun a w st => St.cut [0, 1] ⟨rfl, rfl, rfl, rfl, rfl, rfl, rfl, trivial⟩ (by decide) rfl st) ?_
    rintro ⟨i319, r320, x301⟩ ⟨h325, h324⟩
    try dsimp only at h325 h324
    refine GL.weak (env' := [(12, v71), (13, v77), (17, .int .i64 x301), (89, .int .i64 x105), (90, .int .i64 (i290 : Int)), (93, .int .i64 ((l227).length : Int)), (94, .int .i64 (i319 : Int))]) (L' := [own 3 TR.int v71 l226, own 3 TR.int v77 l227]) (fun _ _ st => st) ?_
    refine GL.seq ?_
    refine GL.region ?_
    refine RL.binI (v := .bool (decide ((i319 : Int) < ((l227).length : Int)))) rfl rfl rfl rfl rfl ?_
    refine RL.finG ?_
    refine GL.seq ?_
    refine GL.cond rfl (fun b327 => ?_) (fun b327 => ?_)
    ·have h328 : i319 < (l227).length := by have := of_decide_eq_true b327; omega
     obtain ⟨r329, hr⟩ : ∃ m, r320 = m + 1 := ⟨r320 - 1, by omega⟩
     subst hr
     obtain ⟨z321, h322, h323⟩ := rangeN_some h324
     unfold seats_Share_b4 at h322
     try dsimp only at h322
     refine GL.skip ?_
     refine GL.seq ?_
     refine GL.block ?_
     refine GL.seq ?_
     refine GL.region ?_
     refine RL.mv rfl rfl rfl ?_
     refine RL.asg rfl rfl rfl ?_
     refine RL.finG ?_
     refine GL.seq ?_
     refine GL.regionQ rfl rfl (by kernel_rfl) ?_
     refine RL.mv rfl rfl rfl ?_
     refine RL.mv rfl rfl rfl ?_
     obtain ⟨y334, e335, h322⟩ := bind_some h322
     refine RL.idxS (sz := 1) 1 Try.underlying22 Try_ln3 rfl rfl rfl rfl rfl SlOf.own (idx_some e335).1 (idx_some e335).2.1 ?_
     refine RL.ldSx (i := i319) (e' := y334) 1 Ex.ik Try_ln3 rfl rfl rfl rfl SlOf.own (idx_some e335).2.2 Part.self ?_
     refine RL.mv rfl rfl rfl ?_
     refine RL.mv rfl rfl rfl ?_
     obtain ⟨y336, e337, h322⟩ := bind_some h322
     refine RL.idxS (sz := 1) 1 Try.underlying22 Try_ln3 rfl rfl rfl rfl rfl SlOf.own (idx_some e337).1 (idx_some e337).2.1 ?_
     refine RL.ldSx (i := (x301).toNat) (e' := y336) 1 Ex.ik Try_ln3 rfl rfl rfl rfl SlOf.own (idx_some e337).2.2 Part.self ?_
     refine RL.binI (v := .bool (decide (y334 > y336))) rfl rfl rfl rfl rfl ?_
     refine RL.finQG ?_
     refine GL.cond rfl (fun b338 => ?_) (fun b338 => ?_)
     ·replace h322 := ite_t b338 h322
      refine GL.region ?_
      refine RL.mv rfl rfl rfl ?_
      refine RL.asg rfl rfl rfl ?_
      refine RL.finG ?_
      refine GL.nilB ?_
      refine GL.region ?_
      refine RL.binI (v := .int .i64 ((i319 + 1 : Nat) : Int)) rfl rfl rfl rfl (binI_succ i319 (by omega)) ?_
      refine RL.mv rfl rfl rfl ?_
      refine RL.fin ?_
      cases h322
      exact fun a w st => lop_intro (i319 + 1, r329, (i319 : Int)) ⟨by show i319 + 1 + r329 = (l227).length; omega, h323⟩ (by simp) (St.cut [0, 1] ⟨rfl, rfl, rfl, rfl, rfl, rfl, rfl, trivial⟩ (by decide) rfl st)
     replace h322 := ite_f b338 h322
     refine GL.skip ?_
     refine GL.nilB ?_
     refine GL.region ?_
     refine RL.binI (v := .int .i64 ((i319 + 1 : Nat) : Int)) rfl rfl rfl rfl (binI_succ i319 (by omega)) ?_
     refine RL.mv rfl rfl rfl ?_
     refine RL.fin ?_
     cases h322
     exact fun a w st => lop_intro (i319 + 1, r329, x301) ⟨by show i319 + 1 + r329 = (l227).length; omega, h323⟩ (by simp) (St.cut [0, 1] ⟨rfl, rfl, rfl, rfl, rfl, rfl, rfl, trivial⟩ (by decide) rfl st)
    have h328 : ¬ i319 < (l227).length := by have := of_decide_eq_false b327; omega
    obtain rfl : r320 = 0 := by omega
    replace h324 : some (Fl.nx _) = some y312 := h324
    cases h324
    exact GL.exit (fun a w st => mid_intro x301 h315 (St.cut [0, 1] ⟨rfl, rfl, rfl, rfl, rfl, trivial⟩ (by decide) rfl st))
   rintro x301 h339
   have h340 := h316 _ h339
   try dsimp only at h340
   refine GL.weak (env' := [(12, v71), (13, v77), (17, .int .i64 x301), (89, .int .i64 x105), (90, .int .i64 (i290 : Int))]) (L' := [own 3 TR.int v71 l226, own 3 TR.int v77 l227]) (fun _ _ st => st) ?_
   refine GL.seq ?_
   refine GL.region ?_
   refine RL.mv rfl rfl rfl ?_
   refine RL.mv rfl rfl rfl ?_
   obtain ⟨y345, e346, h340⟩ := bind_some h340
   refine RL.idxS (sz := 1) 0 Try.underlying22 Try_ln3 rfl rfl rfl rfl rfl SlOf.own (idx_some e346).1 (idx_some e346).2.1 ?_
   refine RL.ldSx (i := (x301).toNat) (e' := y345) 0 Ex.ik Try_ln3 rfl rfl rfl rfl SlOf.own (idx_some e346).2.2 Part.self ?_
   refine RL.binI (v := .int .i64 (wadd y345 (1 : Int))) rfl rfl rfl rfl rfl ?_
   obtain ⟨y347, e348, h340⟩ := bind_some h340
   refine RL.idxS (sz := 1) 0 Try.underlying22 Try_ln3 rfl rfl rfl rfl rfl SlOf.own (idx_some e348).1 (idx_some e348).2.1 ?_
   refine RL.stS (i := (x301).toNat) (e' := wadd y345 (1 : Int)) (e1 := wadd y345 (1 : Int)) (r := TR.int) 0 Try_ln3 rfl rfl rfl rfl VR.int rfl (idx_some e348).2.2 Upd.self ?_
   refine RL.finG ?_
   refine GL.region ?_
   refine RL.mv rfl rfl rfl ?_
   refine RL.mv rfl rfl rfl ?_
   obtain ⟨y351, e352, h340⟩ := bind_some h340
   refine RL.idxS (sz := 1) 1 Try.underlying22 Try_ln3 rfl rfl rfl rfl rfl SlOf.own (idx_some e352).1 (idx_some e352).2.1 ?_
   refine RL.stS (i := (x301).toNat) (e' := (-1 : Int)) (e1 := (-1 : Int)) (r := TR.int) 1 Try_ln3 rfl rfl rfl rfl VR.int rfl (idx_some e352).2.2 Upd.self ?_
   refine RL.reL (L' := [own 3 TR.int v71 (List.set l226 ((x301).toNat) (wadd y345 (1 : Int))), own 3 TR.int v77 (List.set l227 ((x301).toNat) (-1 : Int))]) rfl ?_
   refine RL.finG ?_
   refine GL.nilB ?_
   refine GL.region ?_
   refine RL.binI (v := .int .i64 ((i290 + 1 : Nat) : Int)) rfl rfl rfl rfl (binI_succ i290 (by omega)) ?_
   refine RL.mv rfl rfl rfl ?_
   refine RL.fin ?_
   cases h340
   exact fun a w st => lop_intro (i290 + 1, r300, (List.set l226 ((x301).toNat) (wadd y345 (1 : Int))), (List.set l227 ((x301).toNat) (-1 : Int))) ⟨by show i290 + 1 + r300 = (x105).toNat; omega, h294⟩ (by simp) (St.cut [0, 1] ⟨rfl, rfl, rfl, rfl, trivial⟩ (by decide) rfl st)
  have h299 : ¬ i290 < (x105).toNat := by have := of_decide_eq_false b298; omega
  obtain rfl : r291 = 0 := by omega
  replace h295 : some (Fl.nx _) = some y283 := h295
  cases h295
  exact GL.exit (fun a w st => mid_intro (l226, l227) h286 (St.cut [0] ⟨rfl, trivial⟩ (by decide) rfl st))
 rintro ⟨l226, l227⟩ h353
 have h354 := h287 _ h353
 try dsimp only at h354
 refine GL.weak (env' := [(12, v71)]) (L' := [own 3 TR.int v71 l226]) (fun _ _ st => st) ?_
 refine GL.seq ?_
 refine GL.region ?_
 refine RL.mv rfl rfl rfl ?_
 refine RL.asg rfl rfl rfl ?_
 refine RL.asg rfl rfl rfl ?_
 refine RL.finG ?_
 have h354 := Option.some.inj h354
 subst h354
 exact GL.ret (Gx.ret (v := .tuple #[v71, .int .i64 (0 : Int)]) (res2 rfl rfl rfl) (fun a w st => (st.pick [0] (by decide) rfl).toPost v71))

set_option maxHeartbeats 4000000 in
theorem auction_Check_c (S : Hp) (w : World) (hS : S.sub w) (v0 : Value) (x0 : (List Int)) (k0 : ((TR.sl TR.int)).vrep S v0 x0) (x1 : Int) (res : Int) (hm : auction_Check_m x0 x1 = some res) : Calls Try.prog 42 #[v0, .int .i64 x1] w (PostC w (.int .i64 res)) := by
 refine calls_enter 29 Try.func42 Try.ntmps42 rfl S true [(0, v0), (1, .int .i64 x1)] [imm (TR.sl TR.int) v0 x0] rfl ⟨rfl, ⟨rfl, trivial⟩⟩ hS ⟨k0, trivial⟩ ?_
 unfold auction_Check_m at hm
 refine GL.seq ?_
 refine GL.region ?_
 refine RL.asg rfl rfl rfl ?_
 refine RL.finG ?_
 refine GL.seq ?_
 refine GL.seq ?_
 refine GL.region ?_
 refine RL.mv rfl rfl rfl ?_
 refine RL.lenS 0 Try.underlying22 rfl rfl rfl rfl SlOf.imm ?_
 refine RL.binI (v := .bool (decide (((x0).length : Int) > (10 : Int)))) rfl rfl rfl rfl rfl ?_
 refine RL.finG ?_
 refine GL.cond rfl (fun b3 => ?_) (fun b3 => ?_)
 ·replace hm := ite_t b3 hm
  refine GL.seq ?_
  refine GL.region ?_
  refine RL.asg rfl rfl rfl ?_
  refine RL.finG ?_
  have hm := Option.some.inj hm
  subst hm
  exact GL.ret (Gx.ret (v := .int .i64 (2 : Int)) (res1 rfl rfl) (fun a w st => st.toPostC rfl))
 replace hm := ite_f b3 hm
 refine GL.skip ?_
 refine GL.seq ?_
 refine GL.seq ?_
 refine GL.region ?_
 refine RL.mv rfl rfl rfl ?_
 refine RL.lenS 0 Try.underlying22 rfl rfl rfl rfl SlOf.imm ?_
 refine RL.mv rfl rfl rfl ?_
 refine RL.finG ?_
 refine GL.open_ 0 rfl (fun S h => len_imm S h) (fun n22 => ?_)
 obtain ⟨y23, K24, h25, h26, h27, h28, h29⟩ := bindR_K hm
 refine GL.join (ι := Unit) (fun (p : Unit) => [(1, .int .i64 x1)]) (fun (p : Unit) => []) (fun (p : Unit) => K24 (.nx ())) ?_ ?_
 ·refine GL.block ?_
  refine GL.loop (ι := Nat × (List Int)) (fun (p : Nat × (List Int)) => [(1, .int .i64 x1), (10, v0), (11, .int .i64 ((x0).length : Int)), (12, .int .i64 (p.1 : Int))]) (fun (p : Nat × (List Int)) => [imm (TR.sl TR.int) v0 x0]) (fun (p : Nat × (List Int)) => p.1 + p.2.length = (x0).length ∧ List.drop p.1 x0 = p.2 ∧ rangeL auction_Check_b1 p.2 p.1 () = some y23) (fun (p : Nat × (List Int)) => p.2.length) (0, x0) ⟨by simp, by simp, h25⟩ (fun a w st => St.cut [0] ⟨rfl, rfl, rfl, rfl, trivial⟩ (by decide) rfl st) ?_
  rintro ⟨i30, r31⟩ ⟨h36, h37, h35⟩
  try dsimp only at h36 h37 h35
  refine GL.weak (env' := [(1, .int .i64 x1), (10, v0), (11, .int .i64 ((x0).length : Int)), (12, .int .i64 (i30 : Int))]) (L' := [imm (TR.sl TR.int) v0 x0]) (fun _ _ st => st) ?_
  refine GL.seq ?_
  refine GL.region ?_
  refine RL.binI (v := .bool (decide ((i30 : Int) < ((x0).length : Int)))) rfl rfl rfl rfl rfl ?_
  refine RL.finG ?_
  refine GL.seq ?_
  refine GL.cond rfl (fun b38 => ?_) (fun b38 => ?_)
  ·have h39 : i30 < (x0).length := by have := of_decide_eq_true b38; omega
   obtain ⟨y40, r42, hr, e41, h43⟩ := drop_cons h37 rfl h39
   subst hr
   obtain ⟨z32, h33, h34⟩ := rangeL_some h35
   unfold auction_Check_b1 at h33
   try dsimp only at h33
   refine GL.skip ?_
   refine GL.seq ?_
   refine GL.block ?_
   refine GL.seq ?_
   refine GL.region ?_
   refine RL.idxS (sz := 1) 0 Try.underlying22 Try_ln3 rfl rfl rfl rfl rfl SlOf.imm (by omega) (by omega) ?_
   refine RL.ldSx (i := i30) (e' := y40) 0 Ex.ik Try_ln3 rfl rfl rfl rfl SlOf.imm e41 Part.self ?_
   refine RL.asg rfl rfl rfl ?_
   refine RL.finG ?_
   refine GL.seq ?_
   obtain ⟨y47, K48, h49, h50, h51, h52, h53⟩ := bindF_K h33
   refine GL.join (ι := Bool) (fun (p : Bool) => [(1, .int .i64 x1), (10, v0), (11, .int .i64 ((x0).length : Int)), (12, .int .i64 (i30 : Int)), (21, .bool p)]) (fun (p : Bool) => [imm (TR.sl TR.int) v0 x0]) (fun (p : Bool) => K48 (.nx p)) ?_ ?_
   ·skip
    refine GL.region ?_
    refine RL.mv rfl rfl rfl ?_
    refine RL.binI (v := .bool (decide (y40 < (0 : Int)))) rfl rfl rfl rfl rfl ?_
    refine RL.mv rfl rfl rfl ?_
    refine RL.split (t := 18) rfl (fun b54 => ?_) (fun b54 => ?_)
    ·replace h49 := ite_t b54 h49
     refine RL.skip rfl rfl ?_
     refine RL.skip rfl rfl ?_
     refine RL.pickT rfl rfl rfl rfl ?_
     refine RL.fin ?_
     cases h49
     exact fun a w st => mid_intro true h50 (St.cut [0] ⟨rfl, rfl, rfl, rfl, rfl, trivial⟩ (by decide) rfl st)
    replace h49 := ite_f b54 h49
    refine RL.mv rfl rfl rfl ?_
    refine RL.binI (v := .bool (decide (y40 > (1000000 : Int)))) rfl rfl rfl rfl rfl ?_
    refine RL.pickF rfl rfl rfl rfl ?_
    refine RL.fin ?_
    cases h49
    exact fun a w st => mid_intro (decide (y40 > (1000000 : Int))) h50 (St.cut [0] ⟨rfl, rfl, rfl, rfl, rfl, trivial⟩ (by decide) rfl st)
   rintro x46 h55
   have h56 := h51 _ h55
   try dsimp only at h56
   refine GL.weak (env' := [(1, .int .i64 x1), (10, v0), (11, .int .i64 ((x0).length : Int)), (12, .int .i64 (i30 : Int)), (21, .bool x46)]) (L' := [imm (TR.sl TR.int) v0 x0]) (fun _ _ st => st) ?_
   refine GL.cond rfl (fun b57 => ?_) (fun b57 => ?_)
   ·replace h56 := ite_t b57 h56
    refine GL.seq ?_
    refine GL.region ?_
    refine RL.asg rfl rfl rfl ?_
    refine RL.finG ?_
    cases h56
    replace h34 : some (Fl.rt _) = some y23 := h34
    cases h34
    have hh := h28 _ h26
    subst hh
    exact GL.ret (Gx.ret (v := .int .i64 (1 : Int)) (res1 rfl rfl) (fun a w st => st.toPostC rfl))
   replace h56 := ite_f b57 h56
   refine GL.skip ?_
   refine GL.nilB ?_
   refine GL.region ?_
   refine RL.binI (v := .int .i64 ((i30 + 1 : Nat) : Int)) rfl rfl rfl rfl (binI_succ i30 (by omega)) ?_
   refine RL.mv rfl rfl rfl ?_
   refine RL.fin ?_
   cases h56
   exact fun a w st => lop_intro (i30 + 1, r42) ⟨by show i30 + 1 + r42.length = (x0).length; simp only [List.length_cons] at h36; omega, h43, h34⟩ (by simp) (St.cut [0] ⟨rfl, rfl, rfl, rfl, trivial⟩ (by decide) rfl st)
  have h39 : ¬ i30 < (x0).length := by have := of_decide_eq_false b38; omega
  obtain rfl : r31 = [] := by rw [← h37]; exact List.drop_of_length_le (by omega)
  replace h35 : some (Fl.nx _) = some y23 := h35
  cases h35
  exact GL.exit (fun a w st => mid_intro () h26 (St.cut [] ⟨rfl, trivial⟩ (by decide) rfl st))
 rintro ⟨⟩ h58
 have h59 := h27 _ h58
 try dsimp only at h59
 refine GL.weak (env' := [(1, .int .i64 x1)]) (L' := []) (fun _ _ st => st) ?_
 refine GL.seq ?_
 refine GL.seq ?_
 obtain ⟨y63, K64, h65, h66, h67, h68, h69⟩ := bindR_K h59
 refine GL.join (ι := Bool) (fun (p : Bool) => [(28, .bool p)]) (fun (p : Bool) => []) (fun (p : Bool) => K64 (.nx p)) ?_ ?_
 ·skip
  refine GL.region ?_
  refine RL.mv rfl rfl rfl ?_
  refine RL.binI (v := .bool (decide (x1 < (0 : Int)))) rfl rfl rfl rfl rfl ?_
  refine RL.mv rfl rfl rfl ?_
  refine RL.split (t := 25) rfl (fun b70 => ?_) (fun b70 => ?_)
  ·replace h65 := ite_t b70 h65
   refine RL.skip rfl rfl ?_
   refine RL.skip rfl rfl ?_
   refine RL.pickT rfl rfl rfl rfl ?_
   refine RL.fin ?_
   cases h65
   exact fun a w st => mid_intro true h66 (St.cut [] ⟨rfl, trivial⟩ (by decide) rfl st)
  replace h65 := ite_f b70 h65
  refine RL.mv rfl rfl rfl ?_
  refine RL.binI (v := .bool (decide (x1 > (1000000 : Int)))) rfl rfl rfl rfl rfl ?_
  refine RL.pickF rfl rfl rfl rfl ?_
  refine RL.fin ?_
  cases h65
  exact fun a w st => mid_intro (decide (x1 > (1000000 : Int))) h66 (St.cut [] ⟨rfl, trivial⟩ (by decide) rfl st)
 rintro x62 h71
 have h72 := h67 _ h71
 try dsimp only at h72
 refine GL.weak (env' := [(28, .bool x62)]) (L' := []) (fun _ _ st => st) ?_
 refine GL.cond rfl (fun b73 => ?_) (fun b73 => ?_)
 ·replace h72 := ite_t b73 h72
  refine GL.seq ?_
  refine GL.region ?_
  refine RL.asg rfl rfl rfl ?_
  refine RL.finG ?_
  have h72 := Option.some.inj h72
  subst h72
  exact GL.ret (Gx.ret (v := .int .i64 (1 : Int)) (res1 rfl rfl) (fun a w st => st.toPostC rfl))
 replace h72 := ite_f b73 h72
 refine GL.skip ?_
 refine GL.seq ?_
 refine GL.region ?_
 refine RL.asg rfl rfl rfl ?_
 refine RL.finG ?_
 have h72 := Option.some.inj h72
 subst h72
 exact GL.ret (Gx.ret (v := .int .i64 (0 : Int)) (res1 rfl rfl) (fun a w st => st.toPostC rfl))

set_option maxHeartbeats 4000000 in
theorem slices_insertionSortCmpFunc_int_c (B : World) (S X : Hp) (f : Nat → Hp) (w : World) (v0 : Value) (x0 : (List Int)) (hO : HeapOk B.heap.size S f [own 3 TR.int v0 x0, keep X].length w) (hB : Below B.heap.size B w) (hI : Its [own 3 TR.int v0 x0, keep X] S f) (x1 : Int) (x2 : Int) (f3 : FuncId) (c3 : Array Value) (t3 : Fit Try.prog f3) (g3 : Int → Int → Option Int) (k3 : ∀ (U : Hp) (w' : World), Hp.le S U → U.sub w' → ∀ (a0 : Int) (a1 : Int) (rr : Int), g3 a0 a1 = some rr → Calls Try.prog f3 (#[.int .i64 a0, .int .i64 a1] ++ c3) w' (PostV w' (.int .i64 rr))) (res : (List Int)) (hm : slices_insertionSortCmpFunc_int_m x0 x1 x2 g3 = some res) : Calls Try.prog 70 #[v0, .int .i64 x1, .int .i64 x2, .func (.func f3) #[] c3] w (PostM B S (fun (o : Unit) => .tuple #[]) (fun (o : Unit) => [own 3 TR.int v0 res, keep X])) := by
 refine calls_enterM 53 Try.func70 Try.ntmps70 rfl B S f [(0, v0), (1, .int .i64 x1), (2, .int .i64 x2), (3, .func (.func f3) #[] c3)] [own 3 TR.int v0 x0, keep X] [] rfl ⟨rfl, ⟨rfl, ⟨rfl, ⟨rfl, trivial⟩⟩⟩⟩ hB hO hI trivial ?_
 unfold slices_insertionSortCmpFunc_int_m at hm
 refine GL.seq ?_
 refine GL.region ?_
 refine RL.mv rfl rfl rfl ?_
 refine RL.binI (v := .int .i64 (wadd x1 (1 : Int))) rfl rfl rfl rfl rfl ?_
 refine RL.asg rfl rfl rfl ?_
 refine RL.finG ?_
 obtain ⟨y340, K341, h342, h343, h344, h345, h346⟩ := bindR_K hm
 refine GL.join (ι := (List Int) × Int) (fun (p : (List Int) × Int) => []) (fun (p : (List Int) × Int) => [own 3 TR.int v0 p.1, keep X]) (fun (p : (List Int) × Int) => K341 (.nx (p.1, p.2))) ?_ ?_
 ·refine GL.block ?_
  refine GL.loop (ι := Nat × (List Int) × Int) (fun (p : Nat × (List Int) × Int) => [(0, v0), (1, .int .i64 x1), (2, .int .i64 x2), (3, .func (.func f3) #[] c3), (8, .int .i64 p.2.2)]) (fun (p : Nat × (List Int) × Int) => [own 3 TR.int v0 p.2.1, keep X]) (fun (p : Nat × (List Int) × Int) => loopM (slices_insertionSortCmpFunc_int_b1 x2 x1 g3) p.1 (p.2.1, p.2.2) = some y340) (fun (p : Nat × (List Int) × Int) => p.1) (1048576, x0, wadd x1 (1 : Int)) h342 (fun a w st => St.cut [0, 1] ⟨rfl, rfl, rfl, rfl, rfl, trivial⟩ (by decide) rfl st) ?_
  rintro ⟨r348, l172, x173⟩ h352
  try dsimp only at h352
  refine GL.weak (env' := [(0, v0), (1, .int .i64 x1), (2, .int .i64 x2), (3, .func (.func f3) #[] c3), (8, .int .i64 x173)]) (L' := [own 3 TR.int v0 l172, keep X]) (fun _ _ st => st) ?_
  obtain ⟨r355, z349, hr, h350, h351⟩ := loopM_some h352
  subst hr
  unfold slices_insertionSortCmpFunc_int_b1 at h350
  try dsimp only at h350
  refine GL.seq ?_
  refine GL.seq ?_
  refine GL.region ?_
  refine RL.mv rfl rfl rfl ?_
  refine RL.mv rfl rfl rfl ?_
  refine RL.binI (v := .bool (decide (x173 < x2))) rfl rfl rfl rfl rfl ?_
  refine RL.finG ?_
  refine GL.cond rfl (fun b356 => ?_) (fun b356 => ?_)
  ·replace h350 := ite_t b356 h350
   refine GL.skip ?_
   refine GL.seq ?_
   refine GL.block ?_
   refine GL.seq ?_
   refine GL.region ?_
   refine RL.mv rfl rfl rfl ?_
   refine RL.asg rfl rfl rfl ?_
   refine RL.finG ?_
   obtain ⟨y456, K457, h458, h459, h460, h461, h462⟩ := bindF_K h350
   refine GL.join (ι := (List Int) × Int) (fun (p : (List Int) × Int) => [(0, v0), (1, .int .i64 x1), (2, .int .i64 x2), (3, .func (.func f3) #[] c3), (8, .int .i64 x173)]) (fun (p : (List Int) × Int) => [own 3 TR.int v0 p.1, keep X]) (fun (p : (List Int) × Int) => K457 (.nx (p.1, p.2))) ?_ ?_
   ·refine GL.block ?_
    refine GL.loop (ι := Nat × (List Int) × Int) (fun (p : Nat × (List Int) × Int) => [(0, v0), (1, .int .i64 x1), (2, .int .i64 x2), (3, .func (.func f3) #[] c3), (8, .int .i64 x173), (9, .int .i64 p.2.2)]) (fun (p : Nat × (List Int) × Int) => [own 3 TR.int v0 p.2.1, keep X]) (fun (p : Nat × (List Int) × Int) => loopM (slices_insertionSortCmpFunc_int_b2 x1 g3) p.1 (p.2.1, p.2.2) = some y456) (fun (p : Nat × (List Int) × Int) => p.1) (1048576, l172, x173) h458 (fun a w st => St.cut [0, 1] ⟨rfl, rfl, rfl, rfl, rfl, rfl, trivial⟩ (by decide) rfl st) ?_
    rintro ⟨r464, l406, x407⟩ h468
    try dsimp only at h468
    refine GL.weak (env' := [(0, v0), (1, .int .i64 x1), (2, .int .i64 x2), (3, .func (.func f3) #[] c3), (8, .int .i64 x173), (9, .int .i64 x407)]) (L' := [own 3 TR.int v0 l406, keep X]) (fun _ _ st => st) ?_
    obtain ⟨r471, z465, hr, h466, h467⟩ := loopM_some h468
    subst hr
    unfold slices_insertionSortCmpFunc_int_b2 at h466
    try dsimp only at h466
    refine GL.seq ?_
    refine GL.seq ?_
    obtain ⟨y487, K488, h489, h490, h491, h492, h493⟩ := bindF_K h466
    refine GL.join (ι := Bool) (fun (p : Bool) => [(0, v0), (1, .int .i64 x1), (2, .int .i64 x2), (3, .func (.func f3) #[] c3), (8, .int .i64 x173), (9, .int .i64 x407), (34, .bool p)]) (fun (p : Bool) => [own 3 TR.int v0 l406, keep X]) (fun (p : Bool) => K488 (.nx p)) ?_ ?_
    ·skip
     refine GL.regionQ rfl rfl (by kernel_rfl) ?_
     refine RL.mv rfl rfl rfl ?_
     refine RL.mv rfl rfl rfl ?_
     refine RL.binI (v := .bool (decide (x407 > x1))) rfl rfl rfl rfl rfl ?_
     refine RL.mv rfl rfl rfl ?_
     refine RL.split (t := 21) rfl (fun b494 => ?_) (fun b494 => ?_)
     ·replace h489 := ite_t b494 h489
      refine RL.mv rfl rfl rfl ?_
      refine RL.mv rfl rfl rfl ?_
      refine RL.mv rfl rfl rfl ?_
      obtain ⟨y495, e496, h489⟩ := bind_some h489
      refine RL.idxS (sz := 1) 0 Try.underlying22 Try_ln3 rfl rfl rfl rfl rfl SlOf.own (idx_some e496).1 (idx_some e496).2.1 ?_
      refine RL.ldSx (i := (x407).toNat) (e' := y495) 0 Ex.ik Try_ln3 rfl rfl rfl rfl SlOf.own (idx_some e496).2.2 Part.self ?_
      refine RL.mv rfl rfl rfl ?_
      refine RL.mv rfl rfl rfl ?_
      refine RL.binI (v := .int .i64 (wsub x407 (1 : Int))) rfl rfl rfl rfl rfl ?_
      obtain ⟨y497, e498, h489⟩ := bind_some h489
      refine RL.idxS (sz := 1) 0 Try.underlying22 Try_ln3 rfl rfl rfl rfl rfl SlOf.own (idx_some e498).1 (idx_some e498).2.1 ?_
      refine RL.ldSx (i := (wsub x407 (1 : Int)).toNat) (e' := y497) 0 Ex.ik Try_ln3 rfl rfl rfl rfl SlOf.own (idx_some e498).2.2 Part.self ?_
      obtain ⟨y499, e500, h489⟩ := bind_some h489
      refine RL.callV (v := .int .i64 y499) (vs := [.int .i64 y495, .int .i64 y497]) t3 rfl (Or.inr ⟨_, rfl⟩) rfl rfl rfl rfl (fun U w hU hW hL => k3 U w hW hU y495 y497 _ e500) ?_
      refine RL.binI (v := .bool (decide (y499 < (0 : Int)))) rfl rfl rfl rfl rfl ?_
      refine RL.pickT rfl rfl rfl rfl ?_
      refine RL.finQ ?_
      cases h489
      exact fun a w st => mid_intro (decide (y499 < (0 : Int))) h490 (St.cut [0, 1] ⟨rfl, rfl, rfl, rfl, rfl, rfl, rfl, trivial⟩ (by decide) rfl st)
     replace h489 := ite_f b494 h489
     refine RL.skip rfl rfl ?_
     refine RL.skip rfl rfl ?_
     refine RL.skip rfl rfl ?_
     refine RL.skip rfl rfl ?_
     refine RL.skip rfl rfl ?_
     refine RL.skip rfl rfl ?_
     refine RL.skip rfl rfl ?_
     refine RL.skip rfl rfl ?_
     refine RL.skip rfl rfl ?_
     refine RL.skip rfl rfl ?_
     refine RL.skip rfl rfl ?_
     refine RL.skip rfl rfl ?_
     refine RL.pickF rfl rfl rfl rfl ?_
     refine RL.finQ ?_
     cases h489
     exact fun a w st => mid_intro false h490 (St.cut [0, 1] ⟨rfl, rfl, rfl, rfl, rfl, rfl, rfl, trivial⟩ (by decide) rfl st)
    rintro x486 h501
    have h502 := h491 _ h501
    try dsimp only at h502
    refine GL.weak (env' := [(0, v0), (1, .int .i64 x1), (2, .int .i64 x2), (3, .func (.func f3) #[] c3), (8, .int .i64 x173), (9, .int .i64 x407), (34, .bool x486)]) (L' := [own 3 TR.int v0 l406, keep X]) (fun _ _ st => st) ?_
    refine GL.cond rfl (fun b503 => ?_) (fun b503 => ?_)
    ·replace h502 := ite_t b503 h502
     refine GL.skip ?_
     refine GL.seq ?_
     refine GL.block ?_
     refine GL.regionA rfl rfl ?_
     refine RA.mv 0 rfl (by kernel_rfl) rfl rfl rfl ?_
     refine RA.mv 1 rfl (by kernel_rfl) rfl rfl rfl ?_
     refine RA.mv 2 rfl (by kernel_rfl) rfl rfl rfl ?_
     refine RA.mv 3 rfl (by kernel_rfl) rfl rfl rfl ?_
     refine RA.binI (v := .int .i64 (wsub x407 (1 : Int))) 4 rfl (by kernel_rfl) rfl rfl rfl rfl rfl ?_
     refine RA.mv 5 rfl (by kernel_rfl) rfl rfl rfl ?_
     refine RA.mv 6 rfl (by kernel_rfl) rfl rfl rfl ?_
     refine RA.binI (v := .int .i64 (wsub x407 (1 : Int))) 7 rfl (by kernel_rfl) rfl rfl rfl rfl rfl ?_
     obtain ⟨y512, e513, h502⟩ := bind_some h502
     refine RA.idxS (sz := 1) 0 Try.underlying22 Try_ln3 8 rfl (by kernel_rfl) rfl rfl rfl rfl rfl SlOf.own (idx_some e513).1 (idx_some e513).2.1 ?_
     refine RA.mv 10 rfl (by kernel_rfl) rfl rfl rfl ?_
     refine RA.mv 11 rfl (by kernel_rfl) rfl rfl rfl ?_
     obtain ⟨y514, e515, h502⟩ := bind_some h502
     refine RA.idxS (sz := 1) 0 Try.underlying22 Try_ln3 12 rfl (by kernel_rfl) rfl rfl rfl rfl rfl SlOf.own (idx_some e515).1 (idx_some e515).2.1 ?_
     refine RA.still (le := #[true, true, true, true, true, true, true, true, true, true, true, true, true, true, true, false, false, false]) (f := 3) [9, 13, 14] 15 rfl (by kernel_rfl) ?_
     simp only [pickOps, List.getElem?_toArray, List.getElem?_cons_succ, List.getElem?_cons_zero]
     refine RL.ldSx (i := (wsub x407 (1 : Int)).toNat) (e' := y512) 0 Ex.ik Try_ln3 rfl rfl rfl rfl SlOf.own (idx_some e513).2.2 Part.self ?_
     refine RL.ldSx (i := (x407).toNat) (e' := y514) 0 Ex.ik Try_ln3 rfl rfl rfl rfl SlOf.own (idx_some e515).2.2 Part.self ?_
     obtain ⟨y516, e517, h502⟩ := bind_some h502
     refine RL.idxS (sz := 1) 0 Try.underlying22 Try_ln3 rfl rfl rfl rfl rfl SlOf.own (idx_some e517).1 (idx_some e517).2.1 ?_
     refine RL.finH ?_
     refine RL.fin ?_
     refine RA.next ?_
     refine RA.seq 15 rfl (by kernel_rfl) ?_
     refine RL.stS (i := (x407).toNat) (e' := y512) (e1 := y512) (r := TR.int) 0 Try_ln3 rfl rfl rfl rfl VR.int rfl (idx_some e517).2.2 Upd.self ?_
     refine RL.fin ?_
     refine RA.next ?_
     obtain ⟨y518, e519, h502⟩ := bind_some h502
     refine RA.idxS (sz := 1) 0 Try.underlying22 Try_ln3 16 rfl (by kernel_rfl) rfl rfl rfl rfl rfl SlOf.own (idx_some e519).1 (idx_some e519).2.1 ?_
     refine RA.seq 17 rfl (by kernel_rfl) ?_
     refine RL.stS (i := (wsub x407 (1 : Int)).toNat) (e' := y514) (e1 := y514) (r := TR.int) 0 Try_ln3 rfl rfl rfl rfl VR.int rfl (idx_some e519).2.2 Upd.self ?_
     refine RL.fin ?_
     refine RA.next ?_
     refine RA.doneG (by kernel_rfl) ?_
     refine GL.weak (env' := [(0, v0), (1, .int .i64 x1), (2, .int .i64 x2), (3, .func (.func f3) #[] c3), (8, .int .i64 x173), (9, .int .i64 x407)]) (L' := [own 3 TR.int v0 (List.set (List.set l406 ((x407).toNat) y512) ((wsub x407 (1 : Int)).toNat) y514), keep X]) (fun a w st => St.cut [0, 1] ⟨rfl, rfl, rfl, rfl, rfl, rfl, trivial⟩ (by decide) rfl st) ?_
     refine GL.nilB ?_
     refine GL.region ?_
     refine RL.mv rfl rfl rfl ?_
     refine RL.binI (v := .int .i64 (wsub x407 (1 : Int))) rfl rfl rfl rfl rfl ?_
     refine RL.asg rfl rfl rfl ?_
     refine RL.finG ?_
     cases h502
     exact fun a w st => lop_intro (r471, (List.set (List.set l406 ((x407).toNat) y512) ((wsub x407 (1 : Int)).toNat) y514), wsub x407 (1 : Int)) (by exact h467) (by simp) (St.cut [0, 1] ⟨rfl, rfl, rfl, rfl, rfl, rfl, trivial⟩ (by decide) rfl st)
    replace h502 := ite_f b503 h502
    cases h502
    replace h467 : some (Fl.nx _) = some y456 := h467
    cases h467
    exact GL.exit (fun a w st => mid_intro (l406, x407) h459 (St.cut [0, 1] ⟨rfl, rfl, rfl, rfl, rfl, trivial⟩ (by decide) rfl st))
   rintro ⟨l406, x407⟩ h520
   have h521 := h460 _ h520
   try dsimp only at h521
   refine GL.weak (env' := [(0, v0), (1, .int .i64 x1), (2, .int .i64 x2), (3, .func (.func f3) #[] c3), (8, .int .i64 x173)]) (L' := [own 3 TR.int v0 l406, keep X]) (fun _ _ st => st) ?_
   refine GL.nilB ?_
   refine GL.region ?_
   refine RL.mv rfl rfl rfl ?_
   refine RL.binI (v := .int .i64 (wadd x173 (1 : Int))) rfl rfl rfl rfl rfl ?_
   refine RL.asg rfl rfl rfl ?_
   refine RL.finG ?_
   cases h521
   exact fun a w st => lop_intro (r355, l406, wadd x173 (1 : Int)) (by exact h351) (by simp) (St.cut [0, 1] ⟨rfl, rfl, rfl, rfl, rfl, trivial⟩ (by decide) rfl st)
  replace h350 := ite_f b356 h350
  cases h350
  replace h351 : some (Fl.nx _) = some y340 := h351
  cases h351
  exact GL.exit (fun a w st => mid_intro (l172, x173) h343 (St.cut [0, 1] trivial (by decide) rfl st))
 rintro ⟨l172, x173⟩ h522
 have h523 := h344 _ h522
 try dsimp only at h523
 refine GL.weak (env' := []) (L' := [own 3 TR.int v0 l172, keep X]) (fun _ _ st => st) ?_
 have h523 := Option.some.inj h523
 subst h523
 exact GL.nil (Gx.retN (v := .tuple #[]) (res0 rfl) (fun a w st => (st.pick [0, 1] (by decide) rfl).toPostM (V := fun (o : Unit) => .tuple #[]) (LR := fun (o : Unit) => [own 3 TR.int v0 l172, keep X]) ()))

set_option maxHeartbeats 4000000 in
theorem slices_stableCmpFunc_int_c (B : World) (S X : Hp) (f : Nat → Hp) (w : World) (v0 : Value) (x0 : (List Int)) (hO : HeapOk B.heap.size S f [own 3 TR.int v0 x0, keep X].length w) (hB : Below B.heap.size B w) (hI : Its [own 3 TR.int v0 x0, keep X] S f) (x1 : Int) (f2 : FuncId) (c2 : Array Value) (t2 : Fit Try.prog f2) (g2 : Int → Int → Option Int) (k2 : ∀ (U : Hp) (w' : World), Hp.le S U → U.sub w' → ∀ (a0 : Int) (a1 : Int) (rr : Int), g2 a0 a1 = some rr → Calls Try.prog f2 (#[.int .i64 a0, .int .i64 a1] ++ c2) w' (PostV w' (.int .i64 rr))) (res : (List Int)) (hm : slices_stableCmpFunc_int_m x0 x1 g2 = some res) : Calls Try.prog 66 #[v0, .int .i64 x1, .func (.func f2) #[] c2] w (PostM B S (fun (o : Unit) => .tuple #[]) (fun (o : Unit) => [own 3 TR.int v0 res, keep X])) := by
 refine calls_enterM 63 Try.func66 Try.ntmps66 rfl B S f [(0, v0), (1, .int .i64 x1), (2, .func (.func f2) #[] c2)] [own 3 TR.int v0 x0, keep X] [] rfl ⟨rfl, ⟨rfl, ⟨rfl, trivial⟩⟩⟩ hB hO hI trivial ?_
 unfold slices_stableCmpFunc_int_m at hm
 refine GL.seq ?_
 refine GL.region ?_
 refine RL.asg rfl rfl rfl ?_
 refine RL.finG ?_
 refine GL.seq ?_
 refine GL.region ?_
 refine RL.mv rfl rfl rfl ?_
 refine RL.asg rfl rfl rfl ?_
 refine RL.asg rfl rfl rfl ?_
 refine RL.finG ?_
 refine GL.seq ?_
 obtain ⟨y27, K28, h29, h30, h31, h32, h33⟩ := bindR_K hm
 refine GL.join (ι := (List Int) × Int × Int) (fun (p : (List Int) × Int × Int) => [(0, v0), (1, .int .i64 x1), (2, .func (.func f2) #[] c2), (6, .int .i64 (20 : Int)), (7, .int .i64 p.2.1)]) (fun (p : (List Int) × Int × Int) => [own 3 TR.int v0 p.1, keep X]) (fun (p : (List Int) × Int × Int) => K28 (.nx (p.1, p.2.1, p.2.2))) ?_ ?_
 ·refine GL.block ?_
  refine GL.loop (ι := Nat × (List Int) × Int × Int) (fun (p : Nat × (List Int) × Int × Int) => [(0, v0), (1, .int .i64 x1), (2, .func (.func f2) #[] c2), (6, .int .i64 (20 : Int)), (7, .int .i64 p.2.2.1), (8, .int .i64 p.2.2.2)]) (fun (p : Nat × (List Int) × Int × Int) => [own 3 TR.int v0 p.2.1, keep X]) (fun (p : Nat × (List Int) × Int × Int) => loopM (slices_stableCmpFunc_int_b1 x1 g2) p.1 (p.2.1, p.2.2.1, p.2.2.2) = some y27) (fun (p : Nat × (List Int) × Int × Int) => p.1) (1048576, x0, (0 : Int), (20 : Int)) h29 (fun a w st => St.cut [0, 1] ⟨rfl, rfl, rfl, rfl, rfl, rfl, trivial⟩ (by decide) rfl st) ?_
  rintro ⟨r35, l15, x16, x17⟩ h39
  try dsimp only at h39
  refine GL.weak (env' := [(0, v0), (1, .int .i64 x1), (2, .func (.func f2) #[] c2), (6, .int .i64 (20 : Int)), (7, .int .i64 x16), (8, .int .i64 x17)]) (L' := [own 3 TR.int v0 l15, keep X]) (fun _ _ st => st) ?_
  obtain ⟨r42, z36, hr, h37, h38⟩ := loopM_some h39
  subst hr
  unfold slices_stableCmpFunc_int_b1 at h37
  try dsimp only at h37
  refine GL.seq ?_
  refine GL.seq ?_
  refine GL.region ?_
  refine RL.mv rfl rfl rfl ?_
  refine RL.mv rfl rfl rfl ?_
  refine RL.binI (v := .bool (decide (x17 ≤ x1))) rfl rfl rfl rfl rfl ?_
  refine RL.finG ?_
  refine GL.cond rfl (fun b43 => ?_) (fun b43 => ?_)
  ·replace h37 := ite_t b43 h37
   refine GL.skip ?_
   refine GL.block ?_
   refine GL.seq ?_
   refine GL.region ?_
   refine RL.mv rfl rfl rfl ?_
   refine RL.mv rfl rfl rfl ?_
   refine RL.mv rfl rfl rfl ?_
   refine RL.mv rfl rfl rfl ?_
   obtain ⟨y50, e51, h37⟩ := bind_some h37
   refine RL.callK (vs := [v0, .int .i64 x16, .int .i64 x17, .func (.func f2) #[] c2]) (V := fun (o : Unit) => .tuple #[]) (LR := fun (o : Unit) => [own 3 TR.int v0 y50]) (Ls := [own 3 TR.int v0 l15]) [0] (by decide) Try_fit70 rfl rfl rfl rfl rfl rfl (fun S f X w hO hB hW hI hL => slices_insertionSortCmpFunc_int_c _ S X f w _ _ hO hB hI x16 x17 f2 c2 t2 g2 (fun U' w' hle => k2 U' w' (Hp.le_trans hW hle)) _ e51) ?_
   intro _
   refine RL.reL (L' := [gone, keep X, own 3 TR.int v0 y50]) rfl ?_
   refine RL.finG ?_
   refine GL.seq ?_
   refine GL.region ?_
   refine RL.mv rfl rfl rfl ?_
   refine RL.asg rfl rfl rfl ?_
   refine RL.finG ?_
   refine GL.region ?_
   refine RL.mv rfl rfl rfl ?_
   refine RL.mv rfl rfl rfl ?_
   refine RL.binI (v := .int .i64 (wadd x17 (20 : Int))) rfl rfl rfl rfl rfl ?_
   refine RL.asg rfl rfl rfl ?_
   refine RL.finG ?_
   refine GL.nilB ?_
   cases h37
   exact fun a w st => lop_intro (r42, y50, x17, wadd x17 (20 : Int)) (by exact h38) (by simp) (St.cut [2, 1] ⟨rfl, rfl, rfl, rfl, rfl, rfl, trivial⟩ (by decide) rfl st)
  replace h37 := ite_f b43 h37
  cases h37
  replace h38 : some (Fl.nx _) = some y27 := h38
  cases h38
  exact GL.exit (fun a w st => mid_intro (l15, x16, x17) h30 (St.cut [0, 1] ⟨rfl, rfl, rfl, rfl, rfl, trivial⟩ (by decide) rfl st))
 rintro ⟨l15, x16, x17⟩ h52
 have h53 := h31 _ h52
 try dsimp only at h53
 refine GL.weak (env' := [(0, v0), (1, .int .i64 x1), (2, .func (.func f2) #[] c2), (6, .int .i64 (20 : Int)), (7, .int .i64 x16)]) (L' := [own 3 TR.int v0 l15, keep X]) (fun _ _ st => st) ?_
 refine GL.seq ?_
 refine GL.region ?_
 refine RL.mv rfl rfl rfl ?_
 refine RL.mv rfl rfl rfl ?_
 refine RL.mv rfl rfl rfl ?_
 refine RL.mv rfl rfl rfl ?_
 obtain ⟨y56, e57, h53⟩ := bind_some h53
 refine RL.callK (vs := [v0, .int .i64 x16, .int .i64 x1, .func (.func f2) #[] c2]) (V := fun (o : Unit) => .tuple #[]) (LR := fun (o : Unit) => [own 3 TR.int v0 y56]) (Ls := [own 3 TR.int v0 l15]) [0] (by decide) Try_fit70 rfl rfl rfl rfl rfl rfl (fun S f X w hO hB hW hI hL => slices_insertionSortCmpFunc_int_c _ S X f w _ _ hO hB hI x16 x1 f2 c2 t2 g2 (fun U' w' hle => k2 U' w' (Hp.le_trans hW hle)) _ e57) ?_
 intro _
 refine RL.reL (L' := [gone, keep X, own 3 TR.int v0 y56]) rfl ?_
 refine RL.finG ?_
 obtain ⟨y106, K107, h108, h109, h110, h111, h112⟩ := bindR_K h53
 refine GL.join (ι := Int) (fun (p : Int) => []) (fun (p : Int) => [own 3 TR.int v0 y56, keep X]) (fun (p : Int) => K107 (.nx p)) ?_ ?_
 ·refine GL.block ?_
  refine GL.loop (ι := Nat × Int) (fun (p : Nat × Int) => [(0, v0), (1, .int .i64 x1), (2, .func (.func f2) #[] c2), (6, .int .i64 p.2)]) (fun (p : Nat × Int) => [own 3 TR.int v0 y56, keep X]) (fun (p : Nat × Int) => loopM (slices_stableCmpFunc_int_b2 x1) p.1 p.2 = some y106) (fun (p : Nat × Int) => p.1) (1048576, (20 : Int)) h108 (fun a w st => St.cut [2, 1] ⟨rfl, rfl, rfl, rfl, trivial⟩ (by decide) rfl st) ?_
  rintro ⟨r114, x58⟩ h118
  try dsimp only at h118
  refine GL.weak (env' := [(0, v0), (1, .int .i64 x1), (2, .func (.func f2) #[] c2), (6, .int .i64 x58)]) (L' := [own 3 TR.int v0 y56, keep X]) (fun _ _ st => st) ?_
  obtain ⟨r121, z115, hr, h116, h117⟩ := loopM_some h118
  subst hr
  unfold slices_stableCmpFunc_int_b2 at h116
  try dsimp only at h116
  refine GL.seq ?_
  refine GL.seq ?_
  refine GL.region ?_
  refine RL.mv rfl rfl rfl ?_
  refine RL.mv rfl rfl rfl ?_
  refine RL.binI (v := .bool (decide (x58 < x1))) rfl rfl rfl rfl rfl ?_
  refine RL.finG ?_
  refine GL.cond rfl (fun b122 => ?_) (fun b122 => ?_)
  ·replace h116 := ite_t b122 h116
   refine GL.skip ?_
   refine GL.block ?_
   refine GL.seq ?_
   refine GL.region ?_
   refine RL.mv rfl rfl rfl ?_
   refine RL.binI (v := .int .i64 (wmul (2 : Int) x58)) rfl rfl rfl rfl rfl ?_
   refine RL.asg rfl rfl rfl ?_
   refine RL.asg rfl rfl rfl ?_
   refine RL.finG ?_
   refine GL.seq ?_
   obtain ⟨y149, K150, h151, h152, h153, h154, h155⟩ := bindF_K h116
   refine GL.join (ι := Int × Int) (fun (p : Int × Int) => [(0, v0), (1, .int .i64 x1), (2, .func (.func f2) #[] c2), (6, .int .i64 x58), (7, .int .i64 p.1)]) (fun (p : Int × Int) => [own 3 TR.int v0 y56, keep X]) (fun (p : Int × Int) => K150 (.nx (p.1, p.2))) ?_ ?_
   ·refine GL.block ?_
    refine GL.loop (ι := Nat × Int × Int) (fun (p : Nat × Int × Int) => [(0, v0), (1, .int .i64 x1), (2, .func (.func f2) #[] c2), (6, .int .i64 x58), (7, .int .i64 p.2.1), (8, .int .i64 p.2.2)]) (fun (p : Nat × Int × Int) => [own 3 TR.int v0 y56, keep X]) (fun (p : Nat × Int × Int) => loopM (slices_stableCmpFunc_int_b3 x1) p.1 (p.2.1, p.2.2) = some y149) (fun (p : Nat × Int × Int) => p.1) (1048576, (0 : Int), wmul (2 : Int) x58) h151 (fun a w st => St.cut [0, 1] ⟨rfl, rfl, rfl, rfl, rfl, rfl, trivial⟩ (by decide) rfl st) ?_
    rintro ⟨r157, x146, x147⟩ h161
    try dsimp only at h161
    refine GL.weak (env' := [(0, v0), (1, .int .i64 x1), (2, .func (.func f2) #[] c2), (6, .int .i64 x58), (7, .int .i64 x146), (8, .int .i64 x147)]) (L' := [own 3 TR.int v0 y56, keep X]) (fun _ _ st => st) ?_
    obtain ⟨r164, z158, hr, h159, h160⟩ := loopM_some h161
    subst hr
    unfold slices_stableCmpFunc_int_b3 at h159
    try dsimp only at h159
    refine GL.seq ?_
    refine GL.seq ?_
    refine GL.region ?_
    refine RL.mv rfl rfl rfl ?_
    refine RL.mv rfl rfl rfl ?_
    refine RL.binI (v := .bool (decide (x147 ≤ x1))) rfl rfl rfl rfl rfl ?_
    refine RL.finG ?_
    refine GL.cond rfl (fun b165 => ?_) (fun b165 => ?_)
    ·replace h159 := ite_t b165 h159
     cases h159
    replace h159 := ite_f b165 h159
    cases h159
    replace h160 : some (Fl.nx _) = some y149 := h160
    cases h160
    exact GL.exit (fun a w st => mid_intro (x146, x147) h152 (St.cut [0, 1] ⟨rfl, rfl, rfl, rfl, rfl, trivial⟩ (by decide) rfl st))
   rintro ⟨x146, x147⟩ h166
   have h167 := h153 _ h166
   try dsimp only at h167
   refine GL.weak (env' := [(0, v0), (1, .int .i64 x1), (2, .func (.func f2) #[] c2), (6, .int .i64 x58), (7, .int .i64 x146)]) (L' := [own 3 TR.int v0 y56, keep X]) (fun _ _ st => st) ?_
   refine GL.seq ?_
   refine GL.seq ?_
   refine GL.region ?_
   refine RL.mv rfl rfl rfl ?_
   refine RL.mv rfl rfl rfl ?_
   refine RL.binI (v := .int .i64 (wadd x146 x58)) rfl rfl rfl rfl rfl ?_
   refine RL.asg rfl rfl rfl ?_
   refine RL.finG ?_
   refine GL.seq ?_
   refine GL.region ?_
   refine RL.mv rfl rfl rfl ?_
   refine RL.mv rfl rfl rfl ?_
   refine RL.binI (v := .bool (decide ((wadd x146 x58) < x1))) rfl rfl rfl rfl rfl ?_
   refine RL.finG ?_
   refine GL.cond rfl (fun b168 => ?_) (fun b168 => ?_)
   ·replace h167 := ite_t b168 h167
    cases h167
   replace h167 := ite_f b168 h167
   refine GL.skip ?_
   refine GL.region ?_
   refine RL.mv rfl rfl rfl ?_
   refine RL.binI (v := .int .i64 (wmul x58 (2 : Int))) rfl rfl rfl rfl rfl ?_
   refine RL.asg rfl rfl rfl ?_
   refine RL.finG ?_
   refine GL.nilB ?_
   cases h167
   exact fun a w st => lop_intro (r121, wmul x58 (2 : Int)) (by exact h117) (by simp) (St.cut [0, 1] ⟨rfl, rfl, rfl, rfl, trivial⟩ (by decide) rfl st)
  replace h116 := ite_f b122 h116
  cases h116
  replace h117 : some (Fl.nx _) = some y106 := h117
  cases h117
  exact GL.exit (fun a w st => mid_intro x58 h109 (St.cut [0, 1] trivial (by decide) rfl st))
 rintro x58 h169
 have h170 := h110 _ h169
 try dsimp only at h170
 refine GL.weak (env' := []) (L' := [own 3 TR.int v0 y56, keep X]) (fun _ _ st => st) ?_
 have h170 := Option.some.inj h170
 subst h170
 exact GL.nil (Gx.retN (v := .tuple #[]) (res0 rfl) (fun a w st => (st.pick [0, 1] (by decide) rfl).toPostM (V := fun (o : Unit) => .tuple #[]) (LR := fun (o : Unit) => [own 3 TR.int v0 y56, keep X]) ()))

set_option maxHeartbeats 4000000 in
theorem slices_SortStableFunc_int_int_c (B : World) (S X : Hp) (f : Nat → Hp) (w : World) (v0 : Value) (x0 : (List Int)) (hO : HeapOk B.heap.size S f [own 3 TR.int v0 x0, keep X].length w) (hB : Below B.heap.size B w) (hI : Its [own 3 TR.int v0 x0, keep X] S f) (f1 : FuncId) (c1 : Array Value) (t1 : Fit Try.prog f1) (g1 : Int → Int → Option Int) (k1 : ∀ (U : Hp) (w' : World), Hp.le S U → U.sub w' → ∀ (a0 : Int) (a1 : Int) (rr : Int), g1 a0 a1 = some rr → Calls Try.prog f1 (#[.int .i64 a0, .int .i64 a1] ++ c1) w' (PostV w' (.int .i64 rr))) (res : (List Int)) (hm : slices_SortStableFunc_int_int_m x0 g1 = some res) : Calls Try.prog 43 #[v0, .func (.func f1) #[] c1] w (PostM B S (fun (o : Unit) => .tuple #[]) (fun (o : Unit) => [own 3 TR.int v0 res, keep X])) := by
 refine calls_enterM 9 Try.func43 Try.ntmps43 rfl B S f [(0, v0), (1, .func (.func f1) #[] c1)] [own 3 TR.int v0 x0, keep X] [] rfl ⟨rfl, ⟨rfl, trivial⟩⟩ hB hO hI trivial ?_
 unfold slices_SortStableFunc_int_int_m at hm
 refine GL.region ?_
 refine RL.mv rfl rfl rfl ?_
 refine RL.mv rfl rfl rfl ?_
 refine RL.lenS 0 Try.underlying22 rfl rfl rfl rfl SlOf.own ?_
 refine RL.mv rfl rfl rfl ?_
 obtain ⟨y5, e6, hm⟩ := bind_some hm
 refine RL.callK (vs := [v0, .int .i64 ((x0).length : Int), .func (.func f1) #[] c1]) (V := fun (o : Unit) => .tuple #[]) (LR := fun (o : Unit) => [own 3 TR.int v0 y5]) (Ls := [own 3 TR.int v0 x0]) [0] (by decide) Try_fit66 rfl rfl rfl rfl rfl rfl (fun S f X w hO hB hW hI hL => slices_stableCmpFunc_int_c _ S X f w _ _ hO hB hI ((x0).length : Int) f1 c1 t1 g1 (fun U' w' hle => k1 U' w' (Hp.le_trans hW hle)) _ e6) ?_
 intro _
 refine RL.reL (L' := [gone, keep X, own 3 TR.int v0 y5]) rfl ?_
 refine RL.finG ?_
 have hm := Option.some.inj hm
 subst hm
 exact GL.nil (Gx.retN (v := .tuple #[]) (res0 rfl) (fun a w st => (st.pick [2, 1] (by decide) rfl).toPostM (V := fun (o : Unit) => .tuple #[]) (LR := fun (o : Unit) => [own 3 TR.int v0 y5, keep X]) ()))

set_option maxHeartbeats 4000000 in
theorem units_Sell_1_c (S : Hp) (w : World) (hS : S.sub w) (x0 : Int) (x1 : Int) (v2 : Value) (x2 : (List Int)) (k2 : ((TR.ptr (TR.sl TR.int))).vrep S v2 x2) (res : Int) (hm : units_Sell_1_m x0 x1 x2 = some res) : Calls Try.prog 44 #[.int .i64 x0, .int .i64 x1, v2] w (PostV w (.int .i64 res)) := by
 refine calls_enter 15 Try.func44 Try.ntmps44 rfl S false [(0, .int .i64 x0), (1, .int .i64 x1), (2, v2)] [imm (TR.ptr (TR.sl TR.int)) v2 x2] rfl ⟨rfl, ⟨rfl, ⟨rfl, trivial⟩⟩⟩ hS ⟨k2, trivial⟩ ?_
 unfold units_Sell_1_m at hm
 refine GL.seq ?_
 refine GL.region ?_
 refine RL.asg rfl rfl rfl ?_
 refine RL.finG ?_
 refine GL.seq ?_
 refine GL.regionQ rfl rfl (by kernel_rfl) ?_
 refine RL.ldP (off := 0) (r := (TR.sl TR.int)) (e' := x2) 0 Try_ln22 rfl rfl (Or.inr ⟨rfl, rfl⟩) rfl PtOf.imm Part.self ?_
 intro v10
 refine RL.mv rfl rfl rfl ?_
 obtain ⟨y11, e12, hm⟩ := bind_some hm
 refine RL.idxS (sz := 1) 1 Try.underlying22 Try_ln3 rfl rfl rfl rfl rfl SlOf.imm (idx_some e12).1 (idx_some e12).2.1 ?_
 refine RL.ldSx (i := (x1).toNat) (e' := y11) 1 Ex.ik Try_ln3 rfl rfl rfl rfl SlOf.imm (idx_some e12).2.2 Part.self ?_
 refine RL.ldP (off := 0) (r := (TR.sl TR.int)) (e' := x2) 0 Try_ln22 rfl rfl (Or.inr ⟨rfl, rfl⟩) rfl PtOf.imm Part.self ?_
 intro v13
 refine RL.reL (L' := [imm (TR.ptr (TR.sl TR.int)) v2 x2, imm (TR.sl TR.int) v10 x2, imm (TR.sl TR.int) v13 x2]) rfl ?_
 refine RL.mv rfl rfl rfl ?_
 obtain ⟨y14, e15, hm⟩ := bind_some hm
 refine RL.idxS (sz := 1) 2 Try.underlying22 Try_ln3 rfl rfl rfl rfl rfl SlOf.imm (idx_some e15).1 (idx_some e15).2.1 ?_
 refine RL.ldSx (i := (x0).toNat) (e' := y14) 2 Ex.ik Try_ln3 rfl rfl rfl rfl SlOf.imm (idx_some e15).2.2 Part.self ?_
 refine RL.binI (v := .int .i64 (wsub y11 y14)) rfl rfl rfl rfl rfl ?_
 refine RL.asg rfl rfl rfl ?_
 refine RL.finQG ?_
 have hm := Option.some.inj hm
 subst hm
 exact GL.ret (Gx.ret (v := .int .i64 (wsub y11 y14)) (res1 rfl rfl) (fun a w st => st.toPostV))

set_option maxHeartbeats 4000000 in
theorem math_bits_Len32_c (S : Hp) (w : World) (hS : S.sub w) (x0 : Int) (res : Int) (hm : math_bits_Len32_m x0 = some res) : Calls Try.prog 81 #[.int .u32 x0] w (PostC w (.int .i64 res)) := by
 refine calls_enter 19 Try.func81 Try.ntmps81 rfl S true [(0, .int .u32 x0)] [] rfl ⟨rfl, trivial⟩ hS trivial ?_
 unfold math_bits_Len32_m at hm
 refine GL.seq ?_
 refine GL.region ?_
 refine RL.asg rfl rfl rfl ?_
 refine RL.finG ?_
 refine GL.seq ?_
 refine GL.seq ?_
 refine GL.region ?_
 refine RL.mv rfl rfl rfl ?_
 refine RL.binI (v := .bool (decide (x0 ≥ (65536 : Int)))) rfl rfl rfl rfl rfl ?_
 refine RL.finG ?_
 obtain ⟨y9, K10, h11, h12, h13, h14, h15⟩ := bindR_K hm
 refine GL.join (ι := Int × Int) (fun (p : Int × Int) => [(0, .int .u32 p.1), (2, .int .i64 p.2)]) (fun (p : Int × Int) => []) (fun (p : Int × Int) => K10 (.nx (p.1, p.2))) ?_ ?_
 ·skip
  refine GL.cond rfl (fun b16 => ?_) (fun b16 => ?_)
  ·replace h11 := ite_t b16 h11
   refine GL.seq ?_
   refine GL.region ?_
   refine RL.mv rfl rfl rfl ?_
   obtain ⟨y19, e20, h11⟩ := bind_some h11
   replace e20 := chk_some e20
   refine RL.sh (by simp) rfl rfl rfl rfl e20 ?_
   refine RL.asg rfl rfl rfl ?_
   refine RL.finG ?_
   refine GL.region ?_
   refine RL.asg rfl rfl rfl ?_
   refine RL.finG ?_
   cases h11
   exact fun a w st => mid_intro (Int.fdiv x0 (2 ^ (min (16 : Int).toNat (IntKind.bits .u32))), (16 : Int)) h12 (St.cut [] ⟨rfl, rfl, trivial⟩ (by decide) rfl st)
  replace h11 := ite_f b16 h11
  refine GL.skip ?_
  cases h11
  exact fun a w st => mid_intro (x0, (0 : Int)) h12 (St.cut [] ⟨rfl, rfl, trivial⟩ (by decide) rfl st)
 rintro ⟨x7, x8⟩ h21
 have h22 := h13 _ h21
 try dsimp only at h22
 refine GL.weak (env' := [(0, .int .u32 x7), (2, .int .i64 x8)]) (L' := []) (fun _ _ st => st) ?_
 refine GL.seq ?_
 refine GL.seq ?_
 refine GL.region ?_
 refine RL.mv rfl rfl rfl ?_
 refine RL.binI (v := .bool (decide (x7 ≥ (256 : Int)))) rfl rfl rfl rfl rfl ?_
 refine RL.finG ?_
 obtain ⟨y30, K31, h32, h33, h34, h35, h36⟩ := bindR_K h22
 refine GL.join (ι := Int × Int) (fun (p : Int × Int) => [(0, .int .u32 p.1), (2, .int .i64 p.2)]) (fun (p : Int × Int) => []) (fun (p : Int × Int) => K31 (.nx (p.1, p.2))) ?_ ?_
 ·skip
  refine GL.cond rfl (fun b37 => ?_) (fun b37 => ?_)
  ·replace h32 := ite_t b37 h32
   refine GL.seq ?_
   refine GL.region ?_
   refine RL.mv rfl rfl rfl ?_
   obtain ⟨y40, e41, h32⟩ := bind_some h32
   replace e41 := chk_some e41
   refine RL.sh (by simp) rfl rfl rfl rfl e41 ?_
   refine RL.asg rfl rfl rfl ?_
   refine RL.finG ?_
   refine GL.region ?_
   refine RL.mv rfl rfl rfl ?_
   refine RL.binI (v := .int .i64 (wadd x8 (8 : Int))) rfl rfl rfl rfl rfl ?_
   refine RL.asg rfl rfl rfl ?_
   refine RL.finG ?_
   cases h32
   exact fun a w st => mid_intro (Int.fdiv x7 (2 ^ (min (8 : Int).toNat (IntKind.bits .u32))), wadd x8 (8 : Int)) h33 (St.cut [] ⟨rfl, rfl, trivial⟩ (by decide) rfl st)
  replace h32 := ite_f b37 h32
  refine GL.skip ?_
  cases h32
  exact fun a w st => mid_intro (x7, x8) h33 (St.cut [] ⟨rfl, rfl, trivial⟩ (by decide) rfl st)
 rintro ⟨x28, x29⟩ h42
 have h43 := h34 _ h42
 try dsimp only at h43
 refine GL.weak (env' := [(0, .int .u32 x28), (2, .int .i64 x29)]) (L' := []) (fun _ _ st => st) ?_
 refine GL.seq ?_
 refine GL.region ?_
 refine RL.mv rfl rfl rfl ?_
 refine RL.mv rfl rfl rfl ?_
 refine RL.cvI Try.underlying112 Try.underlying5 rfl rfl rfl ?_
 obtain ⟨y46, e47, h43⟩ := bind_some h43
 refine RL.idxT Try.underlying9 rfl rfl rfl rfl (idx_some e47).1 (idx_some e47).2.2 ?_
 refine RL.cvI Try.underlying5 Try.underlying3 rfl rfl rfl ?_
 refine RL.binI (v := .int .i64 (wadd x29 (IntKind.wrap .i64 (y46.toNat : Int)))) rfl rfl rfl rfl rfl ?_
 refine RL.asg rfl rfl rfl ?_
 refine RL.finG ?_
 have h43 := Option.some.inj h43
 subst h43
 exact GL.ret (Gx.ret (v := .int .i64 (wadd x29 (IntKind.wrap .i64 (y46.toNat : Int)))) (res1 rfl rfl) (fun a w st => st.toPostC rfl))

set_option maxHeartbeats 4000000 in
theorem math_bits_Len64_c (S : Hp) (w : World) (hS : S.sub w) (x0 : Int) (res : Int) (hm : math_bits_Len64_m x0 = some res) : Calls Try.prog 82 #[.int .u64 x0] w (PostC w (.int .i64 res)) := by
 refine calls_enter 25 Try.func82 Try.ntmps82 rfl S true [(0, .int .u64 x0)] [] rfl ⟨rfl, trivial⟩ hS trivial ?_
 unfold math_bits_Len64_m at hm
 refine GL.seq ?_
 refine GL.region ?_
 refine RL.asg rfl rfl rfl ?_
 refine RL.finG ?_
 refine GL.seq ?_
 refine GL.seq ?_
 refine GL.region ?_
 refine RL.mv rfl rfl rfl ?_
 refine RL.binI (v := .bool (decide (x0 ≥ (4294967296 : Int)))) rfl rfl rfl rfl rfl ?_
 refine RL.finG ?_
 obtain ⟨y9, K10, h11, h12, h13, h14, h15⟩ := bindR_K hm
 refine GL.join (ι := Int × Int) (fun (p : Int × Int) => [(0, .int .u64 p.1), (2, .int .i64 p.2)]) (fun (p : Int × Int) => []) (fun (p : Int × Int) => K10 (.nx (p.1, p.2))) ?_ ?_
 ·skip
  refine GL.cond rfl (fun b16 => ?_) (fun b16 => ?_)
  ·replace h11 := ite_t b16 h11
   refine GL.seq ?_
   refine GL.region ?_
   refine RL.mv rfl rfl rfl ?_
   obtain ⟨y19, e20, h11⟩ := bind_some h11
   replace e20 := chk_some e20
   refine RL.sh (by simp) rfl rfl rfl rfl e20 ?_
   refine RL.asg rfl rfl rfl ?_
   refine RL.finG ?_
   refine GL.region ?_
   refine RL.asg rfl rfl rfl ?_
   refine RL.finG ?_
   cases h11
   exact fun a w st => mid_intro (Int.fdiv x0 (2 ^ (min (32 : Int).toNat (IntKind.bits .u64))), (32 : Int)) h12 (St.cut [] ⟨rfl, rfl, trivial⟩ (by decide) rfl st)
  replace h11 := ite_f b16 h11
  refine GL.skip ?_
  cases h11
  exact fun a w st => mid_intro (x0, (0 : Int)) h12 (St.cut [] ⟨rfl, rfl, trivial⟩ (by decide) rfl st)
 rintro ⟨x7, x8⟩ h21
 have h22 := h13 _ h21
 try dsimp only at h22
 refine GL.weak (env' := [(0, .int .u64 x7), (2, .int .i64 x8)]) (L' := []) (fun _ _ st => st) ?_
 refine GL.seq ?_
 refine GL.seq ?_
 refine GL.region ?_
 refine RL.mv rfl rfl rfl ?_
 refine RL.binI (v := .bool (decide (x7 ≥ (65536 : Int)))) rfl rfl rfl rfl rfl ?_
 refine RL.finG ?_
 obtain ⟨y30, K31, h32, h33, h34, h35, h36⟩ := bindR_K h22
 refine GL.join (ι := Int × Int) (fun (p : Int × Int) => [(0, .int .u64 p.1), (2, .int .i64 p.2)]) (fun (p : Int × Int) => []) (fun (p : Int × Int) => K31 (.nx (p.1, p.2))) ?_ ?_
 ·skip
  refine GL.cond rfl (fun b37 => ?_) (fun b37 => ?_)
  ·replace h32 := ite_t b37 h32
   refine GL.seq ?_
   refine GL.region ?_
   refine RL.mv rfl rfl rfl ?_
   obtain ⟨y40, e41, h32⟩ := bind_some h32
   replace e41 := chk_some e41
   refine RL.sh (by simp) rfl rfl rfl rfl e41 ?_
   refine RL.asg rfl rfl rfl ?_
   refine RL.finG ?_
   refine GL.region ?_
   refine RL.mv rfl rfl rfl ?_
   refine RL.binI (v := .int .i64 (wadd x8 (16 : Int))) rfl rfl rfl rfl rfl ?_
   refine RL.asg rfl rfl rfl ?_
   refine RL.finG ?_
   cases h32
   exact fun a w st => mid_intro (Int.fdiv x7 (2 ^ (min (16 : Int).toNat (IntKind.bits .u64))), wadd x8 (16 : Int)) h33 (St.cut [] ⟨rfl, rfl, trivial⟩ (by decide) rfl st)
  replace h32 := ite_f b37 h32
  refine GL.skip ?_
  cases h32
  exact fun a w st => mid_intro (x7, x8) h33 (St.cut [] ⟨rfl, rfl, trivial⟩ (by decide) rfl st)
 rintro ⟨x28, x29⟩ h42
 have h43 := h34 _ h42
 try dsimp only at h43
 refine GL.weak (env' := [(0, .int .u64 x28), (2, .int .i64 x29)]) (L' := []) (fun _ _ st => st) ?_
 refine GL.seq ?_
 refine GL.seq ?_
 refine GL.region ?_
 refine RL.mv rfl rfl rfl ?_
 refine RL.binI (v := .bool (decide (x28 ≥ (256 : Int)))) rfl rfl rfl rfl rfl ?_
 refine RL.finG ?_
 obtain ⟨y51, K52, h53, h54, h55, h56, h57⟩ := bindR_K h43
 refine GL.join (ι := Int × Int) (fun (p : Int × Int) => [(0, .int .u64 p.1), (2, .int .i64 p.2)]) (fun (p : Int × Int) => []) (fun (p : Int × Int) => K52 (.nx (p.1, p.2))) ?_ ?_
 ·skip
  refine GL.cond rfl (fun b58 => ?_) (fun b58 => ?_)
  ·replace h53 := ite_t b58 h53
   refine GL.seq ?_
   refine GL.region ?_
   refine RL.mv rfl rfl rfl ?_
   obtain ⟨y61, e62, h53⟩ := bind_some h53
   replace e62 := chk_some e62
   refine RL.sh (by simp) rfl rfl rfl rfl e62 ?_
   refine RL.asg rfl rfl rfl ?_
   refine RL.finG ?_
   refine GL.region ?_
   refine RL.mv rfl rfl rfl ?_
   refine RL.binI (v := .int .i64 (wadd x29 (8 : Int))) rfl rfl rfl rfl rfl ?_
   refine RL.asg rfl rfl rfl ?_
   refine RL.finG ?_
   cases h53
   exact fun a w st => mid_intro (Int.fdiv x28 (2 ^ (min (8 : Int).toNat (IntKind.bits .u64))), wadd x29 (8 : Int)) h54 (St.cut [] ⟨rfl, rfl, trivial⟩ (by decide) rfl st)
  replace h53 := ite_f b58 h53
  refine GL.skip ?_
  cases h53
  exact fun a w st => mid_intro (x28, x29) h54 (St.cut [] ⟨rfl, rfl, trivial⟩ (by decide) rfl st)
 rintro ⟨x49, x50⟩ h63
 have h64 := h55 _ h63
 try dsimp only at h64
 refine GL.weak (env' := [(0, .int .u64 x49), (2, .int .i64 x50)]) (L' := []) (fun _ _ st => st) ?_
 refine GL.seq ?_
 refine GL.region ?_
 refine RL.mv rfl rfl rfl ?_
 refine RL.mv rfl rfl rfl ?_
 refine RL.cvI Try.underlying114 Try.underlying5 rfl rfl rfl ?_
 obtain ⟨y67, e68, h64⟩ := bind_some h64
 refine RL.idxT Try.underlying9 rfl rfl rfl rfl (idx_some e68).1 (idx_some e68).2.2 ?_
 refine RL.cvI Try.underlying5 Try.underlying3 rfl rfl rfl ?_
 refine RL.binI (v := .int .i64 (wadd x50 (IntKind.wrap .i64 (y67.toNat : Int)))) rfl rfl rfl rfl rfl ?_
 refine RL.asg rfl rfl rfl ?_
 refine RL.finG ?_
 have h64 := Option.some.inj h64
 subst h64
 exact GL.ret (Gx.ret (v := .int .i64 (wadd x50 (IntKind.wrap .i64 (y67.toNat : Int)))) (res1 rfl rfl) (fun a w st => st.toPostC rfl))

set_option maxHeartbeats 4000000 in
theorem math_bits_Len_c (S : Hp) (w : World) (hS : S.sub w) (x0 : Int) (res : Int) (hm : math_bits_Len_m x0 = some res) : Calls Try.prog 68 #[.int .u64 x0] w (PostC w (.int .i64 res)) := by
 refine calls_enter 8 Try.func68 Try.ntmps68 rfl S true [(0, .int .u64 x0)] [] rfl ⟨rfl, trivial⟩ hS trivial ?_
 unfold math_bits_Len_m at hm
 refine GL.seq ?_
 refine GL.region ?_
 refine RL.asg rfl rfl rfl ?_
 refine RL.finG ?_
 refine GL.seq ?_
 refine GL.cond rfl (fun b2 => ?_) (fun b2 => ?_)
 ·replace hm := ite_t b2 hm
  refine GL.seq ?_
  refine GL.region ?_
  refine RL.mv rfl rfl rfl ?_
  refine RL.cvI Try.underlying96 Try.underlying112 rfl rfl rfl ?_
  obtain ⟨y5, e6, hm⟩ := bind_some hm
  refine RL.callC (v := .int .i64 y5) (vs := [.int .u32 (IntKind.wrap .u32 x0)]) Try_fit81 rfl rfl rfl rfl (fun U w hU hW hL => math_bits_Len32_c U w hU (IntKind.wrap .u32 x0) _ e6) ?_
  refine RL.asg rfl rfl rfl ?_
  refine RL.finG ?_
  have hm := Option.some.inj hm
  subst hm
  exact GL.ret (Gx.ret (v := .int .i64 y5) (res1 rfl rfl) (fun a w st => st.toPostC rfl))
 replace hm := ite_f b2 hm
 refine GL.skip ?_
 refine GL.seq ?_
 refine GL.region ?_
 refine RL.mv rfl rfl rfl ?_
 obtain ⟨y9, e10, hm⟩ := bind_some hm
 refine RL.callC (v := .int .i64 y9) (vs := [.int .u64 x0]) Try_fit82 rfl rfl rfl rfl (fun U w hU hW hL => math_bits_Len64_c U w hU x0 _ e10) ?_
 refine RL.asg rfl rfl rfl ?_
 refine RL.finG ?_
 have hm := Option.some.inj hm
 subst hm
 exact GL.ret (Gx.ret (v := .int .i64 y9) (res1 rfl rfl) (fun a w st => st.toPostC rfl))

set_option maxHeartbeats 4000000 in
theorem cmp_isNaN_int_c (S : Hp) (w : World) (hS : S.sub w) (x0 : Int) (res : Bool) (hm : cmp_isNaN_int_m x0 = some res) : Calls Try.prog 89 #[.int .i64 x0] w (PostC w (.bool res)) := by
 refine calls_enter 6 Try.func89 Try.ntmps89 rfl S true [(0, .int .i64 x0)] [] rfl ⟨rfl, trivial⟩ hS trivial ?_
 unfold cmp_isNaN_int_m at hm
 refine GL.seq ?_
 refine GL.region ?_
 refine RL.asg rfl rfl rfl ?_
 refine RL.finG ?_
 refine GL.seq ?_
 refine GL.region ?_
 refine RL.mv rfl rfl rfl ?_
 refine RL.mv rfl rfl rfl ?_
 refine RL.binI (v := .bool (x0 != x0)) rfl rfl rfl rfl rfl ?_
 refine RL.asg rfl rfl rfl ?_
 refine RL.finG ?_
 have hm := Option.some.inj hm
 subst hm
 exact GL.ret (Gx.ret (v := .bool (x0 != x0)) (res1 rfl rfl) (fun a w st => st.toPostC rfl))

set_option maxHeartbeats 4000000 in
theorem cmp_Less_int_c (S : Hp) (w : World) (hS : S.sub w) (x0 : Int) (x1 : Int) (res : Bool) (hm : cmp_Less_int_m x0 x1 = some res) : Calls Try.prog 78 #[.int .i64 x0, .int .i64 x1] w (PostC w (.bool res)) := by
 refine calls_enter 17 Try.func78 Try.ntmps78 rfl S true [(0, .int .i64 x0), (1, .int .i64 x1)] [] rfl ⟨rfl, ⟨rfl, trivial⟩⟩ hS trivial ?_
 unfold cmp_Less_int_m at hm
 refine GL.seq ?_
 refine GL.region ?_
 refine RL.asg rfl rfl rfl ?_
 refine RL.finG ?_
 refine GL.seq ?_
 obtain ⟨y16, K17, h18, h19, h20, h21, h22⟩ := bindR_K hm
 refine GL.join (ι := Bool) (fun (p : Bool) => [(4, .bool p)]) (fun (p : Bool) => []) (fun (p : Bool) => K17 (.nx p)) ?_ ?_
 ·skip
  refine GL.region ?_
  refine RL.mv rfl rfl rfl ?_
  obtain ⟨y23, e24, h18⟩ := bind_some h18
  refine RL.callC (v := .bool y23) (vs := [.int .i64 x0]) Try_fit89 rfl rfl rfl rfl (fun U w hU hW hL => cmp_isNaN_int_c U w hU x0 _ e24) ?_
  refine RL.mv rfl rfl rfl ?_
  refine RL.split (t := 7) rfl (fun b25 => ?_) (fun b25 => ?_)
  ·replace h18 := ite_t b25 h18
   refine RL.mv rfl rfl rfl ?_
   obtain ⟨y26, e27, h18⟩ := bind_some h18
   refine RL.callC (v := .bool y26) (vs := [.int .i64 x1]) Try_fit89 rfl rfl rfl rfl (fun U w hU hW hL => cmp_isNaN_int_c U w hU x1 _ e27) ?_
   refine RL.notB rfl rfl rfl ?_
   refine RL.pickT rfl rfl rfl rfl ?_
   refine RL.mv rfl rfl rfl ?_
   refine RL.split (t := 12) rfl (fun b28 => ?_) (fun b28 => ?_)
   ·replace h18 := ite_t b28 h18
    refine RL.skip rfl rfl ?_
    refine RL.skip rfl rfl ?_
    refine RL.skip rfl rfl ?_
    refine RL.pickT rfl rfl rfl rfl ?_
    refine RL.asg rfl rfl rfl ?_
    refine RL.fin ?_
    cases h18
    exact fun a w st => mid_intro true h19 (St.cut [] ⟨rfl, trivial⟩ (by decide) rfl st)
   replace h18 := ite_f b28 h18
   refine RL.mv rfl rfl rfl ?_
   refine RL.mv rfl rfl rfl ?_
   refine RL.binI (v := .bool (decide (x0 < x1))) rfl rfl rfl rfl rfl ?_
   refine RL.pickF rfl rfl rfl rfl ?_
   refine RL.asg rfl rfl rfl ?_
   refine RL.fin ?_
   cases h18
   exact fun a w st => mid_intro (decide (x0 < x1)) h19 (St.cut [] ⟨rfl, trivial⟩ (by decide) rfl st)
  replace h18 := ite_f b25 h18
  refine RL.skip rfl rfl ?_
  refine RL.skip rfl rfl ?_
  refine RL.skip rfl rfl ?_
  refine RL.pickF rfl rfl rfl rfl ?_
  refine RL.mv rfl rfl rfl ?_
  refine RL.mv rfl rfl rfl ?_
  refine RL.mv rfl rfl rfl ?_
  refine RL.binI (v := .bool (decide (x0 < x1))) rfl rfl rfl rfl rfl ?_
  refine RL.pickF rfl rfl rfl rfl ?_
  refine RL.asg rfl rfl rfl ?_
  refine RL.fin ?_
  cases h18
  exact fun a w st => mid_intro (decide (x0 < x1)) h19 (St.cut [] ⟨rfl, trivial⟩ (by decide) rfl st)
 rintro x15 h29
 have h30 := h20 _ h29
 try dsimp only at h30
 refine GL.weak (env' := [(4, .bool x15)]) (L' := []) (fun _ _ st => st) ?_
 have h30 := Option.some.inj h30
 subst h30
 exact GL.ret (Gx.ret (v := .bool x15) (res1 rfl rfl) (fun a w st => st.toPostC rfl))

set_option maxHeartbeats 4000000 in
theorem slices_insertionSortOrdered_int_c (B : World) (S X : Hp) (f : Nat → Hp) (w : World) (v0 : Value) (x0 : (List Int)) (hO : HeapOk B.heap.size S f [own 3 TR.int v0 x0, keep X].length w) (hB : Below B.heap.size B w) (hI : Its [own 3 TR.int v0 x0, keep X] S f) (x1 : Int) (x2 : Int) (res : (List Int)) (hm : slices_insertionSortOrdered_int_m x0 x1 x2 = some res) : Calls Try.prog 72 #[v0, .int .i64 x1, .int .i64 x2] w (PostM B S (fun (o : Unit) => .tuple #[]) (fun (o : Unit) => [own 3 TR.int v0 res, keep X])) := by
 refine calls_enterM 49 Try.func72 Try.ntmps72 rfl B S f [(0, v0), (1, .int .i64 x1), (2, .int .i64 x2)] [own 3 TR.int v0 x0, keep X] [] rfl ⟨rfl, ⟨rfl, ⟨rfl, trivial⟩⟩⟩ hB hO hI trivial ?_
 unfold slices_insertionSortOrdered_int_m at hm
 refine GL.seq ?_
 refine GL.region ?_
 refine RL.mv rfl rfl rfl ?_
 refine RL.binI (v := .int .i64 (wadd x1 (1 : Int))) rfl rfl rfl rfl rfl ?_
 refine RL.asg rfl rfl rfl ?_
 refine RL.finG ?_
 obtain ⟨y339, K340, h341, h342, h343, h344, h345⟩ := bindR_K hm
 refine GL.join (ι := (List Int) × Int) (fun (p : (List Int) × Int) => []) (fun (p : (List Int) × Int) => [own 3 TR.int v0 p.1, keep X]) (fun (p : (List Int) × Int) => K340 (.nx (p.1, p.2))) ?_ ?_
 ·refine GL.block ?_
  refine GL.loop (ι := Nat × (List Int) × Int) (fun (p : Nat × (List Int) × Int) => [(0, v0), (1, .int .i64 x1), (2, .int .i64 x2), (6, .int .i64 p.2.2)]) (fun (p : Nat × (List Int) × Int) => [own 3 TR.int v0 p.2.1, keep X]) (fun (p : Nat × (List Int) × Int) => loopM (slices_insertionSortOrdered_int_b1 x2 x1) p.1 (p.2.1, p.2.2) = some y339) (fun (p : Nat × (List Int) × Int) => p.1) (1048576, x0, wadd x1 (1 : Int)) h341 (fun a w st => St.cut [0, 1] ⟨rfl, rfl, rfl, rfl, trivial⟩ (by decide) rfl st) ?_
  rintro ⟨r347, l171, x172⟩ h351
  try dsimp only at h351
  refine GL.weak (env' := [(0, v0), (1, .int .i64 x1), (2, .int .i64 x2), (6, .int .i64 x172)]) (L' := [own 3 TR.int v0 l171, keep X]) (fun _ _ st => st) ?_
  obtain ⟨r354, z348, hr, h349, h350⟩ := loopM_some h351
  subst hr
  unfold slices_insertionSortOrdered_int_b1 at h349
  try dsimp only at h349
  refine GL.seq ?_
  refine GL.seq ?_
  refine GL.region ?_
  refine RL.mv rfl rfl rfl ?_
  refine RL.mv rfl rfl rfl ?_
  refine RL.binI (v := .bool (decide (x172 < x2))) rfl rfl rfl rfl rfl ?_
  refine RL.finG ?_
  refine GL.cond rfl (fun b355 => ?_) (fun b355 => ?_)
  ·replace h349 := ite_t b355 h349
   refine GL.skip ?_
   refine GL.seq ?_
   refine GL.block ?_
   refine GL.seq ?_
   refine GL.region ?_
   refine RL.mv rfl rfl rfl ?_
   refine RL.asg rfl rfl rfl ?_
   refine RL.finG ?_
   obtain ⟨y455, K456, h457, h458, h459, h460, h461⟩ := bindF_K h349
   refine GL.join (ι := (List Int) × Int) (fun (p : (List Int) × Int) => [(0, v0), (1, .int .i64 x1), (2, .int .i64 x2), (6, .int .i64 x172)]) (fun (p : (List Int) × Int) => [own 3 TR.int v0 p.1, keep X]) (fun (p : (List Int) × Int) => K456 (.nx (p.1, p.2))) ?_ ?_
   ·refine GL.block ?_
    refine GL.loop (ι := Nat × (List Int) × Int) (fun (p : Nat × (List Int) × Int) => [(0, v0), (1, .int .i64 x1), (2, .int .i64 x2), (6, .int .i64 x172), (7, .int .i64 p.2.2)]) (fun (p : Nat × (List Int) × Int) => [own 3 TR.int v0 p.2.1, keep X]) (fun (p : Nat × (List Int) × Int) => loopM (slices_insertionSortOrdered_int_b2 x1) p.1 (p.2.1, p.2.2) = some y455) (fun (p : Nat × (List Int) × Int) => p.1) (1048576, l171, x172) h457 (fun a w st => St.cut [0, 1] ⟨rfl, rfl, rfl, rfl, rfl, trivial⟩ (by decide) rfl st) ?_
    rintro ⟨r463, l405, x406⟩ h467
    try dsimp only at h467
    refine GL.weak (env' := [(0, v0), (1, .int .i64 x1), (2, .int .i64 x2), (6, .int .i64 x172), (7, .int .i64 x406)]) (L' := [own 3 TR.int v0 l405, keep X]) (fun _ _ st => st) ?_
    obtain ⟨r470, z464, hr, h465, h466⟩ := loopM_some h467
    subst hr
    unfold slices_insertionSortOrdered_int_b2 at h465
    try dsimp only at h465
    refine GL.seq ?_
    refine GL.seq ?_
    obtain ⟨y486, K487, h488, h489, h490, h491, h492⟩ := bindF_K h465
    refine GL.join (ι := Bool) (fun (p : Bool) => [(0, v0), (1, .int .i64 x1), (2, .int .i64 x2), (6, .int .i64 x172), (7, .int .i64 x406), (30, .bool p)]) (fun (p : Bool) => [own 3 TR.int v0 l405, keep X]) (fun (p : Bool) => K487 (.nx p)) ?_ ?_
    ·skip
     refine GL.regionQ rfl rfl (by kernel_rfl) ?_
     refine RL.mv rfl rfl rfl ?_
     refine RL.mv rfl rfl rfl ?_
     refine RL.binI (v := .bool (decide (x406 > x1))) rfl rfl rfl rfl rfl ?_
     refine RL.mv rfl rfl rfl ?_
     refine RL.split (t := 19) rfl (fun b493 => ?_) (fun b493 => ?_)
     ·replace h488 := ite_t b493 h488
      refine RL.mv rfl rfl rfl ?_
      refine RL.mv rfl rfl rfl ?_
      obtain ⟨y494, e495, h488⟩ := bind_some h488
      refine RL.idxS (sz := 1) 0 Try.underlying22 Try_ln3 rfl rfl rfl rfl rfl SlOf.own (idx_some e495).1 (idx_some e495).2.1 ?_
      refine RL.ldSx (i := (x406).toNat) (e' := y494) 0 Ex.ik Try_ln3 rfl rfl rfl rfl SlOf.own (idx_some e495).2.2 Part.self ?_
      refine RL.mv rfl rfl rfl ?_
      refine RL.mv rfl rfl rfl ?_
      refine RL.binI (v := .int .i64 (wsub x406 (1 : Int))) rfl rfl rfl rfl rfl ?_
      obtain ⟨y496, e497, h488⟩ := bind_some h488
      refine RL.idxS (sz := 1) 0 Try.underlying22 Try_ln3 rfl rfl rfl rfl rfl SlOf.own (idx_some e497).1 (idx_some e497).2.1 ?_
      refine RL.ldSx (i := (wsub x406 (1 : Int)).toNat) (e' := y496) 0 Ex.ik Try_ln3 rfl rfl rfl rfl SlOf.own (idx_some e497).2.2 Part.self ?_
      obtain ⟨y498, e499, h488⟩ := bind_some h488
      refine RL.callC (v := .bool y498) (vs := [.int .i64 y494, .int .i64 y496]) Try_fit78 rfl rfl rfl rfl (fun U w hU hW hL => cmp_Less_int_c U w hU y494 y496 _ e499) ?_
      refine RL.pickT rfl rfl rfl rfl ?_
      refine RL.finQ ?_
      cases h488
      exact fun a w st => mid_intro y498 h489 (St.cut [0, 1] ⟨rfl, rfl, rfl, rfl, rfl, rfl, trivial⟩ (by decide) rfl st)
     replace h488 := ite_f b493 h488
     refine RL.skip rfl rfl ?_
     refine RL.skip rfl rfl ?_
     refine RL.skip rfl rfl ?_
     refine RL.skip rfl rfl ?_
     refine RL.skip rfl rfl ?_
     refine RL.skip rfl rfl ?_
     refine RL.skip rfl rfl ?_
     refine RL.skip rfl rfl ?_
     refine RL.skip rfl rfl ?_
     refine RL.skip rfl rfl ?_
     refine RL.pickF rfl rfl rfl rfl ?_
     refine RL.finQ ?_
     cases h488
     exact fun a w st => mid_intro false h489 (St.cut [0, 1] ⟨rfl, rfl, rfl, rfl, rfl, rfl, trivial⟩ (by decide) rfl st)
    rintro x485 h500
    have h501 := h490 _ h500
    try dsimp only at h501
    refine GL.weak (env' := [(0, v0), (1, .int .i64 x1), (2, .int .i64 x2), (6, .int .i64 x172), (7, .int .i64 x406), (30, .bool x485)]) (L' := [own 3 TR.int v0 l405, keep X]) (fun _ _ st => st) ?_
    refine GL.cond rfl (fun b502 => ?_) (fun b502 => ?_)
    ·replace h501 := ite_t b502 h501
     refine GL.skip ?_
     refine GL.seq ?_
     refine GL.block ?_
     refine GL.regionA rfl rfl ?_
     refine RA.mv 0 rfl (by kernel_rfl) rfl rfl rfl ?_
     refine RA.mv 1 rfl (by kernel_rfl) rfl rfl rfl ?_
     refine RA.mv 2 rfl (by kernel_rfl) rfl rfl rfl ?_
     refine RA.mv 3 rfl (by kernel_rfl) rfl rfl rfl ?_
     refine RA.binI (v := .int .i64 (wsub x406 (1 : Int))) 4 rfl (by kernel_rfl) rfl rfl rfl rfl rfl ?_
     refine RA.mv 5 rfl (by kernel_rfl) rfl rfl rfl ?_
     refine RA.mv 6 rfl (by kernel_rfl) rfl rfl rfl ?_
     refine RA.binI (v := .int .i64 (wsub x406 (1 : Int))) 7 rfl (by kernel_rfl) rfl rfl rfl rfl rfl ?_
     obtain ⟨y511, e512, h501⟩ := bind_some h501
     refine RA.idxS (sz := 1) 0 Try.underlying22 Try_ln3 8 rfl (by kernel_rfl) rfl rfl rfl rfl rfl SlOf.own (idx_some e512).1 (idx_some e512).2.1 ?_
     refine RA.mv 10 rfl (by kernel_rfl) rfl rfl rfl ?_
     refine RA.mv 11 rfl (by kernel_rfl) rfl rfl rfl ?_
     obtain ⟨y513, e514, h501⟩ := bind_some h501
     refine RA.idxS (sz := 1) 0 Try.underlying22 Try_ln3 12 rfl (by kernel_rfl) rfl rfl rfl rfl rfl SlOf.own (idx_some e514).1 (idx_some e514).2.1 ?_
     refine RA.still (le := #[true, true, true, true, true, true, true, true, true, true, true, true, true, true, true, false, false, false]) (f := 3) [9, 13, 14] 15 rfl (by kernel_rfl) ?_
     simp only [pickOps, List.getElem?_toArray, List.getElem?_cons_succ, List.getElem?_cons_zero]
     refine RL.ldSx (i := (wsub x406 (1 : Int)).toNat) (e' := y511) 0 Ex.ik Try_ln3 rfl rfl rfl rfl SlOf.own (idx_some e512).2.2 Part.self ?_
     refine RL.ldSx (i := (x406).toNat) (e' := y513) 0 Ex.ik Try_ln3 rfl rfl rfl rfl SlOf.own (idx_some e514).2.2 Part.self ?_
     obtain ⟨y515, e516, h501⟩ := bind_some h501
     refine RL.idxS (sz := 1) 0 Try.underlying22 Try_ln3 rfl rfl rfl rfl rfl SlOf.own (idx_some e516).1 (idx_some e516).2.1 ?_
     refine RL.finH ?_
     refine RL.fin ?_
     refine RA.next ?_
     refine RA.seq 15 rfl (by kernel_rfl) ?_
     refine RL.stS (i := (x406).toNat) (e' := y511) (e1 := y511) (r := TR.int) 0 Try_ln3 rfl rfl rfl rfl VR.int rfl (idx_some e516).2.2 Upd.self ?_
     refine RL.fin ?_
     refine RA.next ?_
     obtain ⟨y517, e518, h501⟩ := bind_some h501
     refine RA.idxS (sz := 1) 0 Try.underlying22 Try_ln3 16 rfl (by kernel_rfl) rfl rfl rfl rfl rfl SlOf.own (idx_some e518).1 (idx_some e518).2.1 ?_
     refine RA.seq 17 rfl (by kernel_rfl) ?_
     refine RL.stS (i := (wsub x406 (1 : Int)).toNat) (e' := y513) (e1 := y513) (r := TR.int) 0 Try_ln3 rfl rfl rfl rfl VR.int rfl (idx_some e518).2.2 Upd.self ?_
     refine RL.fin ?_
     refine RA.next ?_
     refine RA.doneG (by kernel_rfl) ?_
     refine GL.weak (env' := [(0, v0), (1, .int .i64 x1), (2, .int .i64 x2), (6, .int .i64 x172), (7, .int .i64 x406)]) (L' := [own 3 TR.int v0 (List.set (List.set l405 ((x406).toNat) y511) ((wsub x406 (1 : Int)).toNat) y513), keep X]) (fun a w st => St.cut [0, 1] ⟨rfl, rfl, rfl, rfl, rfl, trivial⟩ (by decide) rfl st) ?_
     refine GL.nilB ?_
     refine GL.region ?_
     refine RL.mv rfl rfl rfl ?_
     refine RL.binI (v := .int .i64 (wsub x406 (1 : Int))) rfl rfl rfl rfl rfl ?_
     refine RL.asg rfl rfl rfl ?_
     refine RL.finG ?_
     cases h501
     exact fun a w st => lop_intro (r470, (List.set (List.set l405 ((x406).toNat) y511) ((wsub x406 (1 : Int)).toNat) y513), wsub x406 (1 : Int)) (by exact h466) (by simp) (St.cut [0, 1] ⟨rfl, rfl, rfl, rfl, rfl, trivial⟩ (by decide) rfl st)
    replace h501 := ite_f b502 h501
    cases h501
    replace h466 : some (Fl.nx _) = some y455 := h466
    cases h466
    exact GL.exit (fun a w st => mid_intro (l405, x406) h458 (St.cut [0, 1] ⟨rfl, rfl, rfl, rfl, trivial⟩ (by decide) rfl st))
   rintro ⟨l405, x406⟩ h519
   have h520 := h459 _ h519
   try dsimp only at h520
   refine GL.weak (env' := [(0, v0), (1, .int .i64 x1), (2, .int .i64 x2), (6, .int .i64 x172)]) (L' := [own 3 TR.int v0 l405, keep X]) (fun _ _ st => st) ?_
   refine GL.nilB ?_
   refine GL.region ?_
   refine RL.mv rfl rfl rfl ?_
   refine RL.binI (v := .int .i64 (wadd x172 (1 : Int))) rfl rfl rfl rfl rfl ?_
   refine RL.asg rfl rfl rfl ?_
   refine RL.finG ?_
   cases h520
   exact fun a w st => lop_intro (r354, l405, wadd x172 (1 : Int)) (by exact h350) (by simp) (St.cut [0, 1] ⟨rfl, rfl, rfl, rfl, trivial⟩ (by decide) rfl st)
  replace h349 := ite_f b355 h349
  cases h349
  replace h350 : some (Fl.nx _) = some y339 := h350
  cases h350
  exact GL.exit (fun a w st => mid_intro (l171, x172) h342 (St.cut [0, 1] trivial (by decide) rfl st))
 rintro ⟨l171, x172⟩ h521
 have h522 := h343 _ h521
 try dsimp only at h522
 refine GL.weak (env' := []) (L' := [own 3 TR.int v0 l171, keep X]) (fun _ _ st => st) ?_
 have h522 := Option.some.inj h522
 subst h522
 exact GL.nil (Gx.retN (v := .tuple #[]) (res0 rfl) (fun a w st => (st.pick [0, 1] (by decide) rfl).toPostM (V := fun (o : Unit) => .tuple #[]) (LR := fun (o : Unit) => [own 3 TR.int v0 l171, keep X]) ()))

set_option maxHeartbeats 4000000 in
theorem slices_pdqsortOrdered_int_c (B : World) (S X : Hp) (f : Nat → Hp) (w : World) (v0 : Value) (x0 : (List Int)) (hO : HeapOk B.heap.size S f [own 3 TR.int v0 x0, keep X].length w) (hB : Below B.heap.size B w) (hI : Its [own 3 TR.int v0 x0, keep X] S f) (x1 : Int) (x2 : Int) (x3 : Int) (res : (List Int)) (hm : slices_pdqsortOrdered_int_m x0 x1 x2 x3 = some res) : Calls Try.prog 67 #[v0, .int .i64 x1, .int .i64 x2, .int .i64 x3] w (PostM B S (fun (o : Unit) => .tuple #[]) (fun (o : Unit) => [own 3 TR.int v0 res, keep X])) := by
 refine calls_enterM 134 Try.func67 Try.ntmps67 rfl B S f [(0, v0), (1, .int .i64 x1), (2, .int .i64 x2), (3, .int .i64 x3)] [own 3 TR.int v0 x0, keep X] [] rfl ⟨rfl, ⟨rfl, ⟨rfl, ⟨rfl, trivial⟩⟩⟩⟩ hB hO hI trivial ?_
 unfold slices_pdqsortOrdered_int_m at hm
 refine GL.seq ?_
 refine GL.region ?_
 refine RL.asg rfl rfl rfl ?_
 refine RL.finG ?_
 refine GL.seq ?_
 refine GL.region ?_
 refine RL.asg rfl rfl rfl ?_
 refine RL.finG ?_
 obtain ⟨y82, K83, h84, h85, h86, h87, h88⟩ := bindR_K hm
 refine GL.join (ι := (List Int) × Int × Int × Int × Bool × Bool) (fun (p : (List Int) × Int × Int × Int × Bool × Bool) => []) (fun (p : (List Int) × Int × Int × Int × Bool × Bool) => [own 3 TR.int v0 p.1, keep X]) (fun (p : (List Int) × Int × Int × Int × Bool × Bool) => K83 (.nx (p.1, p.2.1, p.2.2.1, p.2.2.2.1, p.2.2.2.2.1, p.2.2.2.2.2))) ?_ ?_
 ·refine GL.block ?_
  refine GL.loop (ι := Nat × (List Int) × Int × Int × Int × Bool × Bool) (fun (p : Nat × (List Int) × Int × Int × Int × Bool × Bool) => [(0, v0), (1, .int .i64 p.2.2.1), (2, .int .i64 p.2.2.2.1), (3, .int .i64 p.2.2.2.2.1), (8, .bool p.2.2.2.2.2.1), (9, .bool p.2.2.2.2.2.2)]) (fun (p : Nat × (List Int) × Int × Int × Int × Bool × Bool) => [own 3 TR.int v0 p.2.1, keep X]) (fun (p : Nat × (List Int) × Int × Int × Int × Bool × Bool) => loopM slices_pdqsortOrdered_int_b1 p.1 (p.2.1, p.2.2.1, p.2.2.2.1, p.2.2.2.2.1, p.2.2.2.2.2.1, p.2.2.2.2.2.2) = some y82) (fun (p : Nat × (List Int) × Int × Int × Int × Bool × Bool) => p.1) (1048576, x0, x1, x2, x3, true, true) h84 (fun a w st => St.cut [0, 1] ⟨rfl, rfl, rfl, rfl, rfl, rfl, trivial⟩ (by decide) rfl st) ?_
  rintro ⟨r90, l43, x44, x45, x46, x47, x48⟩ h94
  try dsimp only at h94
  refine GL.weak (env' := [(0, v0), (1, .int .i64 x44), (2, .int .i64 x45), (3, .int .i64 x46), (8, .bool x47), (9, .bool x48)]) (L' := [own 3 TR.int v0 l43, keep X]) (fun _ _ st => st) ?_
  obtain ⟨r97, z91, hr, h92, h93⟩ := loopM_some h94
  subst hr
  unfold slices_pdqsortOrdered_int_b1 at h92
  try dsimp only at h92
  refine GL.block ?_
  refine GL.seq ?_
  refine GL.region ?_
  refine RL.mv rfl rfl rfl ?_
  refine RL.mv rfl rfl rfl ?_
  refine RL.binI (v := .int .i64 (wsub x45 x44)) rfl rfl rfl rfl rfl ?_
  refine RL.asg rfl rfl rfl ?_
  refine RL.finG ?_
  refine GL.seq ?_
  refine GL.seq ?_
  refine GL.region ?_
  refine RL.mv rfl rfl rfl ?_
  refine RL.binI (v := .bool (decide ((wsub x45 x44) ≤ (12 : Int)))) rfl rfl rfl rfl rfl ?_
  refine RL.finG ?_
  refine GL.cond rfl (fun b98 => ?_) (fun b98 => ?_)
  ·replace h92 := ite_t b98 h92
   refine GL.seq ?_
   refine GL.region ?_
   refine RL.mv rfl rfl rfl ?_
   refine RL.mv rfl rfl rfl ?_
   refine RL.mv rfl rfl rfl ?_
   obtain ⟨y105, e106, h92⟩ := bind_some h92
   refine RL.callK (vs := [v0, .int .i64 x44, .int .i64 x45]) (V := fun (o : Unit) => .tuple #[]) (LR := fun (o : Unit) => [own 3 TR.int v0 y105]) (Ls := [own 3 TR.int v0 l43]) [0] (by decide) Try_fit72 rfl rfl rfl rfl rfl rfl (fun S f X w hO hB hW hI hL => slices_insertionSortOrdered_int_c _ S X f w _ _ hO hB hI x44 x45 _ e106) ?_
   intro _
   refine RL.reL (L' := [gone, keep X, own 3 TR.int v0 y105]) rfl ?_
   refine RL.finG ?_
   cases h92
   replace h93 : some (Fl.rt _) = some y82 := h93
   cases h93
   have hh := h87 _ h85
   subst hh
   exact GL.ret (Gx.ret (v := .tuple #[]) (res0 rfl) (fun a w st => (st.pick [2, 1] (by decide) rfl).toPostM (V := fun (o : Unit) => .tuple #[]) (LR := fun (o : Unit) => [own 3 TR.int v0 y105, keep X]) ()))
  replace h92 := ite_f b98 h92
  refine GL.skip ?_
  refine GL.seq ?_
  refine GL.seq ?_
  refine GL.region ?_
  refine RL.mv rfl rfl rfl ?_
  refine RL.binI (v := .bool (x46 == (0 : Int))) rfl rfl rfl rfl rfl ?_
  refine RL.finG ?_
  refine GL.cond rfl (fun b119 => ?_) (fun b119 => ?_)
  ·replace h92 := ite_t b119 h92
   cases h92
  replace h92 := ite_f b119 h92
  cases h92
 rintro ⟨l43, x44, x45, x46, x47, x48⟩ h131
 have h132 := h86 _ h131
 try dsimp only at h132
 cases h132

set_option maxHeartbeats 4000000 in
theorem slices_Sort_int_int_c (B : World) (S X : Hp) (f : Nat → Hp) (w : World) (v0 : Value) (x0 : (List Int)) (hO : HeapOk B.heap.size S f [own 3 TR.int v0 x0, keep X].length w) (hB : Below B.heap.size B w) (hI : Its [own 3 TR.int v0 x0, keep X] S f)  (res : (List Int)) (hm : slices_Sort_int_int_m x0 = some res) : Calls Try.prog 45 #[v0] w (PostM B S (fun (o : Unit) => .tuple #[]) (fun (o : Unit) => [own 3 TR.int v0 res, keep X])) := by
 refine calls_enterM 11 Try.func45 Try.ntmps45 rfl B S f [(0, v0)] [own 3 TR.int v0 x0, keep X] [] rfl ⟨rfl, trivial⟩ hB hO hI trivial ?_
 unfold slices_Sort_int_int_m at hm
 refine GL.seq ?_
 refine GL.region ?_
 refine RL.mv rfl rfl rfl ?_
 refine RL.lenS 0 Try.underlying22 rfl rfl rfl rfl SlOf.own ?_
 refine RL.asg rfl rfl rfl ?_
 refine RL.finG ?_
 refine GL.region ?_
 refine RL.mv rfl rfl rfl ?_
 refine RL.mv rfl rfl rfl ?_
 refine RL.mv rfl rfl rfl ?_
 refine RL.cvI Try.underlying3 Try.underlying96 rfl rfl rfl ?_
 obtain ⟨y6, e7, hm⟩ := bind_some hm
 refine RL.callC (v := .int .i64 y6) (vs := [.int .u64 (IntKind.wrap .u64 ((x0).length : Int))]) Try_fit68 rfl rfl rfl rfl (fun U w hU hW hL => math_bits_Len_c U w hU (IntKind.wrap .u64 ((x0).length : Int)) _ e7) ?_
 obtain ⟨y8, e9, hm⟩ := bind_some hm
 refine RL.callK (vs := [v0, .int .i64 (0 : Int), .int .i64 ((x0).length : Int), .int .i64 y6]) (V := fun (o : Unit) => .tuple #[]) (LR := fun (o : Unit) => [own 3 TR.int v0 y8]) (Ls := [own 3 TR.int v0 x0]) [0] (by decide) Try_fit67 rfl rfl rfl rfl rfl rfl (fun S f X w hO hB hW hI hL => slices_pdqsortOrdered_int_c _ S X f w _ _ hO hB hI (0 : Int) ((x0).length : Int) y6 _ e9) ?_
 intro _
 refine RL.reL (L' := [gone, keep X, own 3 TR.int v0 y8]) rfl ?_
 refine RL.finG ?_
 have hm := Option.some.inj hm
 subst hm
 exact GL.nil (Gx.retN (v := .tuple #[]) (res0 rfl) (fun a w st => (st.pick [2, 1] (by decide) rfl).toPostM (V := fun (o : Unit) => .tuple #[]) (LR := fun (o : Unit) => [own 3 TR.int v0 y8, keep X]) ()))

set_option maxHeartbeats 4000000 in
theorem units_Sell_c (S : Hp) (w : World) (hS : S.sub w) (v0 : Value) (x0 : (List Int)) (k0 : ((TR.sl TR.int)).vrep S v0 x0) (x1 : Int) (res : (List Int) × Int × Int) (hm : units_Sell_m x0 x1 = some res) : Calls Try.prog 17 #[v0, .int .i64 x1] w (Post w S (fun (o : Value) => .tuple #[o, .int .i64 res.2.1, .int .i64 res.2.2]) (fun (o : Value) => [own 3 TR.int o res.1])) := by
 refine calls_enter 56 Try.func17 Try.ntmps17 rfl S false [(0, v0), (1, .int .i64 x1)] [imm (TR.sl TR.int) v0 x0] rfl ⟨rfl, ⟨rfl, trivial⟩⟩ hS ⟨k0, trivial⟩ ?_
 unfold units_Sell_m at hm
 refine GL.seq ?_
 refine GL.region ?_
 refine RL.box (t := (TR.sl TR.int)) (e := x0) rfl rfl rfl rfl (VR.item 0 rfl) ?_
 intro v4
 refine RL.asg rfl rfl rfl ?_
 refine RL.asg rfl rfl rfl ?_
 refine RL.asg rfl rfl rfl ?_
 refine RL.finG ?_
 refine GL.seq ?_
 refine GL.seq ?_
 refine GL.region ?_
 refine RL.ldP (off := 0) (r := (TR.sl TR.int)) (e' := x0) 1 Try_ln22 rfl rfl (Or.inr ⟨rfl, rfl⟩) rfl PtOf.obox Part.self ?_
 intro v8
 refine RL.reL (L' := [imm (TR.sl TR.int) v0 x0, obox 22 (TR.sl TR.int) v4 x0, imm (TR.sl TR.int) v8 x0]) rfl ?_
 obtain ⟨y9, e10, hm⟩ := bind_some hm
 refine RL.callC (v := .int .i64 y9) (vs := [v8, .int .i64 (0 : Int)]) Try_fit42 rfl rfl rfl rfl (fun U w hU hW hL => auction_Check_c U w hU _ _ (hL 2 _ _ rfl Seen.imm) (0 : Int) _ e10) ?_
 refine RL.asg rfl rfl rfl ?_
 refine RL.finG ?_
 refine GL.seq ?_
 refine GL.region ?_
 refine RL.mv rfl rfl rfl ?_
 refine RL.binI (v := .bool (y9 != (0 : Int))) rfl rfl rfl rfl rfl ?_
 refine RL.finG ?_
 refine GL.cond rfl (fun b11 => ?_) (fun b11 => ?_)
 ·replace hm := ite_t b11 hm
  refine GL.seq ?_
  refine GL.region ?_
  refine RL.mv rfl rfl rfl ?_
  refine RL.asg rfl rfl rfl ?_
  refine RL.asg rfl rfl rfl ?_
  refine RL.asg rfl rfl rfl ?_
  refine RL.finG ?_
  refine GL.weak (fun a w st => st.nilOwn 3 TR.int) ?_
  have hm := Option.some.inj hm
  subst hm
  exact GL.ret (Gx.ret (v := .tuple #[Value.slice none 0 0, .int .i64 (0 : Int), .int .i64 y9]) (res3 rfl rfl rfl rfl) (fun a w st => (st.pick [3] (by decide) rfl).toPost (Value.slice none 0 0)))
 replace hm := ite_f b11 hm
 refine GL.skip ?_
 refine GL.seq ?_
 refine GL.seq ?_
 obtain ⟨y15, K16, h17, h18, h19, h20, h21⟩ := bindR_K hm
 refine GL.join (ι := Bool) (fun (p : Bool) => [(1, .int .i64 x1), (2, v4), (21, .bool p)]) (fun (p : Bool) => [obox 22 (TR.sl TR.int) v4 x0]) (fun (p : Bool) => K16 (.nx p)) ?_ ?_
 ·skip
  refine GL.region ?_
  refine RL.mv rfl rfl rfl ?_
  refine RL.binI (v := .bool (decide (x1 < (0 : Int)))) rfl rfl rfl rfl rfl ?_
  refine RL.mv rfl rfl rfl ?_
  refine RL.split (t := 18) rfl (fun b22 => ?_) (fun b22 => ?_)
  ·replace h17 := ite_t b22 h17
   refine RL.skip rfl rfl ?_
   refine RL.skip rfl rfl ?_
   refine RL.pickT rfl rfl rfl rfl ?_
   refine RL.fin ?_
   cases h17
   exact fun a w st => mid_intro true h18 (St.cut [1] ⟨rfl, rfl, rfl, trivial⟩ (by decide) rfl st)
  replace h17 := ite_f b22 h17
  refine RL.mv rfl rfl rfl ?_
  refine RL.binI (v := .bool (decide (x1 > (10 : Int)))) rfl rfl rfl rfl rfl ?_
  refine RL.pickF rfl rfl rfl rfl ?_
  refine RL.fin ?_
  cases h17
  exact fun a w st => mid_intro (decide (x1 > (10 : Int))) h18 (St.cut [1] ⟨rfl, rfl, rfl, trivial⟩ (by decide) rfl st)
 rintro x14 h23
 have h24 := h19 _ h23
 try dsimp only at h24
 refine GL.weak (env' := [(1, .int .i64 x1), (2, v4), (21, .bool x14)]) (L' := [obox 22 (TR.sl TR.int) v4 x0]) (fun _ _ st => st) ?_
 refine GL.cond rfl (fun b25 => ?_) (fun b25 => ?_)
 ·replace h24 := ite_t b25 h24
  refine GL.seq ?_
  refine GL.region ?_
  refine RL.asg rfl rfl rfl ?_
  refine RL.asg rfl rfl rfl ?_
  refine RL.asg rfl rfl rfl ?_
  refine RL.finG ?_
  refine GL.weak (fun a w st => st.nilOwn 3 TR.int) ?_
  have h24 := Option.some.inj h24
  subst h24
  exact GL.ret (Gx.ret (v := .tuple #[Value.slice none 0 0, .int .i64 (0 : Int), .int .i64 (1 : Int)]) (res3 rfl rfl rfl rfl) (fun a w st => (st.pick [1] (by decide) rfl).toPost (Value.slice none 0 0)))
 replace h24 := ite_f b25 h24
 refine GL.skip ?_
 refine GL.seq ?_
 refine GL.region ?_
 refine RL.ldP (off := 0) (r := (TR.sl TR.int)) (e' := x0) 0 Try_ln22 rfl rfl (Or.inr ⟨rfl, rfl⟩) rfl PtOf.obox Part.self ?_
 intro v30
 refine RL.lenS 1 Try.underlying22 rfl rfl rfl rfl SlOf.imm ?_
 obtain ⟨y31, e32, h24⟩ := bind_some h24
 replace e32 := chk_some e32
 refine RL.mkS (t := TR.int) (z := (0 : Int)) Try.underlying22 Try_lo3 (fun S => rfl) rfl rfl rfl rfl e32.1 e32.2 ?_
 intro v33
 refine RL.reL (L' := [obox 22 (TR.sl TR.int) v4 x0, imm (TR.sl TR.int) v30 x0, own 3 TR.int v33 (List.replicate (((x0).length : Int)).toNat (0 : Int))]) rfl ?_
 refine RL.asg rfl rfl rfl ?_
 refine RL.finG ?_
 refine GL.seq ?_
 refine GL.seq ?_
 refine GL.region ?_
 refine RL.mv rfl rfl rfl ?_
 refine RL.lenS 2 Try.underlying22 rfl rfl rfl rfl SlOf.own ?_
 refine RL.mv rfl rfl rfl ?_
 refine RL.finG ?_
 refine GL.lenOwn 2 rfl (fun n43 => ?_)
 obtain ⟨y44, K45, h46, h47, h48, h49, h50⟩ := bindR_K h24
 refine GL.join (ι := (List Int)) (fun (p : (List Int)) => [(1, .int .i64 x1), (2, v4), (8, v33)]) (fun (p : (List Int)) => [obox 22 (TR.sl TR.int) v4 x0, own 3 TR.int v33 p]) (fun (p : (List Int)) => K45 (.nx p)) ?_ ?_
 ·refine GL.block ?_
  refine GL.loop (ι := Nat × Nat × (List Int)) (fun (p : Nat × Nat × (List Int)) => [(1, .int .i64 x1), (2, v4), (8, v33), (26, .int .i64 (((List.replicate (((x0).length : Int)).toNat (0 : Int))).length : Int)), (27, .int .i64 (p.1 : Int))]) (fun (p : Nat × Nat × (List Int)) => [obox 22 (TR.sl TR.int) v4 x0, own 3 TR.int v33 p.2.2]) (fun (p : Nat × Nat × (List Int)) => p.1 + p.2.1 = ((List.replicate (((x0).length : Int)).toNat (0 : Int))).length ∧ rangeN units_Sell_b1 p.2.1 p.1 p.2.2 = some y44) (fun (p : Nat × Nat × (List Int)) => p.2.1) (0, ((List.replicate (((x0).length : Int)).toNat (0 : Int))).length, (List.replicate (((x0).length : Int)).toNat (0 : Int))) ⟨by simp, h46⟩ (fun a w st => St.cut [0, 2] ⟨rfl, rfl, rfl, rfl, rfl, trivial⟩ (by decide) rfl st) ?_
  rintro ⟨i51, r52, l38⟩ ⟨h57, h56⟩
  try dsimp only at h57 h56
  refine GL.weak (env' := [(1, .int .i64 x1), (2, v4), (8, v33), (26, .int .i64 (((List.replicate (((x0).length : Int)).toNat (0 : Int))).length : Int)), (27, .int .i64 (i51 : Int))]) (L' := [obox 22 (TR.sl TR.int) v4 x0, own 3 TR.int v33 l38]) (fun _ _ st => st) ?_
  refine GL.seq ?_
  refine GL.region ?_
  refine RL.binI (v := .bool (decide ((i51 : Int) < (((List.replicate (((x0).length : Int)).toNat (0 : Int))).length : Int)))) rfl rfl rfl rfl rfl ?_
  refine RL.finG ?_
  refine GL.seq ?_
  refine GL.cond rfl (fun b59 => ?_) (fun b59 => ?_)
  ·have h60 : i51 < ((List.replicate (((x0).length : Int)).toNat (0 : Int))).length := by have := of_decide_eq_true b59; omega
   obtain ⟨r61, hr⟩ : ∃ m, r52 = m + 1 := ⟨r52 - 1, by omega⟩
   subst hr
   obtain ⟨z53, h54, h55⟩ := rangeN_some h56
   unfold units_Sell_b1 at h54
   try dsimp only at h54
   refine GL.skip ?_
   refine GL.seq ?_
   refine GL.block ?_
   refine GL.seq ?_
   refine GL.region ?_
   refine RL.mv rfl rfl rfl ?_
   refine RL.asg rfl rfl rfl ?_
   refine RL.finG ?_
   refine GL.region ?_
   refine RL.mv rfl rfl rfl ?_
   refine RL.mv rfl rfl rfl ?_
   refine RL.mv rfl rfl rfl ?_
   obtain ⟨y64, e65, h54⟩ := bind_some h54
   refine RL.idxS (sz := 1) 1 Try.underlying22 Try_ln3 rfl rfl rfl rfl rfl SlOf.own (idx_some e65).1 (idx_some e65).2.1 ?_
   refine RL.stS (i := i51) (e' := (i51 : Int)) (e1 := (i51 : Int)) (r := TR.int) 1 Try_ln3 rfl rfl rfl rfl VR.int rfl (idx_some e65).2.2 Upd.self ?_
   refine RL.finG ?_
   refine GL.nilB ?_
   refine GL.region ?_
   refine RL.binI (v := .int .i64 ((i51 + 1 : Nat) : Int)) rfl rfl rfl rfl (binI_succ i51 (by omega)) ?_
   refine RL.mv rfl rfl rfl ?_
   refine RL.fin ?_
   cases h54
   exact fun a w st => lop_intro (i51 + 1, r61, (List.set l38 i51 (i51 : Int))) ⟨by show i51 + 1 + r61 = ((List.replicate (((x0).length : Int)).toNat (0 : Int))).length; omega, h55⟩ (by simp) (St.cut [0, 1] ⟨rfl, rfl, rfl, rfl, rfl, trivial⟩ (by decide) rfl st)
  have h60 : ¬ i51 < ((List.replicate (((x0).length : Int)).toNat (0 : Int))).length := by have := of_decide_eq_false b59; omega
  obtain rfl : r52 = 0 := by omega
  replace h56 : some (Fl.nx _) = some y44 := h56
  cases h56
  exact GL.exit (fun a w st => mid_intro l38 h47 (St.cut [0, 1] ⟨rfl, rfl, rfl, trivial⟩ (by decide) rfl st))
 rintro l38 h66
 have h67 := h48 _ h66
 try dsimp only at h67
 refine GL.weak (env' := [(1, .int .i64 x1), (2, v4), (8, v33)]) (L' := [obox 22 (TR.sl TR.int) v4 x0, own 3 TR.int v33 l38]) (fun _ _ st => st) ?_
 refine GL.seq ?_
 refine GL.region ?_
 refine RL.mv rfl rfl rfl ?_
 refine RL.mkF (vs := [v4]) rfl rfl rfl ?_
 refine RL.weak (fun a w st => st.freezeB 0 rfl) ?_
 obtain ⟨y70, e71, h67⟩ := bind_some h67
 refine RL.callK (vs := [v33, .func (.func 44) #[] #[v4]]) (V := fun (o : Unit) => .tuple #[]) (LR := fun (o : Unit) => [own 3 TR.int v33 y70]) (Ls := [own 3 TR.int v33 l38]) [1] (by decide) Try_fit43 rfl rfl rfl rfl rfl rfl (fun S f X w hO hB hW hI hL => slices_SortStableFunc_int_int_c _ S X f w _ _ hO hB hI 44 #[v4] Try_fit44 (fun a0 a1 => units_Sell_1_m a0 a1 x0) (fun U' w' hle hU' a0 a1 rr hr => (units_Sell_1_c U' w' hU' a0 a1 _ _ (TR.vrep_mono hle (hL 0 _ _ rfl Sure.imm)) rr hr).mono (fun _ _ z => z)) _ e71) ?_
 intro _
 refine RL.reL (L' := [imm (TR.ptr (TR.sl TR.int)) v4 x0, gone, own 3 TR.int v33 y70]) rfl ?_
 refine RL.finG ?_
 refine GL.seq ?_
 refine GL.region ?_
 refine RL.asg rfl rfl rfl ?_
 refine RL.finG ?_
 refine GL.seq ?_
 refine GL.seq ?_
 refine GL.region ?_
 refine RL.mv rfl rfl rfl ?_
 refine RL.mv rfl rfl rfl ?_
 refine RL.lenS 2 Try.underlying22 rfl rfl rfl rfl SlOf.own ?_
 refine RL.binI (v := .bool (decide (x1 < ((y70).length : Int)))) rfl rfl rfl rfl rfl ?_
 refine RL.finG ?_
 obtain ⟨y90, K91, h92, h93, h94, h95, h96⟩ := bindR_K h67
 refine GL.join (ι := (List Int) × Int × Value) (fun (p : (List Int) × Int × Value) => [(8, p.2.2), (10, .int .i64 p.2.1)]) (fun (p : (List Int) × Int × Value) => [own 3 TR.int p.2.2 p.1]) (fun (p : (List Int) × Int × Value) => K91 (.nx (p.1, p.2.1))) ?_ ?_
 ·skip
  refine GL.cond rfl (fun b97 => ?_) (fun b97 => ?_)
  ·replace h92 := ite_t b97 h92
   refine GL.seq ?_
   refine GL.regionQ rfl rfl (by kernel_rfl) ?_
   refine RL.ldP (off := 0) (r := (TR.sl TR.int)) (e' := x0) 0 Try_ln22 rfl rfl (Or.inr ⟨rfl, rfl⟩) rfl PtOf.imm Part.self ?_
   intro v103
   refine RL.mv rfl rfl rfl ?_
   refine RL.mv rfl rfl rfl ?_
   obtain ⟨y104, e105, h92⟩ := bind_some h92
   refine RL.idxS (sz := 1) 2 Try.underlying22 Try_ln3 rfl rfl rfl rfl rfl SlOf.own (idx_some e105).1 (idx_some e105).2.1 ?_
   refine RL.ldSx (i := (x1).toNat) (e' := y104) 2 Ex.ik Try_ln3 rfl rfl rfl rfl SlOf.own (idx_some e105).2.2 Part.self ?_
   obtain ⟨y106, e107, h92⟩ := bind_some h92
   refine RL.idxS (sz := 1) 3 Try.underlying22 Try_ln3 rfl rfl rfl rfl rfl SlOf.imm (idx_some e107).1 (idx_some e107).2.1 ?_
   refine RL.ldSx (i := (y104).toNat) (e' := y106) 3 Ex.ik Try_ln3 rfl rfl rfl rfl SlOf.imm (idx_some e107).2.2 Part.self ?_
   refine RL.asg rfl rfl rfl ?_
   refine RL.finQG ?_
   refine GL.region ?_
   refine RL.mv rfl rfl rfl ?_
   refine RL.mv rfl rfl rfl ?_
   obtain ⟨y110, e111, h92⟩ := bind_some h92
   replace e111 := chk_some e111
   refine RL.cutF (t := TR.int) (i := (x1).toNat) (kd := .i64) 2 Try.underlying22 Try_ln3 rfl rfl rfl (by rw [Int.toNat_of_nonneg (by omega)]; rfl) rfl (by omega) ?_
   refine RL.reL (L' := [imm (TR.ptr (TR.sl TR.int)) v4 x0, gone, own 3 TR.int (relen v33 ((x1).toNat)) (List.take ((x1).toNat) y70), imm (TR.sl TR.int) v103 x0]) rfl ?_
   refine RL.asg rfl rfl rfl ?_
   refine RL.finG ?_
   cases h92
   exact fun a w st => mid_intro ((List.take ((x1).toNat) y70), y106, relen v33 ((x1).toNat)) h93 (St.cut [2] ⟨rfl, rfl, trivial⟩ (by decide) rfl st)
  replace h92 := ite_f b97 h92
  refine GL.skip ?_
  cases h92
  exact fun a w st => mid_intro (y70, (0 : Int), v33) h93 (St.cut [2] ⟨rfl, rfl, trivial⟩ (by decide) rfl st)
 rintro ⟨l87, x89, v88⟩ h112
 have h113 := h94 _ h112
 try dsimp only at h113
 refine GL.weak (env' := [(8, v88), (10, .int .i64 x89)]) (L' := [own 3 TR.int v88 l87]) (fun _ _ st => st) ?_
 refine GL.seq ?_
 refine GL.region ?_
 refine RL.mv rfl rfl rfl ?_
 obtain ⟨y116, e117, h113⟩ := bind_some h113
 refine RL.callK (vs := [v88]) (V := fun (o : Unit) => .tuple #[]) (LR := fun (o : Unit) => [own 3 TR.int v88 y116]) (Ls := [own 3 TR.int v88 l87]) [0] (by decide) Try_fit45 rfl rfl rfl rfl rfl rfl (fun S f X w hO hB hW hI hL => slices_Sort_int_int_c _ S X f w _ _ hO hB hI  _ e117) ?_
 intro _
 refine RL.reL (L' := [gone, own 3 TR.int v88 y116]) rfl ?_
 refine RL.finG ?_
 refine GL.seq ?_
 refine GL.region ?_
 refine RL.mv rfl rfl rfl ?_
 refine RL.mv rfl rfl rfl ?_
 refine RL.asg rfl rfl rfl ?_
 refine RL.asg rfl rfl rfl ?_
 refine RL.asg rfl rfl rfl ?_
 refine RL.finG ?_
 have h113 := Option.some.inj h113
 subst h113
 exact GL.ret (Gx.ret (v := .tuple #[v88, .int .i64 x89, .int .i64 (0 : Int)]) (res3 rfl rfl rfl rfl) (fun a w st => (st.pick [1] (by decide) rfl).toPost v88))

set_option maxHeartbeats 4000000 in
theorem order_Check_c (S : Hp) (w : World) (hS : S.sub w) (x0 : Int) (v1 : Value) (x1 : (List Int)) (k1 : ((TR.sl TR.int)).vrep S v1 x1) (res : Int) (hm : order_Check_m x0 x1 = some res) : Calls Try.prog 48 #[.int .i64 x0, v1] w (PostV w (.int .i64 res)) := by
 refine calls_enter 39 Try.func48 Try.ntmps48 rfl S false [(0, .int .i64 x0), (1, v1)] [imm (TR.sl TR.int) v1 x1] rfl ⟨rfl, ⟨rfl, trivial⟩⟩ hS ⟨k1, trivial⟩ ?_
 unfold order_Check_m at hm
 refine GL.seq ?_
 refine GL.region ?_
 refine RL.asg rfl rfl rfl ?_
 refine RL.finG ?_
 refine GL.seq ?_
 refine GL.seq ?_
 obtain ⟨y6, K7, h8, h9, h10, h11, h12⟩ := bindR_K hm
 refine GL.join (ι := Bool) (fun (p : Bool) => [(0, .int .i64 x0), (1, v1), (13, .bool p)]) (fun (p : Bool) => [imm (TR.sl TR.int) v1 x1]) (fun (p : Bool) => K7 (.nx p)) ?_ ?_
 ·skip
  refine GL.region ?_
  refine RL.mv rfl rfl rfl ?_
  refine RL.binI (v := .bool (decide (x0 < (1 : Int)))) rfl rfl rfl rfl rfl ?_
  refine RL.mv rfl rfl rfl ?_
  refine RL.split (t := 10) rfl (fun b13 => ?_) (fun b13 => ?_)
  ·replace h8 := ite_t b13 h8
   refine RL.skip rfl rfl ?_
   refine RL.skip rfl rfl ?_
   refine RL.pickT rfl rfl rfl rfl ?_
   refine RL.fin ?_
   cases h8
   exact fun a w st => mid_intro true h9 (St.cut [0] ⟨rfl, rfl, rfl, trivial⟩ (by decide) rfl st)
  replace h8 := ite_f b13 h8
  refine RL.mv rfl rfl rfl ?_
  refine RL.binI (v := .bool (decide (x0 > (6 : Int)))) rfl rfl rfl rfl rfl ?_
  refine RL.pickF rfl rfl rfl rfl ?_
  refine RL.fin ?_
  cases h8
  exact fun a w st => mid_intro (decide (x0 > (6 : Int))) h9 (St.cut [0] ⟨rfl, rfl, rfl, trivial⟩ (by decide) rfl st)
 rintro x5 h14
 have h15 := h10 _ h14
 try dsimp only at h15
 refine GL.weak (env' := [(0, .int .i64 x0), (1, v1), (13, .bool x5)]) (L' := [imm (TR.sl TR.int) v1 x1]) (fun _ _ st => st) ?_
 refine GL.cond rfl (fun b16 => ?_) (fun b16 => ?_)
 ·replace h15 := ite_t b16 h15
  refine GL.seq ?_
  refine GL.region ?_
  refine RL.asg rfl rfl rfl ?_
  refine RL.finG ?_
  have h15 := Option.some.inj h15
  subst h15
  exact GL.ret (Gx.ret (v := .int .i64 (1 : Int)) (res1 rfl rfl) (fun a w st => st.toPostV))
 replace h15 := ite_f b16 h15
 refine GL.skip ?_
 refine GL.seq ?_
 refine GL.region ?_
 refine RL.alloc (t := (TR.arr 6 TR.bool)) (z := (List.replicate 6 false)) Try_lo97 (fun S => ⟨rfl, ⟨_, _, rfl, rfl, ⟨_, _, rfl, rfl, ⟨_, _, rfl, rfl, ⟨_, _, rfl, rfl, ⟨_, _, rfl, rfl, ⟨_, _, rfl, rfl, rfl⟩⟩⟩⟩⟩⟩⟩) rfl rfl rfl ?_
 intro v18
 refine RL.finG ?_
 refine GL.seq ?_
 refine GL.seq ?_
 refine GL.region ?_
 refine RL.mv rfl rfl rfl ?_
 refine RL.lenS 0 Try.underlying22 rfl rfl rfl rfl SlOf.imm ?_
 refine RL.mv rfl rfl rfl ?_
 refine RL.finG ?_
 refine GL.open_ 0 rfl (fun S h => len_imm S h) (fun n82 => ?_)
 obtain ⟨y83, K84, h85, h86, h87, h88, h89⟩ := bindR_K h15
 refine GL.join (ι := (List Bool)) (fun (p : (List Bool)) => [(0, .int .i64 x0), (1, v1)]) (fun (p : (List Bool)) => [imm (TR.sl TR.int) v1 x1]) (fun (p : (List Bool)) => K84 (.nx p)) ?_ ?_
 ·refine GL.block ?_
  refine GL.loop (ι := Nat × (List Int) × (List Bool)) (fun (p : Nat × (List Int) × (List Bool)) => [(0, .int .i64 x0), (1, v1), (5, v18), (14, v1), (15, .int .i64 ((x1).length : Int)), (16, .int .i64 (p.1 : Int))]) (fun (p : Nat × (List Int) × (List Bool)) => [imm (TR.sl TR.int) v1 x1, obox 97 (TR.arr 6 TR.bool) v18 p.2.2]) (fun (p : Nat × (List Int) × (List Bool)) => p.1 + p.2.1.length = (x1).length ∧ List.drop p.1 x1 = p.2.1 ∧ rangeL (order_Check_b1 x0) p.2.1 p.1 p.2.2 = some y83) (fun (p : Nat × (List Int) × (List Bool)) => p.2.1.length) (0, x1, (List.replicate 6 false)) ⟨by simp, by simp, h85⟩ (fun a w st => St.cut [0, 1] ⟨rfl, rfl, rfl, rfl, rfl, rfl, trivial⟩ (by decide) rfl st) ?_
  rintro ⟨i90, r91, l50⟩ ⟨h96, h97, h95⟩
  try dsimp only at h96 h97 h95
  refine GL.weak (env' := [(0, .int .i64 x0), (1, v1), (5, v18), (14, v1), (15, .int .i64 ((x1).length : Int)), (16, .int .i64 (i90 : Int))]) (L' := [imm (TR.sl TR.int) v1 x1, obox 97 (TR.arr 6 TR.bool) v18 l50]) (fun _ _ st => st) ?_
  refine GL.seq ?_
  refine GL.region ?_
  refine RL.binI (v := .bool (decide ((i90 : Int) < ((x1).length : Int)))) rfl rfl rfl rfl rfl ?_
  refine RL.finG ?_
  refine GL.seq ?_
  refine GL.cond rfl (fun b98 => ?_) (fun b98 => ?_)
  ·have h99 : i90 < (x1).length := by have := of_decide_eq_true b98; omega
   obtain ⟨y100, r102, hr, e101, h103⟩ := drop_cons h97 rfl h99
   subst hr
   obtain ⟨z92, h93, h94⟩ := rangeL_some h95
   unfold order_Check_b1 at h93
   try dsimp only at h93
   refine GL.skip ?_
   refine GL.seq ?_
   refine GL.block ?_
   refine GL.seq ?_
   refine GL.region ?_
   refine RL.idxS (sz := 1) 0 Try.underlying22 Try_ln3 rfl rfl rfl rfl rfl SlOf.imm (by omega) (by omega) ?_
   refine RL.ldSx (i := i90) (e' := y100) 0 Ex.ik Try_ln3 rfl rfl rfl rfl SlOf.imm e101 Part.self ?_
   refine RL.asg rfl rfl rfl ?_
   refine RL.finG ?_
   refine GL.seq ?_
   refine GL.seq ?_
   obtain ⟨y113, K114, h115, h116, h117, h118, h119⟩ := bindF_K h93
   refine GL.join (ι := Bool) (fun (p : Bool) => [(0, .int .i64 x0), (1, v1), (5, v18), (7, .int .i64 y100), (14, v1), (15, .int .i64 ((x1).length : Int)), (16, .int .i64 (i90 : Int)), (31, .bool p)]) (fun (p : Bool) => [imm (TR.sl TR.int) v1 x1, obox 97 (TR.arr 6 TR.bool) v18 l50]) (fun (p : Bool) => K114 (.nx p)) ?_ ?_
   ·skip
    refine GL.region ?_
    refine RL.mv rfl rfl rfl ?_
    refine RL.binI (v := .bool (decide (y100 < (0 : Int)))) rfl rfl rfl rfl rfl ?_
    refine RL.mv rfl rfl rfl ?_
    refine RL.split (t := 22) rfl (fun b120 => ?_) (fun b120 => ?_)
    ·replace h115 := ite_t b120 h115
     refine RL.skip rfl rfl ?_
     refine RL.skip rfl rfl ?_
     refine RL.skip rfl rfl ?_
     refine RL.pickT rfl rfl rfl rfl ?_
     refine RL.mv rfl rfl rfl ?_
     refine RL.skip rfl rfl ?_
     refine RL.skip rfl rfl ?_
     refine RL.skip rfl rfl ?_
     refine RL.pickT rfl rfl rfl rfl ?_
     refine RL.fin ?_
     cases h115
     exact fun a w st => mid_intro true h116 (St.cut [0, 1] ⟨rfl, rfl, rfl, rfl, rfl, rfl, rfl, rfl, trivial⟩ (by decide) rfl st)
    replace h115 := ite_f b120 h115
    refine RL.mv rfl rfl rfl ?_
    refine RL.mv rfl rfl rfl ?_
    refine RL.binI (v := .bool (decide (y100 ≥ x0))) rfl rfl rfl rfl rfl ?_
    refine RL.pickF rfl rfl rfl rfl ?_
    refine RL.mv rfl rfl rfl ?_
    refine RL.split (t := 27) rfl (fun b121 => ?_) (fun b121 => ?_)
    ·replace h115 := ite_t b121 h115
     refine RL.skip rfl rfl ?_
     refine RL.skip rfl rfl ?_
     refine RL.skip rfl rfl ?_
     refine RL.pickT rfl rfl rfl rfl ?_
     refine RL.fin ?_
     cases h115
     exact fun a w st => mid_intro true h116 (St.cut [0, 1] ⟨rfl, rfl, rfl, rfl, rfl, rfl, rfl, rfl, trivial⟩ (by decide) rfl st)
    replace h115 := ite_f b121 h115
    refine RL.mv rfl rfl rfl ?_
    obtain ⟨y122, e123, h115⟩ := bind_some h115
    refine RL.idxA0 (sz := 1) (t' := TR.bool) 1 Try.underlying97 Try_ln4 rfl rfl rfl PtOf.obox rfl rfl Part.self (idx_some e123).1 (idx_some e123).2.1 ?_
    refine RL.ldPx (off := ((y100).toNat * 1)) (e' := y122) 1 Ex.bool Try_ln4 rfl rfl (Or.inl rfl) rfl PtOf.obox (Part.arr (idx_some e123).2.2 Part.self) ?_
    refine RL.pickF rfl rfl rfl rfl ?_
    refine RL.fin ?_
    cases h115
    exact fun a w st => mid_intro y122 h116 (St.cut [0, 1] ⟨rfl, rfl, rfl, rfl, rfl, rfl, rfl, rfl, trivial⟩ (by decide) rfl st)
   rintro x112 h124
   have h125 := h117 _ h124
   try dsimp only at h125
   refine GL.weak (env' := [(0, .int .i64 x0), (1, v1), (5, v18), (7, .int .i64 y100), (14, v1), (15, .int .i64 ((x1).length : Int)), (16, .int .i64 (i90 : Int)), (31, .bool x112)]) (L' := [imm (TR.sl TR.int) v1 x1, obox 97 (TR.arr 6 TR.bool) v18 l50]) (fun _ _ st => st) ?_
   refine GL.cond rfl (fun b126 => ?_) (fun b126 => ?_)
   ·replace h125 := ite_t b126 h125
    refine GL.seq ?_
    refine GL.region ?_
    refine RL.asg rfl rfl rfl ?_
    refine RL.finG ?_
    cases h125
    replace h94 : some (Fl.rt _) = some y83 := h94
    cases h94
    have hh := h88 _ h86
    subst hh
    exact GL.ret (Gx.ret (v := .int .i64 (3 : Int)) (res1 rfl rfl) (fun a w st => st.toPostV))
   replace h125 := ite_f b126 h125
   refine GL.skip ?_
   refine GL.region ?_
   refine RL.mv rfl rfl rfl ?_
   obtain ⟨y129, e130, h125⟩ := bind_some h125
   refine RL.idxA0 (sz := 1) (t' := TR.bool) 1 Try.underlying97 Try_ln4 rfl rfl rfl PtOf.obox rfl rfl Part.self (idx_some e130).1 (idx_some e130).2.1 ?_
   refine RL.stP (off := ((y100).toNat * 1)) (e' := true) (d1 := (List.set l50 ((y100).toNat) true)) (r := TR.bool) 1 Try_ln4 rfl rfl (Or.inl rfl) rfl VR.bool rfl (Upd.arr (idx_some e130).2.2 Upd.self) ?_
   refine RL.finG ?_
   refine GL.nilB ?_
   refine GL.region ?_
   refine RL.binI (v := .int .i64 ((i90 + 1 : Nat) : Int)) rfl rfl rfl rfl (binI_succ i90 (by omega)) ?_
   refine RL.mv rfl rfl rfl ?_
   refine RL.fin ?_
   cases h125
   exact fun a w st => lop_intro (i90 + 1, r102, (List.set l50 ((y100).toNat) true)) ⟨by show i90 + 1 + r102.length = (x1).length; simp only [List.length_cons] at h96; omega, h103, h94⟩ (by simp) (St.cut [0, 1] ⟨rfl, rfl, rfl, rfl, rfl, rfl, trivial⟩ (by decide) rfl st)
  have h99 : ¬ i90 < (x1).length := by have := of_decide_eq_false b98; omega
  obtain rfl : r91 = [] := by rw [← h97]; exact List.drop_of_length_le (by omega)
  replace h95 : some (Fl.nx _) = some y83 := h95
  cases h95
  exact GL.exit (fun a w st => mid_intro l50 h86 (St.cut [0] ⟨rfl, rfl, trivial⟩ (by decide) rfl st))
 rintro l50 h131
 have h132 := h87 _ h131
 try dsimp only at h132
 refine GL.weak (env' := [(0, .int .i64 x0), (1, v1)]) (L' := [imm (TR.sl TR.int) v1 x1]) (fun _ _ st => st) ?_
 refine GL.seq ?_
 refine GL.seq ?_
 refine GL.region ?_
 refine RL.mv rfl rfl rfl ?_
 refine RL.lenS 0 Try.underlying22 rfl rfl rfl rfl SlOf.imm ?_
 refine RL.mv rfl rfl rfl ?_
 refine RL.binI (v := .bool (((x1).length : Int) != x0)) rfl rfl rfl rfl rfl ?_
 refine RL.finG ?_
 refine GL.cond rfl (fun b133 => ?_) (fun b133 => ?_)
 ·replace h132 := ite_t b133 h132
  refine GL.seq ?_
  refine GL.region ?_
  refine RL.asg rfl rfl rfl ?_
  refine RL.finG ?_
  have h132 := Option.some.inj h132
  subst h132
  exact GL.ret (Gx.ret (v := .int .i64 (3 : Int)) (res1 rfl rfl) (fun a w st => st.toPostV))
 replace h132 := ite_f b133 h132
 refine GL.skip ?_
 refine GL.seq ?_
 refine GL.region ?_
 refine RL.asg rfl rfl rfl ?_
 refine RL.finG ?_
 have h132 := Option.some.inj h132
 subst h132
 exact GL.ret (Gx.ret (v := .int .i64 (0 : Int)) (res1 rfl rfl) (fun a w st => st.toPostV))

set_option maxHeartbeats 4000000 in
theorem slices_Index_int_int_c (S : Hp) (w : World) (hS : S.sub w) (v0 : Value) (x0 : (List Int)) (k0 : ((TR.sl TR.int)).vrep S v0 x0) (x1 : Int) (res : Int) (hm : slices_Index_int_int_m x0 x1 = some res) : Calls Try.prog 50 #[v0, .int .i64 x1] w (PostC w (.int .i64 res)) := by
 refine calls_enter 19 Try.func50 Try.ntmps50 rfl S true [(0, v0), (1, .int .i64 x1)] [imm (TR.sl TR.int) v0 x0] rfl ⟨rfl, ⟨rfl, trivial⟩⟩ hS ⟨k0, trivial⟩ ?_
 unfold slices_Index_int_int_m at hm
 refine GL.seq ?_
 refine GL.region ?_
 refine RL.asg rfl rfl rfl ?_
 refine RL.finG ?_
 refine GL.seq ?_
 refine GL.seq ?_
 refine GL.region ?_
 refine RL.mv rfl rfl rfl ?_
 refine RL.lenS 0 Try.underlying22 rfl rfl rfl rfl SlOf.imm ?_
 refine RL.mv rfl rfl rfl ?_
 refine RL.finG ?_
 refine GL.open_ 0 rfl (fun S h => len_imm S h) (fun n8 => ?_)
 obtain ⟨y9, K10, h11, h12, h13, h14, h15⟩ := bindR_K hm
 refine GL.join (ι := Unit) (fun (p : Unit) => []) (fun (p : Unit) => []) (fun (p : Unit) => K10 (.nx ())) ?_ ?_
 ·refine GL.block ?_
  refine GL.loop (ι := Nat × (List Int)) (fun (p : Nat × (List Int)) => [(0, v0), (1, .int .i64 x1), (7, .int .i64 ((x0).length : Int)), (8, .int .i64 (p.1 : Int))]) (fun (p : Nat × (List Int)) => [imm (TR.sl TR.int) v0 x0]) (fun (p : Nat × (List Int)) => p.1 + p.2.length = (x0).length ∧ List.drop p.1 x0 = p.2 ∧ rangeL (slices_Index_int_int_b1 x1) p.2 p.1 () = some y9) (fun (p : Nat × (List Int)) => p.2.length) (0, x0) ⟨by simp, by simp, h11⟩ (fun a w st => St.cut [0] ⟨rfl, rfl, rfl, rfl, trivial⟩ (by decide) rfl st) ?_
  rintro ⟨i17, r18⟩ ⟨h23, h24, h22⟩
  try dsimp only at h23 h24 h22
  refine GL.weak (env' := [(0, v0), (1, .int .i64 x1), (7, .int .i64 ((x0).length : Int)), (8, .int .i64 (i17 : Int))]) (L' := [imm (TR.sl TR.int) v0 x0]) (fun _ _ st => st) ?_
  refine GL.seq ?_
  refine GL.region ?_
  refine RL.binI (v := .bool (decide ((i17 : Int) < ((x0).length : Int)))) rfl rfl rfl rfl rfl ?_
  refine RL.finG ?_
  refine GL.seq ?_
  refine GL.cond rfl (fun b25 => ?_) (fun b25 => ?_)
  ·have h26 : i17 < (x0).length := by have := of_decide_eq_true b25; omega
   obtain ⟨y27, r29, hr, e28, h30⟩ := drop_cons h24 rfl h26
   subst hr
   obtain ⟨z19, h20, h21⟩ := rangeL_some h22
   unfold slices_Index_int_int_b1 at h20
   try dsimp only at h20
   refine GL.skip ?_
   refine GL.seq ?_
   refine GL.block ?_
   refine GL.seq ?_
   refine GL.region ?_
   refine RL.mv rfl rfl rfl ?_
   refine RL.asg rfl rfl rfl ?_
   refine RL.finG ?_
   refine GL.seq ?_
   refine GL.region ?_
   refine RL.mv rfl rfl rfl ?_
   refine RL.mv rfl rfl rfl ?_
   refine RL.mv rfl rfl rfl ?_
   refine RL.idxS (sz := 1) 0 Try.underlying22 Try_ln3 rfl rfl rfl rfl rfl SlOf.imm (by omega) (by omega) ?_
   refine RL.ldSx (i := i17) (e' := y27) 0 Ex.ik Try_ln3 rfl rfl rfl rfl SlOf.imm e28 Part.self ?_
   refine RL.binI (v := .bool (x1 == y27)) rfl rfl rfl rfl rfl ?_
   refine RL.finG ?_
   refine GL.cond rfl (fun b31 => ?_) (fun b31 => ?_)
   ·replace h20 := ite_t b31 h20
    refine GL.seq ?_
    refine GL.region ?_
    refine RL.mv rfl rfl rfl ?_
    refine RL.asg rfl rfl rfl ?_
    refine RL.finG ?_
    cases h20
    replace h21 : some (Fl.rt _) = some y9 := h21
    cases h21
    have hh := h14 _ h12
    subst hh
    exact GL.ret (Gx.ret (v := .int .i64 (i17 : Int)) (res1 rfl rfl) (fun a w st => st.toPostC rfl))
   replace h20 := ite_f b31 h20
   refine GL.skip ?_
   refine GL.nilB ?_
   refine GL.region ?_
   refine RL.binI (v := .int .i64 ((i17 + 1 : Nat) : Int)) rfl rfl rfl rfl (binI_succ i17 (by omega)) ?_
   refine RL.mv rfl rfl rfl ?_
   refine RL.fin ?_
   cases h20
   exact fun a w st => lop_intro (i17 + 1, r29) ⟨by show i17 + 1 + r29.length = (x0).length; simp only [List.length_cons] at h23; omega, h30, h21⟩ (by simp) (St.cut [0] ⟨rfl, rfl, rfl, rfl, trivial⟩ (by decide) rfl st)
  have h26 : ¬ i17 < (x0).length := by have := of_decide_eq_false b25; omega
  obtain rfl : r18 = [] := by rw [← h24]; exact List.drop_of_length_le (by omega)
  replace h22 : some (Fl.nx _) = some y9 := h22
  cases h22
  exact GL.exit (fun a w st => mid_intro () h12 (St.cut [] trivial (by decide) rfl st))
 rintro ⟨⟩ h32
 have h33 := h13 _ h32
 try dsimp only at h33
 refine GL.weak (env' := []) (L' := []) (fun _ _ st => st) ?_
 refine GL.seq ?_
 refine GL.region ?_
 refine RL.asg rfl rfl rfl ?_
 refine RL.finG ?_
 have h33 := Option.some.inj h33
 subst h33
 exact GL.ret (Gx.ret (v := .int .i64 (-1 : Int)) (res1 rfl rfl) (fun a w st => st.toPostC rfl))

set_option maxHeartbeats 4000000 in
theorem order_Far_c (S : Hp) (w : World) (hS : S.sub w) (v0 : Value) (x0 : (List Int)) (k0 : ((TR.sl TR.int)).vrep S v0 x0) (v1 : Value) (x1 : (List Int)) (k1 : ((TR.sl TR.int)).vrep S v1 x1) (res : Int × Int) (hm : order_Far_m x0 x1 = some res) : Calls Try.prog 30 #[v0, v1] w (PostV w (.tuple #[.int .i64 res.1, .int .i64 res.2])) := by
 refine calls_enter 55 Try.func30 Try.ntmps30 rfl S false [(0, v0), (1, v1)] [imm (TR.sl TR.int) v0 x0, imm (TR.sl TR.int) v1 x1] rfl ⟨rfl, ⟨rfl, trivial⟩⟩ hS ⟨k0, ⟨k1, trivial⟩⟩ ?_
 unfold order_Far_m at hm
 refine GL.seq ?_
 refine GL.region ?_
 refine RL.asg rfl rfl rfl ?_
 refine RL.asg rfl rfl rfl ?_
 refine RL.finG ?_
 refine GL.seq ?_
 refine GL.seq ?_
 refine GL.region ?_
 refine RL.mv rfl rfl rfl ?_
 refine RL.lenS 0 Try.underlying22 rfl rfl rfl rfl SlOf.imm ?_
 refine RL.mv rfl rfl rfl ?_
 obtain ⟨y5, e6, hm⟩ := bind_some hm
 refine RL.callV (v := .int .i64 y5) (vs := [.int .i64 ((x0).length : Int), v0]) Try_fit48 rfl (Or.inl rfl) rfl rfl rfl rfl (fun U w hU hW hL => order_Check_c U w hU ((x0).length : Int) _ _ (hL 0 _ _ rfl Seen.imm) _ e6) ?_
 refine RL.asg rfl rfl rfl ?_
 refine RL.finG ?_
 refine GL.seq ?_
 refine GL.region ?_
 refine RL.mv rfl rfl rfl ?_
 refine RL.binI (v := .bool (y5 != (0 : Int))) rfl rfl rfl rfl rfl ?_
 refine RL.finG ?_
 refine GL.cond rfl (fun b7 => ?_) (fun b7 => ?_)
 ·replace hm := ite_t b7 hm
  refine GL.seq ?_
  refine GL.region ?_
  refine RL.mv rfl rfl rfl ?_
  refine RL.asg rfl rfl rfl ?_
  refine RL.asg rfl rfl rfl ?_
  refine RL.finG ?_
  have hm := Option.some.inj hm
  subst hm
  exact GL.ret (Gx.ret (v := .tuple #[.int .i64 (0 : Int), .int .i64 y5]) (res2 rfl rfl rfl) (fun a w st => st.toPostV))
 replace hm := ite_f b7 hm
 refine GL.skip ?_
 refine GL.seq ?_
 refine GL.seq ?_
 refine GL.region ?_
 refine RL.mv rfl rfl rfl ?_
 refine RL.lenS 0 Try.underlying22 rfl rfl rfl rfl SlOf.imm ?_
 refine RL.mv rfl rfl rfl ?_
 obtain ⟨y10, e11, hm⟩ := bind_some hm
 refine RL.callV (v := .int .i64 y10) (vs := [.int .i64 ((x0).length : Int), v1]) Try_fit48 rfl (Or.inl rfl) rfl rfl rfl rfl (fun U w hU hW hL => order_Check_c U w hU ((x0).length : Int) _ _ (hL 1 _ _ rfl Seen.imm) _ e11) ?_
 refine RL.asg rfl rfl rfl ?_
 refine RL.finG ?_
 refine GL.seq ?_
 refine GL.region ?_
 refine RL.mv rfl rfl rfl ?_
 refine RL.binI (v := .bool (y10 != (0 : Int))) rfl rfl rfl rfl rfl ?_
 refine RL.finG ?_
 refine GL.cond rfl (fun b12 => ?_) (fun b12 => ?_)
 ·replace hm := ite_t b12 hm
  refine GL.seq ?_
  refine GL.region ?_
  refine RL.mv rfl rfl rfl ?_
  refine RL.asg rfl rfl rfl ?_
  refine RL.asg rfl rfl rfl ?_
  refine RL.finG ?_
  have hm := Option.some.inj hm
  subst hm
  exact GL.ret (Gx.ret (v := .tuple #[.int .i64 (0 : Int), .int .i64 y10]) (res2 rfl rfl rfl) (fun a w st => st.toPostV))
 replace hm := ite_f b12 hm
 refine GL.skip ?_
 refine GL.seq ?_
 refine GL.region ?_
 refine RL.asg rfl rfl rfl ?_
 refine RL.finG ?_
 refine GL.seq ?_
 refine GL.seq ?_
 refine GL.region ?_
 refine RL.mv rfl rfl rfl ?_
 refine RL.lenS 0 Try.underlying22 rfl rfl rfl rfl SlOf.imm ?_
 refine RL.mv rfl rfl rfl ?_
 refine RL.finG ?_
 refine GL.open_ 0 rfl (fun S h => len_imm S h) (fun n71 => ?_)
 obtain ⟨y72, K73, h74, h75, h76, h77, h78⟩ := bindR_K hm
 refine GL.join (ι := Int) (fun (p : Int) => [(8, .int .i64 p)]) (fun (p : Int) => []) (fun (p : Int) => K73 (.nx p)) ?_ ?_
 ·refine GL.block ?_
  refine GL.loop (ι := Nat × (List Int) × Int) (fun (p : Nat × (List Int) × Int) => [(0, v0), (1, v1), (8, .int .i64 p.2.2), (27, v0), (28, .int .i64 ((x0).length : Int)), (29, .int .i64 (p.1 : Int))]) (fun (p : Nat × (List Int) × Int) => [imm (TR.sl TR.int) v0 x0, imm (TR.sl TR.int) v1 x1]) (fun (p : Nat × (List Int) × Int) => p.1 + p.2.1.length = (x0).length ∧ List.drop p.1 x0 = p.2.1 ∧ rangeL (order_Far_b1 x0 x1) p.2.1 p.1 p.2.2 = some y72) (fun (p : Nat × (List Int) × Int) => p.2.1.length) (0, x0, (0 : Int)) ⟨by simp, by simp, h74⟩ (fun a w st => St.cut [0, 1] ⟨rfl, rfl, rfl, rfl, rfl, rfl, trivial⟩ (by decide) rfl st) ?_
  rintro ⟨i79, r80, x13⟩ ⟨h85, h86, h84⟩
  try dsimp only at h85 h86 h84
  refine GL.weak (env' := [(0, v0), (1, v1), (8, .int .i64 x13), (27, v0), (28, .int .i64 ((x0).length : Int)), (29, .int .i64 (i79 : Int))]) (L' := [imm (TR.sl TR.int) v0 x0, imm (TR.sl TR.int) v1 x1]) (fun _ _ st => st) ?_
  refine GL.seq ?_
  refine GL.region ?_
  refine RL.binI (v := .bool (decide ((i79 : Int) < ((x0).length : Int)))) rfl rfl rfl rfl rfl ?_
  refine RL.finG ?_
  refine GL.seq ?_
  refine GL.cond rfl (fun b87 => ?_) (fun b87 => ?_)
  ·have h88 : i79 < (x0).length := by have := of_decide_eq_true b87; omega
   obtain ⟨y89, r91, hr, e90, h92⟩ := drop_cons h86 rfl h88
   subst hr
   obtain ⟨z81, h82, h83⟩ := rangeL_some h84
   unfold order_Far_b1 at h82
   try dsimp only at h82
   refine GL.skip ?_
   refine GL.seq ?_
   refine GL.block ?_
   refine GL.seq ?_
   refine GL.region ?_
   refine RL.mv rfl rfl rfl ?_
   refine RL.idxS (sz := 1) 0 Try.underlying22 Try_ln3 rfl rfl rfl rfl rfl SlOf.imm (by omega) (by omega) ?_
   refine RL.ldSx (i := i79) (e' := y89) 0 Ex.ik Try_ln3 rfl rfl rfl rfl SlOf.imm e90 Part.self ?_
   refine RL.asg rfl rfl rfl ?_
   refine RL.asg rfl rfl rfl ?_
   refine RL.finG ?_
   refine GL.seq ?_
   refine GL.region ?_
   refine RL.mv rfl rfl rfl ?_
   refine RL.mv rfl rfl rfl ?_
   refine RL.binI (v := .int .i64 (wadd (i79 : Int) (1 : Int))) rfl rfl rfl rfl rfl ?_
   obtain ⟨y96, e97, h82⟩ := bind_some h82
   replace e97 := chk_some e97
   refine RL.slc (t := TR.int) (i := (wadd (i79 : Int) (1 : Int)).toNat) (j := (x0).length) (sz := 1) 0 Try.underlying22 Try_ln3 rfl rfl rfl rfl (Or.inr ⟨_, _, rfl, by rw [Int.toNat_of_nonneg (by omega)]; rfl⟩) (Or.inl ⟨rfl, rfl⟩) rfl (by omega) (by omega) ?_
   intro v98
   refine RL.lenS 2 Try.underlying22 rfl rfl rfl rfl SlOf.imm ?_
   refine RL.mv rfl rfl rfl ?_
   refine RL.finG ?_
   refine GL.open_ 2 rfl (fun S h => len_imm S h) (fun n113 => ?_)
   obtain ⟨y114, K115, h116, h117, h118, h119, h120⟩ := bindF_K h82
   refine GL.join (ι := Int) (fun (p : Int) => [(0, v0), (1, v1), (8, .int .i64 p), (27, v0), (28, .int .i64 ((x0).length : Int)), (29, .int .i64 (i79 : Int))]) (fun (p : Int) => [imm (TR.sl TR.int) v0 x0, imm (TR.sl TR.int) v1 x1]) (fun (p : Int) => K115 (.nx p)) ?_ ?_
   ·refine GL.block ?_
    refine GL.loop (ι := Nat × (List Int) × Int) (fun (p : Nat × (List Int) × Int) => [(0, v0), (1, v1), (8, .int .i64 p.2.2), (10, .int .i64 y89), (27, v0), (28, .int .i64 ((x0).length : Int)), (29, .int .i64 (i79 : Int)), (37, v98), (38, .int .i64 ((((List.take ((x0).length) x0).drop ((wadd (i79 : Int) (1 : Int)).toNat))).length : Int)), (39, .int .i64 (p.1 : Int))]) (fun (p : Nat × (List Int) × Int) => [imm (TR.sl TR.int) v0 x0, imm (TR.sl TR.int) v1 x1, imm (TR.sl TR.int) v98 ((List.take ((x0).length) x0).drop ((wadd (i79 : Int) (1 : Int)).toNat))]) (fun (p : Nat × (List Int) × Int) => p.1 + p.2.1.length = (((List.take ((x0).length) x0).drop ((wadd (i79 : Int) (1 : Int)).toNat))).length ∧ List.drop p.1 ((List.take ((x0).length) x0).drop ((wadd (i79 : Int) (1 : Int)).toNat)) = p.2.1 ∧ rangeL (order_Far_b2 x1 y89) p.2.1 p.1 p.2.2 = some y114) (fun (p : Nat × (List Int) × Int) => p.2.1.length) (0, ((List.take ((x0).length) x0).drop ((wadd (i79 : Int) (1 : Int)).toNat)), x13) ⟨by simp, by simp, h116⟩ (fun a w st => St.cut [0, 1, 2] ⟨rfl, rfl, rfl, rfl, rfl, rfl, rfl, rfl, rfl, rfl, trivial⟩ (by decide) rfl st) ?_
    rintro ⟨i121, r122, x99⟩ ⟨h127, h128, h126⟩
    try dsimp only at h127 h128 h126
    refine GL.weak (env' := [(0, v0), (1, v1), (8, .int .i64 x99), (10, .int .i64 y89), (27, v0), (28, .int .i64 ((x0).length : Int)), (29, .int .i64 (i79 : Int)), (37, v98), (38, .int .i64 ((((List.take ((x0).length) x0).drop ((wadd (i79 : Int) (1 : Int)).toNat))).length : Int)), (39, .int .i64 (i121 : Int))]) (L' := [imm (TR.sl TR.int) v0 x0, imm (TR.sl TR.int) v1 x1, imm (TR.sl TR.int) v98 ((List.take ((x0).length) x0).drop ((wadd (i79 : Int) (1 : Int)).toNat))]) (fun _ _ st => st) ?_
    refine GL.seq ?_
    refine GL.region ?_
    refine RL.binI (v := .bool (decide ((i121 : Int) < ((((List.take ((x0).length) x0).drop ((wadd (i79 : Int) (1 : Int)).toNat))).length : Int)))) rfl rfl rfl rfl rfl ?_
    refine RL.finG ?_
    refine GL.seq ?_
    refine GL.cond rfl (fun b129 => ?_) (fun b129 => ?_)
    ·have h130 : i121 < (((List.take ((x0).length) x0).drop ((wadd (i79 : Int) (1 : Int)).toNat))).length := by have := of_decide_eq_true b129; omega
     obtain ⟨y131, r133, hr, e132, h134⟩ := drop_cons h128 rfl h130
     subst hr
     obtain ⟨z123, h124, h125⟩ := rangeL_some h126
     unfold order_Far_b2 at h124
     try dsimp only at h124
     refine GL.skip ?_
     refine GL.seq ?_
     refine GL.block ?_
     refine GL.seq ?_
     refine GL.region ?_
     refine RL.idxS (sz := 1) 2 Try.underlying22 Try_ln3 rfl rfl rfl rfl rfl SlOf.imm (by omega) (by omega) ?_
     refine RL.ldSx (i := i121) (e' := y131) 2 Ex.ik Try_ln3 rfl rfl rfl rfl SlOf.imm e132 Part.self ?_
     refine RL.asg rfl rfl rfl ?_
     refine RL.finG ?_
     refine GL.seq ?_
     refine GL.region ?_
     refine RL.mv rfl rfl rfl ?_
     refine RL.mv rfl rfl rfl ?_
     obtain ⟨y139, e140, h124⟩ := bind_some h124
     refine RL.callC (v := .int .i64 y139) (vs := [v1, .int .i64 y89]) Try_fit50 rfl rfl rfl rfl (fun U w hU hW hL => slices_Index_int_int_c U w hU _ _ (hL 1 _ _ rfl Seen.imm) y89 _ e140) ?_
     refine RL.mv rfl rfl rfl ?_
     refine RL.mv rfl rfl rfl ?_
     obtain ⟨y141, e142, h124⟩ := bind_some h124
     refine RL.callC (v := .int .i64 y141) (vs := [v1, .int .i64 y131]) Try_fit50 rfl rfl rfl rfl (fun U w hU hW hL => slices_Index_int_int_c U w hU _ _ (hL 1 _ _ rfl Seen.imm) y131 _ e142) ?_
     refine RL.binI (v := .bool (decide (y139 > y141))) rfl rfl rfl rfl rfl ?_
     refine RL.finG ?_
     refine GL.cond rfl (fun b143 => ?_) (fun b143 => ?_)
     ·replace h124 := ite_t b143 h124
      refine GL.region ?_
      refine RL.mv rfl rfl rfl ?_
      refine RL.binI (v := .int .i64 (wadd x99 (1 : Int))) rfl rfl rfl rfl rfl ?_
      refine RL.asg rfl rfl rfl ?_
      refine RL.finG ?_
      refine GL.nilB ?_
      refine GL.region ?_
      refine RL.binI (v := .int .i64 ((i121 + 1 : Nat) : Int)) rfl rfl rfl rfl (binI_succ i121 (by omega)) ?_
      refine RL.mv rfl rfl rfl ?_
      refine RL.fin ?_
      cases h124
      exact fun a w st => lop_intro (i121 + 1, r133, wadd x99 (1 : Int)) ⟨by show i121 + 1 + r133.length = (((List.take ((x0).length) x0).drop ((wadd (i79 : Int) (1 : Int)).toNat))).length; simp only [List.length_cons] at h127; omega, h134, h125⟩ (by simp) (St.cut [0, 1, 2] ⟨rfl, rfl, rfl, rfl, rfl, rfl, rfl, rfl, rfl, rfl, trivial⟩ (by decide) rfl st)
     replace h124 := ite_f b143 h124
     refine GL.skip ?_
     refine GL.nilB ?_
     refine GL.region ?_
     refine RL.binI (v := .int .i64 ((i121 + 1 : Nat) : Int)) rfl rfl rfl rfl (binI_succ i121 (by omega)) ?_
     refine RL.mv rfl rfl rfl ?_
     refine RL.fin ?_
     cases h124
     exact fun a w st => lop_intro (i121 + 1, r133, x99) ⟨by show i121 + 1 + r133.length = (((List.take ((x0).length) x0).drop ((wadd (i79 : Int) (1 : Int)).toNat))).length; simp only [List.length_cons] at h127; omega, h134, h125⟩ (by simp) (St.cut [0, 1, 2] ⟨rfl, rfl, rfl, rfl, rfl, rfl, rfl, rfl, rfl, rfl, trivial⟩ (by decide) rfl st)
    have h130 : ¬ i121 < (((List.take ((x0).length) x0).drop ((wadd (i79 : Int) (1 : Int)).toNat))).length := by have := of_decide_eq_false b129; omega
    obtain rfl : r122 = [] := by rw [← h128]; exact List.drop_of_length_le (by omega)
    replace h126 : some (Fl.nx _) = some y114 := h126
    cases h126
    exact GL.exit (fun a w st => mid_intro x99 h117 (St.cut [0, 1] ⟨rfl, rfl, rfl, rfl, rfl, rfl, trivial⟩ (by decide) rfl st))
   rintro x99 h144
   have h145 := h118 _ h144
   try dsimp only at h145
   refine GL.weak (env' := [(0, v0), (1, v1), (8, .int .i64 x99), (27, v0), (28, .int .i64 ((x0).length : Int)), (29, .int .i64 (i79 : Int))]) (L' := [imm (TR.sl TR.int) v0 x0, imm (TR.sl TR.int) v1 x1]) (fun _ _ st => st) ?_
   refine GL.nilB ?_
   refine GL.region ?_
   refine RL.binI (v := .int .i64 ((i79 + 1 : Nat) : Int)) rfl rfl rfl rfl (binI_succ i79 (by omega)) ?_
   refine RL.mv rfl rfl rfl ?_
   refine RL.fin ?_
   cases h145
   exact fun a w st => lop_intro (i79 + 1, r91, x99) ⟨by show i79 + 1 + r91.length = (x0).length; simp only [List.length_cons] at h85; omega, h92, h83⟩ (by simp) (St.cut [0, 1] ⟨rfl, rfl, rfl, rfl, rfl, rfl, trivial⟩ (by decide) rfl st)
  have h88 : ¬ i79 < (x0).length := by have := of_decide_eq_false b87; omega
  obtain rfl : r80 = [] := by rw [← h86]; exact List.drop_of_length_le (by omega)
  replace h84 : some (Fl.nx _) = some y72 := h84
  cases h84
  exact GL.exit (fun a w st => mid_intro x13 h75 (St.cut [] ⟨rfl, trivial⟩ (by decide) rfl st))
 rintro x13 h146
 have h147 := h76 _ h146
 try dsimp only at h147
 refine GL.weak (env' := [(8, .int .i64 x13)]) (L' := []) (fun _ _ st => st) ?_
 refine GL.seq ?_
 refine GL.region ?_
 refine RL.mv rfl rfl rfl ?_
 refine RL.asg rfl rfl rfl ?_
 refine RL.asg rfl rfl rfl ?_
 refine RL.finG ?_
 have h147 := Option.some.inj h147
 subst h147
 exact GL.ret (Gx.ret (v := .tuple #[.int .i64 x13, .int .i64 (0 : Int)]) (res2 rfl rfl rfl) (fun a w st => st.toPostV))

set_option maxHeartbeats 4000000 in
theorem worth_Check_c (S : Hp) (w : World) (hS : S.sub w) (x0 : Int) (v1 : Value) (x1 : (List Int)) (k1 : ((TR.sl TR.int)).vrep S v1 x1) (res : Int) (hm : worth_Check_m x0 x1 = some res) : Calls Try.prog 61 #[.int .i64 x0, v1] w (PostC w (.int .i64 res)) := by
 refine calls_enter 35 Try.func61 Try.ntmps61 rfl S true [(0, .int .i64 x0), (1, v1)] [imm (TR.sl TR.int) v1 x1] rfl ⟨rfl, ⟨rfl, trivial⟩⟩ hS ⟨k1, trivial⟩ ?_
 unfold worth_Check_m at hm
 refine GL.seq ?_
 refine GL.region ?_
 refine RL.asg rfl rfl rfl ?_
 refine RL.finG ?_
 refine GL.seq ?_
 refine GL.seq ?_
 obtain ⟨y6, K7, h8, h9, h10, h11, h12⟩ := bindR_K hm
 refine GL.join (ι := Bool) (fun (p : Bool) => [(0, .int .i64 x0), (1, v1), (12, .bool p)]) (fun (p : Bool) => [imm (TR.sl TR.int) v1 x1]) (fun (p : Bool) => K7 (.nx p)) ?_ ?_
 ·skip
  refine GL.region ?_
  refine RL.mv rfl rfl rfl ?_
  refine RL.binI (v := .bool (decide (x0 < (1 : Int)))) rfl rfl rfl rfl rfl ?_
  refine RL.mv rfl rfl rfl ?_
  refine RL.split (t := 9) rfl (fun b13 => ?_) (fun b13 => ?_)
  ·replace h8 := ite_t b13 h8
   refine RL.skip rfl rfl ?_
   refine RL.skip rfl rfl ?_
   refine RL.pickT rfl rfl rfl rfl ?_
   refine RL.fin ?_
   cases h8
   exact fun a w st => mid_intro true h9 (St.cut [0] ⟨rfl, rfl, rfl, trivial⟩ (by decide) rfl st)
  replace h8 := ite_f b13 h8
  refine RL.mv rfl rfl rfl ?_
  refine RL.binI (v := .bool (decide (x0 > (6 : Int)))) rfl rfl rfl rfl rfl ?_
  refine RL.pickF rfl rfl rfl rfl ?_
  refine RL.fin ?_
  cases h8
  exact fun a w st => mid_intro (decide (x0 > (6 : Int))) h9 (St.cut [0] ⟨rfl, rfl, rfl, trivial⟩ (by decide) rfl st)
 rintro x5 h14
 have h15 := h10 _ h14
 try dsimp only at h15
 refine GL.weak (env' := [(0, .int .i64 x0), (1, v1), (12, .bool x5)]) (L' := [imm (TR.sl TR.int) v1 x1]) (fun _ _ st => st) ?_
 refine GL.cond rfl (fun b16 => ?_) (fun b16 => ?_)
 ·replace h15 := ite_t b16 h15
  refine GL.seq ?_
  refine GL.region ?_
  refine RL.asg rfl rfl rfl ?_
  refine RL.finG ?_
  have h15 := Option.some.inj h15
  subst h15
  exact GL.ret (Gx.ret (v := .int .i64 (1 : Int)) (res1 rfl rfl) (fun a w st => st.toPostC rfl))
 replace h15 := ite_f b16 h15
 refine GL.skip ?_
 refine GL.seq ?_
 refine GL.seq ?_
 refine GL.region ?_
 refine RL.mv rfl rfl rfl ?_
 refine RL.lenS 0 Try.underlying22 rfl rfl rfl rfl SlOf.imm ?_
 refine RL.mv rfl rfl rfl ?_
 obtain ⟨y19, e20, h15⟩ := bind_some h15
 replace e20 := chk_some e20
 refine RL.sh (by simp) rfl rfl rfl rfl e20 ?_
 refine RL.binI (v := .bool (((x1).length : Int) != (IntKind.wrap .i64 ((1 : Int) * 2 ^ (min x0.toNat (IntKind.bits .i64)))))) rfl rfl rfl rfl rfl ?_
 refine RL.finG ?_
 refine GL.cond rfl (fun b21 => ?_) (fun b21 => ?_)
 ·replace h15 := ite_t b21 h15
  refine GL.seq ?_
  refine GL.region ?_
  refine RL.asg rfl rfl rfl ?_
  refine RL.finG ?_
  have h15 := Option.some.inj h15
  subst h15
  exact GL.ret (Gx.ret (v := .int .i64 (3 : Int)) (res1 rfl rfl) (fun a w st => st.toPostC rfl))
 replace h15 := ite_f b21 h15
 refine GL.skip ?_
 refine GL.seq ?_
 refine GL.seq ?_
 refine GL.region ?_
 refine RL.mv rfl rfl rfl ?_
 refine RL.lenS 0 Try.underlying22 rfl rfl rfl rfl SlOf.imm ?_
 refine RL.mv rfl rfl rfl ?_
 refine RL.finG ?_
 refine GL.open_ 0 rfl (fun S h => len_imm S h) (fun n40 => ?_)
 obtain ⟨y41, K42, h43, h44, h45, h46, h47⟩ := bindR_K h15
 refine GL.join (ι := Unit) (fun (p : Unit) => [(1, v1)]) (fun (p : Unit) => [imm (TR.sl TR.int) v1 x1]) (fun (p : Unit) => K42 (.nx ())) ?_ ?_
 ·refine GL.block ?_
  refine GL.loop (ι := Nat × (List Int)) (fun (p : Nat × (List Int)) => [(1, v1), (18, v1), (19, .int .i64 ((x1).length : Int)), (20, .int .i64 (p.1 : Int))]) (fun (p : Nat × (List Int)) => [imm (TR.sl TR.int) v1 x1]) (fun (p : Nat × (List Int)) => p.1 + p.2.length = (x1).length ∧ List.drop p.1 x1 = p.2 ∧ rangeL worth_Check_b1 p.2 p.1 () = some y41) (fun (p : Nat × (List Int)) => p.2.length) (0, x1) ⟨by simp, by simp, h43⟩ (fun a w st => St.cut [0] ⟨rfl, rfl, rfl, rfl, trivial⟩ (by decide) rfl st) ?_
  rintro ⟨i48, r49⟩ ⟨h54, h55, h53⟩
  try dsimp only at h54 h55 h53
  refine GL.weak (env' := [(1, v1), (18, v1), (19, .int .i64 ((x1).length : Int)), (20, .int .i64 (i48 : Int))]) (L' := [imm (TR.sl TR.int) v1 x1]) (fun _ _ st => st) ?_
  refine GL.seq ?_
  refine GL.region ?_
  refine RL.binI (v := .bool (decide ((i48 : Int) < ((x1).length : Int)))) rfl rfl rfl rfl rfl ?_
  refine RL.finG ?_
  refine GL.seq ?_
  refine GL.cond rfl (fun b56 => ?_) (fun b56 => ?_)
  ·have h57 : i48 < (x1).length := by have := of_decide_eq_true b56; omega
   obtain ⟨y58, r60, hr, e59, h61⟩ := drop_cons h55 rfl h57
   subst hr
   obtain ⟨z50, h51, h52⟩ := rangeL_some h53
   unfold worth_Check_b1 at h51
   try dsimp only at h51
   refine GL.skip ?_
   refine GL.seq ?_
   refine GL.block ?_
   refine GL.seq ?_
   refine GL.region ?_
   refine RL.idxS (sz := 1) 0 Try.underlying22 Try_ln3 rfl rfl rfl rfl rfl SlOf.imm (by omega) (by omega) ?_
   refine RL.ldSx (i := i48) (e' := y58) 0 Ex.ik Try_ln3 rfl rfl rfl rfl SlOf.imm e59 Part.self ?_
   refine RL.asg rfl rfl rfl ?_
   refine RL.finG ?_
   refine GL.seq ?_
   obtain ⟨y65, K66, h67, h68, h69, h70, h71⟩ := bindF_K h51
   refine GL.join (ι := Bool) (fun (p : Bool) => [(1, v1), (18, v1), (19, .int .i64 ((x1).length : Int)), (20, .int .i64 (i48 : Int)), (29, .bool p)]) (fun (p : Bool) => [imm (TR.sl TR.int) v1 x1]) (fun (p : Bool) => K66 (.nx p)) ?_ ?_
   ·skip
    refine GL.region ?_
    refine RL.mv rfl rfl rfl ?_
    refine RL.binI (v := .bool (decide (y58 < (-1000000 : Int)))) rfl rfl rfl rfl rfl ?_
    refine RL.mv rfl rfl rfl ?_
    refine RL.split (t := 26) rfl (fun b72 => ?_) (fun b72 => ?_)
    ·replace h67 := ite_t b72 h67
     refine RL.skip rfl rfl ?_
     refine RL.skip rfl rfl ?_
     refine RL.pickT rfl rfl rfl rfl ?_
     refine RL.fin ?_
     cases h67
     exact fun a w st => mid_intro true h68 (St.cut [0] ⟨rfl, rfl, rfl, rfl, rfl, trivial⟩ (by decide) rfl st)
    replace h67 := ite_f b72 h67
    refine RL.mv rfl rfl rfl ?_
    refine RL.binI (v := .bool (decide (y58 > (1000000 : Int)))) rfl rfl rfl rfl rfl ?_
    refine RL.pickF rfl rfl rfl rfl ?_
    refine RL.fin ?_
    cases h67
    exact fun a w st => mid_intro (decide (y58 > (1000000 : Int))) h68 (St.cut [0] ⟨rfl, rfl, rfl, rfl, rfl, trivial⟩ (by decide) rfl st)
   rintro x64 h73
   have h74 := h69 _ h73
   try dsimp only at h74
   refine GL.weak (env' := [(1, v1), (18, v1), (19, .int .i64 ((x1).length : Int)), (20, .int .i64 (i48 : Int)), (29, .bool x64)]) (L' := [imm (TR.sl TR.int) v1 x1]) (fun _ _ st => st) ?_
   refine GL.cond rfl (fun b75 => ?_) (fun b75 => ?_)
   ·replace h74 := ite_t b75 h74
    refine GL.seq ?_
    refine GL.region ?_
    refine RL.asg rfl rfl rfl ?_
    refine RL.finG ?_
    cases h74
    replace h52 : some (Fl.rt _) = some y41 := h52
    cases h52
    have hh := h46 _ h44
    subst hh
    exact GL.ret (Gx.ret (v := .int .i64 (1 : Int)) (res1 rfl rfl) (fun a w st => st.toPostC rfl))
   replace h74 := ite_f b75 h74
   refine GL.skip ?_
   refine GL.nilB ?_
   refine GL.region ?_
   refine RL.binI (v := .int .i64 ((i48 + 1 : Nat) : Int)) rfl rfl rfl rfl (binI_succ i48 (by omega)) ?_
   refine RL.mv rfl rfl rfl ?_
   refine RL.fin ?_
   cases h74
   exact fun a w st => lop_intro (i48 + 1, r60) ⟨by show i48 + 1 + r60.length = (x1).length; simp only [List.length_cons] at h54; omega, h61, h52⟩ (by simp) (St.cut [0] ⟨rfl, rfl, rfl, rfl, trivial⟩ (by decide) rfl st)
  have h57 : ¬ i48 < (x1).length := by have := of_decide_eq_false b56; omega
  obtain rfl : r49 = [] := by rw [← h55]; exact List.drop_of_length_le (by omega)
  replace h53 : some (Fl.nx _) = some y41 := h53
  cases h53
  exact GL.exit (fun a w st => mid_intro () h44 (St.cut [0] ⟨rfl, trivial⟩ (by decide) rfl st))
 rintro ⟨⟩ h76
 have h77 := h45 _ h76
 try dsimp only at h77
 refine GL.weak (env' := [(1, v1)]) (L' := [imm (TR.sl TR.int) v1 x1]) (fun _ _ st => st) ?_
 refine GL.seq ?_
 refine GL.seq ?_
 refine GL.region ?_
 refine RL.mv rfl rfl rfl ?_
 obtain ⟨y80, e81, h77⟩ := bind_some h77
 refine RL.idxS (sz := 1) 0 Try.underlying22 Try_ln3 rfl rfl rfl rfl rfl SlOf.imm (idx_some e81).1 (idx_some e81).2.1 ?_
 refine RL.ldSx (i := ((0 : Int)).toNat) (e' := y80) 0 Ex.ik Try_ln3 rfl rfl rfl rfl SlOf.imm (idx_some e81).2.2 Part.self ?_
 refine RL.binI (v := .bool (y80 != (0 : Int))) rfl rfl rfl rfl rfl ?_
 refine RL.finG ?_
 refine GL.cond rfl (fun b82 => ?_) (fun b82 => ?_)
 ·replace h77 := ite_t b82 h77
  refine GL.seq ?_
  refine GL.region ?_
  refine RL.asg rfl rfl rfl ?_
  refine RL.finG ?_
  have h77 := Option.some.inj h77
  subst h77
  exact GL.ret (Gx.ret (v := .int .i64 (3 : Int)) (res1 rfl rfl) (fun a w st => st.toPostC rfl))
 replace h77 := ite_f b82 h77
 refine GL.skip ?_
 refine GL.seq ?_
 refine GL.region ?_
 refine RL.asg rfl rfl rfl ?_
 refine RL.finG ?_
 have h77 := Option.some.inj h77
 subst h77
 exact GL.ret (Gx.ret (v := .int .i64 (0 : Int)) (res1 rfl rfl) (fun a w st => st.toPostC rfl))

set_option maxHeartbeats 4000000 in
theorem worth_size_c (S : Hp) (w : World) (hS : S.sub w) (x0 : Int) (res : Int) (hm : worth_size_m x0 = some res) : Calls Try.prog 62 #[.int .i64 x0] w (PostC w (.int .i64 res)) := by
 refine calls_enter 13 Try.func62 Try.ntmps62 rfl S true [(0, .int .i64 x0)] [] rfl ⟨rfl, trivial⟩ hS trivial ?_
 unfold worth_size_m at hm
 refine GL.seq ?_
 refine GL.region ?_
 refine RL.asg rfl rfl rfl ?_
 refine RL.finG ?_
 refine GL.seq ?_
 refine GL.region ?_
 refine RL.asg rfl rfl rfl ?_
 refine RL.finG ?_
 refine GL.seq ?_
 obtain ⟨y13, K14, h15, h16, h17, h18, h19⟩ := bindR_K hm
 refine GL.join (ι := Int × Int) (fun (p : Int × Int) => [(3, .int .i64 p.2)]) (fun (p : Int × Int) => []) (fun (p : Int × Int) => K14 (.nx (p.1, p.2))) ?_ ?_
 ·refine GL.block ?_
  refine GL.loop (ι := Nat × Int × Int) (fun (p : Nat × Int × Int) => [(0, .int .i64 p.2.1), (3, .int .i64 p.2.2)]) (fun (p : Nat × Int × Int) => []) (fun (p : Nat × Int × Int) => loopM worth_size_b1 p.1 (p.2.1, p.2.2) = some y13) (fun (p : Nat × Int × Int) => p.1) (1048576, x0, (0 : Int)) h15 (fun a w st => St.cut [] ⟨rfl, rfl, trivial⟩ (by decide) rfl st) ?_
  rintro ⟨r21, x2, x3⟩ h25
  try dsimp only at h25
  refine GL.weak (env' := [(0, .int .i64 x2), (3, .int .i64 x3)]) (L' := []) (fun _ _ st => st) ?_
  obtain ⟨r28, z22, hr, h23, h24⟩ := loopM_some h25
  subst hr
  unfold worth_size_b1 at h23
  try dsimp only at h23
  refine GL.seq ?_
  refine GL.seq ?_
  refine GL.region ?_
  refine RL.mv rfl rfl rfl ?_
  refine RL.binI (v := .bool (decide (x2 > (0 : Int)))) rfl rfl rfl rfl rfl ?_
  refine RL.finG ?_
  refine GL.cond rfl (fun b29 => ?_) (fun b29 => ?_)
  ·replace h23 := ite_t b29 h23
   refine GL.skip ?_
   refine GL.seq ?_
   refine GL.block ?_
   refine GL.region ?_
   refine RL.mv rfl rfl rfl ?_
   refine RL.mv rfl rfl rfl ?_
   obtain ⟨y32, e33, h23⟩ := bind_some h23
   replace e33 := chk_some e33
   refine RL.rem rfl rfl rfl rfl e33 ?_
   refine RL.binI (v := .int .i64 (wadd x3 (Int.tmod x2 (2 : Int)))) rfl rfl rfl rfl rfl ?_
   refine RL.asg rfl rfl rfl ?_
   refine RL.finG ?_
   refine GL.nilB ?_
   refine GL.region ?_
   refine RL.mv rfl rfl rfl ?_
   obtain ⟨y36, e37, h23⟩ := bind_some h23
   replace e37 := chk_some e37
   refine RL.quo rfl rfl rfl rfl e37 ?_
   refine RL.asg rfl rfl rfl ?_
   refine RL.finG ?_
   cases h23
   exact fun a w st => lop_intro (r28, IntKind.wrap .i64 (Int.tdiv x2 (2 : Int)), wadd x3 (Int.tmod x2 (2 : Int))) (by exact h24) (by simp) (St.cut [] ⟨rfl, rfl, trivial⟩ (by decide) rfl st)
  replace h23 := ite_f b29 h23
  cases h23
  replace h24 : some (Fl.nx _) = some y13 := h24
  cases h24
  exact GL.exit (fun a w st => mid_intro (x2, x3) h16 (St.cut [] ⟨rfl, trivial⟩ (by decide) rfl st))
 rintro ⟨x2, x3⟩ h38
 have h39 := h17 _ h38
 try dsimp only at h39
 refine GL.weak (env' := [(3, .int .i64 x3)]) (L' := []) (fun _ _ st => st) ?_
 refine GL.seq ?_
 refine GL.region ?_
 refine RL.mv rfl rfl rfl ?_
 refine RL.asg rfl rfl rfl ?_
 refine RL.finG ?_
 have h39 := Option.some.inj h39
 subst h39
 exact GL.ret (Gx.ret (v := .int .i64 x3) (res1 rfl rfl) (fun a w st => st.toPostC rfl))

set_option maxHeartbeats 4000000 in
theorem worth_factorial_c (S : Hp) (w : World) (hS : S.sub w) (x0 : Int) (res : Int) (hm : worth_factorial_m x0 = some res) : Calls Try.prog 63 #[.int .i64 x0] w (PostC w (.int .i64 res)) := by
 refine calls_enter 14 Try.func63 Try.ntmps63 rfl S true [(0, .int .i64 x0)] [] rfl ⟨rfl, trivial⟩ hS trivial ?_
 unfold worth_factorial_m at hm
 refine GL.seq ?_
 refine GL.region ?_
 refine RL.asg rfl rfl rfl ?_
 refine RL.finG ?_
 refine GL.seq ?_
 refine GL.region ?_
 refine RL.asg rfl rfl rfl ?_
 refine RL.finG ?_
 refine GL.seq ?_
 refine GL.seq ?_
 refine GL.region ?_
 refine RL.asg rfl rfl rfl ?_
 refine RL.finG ?_
 obtain ⟨y5, K6, h7, h8, h9, h10, h11⟩ := bindR_K hm
 refine GL.join (ι := Int × Int) (fun (p : Int × Int) => [(3, .int .i64 p.1)]) (fun (p : Int × Int) => []) (fun (p : Int × Int) => K6 (.nx (p.1, p.2))) ?_ ?_
 ·refine GL.block ?_
  refine GL.loop (ι := Nat × Int × Int) (fun (p : Nat × Int × Int) => [(0, .int .i64 x0), (3, .int .i64 p.2.1), (4, .int .i64 p.2.2)]) (fun (p : Nat × Int × Int) => []) (fun (p : Nat × Int × Int) => loopM (worth_factorial_b1 x0) p.1 (p.2.1, p.2.2) = some y5) (fun (p : Nat × Int × Int) => p.1) (1048576, (1 : Int), (2 : Int)) h7 (fun a w st => St.cut [] ⟨rfl, rfl, rfl, trivial⟩ (by decide) rfl st) ?_
  rintro ⟨r13, x2, x3⟩ h17
  try dsimp only at h17
  refine GL.weak (env' := [(0, .int .i64 x0), (3, .int .i64 x2), (4, .int .i64 x3)]) (L' := []) (fun _ _ st => st) ?_
  obtain ⟨r20, z14, hr, h15, h16⟩ := loopM_some h17
  subst hr
  unfold worth_factorial_b1 at h15
  try dsimp only at h15
  refine GL.seq ?_
  refine GL.seq ?_
  refine GL.region ?_
  refine RL.mv rfl rfl rfl ?_
  refine RL.mv rfl rfl rfl ?_
  refine RL.binI (v := .bool (decide (x3 ≤ x0))) rfl rfl rfl rfl rfl ?_
  refine RL.finG ?_
  refine GL.cond rfl (fun b21 => ?_) (fun b21 => ?_)
  ·replace h15 := ite_t b21 h15
   refine GL.skip ?_
   refine GL.seq ?_
   refine GL.block ?_
   refine GL.region ?_
   refine RL.mv rfl rfl rfl ?_
   refine RL.mv rfl rfl rfl ?_
   refine RL.binI (v := .int .i64 (wmul x2 x3)) rfl rfl rfl rfl rfl ?_
   refine RL.asg rfl rfl rfl ?_
   refine RL.finG ?_
   refine GL.nilB ?_
   refine GL.region ?_
   refine RL.mv rfl rfl rfl ?_
   refine RL.binI (v := .int .i64 (wadd x3 (1 : Int))) rfl rfl rfl rfl rfl ?_
   refine RL.asg rfl rfl rfl ?_
   refine RL.finG ?_
   cases h15
   exact fun a w st => lop_intro (r20, wmul x2 x3, wadd x3 (1 : Int)) (by exact h16) (by simp) (St.cut [] ⟨rfl, rfl, rfl, trivial⟩ (by decide) rfl st)
  replace h15 := ite_f b21 h15
  cases h15
  replace h16 : some (Fl.nx _) = some y5 := h16
  cases h16
  exact GL.exit (fun a w st => mid_intro (x2, x3) h8 (St.cut [] ⟨rfl, trivial⟩ (by decide) rfl st))
 rintro ⟨x2, x3⟩ h22
 have h23 := h9 _ h22
 try dsimp only at h23
 refine GL.weak (env' := [(3, .int .i64 x2)]) (L' := []) (fun _ _ st => st) ?_
 refine GL.seq ?_
 refine GL.region ?_
 refine RL.mv rfl rfl rfl ?_
 refine RL.asg rfl rfl rfl ?_
 refine RL.finG ?_
 have h23 := Option.some.inj h23
 subst h23
 exact GL.ret (Gx.ret (v := .int .i64 x2) (res1 rfl rfl) (fun a w st => st.toPostC rfl))

set_option maxHeartbeats 4000000 in
theorem worth_Share_c (S : Hp) (w : World) (hS : S.sub w) (x0 : Int) (v1 : Value) (x1 : (List Int)) (k1 : ((TR.sl TR.int)).vrep S v1 x1) (res : (List Int) × Int) (hm : worth_Share_m x0 x1 = some res) : Calls Try.prog 31 #[.int .i64 x0, v1] w (Post w S (fun (o : Value) => .tuple #[o, .int .i64 res.2]) (fun (o : Value) => [own 3 TR.int o res.1])) := by
 refine calls_enter 65 Try.func31 Try.ntmps31 rfl S false [(0, .int .i64 x0), (1, v1)] [imm (TR.sl TR.int) v1 x1] rfl ⟨rfl, ⟨rfl, trivial⟩⟩ hS ⟨k1, trivial⟩ ?_
 unfold worth_Share_m at hm
 refine GL.seq ?_
 refine GL.region ?_
 refine RL.asg rfl rfl rfl ?_
 refine RL.asg rfl rfl rfl ?_
 refine RL.finG ?_
 refine GL.seq ?_
 refine GL.seq ?_
 refine GL.region ?_
 refine RL.mv rfl rfl rfl ?_
 refine RL.mv rfl rfl rfl ?_
 obtain ⟨y5, e6, hm⟩ := bind_some hm
 refine RL.callC (v := .int .i64 y5) (vs := [.int .i64 x0, v1]) Try_fit61 rfl rfl rfl rfl (fun U w hU hW hL => worth_Check_c U w hU x0 _ _ (hL 0 _ _ rfl Seen.imm) _ e6) ?_
 refine RL.asg rfl rfl rfl ?_
 refine RL.finG ?_
 refine GL.seq ?_
 refine GL.region ?_
 refine RL.mv rfl rfl rfl ?_
 refine RL.binI (v := .bool (y5 != (0 : Int))) rfl rfl rfl rfl rfl ?_
 refine RL.finG ?_
 refine GL.cond rfl (fun b7 => ?_) (fun b7 => ?_)
 ·replace hm := ite_t b7 hm
  refine GL.seq ?_
  refine GL.region ?_
  refine RL.mv rfl rfl rfl ?_
  refine RL.asg rfl rfl rfl ?_
  refine RL.asg rfl rfl rfl ?_
  refine RL.finG ?_
  refine GL.weak (fun a w st => st.nilOwn 3 TR.int) ?_
  have hm := Option.some.inj hm
  subst hm
  exact GL.ret (Gx.ret (v := .tuple #[Value.slice none 0 0, .int .i64 y5]) (res2 rfl rfl rfl) (fun a w st => (st.pick [1] (by decide) rfl).toPost (Value.slice none 0 0)))
 replace hm := ite_f b7 hm
 refine GL.skip ?_
 refine GL.seq ?_
 refine GL.region ?_
 refine RL.mv rfl rfl rfl ?_
 obtain ⟨y11, e12, hm⟩ := bind_some hm
 replace e12 := chk_some e12
 refine RL.mkS (t := TR.int) (z := (0 : Int)) Try.underlying22 Try_lo3 (fun S => rfl) rfl rfl rfl rfl e12.1 e12.2 ?_
 intro v13
 refine RL.asg rfl rfl rfl ?_
 refine RL.finG ?_
 refine GL.seq ?_
 refine GL.seq ?_
 refine GL.region ?_
 refine RL.mv rfl rfl rfl ?_
 refine RL.lenS 0 Try.underlying22 rfl rfl rfl rfl SlOf.imm ?_
 refine RL.mv rfl rfl rfl ?_
 refine RL.finG ?_
 refine GL.open_ 0 rfl (fun S h => len_imm S h) (fun n285 => ?_)
 obtain ⟨y286, K287, h288, h289, h290, h291, h292⟩ := bindR_K hm
 refine GL.join (ι := (List Int)) (fun (p : (List Int)) => [(7, v13)]) (fun (p : (List Int)) => [own 3 TR.int v13 p]) (fun (p : (List Int)) => K287 (.nx p)) ?_ ?_
 ·refine GL.block ?_
  refine GL.loop (ι := Nat × (List Int) × (List Int)) (fun (p : Nat × (List Int) × (List Int)) => [(0, .int .i64 x0), (1, v1), (7, v13), (20, .int .i64 ((x1).length : Int)), (21, .int .i64 (p.1 : Int))]) (fun (p : Nat × (List Int) × (List Int)) => [imm (TR.sl TR.int) v1 x1, own 3 TR.int v13 p.2.2]) (fun (p : Nat × (List Int) × (List Int)) => p.1 + p.2.1.length = (x1).length ∧ List.drop p.1 x1 = p.2.1 ∧ rangeL (worth_Share_b1 x0 x1) p.2.1 p.1 p.2.2 = some y286) (fun (p : Nat × (List Int) × (List Int)) => p.2.1.length) (0, x1, (List.replicate (x0).toNat (0 : Int))) ⟨by simp, by simp, h288⟩ (fun a w st => St.cut [0, 1] ⟨rfl, rfl, rfl, rfl, rfl, trivial⟩ (by decide) rfl st) ?_
  rintro ⟨i293, r294, l149⟩ ⟨h299, h300, h298⟩
  try dsimp only at h299 h300 h298
  refine GL.weak (env' := [(0, .int .i64 x0), (1, v1), (7, v13), (20, .int .i64 ((x1).length : Int)), (21, .int .i64 (i293 : Int))]) (L' := [imm (TR.sl TR.int) v1 x1, own 3 TR.int v13 l149]) (fun _ _ st => st) ?_
  refine GL.seq ?_
  refine GL.region ?_
  refine RL.binI (v := .bool (decide ((i293 : Int) < ((x1).length : Int)))) rfl rfl rfl rfl rfl ?_
  refine RL.finG ?_
  refine GL.seq ?_
  refine GL.cond rfl (fun b301 => ?_) (fun b301 => ?_)
  ·have h302 : i293 < (x1).length := by have := of_decide_eq_true b301; omega
   obtain ⟨y303, r305, hr, e304, h306⟩ := drop_cons h300 rfl h302
   subst hr
   obtain ⟨z295, h296, h297⟩ := rangeL_some h298
   unfold worth_Share_b1 at h296
   try dsimp only at h296
   refine GL.skip ?_
   refine GL.seq ?_
   refine GL.block ?_
   refine GL.seq ?_
   refine GL.region ?_
   refine RL.mv rfl rfl rfl ?_
   refine RL.asg rfl rfl rfl ?_
   refine RL.finG ?_
   refine GL.seq ?_
   refine GL.region ?_
   refine RL.mv rfl rfl rfl ?_
   refine RL.mv rfl rfl rfl ?_
   refine RL.finG ?_
   obtain ⟨y375, e376, h296⟩ := bind_some h296
   replace e376 := chk_some e376
   obtain ⟨y377, K378, h379, h380, h381, h382, h383⟩ := bindF_K h296
   refine GL.join (ι := (List Int)) (fun (p : (List Int)) => [(0, .int .i64 x0), (1, v1), (7, v13), (20, .int .i64 ((x1).length : Int)), (21, .int .i64 (i293 : Int))]) (fun (p : (List Int)) => [imm (TR.sl TR.int) v1 x1, own 3 TR.int v13 p]) (fun (p : (List Int)) => K378 (.nx p)) ?_ ?_
   ·refine GL.block ?_
    refine GL.loop (ι := Nat × Nat × (List Int)) (fun (p : Nat × Nat × (List Int)) => [(0, .int .i64 x0), (1, v1), (7, v13), (8, .int .i64 (i293 : Int)), (20, .int .i64 ((x1).length : Int)), (21, .int .i64 (i293 : Int)), (24, .int .i64 x0), (25, .int .i64 (p.1 : Int))]) (fun (p : Nat × Nat × (List Int)) => [imm (TR.sl TR.int) v1 x1, own 3 TR.int v13 p.2.2]) (fun (p : Nat × Nat × (List Int)) => p.1 + p.2.1 = (x0).toNat ∧ rangeN (worth_Share_b2 i293 x0 x1 y303) p.2.1 p.1 p.2.2 = some y377) (fun (p : Nat × Nat × (List Int)) => p.2.1) (0, (x0).toNat, l149) ⟨by simp, h379⟩ (fun a w st => St.cut [0, 1] ⟨rfl, rfl, rfl, rfl, rfl, rfl, rfl, rfl, trivial⟩ (by decide) rfl st) ?_
    rintro ⟨i384, r385, l340⟩ ⟨h390, h389⟩
    try dsimp only at h390 h389
    refine GL.weak (env' := [(0, .int .i64 x0), (1, v1), (7, v13), (8, .int .i64 (i293 : Int)), (20, .int .i64 ((x1).length : Int)), (21, .int .i64 (i293 : Int)), (24, .int .i64 x0), (25, .int .i64 (i384 : Int))]) (L' := [imm (TR.sl TR.int) v1 x1, own 3 TR.int v13 l340]) (fun _ _ st => st) ?_
    refine GL.seq ?_
    refine GL.region ?_
    refine RL.binI (v := .bool (decide ((i384 : Int) < x0))) rfl rfl rfl rfl rfl ?_
    refine RL.finG ?_
    refine GL.seq ?_
    refine GL.cond rfl (fun b392 => ?_) (fun b392 => ?_)
    ·have h393 : i384 < (x0).toNat := by have := of_decide_eq_true b392; omega
     obtain ⟨r394, hr⟩ : ∃ m, r385 = m + 1 := ⟨r385 - 1, by omega⟩
     subst hr
     obtain ⟨z386, h387, h388⟩ := rangeN_some h389
     unfold worth_Share_b2 at h387
     try dsimp only at h387
     refine GL.skip ?_
     refine GL.seq ?_
     refine GL.block ?_
     refine GL.seq ?_
     refine GL.region ?_
     refine RL.mv rfl rfl rfl ?_
     refine RL.asg rfl rfl rfl ?_
     refine RL.finG ?_
     refine GL.seq ?_
     refine GL.region ?_
     refine RL.mv rfl rfl rfl ?_
     refine RL.mv rfl rfl rfl ?_
     obtain ⟨y397, e398, h387⟩ := bind_some h387
     replace e398 := chk_some e398
     refine RL.sh (by simp) rfl rfl rfl rfl e398 ?_
     refine RL.binI (v := .int .i64 (bits .and .i64 (Int.fdiv (i293 : Int) (2 ^ (min (i384 : Int).toNat (IntKind.bits .i64)))) (1 : Int))) rfl rfl rfl rfl rfl ?_
     refine RL.binI (v := .bool ((bits .and .i64 (Int.fdiv (i293 : Int) (2 ^ (min (i384 : Int).toNat (IntKind.bits .i64)))) (1 : Int)) == (0 : Int))) rfl rfl rfl rfl rfl ?_
     refine RL.finG ?_
     refine GL.cond rfl (fun b399 => ?_) (fun b399 => ?_)
     ·replace h387 := ite_t b399 h387
      refine GL.seq ?_
      refine GL.region ?_
      refine RL.mv rfl rfl rfl ?_
      obtain ⟨y402, e403, h387⟩ := bind_some h387
      refine RL.callC (v := .int .i64 y402) (vs := [.int .i64 (i293 : Int)]) Try_fit62 rfl rfl rfl rfl (fun U w hU hW hL => worth_size_c U w hU (i293 : Int) _ e403) ?_
      refine RL.asg rfl rfl rfl ?_
      refine RL.finG ?_
      refine GL.regionH 27 rfl rfl (by kernel_rfl) ?_
      simp only [List.take_succ_cons, List.take_zero, List.drop_succ_cons, List.drop_zero]
      refine RL.mv rfl rfl rfl ?_
      refine RL.mv rfl rfl rfl ?_
      obtain ⟨y416, e417, h387⟩ := bind_some h387
      refine RL.idxS (sz := 1) 1 Try.underlying22 Try_ln3 rfl rfl rfl rfl rfl SlOf.own (idx_some e417).1 (idx_some e417).2.1 ?_
      refine RL.ldSx (i := i384) (e' := y416) 1 Ex.ik Try_ln3 rfl rfl rfl rfl SlOf.own (idx_some e417).2.2 Part.self ?_
      refine RL.mv rfl rfl rfl ?_
      obtain ⟨y418, e419, h387⟩ := bind_some h387
      refine RL.callC (v := .int .i64 y418) (vs := [.int .i64 y402]) Try_fit63 rfl rfl rfl rfl (fun U w hU hW hL => worth_factorial_c U w hU y402 _ e419) ?_
      refine RL.mv rfl rfl rfl ?_
      refine RL.binI (v := .int .i64 (wsub x0 (1 : Int))) rfl rfl rfl rfl rfl ?_
      refine RL.mv rfl rfl rfl ?_
      refine RL.binI (v := .int .i64 (wsub (wsub x0 (1 : Int)) y402)) rfl rfl rfl rfl rfl ?_
      obtain ⟨y420, e421, h387⟩ := bind_some h387
      refine RL.callC (v := .int .i64 y420) (vs := [.int .i64 (wsub (wsub x0 (1 : Int)) y402)]) Try_fit63 rfl rfl rfl rfl (fun U w hU hW hL => worth_factorial_c U w hU (wsub (wsub x0 (1 : Int)) y402) _ e421) ?_
      refine RL.binI (v := .int .i64 (wmul y418 y420)) rfl rfl rfl rfl rfl ?_
      refine RL.mv rfl rfl rfl ?_
      refine RL.mv rfl rfl rfl ?_
      refine RL.mv rfl rfl rfl ?_
      obtain ⟨y422, e423, h387⟩ := bind_some h387
      replace e423 := chk_some e423
      refine RL.sh (by simp) rfl rfl rfl rfl e423 ?_
      refine RL.binI (v := .int .i64 (bits .or .i64 (i293 : Int) (IntKind.wrap .i64 ((1 : Int) * 2 ^ (min (i384 : Int).toNat (IntKind.bits .i64)))))) rfl rfl rfl rfl rfl ?_
      obtain ⟨y424, e425, h387⟩ := bind_some h387
      refine RL.idxS (sz := 1) 0 Try.underlying22 Try_ln3 rfl rfl rfl rfl rfl SlOf.imm (idx_some e425).1 (idx_some e425).2.1 ?_
      refine RL.ldSx (i := (bits .or .i64 (i293 : Int) (IntKind.wrap .i64 ((1 : Int) * 2 ^ (min (i384 : Int).toNat (IntKind.bits .i64))))).toNat) (e' := y424) 0 Ex.ik Try_ln3 rfl rfl rfl rfl SlOf.imm (idx_some e425).2.2 Part.self ?_
      refine RL.mv rfl rfl rfl ?_
      refine RL.mv rfl rfl rfl ?_
      refine RL.idxS (sz := 1) 0 Try.underlying22 Try_ln3 rfl rfl rfl rfl rfl SlOf.imm (by omega) (by omega) ?_
      refine RL.ldSx (i := i293) (e' := y303) 0 Ex.ik Try_ln3 rfl rfl rfl rfl SlOf.imm e304 Part.self ?_
      refine RL.binI (v := .int .i64 (wsub y424 y303)) rfl rfl rfl rfl rfl ?_
      refine RL.binI (v := .int .i64 (wmul (wmul y418 y420) (wsub y424 y303))) rfl rfl rfl rfl rfl ?_
      refine RL.binI (v := .int .i64 (wadd y416 (wmul (wmul y418 y420) (wsub y424 y303)))) rfl rfl rfl rfl rfl ?_
      obtain ⟨y426, e427, h387⟩ := bind_some h387
      refine RL.idxS (sz := 1) 1 Try.underlying22 Try_ln3 rfl rfl rfl rfl rfl SlOf.own (idx_some e427).1 (idx_some e427).2.1 ?_
      refine RL.finH ?_
      refine RL.stS (i := i384) (e' := wadd y416 (wmul (wmul y418 y420) (wsub y424 y303))) (e1 := wadd y416 (wmul (wmul y418 y420) (wsub y424 y303))) (r := TR.int) 1 Try_ln3 rfl rfl rfl rfl VR.int rfl (idx_some e427).2.2 Upd.self ?_
      refine RL.finG ?_
      refine GL.weak (env' := [(0, .int .i64 x0), (1, v1), (7, v13), (8, .int .i64 (i293 : Int)), (20, .int .i64 ((x1).length : Int)), (21, .int .i64 (i293 : Int)), (24, .int .i64 x0), (25, .int .i64 (i384 : Int))]) (L' := [imm (TR.sl TR.int) v1 x1, own 3 TR.int v13 (List.set l340 i384 (wadd y416 (wmul (wmul y418 y420) (wsub y424 y303))))]) (fun a w st => St.cut [0, 1] ⟨rfl, rfl, rfl, rfl, rfl, rfl, rfl, rfl, trivial⟩ (by decide) rfl st) ?_
      refine GL.nilB ?_
      refine GL.region ?_
      refine RL.binI (v := .int .i64 ((i384 + 1 : Nat) : Int)) rfl rfl rfl rfl (binI_succ i384 (by omega)) ?_
      refine RL.mv rfl rfl rfl ?_
      refine RL.fin ?_
      cases h387
      exact fun a w st => lop_intro (i384 + 1, r394, (List.set l340 i384 (wadd y416 (wmul (wmul y418 y420) (wsub y424 y303))))) ⟨by show i384 + 1 + r394 = (x0).toNat; omega, h388⟩ (by simp) (St.cut [0, 1] ⟨rfl, rfl, rfl, rfl, rfl, rfl, rfl, rfl, trivial⟩ (by decide) rfl st)
     replace h387 := ite_f b399 h387
     refine GL.skip ?_
     refine GL.nilB ?_
     refine GL.region ?_
     refine RL.binI (v := .int .i64 ((i384 + 1 : Nat) : Int)) rfl rfl rfl rfl (binI_succ i384 (by omega)) ?_
     refine RL.mv rfl rfl rfl ?_
     refine RL.fin ?_
     cases h387
     exact fun a w st => lop_intro (i384 + 1, r394, l340) ⟨by show i384 + 1 + r394 = (x0).toNat; omega, h388⟩ (by simp) (St.cut [0, 1] ⟨rfl, rfl, rfl, rfl, rfl, rfl, rfl, rfl, trivial⟩ (by decide) rfl st)
    have h393 : ¬ i384 < (x0).toNat := by have := of_decide_eq_false b392; omega
    obtain rfl : r385 = 0 := by omega
    replace h389 : some (Fl.nx _) = some y377 := h389
    cases h389
    exact GL.exit (fun a w st => mid_intro l340 h380 (St.cut [0, 1] ⟨rfl, rfl, rfl, rfl, rfl, trivial⟩ (by decide) rfl st))
   rintro l340 h428
   have h429 := h381 _ h428
   try dsimp only at h429
   refine GL.weak (env' := [(0, .int .i64 x0), (1, v1), (7, v13), (20, .int .i64 ((x1).length : Int)), (21, .int .i64 (i293 : Int))]) (L' := [imm (TR.sl TR.int) v1 x1, own 3 TR.int v13 l340]) (fun _ _ st => st) ?_
   refine GL.nilB ?_
   refine GL.region ?_
   refine RL.binI (v := .int .i64 ((i293 + 1 : Nat) : Int)) rfl rfl rfl rfl (binI_succ i293 (by omega)) ?_
   refine RL.mv rfl rfl rfl ?_
   refine RL.fin ?_
   cases h429
   exact fun a w st => lop_intro (i293 + 1, r305, l340) ⟨by show i293 + 1 + r305.length = (x1).length; simp only [List.length_cons] at h299; omega, h306, h297⟩ (by simp) (St.cut [0, 1] ⟨rfl, rfl, rfl, rfl, rfl, trivial⟩ (by decide) rfl st)
  have h302 : ¬ i293 < (x1).length := by have := of_decide_eq_false b301; omega
  obtain rfl : r294 = [] := by rw [← h300]; exact List.drop_of_length_le (by omega)
  replace h298 : some (Fl.nx _) = some y286 := h298
  cases h298
  exact GL.exit (fun a w st => mid_intro l149 h289 (St.cut [1] ⟨rfl, trivial⟩ (by decide) rfl st))
 rintro l149 h430
 have h431 := h290 _ h430
 try dsimp only at h431
 refine GL.weak (env' := [(7, v13)]) (L' := [own 3 TR.int v13 l149]) (fun _ _ st => st) ?_
 refine GL.seq ?_
 refine GL.region ?_
 refine RL.mv rfl rfl rfl ?_
 refine RL.asg rfl rfl rfl ?_
 refine RL.asg rfl rfl rfl ?_
 refine RL.finG ?_
 have h431 := Option.some.inj h431
 subst h431
 exact GL.ret (Gx.ret (v := .tuple #[v13, .int .i64 (0 : Int)]) (res2 rfl rfl rfl) (fun a w st => (st.pick [0] (by decide) rfl).toPost v13))

set_option maxHeartbeats 4000000 in
theorem slices_Equal_int_int_c (S : Hp) (w : World) (hS : S.sub w) (v0 : Value) (x0 : (List Int)) (k0 : ((TR.sl TR.int)).vrep S v0 x0) (v1 : Value) (x1 : (List Int)) (k1 : ((TR.sl TR.int)).vrep S v1 x1) (res : Bool) (hm : slices_Equal_int_int_m x0 x1 = some res) : Calls Try.prog 27 #[v0, v1] w (PostV w (.bool res)) := by
 refine calls_enter 26 Try.func27 Try.ntmps27 rfl S false [(0, v0), (1, v1)] [imm (TR.sl TR.int) v0 x0, imm (TR.sl TR.int) v1 x1] rfl ⟨rfl, ⟨rfl, trivial⟩⟩ hS ⟨k0, ⟨k1, trivial⟩⟩ ?_
 unfold slices_Equal_int_int_m at hm
 refine GL.seq ?_
 refine GL.region ?_
 refine RL.asg rfl rfl rfl ?_
 refine RL.finG ?_
 refine GL.seq ?_
 refine GL.seq ?_
 refine GL.region ?_
 refine RL.mv rfl rfl rfl ?_
 refine RL.lenS 0 Try.underlying22 rfl rfl rfl rfl SlOf.imm ?_
 refine RL.mv rfl rfl rfl ?_
 refine RL.lenS 1 Try.underlying22 rfl rfl rfl rfl SlOf.imm ?_
 refine RL.binI (v := .bool (((x0).length : Int) != ((x1).length : Int))) rfl rfl rfl rfl rfl ?_
 refine RL.finG ?_
 refine GL.cond rfl (fun b3 => ?_) (fun b3 => ?_)
 ·replace hm := ite_t b3 hm
  refine GL.seq ?_
  refine GL.region ?_
  refine RL.asg rfl rfl rfl ?_
  refine RL.finG ?_
  have hm := Option.some.inj hm
  subst hm
  exact GL.ret (Gx.ret (v := .bool false) (res1 rfl rfl) (fun a w st => st.toPostV))
 replace hm := ite_f b3 hm
 refine GL.skip ?_
 refine GL.seq ?_
 refine GL.seq ?_
 refine GL.region ?_
 refine RL.mv rfl rfl rfl ?_
 refine RL.lenS 0 Try.underlying22 rfl rfl rfl rfl SlOf.imm ?_
 refine RL.mv rfl rfl rfl ?_
 refine RL.finG ?_
 refine GL.open_ 0 rfl (fun S h => len_imm S h) (fun n13 => ?_)
 obtain ⟨y14, K15, h16, h17, h18, h19, h20⟩ := bindR_K hm
 refine GL.join (ι := Unit) (fun (p : Unit) => []) (fun (p : Unit) => []) (fun (p : Unit) => K15 (.nx ())) ?_ ?_
 ·refine GL.block ?_
  refine GL.loop (ι := Nat × (List Int)) (fun (p : Nat × (List Int)) => [(0, v0), (1, v1), (12, .int .i64 ((x0).length : Int)), (13, .int .i64 (p.1 : Int))]) (fun (p : Nat × (List Int)) => [imm (TR.sl TR.int) v0 x0, imm (TR.sl TR.int) v1 x1]) (fun (p : Nat × (List Int)) => p.1 + p.2.length = (x0).length ∧ List.drop p.1 x0 = p.2 ∧ rangeL (slices_Equal_int_int_b1 x1) p.2 p.1 () = some y14) (fun (p : Nat × (List Int)) => p.2.length) (0, x0) ⟨by simp, by simp, h16⟩ (fun a w st => St.cut [0, 1] ⟨rfl, rfl, rfl, rfl, trivial⟩ (by decide) rfl st) ?_
  rintro ⟨i21, r22⟩ ⟨h27, h28, h26⟩
  try dsimp only at h27 h28 h26
  refine GL.weak (env' := [(0, v0), (1, v1), (12, .int .i64 ((x0).length : Int)), (13, .int .i64 (i21 : Int))]) (L' := [imm (TR.sl TR.int) v0 x0, imm (TR.sl TR.int) v1 x1]) (fun _ _ st => st) ?_
  refine GL.seq ?_
  refine GL.region ?_
  refine RL.binI (v := .bool (decide ((i21 : Int) < ((x0).length : Int)))) rfl rfl rfl rfl rfl ?_
  refine RL.finG ?_
  refine GL.seq ?_
  refine GL.cond rfl (fun b29 => ?_) (fun b29 => ?_)
  ·have h30 : i21 < (x0).length := by have := of_decide_eq_true b29; omega
   obtain ⟨y31, r33, hr, e32, h34⟩ := drop_cons h28 rfl h30
   subst hr
   obtain ⟨z23, h24, h25⟩ := rangeL_some h26
   unfold slices_Equal_int_int_b1 at h24
   try dsimp only at h24
   refine GL.skip ?_
   refine GL.seq ?_
   refine GL.block ?_
   refine GL.seq ?_
   refine GL.region ?_
   refine RL.mv rfl rfl rfl ?_
   refine RL.asg rfl rfl rfl ?_
   refine RL.finG ?_
   refine GL.seq ?_
   refine GL.regionQ rfl rfl (by kernel_rfl) ?_
   refine RL.mv rfl rfl rfl ?_
   refine RL.mv rfl rfl rfl ?_
   refine RL.idxS (sz := 1) 0 Try.underlying22 Try_ln3 rfl rfl rfl rfl rfl SlOf.imm (by omega) (by omega) ?_
   refine RL.ldSx (i := i21) (e' := y31) 0 Ex.ik Try_ln3 rfl rfl rfl rfl SlOf.imm e32 Part.self ?_
   refine RL.mv rfl rfl rfl ?_
   refine RL.mv rfl rfl rfl ?_
   obtain ⟨y37, e38, h24⟩ := bind_some h24
   refine RL.idxS (sz := 1) 1 Try.underlying22 Try_ln3 rfl rfl rfl rfl rfl SlOf.imm (idx_some e38).1 (idx_some e38).2.1 ?_
   refine RL.ldSx (i := i21) (e' := y37) 1 Ex.ik Try_ln3 rfl rfl rfl rfl SlOf.imm (idx_some e38).2.2 Part.self ?_
   refine RL.binI (v := .bool (y31 != y37)) rfl rfl rfl rfl rfl ?_
   refine RL.finQG ?_
   refine GL.cond rfl (fun b39 => ?_) (fun b39 => ?_)
   ·replace h24 := ite_t b39 h24
    refine GL.seq ?_
    refine GL.region ?_
    refine RL.asg rfl rfl rfl ?_
    refine RL.finG ?_
    cases h24
    replace h25 : some (Fl.rt _) = some y14 := h25
    cases h25
    have hh := h19 _ h17
    subst hh
    exact GL.ret (Gx.ret (v := .bool false) (res1 rfl rfl) (fun a w st => st.toPostV))
   replace h24 := ite_f b39 h24
   refine GL.skip ?_
   refine GL.nilB ?_
   refine GL.region ?_
   refine RL.binI (v := .int .i64 ((i21 + 1 : Nat) : Int)) rfl rfl rfl rfl (binI_succ i21 (by omega)) ?_
   refine RL.mv rfl rfl rfl ?_
   refine RL.fin ?_
   cases h24
   exact fun a w st => lop_intro (i21 + 1, r33) ⟨by show i21 + 1 + r33.length = (x0).length; simp only [List.length_cons] at h27; omega, h34, h25⟩ (by simp) (St.cut [0, 1] ⟨rfl, rfl, rfl, rfl, trivial⟩ (by decide) rfl st)
  have h30 : ¬ i21 < (x0).length := by have := of_decide_eq_false b29; omega
  obtain rfl : r22 = [] := by rw [← h28]; exact List.drop_of_length_le (by omega)
  replace h26 : some (Fl.nx _) = some y14 := h26
  cases h26
  exact GL.exit (fun a w st => mid_intro () h17 (St.cut [] trivial (by decide) rfl st))
 rintro ⟨⟩ h40
 have h41 := h18 _ h40
 try dsimp only at h41
 refine GL.weak (env' := []) (L' := []) (fun _ _ st => st) ?_
 refine GL.seq ?_
 refine GL.region ?_
 refine RL.asg rfl rfl rfl ?_
 refine RL.finG ?_
 have h41 := Option.some.inj h41
 subst h41
 exact GL.ret (Gx.ret (v := .bool true) (res1 rfl rfl) (fun a w st => st.toPostV))

set_option maxHeartbeats 4000000 in
theorem top_works_c (S : Hp) (w : World) (hS : S.sub w)  (res : Bool) (hm : top_works_m = some res) : Calls Try.prog 10 #[] w (PostV w (.bool res)) := by
 refine calls_enter 31 Try.func10 Try.ntmps10 rfl S false [] [] rfl trivial hS trivial ?_
 unfold top_works_m at hm
 refine GL.seq ?_
 refine GL.region ?_
 refine RL.asg rfl rfl rfl ?_
 refine RL.finG ?_
 refine GL.seq ?_
 refine GL.region ?_
 refine RL.bS (t := TR.int) (vs := [.int .i64 (0 : Int), .int .i64 (1 : Int), .int .i64 (2 : Int)]) ([(0 : Int), (1 : Int), (2 : Int)] : (List Int)) Try.underlying22 Try_lo3 rfl rfl rfl rfl ⟨VR.int, ⟨VR.int, ⟨VR.int, trivial⟩⟩⟩ rfl (by decide) ?_
 intro v5
 refine RL.bS (t := TR.int) (vs := [.int .i64 (2 : Int), .int .i64 (0 : Int), .int .i64 (1 : Int)]) ([(2 : Int), (0 : Int), (1 : Int)] : (List Int)) Try.underlying22 Try_lo3 rfl rfl rfl rfl ⟨VR.int, ⟨VR.int, ⟨VR.int, trivial⟩⟩⟩ rfl (by decide) ?_
 intro v6
 refine RL.reL (L' := [own 3 TR.int v5 ([(0 : Int), (1 : Int), (2 : Int)] : (List Int)), own 3 TR.int v6 ([(2 : Int), (0 : Int), (1 : Int)] : (List Int))]) rfl ?_
 obtain ⟨y7, e8, hm⟩ := bind_some hm
 refine RL.callV (v := .tuple #[.int .i64 y7.1, .int .i64 y7.2]) (vs := [v5, v6]) Try_fit30 rfl (Or.inl rfl) rfl rfl rfl rfl (fun U w hU hW hL => order_Far_c U w hU _ _ (hL 0 _ _ rfl Seen.own) _ _ (hL 1 _ _ rfl Seen.own) _ e8) ?_
 refine RL.mv rfl rfl rfl ?_
 refine RL.ext rfl rfl rfl rfl ?_
 refine RL.ext rfl rfl rfl rfl ?_
 refine RL.asg rfl rfl rfl ?_
 refine RL.asg rfl rfl rfl ?_
 refine RL.finG ?_
 refine GL.seq ?_
 refine GL.region ?_
 refine RL.bS (t := TR.int) (vs := [.int .i64 (0 : Int), .int .i64 (0 : Int), .int .i64 (2 : Int), .int .i64 (6 : Int)]) ([(0 : Int), (0 : Int), (2 : Int), (6 : Int)] : (List Int)) Try.underlying22 Try_lo3 rfl rfl rfl rfl ⟨VR.int, ⟨VR.int, ⟨VR.int, ⟨VR.int, trivial⟩⟩⟩⟩ rfl (by decide) ?_
 intro v13
 obtain ⟨y14, e15, hm⟩ := bind_some hm
 refine RL.callU (vs := [.int .i64 (2 : Int), v13]) (LR := fun (o : Value) => [own 3 TR.int o y14.1]) (fun o => ⟨Loc.own TR.flatT_ik, trivial⟩) Try_fit31 rfl rfl rfl rfl rfl (fun U w hU hW hL => worth_Share_c U w hU (2 : Int) _ _ (hL 2 _ _ rfl Seen.own) _ e15) ?_
 intro v16
 refine RL.mv rfl rfl rfl ?_
 refine RL.ext rfl rfl rfl rfl ?_
 refine RL.ext rfl rfl rfl rfl ?_
 refine RL.asg rfl rfl rfl ?_
 refine RL.asg rfl rfl rfl ?_
 refine RL.finG ?_
 refine GL.seq ?_
 obtain ⟨y30, K31, h32, h33, h34, h35, h36⟩ := bindR_K hm
 refine GL.join (ι := Bool) (fun (p : Bool) => [(0, .bool p)]) (fun (p : Bool) => []) (fun (p : Bool) => K31 (.nx p)) ?_ ?_
 ·skip
  refine GL.region ?_
  refine RL.mv rfl rfl rfl ?_
  refine RL.binI (v := .bool (y7.2 == (0 : Int))) rfl rfl rfl rfl rfl ?_
  refine RL.mv rfl rfl rfl ?_
  refine RL.split (t := 18) rfl (fun b37 => ?_) (fun b37 => ?_)
  ·replace h32 := ite_t b37 h32
   refine RL.mv rfl rfl rfl ?_
   refine RL.binI (v := .bool (y14.2 == (0 : Int))) rfl rfl rfl rfl rfl ?_
   refine RL.pickT rfl rfl rfl rfl ?_
   refine RL.mv rfl rfl rfl ?_
   refine RL.split (t := 22) rfl (fun b38 => ?_) (fun b38 => ?_)
   ·replace h32 := ite_t b38 h32
    refine RL.mv rfl rfl rfl ?_
    refine RL.binI (v := .bool (y7.1 == (2 : Int))) rfl rfl rfl rfl rfl ?_
    refine RL.pickT rfl rfl rfl rfl ?_
    refine RL.mv rfl rfl rfl ?_
    refine RL.split (t := 26) rfl (fun b39 => ?_) (fun b39 => ?_)
    ·replace h32 := ite_t b39 h32
     refine RL.mv rfl rfl rfl ?_
     refine RL.bS (t := TR.int) (vs := [.int .i64 (4 : Int), .int .i64 (8 : Int)]) ([(4 : Int), (8 : Int)] : (List Int)) Try.underlying22 Try_lo3 rfl rfl rfl rfl ⟨VR.int, ⟨VR.int, trivial⟩⟩ rfl (by decide) ?_
     intro v40
     refine RL.reL (L' := [own 3 TR.int v5 ([(0 : Int), (1 : Int), (2 : Int)] : (List Int)), own 3 TR.int v6 ([(2 : Int), (0 : Int), (1 : Int)] : (List Int)), own 3 TR.int v13 ([(0 : Int), (0 : Int), (2 : Int), (6 : Int)] : (List Int)), own 3 TR.int v16 y14.1, own 3 TR.int v40 ([(4 : Int), (8 : Int)] : (List Int))]) rfl ?_
     obtain ⟨y41, e42, h32⟩ := bind_some h32
     refine RL.callV (v := .bool y41) (vs := [v16, v40]) Try_fit27 rfl (Or.inl rfl) rfl rfl rfl rfl (fun U w hU hW hL => slices_Equal_int_int_c U w hU _ _ (hL 3 _ _ rfl Seen.own) _ _ (hL 4 _ _ rfl Seen.own) _ e42) ?_
     refine RL.pickT rfl rfl rfl rfl ?_
     refine RL.asg rfl rfl rfl ?_
     refine RL.fin ?_
     cases h32
     exact fun a w st => mid_intro y41 h33 (St.cut [] ⟨rfl, trivial⟩ (by decide) rfl st)
    replace h32 := ite_f b39 h32
    refine RL.skip rfl rfl ?_
    refine RL.skip rfl rfl ?_
    refine RL.skip rfl rfl ?_
    refine RL.pickF rfl rfl rfl rfl ?_
    refine RL.asg rfl rfl rfl ?_
    refine RL.fin ?_
    cases h32
    exact fun a w st => mid_intro false h33 (St.cut [] ⟨rfl, trivial⟩ (by decide) rfl st)
   replace h32 := ite_f b38 h32
   refine RL.skip rfl rfl ?_
   refine RL.skip rfl rfl ?_
   refine RL.pickF rfl rfl rfl rfl ?_
   refine RL.mv rfl rfl rfl ?_
   refine RL.skip rfl rfl ?_
   refine RL.skip rfl rfl ?_
   refine RL.skip rfl rfl ?_
   refine RL.pickF rfl rfl rfl rfl ?_
   refine RL.asg rfl rfl rfl ?_
   refine RL.fin ?_
   cases h32
   exact fun a w st => mid_intro false h33 (St.cut [] ⟨rfl, trivial⟩ (by decide) rfl st)
  replace h32 := ite_f b37 h32
  refine RL.skip rfl rfl ?_
  refine RL.skip rfl rfl ?_
  refine RL.pickF rfl rfl rfl rfl ?_
  refine RL.mv rfl rfl rfl ?_
  refine RL.skip rfl rfl ?_
  refine RL.skip rfl rfl ?_
  refine RL.pickF rfl rfl rfl rfl ?_
  refine RL.mv rfl rfl rfl ?_
  refine RL.skip rfl rfl ?_
  refine RL.skip rfl rfl ?_
  refine RL.skip rfl rfl ?_
  refine RL.pickF rfl rfl rfl rfl ?_
  refine RL.asg rfl rfl rfl ?_
  refine RL.fin ?_
  cases h32
  exact fun a w st => mid_intro false h33 (St.cut [] ⟨rfl, trivial⟩ (by decide) rfl st)
 rintro x29 h43
 have h44 := h34 _ h43
 try dsimp only at h44
 refine GL.weak (env' := [(0, .bool x29)]) (L' := []) (fun _ _ st => st) ?_
 have h44 := Option.some.inj h44
 subst h44
 exact GL.ret (Gx.ret (v := .bool x29) (res1 rfl rfl) (fun a w st => st.toPostV))

set_option maxHeartbeats 4000000 in
theorem slices_IndexFunc_api_Errno_api_Errno_c (S : Hp) (w : World) (hS : S.sub w) (v0 : Value) (x0 : (List Int)) (k0 : ((TR.sl TR.int)).vrep S v0 x0) (f1 : FuncId) (c1 : Array Value) (t1 : Fit Try.prog f1) (g1 : Int → Option Bool) (k1 : ∀ (U : Hp) (w' : World), Hp.le S U → U.sub w' → ∀ (a0 : Int) (rr : Bool), g1 a0 = some rr → Calls Try.prog f1 (#[.int .i64 a0] ++ c1) w' (PostV w' (.bool rr))) (res : Int) (hm : slices_IndexFunc_api_Errno_api_Errno_m x0 g1 = some res) : Calls Try.prog 64 #[v0, .func (.func f1) #[] c1] w (PostV w (.int .i64 res)) := by
 refine calls_enter 19 Try.func64 Try.ntmps64 rfl S false [(0, v0), (1, .func (.func f1) #[] c1)] [imm (TR.sl TR.int) v0 x0] rfl ⟨rfl, ⟨rfl, trivial⟩⟩ hS ⟨k0, trivial⟩ ?_
 unfold slices_IndexFunc_api_Errno_api_Errno_m at hm
 refine GL.seq ?_
 refine GL.region ?_
 refine RL.asg rfl rfl rfl ?_
 refine RL.finG ?_
 refine GL.seq ?_
 refine GL.seq ?_
 refine GL.region ?_
 refine RL.mv rfl rfl rfl ?_
 refine RL.lenS 0 Try.underlying66 rfl rfl rfl rfl SlOf.imm ?_
 refine RL.mv rfl rfl rfl ?_
 refine RL.finG ?_
 refine GL.open_ 0 rfl (fun S h => len_imm S h) (fun n12 => ?_)
 obtain ⟨y13, K14, h15, h16, h17, h18, h19⟩ := bindR_K hm
 refine GL.join (ι := Unit) (fun (p : Unit) => []) (fun (p : Unit) => []) (fun (p : Unit) => K14 (.nx ())) ?_ ?_
 ·refine GL.block ?_
  refine GL.loop (ι := Nat × (List Int)) (fun (p : Nat × (List Int)) => [(0, v0), (1, .func (.func f1) #[] c1), (7, .int .i64 ((x0).length : Int)), (8, .int .i64 (p.1 : Int))]) (fun (p : Nat × (List Int)) => [imm (TR.sl TR.int) v0 x0]) (fun (p : Nat × (List Int)) => p.1 + p.2.length = (x0).length ∧ List.drop p.1 x0 = p.2 ∧ rangeL (slices_IndexFunc_api_Errno_api_Errno_b1 g1) p.2 p.1 () = some y13) (fun (p : Nat × (List Int)) => p.2.length) (0, x0) ⟨by simp, by simp, h15⟩ (fun a w st => St.cut [0] ⟨rfl, rfl, rfl, rfl, trivial⟩ (by decide) rfl st) ?_
  rintro ⟨i20, r21⟩ ⟨h26, h27, h25⟩
  try dsimp only at h26 h27 h25
  refine GL.weak (env' := [(0, v0), (1, .func (.func f1) #[] c1), (7, .int .i64 ((x0).length : Int)), (8, .int .i64 (i20 : Int))]) (L' := [imm (TR.sl TR.int) v0 x0]) (fun _ _ st => st) ?_
  refine GL.seq ?_
  refine GL.region ?_
  refine RL.binI (v := .bool (decide ((i20 : Int) < ((x0).length : Int)))) rfl rfl rfl rfl rfl ?_
  refine RL.finG ?_
  refine GL.seq ?_
  refine GL.cond rfl (fun b28 => ?_) (fun b28 => ?_)
  ·have h29 : i20 < (x0).length := by have := of_decide_eq_true b28; omega
   obtain ⟨y30, r32, hr, e31, h33⟩ := drop_cons h27 rfl h29
   subst hr
   obtain ⟨z22, h23, h24⟩ := rangeL_some h25
   unfold slices_IndexFunc_api_Errno_api_Errno_b1 at h23
   try dsimp only at h23
   refine GL.skip ?_
   refine GL.seq ?_
   refine GL.block ?_
   refine GL.seq ?_
   refine GL.region ?_
   refine RL.mv rfl rfl rfl ?_
   refine RL.asg rfl rfl rfl ?_
   refine RL.finG ?_
   refine GL.seq ?_
   refine GL.region ?_
   refine RL.mv rfl rfl rfl ?_
   refine RL.mv rfl rfl rfl ?_
   refine RL.mv rfl rfl rfl ?_
   refine RL.idxS (sz := 1) 0 Try.underlying66 Try_ln28 rfl rfl rfl rfl rfl SlOf.imm (by omega) (by omega) ?_
   refine RL.ldSx (i := i20) (e' := y30) 0 Ex.ik Try_ln28 rfl rfl rfl rfl SlOf.imm e31 Part.self ?_
   obtain ⟨y36, e37, h23⟩ := bind_some h23
   refine RL.callV (v := .bool y36) (vs := [.int .i64 y30]) t1 rfl (Or.inl rfl) rfl rfl rfl rfl (fun U w hU hW hL => k1 U w hW hU y30 _ e37) ?_
   refine RL.finG ?_
   refine GL.cond rfl (fun b38 => ?_) (fun b38 => ?_)
   ·replace h23 := ite_t b38 h23
    refine GL.seq ?_
    refine GL.region ?_
    refine RL.mv rfl rfl rfl ?_
    refine RL.asg rfl rfl rfl ?_
    refine RL.finG ?_
    cases h23
    replace h24 : some (Fl.rt _) = some y13 := h24
    cases h24
    have hh := h18 _ h16
    subst hh
    exact GL.ret (Gx.ret (v := .int .i64 (i20 : Int)) (res1 rfl rfl) (fun a w st => st.toPostV))
   replace h23 := ite_f b38 h23
   refine GL.skip ?_
   refine GL.nilB ?_
   refine GL.region ?_
   refine RL.binI (v := .int .i64 ((i20 + 1 : Nat) : Int)) rfl rfl rfl rfl (binI_succ i20 (by omega)) ?_
   refine RL.mv rfl rfl rfl ?_
   refine RL.fin ?_
   cases h23
   exact fun a w st => lop_intro (i20 + 1, r32) ⟨by show i20 + 1 + r32.length = (x0).length; simp only [List.length_cons] at h26; omega, h33, h24⟩ (by simp) (St.cut [0] ⟨rfl, rfl, rfl, rfl, trivial⟩ (by decide) rfl st)
  have h29 : ¬ i20 < (x0).length := by have := of_decide_eq_false b28; omega
  obtain rfl : r21 = [] := by rw [← h27]; exact List.drop_of_length_le (by omega)
  replace h25 : some (Fl.nx _) = some y13 := h25
  cases h25
  exact GL.exit (fun a w st => mid_intro () h16 (St.cut [] trivial (by decide) rfl st))
 rintro ⟨⟩ h39
 have h40 := h17 _ h39
 try dsimp only at h40
 refine GL.weak (env' := []) (L' := []) (fun _ _ st => st) ?_
 refine GL.seq ?_
 refine GL.region ?_
 refine RL.asg rfl rfl rfl ?_
 refine RL.finG ?_
 have h40 := Option.some.inj h40
 subst h40
 exact GL.ret (Gx.ret (v := .int .i64 (-1 : Int)) (res1 rfl rfl) (fun a w st => st.toPostV))

set_option maxHeartbeats 4000000 in
theorem slices_ContainsFunc_api_Errno_api_Errno_c (S : Hp) (w : World) (hS : S.sub w) (v0 : Value) (x0 : (List Int)) (k0 : ((TR.sl TR.int)).vrep S v0 x0) (f1 : FuncId) (c1 : Array Value) (t1 : Fit Try.prog f1) (g1 : Int → Option Bool) (k1 : ∀ (U : Hp) (w' : World), Hp.le S U → U.sub w' → ∀ (a0 : Int) (rr : Bool), g1 a0 = some rr → Calls Try.prog f1 (#[.int .i64 a0] ++ c1) w' (PostV w' (.bool rr))) (res : Bool) (hm : slices_ContainsFunc_api_Errno_api_Errno_m x0 g1 = some res) : Calls Try.prog 32 #[v0, .func (.func f1) #[] c1] w (PostV w (.bool res)) := by
 refine calls_enter 9 Try.func32 Try.ntmps32 rfl S false [(0, v0), (1, .func (.func f1) #[] c1)] [imm (TR.sl TR.int) v0 x0] rfl ⟨rfl, ⟨rfl, trivial⟩⟩ hS ⟨k0, trivial⟩ ?_
 unfold slices_ContainsFunc_api_Errno_api_Errno_m at hm
 refine GL.seq ?_
 refine GL.region ?_
 refine RL.asg rfl rfl rfl ?_
 refine RL.finG ?_
 refine GL.seq ?_
 refine GL.region ?_
 refine RL.mv rfl rfl rfl ?_
 refine RL.mv rfl rfl rfl ?_
 obtain ⟨y5, e6, hm⟩ := bind_some hm
 refine RL.callV (v := .int .i64 y5) (vs := [v0, .func (.func f1) #[] c1]) Try_fit64 rfl (Or.inl rfl) rfl rfl rfl rfl (fun U w hU hW hL => slices_IndexFunc_api_Errno_api_Errno_c U w hU _ _ (hL 0 _ _ rfl Seen.imm) f1 c1 t1 g1 (fun U' w' hle => k1 U' w' (Hp.le_trans hW hle)) _ e6) ?_
 refine RL.binI (v := .bool (decide (y5 ≥ (0 : Int)))) rfl rfl rfl rfl rfl ?_
 refine RL.asg rfl rfl rfl ?_
 refine RL.finG ?_
 have hm := Option.some.inj hm
 subst hm
 exact GL.ret (Gx.ret (v := .bool (decide (y5 ≥ (0 : Int)))) (res1 rfl rfl) (fun a w st => st.toPostV))

set_option maxHeartbeats 4000000 in
theorem top_good_1_c (S : Hp) (w : World) (hS : S.sub w) (x0 : Int) (res : Bool) (hm : top_good_1_m x0 = some res) : Calls Try.prog 33 #[.int .i64 x0] w (PostC w (.bool res)) := by
 refine calls_enter 5 Try.func33 Try.ntmps33 rfl S true [(0, .int .i64 x0)] [] rfl ⟨rfl, trivial⟩ hS trivial ?_
 unfold top_good_1_m at hm
 refine GL.seq ?_
 refine GL.region ?_
 refine RL.asg rfl rfl rfl ?_
 refine RL.finG ?_
 refine GL.seq ?_
 refine GL.region ?_
 refine RL.mv rfl rfl rfl ?_
 refine RL.binI (v := .bool (x0 != (0 : Int))) rfl rfl rfl rfl rfl ?_
 refine RL.asg rfl rfl rfl ?_
 refine RL.finG ?_
 have hm := Option.some.inj hm
 subst hm
 exact GL.ret (Gx.ret (v := .bool (x0 != (0 : Int))) (res1 rfl rfl) (fun a w st => st.toPostC rfl))

set_option maxHeartbeats 4000000 in
theorem top_good_c (S : Hp) (w : World) (hS : S.sub w) (v0 : Value) (x0 : (List Int)) (k0 : ((TR.sl TR.int)).vrep S v0 x0) (res : Bool) (hm : top_good_m x0 = some res) : Calls Try.prog 11 #[v0] w (PostV w (.bool res)) := by
 refine calls_enter 6 Try.func11 Try.ntmps11 rfl S false [(0, v0)] [imm (TR.sl TR.int) v0 x0] rfl ⟨rfl, trivial⟩ hS ⟨k0, trivial⟩ ?_
 unfold top_good_m at hm
 refine GL.seq ?_
 refine GL.region ?_
 refine RL.asg rfl rfl rfl ?_
 refine RL.finG ?_
 refine GL.seq ?_
 refine GL.region ?_
 refine RL.mv rfl rfl rfl ?_
 obtain ⟨y4, e5, hm⟩ := bind_some hm
 refine RL.callV (v := .bool y4) (vs := [v0, .func (.func 33) #[] #[]]) Try_fit32 rfl (Or.inl rfl) rfl rfl rfl rfl (fun U w hU hW hL => slices_ContainsFunc_api_Errno_api_Errno_c U w hU _ _ (hL 0 _ _ rfl Seen.imm) 33 #[] Try_fit33 (fun a0 => top_good_1_m a0) (fun U' w' hle hU' a0 rr hr => (top_good_1_c U' w' hU' a0 rr hr).mono (fun _ _ z => z.toV)) _ e5) ?_
 refine RL.notB rfl rfl rfl ?_
 refine RL.asg rfl rfl rfl ?_
 refine RL.finG ?_
 have hm := Option.some.inj hm
 subst hm
 exact GL.ret (Gx.ret (v := .bool (!y4)) (res1 rfl rfl) (fun a w st => st.toPostV))

set_option maxHeartbeats 4000000 in
theorem top_TopSeats_c (S : Hp) (w : World) (hS : S.sub w) (x0 : Int) (x1 : Int) (x2 : Int) (res : Bool) (hm : top_TopSeats_m x0 x1 x2 = some res) : Calls Try.prog 5 #[.int .i64 x0, .int .i64 x1, .int .i64 x2] w (PostV w (.bool res)) := by
 refine calls_enter 106 Try.func5 Try.ntmps5 rfl S false [(0, .int .i64 x0), (1, .int .i64 x1), (2, .int .i64 x2)] [] rfl ⟨rfl, ⟨rfl, ⟨rfl, trivial⟩⟩⟩ hS trivial ?_
 unfold top_TopSeats_m at hm
 refine GL.seq ?_
 refine GL.region ?_
 refine RL.asg rfl rfl rfl ?_
 refine RL.finG ?_
 refine GL.seq ?_
 refine GL.region ?_
 refine RL.mv rfl rfl rfl ?_
 obtain ⟨y9, e10, hm⟩ := bind_some hm
 refine RL.callC (v := .int .i64 y9) (vs := [.int .i64 x0, .int .i64 (300 : Int)]) Try_fit7 rfl rfl rfl rfl (fun U w hU hW hL => pk_Within_c U w hU x0 (300 : Int) _ e10) ?_
 refine RL.binI (v := .int .i64 (wadd (1 : Int) y9)) rfl rfl rfl rfl rfl ?_
 refine RL.mv rfl rfl rfl ?_
 obtain ⟨y11, e12, hm⟩ := bind_some hm
 refine RL.callC (v := .int .i64 y11) (vs := [.int .i64 x1, .int .i64 (300 : Int)]) Try_fit7 rfl rfl rfl rfl (fun U w hU hW hL => pk_Within_c U w hU x1 (300 : Int) _ e12) ?_
 refine RL.bS (t := TR.int) (vs := [.int .i64 (wadd (1 : Int) y9), .int .i64 y11]) ([wadd (1 : Int) y9, y11] : (List Int)) Try.underlying22 Try_lo3 rfl rfl rfl rfl ⟨VR.int, ⟨VR.int, trivial⟩⟩ rfl (by decide) ?_
 intro v13
 refine RL.asg rfl rfl rfl ?_
 refine RL.finG ?_
 refine GL.seq ?_
 refine GL.region ?_
 refine RL.mv rfl rfl rfl ?_
 obtain ⟨y16, e17, hm⟩ := bind_some hm
 refine RL.callC (v := .int .i64 y16) (vs := [.int .i64 x2, .int .i64 (6 : Int)]) Try_fit7 rfl rfl rfl rfl (fun U w hU hW hL => pk_Within_c U w hU x2 (6 : Int) _ e17) ?_
 refine RL.asg rfl rfl rfl ?_
 refine RL.finG ?_
 refine GL.seq ?_
 refine GL.region ?_
 refine RL.asg rfl rfl rfl ?_
 refine RL.finG ?_
 refine GL.seq ?_
 refine GL.seq ?_
 refine GL.region ?_
 refine RL.mv rfl rfl rfl ?_
 refine RL.lenS 0 Try.underlying22 rfl rfl rfl rfl SlOf.own ?_
 refine RL.mv rfl rfl rfl ?_
 refine RL.finG ?_
 refine GL.weak (fun a w st => st.nilOwn 3 TR.int) ?_
 refine GL.lenOwn 0 rfl (fun n71 => ?_)
 obtain ⟨y72, K73, h74, h75, h76, h77, h78⟩ := bindR_K hm
 refine GL.join (ι := (List Int) × Value) (fun (p : (List Int) × Value) => [(2, .int .i64 y16), (7, v13), (8, p.2)]) (fun (p : (List Int) × Value) => [own 3 TR.int v13 ([wadd (1 : Int) y9, y11] : (List Int)), own 3 TR.int p.2 p.1]) (fun (p : (List Int) × Value) => K73 (.nx p.1)) ?_ ?_
 ·refine GL.block ?_
  refine GL.loop (ι := Nat × Nat × (List Int) × Value) (fun (p : Nat × Nat × (List Int) × Value) => [(2, .int .i64 y16), (7, v13), (8, p.2.2.2), (28, v13), (29, .int .i64 ((([wadd (1 : Int) y9, y11] : (List Int))).length : Int)), (30, .int .i64 (p.1 : Int))]) (fun (p : Nat × Nat × (List Int) × Value) => [own 3 TR.int v13 ([wadd (1 : Int) y9, y11] : (List Int)), own 3 TR.int p.2.2.2 p.2.2.1]) (fun (p : Nat × Nat × (List Int) × Value) => p.1 + p.2.1 = (([wadd (1 : Int) y9, y11] : (List Int))).length ∧ rangeN (top_TopSeats_b1 y9 y11) p.2.1 p.1 p.2.2.1 = some y72) (fun (p : Nat × Nat × (List Int) × Value) => p.2.1) (0, (([wadd (1 : Int) y9, y11] : (List Int))).length, [], Value.slice none 0 0) ⟨by simp, h74⟩ (fun a w st => St.cut [0, 1] ⟨rfl, rfl, rfl, rfl, rfl, rfl, trivial⟩ (by decide) rfl st) ?_
  rintro ⟨i79, r80, l18, v19⟩ ⟨h85, h84⟩
  try dsimp only at h85 h84
  refine GL.weak (env' := [(2, .int .i64 y16), (7, v13), (8, v19), (28, v13), (29, .int .i64 ((([wadd (1 : Int) y9, y11] : (List Int))).length : Int)), (30, .int .i64 (i79 : Int))]) (L' := [own 3 TR.int v13 ([wadd (1 : Int) y9, y11] : (List Int)), own 3 TR.int v19 l18]) (fun _ _ st => st) ?_
  refine GL.seq ?_
  refine GL.region ?_
  refine RL.binI (v := .bool (decide ((i79 : Int) < ((([wadd (1 : Int) y9, y11] : (List Int))).length : Int)))) rfl rfl rfl rfl rfl ?_
  refine RL.finG ?_
  refine GL.seq ?_
  refine GL.cond rfl (fun b87 => ?_) (fun b87 => ?_)
  ·have h88 : i79 < (([wadd (1 : Int) y9, y11] : (List Int))).length := by have := of_decide_eq_true b87; omega
   obtain ⟨r89, hr⟩ : ∃ m, r80 = m + 1 := ⟨r80 - 1, by omega⟩
   subst hr
   obtain ⟨z81, h82, h83⟩ := rangeN_some h84
   unfold top_TopSeats_b1 at h82
   try dsimp only at h82
   refine GL.skip ?_
   refine GL.seq ?_
   refine GL.block ?_
   refine GL.seq ?_
   refine GL.region ?_
   obtain ⟨y92, e93, h82⟩ := bind_some h82
   refine RL.idxS (sz := 1) 0 Try.underlying22 Try_ln3 rfl rfl rfl rfl rfl SlOf.own (idx_some e93).1 (idx_some e93).2.1 ?_
   refine RL.ldSx (i := i79) (e' := y92) 0 Ex.ik Try_ln3 rfl rfl rfl rfl SlOf.own (idx_some e93).2.2 Part.self ?_
   refine RL.asg rfl rfl rfl ?_
   refine RL.finG ?_
   refine GL.seq ?_
   refine GL.region ?_
   refine RL.mv rfl rfl rfl ?_
   refine RL.finG ?_
   obtain ⟨y110, K111, h112, h113, h114, h115, h116⟩ := bindF_K h82
   refine GL.join (ι := (List Int) × Int × Value) (fun (p : (List Int) × Int × Value) => [(2, .int .i64 y16), (7, v13), (8, p.2.2), (28, v13), (29, .int .i64 ((([wadd (1 : Int) y9, y11] : (List Int))).length : Int)), (30, .int .i64 (i79 : Int))]) (fun (p : (List Int) × Int × Value) => [own 3 TR.int v13 ([wadd (1 : Int) y9, y11] : (List Int)), own 3 TR.int p.2.2 p.1]) (fun (p : (List Int) × Int × Value) => K111 (.nx (p.1, p.2.1))) ?_ ?_
   ·refine GL.block ?_
    refine GL.loop (ι := Nat × (List Int) × Int × Value) (fun (p : Nat × (List Int) × Int × Value) => [(2, .int .i64 y16), (7, v13), (8, p.2.2.2), (10, .int .i64 y92), (28, v13), (29, .int .i64 ((([wadd (1 : Int) y9, y11] : (List Int))).length : Int)), (30, .int .i64 (i79 : Int)), (34, .int .i64 p.2.2.1)]) (fun (p : Nat × (List Int) × Int × Value) => [own 3 TR.int v13 ([wadd (1 : Int) y9, y11] : (List Int)), own 3 TR.int p.2.2.2 p.2.1]) (fun (p : Nat × (List Int) × Int × Value) => loopM (top_TopSeats_b2 y92) p.1 (p.2.1, p.2.2.1) = some y110) (fun (p : Nat × (List Int) × Int × Value) => p.1) (1048576, l18, (0 : Int), v19) h112 (fun a w st => St.cut [0, 1] ⟨rfl, rfl, rfl, rfl, rfl, rfl, rfl, rfl, trivial⟩ (by decide) rfl st) ?_
    rintro ⟨r118, l94, x96, v95⟩ h122
    try dsimp only at h122
    refine GL.weak (env' := [(2, .int .i64 y16), (7, v13), (8, v95), (10, .int .i64 y92), (28, v13), (29, .int .i64 ((([wadd (1 : Int) y9, y11] : (List Int))).length : Int)), (30, .int .i64 (i79 : Int)), (34, .int .i64 x96)]) (L' := [own 3 TR.int v13 ([wadd (1 : Int) y9, y11] : (List Int)), own 3 TR.int v95 l94]) (fun _ _ st => st) ?_
    obtain ⟨r125, z119, hr, h120, h121⟩ := loopM_some h122
    subst hr
    unfold top_TopSeats_b2 at h120
    try dsimp only at h120
    refine GL.seq ?_
    refine GL.region ?_
    refine RL.binI (v := .bool (decide (x96 < (5 : Int)))) rfl rfl rfl rfl rfl ?_
    refine RL.finG ?_
    refine GL.seq ?_
    refine GL.cond rfl (fun b126 => ?_) (fun b126 => ?_)
    ·replace h120 := ite_t b126 h120
     refine GL.skip ?_
     refine GL.seq ?_
     refine GL.block ?_
     refine GL.seq ?_
     refine GL.region ?_
     refine RL.mv rfl rfl rfl ?_
     refine RL.asg rfl rfl rfl ?_
     refine RL.finG ?_
     refine GL.region ?_
     refine RL.mv rfl rfl rfl ?_
     refine RL.mv rfl rfl rfl ?_
     refine RL.binI (v := .int .i64 (wmul y92 (2520 : Int))) rfl rfl rfl rfl rfl ?_
     refine RL.mv rfl rfl rfl ?_
     refine RL.binI (v := .int .i64 (wadd x96 (1 : Int))) rfl rfl rfl rfl rfl ?_
     obtain ⟨y133, e134, h120⟩ := bind_some h120
     replace e134 := chk_some e134
     refine RL.quo rfl rfl rfl rfl e134 ?_
     refine RL.bS (t := TR.int) (vs := [.int .i64 (IntKind.wrap .i64 (Int.tdiv (wmul y92 (2520 : Int)) (wadd x96 (1 : Int))))]) ([IntKind.wrap .i64 (Int.tdiv (wmul y92 (2520 : Int)) (wadd x96 (1 : Int)))] : (List Int)) Try.underlying22 Try_lo3 rfl rfl rfl rfl ⟨VR.int, trivial⟩ rfl (by decide) ?_
     intro v135
     obtain ⟨y136, e137, h120⟩ := bind_some h120
     replace e137 := chk_some e137
     refine RL.app 1 2 Try.underlying22 Try_lo3 rfl rfl rfl rfl rfl rfl rfl SlOf.own e137 ?_
     intro v138
     refine RL.reL (L' := [own 3 TR.int v13 ([wadd (1 : Int) y9, y11] : (List Int)), own 3 TR.int v138 (l94 ++ ([IntKind.wrap .i64 (Int.tdiv (wmul y92 (2520 : Int)) (wadd x96 (1 : Int)))] : (List Int))), own 3 TR.int v135 ([IntKind.wrap .i64 (Int.tdiv (wmul y92 (2520 : Int)) (wadd x96 (1 : Int)))] : (List Int))]) rfl ?_
     refine RL.asg rfl rfl rfl ?_
     refine RL.finG ?_
     refine GL.nilB ?_
     refine GL.region ?_
     refine RL.binI (v := .int .i64 (wadd x96 (1 : Int))) rfl rfl rfl rfl rfl ?_
     refine RL.mv rfl rfl rfl ?_
     refine RL.finG ?_
     cases h120
     exact fun a w st => lop_intro (r125, (l94 ++ ([IntKind.wrap .i64 (Int.tdiv (wmul y92 (2520 : Int)) (wadd x96 (1 : Int)))] : (List Int))), wadd x96 (1 : Int), v138) (by exact h121) (by simp) (St.cut [0, 1] ⟨rfl, rfl, rfl, rfl, rfl, rfl, rfl, rfl, trivial⟩ (by decide) rfl st)
    replace h120 := ite_f b126 h120
    cases h120
    replace h121 : some (Fl.nx _) = some y110 := h121
    cases h121
    exact GL.exit (fun a w st => mid_intro (l94, x96, v95) h113 (St.cut [0, 1] ⟨rfl, rfl, rfl, rfl, rfl, rfl, trivial⟩ (by decide) rfl st))
   rintro ⟨l94, x96, v95⟩ h139
   have h140 := h114 _ h139
   try dsimp only at h140
   refine GL.weak (env' := [(2, .int .i64 y16), (7, v13), (8, v95), (28, v13), (29, .int .i64 ((([wadd (1 : Int) y9, y11] : (List Int))).length : Int)), (30, .int .i64 (i79 : Int))]) (L' := [own 3 TR.int v13 ([wadd (1 : Int) y9, y11] : (List Int)), own 3 TR.int v95 l94]) (fun _ _ st => st) ?_
   refine GL.nilB ?_
   refine GL.region ?_
   refine RL.binI (v := .int .i64 ((i79 + 1 : Nat) : Int)) rfl rfl rfl rfl (binI_succ i79 (by omega)) ?_
   refine RL.mv rfl rfl rfl ?_
   refine RL.fin ?_
   cases h140
   exact fun a w st => lop_intro (i79 + 1, r89, l94, v95) ⟨by show i79 + 1 + r89 = (([wadd (1 : Int) y9, y11] : (List Int))).length; omega, h83⟩ (by simp) (St.cut [0, 1] ⟨rfl, rfl, rfl, rfl, rfl, rfl, trivial⟩ (by decide) rfl st)
  have h88 : ¬ i79 < (([wadd (1 : Int) y9, y11] : (List Int))).length := by have := of_decide_eq_false b87; omega
  obtain rfl : r80 = 0 := by omega
  replace h84 : some (Fl.nx _) = some y72 := h84
  cases h84
  exact GL.exit (fun a w st => mid_intro (l18, v19) h75 (St.cut [0, 1] ⟨rfl, rfl, rfl, trivial⟩ (by decide) rfl st))
 rintro ⟨l18, v19⟩ h141
 have h142 := h76 _ h141
 try dsimp only at h142
 refine GL.weak (env' := [(2, .int .i64 y16), (7, v13), (8, v19)]) (L' := [own 3 TR.int v13 ([wadd (1 : Int) y9, y11] : (List Int)), own 3 TR.int v19 l18]) (fun _ _ st => st) ?_
 refine GL.seq ?_
 refine GL.region ?_
 refine RL.mv rfl rfl rfl ?_
 refine RL.mv rfl rfl rfl ?_
 obtain ⟨y146, e147, h142⟩ := bind_some h142
 refine RL.callU (vs := [.int .i64 (1 : Int), v13, .int .i64 y16]) (LR := fun (o : Value) => [own 3 TR.int o y146.1]) (fun o => ⟨Loc.own TR.flatT_ik, trivial⟩) Try_fit16 rfl rfl rfl rfl rfl (fun U w hU hW hL => seats_Share_c U w hU (1 : Int) _ _ (hL 0 _ _ rfl Seen.own) y16 _ e147) ?_
 intro v148
 refine RL.mv rfl rfl rfl ?_
 refine RL.ext rfl rfl rfl rfl ?_
 refine RL.ext rfl rfl rfl rfl ?_
 refine RL.asg rfl rfl rfl ?_
 refine RL.asg rfl rfl rfl ?_
 refine RL.finG ?_
 refine GL.seq ?_
 refine GL.region ?_
 refine RL.mv rfl rfl rfl ?_
 refine RL.mv rfl rfl rfl ?_
 obtain ⟨y152, e153, h142⟩ := bind_some h142
 refine RL.callU (vs := [v19, .int .i64 y16]) (LR := fun (o : Value) => [own 3 TR.int o y152.1]) (fun o => ⟨Loc.own TR.flatT_ik, trivial⟩) Try_fit17 rfl rfl rfl rfl rfl (fun U w hU hW hL => units_Sell_c U w hU _ _ (hL 1 _ _ rfl Seen.own) y16 _ e153) ?_
 intro v154
 refine RL.mv rfl rfl rfl ?_
 refine RL.ext rfl rfl rfl rfl ?_
 refine RL.ext rfl rfl rfl rfl ?_
 refine RL.ext rfl rfl rfl rfl ?_
 refine RL.asg rfl rfl rfl ?_
 refine RL.asg rfl rfl rfl ?_
 refine RL.asg rfl rfl rfl ?_
 refine RL.finG ?_
 refine GL.seq ?_
 refine GL.seq ?_
 obtain ⟨y170, K171, h172, h173, h174, h175, h176⟩ := bindR_K h142
 refine GL.join (ι := Bool) (fun (p : Bool) => [(2, .int .i64 y16), (12, v148), (14, v154), (73, .bool p)]) (fun (p : Bool) => [own 3 TR.int v148 y146.1, own 3 TR.int v154 y152.1]) (fun (p : Bool) => K171 (.nx p)) ?_ ?_
 ·skip
  refine GL.region ?_
  obtain ⟨y177, e178, h172⟩ := bind_some h172
  refine RL.callV (v := .bool y177) (vs := []) Try_fit10 rfl (Or.inl rfl) rfl rfl rfl rfl (fun U w hU hW hL => top_works_c U w hU  _ e178) ?_
  refine RL.notB rfl rfl rfl ?_
  refine RL.mv rfl rfl rfl ?_
  refine RL.split (t := 62) rfl (fun b179 => ?_) (fun b179 => ?_)
  ·replace h172 := ite_t b179 h172
   refine RL.skip rfl rfl ?_
   refine RL.skip rfl rfl ?_
   refine RL.skip rfl rfl ?_
   refine RL.skip rfl rfl ?_
   refine RL.skip rfl rfl ?_
   refine RL.pickT rfl rfl rfl rfl ?_
   refine RL.mv rfl rfl rfl ?_
   refine RL.skip rfl rfl ?_
   refine RL.skip rfl rfl ?_
   refine RL.skip rfl rfl ?_
   refine RL.pickT rfl rfl rfl rfl ?_
   refine RL.fin ?_
   cases h172
   exact fun a w st => mid_intro true h173 (St.cut [2, 3] ⟨rfl, rfl, rfl, rfl, trivial⟩ (by decide) rfl st)
  replace h172 := ite_f b179 h172
  refine RL.mv rfl rfl rfl ?_
  refine RL.mv rfl rfl rfl ?_
  refine RL.bS (t := TR.int) (vs := [.int .i64 y146.2, .int .i64 y152.2.2]) ([y146.2, y152.2.2] : (List Int)) Try.underlying66 Try_lo28 rfl rfl rfl rfl ⟨VR.int, ⟨VR.int, trivial⟩⟩ rfl (by decide) ?_
  intro v180
  obtain ⟨y181, e182, h172⟩ := bind_some h172
  refine RL.callV (v := .bool y181) (vs := [v180]) Try_fit11 rfl (Or.inl rfl) rfl rfl rfl rfl (fun U w hU hW hL => top_good_c U w hU _ _ (hL 4 _ _ rfl Seen.own) _ e182) ?_
  refine RL.notB rfl rfl rfl ?_
  refine RL.pickF rfl rfl rfl rfl ?_
  refine RL.mv rfl rfl rfl ?_
  refine RL.split (t := 69) rfl (fun b183 => ?_) (fun b183 => ?_)
  ·replace h172 := ite_t b183 h172
   refine RL.skip rfl rfl ?_
   refine RL.skip rfl rfl ?_
   refine RL.skip rfl rfl ?_
   refine RL.pickT rfl rfl rfl rfl ?_
   refine RL.fin ?_
   cases h172
   exact fun a w st => mid_intro true h173 (St.cut [2, 3] ⟨rfl, rfl, rfl, rfl, trivial⟩ (by decide) rfl st)
  replace h172 := ite_f b183 h172
  refine RL.mv rfl rfl rfl ?_
  refine RL.lenS 2 Try.underlying22 rfl rfl rfl rfl SlOf.own ?_
  refine RL.binI (v := .bool (((y146.1).length : Int) != (2 : Int))) rfl rfl rfl rfl rfl ?_
  refine RL.pickF rfl rfl rfl rfl ?_
  refine RL.fin ?_
  cases h172
  exact fun a w st => mid_intro (((y146.1).length : Int) != (2 : Int)) h173 (St.cut [2, 3] ⟨rfl, rfl, rfl, rfl, trivial⟩ (by decide) rfl st)
 rintro x169 h184
 have h185 := h174 _ h184
 try dsimp only at h185
 refine GL.weak (env' := [(2, .int .i64 y16), (12, v148), (14, v154), (73, .bool x169)]) (L' := [own 3 TR.int v148 y146.1, own 3 TR.int v154 y152.1]) (fun _ _ st => st) ?_
 refine GL.cond rfl (fun b186 => ?_) (fun b186 => ?_)
 ·replace h185 := ite_t b186 h185
  refine GL.seq ?_
  refine GL.region ?_
  refine RL.asg rfl rfl rfl ?_
  refine RL.finG ?_
  have h185 := Option.some.inj h185
  subst h185
  exact GL.ret (Gx.ret (v := .bool false) (res1 rfl rfl) (fun a w st => st.toPostV))
 replace h185 := ite_f b186 h185
 refine GL.skip ?_
 refine GL.seq ?_
 refine GL.region ?_
 refine RL.asg rfl rfl rfl ?_
 refine RL.finG ?_
 refine GL.seq ?_
 refine GL.seq ?_
 refine GL.region ?_
 refine RL.mv rfl rfl rfl ?_
 refine RL.lenS 1 Try.underlying22 rfl rfl rfl rfl SlOf.own ?_
 refine RL.mv rfl rfl rfl ?_
 refine RL.finG ?_
 refine GL.lenOwn 1 rfl (fun n193 => ?_)
 obtain ⟨y194, K195, h196, h197, h198, h199, h200⟩ := bindR_K h185
 refine GL.join (ι := Int) (fun (p : Int) => [(2, .int .i64 y16), (12, v148), (14, v154), (17, .int .i64 p)]) (fun (p : Int) => [own 3 TR.int v148 y146.1, own 3 TR.int v154 y152.1]) (fun (p : Int) => K195 (.nx p)) ?_ ?_
 ·refine GL.block ?_
  refine GL.loop (ι := Nat × Nat × Int) (fun (p : Nat × Nat × Int) => [(2, .int .i64 y16), (12, v148), (14, v154), (17, .int .i64 p.2.2), (74, v154), (75, .int .i64 ((y152.1).length : Int)), (76, .int .i64 (p.1 : Int))]) (fun (p : Nat × Nat × Int) => [own 3 TR.int v148 y146.1, own 3 TR.int v154 y152.1]) (fun (p : Nat × Nat × Int) => p.1 + p.2.1 = (y152.1).length ∧ rangeN (top_TopSeats_b3 y152) p.2.1 p.1 p.2.2 = some y194) (fun (p : Nat × Nat × Int) => p.2.1) (0, (y152.1).length, (0 : Int)) ⟨by simp, h196⟩ (fun a w st => St.cut [0, 1] ⟨rfl, rfl, rfl, rfl, rfl, rfl, rfl, trivial⟩ (by decide) rfl st) ?_
  rintro ⟨i201, r202, x187⟩ ⟨h207, h206⟩
  try dsimp only at h207 h206
  refine GL.weak (env' := [(2, .int .i64 y16), (12, v148), (14, v154), (17, .int .i64 x187), (74, v154), (75, .int .i64 ((y152.1).length : Int)), (76, .int .i64 (i201 : Int))]) (L' := [own 3 TR.int v148 y146.1, own 3 TR.int v154 y152.1]) (fun _ _ st => st) ?_
  refine GL.seq ?_
  refine GL.region ?_
  refine RL.binI (v := .bool (decide ((i201 : Int) < ((y152.1).length : Int)))) rfl rfl rfl rfl rfl ?_
  refine RL.finG ?_
  refine GL.seq ?_
  refine GL.cond rfl (fun b209 => ?_) (fun b209 => ?_)
  ·have h210 : i201 < (y152.1).length := by have := of_decide_eq_true b209; omega
   obtain ⟨r211, hr⟩ : ∃ m, r202 = m + 1 := ⟨r202 - 1, by omega⟩
   subst hr
   obtain ⟨z203, h204, h205⟩ := rangeN_some h206
   unfold top_TopSeats_b3 at h204
   try dsimp only at h204
   refine GL.skip ?_
   refine GL.seq ?_
   refine GL.block ?_
   refine GL.seq ?_
   refine GL.region ?_
   obtain ⟨y214, e215, h204⟩ := bind_some h204
   refine RL.idxS (sz := 1) 1 Try.underlying22 Try_ln3 rfl rfl rfl rfl rfl SlOf.own (idx_some e215).1 (idx_some e215).2.1 ?_
   refine RL.ldSx (i := i201) (e' := y214) 1 Ex.ik Try_ln3 rfl rfl rfl rfl SlOf.own (idx_some e215).2.2 Part.self ?_
   refine RL.asg rfl rfl rfl ?_
   refine RL.finG ?_
   refine GL.seq ?_
   refine GL.region ?_
   refine RL.mv rfl rfl rfl ?_
   refine RL.binI (v := .bool (decide (y214 < (5 : Int)))) rfl rfl rfl rfl rfl ?_
   refine RL.finG ?_
   refine GL.cond rfl (fun b216 => ?_) (fun b216 => ?_)
   ·replace h204 := ite_t b216 h204
    refine GL.region ?_
    refine RL.mv rfl rfl rfl ?_
    refine RL.binI (v := .int .i64 (wadd x187 (1 : Int))) rfl rfl rfl rfl rfl ?_
    refine RL.asg rfl rfl rfl ?_
    refine RL.finG ?_
    refine GL.nilB ?_
    refine GL.region ?_
    refine RL.binI (v := .int .i64 ((i201 + 1 : Nat) : Int)) rfl rfl rfl rfl (binI_succ i201 (by omega)) ?_
    refine RL.mv rfl rfl rfl ?_
    refine RL.fin ?_
    cases h204
    exact fun a w st => lop_intro (i201 + 1, r211, wadd x187 (1 : Int)) ⟨by show i201 + 1 + r211 = (y152.1).length; omega, h205⟩ (by simp) (St.cut [0, 1] ⟨rfl, rfl, rfl, rfl, rfl, rfl, rfl, trivial⟩ (by decide) rfl st)
   replace h204 := ite_f b216 h204
   refine GL.skip ?_
   refine GL.nilB ?_
   refine GL.region ?_
   refine RL.binI (v := .int .i64 ((i201 + 1 : Nat) : Int)) rfl rfl rfl rfl (binI_succ i201 (by omega)) ?_
   refine RL.mv rfl rfl rfl ?_
   refine RL.fin ?_
   cases h204
   exact fun a w st => lop_intro (i201 + 1, r211, x187) ⟨by show i201 + 1 + r211 = (y152.1).length; omega, h205⟩ (by simp) (St.cut [0, 1] ⟨rfl, rfl, rfl, rfl, rfl, rfl, rfl, trivial⟩ (by decide) rfl st)
  have h210 : ¬ i201 < (y152.1).length := by have := of_decide_eq_false b209; omega
  obtain rfl : r202 = 0 := by omega
  replace h206 : some (Fl.nx _) = some y194 := h206
  cases h206
  exact GL.exit (fun a w st => mid_intro x187 h197 (St.cut [0, 1] ⟨rfl, rfl, rfl, rfl, trivial⟩ (by decide) rfl st))
 rintro x187 h217
 have h218 := h198 _ h217
 try dsimp only at h218
 refine GL.weak (env' := [(2, .int .i64 y16), (12, v148), (14, v154), (17, .int .i64 x187)]) (L' := [own 3 TR.int v148 y146.1, own 3 TR.int v154 y152.1]) (fun _ _ st => st) ?_
 refine GL.seq ?_
 obtain ⟨y232, K233, h234, h235, h236, h237, h238⟩ := bindR_K h218
 refine GL.join (ι := Bool) (fun (p : Bool) => [(6, .bool p)]) (fun (p : Bool) => []) (fun (p : Bool) => K233 (.nx p)) ?_ ?_
 ·skip
  refine GL.region ?_
  refine RL.mv rfl rfl rfl ?_
  obtain ⟨y239, e240, h234⟩ := bind_some h234
  refine RL.idxS (sz := 1) 0 Try.underlying22 Try_ln3 rfl rfl rfl rfl rfl SlOf.own (idx_some e240).1 (idx_some e240).2.1 ?_
  refine RL.ldSx (i := ((0 : Int)).toNat) (e' := y239) 0 Ex.ik Try_ln3 rfl rfl rfl rfl SlOf.own (idx_some e240).2.2 Part.self ?_
  refine RL.mv rfl rfl rfl ?_
  refine RL.binI (v := .bool (y239 == x187)) rfl rfl rfl rfl rfl ?_
  refine RL.mv rfl rfl rfl ?_
  refine RL.split (t := 90) rfl (fun b241 => ?_) (fun b241 => ?_)
  ·replace h234 := ite_t b241 h234
   refine RL.mv rfl rfl rfl ?_
   obtain ⟨y242, e243, h234⟩ := bind_some h234
   refine RL.idxS (sz := 1) 0 Try.underlying22 Try_ln3 rfl rfl rfl rfl rfl SlOf.own (idx_some e243).1 (idx_some e243).2.1 ?_
   refine RL.ldSx (i := ((1 : Int)).toNat) (e' := y242) 0 Ex.ik Try_ln3 rfl rfl rfl rfl SlOf.own (idx_some e243).2.2 Part.self ?_
   refine RL.mv rfl rfl rfl ?_
   refine RL.lenS 1 Try.underlying22 rfl rfl rfl rfl SlOf.own ?_
   refine RL.mv rfl rfl rfl ?_
   refine RL.binI (v := .int .i64 (wsub ((y152.1).length : Int) x187)) rfl rfl rfl rfl rfl ?_
   refine RL.binI (v := .bool (y242 == (wsub ((y152.1).length : Int) x187))) rfl rfl rfl rfl rfl ?_
   refine RL.pickT rfl rfl rfl rfl ?_
   refine RL.mv rfl rfl rfl ?_
   refine RL.split (t := 100) rfl (fun b244 => ?_) (fun b244 => ?_)
   ·replace h234 := ite_t b244 h234
    refine RL.mv rfl rfl rfl ?_
    refine RL.lenS 1 Try.underlying22 rfl rfl rfl rfl SlOf.own ?_
    refine RL.mv rfl rfl rfl ?_
    refine RL.binI (v := .bool (((y152.1).length : Int) == y16)) rfl rfl rfl rfl rfl ?_
    refine RL.pickT rfl rfl rfl rfl ?_
    refine RL.asg rfl rfl rfl ?_
    refine RL.fin ?_
    cases h234
    exact fun a w st => mid_intro (((y152.1).length : Int) == y16) h235 (St.cut [] ⟨rfl, trivial⟩ (by decide) rfl st)
   replace h234 := ite_f b244 h234
   refine RL.skip rfl rfl ?_
   refine RL.skip rfl rfl ?_
   refine RL.skip rfl rfl ?_
   refine RL.skip rfl rfl ?_
   refine RL.pickF rfl rfl rfl rfl ?_
   refine RL.asg rfl rfl rfl ?_
   refine RL.fin ?_
   cases h234
   exact fun a w st => mid_intro false h235 (St.cut [] ⟨rfl, trivial⟩ (by decide) rfl st)
  replace h234 := ite_f b241 h234
  refine RL.skip rfl rfl ?_
  refine RL.skip rfl rfl ?_
  refine RL.skip rfl rfl ?_
  refine RL.skip rfl rfl ?_
  refine RL.skip rfl rfl ?_
  refine RL.skip rfl rfl ?_
  refine RL.skip rfl rfl ?_
  refine RL.skip rfl rfl ?_
  refine RL.pickF rfl rfl rfl rfl ?_
  refine RL.mv rfl rfl rfl ?_
  refine RL.skip rfl rfl ?_
  refine RL.skip rfl rfl ?_
  refine RL.skip rfl rfl ?_
  refine RL.skip rfl rfl ?_
  refine RL.pickF rfl rfl rfl rfl ?_
  refine RL.asg rfl rfl rfl ?_
  refine RL.fin ?_
  cases h234
  exact fun a w st => mid_intro false h235 (St.cut [] ⟨rfl, trivial⟩ (by decide) rfl st)
 rintro x231 h245
 have h246 := h236 _ h245
 try dsimp only at h246
 refine GL.weak (env' := [(6, .bool x231)]) (L' := []) (fun _ _ st => st) ?_
 have h246 := Option.some.inj h246
 subst h246
 exact GL.ret (Gx.ret (v := .bool x231) (res1 rfl rfl) (fun a w st => st.toPostV))
end Go.Wk
