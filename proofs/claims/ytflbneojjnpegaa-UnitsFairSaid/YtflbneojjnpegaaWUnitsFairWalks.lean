/- Each function comes to what its model says; printed by a program of this repository. -/
import Derived.Test.YtflbneojjnpegaaProg
import Derived.Test.YtflbneojjnpegaaWUnitsFairModels
namespace Go.Wk
open Go.Fw Go.Mo Go.Proofs Go.RowKit
set_option linter.all false
set_option maxRecDepth 100000
theorem loopNx {ρ σ β γ : Type} {body : σ → Option (Fl ρ β σ)} {n : Nat} {s : σ} {y : Fl ρ γ β} (h : stepM body n (.nx s) = some y) : loopM body n s = some y := h
theorem Try_info3 : (Try.prog.info? 3).map (fun i => (i.zero, i.size, i.bytes)) = some (some (.int .i64 0), 1, 8) := by kernel_rfl
theorem Try_ln3 : Ln Try.prog 3 1 false := Ln.of Try_info3 Try.underlying3 rfl
theorem Try_lo3 : LnO Try.prog 3 1 [.int .i64 0] := LnO.of Try_info3 rfl rfl (by decide) (by decide)
theorem Try_info26 : (Try.prog.info? 26).map (fun i => (i.zero, i.size, i.bytes)) = some (some (.int .i64 0), 1, 8) := by kernel_rfl
theorem Try_ln26 : Ln Try.prog 26 1 false := Ln.of Try_info26 Try.underlying26 rfl
theorem Try_lo26 : LnO Try.prog 26 1 [.int .i64 0] := LnO.of Try_info26 rfl rfl (by decide) (by decide)
theorem Try_info41 : (Try.prog.info? 41).map (fun i => (i.zero, i.size, i.bytes)) = some (some (.slice none 0 0), 1, 24) := by kernel_rfl
theorem Try_ln41 : Ln Try.prog 41 1 false := Ln.of Try_info41 Try.underlying41 rfl
theorem Try_lo41 : LnO Try.prog 41 1 [.slice none 0 0] := LnO.of Try_info41 rfl rfl (by decide) (by decide)
theorem Try_fit31 : Fit Try.prog 31 := Fit.of Try.func31 (by kernel_rfl) rfl
theorem Try_fit32 : Fit Try.prog 32 := Fit.of Try.func32 (by kernel_rfl) rfl
theorem Try_fit33 : Fit Try.prog 33 := Fit.of Try.func33 (by kernel_rfl) rfl
theorem Try_fit35 : Fit Try.prog 35 := Fit.of Try.func35 (by kernel_rfl) rfl
theorem Try_fit36 : Fit Try.prog 36 := Fit.of Try.func36 (by kernel_rfl) rfl
theorem Try_fit37 : Fit Try.prog 37 := Fit.of Try.func37 (by kernel_rfl) rfl
theorem Try_fit39 : Fit Try.prog 39 := Fit.of Try.func39 (by kernel_rfl) rfl
theorem Try_fit44 : Fit Try.prog 44 := Fit.of Try.func44 (by kernel_rfl) rfl
theorem Try_fit45 : Fit Try.prog 45 := Fit.of Try.func45 (by kernel_rfl) rfl
theorem Try_fit59 : Fit Try.prog 59 := Fit.of Try.func59 (by kernel_rfl) rfl
theorem Try_fit60 : Fit Try.prog 60 := Fit.of Try.func60 (by kernel_rfl) rfl
theorem Try_fit61 : Fit Try.prog 61 := Fit.of Try.func61 (by kernel_rfl) rfl
theorem Try_fit62 : Fit Try.prog 62 := Fit.of Try.func62 (by kernel_rfl) rfl
theorem Try_fit63 : Fit Try.prog 63 := Fit.of Try.func63 (by kernel_rfl) rfl
theorem Try_fit64 : Fit Try.prog 64 := Fit.of Try.func64 (by kernel_rfl) rfl
theorem Try_fit65 : Fit Try.prog 65 := Fit.of Try.func65 (by kernel_rfl) rfl
theorem Try_fit68 : Fit Try.prog 68 := Fit.of Try.func68 (by kernel_rfl) rfl
theorem Try_fit69 : Fit Try.prog 69 := Fit.of Try.func69 (by kernel_rfl) rfl
theorem Try_fit74 : Fit Try.prog 74 := Fit.of Try.func74 (by kernel_rfl) rfl
theorem Try_fit75 : Fit Try.prog 75 := Fit.of Try.func75 (by kernel_rfl) rfl
theorem Try_fit76 : Fit Try.prog 76 := Fit.of Try.func76 (by kernel_rfl) rfl
theorem Try_fit77 : Fit Try.prog 77 := Fit.of Try.func77 (by kernel_rfl) rfl
theorem Try_fit79 : Fit Try.prog 79 := Fit.of Try.func79 (by kernel_rfl) rfl
theorem Try_fit80 : Fit Try.prog 80 := Fit.of Try.func80 (by kernel_rfl) rfl
theorem Try_fit82 : Fit Try.prog 82 := Fit.of Try.func82 (by kernel_rfl) rfl
theorem Try_fit90 : Fit Try.prog 90 := Fit.of Try.func90 (by kernel_rfl) rfl
theorem Try_fit91 : Fit Try.prog 91 := Fit.of Try.func91 (by kernel_rfl) rfl

set_option maxHeartbeats 4000000 in
theorem auction_Check_c (S : Hp) (w : World) (hS : S.sub w) (v0 : Value) (x0 : (List Int)) (k0 : ((TR.sl TR.int)).vrep S v0 x0) (x1 : Int) (res : Int) (hm : auction_Check_m x0 x1 = some res) : Calls Try.prog 60 #[v0, .int .i64 x1] w (PostC w (.int .i64 res)) := by
 refine calls_enter 29 Try.func60 Try.ntmps60 rfl S true [(0, v0), (1, .int .i64 x1)] [imm (TR.sl TR.int) v0 x0] rfl ⟨rfl, ⟨rfl, trivial⟩⟩ hS ⟨k0, trivial⟩ ?_
 unfold auction_Check_m at hm
 refine GL.seq ?_
 refine GL.region ?_
 refine RL.asg rfl rfl rfl ?_
 refine RL.finG ?_
 refine GL.seq ?_
 refine GL.seq ?_
 refine GL.region ?_
 refine RL.mv rfl rfl rfl ?_
 refine RL.lenS 0 Try.underlying41 rfl rfl rfl rfl SlOf.imm ?_
 refine RL.binI (v := .bool (decide (((x0).length : Int) > (10 : Int)))) rfl rfl rfl rfl rfl ?_
 refine RL.finG ?_
 refine GL.cond rfl (fun b3 => ?_) (fun b3 => ?_)
 ·replace hm := ite_t b3 hm
  refine GL.seq ?_
  refine GL.region ?_
  refine RL.asg rfl rfl rfl ?_
  refine RL.finG ?_
  have hm := Option.some.inj hm
  subst hm
  exact GL.ret (Gx.ret (v := .int .i64 (2 : Int)) (res1 rfl rfl) (fun a w st => st.toPostC rfl))
 replace hm := ite_f b3 hm
 refine GL.skip ?_
 refine GL.seq ?_
 refine GL.seq ?_
 refine GL.region ?_
 refine RL.mv rfl rfl rfl ?_
 refine RL.lenS 0 Try.underlying41 rfl rfl rfl rfl SlOf.imm ?_
 refine RL.mv rfl rfl rfl ?_
 refine RL.finG ?_
 refine GL.open_ 0 rfl (fun S h => len_imm S h) (fun n22 => ?_)
 obtain ⟨y23, K24, h25, h26, h27, h28, h29⟩ := bindR_K hm
 refine GL.join (ι := Unit) (fun (p : Unit) => [(1, .int .i64 x1)]) (fun (p : Unit) => []) (fun (p : Unit) => K24 (.nx ())) ?_ ?_
 ·refine GL.block ?_
  refine GL.loop (ι := Nat × (List Int)) (fun (p : Nat × (List Int)) => [(1, .int .i64 x1), (10, v0), (11, .int .i64 ((x0).length : Int)), (12, .int .i64 (p.1 : Int))]) (fun (p : Nat × (List Int)) => [imm (TR.sl TR.int) v0 x0]) (fun (p : Nat × (List Int)) => p.1 + p.2.length = (x0).length ∧ List.drop p.1 x0 = p.2 ∧ rangeL auction_Check_b1 p.2 p.1 () = some y23) (fun (p : Nat × (List Int)) => p.2.length) (0, x0) ⟨by simp, by simp, h25⟩ (fun a w st => St.cut [0] ⟨rfl, rfl, rfl, rfl, trivial⟩ (by decide) rfl st) ?_
  rintro ⟨i30, r31⟩ ⟨h36, h37, h35⟩
  try dsimp only at h36 h37 h35
  refine GL.weak (env' := [(1, .int .i64 x1), (10, v0), (11, .int .i64 ((x0).length : Int)), (12, .int .i64 (i30 : Int))]) (L' := [imm (TR.sl TR.int) v0 x0]) (fun _ _ st => st) ?_
  refine GL.seq ?_
  refine GL.region ?_
  refine RL.binI (v := .bool (decide ((i30 : Int) < ((x0).length : Int)))) rfl rfl rfl rfl rfl ?_
  refine RL.finG ?_
  refine GL.seq ?_
  refine GL.cond rfl (fun b38 => ?_) (fun b38 => ?_)
  ·have h39 : i30 < (x0).length := by have := of_decide_eq_true b38; omega
   obtain ⟨y40, r42, hr, e41, h43⟩ := drop_cons h37 rfl h39
   subst hr
   obtain ⟨z32, h33, h34⟩ := rangeL_some h35
   unfold auction_Check_b1 at h33
   try dsimp only at h33
   refine GL.skip ?_
   refine GL.seq ?_
   refine GL.block ?_
   refine GL.seq ?_
   refine GL.region ?_
   refine RL.idxS (sz := 1) 0 Try.underlying41 Try_ln3 rfl rfl rfl rfl rfl SlOf.imm (by omega) (by omega) ?_
   refine RL.ldSx (i := i30) (e' := y40) 0 Ex.ik Try_ln3 rfl rfl rfl rfl SlOf.imm e41 Part.self ?_
   refine RL.asg rfl rfl rfl ?_
   refine RL.finG ?_
   refine GL.seq ?_
   obtain ⟨y47, K48, h49, h50, h51, h52, h53⟩ := bindF_K h33
   refine GL.join (ι := Bool) (fun (p : Bool) => [(1, .int .i64 x1), (10, v0), (11, .int .i64 ((x0).length : Int)), (12, .int .i64 (i30 : Int)), (21, .bool p)]) (fun (p : Bool) => [imm (TR.sl TR.int) v0 x0]) (fun (p : Bool) => K48 (.nx p)) ?_ ?_
   ·skip
    refine GL.region ?_
    refine RL.mv rfl rfl rfl ?_
    refine RL.binI (v := .bool (decide (y40 < (0 : Int)))) rfl rfl rfl rfl rfl ?_
    refine RL.mv rfl rfl rfl ?_
    refine RL.split (t := 18) rfl (fun b54 => ?_) (fun b54 => ?_)
    ·replace h49 := ite_t b54 h49
     refine RL.skip rfl rfl ?_
     refine RL.skip rfl rfl ?_
     refine RL.pickT rfl rfl rfl rfl ?_
     refine RL.fin ?_
     cases h49
     exact fun a w st => mid_intro true h50 (St.cut [0] ⟨rfl, rfl, rfl, rfl, rfl, trivial⟩ (by decide) rfl st)
    replace h49 := ite_f b54 h49
    refine RL.mv rfl rfl rfl ?_
    refine RL.binI (v := .bool (decide (y40 > (1000000 : Int)))) rfl rfl rfl rfl rfl ?_
    refine RL.pickF rfl rfl rfl rfl ?_
    refine RL.fin ?_
    cases h49
    exact fun a w st => mid_intro (decide (y40 > (1000000 : Int))) h50 (St.cut [0] ⟨rfl, rfl, rfl, rfl, rfl, trivial⟩ (by decide) rfl st)
   rintro x46 h55
   have h56 := h51 _ h55
   try dsimp only at h56
   refine GL.weak (env' := [(1, .int .i64 x1), (10, v0), (11, .int .i64 ((x0).length : Int)), (12, .int .i64 (i30 : Int)), (21, .bool x46)]) (L' := [imm (TR.sl TR.int) v0 x0]) (fun _ _ st => st) ?_
   refine GL.cond rfl (fun b57 => ?_) (fun b57 => ?_)
   ·replace h56 := ite_t b57 h56
    refine GL.seq ?_
    refine GL.region ?_
    refine RL.asg rfl rfl rfl ?_
    refine RL.finG ?_
    cases h56
    replace h34 : some (Fl.rt _) = some y23 := h34
    cases h34
    have hh := h28 _ h26
    subst hh
    exact GL.ret (Gx.ret (v := .int .i64 (1 : Int)) (res1 rfl rfl) (fun a w st => st.toPostC rfl))
   replace h56 := ite_f b57 h56
   refine GL.skip ?_
   refine GL.nilB ?_
   refine GL.region ?_
   refine RL.binI (v := .int .i64 ((i30 + 1 : Nat) : Int)) rfl rfl rfl rfl (binI_succ i30 (by omega)) ?_
   refine RL.mv rfl rfl rfl ?_
   refine RL.fin ?_
   cases h56
   exact fun a w st => lop_intro (i30 + 1, r42) ⟨by show i30 + 1 + r42.length = (x0).length; simp only [List.length_cons] at h36; omega, h43, h34⟩ (by simp) (St.cut [0] ⟨rfl, rfl, rfl, rfl, trivial⟩ (by decide) rfl st)
  have h39 : ¬ i30 < (x0).length := by have := of_decide_eq_false b38; omega
  obtain rfl : r31 = [] := by rw [← h37]; exact List.drop_of_length_le (by omega)
  replace h35 : some (Fl.nx _) = some y23 := h35
  cases h35
  exact GL.exit (fun a w st => mid_intro () h26 (St.cut [] ⟨rfl, trivial⟩ (by decide) rfl st))
 rintro ⟨⟩ h58
 have h59 := h27 _ h58
 try dsimp only at h59
 refine GL.weak (env' := [(1, .int .i64 x1)]) (L' := []) (fun _ _ st => st) ?_
 refine GL.seq ?_
 refine GL.seq ?_
 obtain ⟨y63, K64, h65, h66, h67, h68, h69⟩ := bindR_K h59
 refine GL.join (ι := Bool) (fun (p : Bool) => [(28, .bool p)]) (fun (p : Bool) => []) (fun (p : Bool) => K64 (.nx p)) ?_ ?_
 ·skip
  refine GL.region ?_
  refine RL.mv rfl rfl rfl ?_
  refine RL.binI (v := .bool (decide (x1 < (0 : Int)))) rfl rfl rfl rfl rfl ?_
  refine RL.mv rfl rfl rfl ?_
  refine RL.split (t := 25) rfl (fun b70 => ?_) (fun b70 => ?_)
  ·replace h65 := ite_t b70 h65
   refine RL.skip rfl rfl ?_
   refine RL.skip rfl rfl ?_
   refine RL.pickT rfl rfl rfl rfl ?_
   refine RL.fin ?_
   cases h65
   exact fun a w st => mid_intro true h66 (St.cut [] ⟨rfl, trivial⟩ (by decide) rfl st)
  replace h65 := ite_f b70 h65
  refine RL.mv rfl rfl rfl ?_
  refine RL.binI (v := .bool (decide (x1 > (1000000 : Int)))) rfl rfl rfl rfl rfl ?_
  refine RL.pickF rfl rfl rfl rfl ?_
  refine RL.fin ?_
  cases h65
  exact fun a w st => mid_intro (decide (x1 > (1000000 : Int))) h66 (St.cut [] ⟨rfl, trivial⟩ (by decide) rfl st)
 rintro x62 h71
 have h72 := h67 _ h71
 try dsimp only at h72
 refine GL.weak (env' := [(28, .bool x62)]) (L' := []) (fun _ _ st => st) ?_
 refine GL.cond rfl (fun b73 => ?_) (fun b73 => ?_)
 ·replace h72 := ite_t b73 h72
  refine GL.seq ?_
  refine GL.region ?_
  refine RL.asg rfl rfl rfl ?_
  refine RL.finG ?_
  have h72 := Option.some.inj h72
  subst h72
  exact GL.ret (Gx.ret (v := .int .i64 (1 : Int)) (res1 rfl rfl) (fun a w st => st.toPostC rfl))
 replace h72 := ite_f b73 h72
 refine GL.skip ?_
 refine GL.seq ?_
 refine GL.region ?_
 refine RL.asg rfl rfl rfl ?_
 refine RL.finG ?_
 have h72 := Option.some.inj h72
 subst h72
 exact GL.ret (Gx.ret (v := .int .i64 (0 : Int)) (res1 rfl rfl) (fun a w st => st.toPostC rfl))

set_option maxHeartbeats 4000000 in
theorem slices_Clone_int_int_c (S : Hp) (w : World) (hS : S.sub w) (v0 : Value) (x0 : List Int) (k0 : (TR.sl TR.int).vrep S v0 x0) (res : List Int) (hm : slices_Clone_int_int_m x0 = some res) : Calls Try.prog 36 #[v0] w (Post w S (fun (o : Value) => o) (fun (o : Value) => [own 3 TR.int o res])) := by
  refine calls_enter 8 Try.func36 Try.ntmps36 rfl S false [(0, v0)] [imm (TR.sl TR.int) v0 x0] rfl ⟨rfl, trivial⟩ hS ⟨k0, trivial⟩ ?_
  unfold slices_Clone_int_int_m at hm
  obtain ⟨_, hc, hm⟩ := bind_some hm
  replace hc := chk_some hc
  have hm := Option.some.inj hm
  subst hm
  refine GL.seq (GL.region (RL.asg rfl rfl rfl (RL.finG (GL.seq (GL.seq (GL.region ?_))))))
  refine RL.mv rfl rfl rfl ?_
  refine RL.eqNil 0 Try.underlying41 rfl rfl rfl rfl rfl SlOf.imm (fun b hb => ?_)
  refine RL.finG (GL.cond rfl (fun h => ?_) (fun h => ?_))
  · have := hb h
    subst this
    refine GL.seq (GL.region (RL.asg rfl rfl rfl (RL.finG ?_)))
    refine GL.weak (fun a w st => st.nilOwn 3 TR.int) ?_
    exact GL.ret (Gx.ret (v := Value.slice none 0 0) (res1 rfl rfl) (fun a w st => (st.pick [1] (by decide) rfl).toPost (Value.slice none 0 0)))
  · refine GL.skip (GL.seq (GL.region ?_))
    refine RL.bS (t := TR.int) (vs := []) ([] : List Int) Try.underlying41 Try_lo3 rfl rfl rfl rfl trivial rfl (by decide) ?_
    intro v1
    refine RL.mv rfl rfl rfl ?_
    refine RL.app 1 0 Try.underlying41 Try_lo3 rfl rfl rfl rfl rfl rfl rfl SlOf.imm (by simpa using hc) ?_
    intro v2
    refine RL.asg rfl rfl rfl (RL.finG ?_)
    exact GL.ret (Gx.ret (v := v2) (res1 rfl rfl) (fun a w st => (st.pick [1] (by decide) rfl).toPost v2))

set_option maxHeartbeats 4000000 in
theorem math_bits_Len32_c (S : Hp) (w : World) (hS : S.sub w) (x0 : Int) (res : Int) (hm : math_bits_Len32_m x0 = some res) : Calls Try.prog 90 #[.int .u32 x0] w (PostC w (.int .i64 res)) := by
 refine calls_enter 19 Try.func90 Try.ntmps90 rfl S true [(0, .int .u32 x0)] [] rfl ⟨rfl, trivial⟩ hS trivial ?_
 unfold math_bits_Len32_m at hm
 refine GL.seq ?_
 refine GL.region ?_
 refine RL.asg rfl rfl rfl ?_
 refine RL.finG ?_
 refine GL.seq ?_
 refine GL.seq ?_
 refine GL.region ?_
 refine RL.mv rfl rfl rfl ?_
 refine RL.binI (v := .bool (decide (x0 ≥ (65536 : Int)))) rfl rfl rfl rfl rfl ?_
 refine RL.finG ?_
 obtain ⟨y9, K10, h11, h12, h13, h14, h15⟩ := bindR_K hm
 refine GL.join (ι := Int × Int) (fun (p : Int × Int) => [(0, .int .u32 p.1), (2, .int .i64 p.2)]) (fun (p : Int × Int) => []) (fun (p : Int × Int) => K10 (.nx (p.1, p.2))) ?_ ?_
 ·skip
  refine GL.cond rfl (fun b16 => ?_) (fun b16 => ?_)
  ·replace h11 := ite_t b16 h11
   refine GL.seq ?_
   refine GL.region ?_
   refine RL.mv rfl rfl rfl ?_
   obtain ⟨y19, e20, h11⟩ := bind_some h11
   replace e20 := chk_some e20
   refine RL.sh (by simp) rfl rfl rfl rfl e20 ?_
   refine RL.asg rfl rfl rfl ?_
   refine RL.finG ?_
   refine GL.region ?_
   refine RL.asg rfl rfl rfl ?_
   refine RL.finG ?_
   cases h11
   exact fun a w st => mid_intro (Int.fdiv x0 (2 ^ (min (16 : Int).toNat (IntKind.bits .u32))), (16 : Int)) h12 (St.cut [] ⟨rfl, rfl, trivial⟩ (by decide) rfl st)
  replace h11 := ite_f b16 h11
  refine GL.skip ?_
  cases h11
  exact fun a w st => mid_intro (x0, (0 : Int)) h12 (St.cut [] ⟨rfl, rfl, trivial⟩ (by decide) rfl st)
 rintro ⟨x7, x8⟩ h21
 have h22 := h13 _ h21
 try dsimp only at h22
 refine GL.weak (env' := [(0, .int .u32 x7), (2, .int .i64 x8)]) (L' := []) (fun _ _ st => st) ?_
 refine GL.seq ?_
 refine GL.seq ?_
 refine GL.region ?_
 refine RL.mv rfl rfl rfl ?_
 refine RL.binI (v := .bool (decide (x7 ≥ (256 : Int)))) rfl rfl rfl rfl rfl ?_
 refine RL.finG ?_
 obtain ⟨y30, K31, h32, h33, h34, h35, h36⟩ := bindR_K h22
 refine GL.join (ι := Int × Int) (fun (p : Int × Int) => [(0, .int .u32 p.1), (2, .int .i64 p.2)]) (fun (p : Int × Int) => []) (fun (p : Int × Int) => K31 (.nx (p.1, p.2))) ?_ ?_
 ·skip
  refine GL.cond rfl (fun b37 => ?_) (fun b37 => ?_)
  ·replace h32 := ite_t b37 h32
   refine GL.seq ?_
   refine GL.region ?_
   refine RL.mv rfl rfl rfl ?_
   obtain ⟨y40, e41, h32⟩ := bind_some h32
   replace e41 := chk_some e41
   refine RL.sh (by simp) rfl rfl rfl rfl e41 ?_
   refine RL.asg rfl rfl rfl ?_
   refine RL.finG ?_
   refine GL.region ?_
   refine RL.mv rfl rfl rfl ?_
   refine RL.binI (v := .int .i64 (wadd x8 (8 : Int))) rfl rfl rfl rfl rfl ?_
   refine RL.asg rfl rfl rfl ?_
   refine RL.finG ?_
   cases h32
   exact fun a w st => mid_intro (Int.fdiv x7 (2 ^ (min (8 : Int).toNat (IntKind.bits .u32))), wadd x8 (8 : Int)) h33 (St.cut [] ⟨rfl, rfl, trivial⟩ (by decide) rfl st)
  replace h32 := ite_f b37 h32
  refine GL.skip ?_
  cases h32
  exact fun a w st => mid_intro (x7, x8) h33 (St.cut [] ⟨rfl, rfl, trivial⟩ (by decide) rfl st)
 rintro ⟨x28, x29⟩ h42
 have h43 := h34 _ h42
 try dsimp only at h43
 refine GL.weak (env' := [(0, .int .u32 x28), (2, .int .i64 x29)]) (L' := []) (fun _ _ st => st) ?_
 refine GL.seq ?_
 refine GL.region ?_
 refine RL.mv rfl rfl rfl ?_
 refine RL.mv rfl rfl rfl ?_
 refine RL.cvI Try.underlying112 Try.underlying5 rfl rfl rfl ?_
 obtain ⟨y46, e47, h43⟩ := bind_some h43
 refine RL.idxT Try.underlying9 rfl rfl rfl rfl (idx_some e47).1 (idx_some e47).2.2 ?_
 refine RL.cvI Try.underlying5 Try.underlying3 rfl rfl rfl ?_
 refine RL.binI (v := .int .i64 (wadd x29 (IntKind.wrap .i64 (y46.toNat : Int)))) rfl rfl rfl rfl rfl ?_
 refine RL.asg rfl rfl rfl ?_
 refine RL.finG ?_
 have h43 := Option.some.inj h43
 subst h43
 exact GL.ret (Gx.ret (v := .int .i64 (wadd x29 (IntKind.wrap .i64 (y46.toNat : Int)))) (res1 rfl rfl) (fun a w st => st.toPostC rfl))

set_option maxHeartbeats 4000000 in
theorem math_bits_Len64_c (S : Hp) (w : World) (hS : S.sub w) (x0 : Int) (res : Int) (hm : math_bits_Len64_m x0 = some res) : Calls Try.prog 91 #[.int .u64 x0] w (PostC w (.int .i64 res)) := by
 refine calls_enter 25 Try.func91 Try.ntmps91 rfl S true [(0, .int .u64 x0)] [] rfl ⟨rfl, trivial⟩ hS trivial ?_
 unfold math_bits_Len64_m at hm
 refine GL.seq ?_
 refine GL.region ?_
 refine RL.asg rfl rfl rfl ?_
 refine RL.finG ?_
 refine GL.seq ?_
 refine GL.seq ?_
 refine GL.region ?_
 refine RL.mv rfl rfl rfl ?_
 refine RL.binI (v := .bool (decide (x0 ≥ (4294967296 : Int)))) rfl rfl rfl rfl rfl ?_
 refine RL.finG ?_
 obtain ⟨y9, K10, h11, h12, h13, h14, h15⟩ := bindR_K hm
 refine GL.join (ι := Int × Int) (fun (p : Int × Int) => [(0, .int .u64 p.1), (2, .int .i64 p.2)]) (fun (p : Int × Int) => []) (fun (p : Int × Int) => K10 (.nx (p.1, p.2))) ?_ ?_
 ·skip
  refine GL.cond rfl (fun b16 => ?_) (fun b16 => ?_)
  ·replace h11 := ite_t b16 h11
   refine GL.seq ?_
   refine GL.region ?_
   refine RL.mv rfl rfl rfl ?_
   obtain ⟨y19, e20, h11⟩ := bind_some h11
   replace e20 := chk_some e20
   refine RL.sh (by simp) rfl rfl rfl rfl e20 ?_
   refine RL.asg rfl rfl rfl ?_
   refine RL.finG ?_
   refine GL.region ?_
   refine RL.asg rfl rfl rfl ?_
   refine RL.finG ?_
   cases h11
   exact fun a w st => mid_intro (Int.fdiv x0 (2 ^ (min (32 : Int).toNat (IntKind.bits .u64))), (32 : Int)) h12 (St.cut [] ⟨rfl, rfl, trivial⟩ (by decide) rfl st)
  replace h11 := ite_f b16 h11
  refine GL.skip ?_
  cases h11
  exact fun a w st => mid_intro (x0, (0 : Int)) h12 (St.cut [] ⟨rfl, rfl, trivial⟩ (by decide) rfl st)
 rintro ⟨x7, x8⟩ h21
 have h22 := h13 _ h21
 try dsimp only at h22
 refine GL.weak (env' := [(0, .int .u64 x7), (2, .int .i64 x8)]) (L' := []) (fun _ _ st => st) ?_
 refine GL.seq ?_
 refine GL.seq ?_
 refine GL.region ?_
 refine RL.mv rfl rfl rfl ?_
 refine RL.binI (v := .bool (decide (x7 ≥ (65536 : Int)))) rfl rfl rfl rfl rfl ?_
 refine RL.finG ?_
 obtain ⟨y30, K31, h32, h33, h34, h35, h36⟩ := bindR_K h22
 refine GL.join (ι := Int × Int) (fun (p : Int × Int) => [(0, .int .u64 p.1), (2, .int .i64 p.2)]) (fun (p : Int × Int) => []) (fun (p : Int × Int) => K31 (.nx (p.1, p.2))) ?_ ?_
 ·skip
  refine GL.cond rfl (fun b37 => ?_) (fun b37 => ?_)
  ·replace h32 := ite_t b37 h32
   refine GL.seq ?_
   refine GL.region ?_
   refine RL.mv rfl rfl rfl ?_
   obtain ⟨y40, e41, h32⟩ := bind_some h32
   replace e41 := chk_some e41
   refine RL.sh (by simp) rfl rfl rfl rfl e41 ?_
   refine RL.asg rfl rfl rfl ?_
   refine RL.finG ?_
   refine GL.region ?_
   refine RL.mv rfl rfl rfl ?_
   refine RL.binI (v := .int .i64 (wadd x8 (16 : Int))) rfl rfl rfl rfl rfl ?_
   refine RL.asg rfl rfl rfl ?_
   refine RL.finG ?_
   cases h32
   exact fun a w st => mid_intro (Int.fdiv x7 (2 ^ (min (16 : Int).toNat (IntKind.bits .u64))), wadd x8 (16 : Int)) h33 (St.cut [] ⟨rfl, rfl, trivial⟩ (by decide) rfl st)
  replace h32 := ite_f b37 h32
  refine GL.skip ?_
  cases h32
  exact fun a w st => mid_intro (x7, x8) h33 (St.cut [] ⟨rfl, rfl, trivial⟩ (by decide) rfl st)
 rintro ⟨x28, x29⟩ h42
 have h43 := h34 _ h42
 try dsimp only at h43
 refine GL.weak (env' := [(0, .int .u64 x28), (2, .int .i64 x29)]) (L' := []) (fun _ _ st => st) ?_
 refine GL.seq ?_
 refine GL.seq ?_
 refine GL.region ?_
 refine RL.mv rfl rfl rfl ?_
 refine RL.binI (v := .bool (decide (x28 ≥ (256 : Int)))) rfl rfl rfl rfl rfl ?_
 refine RL.finG ?_
 obtain ⟨y51, K52, h53, h54, h55, h56, h57⟩ := bindR_K h43
 refine GL.join (ι := Int × Int) (fun (p : Int × Int) => [(0, .int .u64 p.1), (2, .int .i64 p.2)]) (fun (p : Int × Int) => []) (fun (p : Int × Int) => K52 (.nx (p.1, p.2))) ?_ ?_
 ·skip
  refine GL.cond rfl (fun b58 => ?_) (fun b58 => ?_)
  ·replace h53 := ite_t b58 h53
   refine GL.seq ?_
   refine GL.region ?_
   refine RL.mv rfl rfl rfl ?_
   obtain ⟨y61, e62, h53⟩ := bind_some h53
   replace e62 := chk_some e62
   refine RL.sh (by simp) rfl rfl rfl rfl e62 ?_
   refine RL.asg rfl rfl rfl ?_
   refine RL.finG ?_
   refine GL.region ?_
   refine RL.mv rfl rfl rfl ?_
   refine RL.binI (v := .int .i64 (wadd x29 (8 : Int))) rfl rfl rfl rfl rfl ?_
   refine RL.asg rfl rfl rfl ?_
   refine RL.finG ?_
   cases h53
   exact fun a w st => mid_intro (Int.fdiv x28 (2 ^ (min (8 : Int).toNat (IntKind.bits .u64))), wadd x29 (8 : Int)) h54 (St.cut [] ⟨rfl, rfl, trivial⟩ (by decide) rfl st)
  replace h53 := ite_f b58 h53
  refine GL.skip ?_
  cases h53
  exact fun a w st => mid_intro (x28, x29) h54 (St.cut [] ⟨rfl, rfl, trivial⟩ (by decide) rfl st)
 rintro ⟨x49, x50⟩ h63
 have h64 := h55 _ h63
 try dsimp only at h64
 refine GL.weak (env' := [(0, .int .u64 x49), (2, .int .i64 x50)]) (L' := []) (fun _ _ st => st) ?_
 refine GL.seq ?_
 refine GL.region ?_
 refine RL.mv rfl rfl rfl ?_
 refine RL.mv rfl rfl rfl ?_
 refine RL.cvI Try.underlying114 Try.underlying5 rfl rfl rfl ?_
 obtain ⟨y67, e68, h64⟩ := bind_some h64
 refine RL.idxT Try.underlying9 rfl rfl rfl rfl (idx_some e68).1 (idx_some e68).2.2 ?_
 refine RL.cvI Try.underlying5 Try.underlying3 rfl rfl rfl ?_
 refine RL.binI (v := .int .i64 (wadd x50 (IntKind.wrap .i64 (y67.toNat : Int)))) rfl rfl rfl rfl rfl ?_
 refine RL.asg rfl rfl rfl ?_
 refine RL.finG ?_
 have h64 := Option.some.inj h64
 subst h64
 exact GL.ret (Gx.ret (v := .int .i64 (wadd x50 (IntKind.wrap .i64 (y67.toNat : Int)))) (res1 rfl rfl) (fun a w st => st.toPostC rfl))

set_option maxHeartbeats 4000000 in
theorem math_bits_Len_c (S : Hp) (w : World) (hS : S.sub w) (x0 : Int) (res : Int) (hm : math_bits_Len_m x0 = some res) : Calls Try.prog 76 #[.int .u64 x0] w (PostC w (.int .i64 res)) := by
 refine calls_enter 8 Try.func76 Try.ntmps76 rfl S true [(0, .int .u64 x0)] [] rfl ⟨rfl, trivial⟩ hS trivial ?_
 unfold math_bits_Len_m at hm
 refine GL.seq ?_
 refine GL.region ?_
 refine RL.asg rfl rfl rfl ?_
 refine RL.finG ?_
 refine GL.seq ?_
 refine GL.cond rfl (fun b2 => ?_) (fun b2 => ?_)
 ·replace hm := ite_t b2 hm
  refine GL.seq ?_
  refine GL.region ?_
  refine RL.mv rfl rfl rfl ?_
  refine RL.cvI Try.underlying97 Try.underlying112 rfl rfl rfl ?_
  obtain ⟨y5, e6, hm⟩ := bind_some hm
  refine RL.callC (v := .int .i64 y5) (vs := [.int .u32 (IntKind.wrap .u32 x0)]) Try_fit90 rfl rfl rfl rfl (fun U w hU hW hL => math_bits_Len32_c U w hU (IntKind.wrap .u32 x0) _ e6) ?_
  refine RL.asg rfl rfl rfl ?_
  refine RL.finG ?_
  have hm := Option.some.inj hm
  subst hm
  exact GL.ret (Gx.ret (v := .int .i64 y5) (res1 rfl rfl) (fun a w st => st.toPostC rfl))
 replace hm := ite_f b2 hm
 refine GL.skip ?_
 refine GL.seq ?_
 refine GL.region ?_
 refine RL.mv rfl rfl rfl ?_
 obtain ⟨y9, e10, hm⟩ := bind_some hm
 refine RL.callC (v := .int .i64 y9) (vs := [.int .u64 x0]) Try_fit91 rfl rfl rfl rfl (fun U w hU hW hL => math_bits_Len64_c U w hU x0 _ e10) ?_
 refine RL.asg rfl rfl rfl ?_
 refine RL.finG ?_
 have hm := Option.some.inj hm
 subst hm
 exact GL.ret (Gx.ret (v := .int .i64 y9) (res1 rfl rfl) (fun a w st => st.toPostC rfl))

set_option maxHeartbeats 4000000 in
theorem cmp_isNaN_int_c (S : Hp) (w : World) (hS : S.sub w) (x0 : Int) (res : Bool) (hm : cmp_isNaN_int_m x0 = some res) : Calls Try.prog 77 #[.int .i64 x0] w (PostC w (.bool res)) := by
 refine calls_enter 6 Try.func77 Try.ntmps77 rfl S true [(0, .int .i64 x0)] [] rfl ⟨rfl, trivial⟩ hS trivial ?_
 unfold cmp_isNaN_int_m at hm
 refine GL.seq ?_
 refine GL.region ?_
 refine RL.asg rfl rfl rfl ?_
 refine RL.finG ?_
 refine GL.seq ?_
 refine GL.region ?_
 refine RL.mv rfl rfl rfl ?_
 refine RL.mv rfl rfl rfl ?_
 refine RL.binI (v := .bool (x0 != x0)) rfl rfl rfl rfl rfl ?_
 refine RL.asg rfl rfl rfl ?_
 refine RL.finG ?_
 have hm := Option.some.inj hm
 subst hm
 exact GL.ret (Gx.ret (v := .bool (x0 != x0)) (res1 rfl rfl) (fun a w st => st.toPostC rfl))

set_option maxHeartbeats 4000000 in
theorem cmp_Less_int_c (S : Hp) (w : World) (hS : S.sub w) (x0 : Int) (x1 : Int) (res : Bool) (hm : cmp_Less_int_m x0 x1 = some res) : Calls Try.prog 65 #[.int .i64 x0, .int .i64 x1] w (PostC w (.bool res)) := by
 refine calls_enter 17 Try.func65 Try.ntmps65 rfl S true [(0, .int .i64 x0), (1, .int .i64 x1)] [] rfl ⟨rfl, ⟨rfl, trivial⟩⟩ hS trivial ?_
 unfold cmp_Less_int_m at hm
 refine GL.seq ?_
 refine GL.region ?_
 refine RL.asg rfl rfl rfl ?_
 refine RL.finG ?_
 refine GL.seq ?_
 obtain ⟨y16, K17, h18, h19, h20, h21, h22⟩ := bindR_K hm
 refine GL.join (ι := Bool) (fun (p : Bool) => [(4, .bool p)]) (fun (p : Bool) => []) (fun (p : Bool) => K17 (.nx p)) ?_ ?_
 ·skip
  refine GL.region ?_
  refine RL.mv rfl rfl rfl ?_
  obtain ⟨y23, e24, h18⟩ := bind_some h18
  refine RL.callC (v := .bool y23) (vs := [.int .i64 x0]) Try_fit77 rfl rfl rfl rfl (fun U w hU hW hL => cmp_isNaN_int_c U w hU x0 _ e24) ?_
  refine RL.mv rfl rfl rfl ?_
  refine RL.split (t := 7) rfl (fun b25 => ?_) (fun b25 => ?_)
  ·replace h18 := ite_t b25 h18
   refine RL.mv rfl rfl rfl ?_
   obtain ⟨y26, e27, h18⟩ := bind_some h18
   refine RL.callC (v := .bool y26) (vs := [.int .i64 x1]) Try_fit77 rfl rfl rfl rfl (fun U w hU hW hL => cmp_isNaN_int_c U w hU x1 _ e27) ?_
   refine RL.notB rfl rfl rfl ?_
   refine RL.pickT rfl rfl rfl rfl ?_
   refine RL.mv rfl rfl rfl ?_
   refine RL.split (t := 12) rfl (fun b28 => ?_) (fun b28 => ?_)
   ·replace h18 := ite_t b28 h18
    refine RL.skip rfl rfl ?_
    refine RL.skip rfl rfl ?_
    refine RL.skip rfl rfl ?_
    refine RL.pickT rfl rfl rfl rfl ?_
    refine RL.asg rfl rfl rfl ?_
    refine RL.fin ?_
    cases h18
    exact fun a w st => mid_intro true h19 (St.cut [] ⟨rfl, trivial⟩ (by decide) rfl st)
   replace h18 := ite_f b28 h18
   refine RL.mv rfl rfl rfl ?_
   refine RL.mv rfl rfl rfl ?_
   refine RL.binI (v := .bool (decide (x0 < x1))) rfl rfl rfl rfl rfl ?_
   refine RL.pickF rfl rfl rfl rfl ?_
   refine RL.asg rfl rfl rfl ?_
   refine RL.fin ?_
   cases h18
   exact fun a w st => mid_intro (decide (x0 < x1)) h19 (St.cut [] ⟨rfl, trivial⟩ (by decide) rfl st)
  replace h18 := ite_f b25 h18
  refine RL.skip rfl rfl ?_
  refine RL.skip rfl rfl ?_
  refine RL.skip rfl rfl ?_
  refine RL.pickF rfl rfl rfl rfl ?_
  refine RL.mv rfl rfl rfl ?_
  refine RL.mv rfl rfl rfl ?_
  refine RL.mv rfl rfl rfl ?_
  refine RL.binI (v := .bool (decide (x0 < x1))) rfl rfl rfl rfl rfl ?_
  refine RL.pickF rfl rfl rfl rfl ?_
  refine RL.asg rfl rfl rfl ?_
  refine RL.fin ?_
  cases h18
  exact fun a w st => mid_intro (decide (x0 < x1)) h19 (St.cut [] ⟨rfl, trivial⟩ (by decide) rfl st)
 rintro x15 h29
 have h30 := h20 _ h29
 try dsimp only at h30
 refine GL.weak (env' := [(4, .bool x15)]) (L' := []) (fun _ _ st => st) ?_
 have h30 := Option.some.inj h30
 subst h30
 exact GL.ret (Gx.ret (v := .bool x15) (res1 rfl rfl) (fun a w st => st.toPostC rfl))

set_option maxHeartbeats 4000000 in
theorem slices_insertionSortOrdered_int_c (B : World) (S X : Hp) (f : Nat → Hp) (w : World) (v0 : Value) (x0 : (List Int)) (hO : HeapOk B.heap.size S f [own 3 TR.int v0 x0, keep X].length w) (hB : Below B.heap.size B w) (hI : Its [own 3 TR.int v0 x0, keep X] S f) (x1 : Int) (x2 : Int) (res : (List Int)) (hm : slices_insertionSortOrdered_int_m x0 x1 x2 = some res) : Calls Try.prog 82 #[v0, .int .i64 x1, .int .i64 x2] w (PostM B S (fun (o : Unit) => .tuple #[]) (fun (o : Unit) => [own 3 TR.int v0 res, keep X])) := by
 refine calls_enterM 49 Try.func82 Try.ntmps82 rfl B S f [(0, v0), (1, .int .i64 x1), (2, .int .i64 x2)] [own 3 TR.int v0 x0, keep X] [] rfl ⟨rfl, ⟨rfl, ⟨rfl, trivial⟩⟩⟩ hB hO hI trivial ?_
 unfold slices_insertionSortOrdered_int_m at hm
 refine GL.seq ?_
 refine GL.region ?_
 refine RL.mv rfl rfl rfl ?_
 refine RL.binI (v := .int .i64 (wadd x1 (1 : Int))) rfl rfl rfl rfl rfl ?_
 refine RL.asg rfl rfl rfl ?_
 refine RL.finG ?_
 obtain ⟨y339, K340, h341, h342, h343, h344, h345⟩ := bindR_K hm
 refine GL.join (ι := (List Int) × Int) (fun (p : (List Int) × Int) => []) (fun (p : (List Int) × Int) => [own 3 TR.int v0 p.1, keep X]) (fun (p : (List Int) × Int) => K340 (.nx (p.1, p.2))) ?_ ?_
 ·refine GL.block ?_
  refine GL.loop (ι := Nat × (List Int) × Int) (fun (p : Nat × (List Int) × Int) => [(0, v0), (1, .int .i64 x1), (2, .int .i64 x2), (6, .int .i64 p.2.2)]) (fun (p : Nat × (List Int) × Int) => [own 3 TR.int v0 p.2.1, keep X]) (fun (p : Nat × (List Int) × Int) => loopM (slices_insertionSortOrdered_int_b1 x2 x1) p.1 (p.2.1, p.2.2) = some y339) (fun (p : Nat × (List Int) × Int) => p.1) (1048576, x0, wadd x1 (1 : Int)) h341 (fun a w st => St.cut [0, 1] ⟨rfl, rfl, rfl, rfl, trivial⟩ (by decide) rfl st) ?_
  rintro ⟨r347, l171, x172⟩ h351
  try dsimp only at h351
  refine GL.weak (env' := [(0, v0), (1, .int .i64 x1), (2, .int .i64 x2), (6, .int .i64 x172)]) (L' := [own 3 TR.int v0 l171, keep X]) (fun _ _ st => st) ?_
  obtain ⟨r354, z348, hr, h349, h350⟩ := loopM_some h351
  subst hr
  unfold slices_insertionSortOrdered_int_b1 at h349
  try dsimp only at h349
  refine GL.seq ?_
  refine GL.seq ?_
  refine GL.region ?_
  refine RL.mv rfl rfl rfl ?_
  refine RL.mv rfl rfl rfl ?_
  refine RL.binI (v := .bool (decide (x172 < x2))) rfl rfl rfl rfl rfl ?_
  refine RL.finG ?_
  refine GL.cond rfl (fun b355 => ?_) (fun b355 => ?_)
  ·replace h349 := ite_t b355 h349
   refine GL.skip ?_
   refine GL.seq ?_
   refine GL.block ?_
   refine GL.seq ?_
   refine GL.region ?_
   refine RL.mv rfl rfl rfl ?_
   refine RL.asg rfl rfl rfl ?_
   refine RL.finG ?_
   obtain ⟨y455, K456, h457, h458, h459, h460, h461⟩ := bindF_K h349
   refine GL.join (ι := (List Int) × Int) (fun (p : (List Int) × Int) => [(0, v0), (1, .int .i64 x1), (2, .int .i64 x2), (6, .int .i64 x172)]) (fun (p : (List Int) × Int) => [own 3 TR.int v0 p.1, keep X]) (fun (p : (List Int) × Int) => K456 (.nx (p.1, p.2))) ?_ ?_
   ·refine GL.block ?_
    refine GL.loop (ι := Nat × (List Int) × Int) (fun (p : Nat × (List Int) × Int) => [(0, v0), (1, .int .i64 x1), (2, .int .i64 x2), (6, .int .i64 x172), (7, .int .i64 p.2.2)]) (fun (p : Nat × (List Int) × Int) => [own 3 TR.int v0 p.2.1, keep X]) (fun (p : Nat × (List Int) × Int) => loopM (slices_insertionSortOrdered_int_b2 x1) p.1 (p.2.1, p.2.2) = some y455) (fun (p : Nat × (List Int) × Int) => p.1) (1048576, l171, x172) h457 (fun a w st => St.cut [0, 1] ⟨rfl, rfl, rfl, rfl, rfl, trivial⟩ (by decide) rfl st) ?_
    rintro ⟨r463, l405, x406⟩ h467
    try dsimp only at h467
    refine GL.weak (env' := [(0, v0), (1, .int .i64 x1), (2, .int .i64 x2), (6, .int .i64 x172), (7, .int .i64 x406)]) (L' := [own 3 TR.int v0 l405, keep X]) (fun _ _ st => st) ?_
    obtain ⟨r470, z464, hr, h465, h466⟩ := loopM_some h467
    subst hr
    unfold slices_insertionSortOrdered_int_b2 at h465
    try dsimp only at h465
    refine GL.seq ?_
    refine GL.seq ?_
    obtain ⟨y486, K487, h488, h489, h490, h491, h492⟩ := bindF_K h465
    refine GL.join (ι := Bool) (fun (p : Bool) => [(0, v0), (1, .int .i64 x1), (2, .int .i64 x2), (6, .int .i64 x172), (7, .int .i64 x406), (30, .bool p)]) (fun (p : Bool) => [own 3 TR.int v0 l405, keep X]) (fun (p : Bool) => K487 (.nx p)) ?_ ?_
    ·skip
     refine GL.regionQ rfl rfl (by kernel_rfl) ?_
     refine RL.mv rfl rfl rfl ?_
     refine RL.mv rfl rfl rfl ?_
     refine RL.binI (v := .bool (decide (x406 > x1))) rfl rfl rfl rfl rfl ?_
     refine RL.mv rfl rfl rfl ?_
     refine RL.split (t := 19) rfl (fun b493 => ?_) (fun b493 => ?_)
     ·replace h488 := ite_t b493 h488
      refine RL.mv rfl rfl rfl ?_
      refine RL.mv rfl rfl rfl ?_
      obtain ⟨y494, e495, h488⟩ := bind_some h488
      refine RL.idxS (sz := 1) 0 Try.underlying41 Try_ln3 rfl rfl rfl rfl rfl SlOf.own (idx_some e495).1 (idx_some e495).2.1 ?_
      refine RL.ldSx (i := (x406).toNat) (e' := y494) 0 Ex.ik Try_ln3 rfl rfl rfl rfl SlOf.own (idx_some e495).2.2 Part.self ?_
      refine RL.mv rfl rfl rfl ?_
      refine RL.mv rfl rfl rfl ?_
      refine RL.binI (v := .int .i64 (wsub x406 (1 : Int))) rfl rfl rfl rfl rfl ?_
      obtain ⟨y496, e497, h488⟩ := bind_some h488
      refine RL.idxS (sz := 1) 0 Try.underlying41 Try_ln3 rfl rfl rfl rfl rfl SlOf.own (idx_some e497).1 (idx_some e497).2.1 ?_
      refine RL.ldSx (i := (wsub x406 (1 : Int)).toNat) (e' := y496) 0 Ex.ik Try_ln3 rfl rfl rfl rfl SlOf.own (idx_some e497).2.2 Part.self ?_
      obtain ⟨y498, e499, h488⟩ := bind_some h488
      refine RL.callC (v := .bool y498) (vs := [.int .i64 y494, .int .i64 y496]) Try_fit65 rfl rfl rfl rfl (fun U w hU hW hL => cmp_Less_int_c U w hU y494 y496 _ e499) ?_
      refine RL.pickT rfl rfl rfl rfl ?_
      refine RL.finQ ?_
      cases h488
      exact fun a w st => mid_intro y498 h489 (St.cut [0, 1] ⟨rfl, rfl, rfl, rfl, rfl, rfl, trivial⟩ (by decide) rfl st)
     replace h488 := ite_f b493 h488
     refine RL.skip rfl rfl ?_
     refine RL.skip rfl rfl ?_
     refine RL.skip rfl rfl ?_
     refine RL.skip rfl rfl ?_
     refine RL.skip rfl rfl ?_
     refine RL.skip rfl rfl ?_
     refine RL.skip rfl rfl ?_
     refine RL.skip rfl rfl ?_
     refine RL.skip rfl rfl ?_
     refine RL.skip rfl rfl ?_
     refine RL.pickF rfl rfl rfl rfl ?_
     refine RL.finQ ?_
     cases h488
     exact fun a w st => mid_intro false h489 (St.cut [0, 1] ⟨rfl, rfl, rfl, rfl, rfl, rfl, trivial⟩ (by decide) rfl st)
    rintro x485 h500
    have h501 := h490 _ h500
    try dsimp only at h501
    refine GL.weak (env' := [(0, v0), (1, .int .i64 x1), (2, .int .i64 x2), (6, .int .i64 x172), (7, .int .i64 x406), (30, .bool x485)]) (L' := [own 3 TR.int v0 l405, keep X]) (fun _ _ st => st) ?_
    refine GL.cond rfl (fun b502 => ?_) (fun b502 => ?_)
    ·replace h501 := ite_t b502 h501
     refine GL.skip ?_
     refine GL.seq ?_
     refine GL.block ?_
     refine GL.regionA rfl rfl ?_
     refine RA.mv 0 rfl (by kernel_rfl) rfl rfl rfl ?_
     refine RA.mv 1 rfl (by kernel_rfl) rfl rfl rfl ?_
     refine RA.mv 2 rfl (by kernel_rfl) rfl rfl rfl ?_
     refine RA.mv 3 rfl (by kernel_rfl) rfl rfl rfl ?_
     refine RA.binI (v := .int .i64 (wsub x406 (1 : Int))) 4 rfl (by kernel_rfl) rfl rfl rfl rfl rfl ?_
     refine RA.mv 5 rfl (by kernel_rfl) rfl rfl rfl ?_
     refine RA.mv 6 rfl (by kernel_rfl) rfl rfl rfl ?_
     refine RA.binI (v := .int .i64 (wsub x406 (1 : Int))) 7 rfl (by kernel_rfl) rfl rfl rfl rfl rfl ?_
     obtain ⟨y511, e512, h501⟩ := bind_some h501
     refine RA.idxS (sz := 1) 0 Try.underlying41 Try_ln3 8 rfl (by kernel_rfl) rfl rfl rfl rfl rfl SlOf.own (idx_some e512).1 (idx_some e512).2.1 ?_
     refine RA.mv 10 rfl (by kernel_rfl) rfl rfl rfl ?_
     refine RA.mv 11 rfl (by kernel_rfl) rfl rfl rfl ?_
     obtain ⟨y513, e514, h501⟩ := bind_some h501
     refine RA.idxS (sz := 1) 0 Try.underlying41 Try_ln3 12 rfl (by kernel_rfl) rfl rfl rfl rfl rfl SlOf.own (idx_some e514).1 (idx_some e514).2.1 ?_
     refine RA.still (le := #[true, true, true, true, true, true, true, true, true, true, true, true, true, true, true, false, false, false]) (f := 3) [9, 13, 14] 15 rfl (by kernel_rfl) ?_
     simp only [pickOps, List.getElem?_toArray, List.getElem?_cons_succ, List.getElem?_cons_zero]
     refine RL.ldSx (i := (wsub x406 (1 : Int)).toNat) (e' := y511) 0 Ex.ik Try_ln3 rfl rfl rfl rfl SlOf.own (idx_some e512).2.2 Part.self ?_
     refine RL.ldSx (i := (x406).toNat) (e' := y513) 0 Ex.ik Try_ln3 rfl rfl rfl rfl SlOf.own (idx_some e514).2.2 Part.self ?_
     obtain ⟨y515, e516, h501⟩ := bind_some h501
     refine RL.idxS (sz := 1) 0 Try.underlying41 Try_ln3 rfl rfl rfl rfl rfl SlOf.own (idx_some e516).1 (idx_some e516).2.1 ?_
     refine RL.finH ?_
     refine RL.fin ?_
     refine RA.next ?_
     refine RA.seq 15 rfl (by kernel_rfl) ?_
     refine RL.stS (i := (x406).toNat) (e' := y511) (e1 := y511) (r := TR.int) 0 Try_ln3 rfl rfl rfl rfl VR.int rfl (idx_some e516).2.2 Upd.self ?_
     refine RL.fin ?_
     refine RA.next ?_
     obtain ⟨y517, e518, h501⟩ := bind_some h501
     refine RA.idxS (sz := 1) 0 Try.underlying41 Try_ln3 16 rfl (by kernel_rfl) rfl rfl rfl rfl rfl SlOf.own (idx_some e518).1 (idx_some e518).2.1 ?_
     refine RA.seq 17 rfl (by kernel_rfl) ?_
     refine RL.stS (i := (wsub x406 (1 : Int)).toNat) (e' := y513) (e1 := y513) (r := TR.int) 0 Try_ln3 rfl rfl rfl rfl VR.int rfl (idx_some e518).2.2 Upd.self ?_
     refine RL.fin ?_
     refine RA.next ?_
     refine RA.doneG (by kernel_rfl) ?_
     refine GL.weak (env' := [(0, v0), (1, .int .i64 x1), (2, .int .i64 x2), (6, .int .i64 x172), (7, .int .i64 x406)]) (L' := [own 3 TR.int v0 (List.set (List.set l405 ((x406).toNat) y511) ((wsub x406 (1 : Int)).toNat) y513), keep X]) (fun a w st => St.cut [0, 1] ⟨rfl, rfl, rfl, rfl, rfl, trivial⟩ (by decide) rfl st) ?_
     refine GL.nilB ?_
     refine GL.region ?_
     refine RL.mv rfl rfl rfl ?_
     refine RL.binI (v := .int .i64 (wsub x406 (1 : Int))) rfl rfl rfl rfl rfl ?_
     refine RL.asg rfl rfl rfl ?_
     refine RL.finG ?_
     cases h501
     exact fun a w st => lop_intro (r470, (List.set (List.set l405 ((x406).toNat) y511) ((wsub x406 (1 : Int)).toNat) y513), wsub x406 (1 : Int)) (by exact h466) (by simp) (St.cut [0, 1] ⟨rfl, rfl, rfl, rfl, rfl, trivial⟩ (by decide) rfl st)
    replace h501 := ite_f b502 h501
    cases h501
    replace h466 : some (Fl.nx _) = some y455 := h466
    cases h466
    exact GL.exit (fun a w st => mid_intro (l405, x406) h458 (St.cut [0, 1] ⟨rfl, rfl, rfl, rfl, trivial⟩ (by decide) rfl st))
   rintro ⟨l405, x406⟩ h519
   have h520 := h459 _ h519
   try dsimp only at h520
   refine GL.weak (env' := [(0, v0), (1, .int .i64 x1), (2, .int .i64 x2), (6, .int .i64 x172)]) (L' := [own 3 TR.int v0 l405, keep X]) (fun _ _ st => st) ?_
   refine GL.nilB ?_
   refine GL.region ?_
   refine RL.mv rfl rfl rfl ?_
   refine RL.binI (v := .int .i64 (wadd x172 (1 : Int))) rfl rfl rfl rfl rfl ?_
   refine RL.asg rfl rfl rfl ?_
   refine RL.finG ?_
   cases h520
   exact fun a w st => lop_intro (r354, l405, wadd x172 (1 : Int)) (by exact h350) (by simp) (St.cut [0, 1] ⟨rfl, rfl, rfl, rfl, trivial⟩ (by decide) rfl st)
  replace h349 := ite_f b355 h349
  cases h349
  replace h350 : some (Fl.nx _) = some y339 := h350
  cases h350
  exact GL.exit (fun a w st => mid_intro (l171, x172) h342 (St.cut [0, 1] trivial (by decide) rfl st))
 rintro ⟨l171, x172⟩ h521
 have h522 := h343 _ h521
 try dsimp only at h522
 refine GL.weak (env' := []) (L' := [own 3 TR.int v0 l171, keep X]) (fun _ _ st => st) ?_
 have h522 := Option.some.inj h522
 subst h522
 exact GL.nil (Gx.retN (v := .tuple #[]) (res0 rfl) (fun a w st => (st.pick [0, 1] (by decide) rfl).toPostM (V := fun (o : Unit) => .tuple #[]) (LR := fun (o : Unit) => [own 3 TR.int v0 l171, keep X]) ()))

set_option maxHeartbeats 4000000 in
theorem slices_pdqsortOrdered_int_c (B : World) (S X : Hp) (f : Nat → Hp) (w : World) (v0 : Value) (x0 : (List Int)) (hO : HeapOk B.heap.size S f [own 3 TR.int v0 x0, keep X].length w) (hB : Below B.heap.size B w) (hI : Its [own 3 TR.int v0 x0, keep X] S f) (x1 : Int) (x2 : Int) (x3 : Int) (res : (List Int)) (hm : slices_pdqsortOrdered_int_m x0 x1 x2 x3 = some res) : Calls Try.prog 75 #[v0, .int .i64 x1, .int .i64 x2, .int .i64 x3] w (PostM B S (fun (o : Unit) => .tuple #[]) (fun (o : Unit) => [own 3 TR.int v0 res, keep X])) := by
 refine calls_enterM 134 Try.func75 Try.ntmps75 rfl B S f [(0, v0), (1, .int .i64 x1), (2, .int .i64 x2), (3, .int .i64 x3)] [own 3 TR.int v0 x0, keep X] [] rfl ⟨rfl, ⟨rfl, ⟨rfl, ⟨rfl, trivial⟩⟩⟩⟩ hB hO hI trivial ?_
 unfold slices_pdqsortOrdered_int_m at hm
 refine GL.seq ?_
 refine GL.region ?_
 refine RL.asg rfl rfl rfl ?_
 refine RL.finG ?_
 refine GL.seq ?_
 refine GL.region ?_
 refine RL.asg rfl rfl rfl ?_
 refine RL.finG ?_
 obtain ⟨y82, K83, h84, h85, h86, h87, h88⟩ := bindR_K hm
 refine GL.join (ι := (List Int) × Int × Int × Int × Bool × Bool) (fun (p : (List Int) × Int × Int × Int × Bool × Bool) => []) (fun (p : (List Int) × Int × Int × Int × Bool × Bool) => [own 3 TR.int v0 p.1, keep X]) (fun (p : (List Int) × Int × Int × Int × Bool × Bool) => K83 (.nx (p.1, p.2.1, p.2.2.1, p.2.2.2.1, p.2.2.2.2.1, p.2.2.2.2.2))) ?_ ?_
 ·refine GL.block ?_
  refine GL.loop (ι := Nat × (List Int) × Int × Int × Int × Bool × Bool) (fun (p : Nat × (List Int) × Int × Int × Int × Bool × Bool) => [(0, v0), (1, .int .i64 p.2.2.1), (2, .int .i64 p.2.2.2.1), (3, .int .i64 p.2.2.2.2.1), (8, .bool p.2.2.2.2.2.1), (9, .bool p.2.2.2.2.2.2)]) (fun (p : Nat × (List Int) × Int × Int × Int × Bool × Bool) => [own 3 TR.int v0 p.2.1, keep X]) (fun (p : Nat × (List Int) × Int × Int × Int × Bool × Bool) => loopM slices_pdqsortOrdered_int_b1 p.1 (p.2.1, p.2.2.1, p.2.2.2.1, p.2.2.2.2.1, p.2.2.2.2.2.1, p.2.2.2.2.2.2) = some y82) (fun (p : Nat × (List Int) × Int × Int × Int × Bool × Bool) => p.1) (1048576, x0, x1, x2, x3, true, true) h84 (fun a w st => St.cut [0, 1] ⟨rfl, rfl, rfl, rfl, rfl, rfl, trivial⟩ (by decide) rfl st) ?_
  rintro ⟨r90, l43, x44, x45, x46, x47, x48⟩ h94
  try dsimp only at h94
  refine GL.weak (env' := [(0, v0), (1, .int .i64 x44), (2, .int .i64 x45), (3, .int .i64 x46), (8, .bool x47), (9, .bool x48)]) (L' := [own 3 TR.int v0 l43, keep X]) (fun _ _ st => st) ?_
  obtain ⟨r97, z91, hr, h92, h93⟩ := loopM_some h94
  subst hr
  unfold slices_pdqsortOrdered_int_b1 at h92
  try dsimp only at h92
  refine GL.block ?_
  refine GL.seq ?_
  refine GL.region ?_
  refine RL.mv rfl rfl rfl ?_
  refine RL.mv rfl rfl rfl ?_
  refine RL.binI (v := .int .i64 (wsub x45 x44)) rfl rfl rfl rfl rfl ?_
  refine RL.asg rfl rfl rfl ?_
  refine RL.finG ?_
  refine GL.seq ?_
  refine GL.seq ?_
  refine GL.region ?_
  refine RL.mv rfl rfl rfl ?_
  refine RL.binI (v := .bool (decide ((wsub x45 x44) ≤ (12 : Int)))) rfl rfl rfl rfl rfl ?_
  refine RL.finG ?_
  refine GL.cond rfl (fun b98 => ?_) (fun b98 => ?_)
  ·replace h92 := ite_t b98 h92
   refine GL.seq ?_
   refine GL.region ?_
   refine RL.mv rfl rfl rfl ?_
   refine RL.mv rfl rfl rfl ?_
   refine RL.mv rfl rfl rfl ?_
   obtain ⟨y105, e106, h92⟩ := bind_some h92
   refine RL.callK (vs := [v0, .int .i64 x44, .int .i64 x45]) (V := fun (o : Unit) => .tuple #[]) (LR := fun (o : Unit) => [own 3 TR.int v0 y105]) (Ls := [own 3 TR.int v0 l43]) [0] (by decide) Try_fit82 rfl rfl rfl rfl rfl rfl (fun S f X w hO hB hW hI hL => slices_insertionSortOrdered_int_c _ S X f w _ _ hO hB hI x44 x45 _ e106) ?_
   intro _
   refine RL.reL (L' := [gone, keep X, own 3 TR.int v0 y105]) rfl ?_
   refine RL.finG ?_
   cases h92
   replace h93 : some (Fl.rt _) = some y82 := h93
   cases h93
   have hh := h87 _ h85
   subst hh
   exact GL.ret (Gx.ret (v := .tuple #[]) (res0 rfl) (fun a w st => (st.pick [2, 1] (by decide) rfl).toPostM (V := fun (o : Unit) => .tuple #[]) (LR := fun (o : Unit) => [own 3 TR.int v0 y105, keep X]) ()))
  replace h92 := ite_f b98 h92
  refine GL.skip ?_
  refine GL.seq ?_
  refine GL.seq ?_
  refine GL.region ?_
  refine RL.mv rfl rfl rfl ?_
  refine RL.binI (v := .bool (x46 == (0 : Int))) rfl rfl rfl rfl rfl ?_
  refine RL.finG ?_
  refine GL.cond rfl (fun b119 => ?_) (fun b119 => ?_)
  ·replace h92 := ite_t b119 h92
   cases h92
  replace h92 := ite_f b119 h92
  cases h92
 rintro ⟨l43, x44, x45, x46, x47, x48⟩ h131
 have h132 := h86 _ h131
 try dsimp only at h132
 cases h132

set_option maxHeartbeats 4000000 in
theorem slices_Sort_int_int_c (B : World) (S X : Hp) (f : Nat → Hp) (w : World) (v0 : Value) (x0 : (List Int)) (hO : HeapOk B.heap.size S f [own 3 TR.int v0 x0, keep X].length w) (hB : Below B.heap.size B w) (hI : Its [own 3 TR.int v0 x0, keep X] S f)  (res : (List Int)) (hm : slices_Sort_int_int_m x0 = some res) : Calls Try.prog 63 #[v0] w (PostM B S (fun (o : Unit) => .tuple #[]) (fun (o : Unit) => [own 3 TR.int v0 res, keep X])) := by
 refine calls_enterM 11 Try.func63 Try.ntmps63 rfl B S f [(0, v0)] [own 3 TR.int v0 x0, keep X] [] rfl ⟨rfl, trivial⟩ hB hO hI trivial ?_
 unfold slices_Sort_int_int_m at hm
 refine GL.seq ?_
 refine GL.region ?_
 refine RL.mv rfl rfl rfl ?_
 refine RL.lenS 0 Try.underlying41 rfl rfl rfl rfl SlOf.own ?_
 refine RL.asg rfl rfl rfl ?_
 refine RL.finG ?_
 refine GL.region ?_
 refine RL.mv rfl rfl rfl ?_
 refine RL.mv rfl rfl rfl ?_
 refine RL.mv rfl rfl rfl ?_
 refine RL.cvI Try.underlying3 Try.underlying97 rfl rfl rfl ?_
 obtain ⟨y6, e7, hm⟩ := bind_some hm
 refine RL.callC (v := .int .i64 y6) (vs := [.int .u64 (IntKind.wrap .u64 ((x0).length : Int))]) Try_fit76 rfl rfl rfl rfl (fun U w hU hW hL => math_bits_Len_c U w hU (IntKind.wrap .u64 ((x0).length : Int)) _ e7) ?_
 obtain ⟨y8, e9, hm⟩ := bind_some hm
 refine RL.callK (vs := [v0, .int .i64 (0 : Int), .int .i64 ((x0).length : Int), .int .i64 y6]) (V := fun (o : Unit) => .tuple #[]) (LR := fun (o : Unit) => [own 3 TR.int v0 y8]) (Ls := [own 3 TR.int v0 x0]) [0] (by decide) Try_fit75 rfl rfl rfl rfl rfl rfl (fun S f X w hO hB hW hI hL => slices_pdqsortOrdered_int_c _ S X f w _ _ hO hB hI (0 : Int) ((x0).length : Int) y6 _ e9) ?_
 intro _
 refine RL.reL (L' := [gone, keep X, own 3 TR.int v0 y8]) rfl ?_
 refine RL.finG ?_
 have hm := Option.some.inj hm
 subst hm
 exact GL.nil (Gx.retN (v := .tuple #[]) (res0 rfl) (fun a w st => (st.pick [2, 1] (by decide) rfl).toPostM (V := fun (o : Unit) => .tuple #[]) (LR := fun (o : Unit) => [own 3 TR.int v0 y8, keep X]) ()))

set_option maxHeartbeats 4000000 in
theorem slices_Reverse_int_int_c (B : World) (S X : Hp) (f : Nat → Hp) (w : World) (v0 : Value) (x0 : (List Int)) (hO : HeapOk B.heap.size S f [own 3 TR.int v0 x0, keep X].length w) (hB : Below B.heap.size B w) (hI : Its [own 3 TR.int v0 x0, keep X] S f)  (res : (List Int)) (hm : slices_Reverse_int_int_m x0 = some res) : Calls Try.prog 64 #[v0] w (PostM B S (fun (o : Unit) => .tuple #[]) (fun (o : Unit) => [own 3 TR.int v0 res, keep X])) := by
 refine calls_enterM 28 Try.func64 Try.ntmps64 rfl B S f [(0, v0)] [own 3 TR.int v0 x0, keep X] [] rfl ⟨rfl, trivial⟩ hB hO hI trivial ?_
 unfold slices_Reverse_int_int_m at hm
 refine GL.seq ?_
 refine GL.region ?_
 refine RL.mv rfl rfl rfl ?_
 refine RL.lenS 0 Try.underlying41 rfl rfl rfl rfl SlOf.own ?_
 refine RL.binI (v := .int .i64 (wsub ((x0).length : Int) (1 : Int))) rfl rfl rfl rfl rfl ?_
 refine RL.asg rfl rfl rfl ?_
 refine RL.asg rfl rfl rfl ?_
 refine RL.finG ?_
 obtain ⟨y41, K42, h43, h44, h45, h46, h47⟩ := bindR_K hm
 refine GL.join (ι := (List Int) × Int × Int) (fun (p : (List Int) × Int × Int) => []) (fun (p : (List Int) × Int × Int) => [own 3 TR.int v0 p.1, keep X]) (fun (p : (List Int) × Int × Int) => K42 (.nx (p.1, p.2.1, p.2.2))) ?_ ?_
 ·refine GL.block ?_
  refine GL.loop (ι := Nat × (List Int) × Int × Int) (fun (p : Nat × (List Int) × Int × Int) => [(0, v0), (2, .int .i64 p.2.2.1), (3, .int .i64 p.2.2.2)]) (fun (p : Nat × (List Int) × Int × Int) => [own 3 TR.int v0 p.2.1, keep X]) (fun (p : Nat × (List Int) × Int × Int) => loopM slices_Reverse_int_int_b1 p.1 (p.2.1, p.2.2.1, p.2.2.2) = some y41) (fun (p : Nat × (List Int) × Int × Int) => p.1) (1048576, x0, (0 : Int), wsub ((x0).length : Int) (1 : Int)) h43 (fun a w st => St.cut [0, 1] ⟨rfl, rfl, rfl, trivial⟩ (by decide) rfl st) ?_
  rintro ⟨r49, l21, x22, x23⟩ h53
  try dsimp only at h53
  refine GL.weak (env' := [(0, v0), (2, .int .i64 x22), (3, .int .i64 x23)]) (L' := [own 3 TR.int v0 l21, keep X]) (fun _ _ st => st) ?_
  obtain ⟨r56, z50, hr, h51, h52⟩ := loopM_some h53
  subst hr
  unfold slices_Reverse_int_int_b1 at h51
  try dsimp only at h51
  refine GL.seq ?_
  refine GL.seq ?_
  refine GL.region ?_
  refine RL.mv rfl rfl rfl ?_
  refine RL.mv rfl rfl rfl ?_
  refine RL.binI (v := .bool (decide (x22 < x23))) rfl rfl rfl rfl rfl ?_
  refine RL.finG ?_
  refine GL.cond rfl (fun b57 => ?_) (fun b57 => ?_)
  ·replace h51 := ite_t b57 h51
   refine GL.skip ?_
   refine GL.seq ?_
   refine GL.block ?_
   refine GL.regionA rfl rfl ?_
   refine RA.mv 0 rfl (by kernel_rfl) rfl rfl rfl ?_
   refine RA.mv 1 rfl (by kernel_rfl) rfl rfl rfl ?_
   refine RA.mv 2 rfl (by kernel_rfl) rfl rfl rfl ?_
   refine RA.mv 3 rfl (by kernel_rfl) rfl rfl rfl ?_
   refine RA.mv 4 rfl (by kernel_rfl) rfl rfl rfl ?_
   refine RA.mv 5 rfl (by kernel_rfl) rfl rfl rfl ?_
   obtain ⟨y66, e67, h51⟩ := bind_some h51
   refine RA.idxS (sz := 1) 0 Try.underlying41 Try_ln3 6 rfl (by kernel_rfl) rfl rfl rfl rfl rfl SlOf.own (idx_some e67).1 (idx_some e67).2.1 ?_
   refine RA.mv 8 rfl (by kernel_rfl) rfl rfl rfl ?_
   refine RA.mv 9 rfl (by kernel_rfl) rfl rfl rfl ?_
   obtain ⟨y68, e69, h51⟩ := bind_some h51
   refine RA.idxS (sz := 1) 0 Try.underlying41 Try_ln3 10 rfl (by kernel_rfl) rfl rfl rfl rfl rfl SlOf.own (idx_some e69).1 (idx_some e69).2.1 ?_
   refine RA.still (le := #[true, true, true, true, true, true, true, true, true, true, true, true, true, false, false, false]) (f := 3) [7, 11, 12] 13 rfl (by kernel_rfl) ?_
   simp only [pickOps, List.getElem?_toArray, List.getElem?_cons_succ, List.getElem?_cons_zero]
   refine RL.ldSx (i := (x23).toNat) (e' := y66) 0 Ex.ik Try_ln3 rfl rfl rfl rfl SlOf.own (idx_some e67).2.2 Part.self ?_
   refine RL.ldSx (i := (x22).toNat) (e' := y68) 0 Ex.ik Try_ln3 rfl rfl rfl rfl SlOf.own (idx_some e69).2.2 Part.self ?_
   obtain ⟨y70, e71, h51⟩ := bind_some h51
   refine RL.idxS (sz := 1) 0 Try.underlying41 Try_ln3 rfl rfl rfl rfl rfl SlOf.own (idx_some e71).1 (idx_some e71).2.1 ?_
   refine RL.finH ?_
   refine RL.fin ?_
   refine RA.next ?_
   refine RA.seq 13 rfl (by kernel_rfl) ?_
   refine RL.stS (i := (x22).toNat) (e' := y66) (e1 := y66) (r := TR.int) 0 Try_ln3 rfl rfl rfl rfl VR.int rfl (idx_some e71).2.2 Upd.self ?_
   refine RL.fin ?_
   refine RA.next ?_
   obtain ⟨y72, e73, h51⟩ := bind_some h51
   refine RA.idxS (sz := 1) 0 Try.underlying41 Try_ln3 14 rfl (by kernel_rfl) rfl rfl rfl rfl rfl SlOf.own (idx_some e73).1 (idx_some e73).2.1 ?_
   refine RA.seq 15 rfl (by kernel_rfl) ?_
   refine RL.stS (i := (x23).toNat) (e' := y68) (e1 := y68) (r := TR.int) 0 Try_ln3 rfl rfl rfl rfl VR.int rfl (idx_some e73).2.2 Upd.self ?_
   refine RL.fin ?_
   refine RA.next ?_
   refine RA.doneG (by kernel_rfl) ?_
   refine GL.weak (env' := [(0, v0), (2, .int .i64 x22), (3, .int .i64 x23)]) (L' := [own 3 TR.int v0 (List.set (List.set l21 ((x22).toNat) y66) ((x23).toNat) y68), keep X]) (fun a w st => St.cut [0, 1] ⟨rfl, rfl, rfl, trivial⟩ (by decide) rfl st) ?_
   refine GL.nilB ?_
   refine GL.region ?_
   refine RL.mv rfl rfl rfl ?_
   refine RL.binI (v := .int .i64 (wadd x22 (1 : Int))) rfl rfl rfl rfl rfl ?_
   refine RL.mv rfl rfl rfl ?_
   refine RL.binI (v := .int .i64 (wsub x23 (1 : Int))) rfl rfl rfl rfl rfl ?_
   refine RL.asg rfl rfl rfl ?_
   refine RL.asg rfl rfl rfl ?_
   refine RL.finG ?_
   cases h51
   exact fun a w st => lop_intro (r56, (List.set (List.set l21 ((x22).toNat) y66) ((x23).toNat) y68), wadd x22 (1 : Int), wsub x23 (1 : Int)) (by exact h52) (by simp) (St.cut [0, 1] ⟨rfl, rfl, rfl, trivial⟩ (by decide) rfl st)
  replace h51 := ite_f b57 h51
  cases h51
  replace h52 : some (Fl.nx _) = some y41 := h52
  cases h52
  exact GL.exit (fun a w st => mid_intro (l21, x22, x23) h44 (St.cut [0, 1] trivial (by decide) rfl st))
 rintro ⟨l21, x22, x23⟩ h74
 have h75 := h45 _ h74
 try dsimp only at h75
 refine GL.weak (env' := []) (L' := [own 3 TR.int v0 l21, keep X]) (fun _ _ st => st) ?_
 have h75 := Option.some.inj h75
 subst h75
 exact GL.nil (Gx.retN (v := .tuple #[]) (res0 rfl) (fun a w st => (st.pick [0, 1] (by decide) rfl).toPostM (V := fun (o : Unit) => .tuple #[]) (LR := fun (o : Unit) => [own 3 TR.int v0 l21, keep X]) ()))

set_option maxHeartbeats 4000000 in
theorem units_Meet_c (S : Hp) (w : World) (hS : S.sub w) (v0 : Value) (x0 : (List Int)) (k0 : ((TR.sl TR.int)).vrep S v0 x0) (v1 : Value) (x1 : (List Int)) (k1 : ((TR.sl TR.int)).vrep S v1 x1) (res : Int × Int × Int × Int) (hm : units_Meet_m x0 x1 = some res) : Calls Try.prog 39 #[v0, v1] w (PostV w (.tuple #[.int .i64 res.1, .int .i64 res.2.1, .int .i64 res.2.2.1, .int .i64 res.2.2.2])) := by
 refine calls_enter 93 Try.func39 Try.ntmps39 rfl S false [(0, v0), (1, v1)] [imm (TR.sl TR.int) v0 x0, imm (TR.sl TR.int) v1 x1] rfl ⟨rfl, ⟨rfl, trivial⟩⟩ hS ⟨k0, ⟨k1, trivial⟩⟩ ?_
 unfold units_Meet_m at hm
 refine GL.seq ?_
 refine GL.region ?_
 refine RL.asg rfl rfl rfl ?_
 refine RL.asg rfl rfl rfl ?_
 refine RL.asg rfl rfl rfl ?_
 refine RL.asg rfl rfl rfl ?_
 refine RL.finG ?_
 refine GL.seq ?_
 refine GL.seq ?_
 refine GL.region ?_
 refine RL.mv rfl rfl rfl ?_
 obtain ⟨y5, e6, hm⟩ := bind_some hm
 refine RL.callC (v := .int .i64 y5) (vs := [v0, .int .i64 (0 : Int)]) Try_fit60 rfl rfl rfl rfl (fun U w hU hW hL => auction_Check_c U w hU _ _ (hL 0 _ _ rfl Seen.imm) (0 : Int) _ e6) ?_
 refine RL.asg rfl rfl rfl ?_
 refine RL.finG ?_
 refine GL.seq ?_
 refine GL.region ?_
 refine RL.mv rfl rfl rfl ?_
 refine RL.binI (v := .bool (y5 != (0 : Int))) rfl rfl rfl rfl rfl ?_
 refine RL.finG ?_
 refine GL.cond rfl (fun b7 => ?_) (fun b7 => ?_)
 ·replace hm := ite_t b7 hm
  refine GL.seq ?_
  refine GL.region ?_
  refine RL.mv rfl rfl rfl ?_
  refine RL.asg rfl rfl rfl ?_
  refine RL.asg rfl rfl rfl ?_
  refine RL.asg rfl rfl rfl ?_
  refine RL.asg rfl rfl rfl ?_
  refine RL.finG ?_
  have hm := Option.some.inj hm
  subst hm
  exact GL.ret (Gx.ret (v := .tuple #[.int .i64 (0 : Int), .int .i64 (0 : Int), .int .i64 (0 : Int), .int .i64 y5]) (res4 rfl rfl rfl rfl rfl) (fun a w st => st.toPostV))
 replace hm := ite_f b7 hm
 refine GL.skip ?_
 refine GL.seq ?_
 refine GL.seq ?_
 refine GL.region ?_
 refine RL.mv rfl rfl rfl ?_
 obtain ⟨y10, e11, hm⟩ := bind_some hm
 refine RL.callC (v := .int .i64 y10) (vs := [v1, .int .i64 (0 : Int)]) Try_fit60 rfl rfl rfl rfl (fun U w hU hW hL => auction_Check_c U w hU _ _ (hL 1 _ _ rfl Seen.imm) (0 : Int) _ e11) ?_
 refine RL.asg rfl rfl rfl ?_
 refine RL.finG ?_
 refine GL.seq ?_
 refine GL.region ?_
 refine RL.mv rfl rfl rfl ?_
 refine RL.binI (v := .bool (y10 != (0 : Int))) rfl rfl rfl rfl rfl ?_
 refine RL.finG ?_
 refine GL.cond rfl (fun b12 => ?_) (fun b12 => ?_)
 ·replace hm := ite_t b12 hm
  refine GL.seq ?_
  refine GL.region ?_
  refine RL.mv rfl rfl rfl ?_
  refine RL.asg rfl rfl rfl ?_
  refine RL.asg rfl rfl rfl ?_
  refine RL.asg rfl rfl rfl ?_
  refine RL.asg rfl rfl rfl ?_
  refine RL.finG ?_
  have hm := Option.some.inj hm
  subst hm
  exact GL.ret (Gx.ret (v := .tuple #[.int .i64 (0 : Int), .int .i64 (0 : Int), .int .i64 (0 : Int), .int .i64 y10]) (res4 rfl rfl rfl rfl rfl) (fun a w st => st.toPostV))
 replace hm := ite_f b12 hm
 refine GL.skip ?_
 refine GL.seq ?_
 refine GL.region ?_
 refine RL.mv rfl rfl rfl ?_
 obtain ⟨y19, e20, hm⟩ := bind_some hm
 refine RL.call (vs := [v0]) Try_fit36 rfl rfl rfl rfl rfl (fun S f w hS hW hi => slices_Clone_int_int_c S w hS _ _ (hi 0 _ rfl) _ e20) ?_
 intro v21
 refine RL.mv rfl rfl rfl ?_
 obtain ⟨y22, e23, hm⟩ := bind_some hm
 refine RL.call (vs := [v1]) Try_fit36 rfl rfl rfl rfl rfl (fun S f w hS hW hi => slices_Clone_int_int_c S w hS _ _ (hi 1 _ rfl) _ e23) ?_
 intro v24
 refine RL.reL (L' := [imm (TR.sl TR.int) v0 x0, imm (TR.sl TR.int) v1 x1, own 3 TR.int v21 y19, own 3 TR.int v24 y22]) rfl ?_
 refine RL.asg rfl rfl rfl ?_
 refine RL.asg rfl rfl rfl ?_
 refine RL.finG ?_
 refine GL.seq ?_
 refine GL.region ?_
 refine RL.mv rfl rfl rfl ?_
 obtain ⟨y27, e28, hm⟩ := bind_some hm
 refine RL.callK (vs := [v21]) (V := fun (o : Unit) => .tuple #[]) (LR := fun (o : Unit) => [own 3 TR.int v21 y27]) (Ls := [own 3 TR.int v21 y19]) [2] (by decide) Try_fit63 rfl rfl rfl rfl rfl rfl (fun S f X w hO hB hW hI hL => slices_Sort_int_int_c _ S X f w _ _ hO hB hI  _ e28) ?_
 intro _
 refine RL.reL (L' := [imm (TR.sl TR.int) v0 x0, imm (TR.sl TR.int) v1 x1, gone, own 3 TR.int v24 y22, own 3 TR.int v21 y27]) rfl ?_
 refine RL.finG ?_
 refine GL.seq ?_
 refine GL.region ?_
 refine RL.mv rfl rfl rfl ?_
 obtain ⟨y31, e32, hm⟩ := bind_some hm
 refine RL.callK (vs := [v21]) (V := fun (o : Unit) => .tuple #[]) (LR := fun (o : Unit) => [own 3 TR.int v21 y31]) (Ls := [own 3 TR.int v21 y27]) [4] (by decide) Try_fit64 rfl rfl rfl rfl rfl rfl (fun S f X w hO hB hW hI hL => slices_Reverse_int_int_c _ S X f w _ _ hO hB hI  _ e32) ?_
 intro _
 refine RL.reL (L' := [imm (TR.sl TR.int) v0 x0, imm (TR.sl TR.int) v1 x1, gone, own 3 TR.int v24 y22, gone, own 3 TR.int v21 y31]) rfl ?_
 refine RL.finG ?_
 refine GL.seq ?_
 refine GL.region ?_
 refine RL.mv rfl rfl rfl ?_
 obtain ⟨y35, e36, hm⟩ := bind_some hm
 refine RL.callK (vs := [v24]) (V := fun (o : Unit) => .tuple #[]) (LR := fun (o : Unit) => [own 3 TR.int v24 y35]) (Ls := [own 3 TR.int v24 y22]) [3] (by decide) Try_fit63 rfl rfl rfl rfl rfl rfl (fun S f X w hO hB hW hI hL => slices_Sort_int_int_c _ S X f w _ _ hO hB hI  _ e36) ?_
 intro _
 refine RL.reL (L' := [imm (TR.sl TR.int) v0 x0, imm (TR.sl TR.int) v1 x1, gone, gone, gone, own 3 TR.int v21 y31, own 3 TR.int v24 y35]) rfl ?_
 refine RL.finG ?_
 refine GL.seq ?_
 refine GL.region ?_
 refine RL.asg rfl rfl rfl ?_
 refine RL.finG ?_
 refine GL.seq ?_
 obtain ⟨y67, K68, h69, h70, h71, h72, h73⟩ := bindR_K hm
 refine GL.join (ι := Int) (fun (p : Int) => [(10, v21), (11, v24), (12, .int .i64 p)]) (fun (p : Int) => [own 3 TR.int v21 y31, own 3 TR.int v24 y35]) (fun (p : Int) => K68 (.nx p)) ?_ ?_
 ·refine GL.block ?_
  refine GL.loop (ι := Nat × Int) (fun (p : Nat × Int) => [(10, v21), (11, v24), (12, .int .i64 p.2)]) (fun (p : Nat × Int) => [own 3 TR.int v21 y31, own 3 TR.int v24 y35]) (fun (p : Nat × Int) => loopM (units_Meet_b1 y31 y35) p.1 p.2 = some y67) (fun (p : Nat × Int) => p.1) (1048576, (0 : Int)) h69 (fun a w st => St.cut [5, 6] ⟨rfl, rfl, rfl, trivial⟩ (by decide) rfl st) ?_
  rintro ⟨r75, x37⟩ h79
  try dsimp only at h79
  refine GL.weak (env' := [(10, v21), (11, v24), (12, .int .i64 x37)]) (L' := [own 3 TR.int v21 y31, own 3 TR.int v24 y35]) (fun _ _ st => st) ?_
  obtain ⟨r82, z76, hr, h77, h78⟩ := loopM_some h79
  subst hr
  unfold units_Meet_b1 at h77
  try dsimp only at h77
  refine GL.seq ?_
  refine GL.seq ?_
  obtain ⟨y96, K97, h98, h99, h100, h101, h102⟩ := bindF_K h77
  refine GL.join (ι := Bool) (fun (p : Bool) => [(10, v21), (11, v24), (12, .int .i64 x37), (55, .bool p)]) (fun (p : Bool) => [own 3 TR.int v21 y31, own 3 TR.int v24 y35]) (fun (p : Bool) => K97 (.nx p)) ?_ ?_
  ·skip
   refine GL.regionQ rfl rfl (by kernel_rfl) ?_
   refine RL.mv rfl rfl rfl ?_
   refine RL.mv rfl rfl rfl ?_
   refine RL.lenS 0 Try.underlying41 rfl rfl rfl rfl SlOf.own ?_
   refine RL.binI (v := .bool (decide (x37 < ((y31).length : Int)))) rfl rfl rfl rfl rfl ?_
   refine RL.mv rfl rfl rfl ?_
   refine RL.split (t := 39) rfl (fun b103 => ?_) (fun b103 => ?_)
   ·replace h98 := ite_t b103 h98
    refine RL.mv rfl rfl rfl ?_
    refine RL.mv rfl rfl rfl ?_
    refine RL.lenS 1 Try.underlying41 rfl rfl rfl rfl SlOf.own ?_
    refine RL.binI (v := .bool (decide (x37 < ((y35).length : Int)))) rfl rfl rfl rfl rfl ?_
    refine RL.pickT rfl rfl rfl rfl ?_
    refine RL.mv rfl rfl rfl ?_
    refine RL.split (t := 45) rfl (fun b104 => ?_) (fun b104 => ?_)
    ·replace h98 := ite_t b104 h98
     refine RL.mv rfl rfl rfl ?_
     refine RL.mv rfl rfl rfl ?_
     obtain ⟨y105, e106, h98⟩ := bind_some h98
     refine RL.idxS (sz := 1) 0 Try.underlying41 Try_ln3 rfl rfl rfl rfl rfl SlOf.own (idx_some e106).1 (idx_some e106).2.1 ?_
     refine RL.ldSx (i := (x37).toNat) (e' := y105) 0 Ex.ik Try_ln3 rfl rfl rfl rfl SlOf.own (idx_some e106).2.2 Part.self ?_
     refine RL.mv rfl rfl rfl ?_
     refine RL.mv rfl rfl rfl ?_
     obtain ⟨y107, e108, h98⟩ := bind_some h98
     refine RL.idxS (sz := 1) 1 Try.underlying41 Try_ln3 rfl rfl rfl rfl rfl SlOf.own (idx_some e108).1 (idx_some e108).2.1 ?_
     refine RL.ldSx (i := (x37).toNat) (e' := y107) 1 Ex.ik Try_ln3 rfl rfl rfl rfl SlOf.own (idx_some e108).2.2 Part.self ?_
     refine RL.binI (v := .bool (decide (y105 ≥ y107))) rfl rfl rfl rfl rfl ?_
     refine RL.pickT rfl rfl rfl rfl ?_
     refine RL.finQ ?_
     cases h98
     exact fun a w st => mid_intro (decide (y105 ≥ y107)) h99 (St.cut [0, 1] ⟨rfl, rfl, rfl, rfl, trivial⟩ (by decide) rfl st)
    replace h98 := ite_f b104 h98
    refine RL.skip rfl rfl ?_
    refine RL.skip rfl rfl ?_
    refine RL.skip rfl rfl ?_
    refine RL.skip rfl rfl ?_
    refine RL.skip rfl rfl ?_
    refine RL.skip rfl rfl ?_
    refine RL.skip rfl rfl ?_
    refine RL.skip rfl rfl ?_
    refine RL.skip rfl rfl ?_
    refine RL.pickF rfl rfl rfl rfl ?_
    refine RL.finQ ?_
    cases h98
    exact fun a w st => mid_intro false h99 (St.cut [0, 1] ⟨rfl, rfl, rfl, rfl, trivial⟩ (by decide) rfl st)
   replace h98 := ite_f b103 h98
   refine RL.skip rfl rfl ?_
   refine RL.skip rfl rfl ?_
   refine RL.skip rfl rfl ?_
   refine RL.skip rfl rfl ?_
   refine RL.pickF rfl rfl rfl rfl ?_
   refine RL.mv rfl rfl rfl ?_
   refine RL.skip rfl rfl ?_
   refine RL.skip rfl rfl ?_
   refine RL.skip rfl rfl ?_
   refine RL.skip rfl rfl ?_
   refine RL.skip rfl rfl ?_
   refine RL.skip rfl rfl ?_
   refine RL.skip rfl rfl ?_
   refine RL.skip rfl rfl ?_
   refine RL.skip rfl rfl ?_
   refine RL.pickF rfl rfl rfl rfl ?_
   refine RL.finQ ?_
   cases h98
   exact fun a w st => mid_intro false h99 (St.cut [0, 1] ⟨rfl, rfl, rfl, rfl, trivial⟩ (by decide) rfl st)
  rintro x95 h109
  have h110 := h100 _ h109
  try dsimp only at h110
  refine GL.weak (env' := [(10, v21), (11, v24), (12, .int .i64 x37), (55, .bool x95)]) (L' := [own 3 TR.int v21 y31, own 3 TR.int v24 y35]) (fun _ _ st => st) ?_
  refine GL.cond rfl (fun b111 => ?_) (fun b111 => ?_)
  ·replace h110 := ite_t b111 h110
   refine GL.skip ?_
   refine GL.block ?_
   refine GL.region ?_
   refine RL.mv rfl rfl rfl ?_
   refine RL.binI (v := .int .i64 (wadd x37 (1 : Int))) rfl rfl rfl rfl rfl ?_
   refine RL.asg rfl rfl rfl ?_
   refine RL.finG ?_
   refine GL.nilB ?_
   cases h110
   exact fun a w st => lop_intro (r82, wadd x37 (1 : Int)) (by exact h78) (by simp) (St.cut [0, 1] ⟨rfl, rfl, rfl, trivial⟩ (by decide) rfl st)
  replace h110 := ite_f b111 h110
  cases h110
  replace h78 : some (Fl.nx _) = some y67 := h78
  cases h78
  exact GL.exit (fun a w st => mid_intro x37 h70 (St.cut [0, 1] ⟨rfl, rfl, rfl, trivial⟩ (by decide) rfl st))
 rintro x37 h112
 have h113 := h71 _ h112
 try dsimp only at h113
 refine GL.weak (env' := [(10, v21), (11, v24), (12, .int .i64 x37)]) (L' := [own 3 TR.int v21 y31, own 3 TR.int v24 y35]) (fun _ _ st => st) ?_
 refine GL.seq ?_
 refine GL.seq ?_
 refine GL.region ?_
 refine RL.mv rfl rfl rfl ?_
 refine RL.binI (v := .bool (x37 == (0 : Int))) rfl rfl rfl rfl rfl ?_
 refine RL.finG ?_
 refine GL.cond rfl (fun b114 => ?_) (fun b114 => ?_)
 ·replace h113 := ite_t b114 h113
  refine GL.seq ?_
  refine GL.region ?_
  refine RL.asg rfl rfl rfl ?_
  refine RL.asg rfl rfl rfl ?_
  refine RL.asg rfl rfl rfl ?_
  refine RL.asg rfl rfl rfl ?_
  refine RL.finG ?_
  have h113 := Option.some.inj h113
  subst h113
  exact GL.ret (Gx.ret (v := .tuple #[.int .i64 (0 : Int), .int .i64 (0 : Int), .int .i64 (0 : Int), .int .i64 (4 : Int)]) (res4 rfl rfl rfl rfl rfl) (fun a w st => st.toPostV))
 replace h113 := ite_f b114 h113
 refine GL.skip ?_
 refine GL.seq ?_
 refine GL.regionQ rfl rfl (by kernel_rfl) ?_
 refine RL.mv rfl rfl rfl ?_
 refine RL.mv rfl rfl rfl ?_
 refine RL.binI (v := .int .i64 (wsub x37 (1 : Int))) rfl rfl rfl rfl rfl ?_
 obtain ⟨y119, e120, h113⟩ := bind_some h113
 refine RL.idxS (sz := 1) 1 Try.underlying41 Try_ln3 rfl rfl rfl rfl rfl SlOf.own (idx_some e120).1 (idx_some e120).2.1 ?_
 refine RL.ldSx (i := (wsub x37 (1 : Int)).toNat) (e' := y119) 1 Ex.ik Try_ln3 rfl rfl rfl rfl SlOf.own (idx_some e120).2.2 Part.self ?_
 refine RL.mv rfl rfl rfl ?_
 refine RL.mv rfl rfl rfl ?_
 refine RL.binI (v := .int .i64 (wsub x37 (1 : Int))) rfl rfl rfl rfl rfl ?_
 obtain ⟨y121, e122, h113⟩ := bind_some h113
 refine RL.idxS (sz := 1) 0 Try.underlying41 Try_ln3 rfl rfl rfl rfl rfl SlOf.own (idx_some e122).1 (idx_some e122).2.1 ?_
 refine RL.ldSx (i := (wsub x37 (1 : Int)).toNat) (e' := y121) 0 Ex.ik Try_ln3 rfl rfl rfl rfl SlOf.own (idx_some e122).2.2 Part.self ?_
 refine RL.asg rfl rfl rfl ?_
 refine RL.asg rfl rfl rfl ?_
 refine RL.finQG ?_
 refine GL.seq ?_
 refine GL.seq ?_
 refine GL.region ?_
 refine RL.mv rfl rfl rfl ?_
 refine RL.mv rfl rfl rfl ?_
 refine RL.lenS 0 Try.underlying41 rfl rfl rfl rfl SlOf.own ?_
 refine RL.binI (v := .bool (decide (x37 < ((y31).length : Int)))) rfl rfl rfl rfl rfl ?_
 refine RL.finG ?_
 obtain ⟨y129, K130, h131, h132, h133, h134, h135⟩ := bindR_K h113
 refine GL.join (ι := Int) (fun (p : Int) => [(11, v24), (12, .int .i64 x37), (13, .int .i64 p), (14, .int .i64 y121)]) (fun (p : Int) => [own 3 TR.int v24 y35]) (fun (p : Int) => K130 (.nx p)) ?_ ?_
 ·skip
  refine GL.cond rfl (fun b136 => ?_) (fun b136 => ?_)
  ·replace h131 := ite_t b136 h131
   refine GL.region ?_
   refine RL.mv rfl rfl rfl ?_
   refine RL.mv rfl rfl rfl ?_
   refine RL.mv rfl rfl rfl ?_
   obtain ⟨y139, e140, h131⟩ := bind_some h131
   refine RL.idxS (sz := 1) 0 Try.underlying41 Try_ln3 rfl rfl rfl rfl rfl SlOf.own (idx_some e140).1 (idx_some e140).2.1 ?_
   refine RL.ldSx (i := (x37).toNat) (e' := y139) 0 Ex.ik Try_ln3 rfl rfl rfl rfl SlOf.own (idx_some e140).2.2 Part.self ?_
   refine RL.maxI rfl rfl rfl rfl ?_
   refine RL.asg rfl rfl rfl ?_
   refine RL.finG ?_
   cases h131
   exact fun a w st => mid_intro (if y139 > y119 then y139 else y119) h132 (St.cut [1] ⟨rfl, rfl, rfl, rfl, trivial⟩ (by decide) rfl st)
  replace h131 := ite_f b136 h131
  refine GL.skip ?_
  cases h131
  exact fun a w st => mid_intro y119 h132 (St.cut [1] ⟨rfl, rfl, rfl, rfl, trivial⟩ (by decide) rfl st)
 rintro x128 h141
 have h142 := h133 _ h141
 try dsimp only at h142
 refine GL.weak (env' := [(11, v24), (12, .int .i64 x37), (13, .int .i64 x128), (14, .int .i64 y121)]) (L' := [own 3 TR.int v24 y35]) (fun _ _ st => st) ?_
 refine GL.seq ?_
 refine GL.seq ?_
 refine GL.region ?_
 refine RL.mv rfl rfl rfl ?_
 refine RL.mv rfl rfl rfl ?_
 refine RL.lenS 0 Try.underlying41 rfl rfl rfl rfl SlOf.own ?_
 refine RL.binI (v := .bool (decide (x37 < ((y35).length : Int)))) rfl rfl rfl rfl rfl ?_
 refine RL.finG ?_
 obtain ⟨y149, K150, h151, h152, h153, h154, h155⟩ := bindR_K h142
 refine GL.join (ι := Int) (fun (p : Int) => [(12, .int .i64 x37), (13, .int .i64 x128), (14, .int .i64 p)]) (fun (p : Int) => []) (fun (p : Int) => K150 (.nx p)) ?_ ?_
 ·skip
  refine GL.cond rfl (fun b156 => ?_) (fun b156 => ?_)
  ·replace h151 := ite_t b156 h151
   refine GL.region ?_
   refine RL.mv rfl rfl rfl ?_
   refine RL.mv rfl rfl rfl ?_
   refine RL.mv rfl rfl rfl ?_
   obtain ⟨y159, e160, h151⟩ := bind_some h151
   refine RL.idxS (sz := 1) 0 Try.underlying41 Try_ln3 rfl rfl rfl rfl rfl SlOf.own (idx_some e160).1 (idx_some e160).2.1 ?_
   refine RL.ldSx (i := (x37).toNat) (e' := y159) 0 Ex.ik Try_ln3 rfl rfl rfl rfl SlOf.own (idx_some e160).2.2 Part.self ?_
   refine RL.minI rfl rfl rfl rfl ?_
   refine RL.asg rfl rfl rfl ?_
   refine RL.finG ?_
   cases h151
   exact fun a w st => mid_intro (if y159 < y121 then y159 else y121) h152 (St.cut [] ⟨rfl, rfl, rfl, trivial⟩ (by decide) rfl st)
  replace h151 := ite_f b156 h151
  refine GL.skip ?_
  cases h151
  exact fun a w st => mid_intro y121 h152 (St.cut [] ⟨rfl, rfl, rfl, trivial⟩ (by decide) rfl st)
 rintro x148 h161
 have h162 := h153 _ h161
 try dsimp only at h162
 refine GL.weak (env' := [(12, .int .i64 x37), (13, .int .i64 x128), (14, .int .i64 x148)]) (L' := []) (fun _ _ st => st) ?_
 refine GL.seq ?_
 refine GL.region ?_
 refine RL.mv rfl rfl rfl ?_
 refine RL.mv rfl rfl rfl ?_
 refine RL.mv rfl rfl rfl ?_
 refine RL.asg rfl rfl rfl ?_
 refine RL.asg rfl rfl rfl ?_
 refine RL.asg rfl rfl rfl ?_
 refine RL.asg rfl rfl rfl ?_
 refine RL.finG ?_
 have h162 := Option.some.inj h162
 subst h162
 exact GL.ret (Gx.ret (v := .tuple #[.int .i64 x37, .int .i64 x128, .int .i64 x148, .int .i64 (0 : Int)]) (res4 rfl rfl rfl rfl rfl) (fun a w st => st.toPostV))

set_option maxHeartbeats 4000000 in
theorem units_Fair_c (S : Hp) (w : World) (hS : S.sub w) (v0 : Value) (x0 : (List Int)) (k0 : ((TR.sl TR.int)).vrep S v0 x0) (v1 : Value) (x1 : (List Int)) (k1 : ((TR.sl TR.int)).vrep S v1 x1) (res : Int × Int × Int × Int) (hm : units_Fair_m x0 x1 = some res) : Calls Try.prog 37 #[v0, v1] w (PostV w (.tuple #[.int .i64 res.1, .int .i64 res.2.1, .int .i64 res.2.2.1, .int .i64 res.2.2.2])) := by
 refine calls_enter 47 Try.func37 Try.ntmps37 rfl S false [(0, v0), (1, v1)] [imm (TR.sl TR.int) v0 x0, imm (TR.sl TR.int) v1 x1] rfl ⟨rfl, ⟨rfl, trivial⟩⟩ hS ⟨k0, ⟨k1, trivial⟩⟩ ?_
 unfold units_Fair_m at hm
 refine GL.seq ?_
 refine GL.region ?_
 refine RL.asg rfl rfl rfl ?_
 refine RL.asg rfl rfl rfl ?_
 refine RL.asg rfl rfl rfl ?_
 refine RL.asg rfl rfl rfl ?_
 refine RL.finG ?_
 refine GL.seq ?_
 refine GL.region ?_
 refine RL.mv rfl rfl rfl ?_
 refine RL.mv rfl rfl rfl ?_
 obtain ⟨y5, e6, hm⟩ := bind_some hm
 refine RL.callV (v := .tuple #[.int .i64 y5.1, .int .i64 y5.2.1, .int .i64 y5.2.2.1, .int .i64 y5.2.2.2]) (vs := [v0, v1]) Try_fit39 rfl (Or.inl rfl) rfl rfl rfl rfl (fun U w hU hW hL => units_Meet_c U w hU _ _ (hL 0 _ _ rfl Seen.imm) _ _ (hL 1 _ _ rfl Seen.imm) _ e6) ?_
 refine RL.mv rfl rfl rfl ?_
 refine RL.ext rfl rfl rfl rfl ?_
 refine RL.ext rfl rfl rfl rfl ?_
 refine RL.ext rfl rfl rfl rfl ?_
 refine RL.ext rfl rfl rfl rfl ?_
 refine RL.asg rfl rfl rfl ?_
 refine RL.asg rfl rfl rfl ?_
 refine RL.asg rfl rfl rfl ?_
 refine RL.asg rfl rfl rfl ?_
 refine RL.finG ?_
 refine GL.seq ?_
 refine GL.seq ?_
 refine GL.region ?_
 refine RL.mv rfl rfl rfl ?_
 refine RL.binI (v := .bool (y5.2.2.2 != (0 : Int))) rfl rfl rfl rfl rfl ?_
 refine RL.finG ?_
 refine GL.cond rfl (fun b7 => ?_) (fun b7 => ?_)
 ·replace hm := ite_t b7 hm
  refine GL.seq ?_
  refine GL.region ?_
  refine RL.mv rfl rfl rfl ?_
  refine RL.asg rfl rfl rfl ?_
  refine RL.asg rfl rfl rfl ?_
  refine RL.asg rfl rfl rfl ?_
  refine RL.asg rfl rfl rfl ?_
  refine RL.finG ?_
  have hm := Option.some.inj hm
  subst hm
  exact GL.ret (Gx.ret (v := .tuple #[.int .i64 (0 : Int), .int .i64 (0 : Int), .int .i64 (0 : Int), .int .i64 y5.2.2.2]) (res4 rfl rfl rfl rfl rfl) (fun a w st => st.toPostV))
 replace hm := ite_f b7 hm
 refine GL.skip ?_
 refine GL.seq ?_
 refine GL.region ?_
 refine RL.mv rfl rfl rfl ?_
 obtain ⟨y14, e15, hm⟩ := bind_some hm
 refine RL.call (vs := [v0]) Try_fit36 rfl rfl rfl rfl rfl (fun S f w hS hW hi => slices_Clone_int_int_c S w hS _ _ (hi 0 _ rfl) _ e15) ?_
 intro v16
 refine RL.mv rfl rfl rfl ?_
 obtain ⟨y17, e18, hm⟩ := bind_some hm
 refine RL.call (vs := [v1]) Try_fit36 rfl rfl rfl rfl rfl (fun S f w hS hW hi => slices_Clone_int_int_c S w hS _ _ (hi 1 _ rfl) _ e18) ?_
 intro v19
 refine RL.reL (L' := [imm (TR.sl TR.int) v0 x0, imm (TR.sl TR.int) v1 x1, own 3 TR.int v16 y14, own 3 TR.int v19 y17]) rfl ?_
 refine RL.asg rfl rfl rfl ?_
 refine RL.asg rfl rfl rfl ?_
 refine RL.finG ?_
 refine GL.seq ?_
 refine GL.region ?_
 refine RL.mv rfl rfl rfl ?_
 obtain ⟨y22, e23, hm⟩ := bind_some hm
 refine RL.callK (vs := [v16]) (V := fun (o : Unit) => .tuple #[]) (LR := fun (o : Unit) => [own 3 TR.int v16 y22]) (Ls := [own 3 TR.int v16 y14]) [2] (by decide) Try_fit63 rfl rfl rfl rfl rfl rfl (fun S f X w hO hB hW hI hL => slices_Sort_int_int_c _ S X f w _ _ hO hB hI  _ e23) ?_
 intro _
 refine RL.reL (L' := [imm (TR.sl TR.int) v0 x0, imm (TR.sl TR.int) v1 x1, gone, own 3 TR.int v19 y17, own 3 TR.int v16 y22]) rfl ?_
 refine RL.finG ?_
 refine GL.seq ?_
 refine GL.region ?_
 refine RL.mv rfl rfl rfl ?_
 obtain ⟨y26, e27, hm⟩ := bind_some hm
 refine RL.callK (vs := [v16]) (V := fun (o : Unit) => .tuple #[]) (LR := fun (o : Unit) => [own 3 TR.int v16 y26]) (Ls := [own 3 TR.int v16 y22]) [4] (by decide) Try_fit64 rfl rfl rfl rfl rfl rfl (fun S f X w hO hB hW hI hL => slices_Reverse_int_int_c _ S X f w _ _ hO hB hI  _ e27) ?_
 intro _
 refine RL.reL (L' := [imm (TR.sl TR.int) v0 x0, imm (TR.sl TR.int) v1 x1, gone, own 3 TR.int v19 y17, gone, own 3 TR.int v16 y26]) rfl ?_
 refine RL.finG ?_
 refine GL.seq ?_
 refine GL.region ?_
 refine RL.mv rfl rfl rfl ?_
 obtain ⟨y30, e31, hm⟩ := bind_some hm
 refine RL.callK (vs := [v19]) (V := fun (o : Unit) => .tuple #[]) (LR := fun (o : Unit) => [own 3 TR.int v19 y30]) (Ls := [own 3 TR.int v19 y17]) [3] (by decide) Try_fit63 rfl rfl rfl rfl rfl rfl (fun S f X w hO hB hW hI hL => slices_Sort_int_int_c _ S X f w _ _ hO hB hI  _ e31) ?_
 intro _
 refine RL.reL (L' := [imm (TR.sl TR.int) v0 x0, imm (TR.sl TR.int) v1 x1, gone, gone, gone, own 3 TR.int v16 y26, own 3 TR.int v19 y30]) rfl ?_
 refine RL.finG ?_
 refine GL.seq ?_
 refine GL.regionQ rfl rfl (by kernel_rfl) ?_
 refine RL.mv rfl rfl rfl ?_
 refine RL.binI (v := .int .i64 (wsub y5.1 (1 : Int))) rfl rfl rfl rfl rfl ?_
 refine RL.mv rfl rfl rfl ?_
 refine RL.mv rfl rfl rfl ?_
 refine RL.binI (v := .int .i64 (wsub y5.1 (1 : Int))) rfl rfl rfl rfl rfl ?_
 obtain ⟨y36, e37, hm⟩ := bind_some hm
 refine RL.idxS (sz := 1) 5 Try.underlying41 Try_ln3 rfl rfl rfl rfl rfl SlOf.own (idx_some e37).1 (idx_some e37).2.1 ?_
 refine RL.ldSx (i := (wsub y5.1 (1 : Int)).toNat) (e' := y36) 5 Ex.ik Try_ln3 rfl rfl rfl rfl SlOf.own (idx_some e37).2.2 Part.self ?_
 refine RL.mv rfl rfl rfl ?_
 refine RL.mv rfl rfl rfl ?_
 refine RL.binI (v := .int .i64 (wsub y5.1 (1 : Int))) rfl rfl rfl rfl rfl ?_
 obtain ⟨y38, e39, hm⟩ := bind_some hm
 refine RL.idxS (sz := 1) 6 Try.underlying41 Try_ln3 rfl rfl rfl rfl rfl SlOf.own (idx_some e39).1 (idx_some e39).2.1 ?_
 refine RL.ldSx (i := (wsub y5.1 (1 : Int)).toNat) (e' := y38) 6 Ex.ik Try_ln3 rfl rfl rfl rfl SlOf.own (idx_some e39).2.2 Part.self ?_
 refine RL.asg rfl rfl rfl ?_
 refine RL.asg rfl rfl rfl ?_
 refine RL.asg rfl rfl rfl ?_
 refine RL.asg rfl rfl rfl ?_
 refine RL.finQG ?_
 have hm := Option.some.inj hm
 subst hm
 exact GL.ret (Gx.ret (v := .tuple #[.int .i64 (wsub y5.1 (1 : Int)), .int .i64 y36, .int .i64 y38, .int .i64 (0 : Int)]) (res4 rfl rfl rfl rfl rfl) (fun a w st => st.toPostV))

set_option maxHeartbeats 4000000 in
theorem slices_insertionSortCmpFunc_int_c (B : World) (S X : Hp) (f : Nat → Hp) (w : World) (v0 : Value) (x0 : (List Int)) (hO : HeapOk B.heap.size S f [own 3 TR.int v0 x0, keep X].length w) (hB : Below B.heap.size B w) (hI : Its [own 3 TR.int v0 x0, keep X] S f) (x1 : Int) (x2 : Int) (f3 : FuncId) (c3 : Array Value) (t3 : Fit Try.prog f3) (g3 : Int → Int → Option Int) (k3 : ∀ (U : Hp) (w' : World), Hp.le S U → U.sub w' → ∀ (a0 : Int) (a1 : Int) (rr : Int), g3 a0 a1 = some rr → Calls Try.prog f3 (#[.int .i64 a0, .int .i64 a1] ++ c3) w' (PostV w' (.int .i64 rr))) (res : (List Int)) (hm : slices_insertionSortCmpFunc_int_m x0 x1 x2 g3 = some res) : Calls Try.prog 80 #[v0, .int .i64 x1, .int .i64 x2, .func (.func f3) #[] c3] w (PostM B S (fun (o : Unit) => .tuple #[]) (fun (o : Unit) => [own 3 TR.int v0 res, keep X])) := by
 refine calls_enterM 53 Try.func80 Try.ntmps80 rfl B S f [(0, v0), (1, .int .i64 x1), (2, .int .i64 x2), (3, .func (.func f3) #[] c3)] [own 3 TR.int v0 x0, keep X] [] rfl ⟨rfl, ⟨rfl, ⟨rfl, ⟨rfl, trivial⟩⟩⟩⟩ hB hO hI trivial ?_
 unfold slices_insertionSortCmpFunc_int_m at hm
 refine GL.seq ?_
 refine GL.region ?_
 refine RL.mv rfl rfl rfl ?_
 refine RL.binI (v := .int .i64 (wadd x1 (1 : Int))) rfl rfl rfl rfl rfl ?_
 refine RL.asg rfl rfl rfl ?_
 refine RL.finG ?_
 obtain ⟨y340, K341, h342, h343, h344, h345, h346⟩ := bindR_K hm
 refine GL.join (ι := (List Int) × Int) (fun (p : (List Int) × Int) => []) (fun (p : (List Int) × Int) => [own 3 TR.int v0 p.1, keep X]) (fun (p : (List Int) × Int) => K341 (.nx (p.1, p.2))) ?_ ?_
 ·refine GL.block ?_
  refine GL.loop (ι := Nat × (List Int) × Int) (fun (p : Nat × (List Int) × Int) => [(0, v0), (1, .int .i64 x1), (2, .int .i64 x2), (3, .func (.func f3) #[] c3), (8, .int .i64 p.2.2)]) (fun (p : Nat × (List Int) × Int) => [own 3 TR.int v0 p.2.1, keep X]) (fun (p : Nat × (List Int) × Int) => loopM (slices_insertionSortCmpFunc_int_b1 x2 x1 g3) p.1 (p.2.1, p.2.2) = some y340) (fun (p : Nat × (List Int) × Int) => p.1) (1048576, x0, wadd x1 (1 : Int)) h342 (fun a w st => St.cut [0, 1] ⟨rfl, rfl, rfl, rfl, rfl, trivial⟩ (by decide) rfl st) ?_
  rintro ⟨r348, l172, x173⟩ h352
  try dsimp only at h352
  refine GL.weak (env' := [(0, v0), (1, .int .i64 x1), (2, .int .i64 x2), (3, .func (.func f3) #[] c3), (8, .int .i64 x173)]) (L' := [own 3 TR.int v0 l172, keep X]) (fun _ _ st => st) ?_
  obtain ⟨r355, z349, hr, h350, h351⟩ := loopM_some h352
  subst hr
  unfold slices_insertionSortCmpFunc_int_b1 at h350
  try dsimp only at h350
  refine GL.seq ?_
  refine GL.seq ?_
  refine GL.region ?_
  refine RL.mv rfl rfl rfl ?_
  refine RL.mv rfl rfl rfl ?_
  refine RL.binI (v := .bool (decide (x173 < x2))) rfl rfl rfl rfl rfl ?_
  refine RL.finG ?_
  refine GL.cond rfl (fun b356 => ?_) (fun b356 => ?_)
  ·replace h350 := ite_t b356 h350
   refine GL.skip ?_
   refine GL.seq ?_
   refine GL.block ?_
   refine GL.seq ?_
   refine GL.region ?_
   refine RL.mv rfl rfl rfl ?_
   refine RL.asg rfl rfl rfl ?_
   refine RL.finG ?_
   obtain ⟨y456, K457, h458, h459, h460, h461, h462⟩ := bindF_K h350
   refine GL.join (ι := (List Int) × Int) (fun (p : (List Int) × Int) => [(0, v0), (1, .int .i64 x1), (2, .int .i64 x2), (3, .func (.func f3) #[] c3), (8, .int .i64 x173)]) (fun (p : (List Int) × Int) => [own 3 TR.int v0 p.1, keep X]) (fun (p : (List Int) × Int) => K457 (.nx (p.1, p.2))) ?_ ?_
   ·refine GL.block ?_
    refine GL.loop (ι := Nat × (List Int) × Int) (fun (p : Nat × (List Int) × Int) => [(0, v0), (1, .int .i64 x1), (2, .int .i64 x2), (3, .func (.func f3) #[] c3), (8, .int .i64 x173), (9, .int .i64 p.2.2)]) (fun (p : Nat × (List Int) × Int) => [own 3 TR.int v0 p.2.1, keep X]) (fun (p : Nat × (List Int) × Int) => loopM (slices_insertionSortCmpFunc_int_b2 x1 g3) p.1 (p.2.1, p.2.2) = some y456) (fun (p : Nat × (List Int) × Int) => p.1) (1048576, l172, x173) h458 (fun a w st => St.cut [0, 1] ⟨rfl, rfl, rfl, rfl, rfl, rfl, trivial⟩ (by decide) rfl st) ?_
    rintro ⟨r464, l406, x407⟩ h468
    try dsimp only at h468
    refine GL.weak (env' := [(0, v0), (1, .int .i64 x1), (2, .int .i64 x2), (3, .func (.func f3) #[] c3), (8, .int .i64 x173), (9, .int .i64 x407)]) (L' := [own 3 TR.int v0 l406, keep X]) (fun _ _ st => st) ?_
    obtain ⟨r471, z465, hr, h466, h467⟩ := loopM_some h468
    subst hr
    unfold slices_insertionSortCmpFunc_int_b2 at h466
    try dsimp only at h466
    refine GL.seq ?_
    refine GL.seq ?_
    obtain ⟨y487, K488, h489, h490, h491, h492, h493⟩ := bindF_K h466
    refine GL.join (ι := Bool) (fun (p : Bool) => [(0, v0), (1, .int .i64 x1), (2, .int .i64 x2), (3, .func (.func f3) #[] c3), (8, .int .i64 x173), (9, .int .i64 x407), (34, .bool p)]) (fun (p : Bool) => [own 3 TR.int v0 l406, keep X]) (fun (p : Bool) => K488 (.nx p)) ?_ ?_
    ·skip
     refine GL.regionQ rfl rfl (by kernel_rfl) ?_
     refine RL.mv rfl rfl rfl ?_
     refine RL.mv rfl rfl rfl ?_
     refine RL.binI (v := .bool (decide (x407 > x1))) rfl rfl rfl rfl rfl ?_
     refine RL.mv rfl rfl rfl ?_
     refine RL.split (t := 21) rfl (fun b494 => ?_) (fun b494 => ?_)
     ·replace h489 := ite_t b494 h489
      refine RL.mv rfl rfl rfl ?_
      refine RL.mv rfl rfl rfl ?_
      refine RL.mv rfl rfl rfl ?_
      obtain ⟨y495, e496, h489⟩ := bind_some h489
      refine RL.idxS (sz := 1) 0 Try.underlying41 Try_ln3 rfl rfl rfl rfl rfl SlOf.own (idx_some e496).1 (idx_some e496).2.1 ?_
      refine RL.ldSx (i := (x407).toNat) (e' := y495) 0 Ex.ik Try_ln3 rfl rfl rfl rfl SlOf.own (idx_some e496).2.2 Part.self ?_
      refine RL.mv rfl rfl rfl ?_
      refine RL.mv rfl rfl rfl ?_
      refine RL.binI (v := .int .i64 (wsub x407 (1 : Int))) rfl rfl rfl rfl rfl ?_
      obtain ⟨y497, e498, h489⟩ := bind_some h489
      refine RL.idxS (sz := 1) 0 Try.underlying41 Try_ln3 rfl rfl rfl rfl rfl SlOf.own (idx_some e498).1 (idx_some e498).2.1 ?_
      refine RL.ldSx (i := (wsub x407 (1 : Int)).toNat) (e' := y497) 0 Ex.ik Try_ln3 rfl rfl rfl rfl SlOf.own (idx_some e498).2.2 Part.self ?_
      obtain ⟨y499, e500, h489⟩ := bind_some h489
      refine RL.callV (v := .int .i64 y499) (vs := [.int .i64 y495, .int .i64 y497]) t3 rfl (Or.inr ⟨_, rfl⟩) rfl rfl rfl rfl (fun U w hU hW hL => k3 U w hW hU y495 y497 _ e500) ?_
      refine RL.binI (v := .bool (decide (y499 < (0 : Int)))) rfl rfl rfl rfl rfl ?_
      refine RL.pickT rfl rfl rfl rfl ?_
      refine RL.finQ ?_
      cases h489
      exact fun a w st => mid_intro (decide (y499 < (0 : Int))) h490 (St.cut [0, 1] ⟨rfl, rfl, rfl, rfl, rfl, rfl, rfl, trivial⟩ (by decide) rfl st)
     replace h489 := ite_f b494 h489
     refine RL.skip rfl rfl ?_
     refine RL.skip rfl rfl ?_
     refine RL.skip rfl rfl ?_
     refine RL.skip rfl rfl ?_
     refine RL.skip rfl rfl ?_
     refine RL.skip rfl rfl ?_
     refine RL.skip rfl rfl ?_
     refine RL.skip rfl rfl ?_
     refine RL.skip rfl rfl ?_
     refine RL.skip rfl rfl ?_
     refine RL.skip rfl rfl ?_
     refine RL.skip rfl rfl ?_
     refine RL.pickF rfl rfl rfl rfl ?_
     refine RL.finQ ?_
     cases h489
     exact fun a w st => mid_intro false h490 (St.cut [0, 1] ⟨rfl, rfl, rfl, rfl, rfl, rfl, rfl, trivial⟩ (by decide) rfl st)
    rintro x486 h501
    have h502 := h491 _ h501
    try dsimp only at h502
    refine GL.weak (env' := [(0, v0), (1, .int .i64 x1), (2, .int .i64 x2), (3, .func (.func f3) #[] c3), (8, .int .i64 x173), (9, .int .i64 x407), (34, .bool x486)]) (L' := [own 3 TR.int v0 l406, keep X]) (fun _ _ st => st) ?_
    refine GL.cond rfl (fun b503 => ?_) (fun b503 => ?_)
    ·replace h502 := ite_t b503 h502
     refine GL.skip ?_
     refine GL.seq ?_
     refine GL.block ?_
     refine GL.regionA rfl rfl ?_
     refine RA.mv 0 rfl (by kernel_rfl) rfl rfl rfl ?_
     refine RA.mv 1 rfl (by kernel_rfl) rfl rfl rfl ?_
     refine RA.mv 2 rfl (by kernel_rfl) rfl rfl rfl ?_
     refine RA.mv 3 rfl (by kernel_rfl) rfl rfl rfl ?_
     refine RA.binI (v := .int .i64 (wsub x407 (1 : Int))) 4 rfl (by kernel_rfl) rfl rfl rfl rfl rfl ?_
     refine RA.mv 5 rfl (by kernel_rfl) rfl rfl rfl ?_
     refine RA.mv 6 rfl (by kernel_rfl) rfl rfl rfl ?_
     refine RA.binI (v := .int .i64 (wsub x407 (1 : Int))) 7 rfl (by kernel_rfl) rfl rfl rfl rfl rfl ?_
     obtain ⟨y512, e513, h502⟩ := bind_some h502
     refine RA.idxS (sz := 1) 0 Try.underlying41 Try_ln3 8 rfl (by kernel_rfl) rfl rfl rfl rfl rfl SlOf.own (idx_some e513).1 (idx_some e513).2.1 ?_
     refine RA.mv 10 rfl (by kernel_rfl) rfl rfl rfl ?_
     refine RA.mv 11 rfl (by kernel_rfl) rfl rfl rfl ?_
     obtain ⟨y514, e515, h502⟩ := bind_some h502
     refine RA.idxS (sz := 1) 0 Try.underlying41 Try_ln3 12 rfl (by kernel_rfl) rfl rfl rfl rfl rfl SlOf.own (idx_some e515).1 (idx_some e515).2.1 ?_
     refine RA.still (le := #[true, true, true, true, true, true, true, true, true, true, true, true, true, true, true, false, false, false]) (f := 3) [9, 13, 14] 15 rfl (by kernel_rfl) ?_
     simp only [pickOps, List.getElem?_toArray, List.getElem?_cons_succ, List.getElem?_cons_zero]
     refine RL.ldSx (i := (wsub x407 (1 : Int)).toNat) (e' := y512) 0 Ex.ik Try_ln3 rfl rfl rfl rfl SlOf.own (idx_some e513).2.2 Part.self ?_
     refine RL.ldSx (i := (x407).toNat) (e' := y514) 0 Ex.ik Try_ln3 rfl rfl rfl rfl SlOf.own (idx_some e515).2.2 Part.self ?_
     obtain ⟨y516, e517, h502⟩ := bind_some h502
     refine RL.idxS (sz := 1) 0 Try.underlying41 Try_ln3 rfl rfl rfl rfl rfl SlOf.own (idx_some e517).1 (idx_some e517).2.1 ?_
     refine RL.finH ?_
     refine RL.fin ?_
     refine RA.next ?_
     refine RA.seq 15 rfl (by kernel_rfl) ?_
     refine RL.stS (i := (x407).toNat) (e' := y512) (e1 := y512) (r := TR.int) 0 Try_ln3 rfl rfl rfl rfl VR.int rfl (idx_some e517).2.2 Upd.self ?_
     refine RL.fin ?_
     refine RA.next ?_
     obtain ⟨y518, e519, h502⟩ := bind_some h502
     refine RA.idxS (sz := 1) 0 Try.underlying41 Try_ln3 16 rfl (by kernel_rfl) rfl rfl rfl rfl rfl SlOf.own (idx_some e519).1 (idx_some e519).2.1 ?_
     refine RA.seq 17 rfl (by kernel_rfl) ?_
     refine RL.stS (i := (wsub x407 (1 : Int)).toNat) (e' := y514) (e1 := y514) (r := TR.int) 0 Try_ln3 rfl rfl rfl rfl VR.int rfl (idx_some e519).2.2 Upd.self ?_
     refine RL.fin ?_
     refine RA.next ?_
     refine RA.doneG (by kernel_rfl) ?_
     refine GL.weak (env' := [(0, v0), (1, .int .i64 x1), (2, .int .i64 x2), (3, .func (.func f3) #[] c3), (8, .int .i64 x173), (9, .int .i64 x407)]) (L' := [own 3 TR.int v0 (List.set (List.set l406 ((x407).toNat) y512) ((wsub x407 (1 : Int)).toNat) y514), keep X]) (fun a w st => St.cut [0, 1] ⟨rfl, rfl, rfl, rfl, rfl, rfl, trivial⟩ (by decide) rfl st) ?_
     refine GL.nilB ?_
     refine GL.region ?_
     refine RL.mv rfl rfl rfl ?_
     refine RL.binI (v := .int .i64 (wsub x407 (1 : Int))) rfl rfl rfl rfl rfl ?_
     refine RL.asg rfl rfl rfl ?_
     refine RL.finG ?_
     cases h502
     exact fun a w st => lop_intro (r471, (List.set (List.set l406 ((x407).toNat) y512) ((wsub x407 (1 : Int)).toNat) y514), wsub x407 (1 : Int)) (by exact h467) (by simp) (St.cut [0, 1] ⟨rfl, rfl, rfl, rfl, rfl, rfl, trivial⟩ (by decide) rfl st)
    replace h502 := ite_f b503 h502
    cases h502
    replace h467 : some (Fl.nx _) = some y456 := h467
    cases h467
    exact GL.exit (fun a w st => mid_intro (l406, x407) h459 (St.cut [0, 1] ⟨rfl, rfl, rfl, rfl, rfl, trivial⟩ (by decide) rfl st))
   rintro ⟨l406, x407⟩ h520
   have h521 := h460 _ h520
   try dsimp only at h521
   refine GL.weak (env' := [(0, v0), (1, .int .i64 x1), (2, .int .i64 x2), (3, .func (.func f3) #[] c3), (8, .int .i64 x173)]) (L' := [own 3 TR.int v0 l406, keep X]) (fun _ _ st => st) ?_
   refine GL.nilB ?_
   refine GL.region ?_
   refine RL.mv rfl rfl rfl ?_
   refine RL.binI (v := .int .i64 (wadd x173 (1 : Int))) rfl rfl rfl rfl rfl ?_
   refine RL.asg rfl rfl rfl ?_
   refine RL.finG ?_
   cases h521
   exact fun a w st => lop_intro (r355, l406, wadd x173 (1 : Int)) (by exact h351) (by simp) (St.cut [0, 1] ⟨rfl, rfl, rfl, rfl, rfl, trivial⟩ (by decide) rfl st)
  replace h350 := ite_f b356 h350
  cases h350
  replace h351 : some (Fl.nx _) = some y340 := h351
  cases h351
  exact GL.exit (fun a w st => mid_intro (l172, x173) h343 (St.cut [0, 1] trivial (by decide) rfl st))
 rintro ⟨l172, x173⟩ h522
 have h523 := h344 _ h522
 try dsimp only at h523
 refine GL.weak (env' := []) (L' := [own 3 TR.int v0 l172, keep X]) (fun _ _ st => st) ?_
 have h523 := Option.some.inj h523
 subst h523
 exact GL.nil (Gx.retN (v := .tuple #[]) (res0 rfl) (fun a w st => (st.pick [0, 1] (by decide) rfl).toPostM (V := fun (o : Unit) => .tuple #[]) (LR := fun (o : Unit) => [own 3 TR.int v0 l172, keep X]) ()))

set_option maxHeartbeats 4000000 in
theorem slices_stableCmpFunc_int_c (B : World) (S X : Hp) (f : Nat → Hp) (w : World) (v0 : Value) (x0 : (List Int)) (hO : HeapOk B.heap.size S f [own 3 TR.int v0 x0, keep X].length w) (hB : Below B.heap.size B w) (hI : Its [own 3 TR.int v0 x0, keep X] S f) (x1 : Int) (f2 : FuncId) (c2 : Array Value) (t2 : Fit Try.prog f2) (g2 : Int → Int → Option Int) (k2 : ∀ (U : Hp) (w' : World), Hp.le S U → U.sub w' → ∀ (a0 : Int) (a1 : Int) (rr : Int), g2 a0 a1 = some rr → Calls Try.prog f2 (#[.int .i64 a0, .int .i64 a1] ++ c2) w' (PostV w' (.int .i64 rr))) (res : (List Int)) (hm : slices_stableCmpFunc_int_m x0 x1 g2 = some res) : Calls Try.prog 74 #[v0, .int .i64 x1, .func (.func f2) #[] c2] w (PostM B S (fun (o : Unit) => .tuple #[]) (fun (o : Unit) => [own 3 TR.int v0 res, keep X])) := by
 refine calls_enterM 63 Try.func74 Try.ntmps74 rfl B S f [(0, v0), (1, .int .i64 x1), (2, .func (.func f2) #[] c2)] [own 3 TR.int v0 x0, keep X] [] rfl ⟨rfl, ⟨rfl, ⟨rfl, trivial⟩⟩⟩ hB hO hI trivial ?_
 unfold slices_stableCmpFunc_int_m at hm
 refine GL.seq ?_
 refine GL.region ?_
 refine RL.asg rfl rfl rfl ?_
 refine RL.finG ?_
 refine GL.seq ?_
 refine GL.region ?_
 refine RL.mv rfl rfl rfl ?_
 refine RL.asg rfl rfl rfl ?_
 refine RL.asg rfl rfl rfl ?_
 refine RL.finG ?_
 refine GL.seq ?_
 obtain ⟨y27, K28, h29, h30, h31, h32, h33⟩ := bindR_K hm
 refine GL.join (ι := (List Int) × Int × Int) (fun (p : (List Int) × Int × Int) => [(0, v0), (1, .int .i64 x1), (2, .func (.func f2) #[] c2), (6, .int .i64 (20 : Int)), (7, .int .i64 p.2.1)]) (fun (p : (List Int) × Int × Int) => [own 3 TR.int v0 p.1, keep X]) (fun (p : (List Int) × Int × Int) => K28 (.nx (p.1, p.2.1, p.2.2))) ?_ ?_
 ·refine GL.block ?_
  refine GL.loop (ι := Nat × (List Int) × Int × Int) (fun (p : Nat × (List Int) × Int × Int) => [(0, v0), (1, .int .i64 x1), (2, .func (.func f2) #[] c2), (6, .int .i64 (20 : Int)), (7, .int .i64 p.2.2.1), (8, .int .i64 p.2.2.2)]) (fun (p : Nat × (List Int) × Int × Int) => [own 3 TR.int v0 p.2.1, keep X]) (fun (p : Nat × (List Int) × Int × Int) => loopM (slices_stableCmpFunc_int_b1 x1 g2) p.1 (p.2.1, p.2.2.1, p.2.2.2) = some y27) (fun (p : Nat × (List Int) × Int × Int) => p.1) (1048576, x0, (0 : Int), (20 : Int)) h29 (fun a w st => St.cut [0, 1] ⟨rfl, rfl, rfl, rfl, rfl, rfl, trivial⟩ (by decide) rfl st) ?_
  rintro ⟨r35, l15, x16, x17⟩ h39
  try dsimp only at h39
  refine GL.weak (env' := [(0, v0), (1, .int .i64 x1), (2, .func (.func f2) #[] c2), (6, .int .i64 (20 : Int)), (7, .int .i64 x16), (8, .int .i64 x17)]) (L' := [own 3 TR.int v0 l15, keep X]) (fun _ _ st => st) ?_
  obtain ⟨r42, z36, hr, h37, h38⟩ := loopM_some h39
  subst hr
  unfold slices_stableCmpFunc_int_b1 at h37
  try dsimp only at h37
  refine GL.seq ?_
  refine GL.seq ?_
  refine GL.region ?_
  refine RL.mv rfl rfl rfl ?_
  refine RL.mv rfl rfl rfl ?_
  refine RL.binI (v := .bool (decide (x17 ≤ x1))) rfl rfl rfl rfl rfl ?_
  refine RL.finG ?_
  refine GL.cond rfl (fun b43 => ?_) (fun b43 => ?_)
  ·replace h37 := ite_t b43 h37
   refine GL.skip ?_
   refine GL.block ?_
   refine GL.seq ?_
   refine GL.region ?_
   refine RL.mv rfl rfl rfl ?_
   refine RL.mv rfl rfl rfl ?_
   refine RL.mv rfl rfl rfl ?_
   refine RL.mv rfl rfl rfl ?_
   obtain ⟨y50, e51, h37⟩ := bind_some h37
   refine RL.callK (vs := [v0, .int .i64 x16, .int .i64 x17, .func (.func f2) #[] c2]) (V := fun (o : Unit) => .tuple #[]) (LR := fun (o : Unit) => [own 3 TR.int v0 y50]) (Ls := [own 3 TR.int v0 l15]) [0] (by decide) Try_fit80 rfl rfl rfl rfl rfl rfl (fun S f X w hO hB hW hI hL => slices_insertionSortCmpFunc_int_c _ S X f w _ _ hO hB hI x16 x17 f2 c2 t2 g2 (fun U' w' hle => k2 U' w' (Hp.le_trans hW hle)) _ e51) ?_
   intro _
   refine RL.reL (L' := [gone, keep X, own 3 TR.int v0 y50]) rfl ?_
   refine RL.finG ?_
   refine GL.seq ?_
   refine GL.region ?_
   refine RL.mv rfl rfl rfl ?_
   refine RL.asg rfl rfl rfl ?_
   refine RL.finG ?_
   refine GL.region ?_
   refine RL.mv rfl rfl rfl ?_
   refine RL.mv rfl rfl rfl ?_
   refine RL.binI (v := .int .i64 (wadd x17 (20 : Int))) rfl rfl rfl rfl rfl ?_
   refine RL.asg rfl rfl rfl ?_
   refine RL.finG ?_
   refine GL.nilB ?_
   cases h37
   exact fun a w st => lop_intro (r42, y50, x17, wadd x17 (20 : Int)) (by exact h38) (by simp) (St.cut [2, 1] ⟨rfl, rfl, rfl, rfl, rfl, rfl, trivial⟩ (by decide) rfl st)
  replace h37 := ite_f b43 h37
  cases h37
  replace h38 : some (Fl.nx _) = some y27 := h38
  cases h38
  exact GL.exit (fun a w st => mid_intro (l15, x16, x17) h30 (St.cut [0, 1] ⟨rfl, rfl, rfl, rfl, rfl, trivial⟩ (by decide) rfl st))
 rintro ⟨l15, x16, x17⟩ h52
 have h53 := h31 _ h52
 try dsimp only at h53
 refine GL.weak (env' := [(0, v0), (1, .int .i64 x1), (2, .func (.func f2) #[] c2), (6, .int .i64 (20 : Int)), (7, .int .i64 x16)]) (L' := [own 3 TR.int v0 l15, keep X]) (fun _ _ st => st) ?_
 refine GL.seq ?_
 refine GL.region ?_
 refine RL.mv rfl rfl rfl ?_
 refine RL.mv rfl rfl rfl ?_
 refine RL.mv rfl rfl rfl ?_
 refine RL.mv rfl rfl rfl ?_
 obtain ⟨y56, e57, h53⟩ := bind_some h53
 refine RL.callK (vs := [v0, .int .i64 x16, .int .i64 x1, .func (.func f2) #[] c2]) (V := fun (o : Unit) => .tuple #[]) (LR := fun (o : Unit) => [own 3 TR.int v0 y56]) (Ls := [own 3 TR.int v0 l15]) [0] (by decide) Try_fit80 rfl rfl rfl rfl rfl rfl (fun S f X w hO hB hW hI hL => slices_insertionSortCmpFunc_int_c _ S X f w _ _ hO hB hI x16 x1 f2 c2 t2 g2 (fun U' w' hle => k2 U' w' (Hp.le_trans hW hle)) _ e57) ?_
 intro _
 refine RL.reL (L' := [gone, keep X, own 3 TR.int v0 y56]) rfl ?_
 refine RL.finG ?_
 obtain ⟨y106, K107, h108, h109, h110, h111, h112⟩ := bindR_K h53
 refine GL.join (ι := Int) (fun (p : Int) => []) (fun (p : Int) => [own 3 TR.int v0 y56, keep X]) (fun (p : Int) => K107 (.nx p)) ?_ ?_
 ·refine GL.block ?_
  refine GL.loop (ι := Nat × Int) (fun (p : Nat × Int) => [(0, v0), (1, .int .i64 x1), (2, .func (.func f2) #[] c2), (6, .int .i64 p.2)]) (fun (p : Nat × Int) => [own 3 TR.int v0 y56, keep X]) (fun (p : Nat × Int) => loopM (slices_stableCmpFunc_int_b2 x1) p.1 p.2 = some y106) (fun (p : Nat × Int) => p.1) (1048576, (20 : Int)) h108 (fun a w st => St.cut [2, 1] ⟨rfl, rfl, rfl, rfl, trivial⟩ (by decide) rfl st) ?_
  rintro ⟨r114, x58⟩ h118
  try dsimp only at h118
  refine GL.weak (env' := [(0, v0), (1, .int .i64 x1), (2, .func (.func f2) #[] c2), (6, .int .i64 x58)]) (L' := [own 3 TR.int v0 y56, keep X]) (fun _ _ st => st) ?_
  obtain ⟨r121, z115, hr, h116, h117⟩ := loopM_some h118
  subst hr
  unfold slices_stableCmpFunc_int_b2 at h116
  try dsimp only at h116
  refine GL.seq ?_
  refine GL.seq ?_
  refine GL.region ?_
  refine RL.mv rfl rfl rfl ?_
  refine RL.mv rfl rfl rfl ?_
  refine RL.binI (v := .bool (decide (x58 < x1))) rfl rfl rfl rfl rfl ?_
  refine RL.finG ?_
  refine GL.cond rfl (fun b122 => ?_) (fun b122 => ?_)
  ·replace h116 := ite_t b122 h116
   refine GL.skip ?_
   refine GL.block ?_
   refine GL.seq ?_
   refine GL.region ?_
   refine RL.mv rfl rfl rfl ?_
   refine RL.binI (v := .int .i64 (wmul (2 : Int) x58)) rfl rfl rfl rfl rfl ?_
   refine RL.asg rfl rfl rfl ?_
   refine RL.asg rfl rfl rfl ?_
   refine RL.finG ?_
   refine GL.seq ?_
   obtain ⟨y149, K150, h151, h152, h153, h154, h155⟩ := bindF_K h116
   refine GL.join (ι := Int × Int) (fun (p : Int × Int) => [(0, v0), (1, .int .i64 x1), (2, .func (.func f2) #[] c2), (6, .int .i64 x58), (7, .int .i64 p.1)]) (fun (p : Int × Int) => [own 3 TR.int v0 y56, keep X]) (fun (p : Int × Int) => K150 (.nx (p.1, p.2))) ?_ ?_
   ·refine GL.block ?_
    refine GL.loop (ι := Nat × Int × Int) (fun (p : Nat × Int × Int) => [(0, v0), (1, .int .i64 x1), (2, .func (.func f2) #[] c2), (6, .int .i64 x58), (7, .int .i64 p.2.1), (8, .int .i64 p.2.2)]) (fun (p : Nat × Int × Int) => [own 3 TR.int v0 y56, keep X]) (fun (p : Nat × Int × Int) => loopM (slices_stableCmpFunc_int_b3 x1) p.1 (p.2.1, p.2.2) = some y149) (fun (p : Nat × Int × Int) => p.1) (1048576, (0 : Int), wmul (2 : Int) x58) h151 (fun a w st => St.cut [0, 1] ⟨rfl, rfl, rfl, rfl, rfl, rfl, trivial⟩ (by decide) rfl st) ?_
    rintro ⟨r157, x146, x147⟩ h161
    try dsimp only at h161
    refine GL.weak (env' := [(0, v0), (1, .int .i64 x1), (2, .func (.func f2) #[] c2), (6, .int .i64 x58), (7, .int .i64 x146), (8, .int .i64 x147)]) (L' := [own 3 TR.int v0 y56, keep X]) (fun _ _ st => st) ?_
    obtain ⟨r164, z158, hr, h159, h160⟩ := loopM_some h161
    subst hr
    unfold slices_stableCmpFunc_int_b3 at h159
    try dsimp only at h159
    refine GL.seq ?_
    refine GL.seq ?_
    refine GL.region ?_
    refine RL.mv rfl rfl rfl ?_
    refine RL.mv rfl rfl rfl ?_
    refine RL.binI (v := .bool (decide (x147 ≤ x1))) rfl rfl rfl rfl rfl ?_
    refine RL.finG ?_
    refine GL.cond rfl (fun b165 => ?_) (fun b165 => ?_)
    ·replace h159 := ite_t b165 h159
     cases h159
    replace h159 := ite_f b165 h159
    cases h159
    replace h160 : some (Fl.nx _) = some y149 := h160
    cases h160
    exact GL.exit (fun a w st => mid_intro (x146, x147) h152 (St.cut [0, 1] ⟨rfl, rfl, rfl, rfl, rfl, trivial⟩ (by decide) rfl st))
   rintro ⟨x146, x147⟩ h166
   have h167 := h153 _ h166
   try dsimp only at h167
   refine GL.weak (env' := [(0, v0), (1, .int .i64 x1), (2, .func (.func f2) #[] c2), (6, .int .i64 x58), (7, .int .i64 x146)]) (L' := [own 3 TR.int v0 y56, keep X]) (fun _ _ st => st) ?_
   refine GL.seq ?_
   refine GL.seq ?_
   refine GL.region ?_
   refine RL.mv rfl rfl rfl ?_
   refine RL.mv rfl rfl rfl ?_
   refine RL.binI (v := .int .i64 (wadd x146 x58)) rfl rfl rfl rfl rfl ?_
   refine RL.asg rfl rfl rfl ?_
   refine RL.finG ?_
   refine GL.seq ?_
   refine GL.region ?_
   refine RL.mv rfl rfl rfl ?_
   refine RL.mv rfl rfl rfl ?_
   refine RL.binI (v := .bool (decide ((wadd x146 x58) < x1))) rfl rfl rfl rfl rfl ?_
   refine RL.finG ?_
   refine GL.cond rfl (fun b168 => ?_) (fun b168 => ?_)
   ·replace h167 := ite_t b168 h167
    cases h167
   replace h167 := ite_f b168 h167
   refine GL.skip ?_
   refine GL.region ?_
   refine RL.mv rfl rfl rfl ?_
   refine RL.binI (v := .int .i64 (wmul x58 (2 : Int))) rfl rfl rfl rfl rfl ?_
   refine RL.asg rfl rfl rfl ?_
   refine RL.finG ?_
   refine GL.nilB ?_
   cases h167
   exact fun a w st => lop_intro (r121, wmul x58 (2 : Int)) (by exact h117) (by simp) (St.cut [0, 1] ⟨rfl, rfl, rfl, rfl, trivial⟩ (by decide) rfl st)
  replace h116 := ite_f b122 h116
  cases h116
  replace h117 : some (Fl.nx _) = some y106 := h117
  cases h117
  exact GL.exit (fun a w st => mid_intro x58 h109 (St.cut [0, 1] trivial (by decide) rfl st))
 rintro x58 h169
 have h170 := h110 _ h169
 try dsimp only at h170
 refine GL.weak (env' := []) (L' := [own 3 TR.int v0 y56, keep X]) (fun _ _ st => st) ?_
 have h170 := Option.some.inj h170
 subst h170
 exact GL.nil (Gx.retN (v := .tuple #[]) (res0 rfl) (fun a w st => (st.pick [0, 1] (by decide) rfl).toPostM (V := fun (o : Unit) => .tuple #[]) (LR := fun (o : Unit) => [own 3 TR.int v0 y56, keep X]) ()))

set_option maxHeartbeats 4000000 in
theorem slices_SortStableFunc_int_int_c (B : World) (S X : Hp) (f : Nat → Hp) (w : World) (v0 : Value) (x0 : (List Int)) (hO : HeapOk B.heap.size S f [own 3 TR.int v0 x0, keep X].length w) (hB : Below B.heap.size B w) (hI : Its [own 3 TR.int v0 x0, keep X] S f) (f1 : FuncId) (c1 : Array Value) (t1 : Fit Try.prog f1) (g1 : Int → Int → Option Int) (k1 : ∀ (U : Hp) (w' : World), Hp.le S U → U.sub w' → ∀ (a0 : Int) (a1 : Int) (rr : Int), g1 a0 a1 = some rr → Calls Try.prog f1 (#[.int .i64 a0, .int .i64 a1] ++ c1) w' (PostV w' (.int .i64 rr))) (res : (List Int)) (hm : slices_SortStableFunc_int_int_m x0 g1 = some res) : Calls Try.prog 61 #[v0, .func (.func f1) #[] c1] w (PostM B S (fun (o : Unit) => .tuple #[]) (fun (o : Unit) => [own 3 TR.int v0 res, keep X])) := by
 refine calls_enterM 9 Try.func61 Try.ntmps61 rfl B S f [(0, v0), (1, .func (.func f1) #[] c1)] [own 3 TR.int v0 x0, keep X] [] rfl ⟨rfl, ⟨rfl, trivial⟩⟩ hB hO hI trivial ?_
 unfold slices_SortStableFunc_int_int_m at hm
 refine GL.region ?_
 refine RL.mv rfl rfl rfl ?_
 refine RL.mv rfl rfl rfl ?_
 refine RL.lenS 0 Try.underlying41 rfl rfl rfl rfl SlOf.own ?_
 refine RL.mv rfl rfl rfl ?_
 obtain ⟨y5, e6, hm⟩ := bind_some hm
 refine RL.callK (vs := [v0, .int .i64 ((x0).length : Int), .func (.func f1) #[] c1]) (V := fun (o : Unit) => .tuple #[]) (LR := fun (o : Unit) => [own 3 TR.int v0 y5]) (Ls := [own 3 TR.int v0 x0]) [0] (by decide) Try_fit74 rfl rfl rfl rfl rfl rfl (fun S f X w hO hB hW hI hL => slices_stableCmpFunc_int_c _ S X f w _ _ hO hB hI ((x0).length : Int) f1 c1 t1 g1 (fun U' w' hle => k1 U' w' (Hp.le_trans hW hle)) _ e6) ?_
 intro _
 refine RL.reL (L' := [gone, keep X, own 3 TR.int v0 y5]) rfl ?_
 refine RL.finG ?_
 have hm := Option.some.inj hm
 subst hm
 exact GL.nil (Gx.retN (v := .tuple #[]) (res0 rfl) (fun a w st => (st.pick [2, 1] (by decide) rfl).toPostM (V := fun (o : Unit) => .tuple #[]) (LR := fun (o : Unit) => [own 3 TR.int v0 y5, keep X]) ()))

set_option maxHeartbeats 4000000 in
theorem units_Sell_1_c (S : Hp) (w : World) (hS : S.sub w) (x0 : Int) (x1 : Int) (v2 : Value) (x2 : (List Int)) (k2 : ((TR.ptr (TR.sl TR.int))).vrep S v2 x2) (res : Int) (hm : units_Sell_1_m x0 x1 x2 = some res) : Calls Try.prog 62 #[.int .i64 x0, .int .i64 x1, v2] w (PostV w (.int .i64 res)) := by
 refine calls_enter 15 Try.func62 Try.ntmps62 rfl S false [(0, .int .i64 x0), (1, .int .i64 x1), (2, v2)] [imm (TR.ptr (TR.sl TR.int)) v2 x2] rfl ⟨rfl, ⟨rfl, ⟨rfl, trivial⟩⟩⟩ hS ⟨k2, trivial⟩ ?_
 unfold units_Sell_1_m at hm
 refine GL.seq ?_
 refine GL.region ?_
 refine RL.asg rfl rfl rfl ?_
 refine RL.finG ?_
 refine GL.seq ?_
 refine GL.regionQ rfl rfl (by kernel_rfl) ?_
 refine RL.ldP (off := 0) (r := (TR.sl TR.int)) (e' := x2) 0 Try_ln41 rfl rfl (Or.inr ⟨rfl, rfl⟩) rfl PtOf.imm Part.self ?_
 intro v10
 refine RL.mv rfl rfl rfl ?_
 obtain ⟨y11, e12, hm⟩ := bind_some hm
 refine RL.idxS (sz := 1) 1 Try.underlying41 Try_ln3 rfl rfl rfl rfl rfl SlOf.imm (idx_some e12).1 (idx_some e12).2.1 ?_
 refine RL.ldSx (i := (x1).toNat) (e' := y11) 1 Ex.ik Try_ln3 rfl rfl rfl rfl SlOf.imm (idx_some e12).2.2 Part.self ?_
 refine RL.ldP (off := 0) (r := (TR.sl TR.int)) (e' := x2) 0 Try_ln41 rfl rfl (Or.inr ⟨rfl, rfl⟩) rfl PtOf.imm Part.self ?_
 intro v13
 refine RL.reL (L' := [imm (TR.ptr (TR.sl TR.int)) v2 x2, imm (TR.sl TR.int) v10 x2, imm (TR.sl TR.int) v13 x2]) rfl ?_
 refine RL.mv rfl rfl rfl ?_
 obtain ⟨y14, e15, hm⟩ := bind_some hm
 refine RL.idxS (sz := 1) 2 Try.underlying41 Try_ln3 rfl rfl rfl rfl rfl SlOf.imm (idx_some e15).1 (idx_some e15).2.1 ?_
 refine RL.ldSx (i := (x0).toNat) (e' := y14) 2 Ex.ik Try_ln3 rfl rfl rfl rfl SlOf.imm (idx_some e15).2.2 Part.self ?_
 refine RL.binI (v := .int .i64 (wsub y11 y14)) rfl rfl rfl rfl rfl ?_
 refine RL.asg rfl rfl rfl ?_
 refine RL.finQG ?_
 have hm := Option.some.inj hm
 subst hm
 exact GL.ret (Gx.ret (v := .int .i64 (wsub y11 y14)) (res1 rfl rfl) (fun a w st => st.toPostV))

set_option maxHeartbeats 4000000 in
theorem units_Sell_c (S : Hp) (w : World) (hS : S.sub w) (v0 : Value) (x0 : (List Int)) (k0 : ((TR.sl TR.int)).vrep S v0 x0) (x1 : Int) (res : (List Int) × Int × Int) (hm : units_Sell_m x0 x1 = some res) : Calls Try.prog 35 #[v0, .int .i64 x1] w (Post w S (fun (o : Value) => .tuple #[o, .int .i64 res.2.1, .int .i64 res.2.2]) (fun (o : Value) => [own 3 TR.int o res.1])) := by
 refine calls_enter 56 Try.func35 Try.ntmps35 rfl S false [(0, v0), (1, .int .i64 x1)] [imm (TR.sl TR.int) v0 x0] rfl ⟨rfl, ⟨rfl, trivial⟩⟩ hS ⟨k0, trivial⟩ ?_
 unfold units_Sell_m at hm
 refine GL.seq ?_
 refine GL.region ?_
 refine RL.box (t := (TR.sl TR.int)) (e := x0) rfl rfl rfl rfl (VR.item 0 rfl) ?_
 intro v4
 refine RL.asg rfl rfl rfl ?_
 refine RL.asg rfl rfl rfl ?_
 refine RL.asg rfl rfl rfl ?_
 refine RL.finG ?_
 refine GL.seq ?_
 refine GL.seq ?_
 refine GL.region ?_
 refine RL.ldP (off := 0) (r := (TR.sl TR.int)) (e' := x0) 1 Try_ln41 rfl rfl (Or.inr ⟨rfl, rfl⟩) rfl PtOf.obox Part.self ?_
 intro v8
 refine RL.reL (L' := [imm (TR.sl TR.int) v0 x0, obox 41 (TR.sl TR.int) v4 x0, imm (TR.sl TR.int) v8 x0]) rfl ?_
 obtain ⟨y9, e10, hm⟩ := bind_some hm
 refine RL.callC (v := .int .i64 y9) (vs := [v8, .int .i64 (0 : Int)]) Try_fit60 rfl rfl rfl rfl (fun U w hU hW hL => auction_Check_c U w hU _ _ (hL 2 _ _ rfl Seen.imm) (0 : Int) _ e10) ?_
 refine RL.asg rfl rfl rfl ?_
 refine RL.finG ?_
 refine GL.seq ?_
 refine GL.region ?_
 refine RL.mv rfl rfl rfl ?_
 refine RL.binI (v := .bool (y9 != (0 : Int))) rfl rfl rfl rfl rfl ?_
 refine RL.finG ?_
 refine GL.cond rfl (fun b11 => ?_) (fun b11 => ?_)
 ·replace hm := ite_t b11 hm
  refine GL.seq ?_
  refine GL.region ?_
  refine RL.mv rfl rfl rfl ?_
  refine RL.asg rfl rfl rfl ?_
  refine RL.asg rfl rfl rfl ?_
  refine RL.asg rfl rfl rfl ?_
  refine RL.finG ?_
  refine GL.weak (fun a w st => st.nilOwn 3 TR.int) ?_
  have hm := Option.some.inj hm
  subst hm
  exact GL.ret (Gx.ret (v := .tuple #[Value.slice none 0 0, .int .i64 (0 : Int), .int .i64 y9]) (res3 rfl rfl rfl rfl) (fun a w st => (st.pick [3] (by decide) rfl).toPost (Value.slice none 0 0)))
 replace hm := ite_f b11 hm
 refine GL.skip ?_
 refine GL.seq ?_
 refine GL.seq ?_
 obtain ⟨y15, K16, h17, h18, h19, h20, h21⟩ := bindR_K hm
 refine GL.join (ι := Bool) (fun (p : Bool) => [(1, .int .i64 x1), (2, v4), (21, .bool p)]) (fun (p : Bool) => [obox 41 (TR.sl TR.int) v4 x0]) (fun (p : Bool) => K16 (.nx p)) ?_ ?_
 ·skip
  refine GL.region ?_
  refine RL.mv rfl rfl rfl ?_
  refine RL.binI (v := .bool (decide (x1 < (0 : Int)))) rfl rfl rfl rfl rfl ?_
  refine RL.mv rfl rfl rfl ?_
  refine RL.split (t := 18) rfl (fun b22 => ?_) (fun b22 => ?_)
  ·replace h17 := ite_t b22 h17
   refine RL.skip rfl rfl ?_
   refine RL.skip rfl rfl ?_
   refine RL.pickT rfl rfl rfl rfl ?_
   refine RL.fin ?_
   cases h17
   exact fun a w st => mid_intro true h18 (St.cut [1] ⟨rfl, rfl, rfl, trivial⟩ (by decide) rfl st)
  replace h17 := ite_f b22 h17
  refine RL.mv rfl rfl rfl ?_
  refine RL.binI (v := .bool (decide (x1 > (10 : Int)))) rfl rfl rfl rfl rfl ?_
  refine RL.pickF rfl rfl rfl rfl ?_
  refine RL.fin ?_
  cases h17
  exact fun a w st => mid_intro (decide (x1 > (10 : Int))) h18 (St.cut [1] ⟨rfl, rfl, rfl, trivial⟩ (by decide) rfl st)
 rintro x14 h23
 have h24 := h19 _ h23
 try dsimp only at h24
 refine GL.weak (env' := [(1, .int .i64 x1), (2, v4), (21, .bool x14)]) (L' := [obox 41 (TR.sl TR.int) v4 x0]) (fun _ _ st => st) ?_
 refine GL.cond rfl (fun b25 => ?_) (fun b25 => ?_)
 ·replace h24 := ite_t b25 h24
  refine GL.seq ?_
  refine GL.region ?_
  refine RL.asg rfl rfl rfl ?_
  refine RL.asg rfl rfl rfl ?_
  refine RL.asg rfl rfl rfl ?_
  refine RL.finG ?_
  refine GL.weak (fun a w st => st.nilOwn 3 TR.int) ?_
  have h24 := Option.some.inj h24
  subst h24
  exact GL.ret (Gx.ret (v := .tuple #[Value.slice none 0 0, .int .i64 (0 : Int), .int .i64 (1 : Int)]) (res3 rfl rfl rfl rfl) (fun a w st => (st.pick [1] (by decide) rfl).toPost (Value.slice none 0 0)))
 replace h24 := ite_f b25 h24
 refine GL.skip ?_
 refine GL.seq ?_
 refine GL.region ?_
 refine RL.ldP (off := 0) (r := (TR.sl TR.int)) (e' := x0) 0 Try_ln41 rfl rfl (Or.inr ⟨rfl, rfl⟩) rfl PtOf.obox Part.self ?_
 intro v30
 refine RL.lenS 1 Try.underlying41 rfl rfl rfl rfl SlOf.imm ?_
 obtain ⟨y31, e32, h24⟩ := bind_some h24
 replace e32 := chk_some e32
 refine RL.mkS (t := TR.int) (z := (0 : Int)) Try.underlying41 Try_lo3 (fun S => rfl) rfl rfl rfl rfl e32.1 e32.2 ?_
 intro v33
 refine RL.reL (L' := [obox 41 (TR.sl TR.int) v4 x0, imm (TR.sl TR.int) v30 x0, own 3 TR.int v33 (List.replicate (((x0).length : Int)).toNat (0 : Int))]) rfl ?_
 refine RL.asg rfl rfl rfl ?_
 refine RL.finG ?_
 refine GL.seq ?_
 refine GL.seq ?_
 refine GL.region ?_
 refine RL.mv rfl rfl rfl ?_
 refine RL.lenS 2 Try.underlying41 rfl rfl rfl rfl SlOf.own ?_
 refine RL.mv rfl rfl rfl ?_
 refine RL.finG ?_
 refine GL.lenOwn 2 rfl (fun n43 => ?_)
 obtain ⟨y44, K45, h46, h47, h48, h49, h50⟩ := bindR_K h24
 refine GL.join (ι := (List Int)) (fun (p : (List Int)) => [(1, .int .i64 x1), (2, v4), (8, v33)]) (fun (p : (List Int)) => [obox 41 (TR.sl TR.int) v4 x0, own 3 TR.int v33 p]) (fun (p : (List Int)) => K45 (.nx p)) ?_ ?_
 ·refine GL.block ?_
  refine GL.loop (ι := Nat × Nat × (List Int)) (fun (p : Nat × Nat × (List Int)) => [(1, .int .i64 x1), (2, v4), (8, v33), (26, .int .i64 (((List.replicate (((x0).length : Int)).toNat (0 : Int))).length : Int)), (27, .int .i64 (p.1 : Int))]) (fun (p : Nat × Nat × (List Int)) => [obox 41 (TR.sl TR.int) v4 x0, own 3 TR.int v33 p.2.2]) (fun (p : Nat × Nat × (List Int)) => p.1 + p.2.1 = ((List.replicate (((x0).length : Int)).toNat (0 : Int))).length ∧ rangeN units_Sell_b1 p.2.1 p.1 p.2.2 = some y44) (fun (p : Nat × Nat × (List Int)) => p.2.1) (0, ((List.replicate (((x0).length : Int)).toNat (0 : Int))).length, (List.replicate (((x0).length : Int)).toNat (0 : Int))) ⟨by simp, h46⟩ (fun a w st => St.cut [0, 2] ⟨rfl, rfl, rfl, rfl, rfl, trivial⟩ (by decide) rfl st) ?_
  rintro ⟨i51, r52, l38⟩ ⟨h57, h56⟩
  try dsimp only at h57 h56
  refine GL.weak (env' := [(1, .int .i64 x1), (2, v4), (8, v33), (26, .int .i64 (((List.replicate (((x0).length : Int)).toNat (0 : Int))).length : Int)), (27, .int .i64 (i51 : Int))]) (L' := [obox 41 (TR.sl TR.int) v4 x0, own 3 TR.int v33 l38]) (fun _ _ st => st) ?_
  refine GL.seq ?_
  refine GL.region ?_
  refine RL.binI (v := .bool (decide ((i51 : Int) < (((List.replicate (((x0).length : Int)).toNat (0 : Int))).length : Int)))) rfl rfl rfl rfl rfl ?_
  refine RL.finG ?_
  refine GL.seq ?_
  refine GL.cond rfl (fun b59 => ?_) (fun b59 => ?_)
  ·have h60 : i51 < ((List.replicate (((x0).length : Int)).toNat (0 : Int))).length := by have := of_decide_eq_true b59; omega
   obtain ⟨r61, hr⟩ : ∃ m, r52 = m + 1 := ⟨r52 - 1, by omega⟩
   subst hr
   obtain ⟨z53, h54, h55⟩ := rangeN_some h56
   unfold units_Sell_b1 at h54
   try dsimp only at h54
   refine GL.skip ?_
   refine GL.seq ?_
   refine GL.block ?_
   refine GL.seq ?_
   refine GL.region ?_
   refine RL.mv rfl rfl rfl ?_
   refine RL.asg rfl rfl rfl ?_
   refine RL.finG ?_
   refine GL.region ?_
   refine RL.mv rfl rfl rfl ?_
   refine RL.mv rfl rfl rfl ?_
   refine RL.mv rfl rfl rfl ?_
   obtain ⟨y64, e65, h54⟩ := bind_some h54
   refine RL.idxS (sz := 1) 1 Try.underlying41 Try_ln3 rfl rfl rfl rfl rfl SlOf.own (idx_some e65).1 (idx_some e65).2.1 ?_
   refine RL.stS (i := i51) (e' := (i51 : Int)) (e1 := (i51 : Int)) (r := TR.int) 1 Try_ln3 rfl rfl rfl rfl VR.int rfl (idx_some e65).2.2 Upd.self ?_
   refine RL.finG ?_
   refine GL.nilB ?_
   refine GL.region ?_
   refine RL.binI (v := .int .i64 ((i51 + 1 : Nat) : Int)) rfl rfl rfl rfl (binI_succ i51 (by omega)) ?_
   refine RL.mv rfl rfl rfl ?_
   refine RL.fin ?_
   cases h54
   exact fun a w st => lop_intro (i51 + 1, r61, (List.set l38 i51 (i51 : Int))) ⟨by show i51 + 1 + r61 = ((List.replicate (((x0).length : Int)).toNat (0 : Int))).length; omega, h55⟩ (by simp) (St.cut [0, 1] ⟨rfl, rfl, rfl, rfl, rfl, trivial⟩ (by decide) rfl st)
  have h60 : ¬ i51 < ((List.replicate (((x0).length : Int)).toNat (0 : Int))).length := by have := of_decide_eq_false b59; omega
  obtain rfl : r52 = 0 := by omega
  replace h56 : some (Fl.nx _) = some y44 := h56
  cases h56
  exact GL.exit (fun a w st => mid_intro l38 h47 (St.cut [0, 1] ⟨rfl, rfl, rfl, trivial⟩ (by decide) rfl st))
 rintro l38 h66
 have h67 := h48 _ h66
 try dsimp only at h67
 refine GL.weak (env' := [(1, .int .i64 x1), (2, v4), (8, v33)]) (L' := [obox 41 (TR.sl TR.int) v4 x0, own 3 TR.int v33 l38]) (fun _ _ st => st) ?_
 refine GL.seq ?_
 refine GL.region ?_
 refine RL.mv rfl rfl rfl ?_
 refine RL.mkF (vs := [v4]) rfl rfl rfl ?_
 refine RL.weak (fun a w st => st.freezeB 0 rfl) ?_
 obtain ⟨y70, e71, h67⟩ := bind_some h67
 refine RL.callK (vs := [v33, .func (.func 62) #[] #[v4]]) (V := fun (o : Unit) => .tuple #[]) (LR := fun (o : Unit) => [own 3 TR.int v33 y70]) (Ls := [own 3 TR.int v33 l38]) [1] (by decide) Try_fit61 rfl rfl rfl rfl rfl rfl (fun S f X w hO hB hW hI hL => slices_SortStableFunc_int_int_c _ S X f w _ _ hO hB hI 62 #[v4] Try_fit62 (fun a0 a1 => units_Sell_1_m a0 a1 x0) (fun U' w' hle hU' a0 a1 rr hr => (units_Sell_1_c U' w' hU' a0 a1 _ _ (TR.vrep_mono hle (hL 0 _ _ rfl Sure.imm)) rr hr).mono (fun _ _ z => z)) _ e71) ?_
 intro _
 refine RL.reL (L' := [imm (TR.ptr (TR.sl TR.int)) v4 x0, gone, own 3 TR.int v33 y70]) rfl ?_
 refine RL.finG ?_
 refine GL.seq ?_
 refine GL.region ?_
 refine RL.asg rfl rfl rfl ?_
 refine RL.finG ?_
 refine GL.seq ?_
 refine GL.seq ?_
 refine GL.region ?_
 refine RL.mv rfl rfl rfl ?_
 refine RL.mv rfl rfl rfl ?_
 refine RL.lenS 2 Try.underlying41 rfl rfl rfl rfl SlOf.own ?_
 refine RL.binI (v := .bool (decide (x1 < ((y70).length : Int)))) rfl rfl rfl rfl rfl ?_
 refine RL.finG ?_
 obtain ⟨y90, K91, h92, h93, h94, h95, h96⟩ := bindR_K h67
 refine GL.join (ι := (List Int) × Int × Value) (fun (p : (List Int) × Int × Value) => [(8, p.2.2), (10, .int .i64 p.2.1)]) (fun (p : (List Int) × Int × Value) => [own 3 TR.int p.2.2 p.1]) (fun (p : (List Int) × Int × Value) => K91 (.nx (p.1, p.2.1))) ?_ ?_
 ·skip
  refine GL.cond rfl (fun b97 => ?_) (fun b97 => ?_)
  ·replace h92 := ite_t b97 h92
   refine GL.seq ?_
   refine GL.regionQ rfl rfl (by kernel_rfl) ?_
   refine RL.ldP (off := 0) (r := (TR.sl TR.int)) (e' := x0) 0 Try_ln41 rfl rfl (Or.inr ⟨rfl, rfl⟩) rfl PtOf.imm Part.self ?_
   intro v103
   refine RL.mv rfl rfl rfl ?_
   refine RL.mv rfl rfl rfl ?_
   obtain ⟨y104, e105, h92⟩ := bind_some h92
   refine RL.idxS (sz := 1) 2 Try.underlying41 Try_ln3 rfl rfl rfl rfl rfl SlOf.own (idx_some e105).1 (idx_some e105).2.1 ?_
   refine RL.ldSx (i := (x1).toNat) (e' := y104) 2 Ex.ik Try_ln3 rfl rfl rfl rfl SlOf.own (idx_some e105).2.2 Part.self ?_
   obtain ⟨y106, e107, h92⟩ := bind_some h92
   refine RL.idxS (sz := 1) 3 Try.underlying41 Try_ln3 rfl rfl rfl rfl rfl SlOf.imm (idx_some e107).1 (idx_some e107).2.1 ?_
   refine RL.ldSx (i := (y104).toNat) (e' := y106) 3 Ex.ik Try_ln3 rfl rfl rfl rfl SlOf.imm (idx_some e107).2.2 Part.self ?_
   refine RL.asg rfl rfl rfl ?_
   refine RL.finQG ?_
   refine GL.region ?_
   refine RL.mv rfl rfl rfl ?_
   refine RL.mv rfl rfl rfl ?_
   obtain ⟨y110, e111, h92⟩ := bind_some h92
   replace e111 := chk_some e111
   refine RL.cutF (t := TR.int) (i := (x1).toNat) (kd := .i64) 2 Try.underlying41 Try_ln3 rfl rfl rfl (by rw [Int.toNat_of_nonneg (by omega)]; rfl) rfl (by omega) ?_
   refine RL.reL (L' := [imm (TR.ptr (TR.sl TR.int)) v4 x0, gone, own 3 TR.int (relen v33 ((x1).toNat)) (List.take ((x1).toNat) y70), imm (TR.sl TR.int) v103 x0]) rfl ?_
   refine RL.asg rfl rfl rfl ?_
   refine RL.finG ?_
   cases h92
   exact fun a w st => mid_intro ((List.take ((x1).toNat) y70), y106, relen v33 ((x1).toNat)) h93 (St.cut [2] ⟨rfl, rfl, trivial⟩ (by decide) rfl st)
  replace h92 := ite_f b97 h92
  refine GL.skip ?_
  cases h92
  exact fun a w st => mid_intro (y70, (0 : Int), v33) h93 (St.cut [2] ⟨rfl, rfl, trivial⟩ (by decide) rfl st)
 rintro ⟨l87, x89, v88⟩ h112
 have h113 := h94 _ h112
 try dsimp only at h113
 refine GL.weak (env' := [(8, v88), (10, .int .i64 x89)]) (L' := [own 3 TR.int v88 l87]) (fun _ _ st => st) ?_
 refine GL.seq ?_
 refine GL.region ?_
 refine RL.mv rfl rfl rfl ?_
 obtain ⟨y116, e117, h113⟩ := bind_some h113
 refine RL.callK (vs := [v88]) (V := fun (o : Unit) => .tuple #[]) (LR := fun (o : Unit) => [own 3 TR.int v88 y116]) (Ls := [own 3 TR.int v88 l87]) [0] (by decide) Try_fit63 rfl rfl rfl rfl rfl rfl (fun S f X w hO hB hW hI hL => slices_Sort_int_int_c _ S X f w _ _ hO hB hI  _ e117) ?_
 intro _
 refine RL.reL (L' := [gone, own 3 TR.int v88 y116]) rfl ?_
 refine RL.finG ?_
 refine GL.seq ?_
 refine GL.region ?_
 refine RL.mv rfl rfl rfl ?_
 refine RL.mv rfl rfl rfl ?_
 refine RL.asg rfl rfl rfl ?_
 refine RL.asg rfl rfl rfl ?_
 refine RL.asg rfl rfl rfl ?_
 refine RL.finG ?_
 have h113 := Option.some.inj h113
 subst h113
 exact GL.ret (Gx.ret (v := .tuple #[v88, .int .i64 x89, .int .i64 (0 : Int)]) (res3 rfl rfl rfl rfl) (fun a w st => (st.pick [1] (by decide) rfl).toPost v88))

set_option maxHeartbeats 4000000 in
theorem slices_IndexFunc_api_Errno_api_Errno_c (S : Hp) (w : World) (hS : S.sub w) (v0 : Value) (x0 : (List Int)) (k0 : ((TR.sl TR.int)).vrep S v0 x0) (f1 : FuncId) (c1 : Array Value) (t1 : Fit Try.prog f1) (g1 : Int → Option Bool) (k1 : ∀ (U : Hp) (w' : World), Hp.le S U → U.sub w' → ∀ (a0 : Int) (rr : Bool), g1 a0 = some rr → Calls Try.prog f1 (#[.int .i64 a0] ++ c1) w' (PostV w' (.bool rr))) (res : Int) (hm : slices_IndexFunc_api_Errno_api_Errno_m x0 g1 = some res) : Calls Try.prog 79 #[v0, .func (.func f1) #[] c1] w (PostV w (.int .i64 res)) := by
 refine calls_enter 19 Try.func79 Try.ntmps79 rfl S false [(0, v0), (1, .func (.func f1) #[] c1)] [imm (TR.sl TR.int) v0 x0] rfl ⟨rfl, ⟨rfl, trivial⟩⟩ hS ⟨k0, trivial⟩ ?_
 unfold slices_IndexFunc_api_Errno_api_Errno_m at hm
 refine GL.seq ?_
 refine GL.region ?_
 refine RL.asg rfl rfl rfl ?_
 refine RL.finG ?_
 refine GL.seq ?_
 refine GL.seq ?_
 refine GL.region ?_
 refine RL.mv rfl rfl rfl ?_
 refine RL.lenS 0 Try.underlying89 rfl rfl rfl rfl SlOf.imm ?_
 refine RL.mv rfl rfl rfl ?_
 refine RL.finG ?_
 refine GL.open_ 0 rfl (fun S h => len_imm S h) (fun n12 => ?_)
 obtain ⟨y13, K14, h15, h16, h17, h18, h19⟩ := bindR_K hm
 refine GL.join (ι := Unit) (fun (p : Unit) => []) (fun (p : Unit) => []) (fun (p : Unit) => K14 (.nx ())) ?_ ?_
 ·refine GL.block ?_
  refine GL.loop (ι := Nat × (List Int)) (fun (p : Nat × (List Int)) => [(0, v0), (1, .func (.func f1) #[] c1), (7, .int .i64 ((x0).length : Int)), (8, .int .i64 (p.1 : Int))]) (fun (p : Nat × (List Int)) => [imm (TR.sl TR.int) v0 x0]) (fun (p : Nat × (List Int)) => p.1 + p.2.length = (x0).length ∧ List.drop p.1 x0 = p.2 ∧ rangeL (slices_IndexFunc_api_Errno_api_Errno_b1 g1) p.2 p.1 () = some y13) (fun (p : Nat × (List Int)) => p.2.length) (0, x0) ⟨by simp, by simp, h15⟩ (fun a w st => St.cut [0] ⟨rfl, rfl, rfl, rfl, trivial⟩ (by decide) rfl st) ?_
  rintro ⟨i20, r21⟩ ⟨h26, h27, h25⟩
  try dsimp only at h26 h27 h25
  refine GL.weak (env' := [(0, v0), (1, .func (.func f1) #[] c1), (7, .int .i64 ((x0).length : Int)), (8, .int .i64 (i20 : Int))]) (L' := [imm (TR.sl TR.int) v0 x0]) (fun _ _ st => st) ?_
  refine GL.seq ?_
  refine GL.region ?_
  refine RL.binI (v := .bool (decide ((i20 : Int) < ((x0).length : Int)))) rfl rfl rfl rfl rfl ?_
  refine RL.finG ?_
  refine GL.seq ?_
  refine GL.cond rfl (fun b28 => ?_) (fun b28 => ?_)
  ·have h29 : i20 < (x0).length := by have := of_decide_eq_true b28; omega
   obtain ⟨y30, r32, hr, e31, h33⟩ := drop_cons h27 rfl h29
   subst hr
   obtain ⟨z22, h23, h24⟩ := rangeL_some h25
   unfold slices_IndexFunc_api_Errno_api_Errno_b1 at h23
   try dsimp only at h23
   refine GL.skip ?_
   refine GL.seq ?_
   refine GL.block ?_
   refine GL.seq ?_
   refine GL.region ?_
   refine RL.mv rfl rfl rfl ?_
   refine RL.asg rfl rfl rfl ?_
   refine RL.finG ?_
   refine GL.seq ?_
   refine GL.region ?_
   refine RL.mv rfl rfl rfl ?_
   refine RL.mv rfl rfl rfl ?_
   refine RL.mv rfl rfl rfl ?_
   refine RL.idxS (sz := 1) 0 Try.underlying89 Try_ln26 rfl rfl rfl rfl rfl SlOf.imm (by omega) (by omega) ?_
   refine RL.ldSx (i := i20) (e' := y30) 0 Ex.ik Try_ln26 rfl rfl rfl rfl SlOf.imm e31 Part.self ?_
   obtain ⟨y36, e37, h23⟩ := bind_some h23
   refine RL.callV (v := .bool y36) (vs := [.int .i64 y30]) t1 rfl (Or.inl rfl) rfl rfl rfl rfl (fun U w hU hW hL => k1 U w hW hU y30 _ e37) ?_
   refine RL.finG ?_
   refine GL.cond rfl (fun b38 => ?_) (fun b38 => ?_)
   ·replace h23 := ite_t b38 h23
    refine GL.seq ?_
    refine GL.region ?_
    refine RL.mv rfl rfl rfl ?_
    refine RL.asg rfl rfl rfl ?_
    refine RL.finG ?_
    cases h23
    replace h24 : some (Fl.rt _) = some y13 := h24
    cases h24
    have hh := h18 _ h16
    subst hh
    exact GL.ret (Gx.ret (v := .int .i64 (i20 : Int)) (res1 rfl rfl) (fun a w st => st.toPostV))
   replace h23 := ite_f b38 h23
   refine GL.skip ?_
   refine GL.nilB ?_
   refine GL.region ?_
   refine RL.binI (v := .int .i64 ((i20 + 1 : Nat) : Int)) rfl rfl rfl rfl (binI_succ i20 (by omega)) ?_
   refine RL.mv rfl rfl rfl ?_
   refine RL.fin ?_
   cases h23
   exact fun a w st => lop_intro (i20 + 1, r32) ⟨by show i20 + 1 + r32.length = (x0).length; simp only [List.length_cons] at h26; omega, h33, h24⟩ (by simp) (St.cut [0] ⟨rfl, rfl, rfl, rfl, trivial⟩ (by decide) rfl st)
  have h29 : ¬ i20 < (x0).length := by have := of_decide_eq_false b28; omega
  obtain rfl : r21 = [] := by rw [← h27]; exact List.drop_of_length_le (by omega)
  replace h25 : some (Fl.nx _) = some y13 := h25
  cases h25
  exact GL.exit (fun a w st => mid_intro () h16 (St.cut [] trivial (by decide) rfl st))
 rintro ⟨⟩ h39
 have h40 := h17 _ h39
 try dsimp only at h40
 refine GL.weak (env' := []) (L' := []) (fun _ _ st => st) ?_
 refine GL.seq ?_
 refine GL.region ?_
 refine RL.asg rfl rfl rfl ?_
 refine RL.finG ?_
 have h40 := Option.some.inj h40
 subst h40
 exact GL.ret (Gx.ret (v := .int .i64 (-1 : Int)) (res1 rfl rfl) (fun a w st => st.toPostV))

set_option maxHeartbeats 4000000 in
theorem slices_ContainsFunc_api_Errno_api_Errno_c (S : Hp) (w : World) (hS : S.sub w) (v0 : Value) (x0 : (List Int)) (k0 : ((TR.sl TR.int)).vrep S v0 x0) (f1 : FuncId) (c1 : Array Value) (t1 : Fit Try.prog f1) (g1 : Int → Option Bool) (k1 : ∀ (U : Hp) (w' : World), Hp.le S U → U.sub w' → ∀ (a0 : Int) (rr : Bool), g1 a0 = some rr → Calls Try.prog f1 (#[.int .i64 a0] ++ c1) w' (PostV w' (.bool rr))) (res : Bool) (hm : slices_ContainsFunc_api_Errno_api_Errno_m x0 g1 = some res) : Calls Try.prog 68 #[v0, .func (.func f1) #[] c1] w (PostV w (.bool res)) := by
 refine calls_enter 9 Try.func68 Try.ntmps68 rfl S false [(0, v0), (1, .func (.func f1) #[] c1)] [imm (TR.sl TR.int) v0 x0] rfl ⟨rfl, ⟨rfl, trivial⟩⟩ hS ⟨k0, trivial⟩ ?_
 unfold slices_ContainsFunc_api_Errno_api_Errno_m at hm
 refine GL.seq ?_
 refine GL.region ?_
 refine RL.asg rfl rfl rfl ?_
 refine RL.finG ?_
 refine GL.seq ?_
 refine GL.region ?_
 refine RL.mv rfl rfl rfl ?_
 refine RL.mv rfl rfl rfl ?_
 obtain ⟨y5, e6, hm⟩ := bind_some hm
 refine RL.callV (v := .int .i64 y5) (vs := [v0, .func (.func f1) #[] c1]) Try_fit79 rfl (Or.inl rfl) rfl rfl rfl rfl (fun U w hU hW hL => slices_IndexFunc_api_Errno_api_Errno_c U w hU _ _ (hL 0 _ _ rfl Seen.imm) f1 c1 t1 g1 (fun U' w' hle => k1 U' w' (Hp.le_trans hW hle)) _ e6) ?_
 refine RL.binI (v := .bool (decide (y5 ≥ (0 : Int)))) rfl rfl rfl rfl rfl ?_
 refine RL.asg rfl rfl rfl ?_
 refine RL.finG ?_
 have hm := Option.some.inj hm
 subst hm
 exact GL.ret (Gx.ret (v := .bool (decide (y5 ≥ (0 : Int)))) (res1 rfl rfl) (fun a w st => st.toPostV))

set_option maxHeartbeats 4000000 in
theorem pk_good_1_c (S : Hp) (w : World) (hS : S.sub w) (x0 : Int) (res : Bool) (hm : pk_good_1_m x0 = some res) : Calls Try.prog 69 #[.int .i64 x0] w (PostC w (.bool res)) := by
 refine calls_enter 5 Try.func69 Try.ntmps69 rfl S true [(0, .int .i64 x0)] [] rfl ⟨rfl, trivial⟩ hS trivial ?_
 unfold pk_good_1_m at hm
 refine GL.seq ?_
 refine GL.region ?_
 refine RL.asg rfl rfl rfl ?_
 refine RL.finG ?_
 refine GL.seq ?_
 refine GL.region ?_
 refine RL.mv rfl rfl rfl ?_
 refine RL.binI (v := .bool (x0 != (0 : Int))) rfl rfl rfl rfl rfl ?_
 refine RL.asg rfl rfl rfl ?_
 refine RL.finG ?_
 have hm := Option.some.inj hm
 subst hm
 exact GL.ret (Gx.ret (v := .bool (x0 != (0 : Int))) (res1 rfl rfl) (fun a w st => st.toPostC rfl))

set_option maxHeartbeats 4000000 in
theorem pk_good_c (S : Hp) (w : World) (hS : S.sub w) (v0 : Value) (x0 : (List Int)) (k0 : ((TR.sl TR.int)).vrep S v0 x0) (res : Bool) (hm : pk_good_m x0 = some res) : Calls Try.prog 44 #[v0] w (PostV w (.bool res)) := by
 refine calls_enter 6 Try.func44 Try.ntmps44 rfl S false [(0, v0)] [imm (TR.sl TR.int) v0 x0] rfl ⟨rfl, trivial⟩ hS ⟨k0, trivial⟩ ?_
 unfold pk_good_m at hm
 refine GL.seq ?_
 refine GL.region ?_
 refine RL.asg rfl rfl rfl ?_
 refine RL.finG ?_
 refine GL.seq ?_
 refine GL.region ?_
 refine RL.mv rfl rfl rfl ?_
 obtain ⟨y4, e5, hm⟩ := bind_some hm
 refine RL.callV (v := .bool y4) (vs := [v0, .func (.func 69) #[] #[]]) Try_fit68 rfl (Or.inl rfl) rfl rfl rfl rfl (fun U w hU hW hL => slices_ContainsFunc_api_Errno_api_Errno_c U w hU _ _ (hL 0 _ _ rfl Seen.imm) 69 #[] Try_fit69 (fun a0 => pk_good_1_m a0) (fun U' w' hle hU' a0 rr hr => (pk_good_1_c U' w' hU' a0 rr hr).mono (fun _ _ z => z.toV)) _ e5) ?_
 refine RL.notB rfl rfl rfl ?_
 refine RL.asg rfl rfl rfl ?_
 refine RL.finG ?_
 have hm := Option.some.inj hm
 subst hm
 exact GL.ret (Gx.ret (v := .bool (!y4)) (res1 rfl rfl) (fun a w st => st.toPostV))

set_option maxHeartbeats 4000000 in
theorem slices_Equal_int_int_c (S : Hp) (w : World) (hS : S.sub w) (v0 : Value) (x0 : (List Int)) (k0 : ((TR.sl TR.int)).vrep S v0 x0) (v1 : Value) (x1 : (List Int)) (k1 : ((TR.sl TR.int)).vrep S v1 x1) (res : Bool) (hm : slices_Equal_int_int_m x0 x1 = some res) : Calls Try.prog 45 #[v0, v1] w (PostV w (.bool res)) := by
 refine calls_enter 26 Try.func45 Try.ntmps45 rfl S false [(0, v0), (1, v1)] [imm (TR.sl TR.int) v0 x0, imm (TR.sl TR.int) v1 x1] rfl ⟨rfl, ⟨rfl, trivial⟩⟩ hS ⟨k0, ⟨k1, trivial⟩⟩ ?_
 unfold slices_Equal_int_int_m at hm
 refine GL.seq ?_
 refine GL.region ?_
 refine RL.asg rfl rfl rfl ?_
 refine RL.finG ?_
 refine GL.seq ?_
 refine GL.seq ?_
 refine GL.region ?_
 refine RL.mv rfl rfl rfl ?_
 refine RL.lenS 0 Try.underlying41 rfl rfl rfl rfl SlOf.imm ?_
 refine RL.mv rfl rfl rfl ?_
 refine RL.lenS 1 Try.underlying41 rfl rfl rfl rfl SlOf.imm ?_
 refine RL.binI (v := .bool (((x0).length : Int) != ((x1).length : Int))) rfl rfl rfl rfl rfl ?_
 refine RL.finG ?_
 refine GL.cond rfl (fun b3 => ?_) (fun b3 => ?_)
 ·replace hm := ite_t b3 hm
  refine GL.seq ?_
  refine GL.region ?_
  refine RL.asg rfl rfl rfl ?_
  refine RL.finG ?_
  have hm := Option.some.inj hm
  subst hm
  exact GL.ret (Gx.ret (v := .bool false) (res1 rfl rfl) (fun a w st => st.toPostV))
 replace hm := ite_f b3 hm
 refine GL.skip ?_
 refine GL.seq ?_
 refine GL.seq ?_
 refine GL.region ?_
 refine RL.mv rfl rfl rfl ?_
 refine RL.lenS 0 Try.underlying41 rfl rfl rfl rfl SlOf.imm ?_
 refine RL.mv rfl rfl rfl ?_
 refine RL.finG ?_
 refine GL.open_ 0 rfl (fun S h => len_imm S h) (fun n13 => ?_)
 obtain ⟨y14, K15, h16, h17, h18, h19, h20⟩ := bindR_K hm
 refine GL.join (ι := Unit) (fun (p : Unit) => []) (fun (p : Unit) => []) (fun (p : Unit) => K15 (.nx ())) ?_ ?_
 ·refine GL.block ?_
  refine GL.loop (ι := Nat × (List Int)) (fun (p : Nat × (List Int)) => [(0, v0), (1, v1), (12, .int .i64 ((x0).length : Int)), (13, .int .i64 (p.1 : Int))]) (fun (p : Nat × (List Int)) => [imm (TR.sl TR.int) v0 x0, imm (TR.sl TR.int) v1 x1]) (fun (p : Nat × (List Int)) => p.1 + p.2.length = (x0).length ∧ List.drop p.1 x0 = p.2 ∧ rangeL (slices_Equal_int_int_b1 x1) p.2 p.1 () = some y14) (fun (p : Nat × (List Int)) => p.2.length) (0, x0) ⟨by simp, by simp, h16⟩ (fun a w st => St.cut [0, 1] ⟨rfl, rfl, rfl, rfl, trivial⟩ (by decide) rfl st) ?_
  rintro ⟨i21, r22⟩ ⟨h27, h28, h26⟩
  try dsimp only at h27 h28 h26
  refine GL.weak (env' := [(0, v0), (1, v1), (12, .int .i64 ((x0).length : Int)), (13, .int .i64 (i21 : Int))]) (L' := [imm (TR.sl TR.int) v0 x0, imm (TR.sl TR.int) v1 x1]) (fun _ _ st => st) ?_
  refine GL.seq ?_
  refine GL.region ?_
  refine RL.binI (v := .bool (decide ((i21 : Int) < ((x0).length : Int)))) rfl rfl rfl rfl rfl ?_
  refine RL.finG ?_
  refine GL.seq ?_
  refine GL.cond rfl (fun b29 => ?_) (fun b29 => ?_)
  ·have h30 : i21 < (x0).length := by have := of_decide_eq_true b29; omega
   obtain ⟨y31, r33, hr, e32, h34⟩ := drop_cons h28 rfl h30
   subst hr
   obtain ⟨z23, h24, h25⟩ := rangeL_some h26
   unfold slices_Equal_int_int_b1 at h24
   try dsimp only at h24
   refine GL.skip ?_
   refine GL.seq ?_
   refine GL.block ?_
   refine GL.seq ?_
   refine GL.region ?_
   refine RL.mv rfl rfl rfl ?_
   refine RL.asg rfl rfl rfl ?_
   refine RL.finG ?_
   refine GL.seq ?_
   refine GL.regionQ rfl rfl (by kernel_rfl) ?_
   refine RL.mv rfl rfl rfl ?_
   refine RL.mv rfl rfl rfl ?_
   refine RL.idxS (sz := 1) 0 Try.underlying41 Try_ln3 rfl rfl rfl rfl rfl SlOf.imm (by omega) (by omega) ?_
   refine RL.ldSx (i := i21) (e' := y31) 0 Ex.ik Try_ln3 rfl rfl rfl rfl SlOf.imm e32 Part.self ?_
   refine RL.mv rfl rfl rfl ?_
   refine RL.mv rfl rfl rfl ?_
   obtain ⟨y37, e38, h24⟩ := bind_some h24
   refine RL.idxS (sz := 1) 1 Try.underlying41 Try_ln3 rfl rfl rfl rfl rfl SlOf.imm (idx_some e38).1 (idx_some e38).2.1 ?_
   refine RL.ldSx (i := i21) (e' := y37) 1 Ex.ik Try_ln3 rfl rfl rfl rfl SlOf.imm (idx_some e38).2.2 Part.self ?_
   refine RL.binI (v := .bool (y31 != y37)) rfl rfl rfl rfl rfl ?_
   refine RL.finQG ?_
   refine GL.cond rfl (fun b39 => ?_) (fun b39 => ?_)
   ·replace h24 := ite_t b39 h24
    refine GL.seq ?_
    refine GL.region ?_
    refine RL.asg rfl rfl rfl ?_
    refine RL.finG ?_
    cases h24
    replace h25 : some (Fl.rt _) = some y14 := h25
    cases h25
    have hh := h19 _ h17
    subst hh
    exact GL.ret (Gx.ret (v := .bool false) (res1 rfl rfl) (fun a w st => st.toPostV))
   replace h24 := ite_f b39 h24
   refine GL.skip ?_
   refine GL.nilB ?_
   refine GL.region ?_
   refine RL.binI (v := .int .i64 ((i21 + 1 : Nat) : Int)) rfl rfl rfl rfl (binI_succ i21 (by omega)) ?_
   refine RL.mv rfl rfl rfl ?_
   refine RL.fin ?_
   cases h24
   exact fun a w st => lop_intro (i21 + 1, r33) ⟨by show i21 + 1 + r33.length = (x0).length; simp only [List.length_cons] at h27; omega, h34, h25⟩ (by simp) (St.cut [0, 1] ⟨rfl, rfl, rfl, rfl, trivial⟩ (by decide) rfl st)
  have h30 : ¬ i21 < (x0).length := by have := of_decide_eq_false b29; omega
  obtain rfl : r22 = [] := by rw [← h28]; exact List.drop_of_length_le (by omega)
  replace h26 : some (Fl.nx _) = some y14 := h26
  cases h26
  exact GL.exit (fun a w st => mid_intro () h17 (St.cut [] trivial (by decide) rfl st))
 rintro ⟨⟩ h40
 have h41 := h18 _ h40
 try dsimp only at h41
 refine GL.weak (env' := []) (L' := []) (fun _ _ st => st) ?_
 refine GL.seq ?_
 refine GL.region ?_
 refine RL.asg rfl rfl rfl ?_
 refine RL.finG ?_
 have h41 := Option.some.inj h41
 subst h41
 exact GL.ret (Gx.ret (v := .bool true) (res1 rfl rfl) (fun a w st => st.toPostV))

set_option maxHeartbeats 4000000 in
theorem pk_sells_c (S : Hp) (w : World) (hS : S.sub w)  (res : Bool) (hm : pk_sells_m = some res) : Calls Try.prog 31 #[] w (PostV w (.bool res)) := by
 refine calls_enter 47 Try.func31 Try.ntmps31 rfl S false [] [] rfl trivial hS trivial ?_
 unfold pk_sells_m at hm
 refine GL.seq ?_
 refine GL.region ?_
 refine RL.asg rfl rfl rfl ?_
 refine RL.finG ?_
 refine GL.seq ?_
 refine GL.region ?_
 refine RL.bS (t := TR.int) (vs := [.int .i64 (4 : Int), .int .i64 (8 : Int), .int .i64 (6 : Int), .int .i64 (1 : Int)]) ([(4 : Int), (8 : Int), (6 : Int), (1 : Int)] : (List Int)) Try.underlying41 Try_lo3 rfl rfl rfl rfl ⟨VR.int, ⟨VR.int, ⟨VR.int, ⟨VR.int, trivial⟩⟩⟩⟩ rfl (by decide) ?_
 intro v5
 obtain ⟨y6, e7, hm⟩ := bind_some hm
 refine RL.callU (vs := [v5, .int .i64 (2 : Int)]) (LR := fun (o : Value) => [own 3 TR.int o y6.1]) (fun o => ⟨Loc.own TR.flatT_ik, trivial⟩) Try_fit35 rfl rfl rfl rfl rfl (fun U w hU hW hL => units_Sell_c U w hU _ _ (hL 0 _ _ rfl Seen.own) (2 : Int) _ e7) ?_
 intro v8
 refine RL.mv rfl rfl rfl ?_
 refine RL.ext rfl rfl rfl rfl ?_
 refine RL.ext rfl rfl rfl rfl ?_
 refine RL.ext rfl rfl rfl rfl ?_
 refine RL.asg rfl rfl rfl ?_
 refine RL.asg rfl rfl rfl ?_
 refine RL.asg rfl rfl rfl ?_
 refine RL.finG ?_
 refine GL.seq ?_
 refine GL.region ?_
 refine RL.bS (t := TR.int) (vs := [.int .i64 (9 : Int), .int .i64 (5 : Int), .int .i64 (2 : Int)]) ([(9 : Int), (5 : Int), (2 : Int)] : (List Int)) Try.underlying41 Try_lo3 rfl rfl rfl rfl ⟨VR.int, ⟨VR.int, ⟨VR.int, trivial⟩⟩⟩ rfl (by decide) ?_
 intro v13
 refine RL.reL (L' := [own 3 TR.int v5 ([(4 : Int), (8 : Int), (6 : Int), (1 : Int)] : (List Int)), own 3 TR.int v8 y6.1, own 3 TR.int v13 ([(9 : Int), (5 : Int), (2 : Int)] : (List Int))]) rfl ?_
 refine RL.bS (t := TR.int) (vs := [.int .i64 (3 : Int), .int .i64 (4 : Int), .int .i64 (7 : Int)]) ([(3 : Int), (4 : Int), (7 : Int)] : (List Int)) Try.underlying41 Try_lo3 rfl rfl rfl rfl ⟨VR.int, ⟨VR.int, ⟨VR.int, trivial⟩⟩⟩ rfl (by decide) ?_
 intro v14
 obtain ⟨y15, e16, hm⟩ := bind_some hm
 refine RL.callV (v := .tuple #[.int .i64 y15.1, .int .i64 y15.2.1, .int .i64 y15.2.2.1, .int .i64 y15.2.2.2]) (vs := [v13, v14]) Try_fit39 rfl (Or.inl rfl) rfl rfl rfl rfl (fun U w hU hW hL => units_Meet_c U w hU _ _ (hL 2 _ _ rfl Seen.own) _ _ (hL 3 _ _ rfl Seen.own) _ e16) ?_
 refine RL.mv rfl rfl rfl ?_
 refine RL.ext rfl rfl rfl rfl ?_
 refine RL.ext rfl rfl rfl rfl ?_
 refine RL.ext rfl rfl rfl rfl ?_
 refine RL.ext rfl rfl rfl rfl ?_
 refine RL.asg rfl rfl rfl ?_
 refine RL.asg rfl rfl rfl ?_
 refine RL.asg rfl rfl rfl ?_
 refine RL.asg rfl rfl rfl ?_
 refine RL.finG ?_
 refine GL.seq ?_
 obtain ⟨y40, K41, h42, h43, h44, h45, h46⟩ := bindR_K hm
 refine GL.join (ι := Bool) (fun (p : Bool) => [(0, .bool p)]) (fun (p : Bool) => []) (fun (p : Bool) => K41 (.nx p)) ?_ ?_
 ·skip
  refine GL.region ?_
  refine RL.mv rfl rfl rfl ?_
  refine RL.mv rfl rfl rfl ?_
  refine RL.bS (t := TR.int) (vs := [.int .i64 y6.2.2, .int .i64 y15.2.2.2]) ([y6.2.2, y15.2.2.2] : (List Int)) Try.underlying89 Try_lo26 rfl rfl rfl rfl ⟨VR.int, ⟨VR.int, trivial⟩⟩ rfl (by decide) ?_
  intro v47
  refine RL.reL (L' := [own 3 TR.int v5 ([(4 : Int), (8 : Int), (6 : Int), (1 : Int)] : (List Int)), own 3 TR.int v8 y6.1, own 3 TR.int v13 ([(9 : Int), (5 : Int), (2 : Int)] : (List Int)), own 3 TR.int v14 ([(3 : Int), (4 : Int), (7 : Int)] : (List Int)), own 26 TR.int v47 ([y6.2.2, y15.2.2.2] : (List Int))]) rfl ?_
  obtain ⟨y48, e49, h42⟩ := bind_some h42
  refine RL.callV (v := .bool y48) (vs := [v47]) Try_fit44 rfl (Or.inl rfl) rfl rfl rfl rfl (fun U w hU hW hL => pk_good_c U w hU _ _ (hL 4 _ _ rfl Seen.own) _ e49) ?_
  refine RL.mv rfl rfl rfl ?_
  refine RL.split (t := 26) rfl (fun b50 => ?_) (fun b50 => ?_)
  ·replace h42 := ite_t b50 h42
   refine RL.mv rfl rfl rfl ?_
   refine RL.bS (t := TR.int) (vs := [.int .i64 (1 : Int), .int .i64 (2 : Int)]) ([(1 : Int), (2 : Int)] : (List Int)) Try.underlying41 Try_lo3 rfl rfl rfl rfl ⟨VR.int, ⟨VR.int, trivial⟩⟩ rfl (by decide) ?_
   intro v51
   obtain ⟨y52, e53, h42⟩ := bind_some h42
   refine RL.callV (v := .bool y52) (vs := [v8, v51]) Try_fit45 rfl (Or.inl rfl) rfl rfl rfl rfl (fun U w hU hW hL => slices_Equal_int_int_c U w hU _ _ (hL 1 _ _ rfl Seen.own) _ _ (hL 5 _ _ rfl Seen.own) _ e53) ?_
   refine RL.pickT rfl rfl rfl rfl ?_
   refine RL.mv rfl rfl rfl ?_
   refine RL.split (t := 31) rfl (fun b54 => ?_) (fun b54 => ?_)
   ·replace h42 := ite_t b54 h42
    refine RL.mv rfl rfl rfl ?_
    refine RL.binI (v := .bool (y6.2.1 == (4 : Int))) rfl rfl rfl rfl rfl ?_
    refine RL.pickT rfl rfl rfl rfl ?_
    refine RL.mv rfl rfl rfl ?_
    refine RL.split (t := 35) rfl (fun b55 => ?_) (fun b55 => ?_)
    ·replace h42 := ite_t b55 h42
     refine RL.mv rfl rfl rfl ?_
     refine RL.binI (v := .bool (y15.1 == (2 : Int))) rfl rfl rfl rfl rfl ?_
     refine RL.pickT rfl rfl rfl rfl ?_
     refine RL.mv rfl rfl rfl ?_
     refine RL.split (t := 39) rfl (fun b56 => ?_) (fun b56 => ?_)
     ·replace h42 := ite_t b56 h42
      refine RL.mv rfl rfl rfl ?_
      refine RL.binI (v := .bool (y15.2.1 == (4 : Int))) rfl rfl rfl rfl rfl ?_
      refine RL.pickT rfl rfl rfl rfl ?_
      refine RL.mv rfl rfl rfl ?_
      refine RL.split (t := 43) rfl (fun b57 => ?_) (fun b57 => ?_)
      ·replace h42 := ite_t b57 h42
       refine RL.mv rfl rfl rfl ?_
       refine RL.binI (v := .bool (y15.2.2.1 == (5 : Int))) rfl rfl rfl rfl rfl ?_
       refine RL.pickT rfl rfl rfl rfl ?_
       refine RL.asg rfl rfl rfl ?_
       refine RL.fin ?_
       cases h42
       exact fun a w st => mid_intro (y15.2.2.1 == (5 : Int)) h43 (St.cut [] ⟨rfl, trivial⟩ (by decide) rfl st)
      replace h42 := ite_f b57 h42
      refine RL.skip rfl rfl ?_
      refine RL.skip rfl rfl ?_
      refine RL.pickF rfl rfl rfl rfl ?_
      refine RL.asg rfl rfl rfl ?_
      refine RL.fin ?_
      cases h42
      exact fun a w st => mid_intro false h43 (St.cut [] ⟨rfl, trivial⟩ (by decide) rfl st)
     replace h42 := ite_f b56 h42
     refine RL.skip rfl rfl ?_
     refine RL.skip rfl rfl ?_
     refine RL.pickF rfl rfl rfl rfl ?_
     refine RL.mv rfl rfl rfl ?_
     refine RL.skip rfl rfl ?_
     refine RL.skip rfl rfl ?_
     refine RL.pickF rfl rfl rfl rfl ?_
     refine RL.asg rfl rfl rfl ?_
     refine RL.fin ?_
     cases h42
     exact fun a w st => mid_intro false h43 (St.cut [] ⟨rfl, trivial⟩ (by decide) rfl st)
    replace h42 := ite_f b55 h42
    refine RL.skip rfl rfl ?_
    refine RL.skip rfl rfl ?_
    refine RL.pickF rfl rfl rfl rfl ?_
    refine RL.mv rfl rfl rfl ?_
    refine RL.skip rfl rfl ?_
    refine RL.skip rfl rfl ?_
    refine RL.pickF rfl rfl rfl rfl ?_
    refine RL.mv rfl rfl rfl ?_
    refine RL.skip rfl rfl ?_
    refine RL.skip rfl rfl ?_
    refine RL.pickF rfl rfl rfl rfl ?_
    refine RL.asg rfl rfl rfl ?_
    refine RL.fin ?_
    cases h42
    exact fun a w st => mid_intro false h43 (St.cut [] ⟨rfl, trivial⟩ (by decide) rfl st)
   replace h42 := ite_f b54 h42
   refine RL.skip rfl rfl ?_
   refine RL.skip rfl rfl ?_
   refine RL.pickF rfl rfl rfl rfl ?_
   refine RL.mv rfl rfl rfl ?_
   refine RL.skip rfl rfl ?_
   refine RL.skip rfl rfl ?_
   refine RL.pickF rfl rfl rfl rfl ?_
   refine RL.mv rfl rfl rfl ?_
   refine RL.skip rfl rfl ?_
   refine RL.skip rfl rfl ?_
   refine RL.pickF rfl rfl rfl rfl ?_
   refine RL.mv rfl rfl rfl ?_
   refine RL.skip rfl rfl ?_
   refine RL.skip rfl rfl ?_
   refine RL.pickF rfl rfl rfl rfl ?_
   refine RL.asg rfl rfl rfl ?_
   refine RL.fin ?_
   cases h42
   exact fun a w st => mid_intro false h43 (St.cut [] ⟨rfl, trivial⟩ (by decide) rfl st)
  replace h42 := ite_f b50 h42
  refine RL.skip rfl rfl ?_
  refine RL.skip rfl rfl ?_
  refine RL.skip rfl rfl ?_
  refine RL.pickF rfl rfl rfl rfl ?_
  refine RL.mv rfl rfl rfl ?_
  refine RL.skip rfl rfl ?_
  refine RL.skip rfl rfl ?_
  refine RL.pickF rfl rfl rfl rfl ?_
  refine RL.mv rfl rfl rfl ?_
  refine RL.skip rfl rfl ?_
  refine RL.skip rfl rfl ?_
  refine RL.pickF rfl rfl rfl rfl ?_
  refine RL.mv rfl rfl rfl ?_
  refine RL.skip rfl rfl ?_
  refine RL.skip rfl rfl ?_
  refine RL.pickF rfl rfl rfl rfl ?_
  refine RL.mv rfl rfl rfl ?_
  refine RL.skip rfl rfl ?_
  refine RL.skip rfl rfl ?_
  refine RL.pickF rfl rfl rfl rfl ?_
  refine RL.asg rfl rfl rfl ?_
  refine RL.fin ?_
  cases h42
  exact fun a w st => mid_intro false h43 (St.cut [] ⟨rfl, trivial⟩ (by decide) rfl st)
 rintro x39 h58
 have h59 := h44 _ h58
 try dsimp only at h59
 refine GL.weak (env' := [(0, .bool x39)]) (L' := []) (fun _ _ st => st) ?_
 have h59 := Option.some.inj h59
 subst h59
 exact GL.ret (Gx.ret (v := .bool x39) (res1 rfl rfl) (fun a w st => st.toPostV))

set_option maxHeartbeats 4000000 in
theorem ref_Rest_c (S : Hp) (w : World) (hS : S.sub w) (x0 : Int) (x1 : Int) (res : Int) (hm : ref_Rest_m x0 x1 = some res) : Calls Try.prog 59 #[.int .i64 x0, .int .i64 x1] w (PostC w (.int .i64 res)) := by
 refine calls_enter 14 Try.func59 Try.ntmps59 rfl S true [(0, .int .i64 x0), (1, .int .i64 x1)] [] rfl ⟨rfl, ⟨rfl, trivial⟩⟩ hS trivial ?_
 unfold ref_Rest_m at hm
 refine GL.seq ?_
 refine GL.region ?_
 refine RL.asg rfl rfl rfl ?_
 refine RL.finG ?_
 refine GL.seq ?_
 refine GL.region ?_
 refine RL.mv rfl rfl rfl ?_
 refine RL.mv rfl rfl rfl ?_
 obtain ⟨y5, e6, hm⟩ := bind_some hm
 replace e6 := chk_some e6
 refine RL.rem rfl rfl rfl rfl e6 ?_
 refine RL.asg rfl rfl rfl ?_
 refine RL.finG ?_
 refine GL.seq ?_
 refine GL.seq ?_
 refine GL.region ?_
 refine RL.mv rfl rfl rfl ?_
 refine RL.binI (v := .bool (decide ((Int.tmod x0 x1) < (0 : Int)))) rfl rfl rfl rfl rfl ?_
 refine RL.finG ?_
 obtain ⟨y9, K10, h11, h12, h13, h14, h15⟩ := bindR_K hm
 refine GL.join (ι := Int) (fun (p : Int) => [(0, .int .i64 p)]) (fun (p : Int) => []) (fun (p : Int) => K10 (.nx p)) ?_ ?_
 ·skip
  refine GL.cond rfl (fun b16 => ?_) (fun b16 => ?_)
  ·replace h11 := ite_t b16 h11
   refine GL.region ?_
   refine RL.mv rfl rfl rfl ?_
   refine RL.mv rfl rfl rfl ?_
   refine RL.binI (v := .int .i64 (wadd (Int.tmod x0 x1) x1)) rfl rfl rfl rfl rfl ?_
   refine RL.asg rfl rfl rfl ?_
   refine RL.finG ?_
   cases h11
   exact fun a w st => mid_intro (wadd (Int.tmod x0 x1) x1) h12 (St.cut [] ⟨rfl, trivial⟩ (by decide) rfl st)
  replace h11 := ite_f b16 h11
  refine GL.skip ?_
  cases h11
  exact fun a w st => mid_intro (Int.tmod x0 x1) h12 (St.cut [] ⟨rfl, trivial⟩ (by decide) rfl st)
 rintro x8 h17
 have h18 := h13 _ h17
 try dsimp only at h18
 refine GL.weak (env' := [(0, .int .i64 x8)]) (L' := []) (fun _ _ st => st) ?_
 refine GL.seq ?_
 refine GL.region ?_
 refine RL.mv rfl rfl rfl ?_
 refine RL.asg rfl rfl rfl ?_
 refine RL.finG ?_
 have h18 := Option.some.inj h18
 subst h18
 exact GL.ret (Gx.ret (v := .int .i64 x8) (res1 rfl rfl) (fun a w st => st.toPostC rfl))

set_option maxHeartbeats 4000000 in
theorem pk_Within_c (S : Hp) (w : World) (hS : S.sub w) (x0 : Int) (x1 : Int) (res : Int) (hm : pk_Within_m x0 x1 = some res) : Calls Try.prog 33 #[.int .i64 x0, .int .i64 x1] w (PostC w (.int .i64 res)) := by
 refine calls_enter 8 Try.func33 Try.ntmps33 rfl S true [(0, .int .i64 x0), (1, .int .i64 x1)] [] rfl ⟨rfl, ⟨rfl, trivial⟩⟩ hS trivial ?_
 unfold pk_Within_m at hm
 refine GL.seq ?_
 refine GL.region ?_
 refine RL.asg rfl rfl rfl ?_
 refine RL.finG ?_
 refine GL.seq ?_
 refine GL.region ?_
 refine RL.mv rfl rfl rfl ?_
 refine RL.mv rfl rfl rfl ?_
 obtain ⟨y5, e6, hm⟩ := bind_some hm
 refine RL.callC (v := .int .i64 y5) (vs := [.int .i64 x0, .int .i64 x1]) Try_fit59 rfl rfl rfl rfl (fun U w hU hW hL => ref_Rest_c U w hU x0 x1 _ e6) ?_
 refine RL.asg rfl rfl rfl ?_
 refine RL.finG ?_
 have hm := Option.some.inj hm
 subst hm
 exact GL.ret (Gx.ret (v := .int .i64 y5) (res1 rfl rfl) (fun a w st => st.toPostC rfl))

set_option maxHeartbeats 4000000 in
theorem pk_BidsOf_c (S : Hp) (w : World) (hS : S.sub w) (v0 : Value) (x0 : (List Int)) (k0 : ((TR.sl TR.int)).vrep S v0 x0) (res : (List Int)) (hm : pk_BidsOf_m x0 = some res) : Calls Try.prog 32 #[v0] w (Post w S (fun (o : Value) => o) (fun (o : Value) => [own 3 TR.int o res])) := by
 refine calls_enter 23 Try.func32 Try.ntmps32 rfl S false [(0, v0)] [imm (TR.sl TR.int) v0 x0] rfl ⟨rfl, trivial⟩ hS ⟨k0, trivial⟩ ?_
 unfold pk_BidsOf_m at hm
 refine GL.seq ?_
 refine GL.region ?_
 refine RL.asg rfl rfl rfl ?_
 refine RL.finG ?_
 refine GL.seq ?_
 refine GL.region ?_
 refine RL.asg rfl rfl rfl ?_
 refine RL.finG ?_
 refine GL.seq ?_
 refine GL.seq ?_
 refine GL.region ?_
 refine RL.mv rfl rfl rfl ?_
 refine RL.mv rfl rfl rfl ?_
 refine RL.lenS 0 Try.underlying41 rfl rfl rfl rfl SlOf.imm ?_
 refine RL.minI rfl rfl rfl rfl ?_
 obtain ⟨y5, e6, hm⟩ := bind_some hm
 replace e6 := chk_some e6
 refine RL.slc (t := TR.int) (i := 0) (j := (if (10 : Int) < ((x0).length : Int) then (10 : Int) else ((x0).length : Int)).toNat) (sz := 1) 0 Try.underlying41 Try_ln3 rfl rfl rfl rfl (Or.inl ⟨rfl, rfl⟩) (Or.inr ⟨_, _, rfl, by rw [Int.toNat_of_nonneg (by omega)]; rfl⟩) rfl (by omega) (by omega) ?_
 intro v7
 refine RL.lenS 1 Try.underlying41 rfl rfl rfl rfl SlOf.imm ?_
 refine RL.mv rfl rfl rfl ?_
 refine RL.finG ?_
 refine GL.weak (fun a w st => st.nilOwn 3 TR.int) ?_
 refine GL.open_ 1 rfl (fun S h => len_imm S h) (fun n26 => ?_)
 obtain ⟨y27, K28, h29, h30, h31, h32, h33⟩ := bindR_K hm
 refine GL.join (ι := (List Int) × Value) (fun (p : (List Int) × Value) => [(3, p.2)]) (fun (p : (List Int) × Value) => [own 3 TR.int p.2 p.1]) (fun (p : (List Int) × Value) => K28 (.nx p.1)) ?_ ?_
 ·refine GL.block ?_
  refine GL.loop (ι := Nat × (List Int) × (List Int) × Value) (fun (p : Nat × (List Int) × (List Int) × Value) => [(3, p.2.2.2), (10, v7), (11, .int .i64 ((((List.take ((if (10 : Int) < ((x0).length : Int) then (10 : Int) else ((x0).length : Int)).toNat) x0).drop 0)).length : Int)), (12, .int .i64 (p.1 : Int))]) (fun (p : Nat × (List Int) × (List Int) × Value) => [own 3 TR.int p.2.2.2 p.2.2.1, imm (TR.sl TR.int) v7 ((List.take ((if (10 : Int) < ((x0).length : Int) then (10 : Int) else ((x0).length : Int)).toNat) x0).drop 0)]) (fun (p : Nat × (List Int) × (List Int) × Value) => p.1 + p.2.1.length = (((List.take ((if (10 : Int) < ((x0).length : Int) then (10 : Int) else ((x0).length : Int)).toNat) x0).drop 0)).length ∧ List.drop p.1 ((List.take ((if (10 : Int) < ((x0).length : Int) then (10 : Int) else ((x0).length : Int)).toNat) x0).drop 0) = p.2.1 ∧ rangeL pk_BidsOf_b1 p.2.1 p.1 p.2.2.1 = some y27) (fun (p : Nat × (List Int) × (List Int) × Value) => p.2.1.length) (0, ((List.take ((if (10 : Int) < ((x0).length : Int) then (10 : Int) else ((x0).length : Int)).toNat) x0).drop 0), [], Value.slice none 0 0) ⟨by simp, by simp, h29⟩ (fun a w st => St.cut [2, 1] ⟨rfl, rfl, rfl, rfl, trivial⟩ (by decide) rfl st) ?_
  rintro ⟨i34, r35, l8, v9⟩ ⟨h40, h41, h39⟩
  try dsimp only at h40 h41 h39
  refine GL.weak (env' := [(3, v9), (10, v7), (11, .int .i64 ((((List.take ((if (10 : Int) < ((x0).length : Int) then (10 : Int) else ((x0).length : Int)).toNat) x0).drop 0)).length : Int)), (12, .int .i64 (i34 : Int))]) (L' := [own 3 TR.int v9 l8, imm (TR.sl TR.int) v7 ((List.take ((if (10 : Int) < ((x0).length : Int) then (10 : Int) else ((x0).length : Int)).toNat) x0).drop 0)]) (fun _ _ st => st) ?_
  refine GL.seq ?_
  refine GL.region ?_
  refine RL.binI (v := .bool (decide ((i34 : Int) < ((((List.take ((if (10 : Int) < ((x0).length : Int) then (10 : Int) else ((x0).length : Int)).toNat) x0).drop 0)).length : Int)))) rfl rfl rfl rfl rfl ?_
  refine RL.finG ?_
  refine GL.seq ?_
  refine GL.cond rfl (fun b42 => ?_) (fun b42 => ?_)
  ·have h43 : i34 < (((List.take ((if (10 : Int) < ((x0).length : Int) then (10 : Int) else ((x0).length : Int)).toNat) x0).drop 0)).length := by have := of_decide_eq_true b42; omega
   obtain ⟨y44, r46, hr, e45, h47⟩ := drop_cons h41 rfl h43
   subst hr
   obtain ⟨z36, h37, h38⟩ := rangeL_some h39
   unfold pk_BidsOf_b1 at h37
   try dsimp only at h37
   refine GL.skip ?_
   refine GL.seq ?_
   refine GL.block ?_
   refine GL.seq ?_
   refine GL.region ?_
   refine RL.idxS (sz := 1) 1 Try.underlying41 Try_ln3 rfl rfl rfl rfl rfl SlOf.imm (by omega) (by omega) ?_
   refine RL.ldSx (i := i34) (e' := y44) 1 Ex.ik Try_ln3 rfl rfl rfl rfl SlOf.imm e45 Part.self ?_
   refine RL.asg rfl rfl rfl ?_
   refine RL.finG ?_
   refine GL.region ?_
   refine RL.mv rfl rfl rfl ?_
   refine RL.mv rfl rfl rfl ?_
   obtain ⟨y54, e55, h37⟩ := bind_some h37
   refine RL.callC (v := .int .i64 y54) (vs := [.int .i64 y44, .int .i64 (101 : Int)]) Try_fit33 rfl rfl rfl rfl (fun U w hU hW hL => pk_Within_c U w hU y44 (101 : Int) _ e55) ?_
   refine RL.bS (t := TR.int) (vs := [.int .i64 y54]) ([y54] : (List Int)) Try.underlying41 Try_lo3 rfl rfl rfl rfl ⟨VR.int, trivial⟩ rfl (by decide) ?_
   intro v56
   obtain ⟨y57, e58, h37⟩ := bind_some h37
   replace e58 := chk_some e58
   refine RL.app 0 2 Try.underlying41 Try_lo3 rfl rfl rfl rfl rfl rfl rfl SlOf.own e58 ?_
   intro v59
   refine RL.reL (L' := [own 3 TR.int v59 (l8 ++ ([y54] : (List Int))), imm (TR.sl TR.int) v7 ((List.take ((if (10 : Int) < ((x0).length : Int) then (10 : Int) else ((x0).length : Int)).toNat) x0).drop 0), own 3 TR.int v56 ([y54] : (List Int))]) rfl ?_
   refine RL.asg rfl rfl rfl ?_
   refine RL.finG ?_
   refine GL.nilB ?_
   refine GL.region ?_
   refine RL.binI (v := .int .i64 ((i34 + 1 : Nat) : Int)) rfl rfl rfl rfl (binI_succ i34 (by omega)) ?_
   refine RL.mv rfl rfl rfl ?_
   refine RL.fin ?_
   cases h37
   exact fun a w st => lop_intro (i34 + 1, r46, (l8 ++ ([y54] : (List Int))), v59) ⟨by show i34 + 1 + r46.length = (((List.take ((if (10 : Int) < ((x0).length : Int) then (10 : Int) else ((x0).length : Int)).toNat) x0).drop 0)).length; simp only [List.length_cons] at h40; omega, h47, h38⟩ (by simp) (St.cut [0, 1] ⟨rfl, rfl, rfl, rfl, trivial⟩ (by decide) rfl st)
  have h43 : ¬ i34 < (((List.take ((if (10 : Int) < ((x0).length : Int) then (10 : Int) else ((x0).length : Int)).toNat) x0).drop 0)).length := by have := of_decide_eq_false b42; omega
  obtain rfl : r35 = [] := by rw [← h41]; exact List.drop_of_length_le (by omega)
  replace h39 : some (Fl.nx _) = some y27 := h39
  cases h39
  exact GL.exit (fun a w st => mid_intro (l8, v9) h30 (St.cut [0] ⟨rfl, trivial⟩ (by decide) rfl st))
 rintro ⟨l8, v9⟩ h60
 have h61 := h31 _ h60
 try dsimp only at h61
 refine GL.weak (env' := [(3, v9)]) (L' := [own 3 TR.int v9 l8]) (fun _ _ st => st) ?_
 refine GL.seq ?_
 refine GL.region ?_
 refine RL.mv rfl rfl rfl ?_
 refine RL.asg rfl rfl rfl ?_
 refine RL.finG ?_
 have h61 := Option.some.inj h61
 subst h61
 exact GL.ret (Gx.ret (v := v9) (res1 rfl rfl) (fun a w st => (st.pick [0] (by decide) rfl).toPost v9))

set_option maxHeartbeats 4000000 in
theorem pk_UnitsFair_c (S : Hp) (w : World) (hS : S.sub w) (v0 : Value) (x0 : (List Int)) (k0 : ((TR.sl TR.int)).vrep S v0 x0) (v1 : Value) (x1 : (List Int)) (k1 : ((TR.sl TR.int)).vrep S v1 x1) (x2 : Int) (x3 : Int) (res : Bool) (hm : pk_UnitsFair_m x0 x1 x2 x3 = some res) : Calls Try.prog 10 #[v0, v1, .int .i64 x2, .int .i64 x3] w (PostV w (.bool res)) := by
 refine calls_enter 159 Try.func10 Try.ntmps10 rfl S false [(0, v0), (1, v1), (2, .int .i64 x2), (3, .int .i64 x3)] [imm (TR.sl TR.int) v0 x0, imm (TR.sl TR.int) v1 x1] rfl ⟨rfl, ⟨rfl, ⟨rfl, ⟨rfl, trivial⟩⟩⟩⟩ hS ⟨k0, ⟨k1, trivial⟩⟩ ?_
 unfold pk_UnitsFair_m at hm
 refine GL.seq ?_
 refine GL.region ?_
 refine RL.asg rfl rfl rfl ?_
 refine RL.finG ?_
 refine GL.seq ?_
 refine GL.seq ?_
 refine GL.region ?_
 refine RL.bS (t := TR.int) (vs := [.int .i64 (9 : Int), .int .i64 (5 : Int), .int .i64 (2 : Int)]) ([(9 : Int), (5 : Int), (2 : Int)] : (List Int)) Try.underlying41 Try_lo3 rfl rfl rfl rfl ⟨VR.int, ⟨VR.int, ⟨VR.int, trivial⟩⟩⟩ rfl (by decide) ?_
 intro v9
 refine RL.bS (t := TR.int) (vs := [.int .i64 (3 : Int), .int .i64 (4 : Int), .int .i64 (7 : Int)]) ([(3 : Int), (4 : Int), (7 : Int)] : (List Int)) Try.underlying41 Try_lo3 rfl rfl rfl rfl ⟨VR.int, ⟨VR.int, ⟨VR.int, trivial⟩⟩⟩ rfl (by decide) ?_
 intro v10
 refine RL.reL (L' := [imm (TR.sl TR.int) v0 x0, imm (TR.sl TR.int) v1 x1, own 3 TR.int v9 ([(9 : Int), (5 : Int), (2 : Int)] : (List Int)), own 3 TR.int v10 ([(3 : Int), (4 : Int), (7 : Int)] : (List Int))]) rfl ?_
 obtain ⟨y11, e12, hm⟩ := bind_some hm
 refine RL.callV (v := .tuple #[.int .i64 y11.1, .int .i64 y11.2.1, .int .i64 y11.2.2.1, .int .i64 y11.2.2.2]) (vs := [v9, v10]) Try_fit37 rfl (Or.inl rfl) rfl rfl rfl rfl (fun U w hU hW hL => units_Fair_c U w hU _ _ (hL 2 _ _ rfl Seen.own) _ _ (hL 3 _ _ rfl Seen.own) _ e12) ?_
 refine RL.mv rfl rfl rfl ?_
 refine RL.ext rfl rfl rfl rfl ?_
 refine RL.ext rfl rfl rfl rfl ?_
 refine RL.ext rfl rfl rfl rfl ?_
 refine RL.ext rfl rfl rfl rfl ?_
 refine RL.asg rfl rfl rfl ?_
 refine RL.asg rfl rfl rfl ?_
 refine RL.asg rfl rfl rfl ?_
 refine RL.asg rfl rfl rfl ?_
 refine RL.finG ?_
 refine GL.seq ?_
 obtain ⟨y26, K27, h28, h29, h30, h31, h32⟩ := bindR_K hm
 refine GL.join (ι := Bool) (fun (p : Bool) => [(0, v0), (1, v1), (2, .int .i64 x2), (3, .int .i64 x3), (55, .bool p)]) (fun (p : Bool) => [imm (TR.sl TR.int) v0 x0, imm (TR.sl TR.int) v1 x1]) (fun (p : Bool) => K27 (.nx p)) ?_ ?_
 ·skip
  refine GL.region ?_
  refine RL.mv rfl rfl rfl ?_
  refine RL.binI (v := .bool (y11.2.2.2 != (0 : Int))) rfl rfl rfl rfl rfl ?_
  refine RL.mv rfl rfl rfl ?_
  refine RL.split (t := 40) rfl (fun b33 => ?_) (fun b33 => ?_)
  ·replace h28 := ite_t b33 h28
   refine RL.skip rfl rfl ?_
   refine RL.skip rfl rfl ?_
   refine RL.pickT rfl rfl rfl rfl ?_
   refine RL.mv rfl rfl rfl ?_
   refine RL.skip rfl rfl ?_
   refine RL.skip rfl rfl ?_
   refine RL.pickT rfl rfl rfl rfl ?_
   refine RL.mv rfl rfl rfl ?_
   refine RL.skip rfl rfl ?_
   refine RL.skip rfl rfl ?_
   refine RL.pickT rfl rfl rfl rfl ?_
   refine RL.mv rfl rfl rfl ?_
   refine RL.skip rfl rfl ?_
   refine RL.skip rfl rfl ?_
   refine RL.pickT rfl rfl rfl rfl ?_
   refine RL.fin ?_
   cases h28
   exact fun a w st => mid_intro true h29 (St.cut [0, 1] ⟨rfl, rfl, rfl, rfl, rfl, trivial⟩ (by decide) rfl st)
  replace h28 := ite_f b33 h28
  refine RL.mv rfl rfl rfl ?_
  refine RL.binI (v := .bool (y11.1 != (1 : Int))) rfl rfl rfl rfl rfl ?_
  refine RL.pickF rfl rfl rfl rfl ?_
  refine RL.mv rfl rfl rfl ?_
  refine RL.split (t := 44) rfl (fun b34 => ?_) (fun b34 => ?_)
  ·replace h28 := ite_t b34 h28
   refine RL.skip rfl rfl ?_
   refine RL.skip rfl rfl ?_
   refine RL.pickT rfl rfl rfl rfl ?_
   refine RL.mv rfl rfl rfl ?_
   refine RL.skip rfl rfl ?_
   refine RL.skip rfl rfl ?_
   refine RL.pickT rfl rfl rfl rfl ?_
   refine RL.mv rfl rfl rfl ?_
   refine RL.skip rfl rfl ?_
   refine RL.skip rfl rfl ?_
   refine RL.pickT rfl rfl rfl rfl ?_
   refine RL.fin ?_
   cases h28
   exact fun a w st => mid_intro true h29 (St.cut [0, 1] ⟨rfl, rfl, rfl, rfl, rfl, trivial⟩ (by decide) rfl st)
  replace h28 := ite_f b34 h28
  refine RL.mv rfl rfl rfl ?_
  refine RL.binI (v := .bool (y11.2.1 != (5 : Int))) rfl rfl rfl rfl rfl ?_
  refine RL.pickF rfl rfl rfl rfl ?_
  refine RL.mv rfl rfl rfl ?_
  refine RL.split (t := 48) rfl (fun b35 => ?_) (fun b35 => ?_)
  ·replace h28 := ite_t b35 h28
   refine RL.skip rfl rfl ?_
   refine RL.skip rfl rfl ?_
   refine RL.pickT rfl rfl rfl rfl ?_
   refine RL.mv rfl rfl rfl ?_
   refine RL.skip rfl rfl ?_
   refine RL.skip rfl rfl ?_
   refine RL.pickT rfl rfl rfl rfl ?_
   refine RL.fin ?_
   cases h28
   exact fun a w st => mid_intro true h29 (St.cut [0, 1] ⟨rfl, rfl, rfl, rfl, rfl, trivial⟩ (by decide) rfl st)
  replace h28 := ite_f b35 h28
  refine RL.mv rfl rfl rfl ?_
  refine RL.binI (v := .bool (y11.2.2.1 != (4 : Int))) rfl rfl rfl rfl rfl ?_
  refine RL.pickF rfl rfl rfl rfl ?_
  refine RL.mv rfl rfl rfl ?_
  refine RL.split (t := 52) rfl (fun b36 => ?_) (fun b36 => ?_)
  ·replace h28 := ite_t b36 h28
   refine RL.skip rfl rfl ?_
   refine RL.skip rfl rfl ?_
   refine RL.pickT rfl rfl rfl rfl ?_
   refine RL.fin ?_
   cases h28
   exact fun a w st => mid_intro true h29 (St.cut [0, 1] ⟨rfl, rfl, rfl, rfl, rfl, trivial⟩ (by decide) rfl st)
  replace h28 := ite_f b36 h28
  obtain ⟨y37, e38, h28⟩ := bind_some h28
  refine RL.callV (v := .bool y37) (vs := []) Try_fit31 rfl (Or.inl rfl) rfl rfl rfl rfl (fun U w hU hW hL => pk_sells_c U w hU  _ e38) ?_
  refine RL.notB rfl rfl rfl ?_
  refine RL.pickF rfl rfl rfl rfl ?_
  refine RL.fin ?_
  cases h28
  exact fun a w st => mid_intro (!y37) h29 (St.cut [0, 1] ⟨rfl, rfl, rfl, rfl, rfl, trivial⟩ (by decide) rfl st)
 rintro x25 h39
 have h40 := h30 _ h39
 try dsimp only at h40
 refine GL.weak (env' := [(0, v0), (1, v1), (2, .int .i64 x2), (3, .int .i64 x3), (55, .bool x25)]) (L' := [imm (TR.sl TR.int) v0 x0, imm (TR.sl TR.int) v1 x1]) (fun _ _ st => st) ?_
 refine GL.cond rfl (fun b41 => ?_) (fun b41 => ?_)
 ·replace h40 := ite_t b41 h40
  refine GL.seq ?_
  refine GL.region ?_
  refine RL.asg rfl rfl rfl ?_
  refine RL.finG ?_
  have h40 := Option.some.inj h40
  subst h40
  exact GL.ret (Gx.ret (v := .bool false) (res1 rfl rfl) (fun a w st => st.toPostV))
 replace h40 := ite_f b41 h40
 refine GL.skip ?_
 refine GL.seq ?_
 refine GL.region ?_
 refine RL.mv rfl rfl rfl ?_
 obtain ⟨y48, e49, h40⟩ := bind_some h40
 refine RL.call (vs := [v0]) Try_fit32 rfl rfl rfl rfl rfl (fun S f w hS hW hi => pk_BidsOf_c S w hS _ _ (hi 0 _ rfl) _ e49) ?_
 intro v50
 refine RL.mv rfl rfl rfl ?_
 obtain ⟨y51, e52, h40⟩ := bind_some h40
 refine RL.call (vs := [v1]) Try_fit32 rfl rfl rfl rfl rfl (fun S f w hS hW hi => pk_BidsOf_c S w hS _ _ (hi 1 _ rfl) _ e52) ?_
 intro v53
 refine RL.reL (L' := [imm (TR.sl TR.int) v0 x0, imm (TR.sl TR.int) v1 x1, own 3 TR.int v50 y48, own 3 TR.int v53 y51]) rfl ?_
 refine RL.asg rfl rfl rfl ?_
 refine RL.asg rfl rfl rfl ?_
 refine RL.finG ?_
 refine GL.seq ?_
 refine GL.region ?_
 refine RL.mv rfl rfl rfl ?_
 refine RL.mv rfl rfl rfl ?_
 obtain ⟨y56, e57, h40⟩ := bind_some h40
 refine RL.callV (v := .tuple #[.int .i64 y56.1, .int .i64 y56.2.1, .int .i64 y56.2.2.1, .int .i64 y56.2.2.2]) (vs := [v50, v53]) Try_fit37 rfl (Or.inl rfl) rfl rfl rfl rfl (fun U w hU hW hL => units_Fair_c U w hU _ _ (hL 2 _ _ rfl Seen.own) _ _ (hL 3 _ _ rfl Seen.own) _ e57) ?_
 refine RL.mv rfl rfl rfl ?_
 refine RL.ext rfl rfl rfl rfl ?_
 refine RL.ext rfl rfl rfl rfl ?_
 refine RL.ext rfl rfl rfl rfl ?_
 refine RL.ext rfl rfl rfl rfl ?_
 refine RL.asg rfl rfl rfl ?_
 refine RL.asg rfl rfl rfl ?_
 refine RL.asg rfl rfl rfl ?_
 refine RL.asg rfl rfl rfl ?_
 refine RL.finG ?_
 refine GL.seq ?_
 refine GL.seq ?_
 refine GL.region ?_
 refine RL.mv rfl rfl rfl ?_
 refine RL.binI (v := .bool (y56.2.2.2 != (0 : Int))) rfl rfl rfl rfl rfl ?_
 refine RL.finG ?_
 refine GL.cond rfl (fun b58 => ?_) (fun b58 => ?_)
 ·replace h40 := ite_t b58 h40
  refine GL.seq ?_
  obtain ⟨y64, K65, h66, h67, h68, h69, h70⟩ := bindR_K h40
  refine GL.join (ι := Bool) (fun (p : Bool) => [(8, .bool p)]) (fun (p : Bool) => []) (fun (p : Bool) => K65 (.nx p)) ?_ ?_
  ·skip
   refine GL.region ?_
   refine RL.mv rfl rfl rfl ?_
   refine RL.binI (v := .bool (y56.1 == (0 : Int))) rfl rfl rfl rfl rfl ?_
   refine RL.mv rfl rfl rfl ?_
   refine RL.split (t := 72) rfl (fun b71 => ?_) (fun b71 => ?_)
   ·replace h66 := ite_t b71 h66
    refine RL.mv rfl rfl rfl ?_
    refine RL.binI (v := .bool (y56.2.1 == (0 : Int))) rfl rfl rfl rfl rfl ?_
    refine RL.pickT rfl rfl rfl rfl ?_
    refine RL.mv rfl rfl rfl ?_
    refine RL.split (t := 76) rfl (fun b72 => ?_) (fun b72 => ?_)
    ·replace h66 := ite_t b72 h66
     refine RL.mv rfl rfl rfl ?_
     refine RL.binI (v := .bool (y56.2.2.1 == (0 : Int))) rfl rfl rfl rfl rfl ?_
     refine RL.pickT rfl rfl rfl rfl ?_
     refine RL.asg rfl rfl rfl ?_
     refine RL.fin ?_
     cases h66
     exact fun a w st => mid_intro (y56.2.2.1 == (0 : Int)) h67 (St.cut [] ⟨rfl, trivial⟩ (by decide) rfl st)
    replace h66 := ite_f b72 h66
    refine RL.skip rfl rfl ?_
    refine RL.skip rfl rfl ?_
    refine RL.pickF rfl rfl rfl rfl ?_
    refine RL.asg rfl rfl rfl ?_
    refine RL.fin ?_
    cases h66
    exact fun a w st => mid_intro false h67 (St.cut [] ⟨rfl, trivial⟩ (by decide) rfl st)
   replace h66 := ite_f b71 h66
   refine RL.skip rfl rfl ?_
   refine RL.skip rfl rfl ?_
   refine RL.pickF rfl rfl rfl rfl ?_
   refine RL.mv rfl rfl rfl ?_
   refine RL.skip rfl rfl ?_
   refine RL.skip rfl rfl ?_
   refine RL.pickF rfl rfl rfl rfl ?_
   refine RL.asg rfl rfl rfl ?_
   refine RL.fin ?_
   cases h66
   exact fun a w st => mid_intro false h67 (St.cut [] ⟨rfl, trivial⟩ (by decide) rfl st)
  rintro x63 h73
  have h74 := h68 _ h73
  try dsimp only at h74
  refine GL.weak (env' := [(8, .bool x63)]) (L' := []) (fun _ _ st => st) ?_
  have h74 := Option.some.inj h74
  subst h74
  exact GL.ret (Gx.ret (v := .bool x63) (res1 rfl rfl) (fun a w st => st.toPostV))
 replace h40 := ite_f b58 h40
 refine GL.skip ?_
 refine GL.seq ?_
 refine GL.region ?_
 refine RL.asg rfl rfl rfl ?_
 refine RL.asg rfl rfl rfl ?_
 refine RL.finG ?_
 refine GL.seq ?_
 refine GL.seq ?_
 refine GL.region ?_
 refine RL.mv rfl rfl rfl ?_
 refine RL.lenS 2 Try.underlying41 rfl rfl rfl rfl SlOf.own ?_
 refine RL.mv rfl rfl rfl ?_
 refine RL.finG ?_
 refine GL.lenOwn 2 rfl (fun n81 => ?_)
 obtain ⟨y82, K83, h84, h85, h86, h87, h88⟩ := bindR_K h40
 refine GL.join (ι := Int) (fun (p : Int) => [(2, .int .i64 x2), (3, .int .i64 x3), (13, v50), (14, v53), (15, .int .i64 y56.1), (16, .int .i64 y56.2.1), (17, .int .i64 y56.2.2.1), (19, .int .i64 p), (20, .int .i64 (0 : Int))]) (fun (p : Int) => [own 3 TR.int v50 y48, own 3 TR.int v53 y51]) (fun (p : Int) => K83 (.nx p)) ?_ ?_
 ·refine GL.block ?_
  refine GL.loop (ι := Nat × Nat × Int) (fun (p : Nat × Nat × Int) => [(2, .int .i64 x2), (3, .int .i64 x3), (13, v50), (14, v53), (15, .int .i64 y56.1), (16, .int .i64 y56.2.1), (17, .int .i64 y56.2.2.1), (19, .int .i64 p.2.2), (20, .int .i64 (0 : Int)), (80, v50), (81, .int .i64 ((y48).length : Int)), (82, .int .i64 (p.1 : Int))]) (fun (p : Nat × Nat × Int) => [own 3 TR.int v50 y48, own 3 TR.int v53 y51]) (fun (p : Nat × Nat × Int) => p.1 + p.2.1 = (y48).length ∧ rangeN (pk_UnitsFair_b1 y48 y56) p.2.1 p.1 p.2.2 = some y82) (fun (p : Nat × Nat × Int) => p.2.1) (0, (y48).length, (0 : Int)) ⟨by simp, h84⟩ (fun a w st => St.cut [2, 3] ⟨rfl, rfl, rfl, rfl, rfl, rfl, rfl, rfl, rfl, rfl, rfl, rfl, trivial⟩ (by decide) rfl st) ?_
  rintro ⟨i89, r90, x75⟩ ⟨h95, h94⟩
  try dsimp only at h95 h94
  refine GL.weak (env' := [(2, .int .i64 x2), (3, .int .i64 x3), (13, v50), (14, v53), (15, .int .i64 y56.1), (16, .int .i64 y56.2.1), (17, .int .i64 y56.2.2.1), (19, .int .i64 x75), (20, .int .i64 (0 : Int)), (80, v50), (81, .int .i64 ((y48).length : Int)), (82, .int .i64 (i89 : Int))]) (L' := [own 3 TR.int v50 y48, own 3 TR.int v53 y51]) (fun _ _ st => st) ?_
  refine GL.seq ?_
  refine GL.region ?_
  refine RL.binI (v := .bool (decide ((i89 : Int) < ((y48).length : Int)))) rfl rfl rfl rfl rfl ?_
  refine RL.finG ?_
  refine GL.seq ?_
  refine GL.cond rfl (fun b97 => ?_) (fun b97 => ?_)
  ·have h98 : i89 < (y48).length := by have := of_decide_eq_true b97; omega
   obtain ⟨r99, hr⟩ : ∃ m, r90 = m + 1 := ⟨r90 - 1, by omega⟩
   subst hr
   obtain ⟨z91, h92, h93⟩ := rangeN_some h94
   unfold pk_UnitsFair_b1 at h92
   try dsimp only at h92
   refine GL.skip ?_
   refine GL.seq ?_
   refine GL.block ?_
   refine GL.seq ?_
   refine GL.region ?_
   obtain ⟨y102, e103, h92⟩ := bind_some h92
   refine RL.idxS (sz := 1) 0 Try.underlying41 Try_ln3 rfl rfl rfl rfl rfl SlOf.own (idx_some e103).1 (idx_some e103).2.1 ?_
   refine RL.ldSx (i := i89) (e' := y102) 0 Ex.ik Try_ln3 rfl rfl rfl rfl SlOf.own (idx_some e103).2.2 Part.self ?_
   refine RL.asg rfl rfl rfl ?_
   refine RL.finG ?_
   refine GL.seq ?_
   refine GL.region ?_
   refine RL.mv rfl rfl rfl ?_
   refine RL.mv rfl rfl rfl ?_
   refine RL.binI (v := .bool (decide (y102 > y56.2.1))) rfl rfl rfl rfl rfl ?_
   refine RL.finG ?_
   refine GL.cond rfl (fun b104 => ?_) (fun b104 => ?_)
   ·replace h92 := ite_t b104 h92
    refine GL.region ?_
    refine RL.mv rfl rfl rfl ?_
    refine RL.binI (v := .int .i64 (wadd x75 (1 : Int))) rfl rfl rfl rfl rfl ?_
    refine RL.asg rfl rfl rfl ?_
    refine RL.finG ?_
    refine GL.nilB ?_
    refine GL.region ?_
    refine RL.binI (v := .int .i64 ((i89 + 1 : Nat) : Int)) rfl rfl rfl rfl (binI_succ i89 (by omega)) ?_
    refine RL.mv rfl rfl rfl ?_
    refine RL.fin ?_
    cases h92
    exact fun a w st => lop_intro (i89 + 1, r99, wadd x75 (1 : Int)) ⟨by show i89 + 1 + r99 = (y48).length; omega, h93⟩ (by simp) (St.cut [0, 1] ⟨rfl, rfl, rfl, rfl, rfl, rfl, rfl, rfl, rfl, rfl, rfl, rfl, trivial⟩ (by decide) rfl st)
   replace h92 := ite_f b104 h92
   refine GL.skip ?_
   refine GL.nilB ?_
   refine GL.region ?_
   refine RL.binI (v := .int .i64 ((i89 + 1 : Nat) : Int)) rfl rfl rfl rfl (binI_succ i89 (by omega)) ?_
   refine RL.mv rfl rfl rfl ?_
   refine RL.fin ?_
   cases h92
   exact fun a w st => lop_intro (i89 + 1, r99, x75) ⟨by show i89 + 1 + r99 = (y48).length; omega, h93⟩ (by simp) (St.cut [0, 1] ⟨rfl, rfl, rfl, rfl, rfl, rfl, rfl, rfl, rfl, rfl, rfl, rfl, trivial⟩ (by decide) rfl st)
  have h98 : ¬ i89 < (y48).length := by have := of_decide_eq_false b97; omega
  obtain rfl : r90 = 0 := by omega
  replace h94 : some (Fl.nx _) = some y82 := h94
  cases h94
  exact GL.exit (fun a w st => mid_intro x75 h85 (St.cut [0, 1] ⟨rfl, rfl, rfl, rfl, rfl, rfl, rfl, rfl, rfl, trivial⟩ (by decide) rfl st))
 rintro x75 h105
 have h106 := h86 _ h105
 try dsimp only at h106
 refine GL.weak (env' := [(2, .int .i64 x2), (3, .int .i64 x3), (13, v50), (14, v53), (15, .int .i64 y56.1), (16, .int .i64 y56.2.1), (17, .int .i64 y56.2.2.1), (19, .int .i64 x75), (20, .int .i64 (0 : Int))]) (L' := [own 3 TR.int v50 y48, own 3 TR.int v53 y51]) (fun _ _ st => st) ?_
 refine GL.seq ?_
 refine GL.seq ?_
 refine GL.region ?_
 refine RL.mv rfl rfl rfl ?_
 refine RL.lenS 1 Try.underlying41 rfl rfl rfl rfl SlOf.own ?_
 refine RL.mv rfl rfl rfl ?_
 refine RL.finG ?_
 refine GL.lenOwn 1 rfl (fun n113 => ?_)
 obtain ⟨y114, K115, h116, h117, h118, h119, h120⟩ := bindR_K h106
 refine GL.join (ι := Int) (fun (p : Int) => [(2, .int .i64 x2), (3, .int .i64 x3), (13, v50), (14, v53), (15, .int .i64 y56.1), (16, .int .i64 y56.2.1), (17, .int .i64 y56.2.2.1), (19, .int .i64 x75), (20, .int .i64 p)]) (fun (p : Int) => [own 3 TR.int v50 y48, own 3 TR.int v53 y51]) (fun (p : Int) => K115 (.nx p)) ?_ ?_
 ·refine GL.block ?_
  refine GL.loop (ι := Nat × Nat × Int) (fun (p : Nat × Nat × Int) => [(2, .int .i64 x2), (3, .int .i64 x3), (13, v50), (14, v53), (15, .int .i64 y56.1), (16, .int .i64 y56.2.1), (17, .int .i64 y56.2.2.1), (19, .int .i64 x75), (20, .int .i64 p.2.2), (92, v53), (93, .int .i64 ((y51).length : Int)), (94, .int .i64 (p.1 : Int))]) (fun (p : Nat × Nat × Int) => [own 3 TR.int v50 y48, own 3 TR.int v53 y51]) (fun (p : Nat × Nat × Int) => p.1 + p.2.1 = (y51).length ∧ rangeN (pk_UnitsFair_b2 y51 y56) p.2.1 p.1 p.2.2 = some y114) (fun (p : Nat × Nat × Int) => p.2.1) (0, (y51).length, (0 : Int)) ⟨by simp, h116⟩ (fun a w st => St.cut [0, 1] ⟨rfl, rfl, rfl, rfl, rfl, rfl, rfl, rfl, rfl, rfl, rfl, rfl, trivial⟩ (by decide) rfl st) ?_
  rintro ⟨i121, r122, x107⟩ ⟨h127, h126⟩
  try dsimp only at h127 h126
  refine GL.weak (env' := [(2, .int .i64 x2), (3, .int .i64 x3), (13, v50), (14, v53), (15, .int .i64 y56.1), (16, .int .i64 y56.2.1), (17, .int .i64 y56.2.2.1), (19, .int .i64 x75), (20, .int .i64 x107), (92, v53), (93, .int .i64 ((y51).length : Int)), (94, .int .i64 (i121 : Int))]) (L' := [own 3 TR.int v50 y48, own 3 TR.int v53 y51]) (fun _ _ st => st) ?_
  refine GL.seq ?_
  refine GL.region ?_
  refine RL.binI (v := .bool (decide ((i121 : Int) < ((y51).length : Int)))) rfl rfl rfl rfl rfl ?_
  refine RL.finG ?_
  refine GL.seq ?_
  refine GL.cond rfl (fun b129 => ?_) (fun b129 => ?_)
  ·have h130 : i121 < (y51).length := by have := of_decide_eq_true b129; omega
   obtain ⟨r131, hr⟩ : ∃ m, r122 = m + 1 := ⟨r122 - 1, by omega⟩
   subst hr
   obtain ⟨z123, h124, h125⟩ := rangeN_some h126
   unfold pk_UnitsFair_b2 at h124
   try dsimp only at h124
   refine GL.skip ?_
   refine GL.seq ?_
   refine GL.block ?_
   refine GL.seq ?_
   refine GL.region ?_
   obtain ⟨y134, e135, h124⟩ := bind_some h124
   refine RL.idxS (sz := 1) 1 Try.underlying41 Try_ln3 rfl rfl rfl rfl rfl SlOf.own (idx_some e135).1 (idx_some e135).2.1 ?_
   refine RL.ldSx (i := i121) (e' := y134) 1 Ex.ik Try_ln3 rfl rfl rfl rfl SlOf.own (idx_some e135).2.2 Part.self ?_
   refine RL.asg rfl rfl rfl ?_
   refine RL.finG ?_
   refine GL.seq ?_
   refine GL.region ?_
   refine RL.mv rfl rfl rfl ?_
   refine RL.mv rfl rfl rfl ?_
   refine RL.binI (v := .bool (decide (y134 < y56.2.2.1))) rfl rfl rfl rfl rfl ?_
   refine RL.finG ?_
   refine GL.cond rfl (fun b136 => ?_) (fun b136 => ?_)
   ·replace h124 := ite_t b136 h124
    refine GL.region ?_
    refine RL.mv rfl rfl rfl ?_
    refine RL.binI (v := .int .i64 (wadd x107 (1 : Int))) rfl rfl rfl rfl rfl ?_
    refine RL.asg rfl rfl rfl ?_
    refine RL.finG ?_
    refine GL.nilB ?_
    refine GL.region ?_
    refine RL.binI (v := .int .i64 ((i121 + 1 : Nat) : Int)) rfl rfl rfl rfl (binI_succ i121 (by omega)) ?_
    refine RL.mv rfl rfl rfl ?_
    refine RL.fin ?_
    cases h124
    exact fun a w st => lop_intro (i121 + 1, r131, wadd x107 (1 : Int)) ⟨by show i121 + 1 + r131 = (y51).length; omega, h125⟩ (by simp) (St.cut [0, 1] ⟨rfl, rfl, rfl, rfl, rfl, rfl, rfl, rfl, rfl, rfl, rfl, rfl, trivial⟩ (by decide) rfl st)
   replace h124 := ite_f b136 h124
   refine GL.skip ?_
   refine GL.nilB ?_
   refine GL.region ?_
   refine RL.binI (v := .int .i64 ((i121 + 1 : Nat) : Int)) rfl rfl rfl rfl (binI_succ i121 (by omega)) ?_
   refine RL.mv rfl rfl rfl ?_
   refine RL.fin ?_
   cases h124
   exact fun a w st => lop_intro (i121 + 1, r131, x107) ⟨by show i121 + 1 + r131 = (y51).length; omega, h125⟩ (by simp) (St.cut [0, 1] ⟨rfl, rfl, rfl, rfl, rfl, rfl, rfl, rfl, rfl, rfl, rfl, rfl, trivial⟩ (by decide) rfl st)
  have h130 : ¬ i121 < (y51).length := by have := of_decide_eq_false b129; omega
  obtain rfl : r122 = 0 := by omega
  replace h126 : some (Fl.nx _) = some y114 := h126
  cases h126
  exact GL.exit (fun a w st => mid_intro x107 h117 (St.cut [0, 1] ⟨rfl, rfl, rfl, rfl, rfl, rfl, rfl, rfl, rfl, trivial⟩ (by decide) rfl st))
 rintro x107 h137
 have h138 := h118 _ h137
 try dsimp only at h138
 refine GL.weak (env' := [(2, .int .i64 x2), (3, .int .i64 x3), (13, v50), (14, v53), (15, .int .i64 y56.1), (16, .int .i64 y56.2.1), (17, .int .i64 y56.2.2.1), (19, .int .i64 x75), (20, .int .i64 x107)]) (L' := [own 3 TR.int v50 y48, own 3 TR.int v53 y51]) (fun _ _ st => st) ?_
 refine GL.seq ?_
 refine GL.seq ?_
 obtain ⟨y146, K147, h148, h149, h150, h151, h152⟩ := bindR_K h138
 refine GL.join (ι := Bool) (fun (p : Bool) => [(2, .int .i64 x2), (3, .int .i64 x3), (13, v50), (14, v53), (16, .int .i64 y56.2.1), (120, .bool p)]) (fun (p : Bool) => [own 3 TR.int v50 y48, own 3 TR.int v53 y51]) (fun (p : Bool) => K147 (.nx p)) ?_ ?_
 ·skip
  refine GL.region ?_
  refine RL.mv rfl rfl rfl ?_
  refine RL.mv rfl rfl rfl ?_
  refine RL.binI (v := .bool (decide (y56.2.1 < y56.2.2.1))) rfl rfl rfl rfl rfl ?_
  refine RL.mv rfl rfl rfl ?_
  refine RL.split (t := 107) rfl (fun b153 => ?_) (fun b153 => ?_)
  ·replace h148 := ite_t b153 h148
   refine RL.skip rfl rfl ?_
   refine RL.skip rfl rfl ?_
   refine RL.pickT rfl rfl rfl rfl ?_
   refine RL.mv rfl rfl rfl ?_
   refine RL.skip rfl rfl ?_
   refine RL.skip rfl rfl ?_
   refine RL.skip rfl rfl ?_
   refine RL.pickT rfl rfl rfl rfl ?_
   refine RL.mv rfl rfl rfl ?_
   refine RL.skip rfl rfl ?_
   refine RL.skip rfl rfl ?_
   refine RL.skip rfl rfl ?_
   refine RL.pickT rfl rfl rfl rfl ?_
   refine RL.fin ?_
   cases h148
   exact fun a w st => mid_intro true h149 (St.cut [0, 1] ⟨rfl, rfl, rfl, rfl, rfl, rfl, trivial⟩ (by decide) rfl st)
  replace h148 := ite_f b153 h148
  refine RL.mv rfl rfl rfl ?_
  refine RL.binI (v := .bool (decide (y56.1 < (0 : Int)))) rfl rfl rfl rfl rfl ?_
  refine RL.pickF rfl rfl rfl rfl ?_
  refine RL.mv rfl rfl rfl ?_
  refine RL.split (t := 111) rfl (fun b154 => ?_) (fun b154 => ?_)
  ·replace h148 := ite_t b154 h148
   refine RL.skip rfl rfl ?_
   refine RL.skip rfl rfl ?_
   refine RL.skip rfl rfl ?_
   refine RL.pickT rfl rfl rfl rfl ?_
   refine RL.mv rfl rfl rfl ?_
   refine RL.skip rfl rfl ?_
   refine RL.skip rfl rfl ?_
   refine RL.skip rfl rfl ?_
   refine RL.pickT rfl rfl rfl rfl ?_
   refine RL.fin ?_
   cases h148
   exact fun a w st => mid_intro true h149 (St.cut [0, 1] ⟨rfl, rfl, rfl, rfl, rfl, rfl, trivial⟩ (by decide) rfl st)
  replace h148 := ite_f b154 h148
  refine RL.mv rfl rfl rfl ?_
  refine RL.mv rfl rfl rfl ?_
  refine RL.binI (v := .bool (decide (x75 > y56.1))) rfl rfl rfl rfl rfl ?_
  refine RL.pickF rfl rfl rfl rfl ?_
  refine RL.mv rfl rfl rfl ?_
  refine RL.split (t := 116) rfl (fun b155 => ?_) (fun b155 => ?_)
  ·replace h148 := ite_t b155 h148
   refine RL.skip rfl rfl ?_
   refine RL.skip rfl rfl ?_
   refine RL.skip rfl rfl ?_
   refine RL.pickT rfl rfl rfl rfl ?_
   refine RL.fin ?_
   cases h148
   exact fun a w st => mid_intro true h149 (St.cut [0, 1] ⟨rfl, rfl, rfl, rfl, rfl, rfl, trivial⟩ (by decide) rfl st)
  replace h148 := ite_f b155 h148
  refine RL.mv rfl rfl rfl ?_
  refine RL.mv rfl rfl rfl ?_
  refine RL.binI (v := .bool (decide (x107 > y56.1))) rfl rfl rfl rfl rfl ?_
  refine RL.pickF rfl rfl rfl rfl ?_
  refine RL.fin ?_
  cases h148
  exact fun a w st => mid_intro (decide (x107 > y56.1)) h149 (St.cut [0, 1] ⟨rfl, rfl, rfl, rfl, rfl, rfl, trivial⟩ (by decide) rfl st)
 rintro x145 h156
 have h157 := h150 _ h156
 try dsimp only at h157
 refine GL.weak (env' := [(2, .int .i64 x2), (3, .int .i64 x3), (13, v50), (14, v53), (16, .int .i64 y56.2.1), (120, .bool x145)]) (L' := [own 3 TR.int v50 y48, own 3 TR.int v53 y51]) (fun _ _ st => st) ?_
 refine GL.cond rfl (fun b158 => ?_) (fun b158 => ?_)
 ·replace h157 := ite_t b158 h157
  refine GL.seq ?_
  refine GL.region ?_
  refine RL.asg rfl rfl rfl ?_
  refine RL.finG ?_
  have h157 := Option.some.inj h157
  subst h157
  exact GL.ret (Gx.ret (v := .bool false) (res1 rfl rfl) (fun a w st => st.toPostV))
 replace h157 := ite_f b158 h157
 refine GL.skip ?_
 refine GL.seq ?_
 refine GL.region ?_
 refine RL.mv rfl rfl rfl ?_
 refine RL.mv rfl rfl rfl ?_
 refine RL.lenS 0 Try.underlying41 rfl rfl rfl rfl SlOf.own ?_
 obtain ⟨y163, e164, h157⟩ := bind_some h157
 refine RL.callC (v := .int .i64 y163) (vs := [.int .i64 x2, .int .i64 ((y48).length : Int)]) Try_fit33 rfl rfl rfl rfl (fun U w hU hW hL => pk_Within_c U w hU x2 ((y48).length : Int) _ e164) ?_
 refine RL.mv rfl rfl rfl ?_
 obtain ⟨y165, e166, h157⟩ := bind_some h157
 refine RL.callC (v := .int .i64 y165) (vs := [.int .i64 x3, .int .i64 (130 : Int)]) Try_fit33 rfl rfl rfl rfl (fun U w hU hW hL => pk_Within_c U w hU x3 (130 : Int) _ e166) ?_
 refine RL.asg rfl rfl rfl ?_
 refine RL.asg rfl rfl rfl ?_
 refine RL.finG ?_
 refine GL.seq ?_
 refine GL.region ?_
 refine RL.mv rfl rfl rfl ?_
 obtain ⟨y170, e171, h157⟩ := bind_some h157
 refine RL.callU (vs := [v50]) (LR := fun (o : Value) => [own 3 TR.int o y170]) (fun o => ⟨Loc.own TR.flatT_ik, trivial⟩) Try_fit36 rfl rfl rfl rfl rfl (fun U w hU hW hL => slices_Clone_int_int_c U w hU _ _ (hL 0 _ _ rfl Seen.own) _ e171) ?_
 intro v172
 refine RL.asg rfl rfl rfl ?_
 refine RL.finG ?_
 refine GL.seq ?_
 refine GL.region ?_
 refine RL.mv rfl rfl rfl ?_
 refine RL.mv rfl rfl rfl ?_
 refine RL.mv rfl rfl rfl ?_
 obtain ⟨y175, e176, h157⟩ := bind_some h157
 refine RL.idxS (sz := 1) 2 Try.underlying41 Try_ln3 rfl rfl rfl rfl rfl SlOf.own (idx_some e176).1 (idx_some e176).2.1 ?_
 refine RL.stS (i := (y163).toNat) (e' := y165) (e1 := y165) (r := TR.int) 2 Try_ln3 rfl rfl rfl rfl VR.int rfl (idx_some e176).2.2 Upd.self ?_
 refine RL.finG ?_
 refine GL.seq ?_
 refine GL.region ?_
 refine RL.mv rfl rfl rfl ?_
 refine RL.mv rfl rfl rfl ?_
 obtain ⟨y179, e180, h157⟩ := bind_some h157
 refine RL.callV (v := .tuple #[.int .i64 y179.1, .int .i64 y179.2.1, .int .i64 y179.2.2.1, .int .i64 y179.2.2.2]) (vs := [v172, v53]) Try_fit37 rfl (Or.inl rfl) rfl rfl rfl rfl (fun U w hU hW hL => units_Fair_c U w hU _ _ (hL 2 _ _ rfl Seen.own) _ _ (hL 1 _ _ rfl Seen.own) _ e180) ?_
 refine RL.mv rfl rfl rfl ?_
 refine RL.ext rfl rfl rfl rfl ?_
 refine RL.ext rfl rfl rfl rfl ?_
 refine RL.ext rfl rfl rfl rfl ?_
 refine RL.ext rfl rfl rfl rfl ?_
 refine RL.asg rfl rfl rfl ?_
 refine RL.asg rfl rfl rfl ?_
 refine RL.asg rfl rfl rfl ?_
 refine RL.asg rfl rfl rfl ?_
 refine RL.finG ?_
 refine GL.seq ?_
 refine GL.seq ?_
 obtain ⟨y190, K191, h192, h193, h194, h195, h196⟩ := bindR_K h157
 refine GL.join (ι := Bool) (fun (p : Bool) => [(16, .int .i64 y56.2.1), (27, .int .i64 y179.2.1), (155, .bool p)]) (fun (p : Bool) => []) (fun (p : Bool) => K191 (.nx p)) ?_ ?_
 ·skip
  refine GL.region ?_
  refine RL.mv rfl rfl rfl ?_
  refine RL.mv rfl rfl rfl ?_
  obtain ⟨y197, e198, h192⟩ := bind_some h192
  refine RL.idxS (sz := 1) 0 Try.underlying41 Try_ln3 rfl rfl rfl rfl rfl SlOf.own (idx_some e198).1 (idx_some e198).2.1 ?_
  refine RL.ldSx (i := (y163).toNat) (e' := y197) 0 Ex.ik Try_ln3 rfl rfl rfl rfl SlOf.own (idx_some e198).2.2 Part.self ?_
  refine RL.mv rfl rfl rfl ?_
  refine RL.binI (v := .bool (decide (y197 > y56.2.1))) rfl rfl rfl rfl rfl ?_
  refine RL.mv rfl rfl rfl ?_
  refine RL.split (t := 147) rfl (fun b199 => ?_) (fun b199 => ?_)
  ·replace h192 := ite_t b199 h192
   refine RL.mv rfl rfl rfl ?_
   refine RL.binI (v := .bool (y179.2.2.2 == (0 : Int))) rfl rfl rfl rfl rfl ?_
   refine RL.pickT rfl rfl rfl rfl ?_
   refine RL.mv rfl rfl rfl ?_
   refine RL.split (t := 151) rfl (fun b200 => ?_) (fun b200 => ?_)
   ·replace h192 := ite_t b200 h192
    refine RL.mv rfl rfl rfl ?_
    refine RL.mv rfl rfl rfl ?_
    refine RL.binI (v := .bool (decide (y165 > y179.2.1))) rfl rfl rfl rfl rfl ?_
    refine RL.pickT rfl rfl rfl rfl ?_
    refine RL.fin ?_
    cases h192
    exact fun a w st => mid_intro (decide (y165 > y179.2.1)) h193 (St.cut [] ⟨rfl, rfl, rfl, trivial⟩ (by decide) rfl st)
   replace h192 := ite_f b200 h192
   refine RL.skip rfl rfl ?_
   refine RL.skip rfl rfl ?_
   refine RL.skip rfl rfl ?_
   refine RL.pickF rfl rfl rfl rfl ?_
   refine RL.fin ?_
   cases h192
   exact fun a w st => mid_intro false h193 (St.cut [] ⟨rfl, rfl, rfl, trivial⟩ (by decide) rfl st)
  replace h192 := ite_f b199 h192
  refine RL.skip rfl rfl ?_
  refine RL.skip rfl rfl ?_
  refine RL.pickF rfl rfl rfl rfl ?_
  refine RL.mv rfl rfl rfl ?_
  refine RL.skip rfl rfl ?_
  refine RL.skip rfl rfl ?_
  refine RL.skip rfl rfl ?_
  refine RL.pickF rfl rfl rfl rfl ?_
  refine RL.fin ?_
  cases h192
  exact fun a w st => mid_intro false h193 (St.cut [] ⟨rfl, rfl, rfl, trivial⟩ (by decide) rfl st)
 rintro x189 h201
 have h202 := h194 _ h201
 try dsimp only at h202
 refine GL.weak (env' := [(16, .int .i64 y56.2.1), (27, .int .i64 y179.2.1), (155, .bool x189)]) (L' := []) (fun _ _ st => st) ?_
 refine GL.cond rfl (fun b203 => ?_) (fun b203 => ?_)
 ·replace h202 := ite_t b203 h202
  refine GL.seq ?_
  refine GL.region ?_
  refine RL.mv rfl rfl rfl ?_
  refine RL.mv rfl rfl rfl ?_
  refine RL.binI (v := .bool (decide (y179.2.1 ≥ y56.2.1))) rfl rfl rfl rfl rfl ?_
  refine RL.asg rfl rfl rfl ?_
  refine RL.finG ?_
  have h202 := Option.some.inj h202
  subst h202
  exact GL.ret (Gx.ret (v := .bool (decide (y179.2.1 ≥ y56.2.1))) (res1 rfl rfl) (fun a w st => st.toPostV))
 replace h202 := ite_f b203 h202
 refine GL.skip ?_
 refine GL.seq ?_
 refine GL.region ?_
 refine RL.asg rfl rfl rfl ?_
 refine RL.finG ?_
 have h202 := Option.some.inj h202
 subst h202
 exact GL.ret (Gx.ret (v := .bool true) (res1 rfl rfl) (fun a w st => st.toPostV))
end Go.Wk
