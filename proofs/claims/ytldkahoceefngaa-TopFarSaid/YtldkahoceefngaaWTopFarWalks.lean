/- Each function comes to what its model says; printed by a program of this repository. -/
import Derived.Test.YtldkahoceefngaaProg
import Derived.Test.YtldkahoceefngaaWTopFarModels
namespace Go.Wk
open Go.Fw Go.Mo Go.Proofs Go.RowKit
set_option linter.unusedVariables false
set_option maxRecDepth 100000
theorem Try_info3 : (Try.prog.info? 3).map (fun i => (i.zero, i.size, i.bytes)) = some (some (.int .i64 0), 1, 8) := by kernel_rfl
theorem Try_ln3 : Ln Try.prog 3 1 false := Ln.of Try_info3 Try.underlying3 rfl
theorem Try_lo3 : LnO Try.prog 3 1 [.int .i64 0] := LnO.of Try_info3 rfl rfl (by decide) (by decide)
theorem Try_info4 : (Try.prog.info? 4).map (fun i => (i.zero, i.size, i.bytes)) = some (some (.bool false), 1, 1) := by kernel_rfl
theorem Try_ln4 : Ln Try.prog 4 1 false := Ln.of Try_info4 Try.underlying4 rfl
theorem Try_lo4 : LnO Try.prog 4 1 [.bool false] := LnO.of Try_info4 rfl rfl (by decide) (by decide)
theorem Try_info23 : (Try.prog.info? 23).map (fun i => (i.zero, i.size, i.bytes)) = some (some (.slice none 0 0), 1, 24) := by kernel_rfl
theorem Try_ln23 : Ln Try.prog 23 1 false := Ln.of Try_info23 Try.underlying23 rfl
theorem Try_lo23 : LnO Try.prog 23 1 [.slice none 0 0] := LnO.of Try_info23 rfl rfl (by decide) (by decide)
theorem Try_info27 : (Try.prog.info? 27).map (fun i => (i.zero, i.size, i.bytes)) = some (some (.int .i64 0), 1, 8) := by kernel_rfl
theorem Try_ln27 : Ln Try.prog 27 1 false := Ln.of Try_info27 Try.underlying27 rfl
theorem Try_lo27 : LnO Try.prog 27 1 [.int .i64 0] := LnO.of Try_info27 rfl rfl (by decide) (by decide)
theorem Try_info93 : (Try.prog.info? 93).map (fun i => (i.zero, i.size, i.bytes)) = some (some (.agg #[.bool false, .bool false, .bool false, .bool false, .bool false, .bool false]), 6, 6) := by kernel_rfl
theorem Try_ln93 : Ln Try.prog 93 6 true := Ln.of Try_info93 Try.underlying93 rfl
theorem Try_lo93 : LnO Try.prog 93 6 [.bool false, .bool false, .bool false, .bool false, .bool false, .bool false] := LnO.of Try_info93 rfl rfl (by decide) (by decide)
theorem Try_fit10 : Fit Try.prog 10 := Fit.of Try.func10 (by kernel_rfl) rfl
theorem Try_fit11 : Fit Try.prog 11 := Fit.of Try.func11 (by kernel_rfl) rfl
theorem Try_fit12 : Fit Try.prog 12 := Fit.of Try.func12 (by kernel_rfl) rfl
theorem Try_fit13 : Fit Try.prog 13 := Fit.of Try.func13 (by kernel_rfl) rfl
theorem Try_fit14 : Fit Try.prog 14 := Fit.of Try.func14 (by kernel_rfl) rfl
theorem Try_fit29 : Fit Try.prog 29 := Fit.of Try.func29 (by kernel_rfl) rfl
theorem Try_fit30 : Fit Try.prog 30 := Fit.of Try.func30 (by kernel_rfl) rfl
theorem Try_fit31 : Fit Try.prog 31 := Fit.of Try.func31 (by kernel_rfl) rfl
theorem Try_fit32 : Fit Try.prog 32 := Fit.of Try.func32 (by kernel_rfl) rfl
theorem Try_fit33 : Fit Try.prog 33 := Fit.of Try.func33 (by kernel_rfl) rfl
theorem Try_fit34 : Fit Try.prog 34 := Fit.of Try.func34 (by kernel_rfl) rfl
theorem Try_fit35 : Fit Try.prog 35 := Fit.of Try.func35 (by kernel_rfl) rfl
theorem Try_fit36 : Fit Try.prog 36 := Fit.of Try.func36 (by kernel_rfl) rfl
theorem Try_fit37 : Fit Try.prog 37 := Fit.of Try.func37 (by kernel_rfl) rfl
theorem Try_fit38 : Fit Try.prog 38 := Fit.of Try.func38 (by kernel_rfl) rfl
theorem Try_fit53 : Fit Try.prog 53 := Fit.of Try.func53 (by kernel_rfl) rfl
theorem Try_fit63 : Fit Try.prog 63 := Fit.of Try.func63 (by kernel_rfl) rfl
theorem Try_fit64 : Fit Try.prog 64 := Fit.of Try.func64 (by kernel_rfl) rfl
theorem Try_fit65 : Fit Try.prog 65 := Fit.of Try.func65 (by kernel_rfl) rfl
theorem Try_fit66 : Fit Try.prog 66 := Fit.of Try.func66 (by kernel_rfl) rfl
theorem Try_fit8 : Fit Try.prog 8 := Fit.of Try.func8 (by kernel_rfl) rfl
theorem Try_fit9 : Fit Try.prog 9 := Fit.of Try.func9 (by kernel_rfl) rfl

set_option maxHeartbeats 4000000 in
theorem ref_Rest_c (S : Hp) (w : World) (hS : S.sub w) (x0 : Int) (x1 : Int) (res : Int) (hm : ref_Rest_m x0 x1 = some res) : Calls Try.prog 30 #[.int .i64 x0, .int .i64 x1] w (PostC w (.int .i64 res)) := by
  refine calls_enter 14 Try.func30 Try.ntmps30 rfl S true [(0, .int .i64 x0), (1, .int .i64 x1)] [] rfl ⟨rfl, ⟨rfl, trivial⟩⟩ hS trivial ?_
  unfold ref_Rest_m at hm
  refine GL.seq ?_
  refine GL.region ?_
  refine RL.asg rfl rfl rfl ?_
  refine RL.finG ?_
  refine GL.seq ?_
  refine GL.region ?_
  refine RL.mv rfl rfl rfl ?_
  refine RL.mv rfl rfl rfl ?_
  obtain ⟨y5, e6, hm⟩ := bind_some hm
  replace e6 := chk_some e6
  refine RL.rem rfl rfl rfl rfl e6 ?_
  refine RL.asg rfl rfl rfl ?_
  refine RL.finG ?_
  refine GL.seq ?_
  refine GL.seq ?_
  refine GL.region ?_
  refine RL.mv rfl rfl rfl ?_
  refine RL.binI (v := .bool (decide ((Int.tmod x0 x1) < (0 : Int)))) rfl rfl rfl rfl rfl ?_
  refine RL.finG ?_
  obtain ⟨y9, K10, h11, h12, h13, h14, h15⟩ := bindR_K hm
  refine GL.join (ι := Int) (fun (p : Int) => [(0, .int .i64 p)]) (fun (p : Int) => []) (fun (p : Int) => K10 (.nx p)) ?_ ?_
  · skip
    refine GL.cond rfl (fun b16 => ?_) (fun b16 => ?_)
    · replace h11 := ite_t b16 h11
      refine GL.region ?_
      refine RL.mv rfl rfl rfl ?_
      refine RL.mv rfl rfl rfl ?_
      refine RL.binI (v := .int .i64 (wadd (Int.tmod x0 x1) x1)) rfl rfl rfl rfl rfl ?_
      refine RL.asg rfl rfl rfl ?_
      refine RL.finG ?_
      cases h11
      exact fun a w st => mid_intro (wadd (Int.tmod x0 x1) x1) h12 (St.cut [] ⟨rfl, trivial⟩ (by decide) rfl st)
    · replace h11 := ite_f b16 h11
      refine GL.skip ?_
      cases h11
      exact fun a w st => mid_intro (Int.tmod x0 x1) h12 (St.cut [] ⟨rfl, trivial⟩ (by decide) rfl st)
  · rintro x8 h17
    have h18 := h13 _ h17
    try dsimp only at h18
    refine GL.weak (env' := [(0, .int .i64 x8)]) (L' := []) (fun _ _ st => st) ?_
    refine GL.seq ?_
    refine GL.region ?_
    refine RL.mv rfl rfl rfl ?_
    refine RL.asg rfl rfl rfl ?_
    refine RL.finG ?_
    have h18 := Option.some.inj h18
    subst h18
    exact GL.ret (Gx.ret (v := .int .i64 x8) (res1 rfl rfl) (fun a w st => st.toPostC rfl))

set_option maxHeartbeats 4000000 in
theorem pk_Within_c (S : Hp) (w : World) (hS : S.sub w) (x0 : Int) (x1 : Int) (res : Int) (hm : pk_Within_m x0 x1 = some res) : Calls Try.prog 8 #[.int .i64 x0, .int .i64 x1] w (PostC w (.int .i64 res)) := by
  refine calls_enter 8 Try.func8 Try.ntmps8 rfl S true [(0, .int .i64 x0), (1, .int .i64 x1)] [] rfl ⟨rfl, ⟨rfl, trivial⟩⟩ hS trivial ?_
  unfold pk_Within_m at hm
  refine GL.seq ?_
  refine GL.region ?_
  refine RL.asg rfl rfl rfl ?_
  refine RL.finG ?_
  refine GL.seq ?_
  refine GL.region ?_
  refine RL.mv rfl rfl rfl ?_
  refine RL.mv rfl rfl rfl ?_
  obtain ⟨y5, e6, hm⟩ := bind_some hm
  refine RL.callC (v := .int .i64 y5) (vs := [.int .i64 x0, .int .i64 x1]) Try_fit30 rfl rfl rfl rfl (fun U w hU hW hL => ref_Rest_c U w hU x0 x1 _ e6) ?_
  refine RL.asg rfl rfl rfl ?_
  refine RL.finG ?_
  have hm := Option.some.inj hm
  subst hm
  exact GL.ret (Gx.ret (v := .int .i64 y5) (res1 rfl rfl) (fun a w st => st.toPostC rfl))

set_option maxHeartbeats 4000000 in
theorem ref_Sides_c (S : Hp) (w : World) (hS : S.sub w) (x0 : Int) (res : (List Int)) (hm : ref_Sides_m x0 = some res) : Calls Try.prog 31 #[.int .i64 x0] w (Post w S (fun (o : Value) => o) (fun (o : Value) => [own 3 TR.int o res])) := by
  refine calls_enter 15 Try.func31 Try.ntmps31 rfl S false [(0, .int .i64 x0)] [] rfl ⟨rfl, trivial⟩ hS trivial ?_
  unfold ref_Sides_m at hm
  refine GL.seq ?_
  refine GL.region ?_
  refine RL.asg rfl rfl rfl ?_
  refine RL.finG ?_
  refine GL.seq ?_
  refine GL.region ?_
  refine RL.asg rfl rfl rfl ?_
  refine RL.finG ?_
  refine GL.seq ?_
  refine GL.seq ?_
  refine GL.region ?_
  refine RL.mv rfl rfl rfl ?_
  refine RL.mv rfl rfl rfl ?_
  refine RL.finG ?_
  refine GL.weak (fun a w st => st.nilOwn 3 TR.int) ?_
  obtain ⟨y13, e14, hm⟩ := bind_some hm
  replace e14 := chk_some e14
  obtain ⟨y15, K16, h17, h18, h19, h20, h21⟩ := bindR_K hm
  refine GL.join (ι := (List Int) × Value) (fun (p : (List Int) × Value) => [(3, p.2)]) (fun (p : (List Int) × Value) => [own 3 TR.int p.2 p.1]) (fun (p : (List Int) × Value) => K16 (.nx p.1)) ?_ ?_
  · refine GL.block ?_
    refine GL.loop (ι := Nat × Nat × (List Int) × Value) (fun (p : Nat × Nat × (List Int) × Value) => [(3, p.2.2.2), (5, .int .i64 x0), (6, .int .i64 (p.1 : Int))]) (fun (p : Nat × Nat × (List Int) × Value) => [own 3 TR.int p.2.2.2 p.2.2.1]) (fun (p : Nat × Nat × (List Int) × Value) => p.1 + p.2.1 = (x0).toNat ∧ rangeN ref_Sides_b1 p.2.1 p.1 p.2.2.1 = some y15) (fun (p : Nat × Nat × (List Int) × Value) => p.2.1) (0, (x0).toNat, [], Value.slice none 0 0) ⟨by simp, h17⟩ (fun a w st => St.cut [0] ⟨rfl, rfl, rfl, trivial⟩ (by decide) rfl st) ?_
    rintro ⟨i22, r23, l2, v3⟩ ⟨h28, h27⟩
    try dsimp only at h28 h27
    refine GL.weak (env' := [(3, v3), (5, .int .i64 x0), (6, .int .i64 (i22 : Int))]) (L' := [own 3 TR.int v3 l2]) (fun _ _ st => st) ?_
    refine GL.seq ?_
    refine GL.region ?_
    refine RL.binI (v := .bool (decide ((i22 : Int) < x0))) rfl rfl rfl rfl rfl ?_
    refine RL.finG ?_
    refine GL.seq ?_
    refine GL.cond rfl (fun b30 => ?_) (fun b30 => ?_)
    · have h31 : i22 < (x0).toNat := by have := of_decide_eq_true b30; omega
      obtain ⟨r32, hr⟩ : ∃ m, r23 = m + 1 := ⟨r23 - 1, by omega⟩
      subst hr
      obtain ⟨z24, h25, h26⟩ := rangeN_some h27
      unfold ref_Sides_b1 at h25
      try dsimp only at h25
      refine GL.skip ?_
      refine GL.seq ?_
      refine GL.block ?_
      refine GL.seq ?_
      refine GL.region ?_
      refine RL.mv rfl rfl rfl ?_
      refine RL.asg rfl rfl rfl ?_
      refine RL.finG ?_
      refine GL.region ?_
      refine RL.mv rfl rfl rfl ?_
      refine RL.mv rfl rfl rfl ?_
      refine RL.bS (t := TR.int) (vs := [.int .i64 (i22 : Int)]) ([(i22 : Int)] : (List Int)) Try.underlying23 Try_lo3 rfl rfl rfl rfl ⟨VR.int, trivial⟩ rfl (by decide) ?_
      intro v37
      obtain ⟨y38, e39, h25⟩ := bind_some h25
      replace e39 := chk_some e39
      refine RL.app 0 1 Try.underlying23 Try_lo3 rfl rfl rfl rfl rfl rfl rfl SlOf.own e39 ?_
      intro v40
      refine RL.reL (L' := [own 3 TR.int v40 (l2 ++ ([(i22 : Int)] : (List Int))), own 3 TR.int v37 ([(i22 : Int)] : (List Int))]) rfl ?_
      refine RL.asg rfl rfl rfl ?_
      refine RL.finG ?_
      refine GL.nilB ?_
      refine GL.region ?_
      refine RL.binI (v := .int .i64 ((i22 + 1 : Nat) : Int)) rfl rfl rfl rfl (binI_succ i22 (by omega)) ?_
      refine RL.mv rfl rfl rfl ?_
      refine RL.fin ?_
      cases h25
      exact fun a w st => lop_intro (i22 + 1, r32, (l2 ++ ([(i22 : Int)] : (List Int))), v40) ⟨by show i22 + 1 + r32 = (x0).toNat; omega, h26⟩ (by simp) (St.cut [0] ⟨rfl, rfl, rfl, trivial⟩ (by decide) rfl st)
    · have h31 : ¬ i22 < (x0).toNat := by have := of_decide_eq_false b30; omega
      obtain rfl : r23 = 0 := by omega
      replace h27 : some (Fl.nx _) = some y15 := h27
      cases h27
      exact GL.exit (fun a w st => mid_intro (l2, v3) h18 (St.cut [0] ⟨rfl, trivial⟩ (by decide) rfl st))
  · rintro ⟨l2, v3⟩ h41
    have h42 := h19 _ h41
    try dsimp only at h42
    refine GL.weak (env' := [(3, v3)]) (L' := [own 3 TR.int v3 l2]) (fun _ _ st => st) ?_
    refine GL.seq ?_
    refine GL.region ?_
    refine RL.mv rfl rfl rfl ?_
    refine RL.asg rfl rfl rfl ?_
    refine RL.finG ?_
    have h42 := Option.some.inj h42
    subst h42
    exact GL.ret (Gx.ret (v := v3) (res1 rfl rfl) (fun a w st => (st.pick [0] (by decide) rfl).toPost v3))

set_option maxHeartbeats 4000000 in
theorem slices_Delete_int_int_c (B : World) (S : Hp) (f : Nat → Hp) (w : World) (v0 : Value) (x0 : List Int) (hO : HeapOk B.heap.size S f [own 3 TR.int v0 x0].length w) (hB : Below B.heap.size B w) (hI : Its [own 3 TR.int v0 x0] S f) (x1 x2 : Int) (res : List Int) (hm : slices_Delete_int_int_m x0 x1 x2 = some res) : Calls Try.prog 32 #[v0, .int .i64 x1, .int .i64 x2] w (PostM B S (fun (o : Value) => o) (fun (o : Value) => [own 3 TR.int o res])) := by
  refine calls_enterM 33 Try.func32 Try.ntmps32 rfl B S f [(0, v0), (1, .int .i64 x1), (2, .int .i64 x2)] [own 3 TR.int v0 x0] [] rfl ⟨rfl, rfl, rfl, trivial⟩ hB hO hI trivial ?_
  unfold slices_Delete_int_int_m at hm
  obtain ⟨_, hc, hm⟩ := bind_some hm
  replace hc := chk_some hc
  have hm := Option.some.inj hm
  subst hm
  obtain ⟨i, rfl⟩ : ∃ i : Nat, x1 = (i : Int) := ⟨x1.toNat, by omega⟩
  obtain ⟨j, rfl⟩ : ∃ j : Nat, x2 = (j : Int) := ⟨x2.toNat, by omega⟩
  simp only [Int.toNat_natCast]
  refine GL.capO 0 rfl (fun hcap hmax hrl hcr => ?_)
  repeat refine GL.seq ?_
  refine GL.region ?_
  refine RL.asg rfl rfl rfl ?_
  refine RL.finG ?_
  repeat refine GL.seq ?_
  refine GL.region ?_
  refine RL.mv rfl rfl rfl ?_
  refine RL.mv rfl rfl rfl ?_
  refine RL.mv rfl rfl rfl ?_
  refine RL.mv rfl rfl rfl ?_
  refine RL.lenS 0 Try.underlying23 rfl rfl rfl rfl SlOf.own ?_
  refine RL.cut3 (i := i) (j := j) (m := x0.length) 0 Try.underlying23 Try_ln3 rfl rfl rfl rfl rfl rfl rfl (by omega) (by omega) (by omega) ?_
  intro u
  refine RL.finG ?_
  repeat refine GL.seq ?_
  refine GL.region ?_
  refine RL.mv rfl rfl rfl ?_
  refine RL.mv rfl rfl rfl ?_
  refine RL.binI (v := .bool ((i : Int) == (j : Int))) rfl rfl rfl rfl rfl ?_
  refine RL.finG ?_
  repeat refine GL.seq ?_
  refine GL.cond rfl (fun h => ?_) (fun h => ?_)
  · have hij : i = j := by have := of_decide_eq_true (p := (i : Int) = (j : Int)) (by simpa using h); omega
    subst hij
    repeat refine GL.seq ?_
    refine GL.region ?_
    refine RL.mv rfl rfl rfl ?_
    refine RL.asg rfl rfl rfl ?_
    refine RL.finG ?_
    have hx : x0.take i ++ x0.drop i = x0 := List.take_append_drop _ _
    rw [hx]
    exact GL.ret (Gx.ret (v := v0) (res1 rfl rfl) (fun a w st => (st.pick [0] (by decide) rfl).toPostM (LR := fun (o : Value) => [own 3 TR.int o x0]) v0))
  · have hij : i ≠ j := fun e => by subst e; simp at h
    have hll : (x0.take i ++ x0.drop j).length = i + (x0.length - j) := by rw [List.length_append, List.length_take, List.length_drop]; omega
    refine GL.skip ?_
    repeat refine GL.seq ?_
    refine GL.region ?_
    refine RL.mv rfl rfl rfl ?_
    refine RL.lenS 0 Try.underlying23 rfl rfl rfl rfl SlOf.own ?_
    refine RL.asg rfl rfl rfl ?_
    refine RL.finG ?_
    repeat refine GL.seq ?_
    refine GL.regionH 6 rfl rfl (by kernel_rfl) ?_
    simp only [List.take_succ_cons, List.take_zero, List.drop_succ_cons, List.drop_zero]
    refine RL.mv rfl rfl rfl ?_
    refine RL.mv rfl rfl rfl ?_
    refine RL.cutO (i := 0) (j := i) 0 Try.underlying23 Try_ln3 rfl rfl rfl (Or.inl ⟨rfl, rfl⟩) (Or.inr ⟨_, _, rfl, rfl⟩) rfl (by omega) (by show i ≤ capv v0; omega) ?_
    refine RL.mv rfl rfl rfl ?_
    refine RL.mv rfl rfl rfl ?_
    refine RL.cutO (i := j) (j := x0.length) 0 Try.underlying23 Try_ln3 rfl rfl rfl (Or.inr ⟨_, _, rfl, rfl⟩) (Or.inl ⟨rfl, rfl⟩) rfl (by omega) hcap ?_
    refine RL.finH ?_
    refine RL.del (i := i) (j := j) 0 Try.underlying23 Try_lo3 rfl rfl rfl rfl rfl rfl (by omega) (by omega) ?_
    refine RL.asg rfl rfl rfl ?_
    refine RL.finG ?_
    repeat refine GL.seq ?_
    refine GL.region ?_
    refine RL.mv rfl rfl rfl ?_
    refine RL.mv rfl rfl rfl ?_
    refine RL.lenS 0 Try.underlying23 rfl rfl rfl rfl SlOf.own ?_
    refine RL.mv rfl rfl rfl ?_
    refine RL.cutO (i := (x0.take i ++ x0.drop j).length) (j := x0.length) 0 Try.underlying23 Try_ln3 rfl rfl rfl (Or.inr ⟨_, _, rfl, rfl⟩) (Or.inr ⟨_, _, rfl, rfl⟩) rfl (by omega) (by rw [hcr]; exact hcap) ?_
    refine RL.clr (j := x0.length) 0 Try.underlying23 Try_lo3 (by decide) rfl rfl rfl rfl (by omega) (by rw [hcr]; exact hcap) ?_
    refine RL.finG ?_
    repeat refine GL.seq ?_
    refine GL.region ?_
    refine RL.mv rfl rfl rfl ?_
    refine RL.asg rfl rfl rfl ?_
    refine RL.finG ?_
    exact GL.ret (Gx.ret (v := relen v0 (i + (x0.length - j))) (res1 rfl rfl) (fun a w st => (st.pick [0] (by decide) rfl).toPostM (LR := fun (o : Value) => [own 3 TR.int o (x0.take i ++ x0.drop j)]) (relen v0 (i + (x0.length - j)))))

set_option maxHeartbeats 4000000 in
theorem pk_OrderOf_c (S : Hp) (w : World) (hS : S.sub w) (x0 : Int) (v1 : Value) (x1 : (List Int)) (k1 : ((TR.sl TR.int)).vrep S v1 x1) (res : (List Int)) (hm : pk_OrderOf_m x0 x1 = some res) : Calls Try.prog 10 #[.int .i64 x0, v1] w (Post w S (fun (o : Value) => o) (fun (o : Value) => [own 3 TR.int o res])) := by
  refine calls_enter 40 Try.func10 Try.ntmps10 rfl S false [(0, .int .i64 x0), (1, v1)] [imm (TR.sl TR.int) v1 x1] rfl ⟨rfl, ⟨rfl, trivial⟩⟩ hS ⟨k1, trivial⟩ ?_
  unfold pk_OrderOf_m at hm
  refine GL.seq ?_
  refine GL.region ?_
  refine RL.asg rfl rfl rfl ?_
  refine RL.finG ?_
  refine GL.seq ?_
  refine GL.region ?_
  refine RL.mv rfl rfl rfl ?_
  obtain ⟨y6, e7, hm⟩ := bind_some hm
  refine RL.call (vs := [.int .i64 x0]) Try_fit31 rfl rfl rfl rfl rfl (fun S f w hS hW hi => ref_Sides_c S w hS x0 _ e7) ?_
  intro v8
  refine RL.asg rfl rfl rfl ?_
  refine RL.finG ?_
  refine GL.seq ?_
  refine GL.region ?_
  refine RL.asg rfl rfl rfl ?_
  refine RL.finG ?_
  refine GL.seq ?_
  refine GL.seq ?_
  refine GL.region ?_
  refine RL.mv rfl rfl rfl ?_
  refine RL.mv rfl rfl rfl ?_
  refine RL.finG ?_
  refine GL.weak (fun a w st => st.nilOwn 3 TR.int) ?_
  obtain ⟨y60, e61, hm⟩ := bind_some hm
  replace e61 := chk_some e61
  obtain ⟨y62, K63, h64, h65, h66, h67, h68⟩ := bindR_K hm
  refine GL.join (ι := (List Int) × (List Int) × Value) (fun (p : (List Int) × (List Int) × Value) => [(6, p.2.2)]) (fun (p : (List Int) × (List Int) × Value) => [own 3 TR.int p.2.2 p.2.1]) (fun (p : (List Int) × (List Int) × Value) => K63 (.nx (p.1, p.2.1))) ?_ ?_
  · refine GL.block ?_
    refine GL.loop (ι := Nat × Nat × (List Int) × (List Int) × Value × Value) (fun (p : Nat × Nat × (List Int) × (List Int) × Value × Value) => [(1, v1), (5, p.2.2.2.2.1), (6, p.2.2.2.2.2), (11, .int .i64 x0), (12, .int .i64 (p.1 : Int))]) (fun (p : Nat × Nat × (List Int) × (List Int) × Value × Value) => [imm (TR.sl TR.int) v1 x1, own 3 TR.int p.2.2.2.2.1 p.2.2.1, own 3 TR.int p.2.2.2.2.2 p.2.2.2.1]) (fun (p : Nat × Nat × (List Int) × (List Int) × Value × Value) => p.1 + p.2.1 = (x0).toNat ∧ rangeN (pk_OrderOf_b1 x1) p.2.1 p.1 (p.2.2.1, p.2.2.2.1) = some y62) (fun (p : Nat × Nat × (List Int) × (List Int) × Value × Value) => p.2.1) (0, (x0).toNat, y6, [], v8, Value.slice none 0 0) ⟨by simp, h64⟩ (fun a w st => St.cut [0, 1, 2] ⟨rfl, rfl, rfl, rfl, rfl, trivial⟩ (by decide) rfl st) ?_
    rintro ⟨i69, r70, l9, l11, v10, v12⟩ ⟨h75, h74⟩
    try dsimp only at h75 h74
    refine GL.weak (env' := [(1, v1), (5, v10), (6, v12), (11, .int .i64 x0), (12, .int .i64 (i69 : Int))]) (L' := [imm (TR.sl TR.int) v1 x1, own 3 TR.int v10 l9, own 3 TR.int v12 l11]) (fun _ _ st => st) ?_
    refine GL.seq ?_
    refine GL.region ?_
    refine RL.binI (v := .bool (decide ((i69 : Int) < x0))) rfl rfl rfl rfl rfl ?_
    refine RL.finG ?_
    refine GL.seq ?_
    refine GL.cond rfl (fun b77 => ?_) (fun b77 => ?_)
    · have h78 : i69 < (x0).toNat := by have := of_decide_eq_true b77; omega
      obtain ⟨r79, hr⟩ : ∃ m, r70 = m + 1 := ⟨r70 - 1, by omega⟩
      subst hr
      obtain ⟨z71, h72, h73⟩ := rangeN_some h74
      unfold pk_OrderOf_b1 at h72
      try dsimp only at h72
      refine GL.skip ?_
      refine GL.seq ?_
      refine GL.block ?_
      refine GL.seq ?_
      refine GL.region ?_
      refine RL.mv rfl rfl rfl ?_
      refine RL.asg rfl rfl rfl ?_
      refine RL.finG ?_
      refine GL.seq ?_
      refine GL.region ?_
      refine RL.asg rfl rfl rfl ?_
      refine RL.finG ?_
      refine GL.seq ?_
      refine GL.seq ?_
      refine GL.region ?_
      refine RL.mv rfl rfl rfl ?_
      refine RL.mv rfl rfl rfl ?_
      refine RL.lenS 0 Try.underlying23 rfl rfl rfl rfl SlOf.imm ?_
      refine RL.binI (v := .bool (decide ((i69 : Int) < ((x1).length : Int)))) rfl rfl rfl rfl rfl ?_
      refine RL.finG ?_
      obtain ⟨y90, K91, h92, h93, h94, h95, h96⟩ := bindF_K h72
      refine GL.join (ι := Int) (fun (p : Int) => [(1, v1), (5, v10), (6, v12), (8, .int .i64 p), (11, .int .i64 x0), (12, .int .i64 (i69 : Int))]) (fun (p : Int) => [imm (TR.sl TR.int) v1 x1, own 3 TR.int v10 l9, own 3 TR.int v12 l11]) (fun (p : Int) => K91 (.nx p)) ?_ ?_
      · skip
        refine GL.cond rfl (fun b97 => ?_) (fun b97 => ?_)
        · replace h92 := ite_t b97 h92
          refine GL.region ?_
          refine RL.mv rfl rfl rfl ?_
          refine RL.mv rfl rfl rfl ?_
          obtain ⟨y102, e103, h92⟩ := bind_some h92
          refine RL.idxS (sz := 1) 0 Try.underlying23 Try_ln3 rfl rfl rfl rfl rfl SlOf.imm (idx_some e103).1 (idx_some e103).2.1 ?_
          refine RL.ldSx (i := i69) (e' := y102) 0 Ex.ik Try_ln3 rfl rfl rfl rfl SlOf.imm (idx_some e103).2.2 Part.self ?_
          refine RL.mv rfl rfl rfl ?_
          refine RL.lenS 1 Try.underlying23 rfl rfl rfl rfl SlOf.own ?_
          obtain ⟨y104, e105, h92⟩ := bind_some h92
          refine RL.callC (v := .int .i64 y104) (vs := [.int .i64 y102, .int .i64 ((l9).length : Int)]) Try_fit8 rfl rfl rfl rfl (fun U w hU hW hL => pk_Within_c U w hU y102 ((l9).length : Int) _ e105) ?_
          refine RL.asg rfl rfl rfl ?_
          refine RL.finG ?_
          cases h92
          exact fun a w st => mid_intro y104 h93 (St.cut [0, 1, 2] ⟨rfl, rfl, rfl, rfl, rfl, rfl, trivial⟩ (by decide) rfl st)
        · replace h92 := ite_f b97 h92
          refine GL.skip ?_
          cases h92
          exact fun a w st => mid_intro (0 : Int) h93 (St.cut [0, 1, 2] ⟨rfl, rfl, rfl, rfl, rfl, rfl, trivial⟩ (by decide) rfl st)
      · rintro x89 h106
        have h107 := h94 _ h106
        try dsimp only at h107
        refine GL.weak (env' := [(1, v1), (5, v10), (6, v12), (8, .int .i64 x89), (11, .int .i64 x0), (12, .int .i64 (i69 : Int))]) (L' := [imm (TR.sl TR.int) v1 x1, own 3 TR.int v10 l9, own 3 TR.int v12 l11]) (fun _ _ st => st) ?_
        refine GL.seq ?_
        refine GL.region ?_
        refine RL.mv rfl rfl rfl ?_
        refine RL.mv rfl rfl rfl ?_
        refine RL.mv rfl rfl rfl ?_
        obtain ⟨y114, e115, h107⟩ := bind_some h107
        refine RL.idxS (sz := 1) 1 Try.underlying23 Try_ln3 rfl rfl rfl rfl rfl SlOf.own (idx_some e115).1 (idx_some e115).2.1 ?_
        refine RL.ldSx (i := (x89).toNat) (e' := y114) 1 Ex.ik Try_ln3 rfl rfl rfl rfl SlOf.own (idx_some e115).2.2 Part.self ?_
        refine RL.bS (t := TR.int) (vs := [.int .i64 y114]) ([y114] : (List Int)) Try.underlying23 Try_lo3 rfl rfl rfl rfl ⟨VR.int, trivial⟩ rfl (by decide) ?_
        intro v116
        obtain ⟨y117, e118, h107⟩ := bind_some h107
        replace e118 := chk_some e118
        refine RL.app 2 3 Try.underlying23 Try_lo3 rfl rfl rfl rfl rfl rfl rfl SlOf.own e118 ?_
        intro v119
        refine RL.reL (L' := [imm (TR.sl TR.int) v1 x1, own 3 TR.int v10 l9, own 3 TR.int v119 (l11 ++ ([y114] : (List Int))), own 3 TR.int v116 ([y114] : (List Int))]) rfl ?_
        refine RL.asg rfl rfl rfl ?_
        refine RL.finG ?_
        refine GL.region ?_
        refine RL.mv rfl rfl rfl ?_
        refine RL.mv rfl rfl rfl ?_
        refine RL.mv rfl rfl rfl ?_
        refine RL.binI (v := .int .i64 (wadd x89 (1 : Int))) rfl rfl rfl rfl rfl ?_
        obtain ⟨y123, e124, h107⟩ := bind_some h107
        refine RL.callM (vs := [v10, .int .i64 x89, .int .i64 (wadd x89 (1 : Int))]) (V := fun (o : Value) => o) (A' := fun (o : Value) => own 3 TR.int o y123) 1 Try_fit32 rfl rfl rfl rfl rfl rfl (fun o => Loc.own TR.flatT_ik) (fun U f w hO hB hW hI hL => slices_Delete_int_int_c _ U f w _ _ hO hB hI x89 (wadd x89 (1 : Int)) _ e124) ?_
        intro v125
        refine RL.asg rfl rfl rfl ?_
        refine RL.finG ?_
        refine GL.nilB ?_
        refine GL.region ?_
        refine RL.binI (v := .int .i64 ((i69 + 1 : Nat) : Int)) rfl rfl rfl rfl (binI_succ i69 (by omega)) ?_
        refine RL.mv rfl rfl rfl ?_
        refine RL.fin ?_
        cases h107
        exact fun a w st => lop_intro (i69 + 1, r79, y123, (l11 ++ ([y114] : (List Int))), v125, v119) ⟨by show i69 + 1 + r79 = (x0).toNat; omega, h73⟩ (by simp) (St.cut [0, 1, 2] ⟨rfl, rfl, rfl, rfl, rfl, trivial⟩ (by decide) rfl st)
    · have h78 : ¬ i69 < (x0).toNat := by have := of_decide_eq_false b77; omega
      obtain rfl : r70 = 0 := by omega
      replace h74 : some (Fl.nx _) = some y62 := h74
      cases h74
      exact GL.exit (fun a w st => mid_intro (l9, l11, v12) h65 (St.cut [2] ⟨rfl, trivial⟩ (by decide) rfl st))
  · rintro ⟨l9, l11, v12⟩ h126
    have h127 := h66 _ h126
    try dsimp only at h127
    refine GL.weak (env' := [(6, v12)]) (L' := [own 3 TR.int v12 l11]) (fun _ _ st => st) ?_
    refine GL.seq ?_
    refine GL.region ?_
    refine RL.mv rfl rfl rfl ?_
    refine RL.asg rfl rfl rfl ?_
    refine RL.finG ?_
    have h127 := Option.some.inj h127
    subst h127
    exact GL.ret (Gx.ret (v := v12) (res1 rfl rfl) (fun a w st => (st.pick [0] (by decide) rfl).toPost v12))

set_option maxHeartbeats 4000000 in
theorem pk_VotesOf_c (S : Hp) (w : World) (hS : S.sub w) (x0 : Int) (v1 : Value) (x1 : (List (List Int))) (k1 : ((TR.sl (TR.sl TR.int))).vrep S v1 x1) (res : (List (List Int))) (hm : pk_VotesOf_m x0 x1 = some res) : Calls Try.prog 9 #[.int .i64 x0, v1] w (Post w S (fun (o : Value) => o) (fun (o : Value) => [own 23 (TR.sl TR.int) o res])) := by
  refine calls_enter 26 Try.func9 Try.ntmps9 rfl S false [(0, .int .i64 x0), (1, v1)] [imm (TR.sl (TR.sl TR.int)) v1 x1] rfl ⟨rfl, ⟨rfl, trivial⟩⟩ hS ⟨k1, trivial⟩ ?_
  unfold pk_VotesOf_m at hm
  refine GL.seq ?_
  refine GL.region ?_
  refine RL.asg rfl rfl rfl ?_
  refine RL.finG ?_
  refine GL.seq ?_
  refine GL.region ?_
  refine RL.asg rfl rfl rfl ?_
  refine RL.finG ?_
  refine GL.seq ?_
  refine GL.seq ?_
  refine GL.region ?_
  refine RL.mv rfl rfl rfl ?_
  refine RL.mv rfl rfl rfl ?_
  refine RL.lenS 0 Try.underlying22 rfl rfl rfl rfl SlOf.imm ?_
  refine RL.minI rfl rfl rfl rfl ?_
  obtain ⟨y6, e7, hm⟩ := bind_some hm
  replace e7 := chk_some e7
  refine RL.slc (t := (TR.sl TR.int)) (i := 0) (j := (if (30 : Int) < ((x1).length : Int) then (30 : Int) else ((x1).length : Int)).toNat) (sz := 1) 0 Try.underlying22 Try_ln23 rfl rfl rfl rfl (Or.inl ⟨rfl, rfl⟩) (Or.inr ⟨_, _, rfl, by rw [Int.toNat_of_nonneg (by omega)]; rfl⟩) rfl (by omega) (by omega) ?_
  intro v8
  refine RL.lenS 1 Try.underlying22 rfl rfl rfl rfl SlOf.imm ?_
  refine RL.mv rfl rfl rfl ?_
  refine RL.finG ?_
  refine GL.weak (fun a w st => st.nilOwn 23 (TR.sl TR.int)) ?_
  refine GL.open_ 1 rfl (fun S h => len_imm S h) (fun n31 => ?_)
  obtain ⟨y32, K33, h34, h35, h36, h37, h38⟩ := bindR_K hm
  refine GL.join (ι := (List (List Int)) × Value) (fun (p : (List (List Int)) × Value) => [(5, p.2)]) (fun (p : (List (List Int)) × Value) => [own 23 (TR.sl TR.int) p.2 p.1]) (fun (p : (List (List Int)) × Value) => K33 (.nx p.1)) ?_ ?_
  · refine GL.block ?_
    refine GL.loop (ι := Nat × (List (List Int)) × (List (List Int)) × Value) (fun (p : Nat × (List (List Int)) × (List (List Int)) × Value) => [(0, .int .i64 x0), (5, p.2.2.2), (12, v8), (13, .int .i64 ((((List.take ((if (30 : Int) < ((x1).length : Int) then (30 : Int) else ((x1).length : Int)).toNat) x1).drop 0)).length : Int)), (14, .int .i64 (p.1 : Int))]) (fun (p : Nat × (List (List Int)) × (List (List Int)) × Value) => [own 23 (TR.sl TR.int) p.2.2.2 p.2.2.1, imm (TR.sl (TR.sl TR.int)) v8 ((List.take ((if (30 : Int) < ((x1).length : Int) then (30 : Int) else ((x1).length : Int)).toNat) x1).drop 0)]) (fun (p : Nat × (List (List Int)) × (List (List Int)) × Value) => p.1 + p.2.1.length = (((List.take ((if (30 : Int) < ((x1).length : Int) then (30 : Int) else ((x1).length : Int)).toNat) x1).drop 0)).length ∧ List.drop p.1 ((List.take ((if (30 : Int) < ((x1).length : Int) then (30 : Int) else ((x1).length : Int)).toNat) x1).drop 0) = p.2.1 ∧ rangeL (pk_VotesOf_b1 x0) p.2.1 p.1 p.2.2.1 = some y32) (fun (p : Nat × (List (List Int)) × (List (List Int)) × Value) => p.2.1.length) (0, ((List.take ((if (30 : Int) < ((x1).length : Int) then (30 : Int) else ((x1).length : Int)).toNat) x1).drop 0), [], Value.slice none 0 0) ⟨by simp, by simp, h34⟩ (fun a w st => St.cut [2, 1] ⟨rfl, rfl, rfl, rfl, rfl, trivial⟩ (by decide) rfl st) ?_
    rintro ⟨i39, r40, l9, v10⟩ ⟨h45, h46, h44⟩
    try dsimp only at h45 h46 h44
    refine GL.weak (env' := [(0, .int .i64 x0), (5, v10), (12, v8), (13, .int .i64 ((((List.take ((if (30 : Int) < ((x1).length : Int) then (30 : Int) else ((x1).length : Int)).toNat) x1).drop 0)).length : Int)), (14, .int .i64 (i39 : Int))]) (L' := [own 23 (TR.sl TR.int) v10 l9, imm (TR.sl (TR.sl TR.int)) v8 ((List.take ((if (30 : Int) < ((x1).length : Int) then (30 : Int) else ((x1).length : Int)).toNat) x1).drop 0)]) (fun _ _ st => st) ?_
    refine GL.seq ?_
    refine GL.region ?_
    refine RL.binI (v := .bool (decide ((i39 : Int) < ((((List.take ((if (30 : Int) < ((x1).length : Int) then (30 : Int) else ((x1).length : Int)).toNat) x1).drop 0)).length : Int)))) rfl rfl rfl rfl rfl ?_
    refine RL.finG ?_
    refine GL.seq ?_
    refine GL.cond rfl (fun b47 => ?_) (fun b47 => ?_)
    · have h48 : i39 < (((List.take ((if (30 : Int) < ((x1).length : Int) then (30 : Int) else ((x1).length : Int)).toNat) x1).drop 0)).length := by have := of_decide_eq_true b47; omega
      obtain ⟨y49, r51, hr, e50, h52⟩ := drop_cons h46 rfl h48
      subst hr
      obtain ⟨z41, h42, h43⟩ := rangeL_some h44
      unfold pk_VotesOf_b1 at h42
      try dsimp only at h42
      refine GL.skip ?_
      refine GL.seq ?_
      refine GL.block ?_
      refine GL.seq ?_
      refine GL.region ?_
      refine RL.idxS (sz := 1) 1 Try.underlying22 Try_ln23 rfl rfl rfl rfl rfl SlOf.imm (by omega) (by omega) ?_
      refine RL.ldS (i := i39) (r := (TR.sl TR.int)) (e' := y49) 1 Try_ln23 rfl rfl rfl rfl SlOf.imm e50 Part.self ?_
      intro v54
      refine RL.asg rfl rfl rfl ?_
      refine RL.finG ?_
      refine GL.region ?_
      refine RL.mv rfl rfl rfl ?_
      refine RL.mv rfl rfl rfl ?_
      refine RL.mv rfl rfl rfl ?_
      obtain ⟨y62, e63, h42⟩ := bind_some h42
      refine RL.call (vs := [.int .i64 x0, v54]) Try_fit10 rfl rfl rfl rfl rfl (fun S f w hS hW hi => pk_OrderOf_c S w hS x0 _ _ (hi 2 _ rfl) _ e63) ?_
      intro v64
      refine RL.reL (L' := [own 23 (TR.sl TR.int) v10 l9, imm (TR.sl (TR.sl TR.int)) v8 ((List.take ((if (30 : Int) < ((x1).length : Int) then (30 : Int) else ((x1).length : Int)).toNat) x1).drop 0), imm (TR.sl TR.int) v54 y49, own 3 TR.int v64 y62]) rfl ?_
      refine RL.weak (fun a w st => st.freeze 3 rfl) ?_
      refine RL.bS (t := (TR.sl TR.int)) (vs := [v64]) ([y62] : (List (List Int))) Try.underlying22 Try_lo23 rfl rfl rfl rfl ⟨(VR.item 3 rfl), trivial⟩ rfl (by decide) ?_
      intro v65
      refine RL.reL (L' := [own 23 (TR.sl TR.int) v10 l9, imm (TR.sl (TR.sl TR.int)) v8 ((List.take ((if (30 : Int) < ((x1).length : Int) then (30 : Int) else ((x1).length : Int)).toNat) x1).drop 0), imm (TR.sl TR.int) v54 y49, imm (TR.sl TR.int) v64 y62, own 23 (TR.sl TR.int) v65 ([y62] : (List (List Int)))]) rfl ?_
      obtain ⟨y66, e67, h42⟩ := bind_some h42
      replace e67 := chk_some e67
      refine RL.app 0 4 Try.underlying22 Try_lo23 rfl rfl rfl rfl rfl rfl rfl SlOf.own e67 ?_
      intro v68
      refine RL.asg rfl rfl rfl ?_
      refine RL.finG ?_
      refine GL.nilB ?_
      refine GL.region ?_
      refine RL.binI (v := .int .i64 ((i39 + 1 : Nat) : Int)) rfl rfl rfl rfl (binI_succ i39 (by omega)) ?_
      refine RL.mv rfl rfl rfl ?_
      refine RL.fin ?_
      cases h42
      exact fun a w st => lop_intro (i39 + 1, r51, (l9 ++ ([y62] : (List (List Int)))), v68) ⟨by show i39 + 1 + r51.length = (((List.take ((if (30 : Int) < ((x1).length : Int) then (30 : Int) else ((x1).length : Int)).toNat) x1).drop 0)).length; simp only [List.length_cons] at h45; omega, h52, h43⟩ (by simp) (St.cut [0, 1] ⟨rfl, rfl, rfl, rfl, rfl, trivial⟩ (by decide) rfl st)
    · have h48 : ¬ i39 < (((List.take ((if (30 : Int) < ((x1).length : Int) then (30 : Int) else ((x1).length : Int)).toNat) x1).drop 0)).length := by have := of_decide_eq_false b47; omega
      obtain rfl : r40 = [] := by rw [← h46]; exact List.drop_of_length_le (by omega)
      replace h44 : some (Fl.nx _) = some y32 := h44
      cases h44
      exact GL.exit (fun a w st => mid_intro (l9, v10) h35 (St.cut [0] ⟨rfl, trivial⟩ (by decide) rfl st))
  · rintro ⟨l9, v10⟩ h69
    have h70 := h36 _ h69
    try dsimp only at h70
    refine GL.weak (env' := [(5, v10)]) (L' := [own 23 (TR.sl TR.int) v10 l9]) (fun _ _ st => st) ?_
    refine GL.seq ?_
    refine GL.region ?_
    refine RL.mv rfl rfl rfl ?_
    refine RL.asg rfl rfl rfl ?_
    refine RL.finG ?_
    have h70 := Option.some.inj h70
    subst h70
    exact GL.ret (Gx.ret (v := v10) (res1 rfl rfl) (fun a w st => (st.pick [0] (by decide) rfl).toPost v10))

set_option maxHeartbeats 4000000 in
theorem order_Check_c (S : Hp) (w : World) (hS : S.sub w) (x0 : Int) (v1 : Value) (x1 : (List Int)) (k1 : ((TR.sl TR.int)).vrep S v1 x1) (res : Int) (hm : order_Check_m x0 x1 = some res) : Calls Try.prog 34 #[.int .i64 x0, v1] w (PostV w (.int .i64 res)) := by
  refine calls_enter 39 Try.func34 Try.ntmps34 rfl S false [(0, .int .i64 x0), (1, v1)] [imm (TR.sl TR.int) v1 x1] rfl ⟨rfl, ⟨rfl, trivial⟩⟩ hS ⟨k1, trivial⟩ ?_
  unfold order_Check_m at hm
  refine GL.seq ?_
  refine GL.region ?_
  refine RL.asg rfl rfl rfl ?_
  refine RL.finG ?_
  refine GL.seq ?_
  refine GL.seq ?_
  obtain ⟨y6, K7, h8, h9, h10, h11, h12⟩ := bindR_K hm
  refine GL.join (ι := Bool) (fun (p : Bool) => [(0, .int .i64 x0), (1, v1), (13, .bool p)]) (fun (p : Bool) => [imm (TR.sl TR.int) v1 x1]) (fun (p : Bool) => K7 (.nx p)) ?_ ?_
  · skip
    refine GL.region ?_
    refine RL.mv rfl rfl rfl ?_
    refine RL.binI (v := .bool (decide (x0 < (1 : Int)))) rfl rfl rfl rfl rfl ?_
    refine RL.mv rfl rfl rfl ?_
    refine RL.split (t := 10) rfl (fun b13 => ?_) (fun b13 => ?_)
    · replace h8 := ite_t b13 h8
      refine RL.skip rfl rfl ?_
      refine RL.skip rfl rfl ?_
      refine RL.pickT rfl rfl rfl rfl ?_
      refine RL.fin ?_
      cases h8
      exact fun a w st => mid_intro true h9 (St.cut [0] ⟨rfl, rfl, rfl, trivial⟩ (by decide) rfl st)
    · replace h8 := ite_f b13 h8
      refine RL.mv rfl rfl rfl ?_
      refine RL.binI (v := .bool (decide (x0 > (6 : Int)))) rfl rfl rfl rfl rfl ?_
      refine RL.pickF rfl rfl rfl rfl ?_
      refine RL.fin ?_
      cases h8
      exact fun a w st => mid_intro (decide (x0 > (6 : Int))) h9 (St.cut [0] ⟨rfl, rfl, rfl, trivial⟩ (by decide) rfl st)
  · rintro x5 h14
    have h15 := h10 _ h14
    try dsimp only at h15
    refine GL.weak (env' := [(0, .int .i64 x0), (1, v1), (13, .bool x5)]) (L' := [imm (TR.sl TR.int) v1 x1]) (fun _ _ st => st) ?_
    refine GL.cond rfl (fun b16 => ?_) (fun b16 => ?_)
    · replace h15 := ite_t b16 h15
      refine GL.seq ?_
      refine GL.region ?_
      refine RL.asg rfl rfl rfl ?_
      refine RL.finG ?_
      have h15 := Option.some.inj h15
      subst h15
      exact GL.ret (Gx.ret (v := .int .i64 (1 : Int)) (res1 rfl rfl) (fun a w st => st.toPostV))
    · replace h15 := ite_f b16 h15
      refine GL.skip ?_
      refine GL.seq ?_
      refine GL.region ?_
      refine RL.alloc (t := (TR.arr 6 TR.bool)) (z := (List.replicate 6 false)) Try_lo93 (fun S => ⟨rfl, ⟨_, _, rfl, rfl, ⟨_, _, rfl, rfl, ⟨_, _, rfl, rfl, ⟨_, _, rfl, rfl, ⟨_, _, rfl, rfl, ⟨_, _, rfl, rfl, rfl⟩⟩⟩⟩⟩⟩⟩) rfl rfl rfl ?_
      intro v18
      refine RL.finG ?_
      refine GL.seq ?_
      refine GL.seq ?_
      refine GL.region ?_
      refine RL.mv rfl rfl rfl ?_
      refine RL.lenS 0 Try.underlying23 rfl rfl rfl rfl SlOf.imm ?_
      refine RL.mv rfl rfl rfl ?_
      refine RL.finG ?_
      refine GL.open_ 0 rfl (fun S h => len_imm S h) (fun n82 => ?_)
      obtain ⟨y83, K84, h85, h86, h87, h88, h89⟩ := bindR_K h15
      refine GL.join (ι := (List Bool)) (fun (p : (List Bool)) => [(0, .int .i64 x0), (1, v1)]) (fun (p : (List Bool)) => [imm (TR.sl TR.int) v1 x1]) (fun (p : (List Bool)) => K84 (.nx p)) ?_ ?_
      · refine GL.block ?_
        refine GL.loop (ι := Nat × (List Int) × (List Bool)) (fun (p : Nat × (List Int) × (List Bool)) => [(0, .int .i64 x0), (1, v1), (5, v18), (14, v1), (15, .int .i64 ((x1).length : Int)), (16, .int .i64 (p.1 : Int))]) (fun (p : Nat × (List Int) × (List Bool)) => [imm (TR.sl TR.int) v1 x1, obox 93 (TR.arr 6 TR.bool) v18 p.2.2]) (fun (p : Nat × (List Int) × (List Bool)) => p.1 + p.2.1.length = (x1).length ∧ List.drop p.1 x1 = p.2.1 ∧ rangeL (order_Check_b1 x0) p.2.1 p.1 p.2.2 = some y83) (fun (p : Nat × (List Int) × (List Bool)) => p.2.1.length) (0, x1, (List.replicate 6 false)) ⟨by simp, by simp, h85⟩ (fun a w st => St.cut [0, 1] ⟨rfl, rfl, rfl, rfl, rfl, rfl, trivial⟩ (by decide) rfl st) ?_
        rintro ⟨i90, r91, l50⟩ ⟨h96, h97, h95⟩
        try dsimp only at h96 h97 h95
        refine GL.weak (env' := [(0, .int .i64 x0), (1, v1), (5, v18), (14, v1), (15, .int .i64 ((x1).length : Int)), (16, .int .i64 (i90 : Int))]) (L' := [imm (TR.sl TR.int) v1 x1, obox 93 (TR.arr 6 TR.bool) v18 l50]) (fun _ _ st => st) ?_
        refine GL.seq ?_
        refine GL.region ?_
        refine RL.binI (v := .bool (decide ((i90 : Int) < ((x1).length : Int)))) rfl rfl rfl rfl rfl ?_
        refine RL.finG ?_
        refine GL.seq ?_
        refine GL.cond rfl (fun b98 => ?_) (fun b98 => ?_)
        · have h99 : i90 < (x1).length := by have := of_decide_eq_true b98; omega
          obtain ⟨y100, r102, hr, e101, h103⟩ := drop_cons h97 rfl h99
          subst hr
          obtain ⟨z92, h93, h94⟩ := rangeL_some h95
          unfold order_Check_b1 at h93
          try dsimp only at h93
          refine GL.skip ?_
          refine GL.seq ?_
          refine GL.block ?_
          refine GL.seq ?_
          refine GL.region ?_
          refine RL.idxS (sz := 1) 0 Try.underlying23 Try_ln3 rfl rfl rfl rfl rfl SlOf.imm (by omega) (by omega) ?_
          refine RL.ldSx (i := i90) (e' := y100) 0 Ex.ik Try_ln3 rfl rfl rfl rfl SlOf.imm e101 Part.self ?_
          refine RL.asg rfl rfl rfl ?_
          refine RL.finG ?_
          refine GL.seq ?_
          refine GL.seq ?_
          obtain ⟨y113, K114, h115, h116, h117, h118, h119⟩ := bindF_K h93
          refine GL.join (ι := Bool) (fun (p : Bool) => [(0, .int .i64 x0), (1, v1), (5, v18), (7, .int .i64 y100), (14, v1), (15, .int .i64 ((x1).length : Int)), (16, .int .i64 (i90 : Int)), (31, .bool p)]) (fun (p : Bool) => [imm (TR.sl TR.int) v1 x1, obox 93 (TR.arr 6 TR.bool) v18 l50]) (fun (p : Bool) => K114 (.nx p)) ?_ ?_
          · skip
            refine GL.region ?_
            refine RL.mv rfl rfl rfl ?_
            refine RL.binI (v := .bool (decide (y100 < (0 : Int)))) rfl rfl rfl rfl rfl ?_
            refine RL.mv rfl rfl rfl ?_
            refine RL.split (t := 22) rfl (fun b120 => ?_) (fun b120 => ?_)
            · replace h115 := ite_t b120 h115
              refine RL.skip rfl rfl ?_
              refine RL.skip rfl rfl ?_
              refine RL.skip rfl rfl ?_
              refine RL.pickT rfl rfl rfl rfl ?_
              refine RL.mv rfl rfl rfl ?_
              refine RL.skip rfl rfl ?_
              refine RL.skip rfl rfl ?_
              refine RL.skip rfl rfl ?_
              refine RL.pickT rfl rfl rfl rfl ?_
              refine RL.fin ?_
              cases h115
              exact fun a w st => mid_intro true h116 (St.cut [0, 1] ⟨rfl, rfl, rfl, rfl, rfl, rfl, rfl, rfl, trivial⟩ (by decide) rfl st)
            · replace h115 := ite_f b120 h115
              refine RL.mv rfl rfl rfl ?_
              refine RL.mv rfl rfl rfl ?_
              refine RL.binI (v := .bool (decide (y100 ≥ x0))) rfl rfl rfl rfl rfl ?_
              refine RL.pickF rfl rfl rfl rfl ?_
              refine RL.mv rfl rfl rfl ?_
              refine RL.split (t := 27) rfl (fun b121 => ?_) (fun b121 => ?_)
              · replace h115 := ite_t b121 h115
                refine RL.skip rfl rfl ?_
                refine RL.skip rfl rfl ?_
                refine RL.skip rfl rfl ?_
                refine RL.pickT rfl rfl rfl rfl ?_
                refine RL.fin ?_
                cases h115
                exact fun a w st => mid_intro true h116 (St.cut [0, 1] ⟨rfl, rfl, rfl, rfl, rfl, rfl, rfl, rfl, trivial⟩ (by decide) rfl st)
              · replace h115 := ite_f b121 h115
                refine RL.mv rfl rfl rfl ?_
                obtain ⟨y122, e123, h115⟩ := bind_some h115
                refine RL.idxA0 (sz := 1) (t' := TR.bool) 1 Try.underlying93 Try_ln4 rfl rfl rfl PtOf.obox rfl rfl Part.self (idx_some e123).1 (idx_some e123).2.1 ?_
                refine RL.ldPx (off := ((y100).toNat * 1)) (e' := y122) 1 Ex.bool Try_ln4 rfl rfl (Or.inl rfl) rfl PtOf.obox (Part.arr (idx_some e123).2.2 Part.self) ?_
                refine RL.pickF rfl rfl rfl rfl ?_
                refine RL.fin ?_
                cases h115
                exact fun a w st => mid_intro y122 h116 (St.cut [0, 1] ⟨rfl, rfl, rfl, rfl, rfl, rfl, rfl, rfl, trivial⟩ (by decide) rfl st)
          · rintro x112 h124
            have h125 := h117 _ h124
            try dsimp only at h125
            refine GL.weak (env' := [(0, .int .i64 x0), (1, v1), (5, v18), (7, .int .i64 y100), (14, v1), (15, .int .i64 ((x1).length : Int)), (16, .int .i64 (i90 : Int)), (31, .bool x112)]) (L' := [imm (TR.sl TR.int) v1 x1, obox 93 (TR.arr 6 TR.bool) v18 l50]) (fun _ _ st => st) ?_
            refine GL.cond rfl (fun b126 => ?_) (fun b126 => ?_)
            · replace h125 := ite_t b126 h125
              refine GL.seq ?_
              refine GL.region ?_
              refine RL.asg rfl rfl rfl ?_
              refine RL.finG ?_
              cases h125
              replace h94 : some (Fl.rt _) = some y83 := h94
              cases h94
              have hh := h88 _ h86
              subst hh
              exact GL.ret (Gx.ret (v := .int .i64 (3 : Int)) (res1 rfl rfl) (fun a w st => st.toPostV))
            · replace h125 := ite_f b126 h125
              refine GL.skip ?_
              refine GL.region ?_
              refine RL.mv rfl rfl rfl ?_
              obtain ⟨y129, e130, h125⟩ := bind_some h125
              refine RL.idxA0 (sz := 1) (t' := TR.bool) 1 Try.underlying93 Try_ln4 rfl rfl rfl PtOf.obox rfl rfl Part.self (idx_some e130).1 (idx_some e130).2.1 ?_
              refine RL.stP (off := ((y100).toNat * 1)) (e' := true) (d1 := (List.set l50 ((y100).toNat) true)) (r := TR.bool) 1 Try_ln4 rfl rfl (Or.inl rfl) rfl VR.bool rfl (Upd.arr (idx_some e130).2.2 Upd.self) ?_
              refine RL.finG ?_
              refine GL.nilB ?_
              refine GL.region ?_
              refine RL.binI (v := .int .i64 ((i90 + 1 : Nat) : Int)) rfl rfl rfl rfl (binI_succ i90 (by omega)) ?_
              refine RL.mv rfl rfl rfl ?_
              refine RL.fin ?_
              cases h125
              exact fun a w st => lop_intro (i90 + 1, r102, (List.set l50 ((y100).toNat) true)) ⟨by show i90 + 1 + r102.length = (x1).length; simp only [List.length_cons] at h96; omega, h103, h94⟩ (by simp) (St.cut [0, 1] ⟨rfl, rfl, rfl, rfl, rfl, rfl, trivial⟩ (by decide) rfl st)
        · have h99 : ¬ i90 < (x1).length := by have := of_decide_eq_false b98; omega
          obtain rfl : r91 = [] := by rw [← h97]; exact List.drop_of_length_le (by omega)
          replace h95 : some (Fl.nx _) = some y83 := h95
          cases h95
          exact GL.exit (fun a w st => mid_intro l50 h86 (St.cut [0] ⟨rfl, rfl, trivial⟩ (by decide) rfl st))
      · rintro l50 h131
        have h132 := h87 _ h131
        try dsimp only at h132
        refine GL.weak (env' := [(0, .int .i64 x0), (1, v1)]) (L' := [imm (TR.sl TR.int) v1 x1]) (fun _ _ st => st) ?_
        refine GL.seq ?_
        refine GL.seq ?_
        refine GL.region ?_
        refine RL.mv rfl rfl rfl ?_
        refine RL.lenS 0 Try.underlying23 rfl rfl rfl rfl SlOf.imm ?_
        refine RL.mv rfl rfl rfl ?_
        refine RL.binI (v := .bool (((x1).length : Int) != x0)) rfl rfl rfl rfl rfl ?_
        refine RL.finG ?_
        refine GL.cond rfl (fun b133 => ?_) (fun b133 => ?_)
        · replace h132 := ite_t b133 h132
          refine GL.seq ?_
          refine GL.region ?_
          refine RL.asg rfl rfl rfl ?_
          refine RL.finG ?_
          have h132 := Option.some.inj h132
          subst h132
          exact GL.ret (Gx.ret (v := .int .i64 (3 : Int)) (res1 rfl rfl) (fun a w st => st.toPostV))
        · replace h132 := ite_f b133 h132
          refine GL.skip ?_
          refine GL.seq ?_
          refine GL.region ?_
          refine RL.asg rfl rfl rfl ?_
          refine RL.finG ?_
          have h132 := Option.some.inj h132
          subst h132
          exact GL.ret (Gx.ret (v := .int .i64 (0 : Int)) (res1 rfl rfl) (fun a w st => st.toPostV))

set_option maxHeartbeats 4000000 in
theorem tally_Check_c (S : Hp) (w : World) (hS : S.sub w) (x0 : Int) (v1 : Value) (x1 : (List (List Int))) (k1 : ((TR.sl (TR.sl TR.int))).vrep S v1 x1) (res : Int) (hm : tally_Check_m x0 x1 = some res) : Calls Try.prog 33 #[.int .i64 x0, v1] w (PostV w (.int .i64 res)) := by
  refine calls_enter 27 Try.func33 Try.ntmps33 rfl S false [(0, .int .i64 x0), (1, v1)] [imm (TR.sl (TR.sl TR.int)) v1 x1] rfl ⟨rfl, ⟨rfl, trivial⟩⟩ hS ⟨k1, trivial⟩ ?_
  unfold tally_Check_m at hm
  refine GL.seq ?_
  refine GL.region ?_
  refine RL.asg rfl rfl rfl ?_
  refine RL.finG ?_
  refine GL.seq ?_
  refine GL.seq ?_
  obtain ⟨y6, K7, h8, h9, h10, h11, h12⟩ := bindR_K hm
  refine GL.join (ι := Bool) (fun (p : Bool) => [(0, .int .i64 x0), (1, v1), (12, .bool p)]) (fun (p : Bool) => [imm (TR.sl (TR.sl TR.int)) v1 x1]) (fun (p : Bool) => K7 (.nx p)) ?_ ?_
  · skip
    refine GL.region ?_
    refine RL.mv rfl rfl rfl ?_
    refine RL.binI (v := .bool (decide (x0 < (1 : Int)))) rfl rfl rfl rfl rfl ?_
    refine RL.mv rfl rfl rfl ?_
    refine RL.split (t := 9) rfl (fun b13 => ?_) (fun b13 => ?_)
    · replace h8 := ite_t b13 h8
      refine RL.skip rfl rfl ?_
      refine RL.skip rfl rfl ?_
      refine RL.pickT rfl rfl rfl rfl ?_
      refine RL.fin ?_
      cases h8
      exact fun a w st => mid_intro true h9 (St.cut [0] ⟨rfl, rfl, rfl, trivial⟩ (by decide) rfl st)
    · replace h8 := ite_f b13 h8
      refine RL.mv rfl rfl rfl ?_
      refine RL.binI (v := .bool (decide (x0 > (6 : Int)))) rfl rfl rfl rfl rfl ?_
      refine RL.pickF rfl rfl rfl rfl ?_
      refine RL.fin ?_
      cases h8
      exact fun a w st => mid_intro (decide (x0 > (6 : Int))) h9 (St.cut [0] ⟨rfl, rfl, rfl, trivial⟩ (by decide) rfl st)
  · rintro x5 h14
    have h15 := h10 _ h14
    try dsimp only at h15
    refine GL.weak (env' := [(0, .int .i64 x0), (1, v1), (12, .bool x5)]) (L' := [imm (TR.sl (TR.sl TR.int)) v1 x1]) (fun _ _ st => st) ?_
    refine GL.cond rfl (fun b16 => ?_) (fun b16 => ?_)
    · replace h15 := ite_t b16 h15
      refine GL.seq ?_
      refine GL.region ?_
      refine RL.asg rfl rfl rfl ?_
      refine RL.finG ?_
      have h15 := Option.some.inj h15
      subst h15
      exact GL.ret (Gx.ret (v := .int .i64 (1 : Int)) (res1 rfl rfl) (fun a w st => st.toPostV))
    · replace h15 := ite_f b16 h15
      refine GL.skip ?_
      refine GL.seq ?_
      refine GL.seq ?_
      refine GL.region ?_
      refine RL.mv rfl rfl rfl ?_
      refine RL.lenS 0 Try.underlying22 rfl rfl rfl rfl SlOf.imm ?_
      refine RL.binI (v := .bool (decide (((x1).length : Int) > (30 : Int)))) rfl rfl rfl rfl rfl ?_
      refine RL.finG ?_
      refine GL.cond rfl (fun b17 => ?_) (fun b17 => ?_)
      · replace h15 := ite_t b17 h15
        refine GL.seq ?_
        refine GL.region ?_
        refine RL.asg rfl rfl rfl ?_
        refine RL.finG ?_
        have h15 := Option.some.inj h15
        subst h15
        exact GL.ret (Gx.ret (v := .int .i64 (2 : Int)) (res1 rfl rfl) (fun a w st => st.toPostV))
      · replace h15 := ite_f b17 h15
        refine GL.skip ?_
        refine GL.seq ?_
        refine GL.seq ?_
        refine GL.region ?_
        refine RL.mv rfl rfl rfl ?_
        refine RL.lenS 0 Try.underlying22 rfl rfl rfl rfl SlOf.imm ?_
        refine RL.mv rfl rfl rfl ?_
        refine RL.finG ?_
        refine GL.open_ 0 rfl (fun S h => len_imm S h) (fun n29 => ?_)
        obtain ⟨y30, K31, h32, h33, h34, h35, h36⟩ := bindR_K h15
        refine GL.join (ι := Unit) (fun (p : Unit) => []) (fun (p : Unit) => []) (fun (p : Unit) => K31 (.nx ())) ?_ ?_
        · refine GL.block ?_
          refine GL.loop (ι := Nat × (List (List Int))) (fun (p : Nat × (List (List Int))) => [(0, .int .i64 x0), (16, v1), (17, .int .i64 ((x1).length : Int)), (18, .int .i64 (p.1 : Int))]) (fun (p : Nat × (List (List Int))) => [imm (TR.sl (TR.sl TR.int)) v1 x1]) (fun (p : Nat × (List (List Int))) => p.1 + p.2.length = (x1).length ∧ List.drop p.1 x1 = p.2 ∧ rangeL (tally_Check_b1 x0) p.2 p.1 () = some y30) (fun (p : Nat × (List (List Int))) => p.2.length) (0, x1) ⟨by simp, by simp, h32⟩ (fun a w st => St.cut [0] ⟨rfl, rfl, rfl, rfl, trivial⟩ (by decide) rfl st) ?_
          rintro ⟨i37, r38⟩ ⟨h43, h44, h42⟩
          try dsimp only at h43 h44 h42
          refine GL.weak (env' := [(0, .int .i64 x0), (16, v1), (17, .int .i64 ((x1).length : Int)), (18, .int .i64 (i37 : Int))]) (L' := [imm (TR.sl (TR.sl TR.int)) v1 x1]) (fun _ _ st => st) ?_
          refine GL.seq ?_
          refine GL.region ?_
          refine RL.binI (v := .bool (decide ((i37 : Int) < ((x1).length : Int)))) rfl rfl rfl rfl rfl ?_
          refine RL.finG ?_
          refine GL.seq ?_
          refine GL.cond rfl (fun b45 => ?_) (fun b45 => ?_)
          · have h46 : i37 < (x1).length := by have := of_decide_eq_true b45; omega
            obtain ⟨y47, r49, hr, e48, h50⟩ := drop_cons h44 rfl h46
            subst hr
            obtain ⟨z39, h40, h41⟩ := rangeL_some h42
            unfold tally_Check_b1 at h40
            try dsimp only at h40
            refine GL.skip ?_
            refine GL.seq ?_
            refine GL.block ?_
            refine GL.seq ?_
            refine GL.region ?_
            refine RL.idxS (sz := 1) 0 Try.underlying22 Try_ln23 rfl rfl rfl rfl rfl SlOf.imm (by omega) (by omega) ?_
            refine RL.ldS (i := i37) (r := (TR.sl TR.int)) (e' := y47) 0 Try_ln23 rfl rfl rfl rfl SlOf.imm e48 Part.self ?_
            intro v52
            refine RL.asg rfl rfl rfl ?_
            refine RL.finG ?_
            refine GL.seq ?_
            refine GL.region ?_
            refine RL.mv rfl rfl rfl ?_
            refine RL.mv rfl rfl rfl ?_
            obtain ⟨y55, e56, h40⟩ := bind_some h40
            refine RL.callV (v := .int .i64 y55) (vs := [.int .i64 x0, v52]) Try_fit34 rfl (Or.inl rfl) rfl rfl rfl rfl (fun U w hU hW hL => order_Check_c U w hU x0 _ _ (hL 1 _ _ rfl Seen.imm) _ e56) ?_
            refine RL.binI (v := .bool (y55 != (0 : Int))) rfl rfl rfl rfl rfl ?_
            refine RL.finG ?_
            refine GL.cond rfl (fun b57 => ?_) (fun b57 => ?_)
            · replace h40 := ite_t b57 h40
              refine GL.seq ?_
              refine GL.region ?_
              refine RL.asg rfl rfl rfl ?_
              refine RL.finG ?_
              cases h40
              replace h41 : some (Fl.rt _) = some y30 := h41
              cases h41
              have hh := h35 _ h33
              subst hh
              exact GL.ret (Gx.ret (v := .int .i64 (3 : Int)) (res1 rfl rfl) (fun a w st => st.toPostV))
            · replace h40 := ite_f b57 h40
              refine GL.skip ?_
              refine GL.nilB ?_
              refine GL.region ?_
              refine RL.binI (v := .int .i64 ((i37 + 1 : Nat) : Int)) rfl rfl rfl rfl (binI_succ i37 (by omega)) ?_
              refine RL.mv rfl rfl rfl ?_
              refine RL.fin ?_
              cases h40
              exact fun a w st => lop_intro (i37 + 1, r49) ⟨by show i37 + 1 + r49.length = (x1).length; simp only [List.length_cons] at h43; omega, h50, h41⟩ (by simp) (St.cut [0] ⟨rfl, rfl, rfl, rfl, trivial⟩ (by decide) rfl st)
          · have h46 : ¬ i37 < (x1).length := by have := of_decide_eq_false b45; omega
            obtain rfl : r38 = [] := by rw [← h44]; exact List.drop_of_length_le (by omega)
            replace h42 : some (Fl.nx _) = some y30 := h42
            cases h42
            exact GL.exit (fun a w st => mid_intro () h33 (St.cut [] trivial (by decide) rfl st))
        · rintro ⟨⟩ h58
          have h59 := h34 _ h58
          try dsimp only at h59
          refine GL.weak (env' := []) (L' := []) (fun _ _ st => st) ?_
          refine GL.seq ?_
          refine GL.region ?_
          refine RL.asg rfl rfl rfl ?_
          refine RL.finG ?_
          have h59 := Option.some.inj h59
          subst h59
          exact GL.ret (Gx.ret (v := .int .i64 (0 : Int)) (res1 rfl rfl) (fun a w st => st.toPostV))

set_option maxHeartbeats 4000000 in
theorem slices_Index_int_int_c (S : Hp) (w : World) (hS : S.sub w) (v0 : Value) (x0 : (List Int)) (k0 : ((TR.sl TR.int)).vrep S v0 x0) (x1 : Int) (res : Int) (hm : slices_Index_int_int_m x0 x1 = some res) : Calls Try.prog 53 #[v0, .int .i64 x1] w (PostC w (.int .i64 res)) := by
  refine calls_enter 19 Try.func53 Try.ntmps53 rfl S true [(0, v0), (1, .int .i64 x1)] [imm (TR.sl TR.int) v0 x0] rfl ⟨rfl, ⟨rfl, trivial⟩⟩ hS ⟨k0, trivial⟩ ?_
  unfold slices_Index_int_int_m at hm
  refine GL.seq ?_
  refine GL.region ?_
  refine RL.asg rfl rfl rfl ?_
  refine RL.finG ?_
  refine GL.seq ?_
  refine GL.seq ?_
  refine GL.region ?_
  refine RL.mv rfl rfl rfl ?_
  refine RL.lenS 0 Try.underlying23 rfl rfl rfl rfl SlOf.imm ?_
  refine RL.mv rfl rfl rfl ?_
  refine RL.finG ?_
  refine GL.open_ 0 rfl (fun S h => len_imm S h) (fun n8 => ?_)
  obtain ⟨y9, K10, h11, h12, h13, h14, h15⟩ := bindR_K hm
  refine GL.join (ι := Unit) (fun (p : Unit) => []) (fun (p : Unit) => []) (fun (p : Unit) => K10 (.nx ())) ?_ ?_
  · refine GL.block ?_
    refine GL.loop (ι := Nat × (List Int)) (fun (p : Nat × (List Int)) => [(0, v0), (1, .int .i64 x1), (7, .int .i64 ((x0).length : Int)), (8, .int .i64 (p.1 : Int))]) (fun (p : Nat × (List Int)) => [imm (TR.sl TR.int) v0 x0]) (fun (p : Nat × (List Int)) => p.1 + p.2.length = (x0).length ∧ List.drop p.1 x0 = p.2 ∧ rangeL (slices_Index_int_int_b1 x1) p.2 p.1 () = some y9) (fun (p : Nat × (List Int)) => p.2.length) (0, x0) ⟨by simp, by simp, h11⟩ (fun a w st => St.cut [0] ⟨rfl, rfl, rfl, rfl, trivial⟩ (by decide) rfl st) ?_
    rintro ⟨i16, r17⟩ ⟨h22, h23, h21⟩
    try dsimp only at h22 h23 h21
    refine GL.weak (env' := [(0, v0), (1, .int .i64 x1), (7, .int .i64 ((x0).length : Int)), (8, .int .i64 (i16 : Int))]) (L' := [imm (TR.sl TR.int) v0 x0]) (fun _ _ st => st) ?_
    refine GL.seq ?_
    refine GL.region ?_
    refine RL.binI (v := .bool (decide ((i16 : Int) < ((x0).length : Int)))) rfl rfl rfl rfl rfl ?_
    refine RL.finG ?_
    refine GL.seq ?_
    refine GL.cond rfl (fun b24 => ?_) (fun b24 => ?_)
    · have h25 : i16 < (x0).length := by have := of_decide_eq_true b24; omega
      obtain ⟨y26, r28, hr, e27, h29⟩ := drop_cons h23 rfl h25
      subst hr
      obtain ⟨z18, h19, h20⟩ := rangeL_some h21
      unfold slices_Index_int_int_b1 at h19
      try dsimp only at h19
      refine GL.skip ?_
      refine GL.seq ?_
      refine GL.block ?_
      refine GL.seq ?_
      refine GL.region ?_
      refine RL.mv rfl rfl rfl ?_
      refine RL.asg rfl rfl rfl ?_
      refine RL.finG ?_
      refine GL.seq ?_
      refine GL.region ?_
      refine RL.mv rfl rfl rfl ?_
      refine RL.mv rfl rfl rfl ?_
      refine RL.mv rfl rfl rfl ?_
      refine RL.idxS (sz := 1) 0 Try.underlying23 Try_ln3 rfl rfl rfl rfl rfl SlOf.imm (by omega) (by omega) ?_
      refine RL.ldSx (i := i16) (e' := y26) 0 Ex.ik Try_ln3 rfl rfl rfl rfl SlOf.imm e27 Part.self ?_
      refine RL.binI (v := .bool (x1 == y26)) rfl rfl rfl rfl rfl ?_
      refine RL.finG ?_
      refine GL.cond rfl (fun b30 => ?_) (fun b30 => ?_)
      · replace h19 := ite_t b30 h19
        refine GL.seq ?_
        refine GL.region ?_
        refine RL.mv rfl rfl rfl ?_
        refine RL.asg rfl rfl rfl ?_
        refine RL.finG ?_
        cases h19
        replace h20 : some (Fl.rt _) = some y9 := h20
        cases h20
        have hh := h14 _ h12
        subst hh
        exact GL.ret (Gx.ret (v := .int .i64 (i16 : Int)) (res1 rfl rfl) (fun a w st => st.toPostC rfl))
      · replace h19 := ite_f b30 h19
        refine GL.skip ?_
        refine GL.nilB ?_
        refine GL.region ?_
        refine RL.binI (v := .int .i64 ((i16 + 1 : Nat) : Int)) rfl rfl rfl rfl (binI_succ i16 (by omega)) ?_
        refine RL.mv rfl rfl rfl ?_
        refine RL.fin ?_
        cases h19
        exact fun a w st => lop_intro (i16 + 1, r28) ⟨by show i16 + 1 + r28.length = (x0).length; simp only [List.length_cons] at h22; omega, h29, h20⟩ (by simp) (St.cut [0] ⟨rfl, rfl, rfl, rfl, trivial⟩ (by decide) rfl st)
    · have h25 : ¬ i16 < (x0).length := by have := of_decide_eq_false b24; omega
      obtain rfl : r17 = [] := by rw [← h23]; exact List.drop_of_length_le (by omega)
      replace h21 : some (Fl.nx _) = some y9 := h21
      cases h21
      exact GL.exit (fun a w st => mid_intro () h12 (St.cut [] trivial (by decide) rfl st))
  · rintro ⟨⟩ h31
    have h32 := h13 _ h31
    try dsimp only at h32
    refine GL.weak (env' := []) (L' := []) (fun _ _ st => st) ?_
    refine GL.seq ?_
    refine GL.region ?_
    refine RL.asg rfl rfl rfl ?_
    refine RL.finG ?_
    have h32 := Option.some.inj h32
    subst h32
    exact GL.ret (Gx.ret (v := .int .i64 (-1 : Int)) (res1 rfl rfl) (fun a w st => st.toPostC rfl))

set_option maxHeartbeats 4000000 in
theorem order_Far_c (S : Hp) (w : World) (hS : S.sub w) (v0 : Value) (x0 : (List Int)) (k0 : ((TR.sl TR.int)).vrep S v0 x0) (v1 : Value) (x1 : (List Int)) (k1 : ((TR.sl TR.int)).vrep S v1 x1) (res : Int × Int) (hm : order_Far_m x0 x1 = some res) : Calls Try.prog 35 #[v0, v1] w (PostV w (.tuple #[.int .i64 res.1, .int .i64 res.2])) := by
  refine calls_enter 55 Try.func35 Try.ntmps35 rfl S false [(0, v0), (1, v1)] [imm (TR.sl TR.int) v0 x0, imm (TR.sl TR.int) v1 x1] rfl ⟨rfl, ⟨rfl, trivial⟩⟩ hS ⟨k0, ⟨k1, trivial⟩⟩ ?_
  unfold order_Far_m at hm
  refine GL.seq ?_
  refine GL.region ?_
  refine RL.asg rfl rfl rfl ?_
  refine RL.asg rfl rfl rfl ?_
  refine RL.finG ?_
  refine GL.seq ?_
  refine GL.seq ?_
  refine GL.region ?_
  refine RL.mv rfl rfl rfl ?_
  refine RL.lenS 0 Try.underlying23 rfl rfl rfl rfl SlOf.imm ?_
  refine RL.mv rfl rfl rfl ?_
  obtain ⟨y5, e6, hm⟩ := bind_some hm
  refine RL.callV (v := .int .i64 y5) (vs := [.int .i64 ((x0).length : Int), v0]) Try_fit34 rfl (Or.inl rfl) rfl rfl rfl rfl (fun U w hU hW hL => order_Check_c U w hU ((x0).length : Int) _ _ (hL 0 _ _ rfl Seen.imm) _ e6) ?_
  refine RL.asg rfl rfl rfl ?_
  refine RL.finG ?_
  refine GL.seq ?_
  refine GL.region ?_
  refine RL.mv rfl rfl rfl ?_
  refine RL.binI (v := .bool (y5 != (0 : Int))) rfl rfl rfl rfl rfl ?_
  refine RL.finG ?_
  refine GL.cond rfl (fun b7 => ?_) (fun b7 => ?_)
  · replace hm := ite_t b7 hm
    refine GL.seq ?_
    refine GL.region ?_
    refine RL.mv rfl rfl rfl ?_
    refine RL.asg rfl rfl rfl ?_
    refine RL.asg rfl rfl rfl ?_
    refine RL.finG ?_
    have hm := Option.some.inj hm
    subst hm
    exact GL.ret (Gx.ret (v := .tuple #[.int .i64 (0 : Int), .int .i64 y5]) (res2 rfl rfl rfl) (fun a w st => st.toPostV))
  · replace hm := ite_f b7 hm
    refine GL.skip ?_
    refine GL.seq ?_
    refine GL.seq ?_
    refine GL.region ?_
    refine RL.mv rfl rfl rfl ?_
    refine RL.lenS 0 Try.underlying23 rfl rfl rfl rfl SlOf.imm ?_
    refine RL.mv rfl rfl rfl ?_
    obtain ⟨y10, e11, hm⟩ := bind_some hm
    refine RL.callV (v := .int .i64 y10) (vs := [.int .i64 ((x0).length : Int), v1]) Try_fit34 rfl (Or.inl rfl) rfl rfl rfl rfl (fun U w hU hW hL => order_Check_c U w hU ((x0).length : Int) _ _ (hL 1 _ _ rfl Seen.imm) _ e11) ?_
    refine RL.asg rfl rfl rfl ?_
    refine RL.finG ?_
    refine GL.seq ?_
    refine GL.region ?_
    refine RL.mv rfl rfl rfl ?_
    refine RL.binI (v := .bool (y10 != (0 : Int))) rfl rfl rfl rfl rfl ?_
    refine RL.finG ?_
    refine GL.cond rfl (fun b12 => ?_) (fun b12 => ?_)
    · replace hm := ite_t b12 hm
      refine GL.seq ?_
      refine GL.region ?_
      refine RL.mv rfl rfl rfl ?_
      refine RL.asg rfl rfl rfl ?_
      refine RL.asg rfl rfl rfl ?_
      refine RL.finG ?_
      have hm := Option.some.inj hm
      subst hm
      exact GL.ret (Gx.ret (v := .tuple #[.int .i64 (0 : Int), .int .i64 y10]) (res2 rfl rfl rfl) (fun a w st => st.toPostV))
    · replace hm := ite_f b12 hm
      refine GL.skip ?_
      refine GL.seq ?_
      refine GL.region ?_
      refine RL.asg rfl rfl rfl ?_
      refine RL.finG ?_
      refine GL.seq ?_
      refine GL.seq ?_
      refine GL.region ?_
      refine RL.mv rfl rfl rfl ?_
      refine RL.lenS 0 Try.underlying23 rfl rfl rfl rfl SlOf.imm ?_
      refine RL.mv rfl rfl rfl ?_
      refine RL.finG ?_
      refine GL.open_ 0 rfl (fun S h => len_imm S h) (fun n71 => ?_)
      obtain ⟨y72, K73, h74, h75, h76, h77, h78⟩ := bindR_K hm
      refine GL.join (ι := Int) (fun (p : Int) => [(8, .int .i64 p)]) (fun (p : Int) => []) (fun (p : Int) => K73 (.nx p)) ?_ ?_
      · refine GL.block ?_
        refine GL.loop (ι := Nat × (List Int) × Int) (fun (p : Nat × (List Int) × Int) => [(0, v0), (1, v1), (8, .int .i64 p.2.2), (27, v0), (28, .int .i64 ((x0).length : Int)), (29, .int .i64 (p.1 : Int))]) (fun (p : Nat × (List Int) × Int) => [imm (TR.sl TR.int) v0 x0, imm (TR.sl TR.int) v1 x1]) (fun (p : Nat × (List Int) × Int) => p.1 + p.2.1.length = (x0).length ∧ List.drop p.1 x0 = p.2.1 ∧ rangeL (order_Far_b1 x0 x1) p.2.1 p.1 p.2.2 = some y72) (fun (p : Nat × (List Int) × Int) => p.2.1.length) (0, x0, (0 : Int)) ⟨by simp, by simp, h74⟩ (fun a w st => St.cut [0, 1] ⟨rfl, rfl, rfl, rfl, rfl, rfl, trivial⟩ (by decide) rfl st) ?_
        rintro ⟨i79, r80, x13⟩ ⟨h85, h86, h84⟩
        try dsimp only at h85 h86 h84
        refine GL.weak (env' := [(0, v0), (1, v1), (8, .int .i64 x13), (27, v0), (28, .int .i64 ((x0).length : Int)), (29, .int .i64 (i79 : Int))]) (L' := [imm (TR.sl TR.int) v0 x0, imm (TR.sl TR.int) v1 x1]) (fun _ _ st => st) ?_
        refine GL.seq ?_
        refine GL.region ?_
        refine RL.binI (v := .bool (decide ((i79 : Int) < ((x0).length : Int)))) rfl rfl rfl rfl rfl ?_
        refine RL.finG ?_
        refine GL.seq ?_
        refine GL.cond rfl (fun b87 => ?_) (fun b87 => ?_)
        · have h88 : i79 < (x0).length := by have := of_decide_eq_true b87; omega
          obtain ⟨y89, r91, hr, e90, h92⟩ := drop_cons h86 rfl h88
          subst hr
          obtain ⟨z81, h82, h83⟩ := rangeL_some h84
          unfold order_Far_b1 at h82
          try dsimp only at h82
          refine GL.skip ?_
          refine GL.seq ?_
          refine GL.block ?_
          refine GL.seq ?_
          refine GL.region ?_
          refine RL.mv rfl rfl rfl ?_
          refine RL.idxS (sz := 1) 0 Try.underlying23 Try_ln3 rfl rfl rfl rfl rfl SlOf.imm (by omega) (by omega) ?_
          refine RL.ldSx (i := i79) (e' := y89) 0 Ex.ik Try_ln3 rfl rfl rfl rfl SlOf.imm e90 Part.self ?_
          refine RL.asg rfl rfl rfl ?_
          refine RL.asg rfl rfl rfl ?_
          refine RL.finG ?_
          refine GL.seq ?_
          refine GL.region ?_
          refine RL.mv rfl rfl rfl ?_
          refine RL.mv rfl rfl rfl ?_
          refine RL.binI (v := .int .i64 (wadd (i79 : Int) (1 : Int))) rfl rfl rfl rfl rfl ?_
          obtain ⟨y96, e97, h82⟩ := bind_some h82
          replace e97 := chk_some e97
          refine RL.slc (t := TR.int) (i := (wadd (i79 : Int) (1 : Int)).toNat) (j := (x0).length) (sz := 1) 0 Try.underlying23 Try_ln3 rfl rfl rfl rfl (Or.inr ⟨_, _, rfl, by rw [Int.toNat_of_nonneg (by omega)]; rfl⟩) (Or.inl ⟨rfl, rfl⟩) rfl (by omega) (by omega) ?_
          intro v98
          refine RL.lenS 2 Try.underlying23 rfl rfl rfl rfl SlOf.imm ?_
          refine RL.mv rfl rfl rfl ?_
          refine RL.finG ?_
          refine GL.open_ 2 rfl (fun S h => len_imm S h) (fun n113 => ?_)
          obtain ⟨y114, K115, h116, h117, h118, h119, h120⟩ := bindF_K h82
          refine GL.join (ι := Int) (fun (p : Int) => [(0, v0), (1, v1), (8, .int .i64 p), (27, v0), (28, .int .i64 ((x0).length : Int)), (29, .int .i64 (i79 : Int))]) (fun (p : Int) => [imm (TR.sl TR.int) v0 x0, imm (TR.sl TR.int) v1 x1]) (fun (p : Int) => K115 (.nx p)) ?_ ?_
          · refine GL.block ?_
            refine GL.loop (ι := Nat × (List Int) × Int) (fun (p : Nat × (List Int) × Int) => [(0, v0), (1, v1), (8, .int .i64 p.2.2), (10, .int .i64 y89), (27, v0), (28, .int .i64 ((x0).length : Int)), (29, .int .i64 (i79 : Int)), (37, v98), (38, .int .i64 ((((List.take ((x0).length) x0).drop ((wadd (i79 : Int) (1 : Int)).toNat))).length : Int)), (39, .int .i64 (p.1 : Int))]) (fun (p : Nat × (List Int) × Int) => [imm (TR.sl TR.int) v0 x0, imm (TR.sl TR.int) v1 x1, imm (TR.sl TR.int) v98 ((List.take ((x0).length) x0).drop ((wadd (i79 : Int) (1 : Int)).toNat))]) (fun (p : Nat × (List Int) × Int) => p.1 + p.2.1.length = (((List.take ((x0).length) x0).drop ((wadd (i79 : Int) (1 : Int)).toNat))).length ∧ List.drop p.1 ((List.take ((x0).length) x0).drop ((wadd (i79 : Int) (1 : Int)).toNat)) = p.2.1 ∧ rangeL (order_Far_b2 x1 y89) p.2.1 p.1 p.2.2 = some y114) (fun (p : Nat × (List Int) × Int) => p.2.1.length) (0, ((List.take ((x0).length) x0).drop ((wadd (i79 : Int) (1 : Int)).toNat)), x13) ⟨by simp, by simp, h116⟩ (fun a w st => St.cut [0, 1, 2] ⟨rfl, rfl, rfl, rfl, rfl, rfl, rfl, rfl, rfl, rfl, trivial⟩ (by decide) rfl st) ?_
            rintro ⟨i121, r122, x99⟩ ⟨h127, h128, h126⟩
            try dsimp only at h127 h128 h126
            refine GL.weak (env' := [(0, v0), (1, v1), (8, .int .i64 x99), (10, .int .i64 y89), (27, v0), (28, .int .i64 ((x0).length : Int)), (29, .int .i64 (i79 : Int)), (37, v98), (38, .int .i64 ((((List.take ((x0).length) x0).drop ((wadd (i79 : Int) (1 : Int)).toNat))).length : Int)), (39, .int .i64 (i121 : Int))]) (L' := [imm (TR.sl TR.int) v0 x0, imm (TR.sl TR.int) v1 x1, imm (TR.sl TR.int) v98 ((List.take ((x0).length) x0).drop ((wadd (i79 : Int) (1 : Int)).toNat))]) (fun _ _ st => st) ?_
            refine GL.seq ?_
            refine GL.region ?_
            refine RL.binI (v := .bool (decide ((i121 : Int) < ((((List.take ((x0).length) x0).drop ((wadd (i79 : Int) (1 : Int)).toNat))).length : Int)))) rfl rfl rfl rfl rfl ?_
            refine RL.finG ?_
            refine GL.seq ?_
            refine GL.cond rfl (fun b129 => ?_) (fun b129 => ?_)
            · have h130 : i121 < (((List.take ((x0).length) x0).drop ((wadd (i79 : Int) (1 : Int)).toNat))).length := by have := of_decide_eq_true b129; omega
              obtain ⟨y131, r133, hr, e132, h134⟩ := drop_cons h128 rfl h130
              subst hr
              obtain ⟨z123, h124, h125⟩ := rangeL_some h126
              unfold order_Far_b2 at h124
              try dsimp only at h124
              refine GL.skip ?_
              refine GL.seq ?_
              refine GL.block ?_
              refine GL.seq ?_
              refine GL.region ?_
              refine RL.idxS (sz := 1) 2 Try.underlying23 Try_ln3 rfl rfl rfl rfl rfl SlOf.imm (by omega) (by omega) ?_
              refine RL.ldSx (i := i121) (e' := y131) 2 Ex.ik Try_ln3 rfl rfl rfl rfl SlOf.imm e132 Part.self ?_
              refine RL.asg rfl rfl rfl ?_
              refine RL.finG ?_
              refine GL.seq ?_
              refine GL.region ?_
              refine RL.mv rfl rfl rfl ?_
              refine RL.mv rfl rfl rfl ?_
              obtain ⟨y139, e140, h124⟩ := bind_some h124
              refine RL.callC (v := .int .i64 y139) (vs := [v1, .int .i64 y89]) Try_fit53 rfl rfl rfl rfl (fun U w hU hW hL => slices_Index_int_int_c U w hU _ _ (hL 1 _ _ rfl Seen.imm) y89 _ e140) ?_
              refine RL.mv rfl rfl rfl ?_
              refine RL.mv rfl rfl rfl ?_
              obtain ⟨y141, e142, h124⟩ := bind_some h124
              refine RL.callC (v := .int .i64 y141) (vs := [v1, .int .i64 y131]) Try_fit53 rfl rfl rfl rfl (fun U w hU hW hL => slices_Index_int_int_c U w hU _ _ (hL 1 _ _ rfl Seen.imm) y131 _ e142) ?_
              refine RL.binI (v := .bool (decide (y139 > y141))) rfl rfl rfl rfl rfl ?_
              refine RL.finG ?_
              refine GL.cond rfl (fun b143 => ?_) (fun b143 => ?_)
              · replace h124 := ite_t b143 h124
                refine GL.region ?_
                refine RL.mv rfl rfl rfl ?_
                refine RL.binI (v := .int .i64 (wadd x99 (1 : Int))) rfl rfl rfl rfl rfl ?_
                refine RL.asg rfl rfl rfl ?_
                refine RL.finG ?_
                refine GL.nilB ?_
                refine GL.region ?_
                refine RL.binI (v := .int .i64 ((i121 + 1 : Nat) : Int)) rfl rfl rfl rfl (binI_succ i121 (by omega)) ?_
                refine RL.mv rfl rfl rfl ?_
                refine RL.fin ?_
                cases h124
                exact fun a w st => lop_intro (i121 + 1, r133, wadd x99 (1 : Int)) ⟨by show i121 + 1 + r133.length = (((List.take ((x0).length) x0).drop ((wadd (i79 : Int) (1 : Int)).toNat))).length; simp only [List.length_cons] at h127; omega, h134, h125⟩ (by simp) (St.cut [0, 1, 2] ⟨rfl, rfl, rfl, rfl, rfl, rfl, rfl, rfl, rfl, rfl, trivial⟩ (by decide) rfl st)
              · replace h124 := ite_f b143 h124
                refine GL.skip ?_
                refine GL.nilB ?_
                refine GL.region ?_
                refine RL.binI (v := .int .i64 ((i121 + 1 : Nat) : Int)) rfl rfl rfl rfl (binI_succ i121 (by omega)) ?_
                refine RL.mv rfl rfl rfl ?_
                refine RL.fin ?_
                cases h124
                exact fun a w st => lop_intro (i121 + 1, r133, x99) ⟨by show i121 + 1 + r133.length = (((List.take ((x0).length) x0).drop ((wadd (i79 : Int) (1 : Int)).toNat))).length; simp only [List.length_cons] at h127; omega, h134, h125⟩ (by simp) (St.cut [0, 1, 2] ⟨rfl, rfl, rfl, rfl, rfl, rfl, rfl, rfl, rfl, rfl, trivial⟩ (by decide) rfl st)
            · have h130 : ¬ i121 < (((List.take ((x0).length) x0).drop ((wadd (i79 : Int) (1 : Int)).toNat))).length := by have := of_decide_eq_false b129; omega
              obtain rfl : r122 = [] := by rw [← h128]; exact List.drop_of_length_le (by omega)
              replace h126 : some (Fl.nx _) = some y114 := h126
              cases h126
              exact GL.exit (fun a w st => mid_intro x99 h117 (St.cut [0, 1] ⟨rfl, rfl, rfl, rfl, rfl, rfl, trivial⟩ (by decide) rfl st))
          · rintro x99 h144
            have h145 := h118 _ h144
            try dsimp only at h145
            refine GL.weak (env' := [(0, v0), (1, v1), (8, .int .i64 x99), (27, v0), (28, .int .i64 ((x0).length : Int)), (29, .int .i64 (i79 : Int))]) (L' := [imm (TR.sl TR.int) v0 x0, imm (TR.sl TR.int) v1 x1]) (fun _ _ st => st) ?_
            refine GL.nilB ?_
            refine GL.region ?_
            refine RL.binI (v := .int .i64 ((i79 + 1 : Nat) : Int)) rfl rfl rfl rfl (binI_succ i79 (by omega)) ?_
            refine RL.mv rfl rfl rfl ?_
            refine RL.fin ?_
            cases h145
            exact fun a w st => lop_intro (i79 + 1, r91, x99) ⟨by show i79 + 1 + r91.length = (x0).length; simp only [List.length_cons] at h85; omega, h92, h83⟩ (by simp) (St.cut [0, 1] ⟨rfl, rfl, rfl, rfl, rfl, rfl, trivial⟩ (by decide) rfl st)
        · have h88 : ¬ i79 < (x0).length := by have := of_decide_eq_false b87; omega
          obtain rfl : r80 = [] := by rw [← h86]; exact List.drop_of_length_le (by omega)
          replace h84 : some (Fl.nx _) = some y72 := h84
          cases h84
          exact GL.exit (fun a w st => mid_intro x13 h75 (St.cut [] ⟨rfl, trivial⟩ (by decide) rfl st))
      · rintro x13 h146
        have h147 := h76 _ h146
        try dsimp only at h147
        refine GL.weak (env' := [(8, .int .i64 x13)]) (L' := []) (fun _ _ st => st) ?_
        refine GL.seq ?_
        refine GL.region ?_
        refine RL.mv rfl rfl rfl ?_
        refine RL.asg rfl rfl rfl ?_
        refine RL.asg rfl rfl rfl ?_
        refine RL.finG ?_
        have h147 := Option.some.inj h147
        subst h147
        exact GL.ret (Gx.ret (v := .tuple #[.int .i64 x13, .int .i64 (0 : Int)]) (res2 rfl rfl rfl) (fun a w st => st.toPostV))

set_option maxHeartbeats 4000000 in
theorem middle_Far_c (S : Hp) (w : World) (hS : S.sub w) (x0 : Int) (v1 : Value) (x1 : (List (List Int))) (k1 : ((TR.sl (TR.sl TR.int))).vrep S v1 x1) (v2 : Value) (x2 : (List Int)) (k2 : ((TR.sl TR.int)).vrep S v2 x2) (res : Int × Int) (hm : middle_Far_m x0 x1 x2 = some res) : Calls Try.prog 11 #[.int .i64 x0, v1, v2] w (PostV w (.tuple #[.int .i64 res.1, .int .i64 res.2])) := by
  refine calls_enter 41 Try.func11 Try.ntmps11 rfl S false [(0, .int .i64 x0), (1, v1), (2, v2)] [imm (TR.sl (TR.sl TR.int)) v1 x1, imm (TR.sl TR.int) v2 x2] rfl ⟨rfl, ⟨rfl, ⟨rfl, trivial⟩⟩⟩ hS ⟨k1, ⟨k2, trivial⟩⟩ ?_
  unfold middle_Far_m at hm
  refine GL.seq ?_
  refine GL.region ?_
  refine RL.asg rfl rfl rfl ?_
  refine RL.asg rfl rfl rfl ?_
  refine RL.finG ?_
  refine GL.seq ?_
  refine GL.seq ?_
  refine GL.region ?_
  refine RL.mv rfl rfl rfl ?_
  refine RL.mv rfl rfl rfl ?_
  obtain ⟨y6, e7, hm⟩ := bind_some hm
  refine RL.callV (v := .int .i64 y6) (vs := [.int .i64 x0, v1]) Try_fit33 rfl (Or.inl rfl) rfl rfl rfl rfl (fun U w hU hW hL => tally_Check_c U w hU x0 _ _ (hL 0 _ _ rfl Seen.imm) _ e7) ?_
  refine RL.asg rfl rfl rfl ?_
  refine RL.finG ?_
  refine GL.seq ?_
  refine GL.region ?_
  refine RL.mv rfl rfl rfl ?_
  refine RL.binI (v := .bool (y6 != (0 : Int))) rfl rfl rfl rfl rfl ?_
  refine RL.finG ?_
  refine GL.cond rfl (fun b8 => ?_) (fun b8 => ?_)
  · replace hm := ite_t b8 hm
    refine GL.seq ?_
    refine GL.region ?_
    refine RL.mv rfl rfl rfl ?_
    refine RL.asg rfl rfl rfl ?_
    refine RL.asg rfl rfl rfl ?_
    refine RL.finG ?_
    have hm := Option.some.inj hm
    subst hm
    exact GL.ret (Gx.ret (v := .tuple #[.int .i64 (0 : Int), .int .i64 y6]) (res2 rfl rfl rfl) (fun a w st => st.toPostV))
  · replace hm := ite_f b8 hm
    refine GL.skip ?_
    refine GL.seq ?_
    refine GL.seq ?_
    refine GL.region ?_
    refine RL.mv rfl rfl rfl ?_
    refine RL.mv rfl rfl rfl ?_
    obtain ⟨y11, e12, hm⟩ := bind_some hm
    refine RL.callV (v := .int .i64 y11) (vs := [.int .i64 x0, v2]) Try_fit34 rfl (Or.inl rfl) rfl rfl rfl rfl (fun U w hU hW hL => order_Check_c U w hU x0 _ _ (hL 1 _ _ rfl Seen.imm) _ e12) ?_
    refine RL.binI (v := .bool (y11 != (0 : Int))) rfl rfl rfl rfl rfl ?_
    refine RL.finG ?_
    refine GL.cond rfl (fun b13 => ?_) (fun b13 => ?_)
    · replace hm := ite_t b13 hm
      refine GL.seq ?_
      refine GL.region ?_
      refine RL.asg rfl rfl rfl ?_
      refine RL.asg rfl rfl rfl ?_
      refine RL.finG ?_
      have hm := Option.some.inj hm
      subst hm
      exact GL.ret (Gx.ret (v := .tuple #[.int .i64 (0 : Int), .int .i64 (3 : Int)]) (res2 rfl rfl rfl) (fun a w st => st.toPostV))
    · replace hm := ite_f b13 hm
      refine GL.skip ?_
      refine GL.seq ?_
      refine GL.region ?_
      refine RL.asg rfl rfl rfl ?_
      refine RL.finG ?_
      refine GL.seq ?_
      refine GL.seq ?_
      refine GL.region ?_
      refine RL.mv rfl rfl rfl ?_
      refine RL.lenS 0 Try.underlying22 rfl rfl rfl rfl SlOf.imm ?_
      refine RL.mv rfl rfl rfl ?_
      refine RL.finG ?_
      refine GL.open_ 0 rfl (fun S h => len_imm S h) (fun n25 => ?_)
      obtain ⟨y26, K27, h28, h29, h30, h31, h32⟩ := bindR_K hm
      refine GL.join (ι := Int) (fun (p : Int) => [(9, .int .i64 p)]) (fun (p : Int) => []) (fun (p : Int) => K27 (.nx p)) ?_ ?_
      · refine GL.block ?_
        refine GL.loop (ι := Nat × (List (List Int)) × Int) (fun (p : Nat × (List (List Int)) × Int) => [(2, v2), (9, .int .i64 p.2.2), (24, v1), (25, .int .i64 ((x1).length : Int)), (26, .int .i64 (p.1 : Int))]) (fun (p : Nat × (List (List Int)) × Int) => [imm (TR.sl TR.int) v2 x2, imm (TR.sl (TR.sl TR.int)) v1 x1]) (fun (p : Nat × (List (List Int)) × Int) => p.1 + p.2.1.length = (x1).length ∧ List.drop p.1 x1 = p.2.1 ∧ rangeL (middle_Far_b1 x2) p.2.1 p.1 p.2.2 = some y26) (fun (p : Nat × (List (List Int)) × Int) => p.2.1.length) (0, x1, (0 : Int)) ⟨by simp, by simp, h28⟩ (fun a w st => St.cut [1, 0] ⟨rfl, rfl, rfl, rfl, rfl, trivial⟩ (by decide) rfl st) ?_
        rintro ⟨i33, r34, x14⟩ ⟨h39, h40, h38⟩
        try dsimp only at h39 h40 h38
        refine GL.weak (env' := [(2, v2), (9, .int .i64 x14), (24, v1), (25, .int .i64 ((x1).length : Int)), (26, .int .i64 (i33 : Int))]) (L' := [imm (TR.sl TR.int) v2 x2, imm (TR.sl (TR.sl TR.int)) v1 x1]) (fun _ _ st => st) ?_
        refine GL.seq ?_
        refine GL.region ?_
        refine RL.binI (v := .bool (decide ((i33 : Int) < ((x1).length : Int)))) rfl rfl rfl rfl rfl ?_
        refine RL.finG ?_
        refine GL.seq ?_
        refine GL.cond rfl (fun b41 => ?_) (fun b41 => ?_)
        · have h42 : i33 < (x1).length := by have := of_decide_eq_true b41; omega
          obtain ⟨y43, r45, hr, e44, h46⟩ := drop_cons h40 rfl h42
          subst hr
          obtain ⟨z35, h36, h37⟩ := rangeL_some h38
          unfold middle_Far_b1 at h36
          try dsimp only at h36
          refine GL.skip ?_
          refine GL.seq ?_
          refine GL.block ?_
          refine GL.seq ?_
          refine GL.region ?_
          refine RL.idxS (sz := 1) 1 Try.underlying22 Try_ln23 rfl rfl rfl rfl rfl SlOf.imm (by omega) (by omega) ?_
          refine RL.ldS (i := i33) (r := (TR.sl TR.int)) (e' := y43) 1 Try_ln23 rfl rfl rfl rfl SlOf.imm e44 Part.self ?_
          intro v48
          refine RL.asg rfl rfl rfl ?_
          refine RL.finG ?_
          refine GL.seq ?_
          refine GL.region ?_
          refine RL.mv rfl rfl rfl ?_
          refine RL.mv rfl rfl rfl ?_
          obtain ⟨y51, e52, h36⟩ := bind_some h36
          refine RL.callV (v := .tuple #[.int .i64 y51.1, .int .i64 y51.2]) (vs := [v2, v48]) Try_fit35 rfl (Or.inl rfl) rfl rfl rfl rfl (fun U w hU hW hL => order_Far_c U w hU _ _ (hL 0 _ _ rfl Seen.imm) _ _ (hL 2 _ _ rfl Seen.imm) _ e52) ?_
          refine RL.mv rfl rfl rfl ?_
          refine RL.ext rfl rfl rfl rfl ?_
          refine RL.ext rfl rfl rfl rfl ?_
          refine RL.asg rfl rfl rfl ?_
          refine RL.asg rfl rfl rfl ?_
          refine RL.finG ?_
          refine GL.region ?_
          refine RL.mv rfl rfl rfl ?_
          refine RL.mv rfl rfl rfl ?_
          refine RL.binI (v := .int .i64 (wadd x14 y51.1)) rfl rfl rfl rfl rfl ?_
          refine RL.asg rfl rfl rfl ?_
          refine RL.finG ?_
          refine GL.nilB ?_
          refine GL.region ?_
          refine RL.binI (v := .int .i64 ((i33 + 1 : Nat) : Int)) rfl rfl rfl rfl (binI_succ i33 (by omega)) ?_
          refine RL.mv rfl rfl rfl ?_
          refine RL.fin ?_
          cases h36
          exact fun a w st => lop_intro (i33 + 1, r45, wadd x14 y51.1) ⟨by show i33 + 1 + r45.length = (x1).length; simp only [List.length_cons] at h39; omega, h46, h37⟩ (by simp) (St.cut [0, 1] ⟨rfl, rfl, rfl, rfl, rfl, trivial⟩ (by decide) rfl st)
        · have h42 : ¬ i33 < (x1).length := by have := of_decide_eq_false b41; omega
          obtain rfl : r34 = [] := by rw [← h40]; exact List.drop_of_length_le (by omega)
          replace h38 : some (Fl.nx _) = some y26 := h38
          cases h38
          exact GL.exit (fun a w st => mid_intro x14 h29 (St.cut [] ⟨rfl, trivial⟩ (by decide) rfl st))
      · rintro x14 h53
        have h54 := h30 _ h53
        try dsimp only at h54
        refine GL.weak (env' := [(9, .int .i64 x14)]) (L' := []) (fun _ _ st => st) ?_
        refine GL.seq ?_
        refine GL.region ?_
        refine RL.mv rfl rfl rfl ?_
        refine RL.asg rfl rfl rfl ?_
        refine RL.asg rfl rfl rfl ?_
        refine RL.finG ?_
        have h54 := Option.some.inj h54
        subst h54
        exact GL.ret (Gx.ret (v := .tuple #[.int .i64 x14, .int .i64 (0 : Int)]) (res2 rfl rfl rfl) (fun a w st => st.toPostV))

set_option maxHeartbeats 4000000 in
theorem tally_Duels_c (S : Hp) (w : World) (hS : S.sub w) (x0 : Int) (v1 : Value) (x1 : (List (List Int))) (k1 : ((TR.sl (TR.sl TR.int))).vrep S v1 x1) (res : (List (List Int)) × Int) (hm : tally_Duels_m x0 x1 = some res) : Calls Try.prog 12 #[.int .i64 x0, v1] w (Post w S (fun (o : Value) => .tuple #[o, .int .i64 res.2]) (fun (o : Value) => [imm (TR.sl (TR.sl TR.int)) o res.1])) := by
  refine calls_enter 69 Try.func12 Try.ntmps12 rfl S false [(0, .int .i64 x0), (1, v1)] [imm (TR.sl (TR.sl TR.int)) v1 x1] rfl ⟨rfl, ⟨rfl, trivial⟩⟩ hS ⟨k1, trivial⟩ ?_
  unfold tally_Duels_m at hm
  refine GL.seq ?_
  refine GL.region ?_
  refine RL.asg rfl rfl rfl ?_
  refine RL.asg rfl rfl rfl ?_
  refine RL.finG ?_
  refine GL.seq ?_
  refine GL.seq ?_
  refine GL.region ?_
  refine RL.mv rfl rfl rfl ?_
  refine RL.mv rfl rfl rfl ?_
  obtain ⟨y5, e6, hm⟩ := bind_some hm
  refine RL.callV (v := .int .i64 y5) (vs := [.int .i64 x0, v1]) Try_fit33 rfl (Or.inl rfl) rfl rfl rfl rfl (fun U w hU hW hL => tally_Check_c U w hU x0 _ _ (hL 0 _ _ rfl Seen.imm) _ e6) ?_
  refine RL.asg rfl rfl rfl ?_
  refine RL.finG ?_
  refine GL.seq ?_
  refine GL.region ?_
  refine RL.mv rfl rfl rfl ?_
  refine RL.binI (v := .bool (y5 != (0 : Int))) rfl rfl rfl rfl rfl ?_
  refine RL.finG ?_
  refine GL.cond rfl (fun b7 => ?_) (fun b7 => ?_)
  · replace hm := ite_t b7 hm
    refine GL.seq ?_
    refine GL.region ?_
    refine RL.mv rfl rfl rfl ?_
    refine RL.asg rfl rfl rfl ?_
    refine RL.asg rfl rfl rfl ?_
    refine RL.finG ?_
    refine GL.weak (fun a w st => st.nilImm (TR.sl TR.int)) ?_
    have hm := Option.some.inj hm
    subst hm
    exact GL.ret (Gx.ret (v := .tuple #[Value.slice none 0 0, .int .i64 y5]) (res2 rfl rfl rfl) (fun a w st => (st.pick [1] (by decide) rfl).toPost (Value.slice none 0 0)))
  · replace hm := ite_f b7 hm
    refine GL.skip ?_
    refine GL.seq ?_
    refine GL.region ?_
    refine RL.mv rfl rfl rfl ?_
    obtain ⟨y11, e12, hm⟩ := bind_some hm
    replace e12 := chk_some e12
    refine RL.mkS (t := TR.raw) (z := .slice none 0 0) Try.underlying22 Try_lo23 (fun S => ⟨rfl, rfl⟩) rfl rfl rfl rfl e12.1 e12.2 ?_
    intro v13
    refine RL.weak (fun a w st => st.toRows 3 TR.int 1 rfl) ?_
    refine RL.reL (L' := [imm (TR.sl (TR.sl TR.int)) v1 x1, own2 23 3 TR.int v13 (List.replicate (x0).toNat (Value.slice none 0 0)) (List.replicate (x0).toNat ([] : (List Int)))]) rfl ?_
    refine RL.asg rfl rfl rfl ?_
    refine RL.finG ?_
    refine GL.seq ?_
    refine GL.seq ?_
    refine GL.region ?_
    refine RL.mv rfl rfl rfl ?_
    refine RL.lenR 1 Try.underlying22 rfl rfl rfl rfl ?_
    refine RL.mv rfl rfl rfl ?_
    refine RL.finG ?_
    refine GL.lenR 1 rfl (fun n36 => ?_)
    obtain ⟨y37, K38, h39, h40, h41, h42, h43⟩ := bindR_K hm
    refine GL.join (ι := (List (List Int)) × (List Value)) (fun (p : (List (List Int)) × (List Value)) => [(1, v1), (7, v13)]) (fun (p : (List (List Int)) × (List Value)) => [imm (TR.sl (TR.sl TR.int)) v1 x1, own2 23 3 TR.int v13 p.2 p.1]) (fun (p : (List (List Int)) × (List Value)) => K38 (.nx p.1)) ?_ ?_
    · refine GL.block ?_
      refine GL.loop (ι := Nat × Nat × (List (List Int)) × (List Value)) (fun (p : Nat × Nat × (List (List Int)) × (List Value)) => [(0, .int .i64 x0), (1, v1), (7, v13), (24, .int .i64 (((List.replicate (x0).toNat ([] : (List Int)))).length : Int)), (25, .int .i64 (p.1 : Int))]) (fun (p : Nat × Nat × (List (List Int)) × (List Value)) => [imm (TR.sl (TR.sl TR.int)) v1 x1, own2 23 3 TR.int v13 p.2.2.2 p.2.2.1]) (fun (p : Nat × Nat × (List (List Int)) × (List Value)) => p.1 + p.2.1 = ((List.replicate (x0).toNat ([] : (List Int)))).length ∧ rangeN (tally_Duels_b1 x0) p.2.1 p.1 p.2.2.1 = some y37) (fun (p : Nat × Nat × (List (List Int)) × (List Value)) => p.2.1) (0, ((List.replicate (x0).toNat ([] : (List Int)))).length, (List.replicate (x0).toNat ([] : (List Int))), (List.replicate (x0).toNat (Value.slice none 0 0))) ⟨by simp, h39⟩ (fun a w st => St.cut [0, 1] ⟨rfl, rfl, rfl, rfl, rfl, trivial⟩ (by decide) rfl st) ?_
      rintro ⟨i44, r45, l24, V25⟩ ⟨h50, h49⟩
      try dsimp only at h50 h49
      refine GL.weak (env' := [(0, .int .i64 x0), (1, v1), (7, v13), (24, .int .i64 (((List.replicate (x0).toNat ([] : (List Int)))).length : Int)), (25, .int .i64 (i44 : Int))]) (L' := [imm (TR.sl (TR.sl TR.int)) v1 x1, own2 23 3 TR.int v13 V25 l24]) (fun _ _ st => st) ?_
      refine GL.seq ?_
      refine GL.region ?_
      refine RL.binI (v := .bool (decide ((i44 : Int) < (((List.replicate (x0).toNat ([] : (List Int)))).length : Int)))) rfl rfl rfl rfl rfl ?_
      refine RL.finG ?_
      refine GL.seq ?_
      refine GL.cond rfl (fun b52 => ?_) (fun b52 => ?_)
      · have h53 : i44 < ((List.replicate (x0).toNat ([] : (List Int)))).length := by have := of_decide_eq_true b52; omega
        obtain ⟨r54, hr⟩ : ∃ m, r45 = m + 1 := ⟨r45 - 1, by omega⟩
        subst hr
        obtain ⟨z46, h47, h48⟩ := rangeN_some h49
        unfold tally_Duels_b1 at h47
        try dsimp only at h47
        refine GL.skip ?_
        refine GL.seq ?_
        refine GL.block ?_
        refine GL.seq ?_
        refine GL.region ?_
        refine RL.mv rfl rfl rfl ?_
        refine RL.asg rfl rfl rfl ?_
        refine RL.finG ?_
        refine GL.region ?_
        refine RL.mv rfl rfl rfl ?_
        refine RL.mv rfl rfl rfl ?_
        refine RL.mv rfl rfl rfl ?_
        obtain ⟨y60, e61, h47⟩ := bind_some h47
        replace e61 := chk_some e61
        refine RL.mkS (t := TR.int) (z := (0 : Int)) Try.underlying23 Try_lo3 (fun S => rfl) rfl rfl rfl rfl e61.1 e61.2 ?_
        intro v62
        obtain ⟨y63, e64, h47⟩ := bind_some h47
        refine RL.idxR 1 Try.underlying22 Try_ln23 rfl rfl rfl rfl rfl (idx_some e64).1 (idx_some e64).2.1 ?_
        refine RL.stSp (i := i44) (r0 := y63) 1 2 (by decide) Try_ln23 rfl rfl rfl rfl rfl rfl (idx_some e64).2.2 ?_
        refine RL.reL (L' := [imm (TR.sl (TR.sl TR.int)) v1 x1, own2 23 3 TR.int v13 (List.set V25 i44 v62) (List.set l24 i44 (List.replicate (x0).toNat (0 : Int))), gone]) rfl ?_
        refine RL.finG ?_
        refine GL.nilB ?_
        refine GL.region ?_
        refine RL.binI (v := .int .i64 ((i44 + 1 : Nat) : Int)) rfl rfl rfl rfl (binI_succ i44 (by omega)) ?_
        refine RL.mv rfl rfl rfl ?_
        refine RL.fin ?_
        cases h47
        exact fun a w st => lop_intro (i44 + 1, r54, (List.set l24 i44 (List.replicate (x0).toNat (0 : Int))), (List.set V25 i44 v62)) ⟨by show i44 + 1 + r54 = ((List.replicate (x0).toNat ([] : (List Int)))).length; omega, h48⟩ (by simp) (St.cut [0, 1] ⟨rfl, rfl, rfl, rfl, rfl, trivial⟩ (by decide) rfl st)
      · have h53 : ¬ i44 < ((List.replicate (x0).toNat ([] : (List Int)))).length := by have := of_decide_eq_false b52; omega
        obtain rfl : r45 = 0 := by omega
        replace h49 : some (Fl.nx _) = some y37 := h49
        cases h49
        exact GL.exit (fun a w st => mid_intro (l24, V25) h40 (St.cut [0, 1] ⟨rfl, rfl, trivial⟩ (by decide) rfl st))
    · rintro ⟨l24, V25⟩ h65
      have h66 := h41 _ h65
      try dsimp only at h66
      refine GL.weak (env' := [(1, v1), (7, v13)]) (L' := [imm (TR.sl (TR.sl TR.int)) v1 x1, own2 23 3 TR.int v13 V25 l24]) (fun _ _ st => st) ?_
      refine GL.seq ?_
      refine GL.seq ?_
      refine GL.region ?_
      refine RL.mv rfl rfl rfl ?_
      refine RL.lenS 0 Try.underlying22 rfl rfl rfl rfl SlOf.imm ?_
      refine RL.mv rfl rfl rfl ?_
      refine RL.finG ?_
      refine GL.open_ 0 rfl (fun S h => len_imm S h) (fun n605 => ?_)
      obtain ⟨y606, K607, h608, h609, h610, h611, h612⟩ := bindR_K h66
      refine GL.join (ι := (List (List Int)) × (List Value)) (fun (p : (List (List Int)) × (List Value)) => [(7, v13)]) (fun (p : (List (List Int)) × (List Value)) => [own2 23 3 TR.int v13 p.2 p.1]) (fun (p : (List (List Int)) × (List Value)) => K607 (.nx p.1)) ?_ ?_
      · refine GL.block ?_
        refine GL.loop (ι := Nat × (List (List Int)) × (List (List Int)) × (List Value)) (fun (p : Nat × (List (List Int)) × (List (List Int)) × (List Value)) => [(7, v13), (34, v1), (35, .int .i64 ((x1).length : Int)), (36, .int .i64 (p.1 : Int))]) (fun (p : Nat × (List (List Int)) × (List (List Int)) × (List Value)) => [own2 23 3 TR.int v13 p.2.2.2 p.2.2.1, imm (TR.sl (TR.sl TR.int)) v1 x1]) (fun (p : Nat × (List (List Int)) × (List (List Int)) × (List Value)) => p.1 + p.2.1.length = (x1).length ∧ List.drop p.1 x1 = p.2.1 ∧ rangeL tally_Duels_b2 p.2.1 p.1 p.2.2.1 = some y606) (fun (p : Nat × (List (List Int)) × (List (List Int)) × (List Value)) => p.2.1.length) (0, x1, l24, V25) ⟨by simp, by simp, h608⟩ (fun a w st => St.cut [1, 0] ⟨rfl, rfl, rfl, rfl, trivial⟩ (by decide) rfl st) ?_
        rintro ⟨i613, r614, l335, V336⟩ ⟨h619, h620, h618⟩
        try dsimp only at h619 h620 h618
        refine GL.weak (env' := [(7, v13), (34, v1), (35, .int .i64 ((x1).length : Int)), (36, .int .i64 (i613 : Int))]) (L' := [own2 23 3 TR.int v13 V336 l335, imm (TR.sl (TR.sl TR.int)) v1 x1]) (fun _ _ st => st) ?_
        refine GL.seq ?_
        refine GL.region ?_
        refine RL.binI (v := .bool (decide ((i613 : Int) < ((x1).length : Int)))) rfl rfl rfl rfl rfl ?_
        refine RL.finG ?_
        refine GL.seq ?_
        refine GL.cond rfl (fun b621 => ?_) (fun b621 => ?_)
        · have h622 : i613 < (x1).length := by have := of_decide_eq_true b621; omega
          obtain ⟨y623, r625, hr, e624, h626⟩ := drop_cons h620 rfl h622
          subst hr
          obtain ⟨z615, h616, h617⟩ := rangeL_some h618
          unfold tally_Duels_b2 at h616
          try dsimp only at h616
          refine GL.skip ?_
          refine GL.seq ?_
          refine GL.block ?_
          refine GL.seq ?_
          refine GL.region ?_
          refine RL.idxS (sz := 1) 1 Try.underlying22 Try_ln23 rfl rfl rfl rfl rfl SlOf.imm (by omega) (by omega) ?_
          refine RL.ldS (i := i613) (r := (TR.sl TR.int)) (e' := y623) 1 Try_ln23 rfl rfl rfl rfl SlOf.imm e624 Part.self ?_
          intro v628
          refine RL.asg rfl rfl rfl ?_
          refine RL.finG ?_
          refine GL.seq ?_
          refine GL.region ?_
          refine RL.mv rfl rfl rfl ?_
          refine RL.lenS 2 Try.underlying23 rfl rfl rfl rfl SlOf.imm ?_
          refine RL.mv rfl rfl rfl ?_
          refine RL.finG ?_
          refine GL.open_ 2 rfl (fun S h => len_imm S h) (fun n791 => ?_)
          obtain ⟨y792, K793, h794, h795, h796, h797, h798⟩ := bindF_K h616
          refine GL.join (ι := (List (List Int)) × (List Value)) (fun (p : (List (List Int)) × (List Value)) => [(7, v13), (34, v1), (35, .int .i64 ((x1).length : Int)), (36, .int .i64 (i613 : Int))]) (fun (p : (List (List Int)) × (List Value)) => [own2 23 3 TR.int v13 p.2 p.1, imm (TR.sl (TR.sl TR.int)) v1 x1]) (fun (p : (List (List Int)) × (List Value)) => K793 (.nx p.1)) ?_ ?_
          · refine GL.block ?_
            refine GL.loop (ι := Nat × (List Int) × (List (List Int)) × (List Value)) (fun (p : Nat × (List Int) × (List (List Int)) × (List Value)) => [(7, v13), (10, v628), (34, v1), (35, .int .i64 ((x1).length : Int)), (36, .int .i64 (i613 : Int)), (40, v628), (41, .int .i64 ((y623).length : Int)), (42, .int .i64 (p.1 : Int))]) (fun (p : Nat × (List Int) × (List (List Int)) × (List Value)) => [own2 23 3 TR.int v13 p.2.2.2 p.2.2.1, imm (TR.sl TR.int) v628 y623, imm (TR.sl (TR.sl TR.int)) v1 x1]) (fun (p : Nat × (List Int) × (List (List Int)) × (List Value)) => p.1 + p.2.1.length = (y623).length ∧ List.drop p.1 y623 = p.2.1 ∧ rangeL (tally_Duels_b3 y623) p.2.1 p.1 p.2.2.1 = some y792) (fun (p : Nat × (List Int) × (List (List Int)) × (List Value)) => p.2.1.length) (0, y623, l335, V336) ⟨by simp, by simp, h794⟩ (fun a w st => St.cut [0, 2, 1] ⟨rfl, rfl, rfl, rfl, rfl, rfl, rfl, rfl, trivial⟩ (by decide) rfl st) ?_
            rintro ⟨i799, r800, l709, V710⟩ ⟨h805, h806, h804⟩
            try dsimp only at h805 h806 h804
            refine GL.weak (env' := [(7, v13), (10, v628), (34, v1), (35, .int .i64 ((x1).length : Int)), (36, .int .i64 (i613 : Int)), (40, v628), (41, .int .i64 ((y623).length : Int)), (42, .int .i64 (i799 : Int))]) (L' := [own2 23 3 TR.int v13 V710 l709, imm (TR.sl TR.int) v628 y623, imm (TR.sl (TR.sl TR.int)) v1 x1]) (fun _ _ st => st) ?_
            refine GL.seq ?_
            refine GL.region ?_
            refine RL.binI (v := .bool (decide ((i799 : Int) < ((y623).length : Int)))) rfl rfl rfl rfl rfl ?_
            refine RL.finG ?_
            refine GL.seq ?_
            refine GL.cond rfl (fun b807 => ?_) (fun b807 => ?_)
            · have h808 : i799 < (y623).length := by have := of_decide_eq_true b807; omega
              obtain ⟨y809, r811, hr, e810, h812⟩ := drop_cons h806 rfl h808
              subst hr
              obtain ⟨z801, h802, h803⟩ := rangeL_some h804
              unfold tally_Duels_b3 at h802
              try dsimp only at h802
              refine GL.skip ?_
              refine GL.seq ?_
              refine GL.block ?_
              refine GL.seq ?_
              refine GL.region ?_
              refine RL.mv rfl rfl rfl ?_
              refine RL.idxS (sz := 1) 1 Try.underlying23 Try_ln3 rfl rfl rfl rfl rfl SlOf.imm (by omega) (by omega) ?_
              refine RL.ldSx (i := i799) (e' := y809) 1 Ex.ik Try_ln3 rfl rfl rfl rfl SlOf.imm e810 Part.self ?_
              refine RL.asg rfl rfl rfl ?_
              refine RL.asg rfl rfl rfl ?_
              refine RL.finG ?_
              refine GL.seq ?_
              refine GL.region ?_
              refine RL.mv rfl rfl rfl ?_
              refine RL.mv rfl rfl rfl ?_
              refine RL.binI (v := .int .i64 (wadd (i799 : Int) (1 : Int))) rfl rfl rfl rfl rfl ?_
              obtain ⟨y816, e817, h802⟩ := bind_some h802
              replace e817 := chk_some e817
              refine RL.slc (t := TR.int) (i := (wadd (i799 : Int) (1 : Int)).toNat) (j := (y623).length) (sz := 1) 1 Try.underlying23 Try_ln3 rfl rfl rfl rfl (Or.inr ⟨_, _, rfl, by rw [Int.toNat_of_nonneg (by omega)]; rfl⟩) (Or.inl ⟨rfl, rfl⟩) rfl (by omega) (by omega) ?_
              intro v818
              refine RL.lenS 3 Try.underlying23 rfl rfl rfl rfl SlOf.imm ?_
              refine RL.mv rfl rfl rfl ?_
              refine RL.finG ?_
              refine GL.open_ 3 rfl (fun S h => len_imm S h) (fun n853 => ?_)
              obtain ⟨y854, K855, h856, h857, h858, h859, h860⟩ := bindF_K h802
              refine GL.join (ι := (List (List Int)) × (List Value)) (fun (p : (List (List Int)) × (List Value)) => [(7, v13), (10, v628), (34, v1), (35, .int .i64 ((x1).length : Int)), (36, .int .i64 (i613 : Int)), (40, v628), (41, .int .i64 ((y623).length : Int)), (42, .int .i64 (i799 : Int))]) (fun (p : (List (List Int)) × (List Value)) => [own2 23 3 TR.int v13 p.2 p.1, imm (TR.sl TR.int) v628 y623, imm (TR.sl (TR.sl TR.int)) v1 x1]) (fun (p : (List (List Int)) × (List Value)) => K855 (.nx p.1)) ?_ ?_
              · refine GL.block ?_
                refine GL.loop (ι := Nat × (List Int) × (List (List Int)) × (List Value)) (fun (p : Nat × (List Int) × (List (List Int)) × (List Value)) => [(7, v13), (10, v628), (12, .int .i64 y809), (34, v1), (35, .int .i64 ((x1).length : Int)), (36, .int .i64 (i613 : Int)), (40, v628), (41, .int .i64 ((y623).length : Int)), (42, .int .i64 (i799 : Int)), (50, v818), (51, .int .i64 ((((List.take ((y623).length) y623).drop ((wadd (i799 : Int) (1 : Int)).toNat))).length : Int)), (52, .int .i64 (p.1 : Int))]) (fun (p : Nat × (List Int) × (List (List Int)) × (List Value)) => [own2 23 3 TR.int v13 p.2.2.2 p.2.2.1, imm (TR.sl TR.int) v628 y623, imm (TR.sl (TR.sl TR.int)) v1 x1, imm (TR.sl TR.int) v818 ((List.take ((y623).length) y623).drop ((wadd (i799 : Int) (1 : Int)).toNat))]) (fun (p : Nat × (List Int) × (List (List Int)) × (List Value)) => p.1 + p.2.1.length = (((List.take ((y623).length) y623).drop ((wadd (i799 : Int) (1 : Int)).toNat))).length ∧ List.drop p.1 ((List.take ((y623).length) y623).drop ((wadd (i799 : Int) (1 : Int)).toNat)) = p.2.1 ∧ rangeL (tally_Duels_b4 y809) p.2.1 p.1 p.2.2.1 = some y854) (fun (p : Nat × (List Int) × (List (List Int)) × (List Value)) => p.2.1.length) (0, ((List.take ((y623).length) y623).drop ((wadd (i799 : Int) (1 : Int)).toNat)), l709, V710) ⟨by simp, by simp, h856⟩ (fun a w st => St.cut [0, 1, 2, 3] ⟨rfl, rfl, rfl, rfl, rfl, rfl, rfl, rfl, rfl, rfl, rfl, rfl, trivial⟩ (by decide) rfl st) ?_
                rintro ⟨i861, r862, l835, V836⟩ ⟨h867, h868, h866⟩
                try dsimp only at h867 h868 h866
                refine GL.weak (env' := [(7, v13), (10, v628), (12, .int .i64 y809), (34, v1), (35, .int .i64 ((x1).length : Int)), (36, .int .i64 (i613 : Int)), (40, v628), (41, .int .i64 ((y623).length : Int)), (42, .int .i64 (i799 : Int)), (50, v818), (51, .int .i64 ((((List.take ((y623).length) y623).drop ((wadd (i799 : Int) (1 : Int)).toNat))).length : Int)), (52, .int .i64 (i861 : Int))]) (L' := [own2 23 3 TR.int v13 V836 l835, imm (TR.sl TR.int) v628 y623, imm (TR.sl (TR.sl TR.int)) v1 x1, imm (TR.sl TR.int) v818 ((List.take ((y623).length) y623).drop ((wadd (i799 : Int) (1 : Int)).toNat))]) (fun _ _ st => st) ?_
                refine GL.seq ?_
                refine GL.region ?_
                refine RL.binI (v := .bool (decide ((i861 : Int) < ((((List.take ((y623).length) y623).drop ((wadd (i799 : Int) (1 : Int)).toNat))).length : Int)))) rfl rfl rfl rfl rfl ?_
                refine RL.finG ?_
                refine GL.seq ?_
                refine GL.cond rfl (fun b869 => ?_) (fun b869 => ?_)
                · have h870 : i861 < (((List.take ((y623).length) y623).drop ((wadd (i799 : Int) (1 : Int)).toNat))).length := by have := of_decide_eq_true b869; omega
                  obtain ⟨y871, r873, hr, e872, h874⟩ := drop_cons h868 rfl h870
                  subst hr
                  obtain ⟨z863, h864, h865⟩ := rangeL_some h866
                  unfold tally_Duels_b4 at h864
                  try dsimp only at h864
                  refine GL.skip ?_
                  refine GL.seq ?_
                  refine GL.block ?_
                  refine GL.seq ?_
                  refine GL.region ?_
                  refine RL.idxS (sz := 1) 3 Try.underlying23 Try_ln3 rfl rfl rfl rfl rfl SlOf.imm (by omega) (by omega) ?_
                  refine RL.ldSx (i := i861) (e' := y871) 3 Ex.ik Try_ln3 rfl rfl rfl rfl SlOf.imm e872 Part.self ?_
                  refine RL.asg rfl rfl rfl ?_
                  refine RL.finG ?_
                  refine GL.region ?_
                  refine RL.mv rfl rfl rfl ?_
                  refine RL.mv rfl rfl rfl ?_
                  obtain ⟨y881, e882, h864⟩ := bind_some h864
                  refine RL.idxR 0 Try.underlying22 Try_ln23 rfl rfl rfl rfl rfl (idx_some e882).1 (idx_some e882).2.1 ?_
                  refine RL.ldR (i := (y809).toNat) (r := y881) 0 Try_ln23 rfl rfl rfl rfl (idx_some e882).2.2 ?_
                  refine RL.mv rfl rfl rfl ?_
                  obtain ⟨y883, e884, h864⟩ := bind_some h864
                  refine RL.idxS (sz := 1) 0 Try.underlying23 Try_ln3 rfl rfl rfl rfl rfl (SlOf.row (idx_some e882).2.2) (idx_some e884).1 (idx_some e884).2.1 ?_
                  refine RL.ldSx (i := (y871).toNat) (e' := y883) 0 Ex.ik Try_ln3 rfl rfl rfl rfl (SlOf.row (idx_some e882).2.2) (idx_some e884).2.2 Part.self ?_
                  refine RL.binI (v := .int .i64 (wadd y883 (1 : Int))) rfl rfl rfl rfl rfl ?_
                  obtain ⟨y885, e886, h864⟩ := bind_some h864
                  refine RL.idxS (sz := 1) 0 Try.underlying23 Try_ln3 rfl rfl rfl rfl rfl (SlOf.row (idx_some e882).2.2) (idx_some e886).1 (idx_some e886).2.1 ?_
                  refine RL.stR (i := (y809).toNat) (j := (y871).toNat) (row := y881) (e' := wadd y883 (1 : Int)) (e1 := wadd y883 (1 : Int)) (r := TR.int) 0 Try_ln3 rfl rfl rfl rfl VR.int rfl (idx_some e882).2.2 (idx_some e886).2.2 Upd.self ?_
                  refine RL.finG ?_
                  refine GL.nilB ?_
                  refine GL.region ?_
                  refine RL.binI (v := .int .i64 ((i861 + 1 : Nat) : Int)) rfl rfl rfl rfl (binI_succ i861 (by omega)) ?_
                  refine RL.mv rfl rfl rfl ?_
                  refine RL.fin ?_
                  cases h864
                  exact fun a w st => lop_intro (i861 + 1, r873, (List.set l835 ((y809).toNat) (List.set y881 ((y871).toNat) (wadd y883 (1 : Int)))), V836) ⟨by show i861 + 1 + r873.length = (((List.take ((y623).length) y623).drop ((wadd (i799 : Int) (1 : Int)).toNat))).length; simp only [List.length_cons] at h867; omega, h874, h865⟩ (by simp) (St.cut [0, 1, 2, 3] ⟨rfl, rfl, rfl, rfl, rfl, rfl, rfl, rfl, rfl, rfl, rfl, rfl, trivial⟩ (by decide) rfl st)
                · have h870 : ¬ i861 < (((List.take ((y623).length) y623).drop ((wadd (i799 : Int) (1 : Int)).toNat))).length := by have := of_decide_eq_false b869; omega
                  obtain rfl : r862 = [] := by rw [← h868]; exact List.drop_of_length_le (by omega)
                  replace h866 : some (Fl.nx _) = some y854 := h866
                  cases h866
                  exact GL.exit (fun a w st => mid_intro (l835, V836) h857 (St.cut [0, 1, 2] ⟨rfl, rfl, rfl, rfl, rfl, rfl, rfl, rfl, trivial⟩ (by decide) rfl st))
              · rintro ⟨l835, V836⟩ h887
                have h888 := h858 _ h887
                try dsimp only at h888
                refine GL.weak (env' := [(7, v13), (10, v628), (34, v1), (35, .int .i64 ((x1).length : Int)), (36, .int .i64 (i613 : Int)), (40, v628), (41, .int .i64 ((y623).length : Int)), (42, .int .i64 (i799 : Int))]) (L' := [own2 23 3 TR.int v13 V836 l835, imm (TR.sl TR.int) v628 y623, imm (TR.sl (TR.sl TR.int)) v1 x1]) (fun _ _ st => st) ?_
                refine GL.nilB ?_
                refine GL.region ?_
                refine RL.binI (v := .int .i64 ((i799 + 1 : Nat) : Int)) rfl rfl rfl rfl (binI_succ i799 (by omega)) ?_
                refine RL.mv rfl rfl rfl ?_
                refine RL.fin ?_
                cases h888
                exact fun a w st => lop_intro (i799 + 1, r811, l835, V836) ⟨by show i799 + 1 + r811.length = (y623).length; simp only [List.length_cons] at h805; omega, h812, h803⟩ (by simp) (St.cut [0, 1, 2] ⟨rfl, rfl, rfl, rfl, rfl, rfl, rfl, rfl, trivial⟩ (by decide) rfl st)
            · have h808 : ¬ i799 < (y623).length := by have := of_decide_eq_false b807; omega
              obtain rfl : r800 = [] := by rw [← h806]; exact List.drop_of_length_le (by omega)
              replace h804 : some (Fl.nx _) = some y792 := h804
              cases h804
              exact GL.exit (fun a w st => mid_intro (l709, V710) h795 (St.cut [0, 2] ⟨rfl, rfl, rfl, rfl, trivial⟩ (by decide) rfl st))
          · rintro ⟨l709, V710⟩ h889
            have h890 := h796 _ h889
            try dsimp only at h890
            refine GL.weak (env' := [(7, v13), (34, v1), (35, .int .i64 ((x1).length : Int)), (36, .int .i64 (i613 : Int))]) (L' := [own2 23 3 TR.int v13 V710 l709, imm (TR.sl (TR.sl TR.int)) v1 x1]) (fun _ _ st => st) ?_
            refine GL.nilB ?_
            refine GL.region ?_
            refine RL.binI (v := .int .i64 ((i613 + 1 : Nat) : Int)) rfl rfl rfl rfl (binI_succ i613 (by omega)) ?_
            refine RL.mv rfl rfl rfl ?_
            refine RL.fin ?_
            cases h890
            exact fun a w st => lop_intro (i613 + 1, r625, l709, V710) ⟨by show i613 + 1 + r625.length = (x1).length; simp only [List.length_cons] at h619; omega, h626, h617⟩ (by simp) (St.cut [0, 1] ⟨rfl, rfl, rfl, rfl, trivial⟩ (by decide) rfl st)
        · have h622 : ¬ i613 < (x1).length := by have := of_decide_eq_false b621; omega
          obtain rfl : r614 = [] := by rw [← h620]; exact List.drop_of_length_le (by omega)
          replace h618 : some (Fl.nx _) = some y606 := h618
          cases h618
          exact GL.exit (fun a w st => mid_intro (l335, V336) h609 (St.cut [0] ⟨rfl, trivial⟩ (by decide) rfl st))
      · rintro ⟨l335, V336⟩ h891
        have h892 := h610 _ h891
        try dsimp only at h892
        refine GL.weak (env' := [(7, v13)]) (L' := [own2 23 3 TR.int v13 V336 l335]) (fun _ _ st => st) ?_
        refine GL.seq ?_
        refine GL.region ?_
        refine RL.mv rfl rfl rfl ?_
        refine RL.asg rfl rfl rfl ?_
        refine RL.asg rfl rfl rfl ?_
        refine RL.finG ?_
        refine GL.weak (fun a w st => st.freeze2 0 rfl) ?_
        have h892 := Option.some.inj h892
        subst h892
        exact GL.ret (Gx.ret (v := .tuple #[v13, .int .i64 (0 : Int)]) (res2 rfl rfl rfl) (fun a w st => (st.pick [0] (by decide) rfl).toPost v13))

set_option maxHeartbeats 4000000 in
theorem worth_Check_c (S : Hp) (w : World) (hS : S.sub w) (x0 : Int) (v1 : Value) (x1 : (List Int)) (k1 : ((TR.sl TR.int)).vrep S v1 x1) (res : Int) (hm : worth_Check_m x0 x1 = some res) : Calls Try.prog 63 #[.int .i64 x0, v1] w (PostC w (.int .i64 res)) := by
  refine calls_enter 35 Try.func63 Try.ntmps63 rfl S true [(0, .int .i64 x0), (1, v1)] [imm (TR.sl TR.int) v1 x1] rfl ⟨rfl, ⟨rfl, trivial⟩⟩ hS ⟨k1, trivial⟩ ?_
  unfold worth_Check_m at hm
  refine GL.seq ?_
  refine GL.region ?_
  refine RL.asg rfl rfl rfl ?_
  refine RL.finG ?_
  refine GL.seq ?_
  refine GL.seq ?_
  obtain ⟨y6, K7, h8, h9, h10, h11, h12⟩ := bindR_K hm
  refine GL.join (ι := Bool) (fun (p : Bool) => [(0, .int .i64 x0), (1, v1), (12, .bool p)]) (fun (p : Bool) => [imm (TR.sl TR.int) v1 x1]) (fun (p : Bool) => K7 (.nx p)) ?_ ?_
  · skip
    refine GL.region ?_
    refine RL.mv rfl rfl rfl ?_
    refine RL.binI (v := .bool (decide (x0 < (1 : Int)))) rfl rfl rfl rfl rfl ?_
    refine RL.mv rfl rfl rfl ?_
    refine RL.split (t := 9) rfl (fun b13 => ?_) (fun b13 => ?_)
    · replace h8 := ite_t b13 h8
      refine RL.skip rfl rfl ?_
      refine RL.skip rfl rfl ?_
      refine RL.pickT rfl rfl rfl rfl ?_
      refine RL.fin ?_
      cases h8
      exact fun a w st => mid_intro true h9 (St.cut [0] ⟨rfl, rfl, rfl, trivial⟩ (by decide) rfl st)
    · replace h8 := ite_f b13 h8
      refine RL.mv rfl rfl rfl ?_
      refine RL.binI (v := .bool (decide (x0 > (6 : Int)))) rfl rfl rfl rfl rfl ?_
      refine RL.pickF rfl rfl rfl rfl ?_
      refine RL.fin ?_
      cases h8
      exact fun a w st => mid_intro (decide (x0 > (6 : Int))) h9 (St.cut [0] ⟨rfl, rfl, rfl, trivial⟩ (by decide) rfl st)
  · rintro x5 h14
    have h15 := h10 _ h14
    try dsimp only at h15
    refine GL.weak (env' := [(0, .int .i64 x0), (1, v1), (12, .bool x5)]) (L' := [imm (TR.sl TR.int) v1 x1]) (fun _ _ st => st) ?_
    refine GL.cond rfl (fun b16 => ?_) (fun b16 => ?_)
    · replace h15 := ite_t b16 h15
      refine GL.seq ?_
      refine GL.region ?_
      refine RL.asg rfl rfl rfl ?_
      refine RL.finG ?_
      have h15 := Option.some.inj h15
      subst h15
      exact GL.ret (Gx.ret (v := .int .i64 (1 : Int)) (res1 rfl rfl) (fun a w st => st.toPostC rfl))
    · replace h15 := ite_f b16 h15
      refine GL.skip ?_
      refine GL.seq ?_
      refine GL.seq ?_
      refine GL.region ?_
      refine RL.mv rfl rfl rfl ?_
      refine RL.lenS 0 Try.underlying23 rfl rfl rfl rfl SlOf.imm ?_
      refine RL.mv rfl rfl rfl ?_
      obtain ⟨y19, e20, h15⟩ := bind_some h15
      replace e20 := chk_some e20
      refine RL.sh (by simp) rfl rfl rfl rfl e20 ?_
      refine RL.binI (v := .bool (((x1).length : Int) != (IntKind.wrap .i64 ((1 : Int) * 2 ^ (min x0.toNat (IntKind.bits .i64)))))) rfl rfl rfl rfl rfl ?_
      refine RL.finG ?_
      refine GL.cond rfl (fun b21 => ?_) (fun b21 => ?_)
      · replace h15 := ite_t b21 h15
        refine GL.seq ?_
        refine GL.region ?_
        refine RL.asg rfl rfl rfl ?_
        refine RL.finG ?_
        have h15 := Option.some.inj h15
        subst h15
        exact GL.ret (Gx.ret (v := .int .i64 (3 : Int)) (res1 rfl rfl) (fun a w st => st.toPostC rfl))
      · replace h15 := ite_f b21 h15
        refine GL.skip ?_
        refine GL.seq ?_
        refine GL.seq ?_
        refine GL.region ?_
        refine RL.mv rfl rfl rfl ?_
        refine RL.lenS 0 Try.underlying23 rfl rfl rfl rfl SlOf.imm ?_
        refine RL.mv rfl rfl rfl ?_
        refine RL.finG ?_
        refine GL.open_ 0 rfl (fun S h => len_imm S h) (fun n40 => ?_)
        obtain ⟨y41, K42, h43, h44, h45, h46, h47⟩ := bindR_K h15
        refine GL.join (ι := Unit) (fun (p : Unit) => [(1, v1)]) (fun (p : Unit) => [imm (TR.sl TR.int) v1 x1]) (fun (p : Unit) => K42 (.nx ())) ?_ ?_
        · refine GL.block ?_
          refine GL.loop (ι := Nat × (List Int)) (fun (p : Nat × (List Int)) => [(1, v1), (18, v1), (19, .int .i64 ((x1).length : Int)), (20, .int .i64 (p.1 : Int))]) (fun (p : Nat × (List Int)) => [imm (TR.sl TR.int) v1 x1]) (fun (p : Nat × (List Int)) => p.1 + p.2.length = (x1).length ∧ List.drop p.1 x1 = p.2 ∧ rangeL worth_Check_b1 p.2 p.1 () = some y41) (fun (p : Nat × (List Int)) => p.2.length) (0, x1) ⟨by simp, by simp, h43⟩ (fun a w st => St.cut [0] ⟨rfl, rfl, rfl, rfl, trivial⟩ (by decide) rfl st) ?_
          rintro ⟨i48, r49⟩ ⟨h54, h55, h53⟩
          try dsimp only at h54 h55 h53
          refine GL.weak (env' := [(1, v1), (18, v1), (19, .int .i64 ((x1).length : Int)), (20, .int .i64 (i48 : Int))]) (L' := [imm (TR.sl TR.int) v1 x1]) (fun _ _ st => st) ?_
          refine GL.seq ?_
          refine GL.region ?_
          refine RL.binI (v := .bool (decide ((i48 : Int) < ((x1).length : Int)))) rfl rfl rfl rfl rfl ?_
          refine RL.finG ?_
          refine GL.seq ?_
          refine GL.cond rfl (fun b56 => ?_) (fun b56 => ?_)
          · have h57 : i48 < (x1).length := by have := of_decide_eq_true b56; omega
            obtain ⟨y58, r60, hr, e59, h61⟩ := drop_cons h55 rfl h57
            subst hr
            obtain ⟨z50, h51, h52⟩ := rangeL_some h53
            unfold worth_Check_b1 at h51
            try dsimp only at h51
            refine GL.skip ?_
            refine GL.seq ?_
            refine GL.block ?_
            refine GL.seq ?_
            refine GL.region ?_
            refine RL.idxS (sz := 1) 0 Try.underlying23 Try_ln3 rfl rfl rfl rfl rfl SlOf.imm (by omega) (by omega) ?_
            refine RL.ldSx (i := i48) (e' := y58) 0 Ex.ik Try_ln3 rfl rfl rfl rfl SlOf.imm e59 Part.self ?_
            refine RL.asg rfl rfl rfl ?_
            refine RL.finG ?_
            refine GL.seq ?_
            obtain ⟨y65, K66, h67, h68, h69, h70, h71⟩ := bindF_K h51
            refine GL.join (ι := Bool) (fun (p : Bool) => [(1, v1), (18, v1), (19, .int .i64 ((x1).length : Int)), (20, .int .i64 (i48 : Int)), (29, .bool p)]) (fun (p : Bool) => [imm (TR.sl TR.int) v1 x1]) (fun (p : Bool) => K66 (.nx p)) ?_ ?_
            · skip
              refine GL.region ?_
              refine RL.mv rfl rfl rfl ?_
              refine RL.binI (v := .bool (decide (y58 < (-1000000 : Int)))) rfl rfl rfl rfl rfl ?_
              refine RL.mv rfl rfl rfl ?_
              refine RL.split (t := 26) rfl (fun b72 => ?_) (fun b72 => ?_)
              · replace h67 := ite_t b72 h67
                refine RL.skip rfl rfl ?_
                refine RL.skip rfl rfl ?_
                refine RL.pickT rfl rfl rfl rfl ?_
                refine RL.fin ?_
                cases h67
                exact fun a w st => mid_intro true h68 (St.cut [0] ⟨rfl, rfl, rfl, rfl, rfl, trivial⟩ (by decide) rfl st)
              · replace h67 := ite_f b72 h67
                refine RL.mv rfl rfl rfl ?_
                refine RL.binI (v := .bool (decide (y58 > (1000000 : Int)))) rfl rfl rfl rfl rfl ?_
                refine RL.pickF rfl rfl rfl rfl ?_
                refine RL.fin ?_
                cases h67
                exact fun a w st => mid_intro (decide (y58 > (1000000 : Int))) h68 (St.cut [0] ⟨rfl, rfl, rfl, rfl, rfl, trivial⟩ (by decide) rfl st)
            · rintro x64 h73
              have h74 := h69 _ h73
              try dsimp only at h74
              refine GL.weak (env' := [(1, v1), (18, v1), (19, .int .i64 ((x1).length : Int)), (20, .int .i64 (i48 : Int)), (29, .bool x64)]) (L' := [imm (TR.sl TR.int) v1 x1]) (fun _ _ st => st) ?_
              refine GL.cond rfl (fun b75 => ?_) (fun b75 => ?_)
              · replace h74 := ite_t b75 h74
                refine GL.seq ?_
                refine GL.region ?_
                refine RL.asg rfl rfl rfl ?_
                refine RL.finG ?_
                cases h74
                replace h52 : some (Fl.rt _) = some y41 := h52
                cases h52
                have hh := h46 _ h44
                subst hh
                exact GL.ret (Gx.ret (v := .int .i64 (1 : Int)) (res1 rfl rfl) (fun a w st => st.toPostC rfl))
              · replace h74 := ite_f b75 h74
                refine GL.skip ?_
                refine GL.nilB ?_
                refine GL.region ?_
                refine RL.binI (v := .int .i64 ((i48 + 1 : Nat) : Int)) rfl rfl rfl rfl (binI_succ i48 (by omega)) ?_
                refine RL.mv rfl rfl rfl ?_
                refine RL.fin ?_
                cases h74
                exact fun a w st => lop_intro (i48 + 1, r60) ⟨by show i48 + 1 + r60.length = (x1).length; simp only [List.length_cons] at h54; omega, h61, h52⟩ (by simp) (St.cut [0] ⟨rfl, rfl, rfl, rfl, trivial⟩ (by decide) rfl st)
          · have h57 : ¬ i48 < (x1).length := by have := of_decide_eq_false b56; omega
            obtain rfl : r49 = [] := by rw [← h55]; exact List.drop_of_length_le (by omega)
            replace h53 : some (Fl.nx _) = some y41 := h53
            cases h53
            exact GL.exit (fun a w st => mid_intro () h44 (St.cut [0] ⟨rfl, trivial⟩ (by decide) rfl st))
        · rintro ⟨⟩ h76
          have h77 := h45 _ h76
          try dsimp only at h77
          refine GL.weak (env' := [(1, v1)]) (L' := [imm (TR.sl TR.int) v1 x1]) (fun _ _ st => st) ?_
          refine GL.seq ?_
          refine GL.seq ?_
          refine GL.region ?_
          refine RL.mv rfl rfl rfl ?_
          obtain ⟨y80, e81, h77⟩ := bind_some h77
          refine RL.idxS (sz := 1) 0 Try.underlying23 Try_ln3 rfl rfl rfl rfl rfl SlOf.imm (idx_some e81).1 (idx_some e81).2.1 ?_
          refine RL.ldSx (i := ((0 : Int)).toNat) (e' := y80) 0 Ex.ik Try_ln3 rfl rfl rfl rfl SlOf.imm (idx_some e81).2.2 Part.self ?_
          refine RL.binI (v := .bool (y80 != (0 : Int))) rfl rfl rfl rfl rfl ?_
          refine RL.finG ?_
          refine GL.cond rfl (fun b82 => ?_) (fun b82 => ?_)
          · replace h77 := ite_t b82 h77
            refine GL.seq ?_
            refine GL.region ?_
            refine RL.asg rfl rfl rfl ?_
            refine RL.finG ?_
            have h77 := Option.some.inj h77
            subst h77
            exact GL.ret (Gx.ret (v := .int .i64 (3 : Int)) (res1 rfl rfl) (fun a w st => st.toPostC rfl))
          · replace h77 := ite_f b82 h77
            refine GL.skip ?_
            refine GL.seq ?_
            refine GL.region ?_
            refine RL.asg rfl rfl rfl ?_
            refine RL.finG ?_
            have h77 := Option.some.inj h77
            subst h77
            exact GL.ret (Gx.ret (v := .int .i64 (0 : Int)) (res1 rfl rfl) (fun a w st => st.toPostC rfl))

set_option maxHeartbeats 4000000 in
theorem worth_size_c (S : Hp) (w : World) (hS : S.sub w) (x0 : Int) (res : Int) (hm : worth_size_m x0 = some res) : Calls Try.prog 64 #[.int .i64 x0] w (PostC w (.int .i64 res)) := by
  refine calls_enter 13 Try.func64 Try.ntmps64 rfl S true [(0, .int .i64 x0)] [] rfl ⟨rfl, trivial⟩ hS trivial ?_
  unfold worth_size_m at hm
  refine GL.seq ?_
  refine GL.region ?_
  refine RL.asg rfl rfl rfl ?_
  refine RL.finG ?_
  refine GL.seq ?_
  refine GL.region ?_
  refine RL.asg rfl rfl rfl ?_
  refine RL.finG ?_
  refine GL.seq ?_
  obtain ⟨y13, K14, h15, h16, h17, h18, h19⟩ := bindR_K hm
  refine GL.join (ι := Int × Int) (fun (p : Int × Int) => [(3, .int .i64 p.2)]) (fun (p : Int × Int) => []) (fun (p : Int × Int) => K14 (.nx (p.1, p.2))) ?_ ?_
  · refine GL.block ?_
    refine GL.loop (ι := Nat × Int × Int) (fun (p : Nat × Int × Int) => [(0, .int .i64 p.2.1), (3, .int .i64 p.2.2)]) (fun (p : Nat × Int × Int) => []) (fun (p : Nat × Int × Int) => loopM worth_size_b1 p.1 (p.2.1, p.2.2) = some y13) (fun (p : Nat × Int × Int) => p.1) (1048576, x0, (0 : Int)) h15 (fun a w st => St.cut [] ⟨rfl, rfl, trivial⟩ (by decide) rfl st) ?_
    rintro ⟨r21, x2, x3⟩ h25
    try dsimp only at h25
    refine GL.weak (env' := [(0, .int .i64 x2), (3, .int .i64 x3)]) (L' := []) (fun _ _ st => st) ?_
    obtain ⟨r28, z22, hr, h23, h24⟩ := loopM_some h25
    subst hr
    unfold worth_size_b1 at h23
    try dsimp only at h23
    refine GL.seq ?_
    refine GL.seq ?_
    refine GL.region ?_
    refine RL.mv rfl rfl rfl ?_
    refine RL.binI (v := .bool (decide (x2 > (0 : Int)))) rfl rfl rfl rfl rfl ?_
    refine RL.finG ?_
    refine GL.cond rfl (fun b29 => ?_) (fun b29 => ?_)
    · replace h23 := ite_t b29 h23
      refine GL.skip ?_
      refine GL.seq ?_
      refine GL.block ?_
      refine GL.region ?_
      refine RL.mv rfl rfl rfl ?_
      refine RL.mv rfl rfl rfl ?_
      obtain ⟨y32, e33, h23⟩ := bind_some h23
      replace e33 := chk_some e33
      refine RL.rem rfl rfl rfl rfl e33 ?_
      refine RL.binI (v := .int .i64 (wadd x3 (Int.tmod x2 (2 : Int)))) rfl rfl rfl rfl rfl ?_
      refine RL.asg rfl rfl rfl ?_
      refine RL.finG ?_
      refine GL.nilB ?_
      refine GL.region ?_
      refine RL.mv rfl rfl rfl ?_
      obtain ⟨y36, e37, h23⟩ := bind_some h23
      replace e37 := chk_some e37
      refine RL.quo rfl rfl rfl rfl e37 ?_
      refine RL.asg rfl rfl rfl ?_
      refine RL.finG ?_
      cases h23
      exact fun a w st => lop_intro (r28, IntKind.wrap .i64 (Int.tdiv x2 (2 : Int)), wadd x3 (Int.tmod x2 (2 : Int))) h24 (by simp) (St.cut [] ⟨rfl, rfl, trivial⟩ (by decide) rfl st)
    · replace h23 := ite_f b29 h23
      cases h23
      replace h24 : some (Fl.nx _) = some y13 := h24
      cases h24
      exact GL.exit (fun a w st => mid_intro (x2, x3) h16 (St.cut [] ⟨rfl, trivial⟩ (by decide) rfl st))
  · rintro ⟨x2, x3⟩ h38
    have h39 := h17 _ h38
    try dsimp only at h39
    refine GL.weak (env' := [(3, .int .i64 x3)]) (L' := []) (fun _ _ st => st) ?_
    refine GL.seq ?_
    refine GL.region ?_
    refine RL.mv rfl rfl rfl ?_
    refine RL.asg rfl rfl rfl ?_
    refine RL.finG ?_
    have h39 := Option.some.inj h39
    subst h39
    exact GL.ret (Gx.ret (v := .int .i64 x3) (res1 rfl rfl) (fun a w st => st.toPostC rfl))

set_option maxHeartbeats 4000000 in
theorem worth_factorial_c (S : Hp) (w : World) (hS : S.sub w) (x0 : Int) (res : Int) (hm : worth_factorial_m x0 = some res) : Calls Try.prog 65 #[.int .i64 x0] w (PostC w (.int .i64 res)) := by
  refine calls_enter 14 Try.func65 Try.ntmps65 rfl S true [(0, .int .i64 x0)] [] rfl ⟨rfl, trivial⟩ hS trivial ?_
  unfold worth_factorial_m at hm
  refine GL.seq ?_
  refine GL.region ?_
  refine RL.asg rfl rfl rfl ?_
  refine RL.finG ?_
  refine GL.seq ?_
  refine GL.region ?_
  refine RL.asg rfl rfl rfl ?_
  refine RL.finG ?_
  refine GL.seq ?_
  refine GL.seq ?_
  refine GL.region ?_
  refine RL.asg rfl rfl rfl ?_
  refine RL.finG ?_
  obtain ⟨y5, K6, h7, h8, h9, h10, h11⟩ := bindR_K hm
  refine GL.join (ι := Int × Int) (fun (p : Int × Int) => [(3, .int .i64 p.1)]) (fun (p : Int × Int) => []) (fun (p : Int × Int) => K6 (.nx (p.1, p.2))) ?_ ?_
  · refine GL.block ?_
    refine GL.loop (ι := Nat × Int × Int) (fun (p : Nat × Int × Int) => [(0, .int .i64 x0), (3, .int .i64 p.2.1), (4, .int .i64 p.2.2)]) (fun (p : Nat × Int × Int) => []) (fun (p : Nat × Int × Int) => loopM (worth_factorial_b1 x0) p.1 (p.2.1, p.2.2) = some y5) (fun (p : Nat × Int × Int) => p.1) (1048576, (1 : Int), (2 : Int)) h7 (fun a w st => St.cut [] ⟨rfl, rfl, rfl, trivial⟩ (by decide) rfl st) ?_
    rintro ⟨r13, x2, x3⟩ h17
    try dsimp only at h17
    refine GL.weak (env' := [(0, .int .i64 x0), (3, .int .i64 x2), (4, .int .i64 x3)]) (L' := []) (fun _ _ st => st) ?_
    obtain ⟨r20, z14, hr, h15, h16⟩ := loopM_some h17
    subst hr
    unfold worth_factorial_b1 at h15
    try dsimp only at h15
    refine GL.seq ?_
    refine GL.seq ?_
    refine GL.region ?_
    refine RL.mv rfl rfl rfl ?_
    refine RL.mv rfl rfl rfl ?_
    refine RL.binI (v := .bool (decide (x3 ≤ x0))) rfl rfl rfl rfl rfl ?_
    refine RL.finG ?_
    refine GL.cond rfl (fun b21 => ?_) (fun b21 => ?_)
    · replace h15 := ite_t b21 h15
      refine GL.skip ?_
      refine GL.seq ?_
      refine GL.block ?_
      refine GL.region ?_
      refine RL.mv rfl rfl rfl ?_
      refine RL.mv rfl rfl rfl ?_
      refine RL.binI (v := .int .i64 (wmul x2 x3)) rfl rfl rfl rfl rfl ?_
      refine RL.asg rfl rfl rfl ?_
      refine RL.finG ?_
      refine GL.nilB ?_
      refine GL.region ?_
      refine RL.mv rfl rfl rfl ?_
      refine RL.binI (v := .int .i64 (wadd x3 (1 : Int))) rfl rfl rfl rfl rfl ?_
      refine RL.asg rfl rfl rfl ?_
      refine RL.finG ?_
      cases h15
      exact fun a w st => lop_intro (r20, wmul x2 x3, wadd x3 (1 : Int)) h16 (by simp) (St.cut [] ⟨rfl, rfl, rfl, trivial⟩ (by decide) rfl st)
    · replace h15 := ite_f b21 h15
      cases h15
      replace h16 : some (Fl.nx _) = some y5 := h16
      cases h16
      exact GL.exit (fun a w st => mid_intro (x2, x3) h8 (St.cut [] ⟨rfl, trivial⟩ (by decide) rfl st))
  · rintro ⟨x2, x3⟩ h22
    have h23 := h9 _ h22
    try dsimp only at h23
    refine GL.weak (env' := [(3, .int .i64 x2)]) (L' := []) (fun _ _ st => st) ?_
    refine GL.seq ?_
    refine GL.region ?_
    refine RL.mv rfl rfl rfl ?_
    refine RL.asg rfl rfl rfl ?_
    refine RL.finG ?_
    have h23 := Option.some.inj h23
    subst h23
    exact GL.ret (Gx.ret (v := .int .i64 x2) (res1 rfl rfl) (fun a w st => st.toPostC rfl))

set_option maxHeartbeats 4000000 in
theorem worth_Share_c (S : Hp) (w : World) (hS : S.sub w) (x0 : Int) (v1 : Value) (x1 : (List Int)) (k1 : ((TR.sl TR.int)).vrep S v1 x1) (res : (List Int) × Int) (hm : worth_Share_m x0 x1 = some res) : Calls Try.prog 36 #[.int .i64 x0, v1] w (Post w S (fun (o : Value) => .tuple #[o, .int .i64 res.2]) (fun (o : Value) => [own 3 TR.int o res.1])) := by
  refine calls_enter 65 Try.func36 Try.ntmps36 rfl S false [(0, .int .i64 x0), (1, v1)] [imm (TR.sl TR.int) v1 x1] rfl ⟨rfl, ⟨rfl, trivial⟩⟩ hS ⟨k1, trivial⟩ ?_
  unfold worth_Share_m at hm
  refine GL.seq ?_
  refine GL.region ?_
  refine RL.asg rfl rfl rfl ?_
  refine RL.asg rfl rfl rfl ?_
  refine RL.finG ?_
  refine GL.seq ?_
  refine GL.seq ?_
  refine GL.region ?_
  refine RL.mv rfl rfl rfl ?_
  refine RL.mv rfl rfl rfl ?_
  obtain ⟨y5, e6, hm⟩ := bind_some hm
  refine RL.callC (v := .int .i64 y5) (vs := [.int .i64 x0, v1]) Try_fit63 rfl rfl rfl rfl (fun U w hU hW hL => worth_Check_c U w hU x0 _ _ (hL 0 _ _ rfl Seen.imm) _ e6) ?_
  refine RL.asg rfl rfl rfl ?_
  refine RL.finG ?_
  refine GL.seq ?_
  refine GL.region ?_
  refine RL.mv rfl rfl rfl ?_
  refine RL.binI (v := .bool (y5 != (0 : Int))) rfl rfl rfl rfl rfl ?_
  refine RL.finG ?_
  refine GL.cond rfl (fun b7 => ?_) (fun b7 => ?_)
  · replace hm := ite_t b7 hm
    refine GL.seq ?_
    refine GL.region ?_
    refine RL.mv rfl rfl rfl ?_
    refine RL.asg rfl rfl rfl ?_
    refine RL.asg rfl rfl rfl ?_
    refine RL.finG ?_
    refine GL.weak (fun a w st => st.nilOwn 3 TR.int) ?_
    have hm := Option.some.inj hm
    subst hm
    exact GL.ret (Gx.ret (v := .tuple #[Value.slice none 0 0, .int .i64 y5]) (res2 rfl rfl rfl) (fun a w st => (st.pick [1] (by decide) rfl).toPost (Value.slice none 0 0)))
  · replace hm := ite_f b7 hm
    refine GL.skip ?_
    refine GL.seq ?_
    refine GL.region ?_
    refine RL.mv rfl rfl rfl ?_
    obtain ⟨y11, e12, hm⟩ := bind_some hm
    replace e12 := chk_some e12
    refine RL.mkS (t := TR.int) (z := (0 : Int)) Try.underlying23 Try_lo3 (fun S => rfl) rfl rfl rfl rfl e12.1 e12.2 ?_
    intro v13
    refine RL.asg rfl rfl rfl ?_
    refine RL.finG ?_
    refine GL.seq ?_
    refine GL.seq ?_
    refine GL.region ?_
    refine RL.mv rfl rfl rfl ?_
    refine RL.lenS 0 Try.underlying23 rfl rfl rfl rfl SlOf.imm ?_
    refine RL.mv rfl rfl rfl ?_
    refine RL.finG ?_
    refine GL.open_ 0 rfl (fun S h => len_imm S h) (fun n288 => ?_)
    obtain ⟨y289, K290, h291, h292, h293, h294, h295⟩ := bindR_K hm
    refine GL.join (ι := (List Int) × Value) (fun (p : (List Int) × Value) => [(7, p.2)]) (fun (p : (List Int) × Value) => [own 3 TR.int p.2 p.1]) (fun (p : (List Int) × Value) => K290 (.nx p.1)) ?_ ?_
    · refine GL.block ?_
      refine GL.loop (ι := Nat × (List Int) × (List Int) × Value) (fun (p : Nat × (List Int) × (List Int) × Value) => [(0, .int .i64 x0), (1, v1), (7, p.2.2.2), (20, .int .i64 ((x1).length : Int)), (21, .int .i64 (p.1 : Int))]) (fun (p : Nat × (List Int) × (List Int) × Value) => [imm (TR.sl TR.int) v1 x1, own 3 TR.int p.2.2.2 p.2.2.1]) (fun (p : Nat × (List Int) × (List Int) × Value) => p.1 + p.2.1.length = (x1).length ∧ List.drop p.1 x1 = p.2.1 ∧ rangeL (worth_Share_b1 x0 x1) p.2.1 p.1 p.2.2.1 = some y289) (fun (p : Nat × (List Int) × (List Int) × Value) => p.2.1.length) (0, x1, (List.replicate (x0).toNat (0 : Int)), v13) ⟨by simp, by simp, h291⟩ (fun a w st => St.cut [0, 1] ⟨rfl, rfl, rfl, rfl, rfl, trivial⟩ (by decide) rfl st) ?_
      rintro ⟨i296, r297, l150, v151⟩ ⟨h302, h303, h301⟩
      try dsimp only at h302 h303 h301
      refine GL.weak (env' := [(0, .int .i64 x0), (1, v1), (7, v151), (20, .int .i64 ((x1).length : Int)), (21, .int .i64 (i296 : Int))]) (L' := [imm (TR.sl TR.int) v1 x1, own 3 TR.int v151 l150]) (fun _ _ st => st) ?_
      refine GL.seq ?_
      refine GL.region ?_
      refine RL.binI (v := .bool (decide ((i296 : Int) < ((x1).length : Int)))) rfl rfl rfl rfl rfl ?_
      refine RL.finG ?_
      refine GL.seq ?_
      refine GL.cond rfl (fun b304 => ?_) (fun b304 => ?_)
      · have h305 : i296 < (x1).length := by have := of_decide_eq_true b304; omega
        obtain ⟨y306, r308, hr, e307, h309⟩ := drop_cons h303 rfl h305
        subst hr
        obtain ⟨z298, h299, h300⟩ := rangeL_some h301
        unfold worth_Share_b1 at h299
        try dsimp only at h299
        refine GL.skip ?_
        refine GL.seq ?_
        refine GL.block ?_
        refine GL.seq ?_
        refine GL.region ?_
        refine RL.mv rfl rfl rfl ?_
        refine RL.asg rfl rfl rfl ?_
        refine RL.finG ?_
        refine GL.seq ?_
        refine GL.region ?_
        refine RL.mv rfl rfl rfl ?_
        refine RL.mv rfl rfl rfl ?_
        refine RL.finG ?_
        obtain ⟨y379, e380, h299⟩ := bind_some h299
        replace e380 := chk_some e380
        obtain ⟨y381, K382, h383, h384, h385, h386, h387⟩ := bindF_K h299
        refine GL.join (ι := (List Int) × Value) (fun (p : (List Int) × Value) => [(0, .int .i64 x0), (1, v1), (7, p.2), (20, .int .i64 ((x1).length : Int)), (21, .int .i64 (i296 : Int))]) (fun (p : (List Int) × Value) => [imm (TR.sl TR.int) v1 x1, own 3 TR.int p.2 p.1]) (fun (p : (List Int) × Value) => K382 (.nx p.1)) ?_ ?_
        · refine GL.block ?_
          refine GL.loop (ι := Nat × Nat × (List Int) × Value) (fun (p : Nat × Nat × (List Int) × Value) => [(0, .int .i64 x0), (1, v1), (7, p.2.2.2), (8, .int .i64 (i296 : Int)), (20, .int .i64 ((x1).length : Int)), (21, .int .i64 (i296 : Int)), (24, .int .i64 x0), (25, .int .i64 (p.1 : Int))]) (fun (p : Nat × Nat × (List Int) × Value) => [imm (TR.sl TR.int) v1 x1, own 3 TR.int p.2.2.2 p.2.2.1]) (fun (p : Nat × Nat × (List Int) × Value) => p.1 + p.2.1 = (x0).toNat ∧ rangeN (worth_Share_b2 i296 x0 x1 y306) p.2.1 p.1 p.2.2.1 = some y381) (fun (p : Nat × Nat × (List Int) × Value) => p.2.1) (0, (x0).toNat, l150, v151) ⟨by simp, h383⟩ (fun a w st => St.cut [0, 1] ⟨rfl, rfl, rfl, rfl, rfl, rfl, rfl, rfl, trivial⟩ (by decide) rfl st) ?_
          rintro ⟨i388, r389, l343, v344⟩ ⟨h394, h393⟩
          try dsimp only at h394 h393
          refine GL.weak (env' := [(0, .int .i64 x0), (1, v1), (7, v344), (8, .int .i64 (i296 : Int)), (20, .int .i64 ((x1).length : Int)), (21, .int .i64 (i296 : Int)), (24, .int .i64 x0), (25, .int .i64 (i388 : Int))]) (L' := [imm (TR.sl TR.int) v1 x1, own 3 TR.int v344 l343]) (fun _ _ st => st) ?_
          refine GL.seq ?_
          refine GL.region ?_
          refine RL.binI (v := .bool (decide ((i388 : Int) < x0))) rfl rfl rfl rfl rfl ?_
          refine RL.finG ?_
          refine GL.seq ?_
          refine GL.cond rfl (fun b396 => ?_) (fun b396 => ?_)
          · have h397 : i388 < (x0).toNat := by have := of_decide_eq_true b396; omega
            obtain ⟨r398, hr⟩ : ∃ m, r389 = m + 1 := ⟨r389 - 1, by omega⟩
            subst hr
            obtain ⟨z390, h391, h392⟩ := rangeN_some h393
            unfold worth_Share_b2 at h391
            try dsimp only at h391
            refine GL.skip ?_
            refine GL.seq ?_
            refine GL.block ?_
            refine GL.seq ?_
            refine GL.region ?_
            refine RL.mv rfl rfl rfl ?_
            refine RL.asg rfl rfl rfl ?_
            refine RL.finG ?_
            refine GL.seq ?_
            refine GL.region ?_
            refine RL.mv rfl rfl rfl ?_
            refine RL.mv rfl rfl rfl ?_
            obtain ⟨y401, e402, h391⟩ := bind_some h391
            replace e402 := chk_some e402
            refine RL.sh (by simp) rfl rfl rfl rfl e402 ?_
            refine RL.binI (v := .int .i64 (bits .and .i64 (Int.fdiv (i296 : Int) (2 ^ (min (i388 : Int).toNat (IntKind.bits .i64)))) (1 : Int))) rfl rfl rfl rfl rfl ?_
            refine RL.binI (v := .bool ((bits .and .i64 (Int.fdiv (i296 : Int) (2 ^ (min (i388 : Int).toNat (IntKind.bits .i64)))) (1 : Int)) == (0 : Int))) rfl rfl rfl rfl rfl ?_
            refine RL.finG ?_
            refine GL.cond rfl (fun b403 => ?_) (fun b403 => ?_)
            · replace h391 := ite_t b403 h391
              refine GL.seq ?_
              refine GL.region ?_
              refine RL.mv rfl rfl rfl ?_
              obtain ⟨y406, e407, h391⟩ := bind_some h391
              refine RL.callC (v := .int .i64 y406) (vs := [.int .i64 (i296 : Int)]) Try_fit64 rfl rfl rfl rfl (fun U w hU hW hL => worth_size_c U w hU (i296 : Int) _ e407) ?_
              refine RL.asg rfl rfl rfl ?_
              refine RL.finG ?_
              refine GL.regionH 27 rfl rfl (by kernel_rfl) ?_
              simp only [List.take_succ_cons, List.take_zero, List.drop_succ_cons, List.drop_zero]
              refine RL.mv rfl rfl rfl ?_
              refine RL.mv rfl rfl rfl ?_
              obtain ⟨y420, e421, h391⟩ := bind_some h391
              refine RL.idxS (sz := 1) 1 Try.underlying23 Try_ln3 rfl rfl rfl rfl rfl SlOf.own (idx_some e421).1 (idx_some e421).2.1 ?_
              refine RL.ldSx (i := i388) (e' := y420) 1 Ex.ik Try_ln3 rfl rfl rfl rfl SlOf.own (idx_some e421).2.2 Part.self ?_
              refine RL.mv rfl rfl rfl ?_
              obtain ⟨y422, e423, h391⟩ := bind_some h391
              refine RL.callC (v := .int .i64 y422) (vs := [.int .i64 y406]) Try_fit65 rfl rfl rfl rfl (fun U w hU hW hL => worth_factorial_c U w hU y406 _ e423) ?_
              refine RL.mv rfl rfl rfl ?_
              refine RL.binI (v := .int .i64 (wsub x0 (1 : Int))) rfl rfl rfl rfl rfl ?_
              refine RL.mv rfl rfl rfl ?_
              refine RL.binI (v := .int .i64 (wsub (wsub x0 (1 : Int)) y406)) rfl rfl rfl rfl rfl ?_
              obtain ⟨y424, e425, h391⟩ := bind_some h391
              refine RL.callC (v := .int .i64 y424) (vs := [.int .i64 (wsub (wsub x0 (1 : Int)) y406)]) Try_fit65 rfl rfl rfl rfl (fun U w hU hW hL => worth_factorial_c U w hU (wsub (wsub x0 (1 : Int)) y406) _ e425) ?_
              refine RL.binI (v := .int .i64 (wmul y422 y424)) rfl rfl rfl rfl rfl ?_
              refine RL.mv rfl rfl rfl ?_
              refine RL.mv rfl rfl rfl ?_
              refine RL.mv rfl rfl rfl ?_
              obtain ⟨y426, e427, h391⟩ := bind_some h391
              replace e427 := chk_some e427
              refine RL.sh (by simp) rfl rfl rfl rfl e427 ?_
              refine RL.binI (v := .int .i64 (bits .or .i64 (i296 : Int) (IntKind.wrap .i64 ((1 : Int) * 2 ^ (min (i388 : Int).toNat (IntKind.bits .i64)))))) rfl rfl rfl rfl rfl ?_
              obtain ⟨y428, e429, h391⟩ := bind_some h391
              refine RL.idxS (sz := 1) 0 Try.underlying23 Try_ln3 rfl rfl rfl rfl rfl SlOf.imm (idx_some e429).1 (idx_some e429).2.1 ?_
              refine RL.ldSx (i := (bits .or .i64 (i296 : Int) (IntKind.wrap .i64 ((1 : Int) * 2 ^ (min (i388 : Int).toNat (IntKind.bits .i64))))).toNat) (e' := y428) 0 Ex.ik Try_ln3 rfl rfl rfl rfl SlOf.imm (idx_some e429).2.2 Part.self ?_
              refine RL.mv rfl rfl rfl ?_
              refine RL.mv rfl rfl rfl ?_
              refine RL.idxS (sz := 1) 0 Try.underlying23 Try_ln3 rfl rfl rfl rfl rfl SlOf.imm (by omega) (by omega) ?_
              refine RL.ldSx (i := i296) (e' := y306) 0 Ex.ik Try_ln3 rfl rfl rfl rfl SlOf.imm e307 Part.self ?_
              refine RL.binI (v := .int .i64 (wsub y428 y306)) rfl rfl rfl rfl rfl ?_
              refine RL.binI (v := .int .i64 (wmul (wmul y422 y424) (wsub y428 y306))) rfl rfl rfl rfl rfl ?_
              refine RL.binI (v := .int .i64 (wadd y420 (wmul (wmul y422 y424) (wsub y428 y306)))) rfl rfl rfl rfl rfl ?_
              obtain ⟨y430, e431, h391⟩ := bind_some h391
              refine RL.idxS (sz := 1) 1 Try.underlying23 Try_ln3 rfl rfl rfl rfl rfl SlOf.own (idx_some e431).1 (idx_some e431).2.1 ?_
              refine RL.finH ?_
              refine RL.stS (i := i388) (e' := wadd y420 (wmul (wmul y422 y424) (wsub y428 y306))) (e1 := wadd y420 (wmul (wmul y422 y424) (wsub y428 y306))) (r := TR.int) 1 Try_ln3 rfl rfl rfl rfl VR.int rfl (idx_some e431).2.2 Upd.self ?_
              refine RL.finG ?_
              refine GL.weak (env' := [(0, .int .i64 x0), (1, v1), (7, v344), (8, .int .i64 (i296 : Int)), (20, .int .i64 ((x1).length : Int)), (21, .int .i64 (i296 : Int)), (24, .int .i64 x0), (25, .int .i64 (i388 : Int))]) (L' := [imm (TR.sl TR.int) v1 x1, own 3 TR.int v344 (List.set l343 i388 (wadd y420 (wmul (wmul y422 y424) (wsub y428 y306))))]) (fun a w st => St.cut [0, 1] ⟨rfl, rfl, rfl, rfl, rfl, rfl, rfl, rfl, trivial⟩ (by decide) rfl st) ?_
              refine GL.nilB ?_
              refine GL.region ?_
              refine RL.binI (v := .int .i64 ((i388 + 1 : Nat) : Int)) rfl rfl rfl rfl (binI_succ i388 (by omega)) ?_
              refine RL.mv rfl rfl rfl ?_
              refine RL.fin ?_
              cases h391
              exact fun a w st => lop_intro (i388 + 1, r398, (List.set l343 i388 (wadd y420 (wmul (wmul y422 y424) (wsub y428 y306)))), v344) ⟨by show i388 + 1 + r398 = (x0).toNat; omega, h392⟩ (by simp) (St.cut [0, 1] ⟨rfl, rfl, rfl, rfl, rfl, rfl, rfl, rfl, trivial⟩ (by decide) rfl st)
            · replace h391 := ite_f b403 h391
              refine GL.skip ?_
              refine GL.nilB ?_
              refine GL.region ?_
              refine RL.binI (v := .int .i64 ((i388 + 1 : Nat) : Int)) rfl rfl rfl rfl (binI_succ i388 (by omega)) ?_
              refine RL.mv rfl rfl rfl ?_
              refine RL.fin ?_
              cases h391
              exact fun a w st => lop_intro (i388 + 1, r398, l343, v344) ⟨by show i388 + 1 + r398 = (x0).toNat; omega, h392⟩ (by simp) (St.cut [0, 1] ⟨rfl, rfl, rfl, rfl, rfl, rfl, rfl, rfl, trivial⟩ (by decide) rfl st)
          · have h397 : ¬ i388 < (x0).toNat := by have := of_decide_eq_false b396; omega
            obtain rfl : r389 = 0 := by omega
            replace h393 : some (Fl.nx _) = some y381 := h393
            cases h393
            exact GL.exit (fun a w st => mid_intro (l343, v344) h384 (St.cut [0, 1] ⟨rfl, rfl, rfl, rfl, rfl, trivial⟩ (by decide) rfl st))
        · rintro ⟨l343, v344⟩ h432
          have h433 := h385 _ h432
          try dsimp only at h433
          refine GL.weak (env' := [(0, .int .i64 x0), (1, v1), (7, v344), (20, .int .i64 ((x1).length : Int)), (21, .int .i64 (i296 : Int))]) (L' := [imm (TR.sl TR.int) v1 x1, own 3 TR.int v344 l343]) (fun _ _ st => st) ?_
          refine GL.nilB ?_
          refine GL.region ?_
          refine RL.binI (v := .int .i64 ((i296 + 1 : Nat) : Int)) rfl rfl rfl rfl (binI_succ i296 (by omega)) ?_
          refine RL.mv rfl rfl rfl ?_
          refine RL.fin ?_
          cases h433
          exact fun a w st => lop_intro (i296 + 1, r308, l343, v344) ⟨by show i296 + 1 + r308.length = (x1).length; simp only [List.length_cons] at h302; omega, h309, h300⟩ (by simp) (St.cut [0, 1] ⟨rfl, rfl, rfl, rfl, rfl, trivial⟩ (by decide) rfl st)
      · have h305 : ¬ i296 < (x1).length := by have := of_decide_eq_false b304; omega
        obtain rfl : r297 = [] := by rw [← h303]; exact List.drop_of_length_le (by omega)
        replace h301 : some (Fl.nx _) = some y289 := h301
        cases h301
        exact GL.exit (fun a w st => mid_intro (l150, v151) h292 (St.cut [1] ⟨rfl, trivial⟩ (by decide) rfl st))
    · rintro ⟨l150, v151⟩ h434
      have h435 := h293 _ h434
      try dsimp only at h435
      refine GL.weak (env' := [(7, v151)]) (L' := [own 3 TR.int v151 l150]) (fun _ _ st => st) ?_
      refine GL.seq ?_
      refine GL.region ?_
      refine RL.mv rfl rfl rfl ?_
      refine RL.asg rfl rfl rfl ?_
      refine RL.asg rfl rfl rfl ?_
      refine RL.finG ?_
      have h435 := Option.some.inj h435
      subst h435
      exact GL.ret (Gx.ret (v := .tuple #[v151, .int .i64 (0 : Int)]) (res2 rfl rfl rfl) (fun a w st => (st.pick [0] (by decide) rfl).toPost v151))

set_option maxHeartbeats 4000000 in
theorem slices_Equal_int_int_c (S : Hp) (w : World) (hS : S.sub w) (v0 : Value) (x0 : (List Int)) (k0 : ((TR.sl TR.int)).vrep S v0 x0) (v1 : Value) (x1 : (List Int)) (k1 : ((TR.sl TR.int)).vrep S v1 x1) (res : Bool) (hm : slices_Equal_int_int_m x0 x1 = some res) : Calls Try.prog 29 #[v0, v1] w (PostV w (.bool res)) := by
  refine calls_enter 26 Try.func29 Try.ntmps29 rfl S false [(0, v0), (1, v1)] [imm (TR.sl TR.int) v0 x0, imm (TR.sl TR.int) v1 x1] rfl ⟨rfl, ⟨rfl, trivial⟩⟩ hS ⟨k0, ⟨k1, trivial⟩⟩ ?_
  unfold slices_Equal_int_int_m at hm
  refine GL.seq ?_
  refine GL.region ?_
  refine RL.asg rfl rfl rfl ?_
  refine RL.finG ?_
  refine GL.seq ?_
  refine GL.seq ?_
  refine GL.region ?_
  refine RL.mv rfl rfl rfl ?_
  refine RL.lenS 0 Try.underlying23 rfl rfl rfl rfl SlOf.imm ?_
  refine RL.mv rfl rfl rfl ?_
  refine RL.lenS 1 Try.underlying23 rfl rfl rfl rfl SlOf.imm ?_
  refine RL.binI (v := .bool (((x0).length : Int) != ((x1).length : Int))) rfl rfl rfl rfl rfl ?_
  refine RL.finG ?_
  refine GL.cond rfl (fun b3 => ?_) (fun b3 => ?_)
  · replace hm := ite_t b3 hm
    refine GL.seq ?_
    refine GL.region ?_
    refine RL.asg rfl rfl rfl ?_
    refine RL.finG ?_
    have hm := Option.some.inj hm
    subst hm
    exact GL.ret (Gx.ret (v := .bool false) (res1 rfl rfl) (fun a w st => st.toPostV))
  · replace hm := ite_f b3 hm
    refine GL.skip ?_
    refine GL.seq ?_
    refine GL.seq ?_
    refine GL.region ?_
    refine RL.mv rfl rfl rfl ?_
    refine RL.lenS 0 Try.underlying23 rfl rfl rfl rfl SlOf.imm ?_
    refine RL.mv rfl rfl rfl ?_
    refine RL.finG ?_
    refine GL.open_ 0 rfl (fun S h => len_imm S h) (fun n13 => ?_)
    obtain ⟨y14, K15, h16, h17, h18, h19, h20⟩ := bindR_K hm
    refine GL.join (ι := Unit) (fun (p : Unit) => []) (fun (p : Unit) => []) (fun (p : Unit) => K15 (.nx ())) ?_ ?_
    · refine GL.block ?_
      refine GL.loop (ι := Nat × (List Int)) (fun (p : Nat × (List Int)) => [(0, v0), (1, v1), (12, .int .i64 ((x0).length : Int)), (13, .int .i64 (p.1 : Int))]) (fun (p : Nat × (List Int)) => [imm (TR.sl TR.int) v0 x0, imm (TR.sl TR.int) v1 x1]) (fun (p : Nat × (List Int)) => p.1 + p.2.length = (x0).length ∧ List.drop p.1 x0 = p.2 ∧ rangeL (slices_Equal_int_int_b1 x1) p.2 p.1 () = some y14) (fun (p : Nat × (List Int)) => p.2.length) (0, x0) ⟨by simp, by simp, h16⟩ (fun a w st => St.cut [0, 1] ⟨rfl, rfl, rfl, rfl, trivial⟩ (by decide) rfl st) ?_
      rintro ⟨i21, r22⟩ ⟨h27, h28, h26⟩
      try dsimp only at h27 h28 h26
      refine GL.weak (env' := [(0, v0), (1, v1), (12, .int .i64 ((x0).length : Int)), (13, .int .i64 (i21 : Int))]) (L' := [imm (TR.sl TR.int) v0 x0, imm (TR.sl TR.int) v1 x1]) (fun _ _ st => st) ?_
      refine GL.seq ?_
      refine GL.region ?_
      refine RL.binI (v := .bool (decide ((i21 : Int) < ((x0).length : Int)))) rfl rfl rfl rfl rfl ?_
      refine RL.finG ?_
      refine GL.seq ?_
      refine GL.cond rfl (fun b29 => ?_) (fun b29 => ?_)
      · have h30 : i21 < (x0).length := by have := of_decide_eq_true b29; omega
        obtain ⟨y31, r33, hr, e32, h34⟩ := drop_cons h28 rfl h30
        subst hr
        obtain ⟨z23, h24, h25⟩ := rangeL_some h26
        unfold slices_Equal_int_int_b1 at h24
        try dsimp only at h24
        refine GL.skip ?_
        refine GL.seq ?_
        refine GL.block ?_
        refine GL.seq ?_
        refine GL.region ?_
        refine RL.mv rfl rfl rfl ?_
        refine RL.asg rfl rfl rfl ?_
        refine RL.finG ?_
        refine GL.seq ?_
        refine GL.regionQ rfl rfl (by kernel_rfl) ?_
        refine RL.mv rfl rfl rfl ?_
        refine RL.mv rfl rfl rfl ?_
        refine RL.idxS (sz := 1) 0 Try.underlying23 Try_ln3 rfl rfl rfl rfl rfl SlOf.imm (by omega) (by omega) ?_
        refine RL.ldSx (i := i21) (e' := y31) 0 Ex.ik Try_ln3 rfl rfl rfl rfl SlOf.imm e32 Part.self ?_
        refine RL.mv rfl rfl rfl ?_
        refine RL.mv rfl rfl rfl ?_
        obtain ⟨y37, e38, h24⟩ := bind_some h24
        refine RL.idxS (sz := 1) 1 Try.underlying23 Try_ln3 rfl rfl rfl rfl rfl SlOf.imm (idx_some e38).1 (idx_some e38).2.1 ?_
        refine RL.ldSx (i := i21) (e' := y37) 1 Ex.ik Try_ln3 rfl rfl rfl rfl SlOf.imm (idx_some e38).2.2 Part.self ?_
        refine RL.binI (v := .bool (y31 != y37)) rfl rfl rfl rfl rfl ?_
        refine RL.finQG ?_
        refine GL.cond rfl (fun b39 => ?_) (fun b39 => ?_)
        · replace h24 := ite_t b39 h24
          refine GL.seq ?_
          refine GL.region ?_
          refine RL.asg rfl rfl rfl ?_
          refine RL.finG ?_
          cases h24
          replace h25 : some (Fl.rt _) = some y14 := h25
          cases h25
          have hh := h19 _ h17
          subst hh
          exact GL.ret (Gx.ret (v := .bool false) (res1 rfl rfl) (fun a w st => st.toPostV))
        · replace h24 := ite_f b39 h24
          refine GL.skip ?_
          refine GL.nilB ?_
          refine GL.region ?_
          refine RL.binI (v := .int .i64 ((i21 + 1 : Nat) : Int)) rfl rfl rfl rfl (binI_succ i21 (by omega)) ?_
          refine RL.mv rfl rfl rfl ?_
          refine RL.fin ?_
          cases h24
          exact fun a w st => lop_intro (i21 + 1, r33) ⟨by show i21 + 1 + r33.length = (x0).length; simp only [List.length_cons] at h27; omega, h34, h25⟩ (by simp) (St.cut [0, 1] ⟨rfl, rfl, rfl, rfl, trivial⟩ (by decide) rfl st)
      · have h30 : ¬ i21 < (x0).length := by have := of_decide_eq_false b29; omega
        obtain rfl : r22 = [] := by rw [← h28]; exact List.drop_of_length_le (by omega)
        replace h26 : some (Fl.nx _) = some y14 := h26
        cases h26
        exact GL.exit (fun a w st => mid_intro () h17 (St.cut [] trivial (by decide) rfl st))
    · rintro ⟨⟩ h40
      have h41 := h18 _ h40
      try dsimp only at h41
      refine GL.weak (env' := []) (L' := []) (fun _ _ st => st) ?_
      refine GL.seq ?_
      refine GL.region ?_
      refine RL.asg rfl rfl rfl ?_
      refine RL.finG ?_
      have h41 := Option.some.inj h41
      subst h41
      exact GL.ret (Gx.ret (v := .bool true) (res1 rfl rfl) (fun a w st => st.toPostV))

set_option maxHeartbeats 4000000 in
theorem top_works_c (S : Hp) (w : World) (hS : S.sub w)  (res : Bool) (hm : top_works_m = some res) : Calls Try.prog 13 #[] w (PostV w (.bool res)) := by
  refine calls_enter 31 Try.func13 Try.ntmps13 rfl S false [] [] rfl trivial hS trivial ?_
  unfold top_works_m at hm
  refine GL.seq ?_
  refine GL.region ?_
  refine RL.asg rfl rfl rfl ?_
  refine RL.finG ?_
  refine GL.seq ?_
  refine GL.region ?_
  refine RL.bS (t := TR.int) (vs := [.int .i64 (0 : Int), .int .i64 (1 : Int), .int .i64 (2 : Int)]) ([(0 : Int), (1 : Int), (2 : Int)] : (List Int)) Try.underlying23 Try_lo3 rfl rfl rfl rfl ⟨VR.int, ⟨VR.int, ⟨VR.int, trivial⟩⟩⟩ rfl (by decide) ?_
  intro v5
  refine RL.bS (t := TR.int) (vs := [.int .i64 (2 : Int), .int .i64 (0 : Int), .int .i64 (1 : Int)]) ([(2 : Int), (0 : Int), (1 : Int)] : (List Int)) Try.underlying23 Try_lo3 rfl rfl rfl rfl ⟨VR.int, ⟨VR.int, ⟨VR.int, trivial⟩⟩⟩ rfl (by decide) ?_
  intro v6
  refine RL.reL (L' := [own 3 TR.int v5 ([(0 : Int), (1 : Int), (2 : Int)] : (List Int)), own 3 TR.int v6 ([(2 : Int), (0 : Int), (1 : Int)] : (List Int))]) rfl ?_
  obtain ⟨y7, e8, hm⟩ := bind_some hm
  refine RL.callV (v := .tuple #[.int .i64 y7.1, .int .i64 y7.2]) (vs := [v5, v6]) Try_fit35 rfl (Or.inl rfl) rfl rfl rfl rfl (fun U w hU hW hL => order_Far_c U w hU _ _ (hL 0 _ _ rfl Seen.own) _ _ (hL 1 _ _ rfl Seen.own) _ e8) ?_
  refine RL.mv rfl rfl rfl ?_
  refine RL.ext rfl rfl rfl rfl ?_
  refine RL.ext rfl rfl rfl rfl ?_
  refine RL.asg rfl rfl rfl ?_
  refine RL.asg rfl rfl rfl ?_
  refine RL.finG ?_
  refine GL.seq ?_
  refine GL.region ?_
  refine RL.bS (t := TR.int) (vs := [.int .i64 (0 : Int), .int .i64 (0 : Int), .int .i64 (2 : Int), .int .i64 (6 : Int)]) ([(0 : Int), (0 : Int), (2 : Int), (6 : Int)] : (List Int)) Try.underlying23 Try_lo3 rfl rfl rfl rfl ⟨VR.int, ⟨VR.int, ⟨VR.int, ⟨VR.int, trivial⟩⟩⟩⟩ rfl (by decide) ?_
  intro v13
  refine RL.weak (fun a w st => st.freeze 2 rfl) ?_
  obtain ⟨y14, e15, hm⟩ := bind_some hm
  refine RL.call (vs := [.int .i64 (2 : Int), v13]) Try_fit36 rfl rfl rfl rfl rfl (fun S f w hS hW hi => worth_Share_c S w hS (2 : Int) _ _ (hi 2 _ rfl) _ e15) ?_
  intro v16
  refine RL.reL (L' := [own 3 TR.int v5 ([(0 : Int), (1 : Int), (2 : Int)] : (List Int)), own 3 TR.int v6 ([(2 : Int), (0 : Int), (1 : Int)] : (List Int)), imm (TR.sl TR.int) v13 ([(0 : Int), (0 : Int), (2 : Int), (6 : Int)] : (List Int)), own 3 TR.int v16 y14.1]) rfl ?_
  refine RL.mv rfl rfl rfl ?_
  refine RL.ext rfl rfl rfl rfl ?_
  refine RL.ext rfl rfl rfl rfl ?_
  refine RL.asg rfl rfl rfl ?_
  refine RL.asg rfl rfl rfl ?_
  refine RL.finG ?_
  refine GL.seq ?_
  obtain ⟨y30, K31, h32, h33, h34, h35, h36⟩ := bindR_K hm
  refine GL.join (ι := Bool) (fun (p : Bool) => [(0, .bool p)]) (fun (p : Bool) => []) (fun (p : Bool) => K31 (.nx p)) ?_ ?_
  · skip
    refine GL.region ?_
    refine RL.mv rfl rfl rfl ?_
    refine RL.binI (v := .bool (y7.2 == (0 : Int))) rfl rfl rfl rfl rfl ?_
    refine RL.mv rfl rfl rfl ?_
    refine RL.split (t := 18) rfl (fun b37 => ?_) (fun b37 => ?_)
    · replace h32 := ite_t b37 h32
      refine RL.mv rfl rfl rfl ?_
      refine RL.binI (v := .bool (y14.2 == (0 : Int))) rfl rfl rfl rfl rfl ?_
      refine RL.pickT rfl rfl rfl rfl ?_
      refine RL.mv rfl rfl rfl ?_
      refine RL.split (t := 22) rfl (fun b38 => ?_) (fun b38 => ?_)
      · replace h32 := ite_t b38 h32
        refine RL.mv rfl rfl rfl ?_
        refine RL.binI (v := .bool (y7.1 == (2 : Int))) rfl rfl rfl rfl rfl ?_
        refine RL.pickT rfl rfl rfl rfl ?_
        refine RL.mv rfl rfl rfl ?_
        refine RL.split (t := 26) rfl (fun b39 => ?_) (fun b39 => ?_)
        · replace h32 := ite_t b39 h32
          refine RL.mv rfl rfl rfl ?_
          refine RL.bS (t := TR.int) (vs := [.int .i64 (4 : Int), .int .i64 (8 : Int)]) ([(4 : Int), (8 : Int)] : (List Int)) Try.underlying23 Try_lo3 rfl rfl rfl rfl ⟨VR.int, ⟨VR.int, trivial⟩⟩ rfl (by decide) ?_
          intro v40
          obtain ⟨y41, e42, h32⟩ := bind_some h32
          refine RL.callV (v := .bool y41) (vs := [v16, v40]) Try_fit29 rfl (Or.inl rfl) rfl rfl rfl rfl (fun U w hU hW hL => slices_Equal_int_int_c U w hU _ _ (hL 3 _ _ rfl Seen.own) _ _ (hL 4 _ _ rfl Seen.own) _ e42) ?_
          refine RL.pickT rfl rfl rfl rfl ?_
          refine RL.asg rfl rfl rfl ?_
          refine RL.fin ?_
          cases h32
          exact fun a w st => mid_intro y41 h33 (St.cut [] ⟨rfl, trivial⟩ (by decide) rfl st)
        · replace h32 := ite_f b39 h32
          refine RL.skip rfl rfl ?_
          refine RL.skip rfl rfl ?_
          refine RL.skip rfl rfl ?_
          refine RL.pickF rfl rfl rfl rfl ?_
          refine RL.asg rfl rfl rfl ?_
          refine RL.fin ?_
          cases h32
          exact fun a w st => mid_intro false h33 (St.cut [] ⟨rfl, trivial⟩ (by decide) rfl st)
      · replace h32 := ite_f b38 h32
        refine RL.skip rfl rfl ?_
        refine RL.skip rfl rfl ?_
        refine RL.pickF rfl rfl rfl rfl ?_
        refine RL.mv rfl rfl rfl ?_
        refine RL.skip rfl rfl ?_
        refine RL.skip rfl rfl ?_
        refine RL.skip rfl rfl ?_
        refine RL.pickF rfl rfl rfl rfl ?_
        refine RL.asg rfl rfl rfl ?_
        refine RL.fin ?_
        cases h32
        exact fun a w st => mid_intro false h33 (St.cut [] ⟨rfl, trivial⟩ (by decide) rfl st)
    · replace h32 := ite_f b37 h32
      refine RL.skip rfl rfl ?_
      refine RL.skip rfl rfl ?_
      refine RL.pickF rfl rfl rfl rfl ?_
      refine RL.mv rfl rfl rfl ?_
      refine RL.skip rfl rfl ?_
      refine RL.skip rfl rfl ?_
      refine RL.pickF rfl rfl rfl rfl ?_
      refine RL.mv rfl rfl rfl ?_
      refine RL.skip rfl rfl ?_
      refine RL.skip rfl rfl ?_
      refine RL.skip rfl rfl ?_
      refine RL.pickF rfl rfl rfl rfl ?_
      refine RL.asg rfl rfl rfl ?_
      refine RL.fin ?_
      cases h32
      exact fun a w st => mid_intro false h33 (St.cut [] ⟨rfl, trivial⟩ (by decide) rfl st)
  · rintro x29 h43
    have h44 := h34 _ h43
    try dsimp only at h44
    refine GL.weak (env' := [(0, .bool x29)]) (L' := []) (fun _ _ st => st) ?_
    have h44 := Option.some.inj h44
    subst h44
    exact GL.ret (Gx.ret (v := .bool x29) (res1 rfl rfl) (fun a w st => st.toPostV))

set_option maxHeartbeats 4000000 in
theorem slices_IndexFunc_api_Errno_api_Errno_c (S : Hp) (w : World) (hS : S.sub w) (v0 : Value) (x0 : (List Int)) (k0 : ((TR.sl TR.int)).vrep S v0 x0) (f1 : FuncId) (c1 : Array Value) (t1 : Fit Try.prog f1) (g1 : Int → Option Bool) (k1 : ∀ (U : Hp) (w' : World), Hp.le S U → U.sub w' → ∀ (a0 : Int) (rr : Bool), g1 a0 = some rr → Calls Try.prog f1 (#[.int .i64 a0] ++ c1) w' (PostV w' (.bool rr))) (res : Int) (hm : slices_IndexFunc_api_Errno_api_Errno_m x0 g1 = some res) : Calls Try.prog 66 #[v0, .func (.func f1) #[] c1] w (PostV w (.int .i64 res)) := by
  refine calls_enter 19 Try.func66 Try.ntmps66 rfl S false [(0, v0), (1, .func (.func f1) #[] c1)] [imm (TR.sl TR.int) v0 x0] rfl ⟨rfl, ⟨rfl, trivial⟩⟩ hS ⟨k0, trivial⟩ ?_
  unfold slices_IndexFunc_api_Errno_api_Errno_m at hm
  refine GL.seq ?_
  refine GL.region ?_
  refine RL.asg rfl rfl rfl ?_
  refine RL.finG ?_
  refine GL.seq ?_
  refine GL.seq ?_
  refine GL.region ?_
  refine RL.mv rfl rfl rfl ?_
  refine RL.lenS 0 Try.underlying70 rfl rfl rfl rfl SlOf.imm ?_
  refine RL.mv rfl rfl rfl ?_
  refine RL.finG ?_
  refine GL.open_ 0 rfl (fun S h => len_imm S h) (fun n12 => ?_)
  obtain ⟨y13, K14, h15, h16, h17, h18, h19⟩ := bindR_K hm
  refine GL.join (ι := Unit) (fun (p : Unit) => []) (fun (p : Unit) => []) (fun (p : Unit) => K14 (.nx ())) ?_ ?_
  · refine GL.block ?_
    refine GL.loop (ι := Nat × (List Int)) (fun (p : Nat × (List Int)) => [(0, v0), (1, .func (.func f1) #[] c1), (7, .int .i64 ((x0).length : Int)), (8, .int .i64 (p.1 : Int))]) (fun (p : Nat × (List Int)) => [imm (TR.sl TR.int) v0 x0]) (fun (p : Nat × (List Int)) => p.1 + p.2.length = (x0).length ∧ List.drop p.1 x0 = p.2 ∧ rangeL (slices_IndexFunc_api_Errno_api_Errno_b1 g1) p.2 p.1 () = some y13) (fun (p : Nat × (List Int)) => p.2.length) (0, x0) ⟨by simp, by simp, h15⟩ (fun a w st => St.cut [0] ⟨rfl, rfl, rfl, rfl, trivial⟩ (by decide) rfl st) ?_
    rintro ⟨i20, r21⟩ ⟨h26, h27, h25⟩
    try dsimp only at h26 h27 h25
    refine GL.weak (env' := [(0, v0), (1, .func (.func f1) #[] c1), (7, .int .i64 ((x0).length : Int)), (8, .int .i64 (i20 : Int))]) (L' := [imm (TR.sl TR.int) v0 x0]) (fun _ _ st => st) ?_
    refine GL.seq ?_
    refine GL.region ?_
    refine RL.binI (v := .bool (decide ((i20 : Int) < ((x0).length : Int)))) rfl rfl rfl rfl rfl ?_
    refine RL.finG ?_
    refine GL.seq ?_
    refine GL.cond rfl (fun b28 => ?_) (fun b28 => ?_)
    · have h29 : i20 < (x0).length := by have := of_decide_eq_true b28; omega
      obtain ⟨y30, r32, hr, e31, h33⟩ := drop_cons h27 rfl h29
      subst hr
      obtain ⟨z22, h23, h24⟩ := rangeL_some h25
      unfold slices_IndexFunc_api_Errno_api_Errno_b1 at h23
      try dsimp only at h23
      refine GL.skip ?_
      refine GL.seq ?_
      refine GL.block ?_
      refine GL.seq ?_
      refine GL.region ?_
      refine RL.mv rfl rfl rfl ?_
      refine RL.asg rfl rfl rfl ?_
      refine RL.finG ?_
      refine GL.seq ?_
      refine GL.region ?_
      refine RL.mv rfl rfl rfl ?_
      refine RL.mv rfl rfl rfl ?_
      refine RL.mv rfl rfl rfl ?_
      refine RL.idxS (sz := 1) 0 Try.underlying70 Try_ln27 rfl rfl rfl rfl rfl SlOf.imm (by omega) (by omega) ?_
      refine RL.ldSx (i := i20) (e' := y30) 0 Ex.ik Try_ln27 rfl rfl rfl rfl SlOf.imm e31 Part.self ?_
      obtain ⟨y36, e37, h23⟩ := bind_some h23
      refine RL.callV (v := .bool y36) (vs := [.int .i64 y30]) t1 rfl (Or.inl rfl) rfl rfl rfl rfl (fun U w hU hW hL => k1 U w hW hU y30 _ e37) ?_
      refine RL.finG ?_
      refine GL.cond rfl (fun b38 => ?_) (fun b38 => ?_)
      · replace h23 := ite_t b38 h23
        refine GL.seq ?_
        refine GL.region ?_
        refine RL.mv rfl rfl rfl ?_
        refine RL.asg rfl rfl rfl ?_
        refine RL.finG ?_
        cases h23
        replace h24 : some (Fl.rt _) = some y13 := h24
        cases h24
        have hh := h18 _ h16
        subst hh
        exact GL.ret (Gx.ret (v := .int .i64 (i20 : Int)) (res1 rfl rfl) (fun a w st => st.toPostV))
      · replace h23 := ite_f b38 h23
        refine GL.skip ?_
        refine GL.nilB ?_
        refine GL.region ?_
        refine RL.binI (v := .int .i64 ((i20 + 1 : Nat) : Int)) rfl rfl rfl rfl (binI_succ i20 (by omega)) ?_
        refine RL.mv rfl rfl rfl ?_
        refine RL.fin ?_
        cases h23
        exact fun a w st => lop_intro (i20 + 1, r32) ⟨by show i20 + 1 + r32.length = (x0).length; simp only [List.length_cons] at h26; omega, h33, h24⟩ (by simp) (St.cut [0] ⟨rfl, rfl, rfl, rfl, trivial⟩ (by decide) rfl st)
    · have h29 : ¬ i20 < (x0).length := by have := of_decide_eq_false b28; omega
      obtain rfl : r21 = [] := by rw [← h27]; exact List.drop_of_length_le (by omega)
      replace h25 : some (Fl.nx _) = some y13 := h25
      cases h25
      exact GL.exit (fun a w st => mid_intro () h16 (St.cut [] trivial (by decide) rfl st))
  · rintro ⟨⟩ h39
    have h40 := h17 _ h39
    try dsimp only at h40
    refine GL.weak (env' := []) (L' := []) (fun _ _ st => st) ?_
    refine GL.seq ?_
    refine GL.region ?_
    refine RL.asg rfl rfl rfl ?_
    refine RL.finG ?_
    have h40 := Option.some.inj h40
    subst h40
    exact GL.ret (Gx.ret (v := .int .i64 (-1 : Int)) (res1 rfl rfl) (fun a w st => st.toPostV))

set_option maxHeartbeats 4000000 in
theorem slices_ContainsFunc_api_Errno_api_Errno_c (S : Hp) (w : World) (hS : S.sub w) (v0 : Value) (x0 : (List Int)) (k0 : ((TR.sl TR.int)).vrep S v0 x0) (f1 : FuncId) (c1 : Array Value) (t1 : Fit Try.prog f1) (g1 : Int → Option Bool) (k1 : ∀ (U : Hp) (w' : World), Hp.le S U → U.sub w' → ∀ (a0 : Int) (rr : Bool), g1 a0 = some rr → Calls Try.prog f1 (#[.int .i64 a0] ++ c1) w' (PostV w' (.bool rr))) (res : Bool) (hm : slices_ContainsFunc_api_Errno_api_Errno_m x0 g1 = some res) : Calls Try.prog 37 #[v0, .func (.func f1) #[] c1] w (PostV w (.bool res)) := by
  refine calls_enter 9 Try.func37 Try.ntmps37 rfl S false [(0, v0), (1, .func (.func f1) #[] c1)] [imm (TR.sl TR.int) v0 x0] rfl ⟨rfl, ⟨rfl, trivial⟩⟩ hS ⟨k0, trivial⟩ ?_
  unfold slices_ContainsFunc_api_Errno_api_Errno_m at hm
  refine GL.seq ?_
  refine GL.region ?_
  refine RL.asg rfl rfl rfl ?_
  refine RL.finG ?_
  refine GL.seq ?_
  refine GL.region ?_
  refine RL.mv rfl rfl rfl ?_
  refine RL.mv rfl rfl rfl ?_
  obtain ⟨y5, e6, hm⟩ := bind_some hm
  refine RL.callV (v := .int .i64 y5) (vs := [v0, .func (.func f1) #[] c1]) Try_fit66 rfl (Or.inl rfl) rfl rfl rfl rfl (fun U w hU hW hL => slices_IndexFunc_api_Errno_api_Errno_c U w hU _ _ (hL 0 _ _ rfl Seen.imm) f1 c1 t1 g1 (fun U' w' hle => k1 U' w' (Hp.le_trans hW hle)) _ e6) ?_
  refine RL.binI (v := .bool (decide (y5 ≥ (0 : Int)))) rfl rfl rfl rfl rfl ?_
  refine RL.asg rfl rfl rfl ?_
  refine RL.finG ?_
  have hm := Option.some.inj hm
  subst hm
  exact GL.ret (Gx.ret (v := .bool (decide (y5 ≥ (0 : Int)))) (res1 rfl rfl) (fun a w st => st.toPostV))

set_option maxHeartbeats 4000000 in
theorem top_good_1_c (S : Hp) (w : World) (hS : S.sub w) (x0 : Int) (res : Bool) (hm : top_good_1_m x0 = some res) : Calls Try.prog 38 #[.int .i64 x0] w (PostC w (.bool res)) := by
  refine calls_enter 5 Try.func38 Try.ntmps38 rfl S true [(0, .int .i64 x0)] [] rfl ⟨rfl, trivial⟩ hS trivial ?_
  unfold top_good_1_m at hm
  refine GL.seq ?_
  refine GL.region ?_
  refine RL.asg rfl rfl rfl ?_
  refine RL.finG ?_
  refine GL.seq ?_
  refine GL.region ?_
  refine RL.mv rfl rfl rfl ?_
  refine RL.binI (v := .bool (x0 != (0 : Int))) rfl rfl rfl rfl rfl ?_
  refine RL.asg rfl rfl rfl ?_
  refine RL.finG ?_
  have hm := Option.some.inj hm
  subst hm
  exact GL.ret (Gx.ret (v := .bool (x0 != (0 : Int))) (res1 rfl rfl) (fun a w st => st.toPostC rfl))

set_option maxHeartbeats 4000000 in
theorem top_good_c (S : Hp) (w : World) (hS : S.sub w) (v0 : Value) (x0 : (List Int)) (k0 : ((TR.sl TR.int)).vrep S v0 x0) (res : Bool) (hm : top_good_m x0 = some res) : Calls Try.prog 14 #[v0] w (PostV w (.bool res)) := by
  refine calls_enter 6 Try.func14 Try.ntmps14 rfl S false [(0, v0)] [imm (TR.sl TR.int) v0 x0] rfl ⟨rfl, trivial⟩ hS ⟨k0, trivial⟩ ?_
  unfold top_good_m at hm
  refine GL.seq ?_
  refine GL.region ?_
  refine RL.asg rfl rfl rfl ?_
  refine RL.finG ?_
  refine GL.seq ?_
  refine GL.region ?_
  refine RL.mv rfl rfl rfl ?_
  obtain ⟨y4, e5, hm⟩ := bind_some hm
  refine RL.callV (v := .bool y4) (vs := [v0, .func (.func 38) #[] #[]]) Try_fit37 rfl (Or.inl rfl) rfl rfl rfl rfl (fun U w hU hW hL => slices_ContainsFunc_api_Errno_api_Errno_c U w hU _ _ (hL 0 _ _ rfl Seen.imm) 38 #[] Try_fit38 (fun a0 => top_good_1_m a0) (fun U' w' hle hU' a0 rr hr => (top_good_1_c U' w' hU' a0 rr hr).mono (fun _ _ z => z.toV)) _ e5) ?_
  refine RL.notB rfl rfl rfl ?_
  refine RL.asg rfl rfl rfl ?_
  refine RL.finG ?_
  have hm := Option.some.inj hm
  subst hm
  exact GL.ret (Gx.ret (v := .bool (!y4)) (res1 rfl rfl) (fun a w st => st.toPostV))

set_option maxHeartbeats 4000000 in
theorem top_TopFar_c (S : Hp) (w : World) (hS : S.sub w) (x0 : Int) (v1 : Value) (x1 : (List (List Int))) (k1 : ((TR.sl (TR.sl TR.int))).vrep S v1 x1) (v2 : Value) (x2 : (List Int)) (k2 : ((TR.sl TR.int)).vrep S v2 x2) (res : Bool) (hm : top_TopFar_m x0 x1 x2 = some res) : Calls Try.prog 3 #[.int .i64 x0, v1, v2] w (PostV w (.bool res)) := by
  refine calls_enter 92 Try.func3 Try.ntmps3 rfl S false [(0, .int .i64 x0), (1, v1), (2, v2)] [imm (TR.sl (TR.sl TR.int)) v1 x1, imm (TR.sl TR.int) v2 x2] rfl ⟨rfl, ⟨rfl, ⟨rfl, trivial⟩⟩⟩ hS ⟨k1, ⟨k2, trivial⟩⟩ ?_
  unfold top_TopFar_m at hm
  refine GL.seq ?_
  refine GL.region ?_
  refine RL.asg rfl rfl rfl ?_
  refine RL.finG ?_
  refine GL.seq ?_
  refine GL.region ?_
  refine RL.mv rfl rfl rfl ?_
  obtain ⟨y6, e7, hm⟩ := bind_some hm
  refine RL.callC (v := .int .i64 y6) (vs := [.int .i64 x0, .int .i64 (6 : Int)]) Try_fit8 rfl rfl rfl rfl (fun U w hU hW hL => pk_Within_c U w hU x0 (6 : Int) _ e7) ?_
  refine RL.binI (v := .int .i64 (wadd (1 : Int) y6)) rfl rfl rfl rfl rfl ?_
  refine RL.asg rfl rfl rfl ?_
  refine RL.finG ?_
  refine GL.seq ?_
  refine GL.region ?_
  refine RL.mv rfl rfl rfl ?_
  refine RL.mv rfl rfl rfl ?_
  obtain ⟨y14, e15, hm⟩ := bind_some hm
  refine RL.call (vs := [.int .i64 (wadd (1 : Int) y6), v1]) Try_fit9 rfl rfl rfl rfl rfl (fun S f w hS hW hi => pk_VotesOf_c S w hS (wadd (1 : Int) y6) _ _ (hi 0 _ rfl) _ e15) ?_
  intro v16
  refine RL.mv rfl rfl rfl ?_
  refine RL.mv rfl rfl rfl ?_
  obtain ⟨y17, e18, hm⟩ := bind_some hm
  refine RL.call (vs := [.int .i64 (wadd (1 : Int) y6), v2]) Try_fit10 rfl rfl rfl rfl rfl (fun S f w hS hW hi => pk_OrderOf_c S w hS (wadd (1 : Int) y6) _ _ (hi 1 _ rfl) _ e18) ?_
  intro v19
  refine RL.reL (L' := [imm (TR.sl (TR.sl TR.int)) v1 x1, imm (TR.sl TR.int) v2 x2, own 23 (TR.sl TR.int) v16 y14, own 3 TR.int v19 y17]) rfl ?_
  refine RL.asg rfl rfl rfl ?_
  refine RL.asg rfl rfl rfl ?_
  refine RL.finG ?_
  refine GL.seq ?_
  refine GL.region ?_
  refine RL.mv rfl rfl rfl ?_
  refine RL.mv rfl rfl rfl ?_
  refine RL.mv rfl rfl rfl ?_
  obtain ⟨y22, e23, hm⟩ := bind_some hm
  refine RL.callV (v := .tuple #[.int .i64 y22.1, .int .i64 y22.2]) (vs := [.int .i64 (wadd (1 : Int) y6), v16, v19]) Try_fit11 rfl (Or.inl rfl) rfl rfl rfl rfl (fun U w hU hW hL => middle_Far_c U w hU (wadd (1 : Int) y6) _ _ (hL 2 _ _ rfl Seen.own) _ _ (hL 3 _ _ rfl Seen.own) _ e23) ?_
  refine RL.mv rfl rfl rfl ?_
  refine RL.ext rfl rfl rfl rfl ?_
  refine RL.ext rfl rfl rfl rfl ?_
  refine RL.asg rfl rfl rfl ?_
  refine RL.asg rfl rfl rfl ?_
  refine RL.finG ?_
  refine GL.seq ?_
  refine GL.region ?_
  refine RL.mv rfl rfl rfl ?_
  refine RL.mv rfl rfl rfl ?_
  refine RL.weak (fun a w st => st.freeze 2 rfl) ?_
  obtain ⟨y27, e28, hm⟩ := bind_some hm
  refine RL.call (vs := [.int .i64 (wadd (1 : Int) y6), v16]) Try_fit12 rfl rfl rfl rfl rfl (fun S f w hS hW hi => tally_Duels_c S w hS (wadd (1 : Int) y6) _ _ (hi 2 _ rfl) _ e28) ?_
  intro v29
  refine RL.reL (L' := [imm (TR.sl (TR.sl TR.int)) v1 x1, imm (TR.sl TR.int) v2 x2, imm (TR.sl (TR.sl TR.int)) v16 y14, own 3 TR.int v19 y17, imm (TR.sl (TR.sl TR.int)) v29 y27.1]) rfl ?_
  refine RL.mv rfl rfl rfl ?_
  refine RL.ext rfl rfl rfl rfl ?_
  refine RL.ext rfl rfl rfl rfl ?_
  refine RL.asg rfl rfl rfl ?_
  refine RL.asg rfl rfl rfl ?_
  refine RL.finG ?_
  refine GL.seq ?_
  refine GL.seq ?_
  obtain ⟨y45, K46, h47, h48, h49, h50, h51⟩ := bindR_K hm
  refine GL.join (ι := Bool) (fun (p : Bool) => [(0, .int .i64 (wadd (1 : Int) y6)), (8, v19), (9, .int .i64 y22.1), (11, v29), (52, .bool p)]) (fun (p : Bool) => [own 3 TR.int v19 y17, imm (TR.sl (TR.sl TR.int)) v29 y27.1]) (fun (p : Bool) => K46 (.nx p)) ?_ ?_
  · skip
    refine GL.region ?_
    obtain ⟨y52, e53, h47⟩ := bind_some h47
    refine RL.callV (v := .bool y52) (vs := []) Try_fit13 rfl (Or.inl rfl) rfl rfl rfl rfl (fun U w hU hW hL => top_works_c U w hU  _ e53) ?_
    refine RL.notB rfl rfl rfl ?_
    refine RL.mv rfl rfl rfl ?_
    refine RL.split (t := 40) rfl (fun b54 => ?_) (fun b54 => ?_)
    · replace h47 := ite_t b54 h47
      refine RL.skip rfl rfl ?_
      refine RL.skip rfl rfl ?_
      refine RL.skip rfl rfl ?_
      refine RL.skip rfl rfl ?_
      refine RL.skip rfl rfl ?_
      refine RL.pickT rfl rfl rfl rfl ?_
      refine RL.mv rfl rfl rfl ?_
      refine RL.skip rfl rfl ?_
      refine RL.skip rfl rfl ?_
      refine RL.skip rfl rfl ?_
      refine RL.skip rfl rfl ?_
      refine RL.pickT rfl rfl rfl rfl ?_
      refine RL.fin ?_
      cases h47
      exact fun a w st => mid_intro true h48 (St.cut [3, 4] ⟨rfl, rfl, rfl, rfl, rfl, trivial⟩ (by decide) rfl st)
    · replace h47 := ite_f b54 h47
      refine RL.mv rfl rfl rfl ?_
      refine RL.mv rfl rfl rfl ?_
      refine RL.bS (t := TR.int) (vs := [.int .i64 y22.2, .int .i64 y27.2]) ([y22.2, y27.2] : (List Int)) Try.underlying70 Try_lo27 rfl rfl rfl rfl ⟨VR.int, ⟨VR.int, trivial⟩⟩ rfl (by decide) ?_
      intro v55
      obtain ⟨y56, e57, h47⟩ := bind_some h47
      refine RL.callV (v := .bool y56) (vs := [v55]) Try_fit14 rfl (Or.inl rfl) rfl rfl rfl rfl (fun U w hU hW hL => top_good_c U w hU _ _ (hL 5 _ _ rfl Seen.own) _ e57) ?_
      refine RL.notB rfl rfl rfl ?_
      refine RL.pickF rfl rfl rfl rfl ?_
      refine RL.mv rfl rfl rfl ?_
      refine RL.split (t := 47) rfl (fun b58 => ?_) (fun b58 => ?_)
      · replace h47 := ite_t b58 h47
        refine RL.skip rfl rfl ?_
        refine RL.skip rfl rfl ?_
        refine RL.skip rfl rfl ?_
        refine RL.skip rfl rfl ?_
        refine RL.pickT rfl rfl rfl rfl ?_
        refine RL.fin ?_
        cases h47
        exact fun a w st => mid_intro true h48 (St.cut [3, 4] ⟨rfl, rfl, rfl, rfl, rfl, trivial⟩ (by decide) rfl st)
      · replace h47 := ite_f b58 h47
        refine RL.mv rfl rfl rfl ?_
        refine RL.lenS 4 Try.underlying22 rfl rfl rfl rfl SlOf.imm ?_
        refine RL.mv rfl rfl rfl ?_
        refine RL.binI (v := .bool (((y27.1).length : Int) != (wadd (1 : Int) y6))) rfl rfl rfl rfl rfl ?_
        refine RL.pickF rfl rfl rfl rfl ?_
        refine RL.fin ?_
        cases h47
        exact fun a w st => mid_intro (((y27.1).length : Int) != (wadd (1 : Int) y6)) h48 (St.cut [3, 4] ⟨rfl, rfl, rfl, rfl, rfl, trivial⟩ (by decide) rfl st)
  · rintro x44 h59
    have h60 := h49 _ h59
    try dsimp only at h60
    refine GL.weak (env' := [(0, .int .i64 (wadd (1 : Int) y6)), (8, v19), (9, .int .i64 y22.1), (11, v29), (52, .bool x44)]) (L' := [own 3 TR.int v19 y17, imm (TR.sl (TR.sl TR.int)) v29 y27.1]) (fun _ _ st => st) ?_
    refine GL.cond rfl (fun b61 => ?_) (fun b61 => ?_)
    · replace h60 := ite_t b61 h60
      refine GL.seq ?_
      refine GL.region ?_
      refine RL.asg rfl rfl rfl ?_
      refine RL.finG ?_
      have h60 := Option.some.inj h60
      subst h60
      exact GL.ret (Gx.ret (v := .bool false) (res1 rfl rfl) (fun a w st => st.toPostV))
    · replace h60 := ite_f b61 h60
      refine GL.skip ?_
      refine GL.seq ?_
      refine GL.region ?_
      refine RL.asg rfl rfl rfl ?_
      refine RL.finG ?_
      refine GL.seq ?_
      refine GL.seq ?_
      refine GL.region ?_
      refine RL.mv rfl rfl rfl ?_
      refine RL.lenS 0 Try.underlying23 rfl rfl rfl rfl SlOf.own ?_
      refine RL.mv rfl rfl rfl ?_
      refine RL.finG ?_
      refine GL.lenOwn 0 rfl (fun n145 => ?_)
      obtain ⟨y146, K147, h148, h149, h150, h151, h152⟩ := bindR_K h60
      refine GL.join (ι := Int) (fun (p : Int) => [(9, .int .i64 y22.1), (13, .int .i64 p)]) (fun (p : Int) => []) (fun (p : Int) => K147 (.nx p)) ?_ ?_
      · refine GL.block ?_
        refine GL.loop (ι := Nat × Nat × Int) (fun (p : Nat × Nat × Int) => [(0, .int .i64 (wadd (1 : Int) y6)), (8, v19), (9, .int .i64 y22.1), (11, v29), (13, .int .i64 p.2.2), (54, .int .i64 ((y17).length : Int)), (55, .int .i64 (p.1 : Int))]) (fun (p : Nat × Nat × Int) => [own 3 TR.int v19 y17, imm (TR.sl (TR.sl TR.int)) v29 y27.1]) (fun (p : Nat × Nat × Int) => p.1 + p.2.1 = (y17).length ∧ rangeN (top_TopFar_b1 y17 y27 y6) p.2.1 p.1 p.2.2 = some y146) (fun (p : Nat × Nat × Int) => p.2.1) (0, (y17).length, (0 : Int)) ⟨by simp, h148⟩ (fun a w st => St.cut [0, 1] ⟨rfl, rfl, rfl, rfl, rfl, rfl, rfl, trivial⟩ (by decide) rfl st) ?_
        rintro ⟨i153, r154, x62⟩ ⟨h159, h158⟩
        try dsimp only at h159 h158
        refine GL.weak (env' := [(0, .int .i64 (wadd (1 : Int) y6)), (8, v19), (9, .int .i64 y22.1), (11, v29), (13, .int .i64 x62), (54, .int .i64 ((y17).length : Int)), (55, .int .i64 (i153 : Int))]) (L' := [own 3 TR.int v19 y17, imm (TR.sl (TR.sl TR.int)) v29 y27.1]) (fun _ _ st => st) ?_
        refine GL.seq ?_
        refine GL.region ?_
        refine RL.binI (v := .bool (decide ((i153 : Int) < ((y17).length : Int)))) rfl rfl rfl rfl rfl ?_
        refine RL.finG ?_
        refine GL.seq ?_
        refine GL.cond rfl (fun b161 => ?_) (fun b161 => ?_)
        · have h162 : i153 < (y17).length := by have := of_decide_eq_true b161; omega
          obtain ⟨r163, hr⟩ : ∃ m, r154 = m + 1 := ⟨r154 - 1, by omega⟩
          subst hr
          obtain ⟨z155, h156, h157⟩ := rangeN_some h158
          unfold top_TopFar_b1 at h156
          try dsimp only at h156
          refine GL.skip ?_
          refine GL.seq ?_
          refine GL.block ?_
          refine GL.seq ?_
          refine GL.region ?_
          refine RL.mv rfl rfl rfl ?_
          refine RL.asg rfl rfl rfl ?_
          refine RL.finG ?_
          refine GL.seq ?_
          refine GL.region ?_
          refine RL.mv rfl rfl rfl ?_
          refine RL.mv rfl rfl rfl ?_
          refine RL.finG ?_
          obtain ⟨y195, e196, h156⟩ := bind_some h156
          replace e196 := chk_some e196
          obtain ⟨y197, K198, h199, h200, h201, h202, h203⟩ := bindF_K h156
          refine GL.join (ι := Int) (fun (p : Int) => [(0, .int .i64 (wadd (1 : Int) y6)), (8, v19), (9, .int .i64 y22.1), (11, v29), (13, .int .i64 p), (54, .int .i64 ((y17).length : Int)), (55, .int .i64 (i153 : Int))]) (fun (p : Int) => [own 3 TR.int v19 y17, imm (TR.sl (TR.sl TR.int)) v29 y27.1]) (fun (p : Int) => K198 (.nx p)) ?_ ?_
          · refine GL.block ?_
            refine GL.loop (ι := Nat × Nat × Int) (fun (p : Nat × Nat × Int) => [(0, .int .i64 (wadd (1 : Int) y6)), (8, v19), (9, .int .i64 y22.1), (11, v29), (13, .int .i64 p.2.2), (14, .int .i64 (i153 : Int)), (54, .int .i64 ((y17).length : Int)), (55, .int .i64 (i153 : Int)), (58, .int .i64 (i153 : Int)), (59, .int .i64 (p.1 : Int))]) (fun (p : Nat × Nat × Int) => [own 3 TR.int v19 y17, imm (TR.sl (TR.sl TR.int)) v29 y27.1]) (fun (p : Nat × Nat × Int) => p.1 + p.2.1 = ((i153 : Int)).toNat ∧ rangeN (top_TopFar_b2 y17 i153 y27 y6) p.2.1 p.1 p.2.2 = some y197) (fun (p : Nat × Nat × Int) => p.2.1) (0, ((i153 : Int)).toNat, x62) ⟨by simp, h199⟩ (fun a w st => St.cut [0, 1] ⟨rfl, rfl, rfl, rfl, rfl, rfl, rfl, rfl, rfl, rfl, trivial⟩ (by decide) rfl st) ?_
            rintro ⟨i204, r205, x164⟩ ⟨h210, h209⟩
            try dsimp only at h210 h209
            refine GL.weak (env' := [(0, .int .i64 (wadd (1 : Int) y6)), (8, v19), (9, .int .i64 y22.1), (11, v29), (13, .int .i64 x164), (14, .int .i64 (i153 : Int)), (54, .int .i64 ((y17).length : Int)), (55, .int .i64 (i153 : Int)), (58, .int .i64 (i153 : Int)), (59, .int .i64 (i204 : Int))]) (L' := [own 3 TR.int v19 y17, imm (TR.sl (TR.sl TR.int)) v29 y27.1]) (fun _ _ st => st) ?_
            refine GL.seq ?_
            refine GL.region ?_
            refine RL.binI (v := .bool (decide ((i204 : Int) < (i153 : Int)))) rfl rfl rfl rfl rfl ?_
            refine RL.finG ?_
            refine GL.seq ?_
            refine GL.cond rfl (fun b212 => ?_) (fun b212 => ?_)
            · have h213 : i204 < ((i153 : Int)).toNat := by have := of_decide_eq_true b212; omega
              obtain ⟨r214, hr⟩ : ∃ m, r205 = m + 1 := ⟨r205 - 1, by omega⟩
              subst hr
              obtain ⟨z206, h207, h208⟩ := rangeN_some h209
              unfold top_TopFar_b2 at h207
              try dsimp only at h207
              refine GL.skip ?_
              refine GL.seq ?_
              refine GL.block ?_
              refine GL.seq ?_
              refine GL.region ?_
              refine RL.mv rfl rfl rfl ?_
              refine RL.asg rfl rfl rfl ?_
              refine RL.finG ?_
              refine GL.seq ?_
              refine GL.seq ?_
              refine GL.region ?_
              refine RL.mv rfl rfl rfl ?_
              refine RL.mv rfl rfl rfl ?_
              refine RL.mv rfl rfl rfl ?_
              obtain ⟨y220, e221, h207⟩ := bind_some h207
              refine RL.idxS (sz := 1) 0 Try.underlying23 Try_ln3 rfl rfl rfl rfl rfl SlOf.own (idx_some e221).1 (idx_some e221).2.1 ?_
              refine RL.ldSx (i := i153) (e' := y220) 0 Ex.ik Try_ln3 rfl rfl rfl rfl SlOf.own (idx_some e221).2.2 Part.self ?_
              obtain ⟨y222, e223, h207⟩ := bind_some h207
              refine RL.idxS (sz := 1) 1 Try.underlying22 Try_ln23 rfl rfl rfl rfl rfl SlOf.imm (idx_some e223).1 (idx_some e223).2.1 ?_
              refine RL.ldS (i := (y220).toNat) (r := (TR.sl TR.int)) (e' := y222) 1 Try_ln23 rfl rfl rfl rfl SlOf.imm (idx_some e223).2.2 Part.self ?_
              intro v224
              refine RL.lenS 2 Try.underlying23 rfl rfl rfl rfl SlOf.imm ?_
              refine RL.mv rfl rfl rfl ?_
              refine RL.binI (v := .bool (((y222).length : Int) != (wadd (1 : Int) y6))) rfl rfl rfl rfl rfl ?_
              refine RL.finG ?_
              refine GL.cond rfl (fun b225 => ?_) (fun b225 => ?_)
              · replace h207 := ite_t b225 h207
                refine GL.seq ?_
                refine GL.region ?_
                refine RL.asg rfl rfl rfl ?_
                refine RL.finG ?_
                cases h207
                replace h208 : some (Fl.rt _) = some y197 := h208
                cases h208
                have hh := h202 _ h200
                subst hh
                replace h157 : some (Fl.rt _) = some y146 := h157
                cases h157
                have hh := h151 _ h149
                subst hh
                exact GL.ret (Gx.ret (v := .bool false) (res1 rfl rfl) (fun a w st => st.toPostV))
              · replace h207 := ite_f b225 h207
                refine GL.skip ?_
                refine GL.regionQ rfl rfl (by kernel_rfl) ?_
                refine RL.mv rfl rfl rfl ?_
                refine RL.mv rfl rfl rfl ?_
                refine RL.mv rfl rfl rfl ?_
                refine RL.mv rfl rfl rfl ?_
                obtain ⟨y235, e236, h207⟩ := bind_some h207
                refine RL.idxS (sz := 1) 0 Try.underlying23 Try_ln3 rfl rfl rfl rfl rfl SlOf.own (idx_some e236).1 (idx_some e236).2.1 ?_
                refine RL.ldSx (i := i153) (e' := y235) 0 Ex.ik Try_ln3 rfl rfl rfl rfl SlOf.own (idx_some e236).2.2 Part.self ?_
                obtain ⟨y237, e238, h207⟩ := bind_some h207
                refine RL.idxS (sz := 1) 1 Try.underlying22 Try_ln23 rfl rfl rfl rfl rfl SlOf.imm (idx_some e238).1 (idx_some e238).2.1 ?_
                refine RL.ldS (i := (y235).toNat) (r := (TR.sl TR.int)) (e' := y237) 1 Try_ln23 rfl rfl rfl rfl SlOf.imm (idx_some e238).2.2 Part.self ?_
                intro v239
                refine RL.reL (L' := [own 3 TR.int v19 y17, imm (TR.sl (TR.sl TR.int)) v29 y27.1, imm (TR.sl TR.int) v224 y222, imm (TR.sl TR.int) v239 y237]) rfl ?_
                refine RL.mv rfl rfl rfl ?_
                refine RL.mv rfl rfl rfl ?_
                obtain ⟨y240, e241, h207⟩ := bind_some h207
                refine RL.idxS (sz := 1) 0 Try.underlying23 Try_ln3 rfl rfl rfl rfl rfl SlOf.own (idx_some e241).1 (idx_some e241).2.1 ?_
                refine RL.ldSx (i := i204) (e' := y240) 0 Ex.ik Try_ln3 rfl rfl rfl rfl SlOf.own (idx_some e241).2.2 Part.self ?_
                obtain ⟨y242, e243, h207⟩ := bind_some h207
                refine RL.idxS (sz := 1) 3 Try.underlying23 Try_ln3 rfl rfl rfl rfl rfl SlOf.imm (idx_some e243).1 (idx_some e243).2.1 ?_
                refine RL.ldSx (i := (y240).toNat) (e' := y242) 3 Ex.ik Try_ln3 rfl rfl rfl rfl SlOf.imm (idx_some e243).2.2 Part.self ?_
                refine RL.binI (v := .int .i64 (wadd x164 y242)) rfl rfl rfl rfl rfl ?_
                refine RL.asg rfl rfl rfl ?_
                refine RL.finQG ?_
                refine GL.nilB ?_
                refine GL.region ?_
                refine RL.binI (v := .int .i64 ((i204 + 1 : Nat) : Int)) rfl rfl rfl rfl (binI_succ i204 (by omega)) ?_
                refine RL.mv rfl rfl rfl ?_
                refine RL.fin ?_
                cases h207
                exact fun a w st => lop_intro (i204 + 1, r214, wadd x164 y242) ⟨by show i204 + 1 + r214 = ((i153 : Int)).toNat; omega, h208⟩ (by simp) (St.cut [0, 1] ⟨rfl, rfl, rfl, rfl, rfl, rfl, rfl, rfl, rfl, rfl, trivial⟩ (by decide) rfl st)
            · have h213 : ¬ i204 < ((i153 : Int)).toNat := by have := of_decide_eq_false b212; omega
              obtain rfl : r205 = 0 := by omega
              replace h209 : some (Fl.nx _) = some y197 := h209
              cases h209
              exact GL.exit (fun a w st => mid_intro x164 h200 (St.cut [0, 1] ⟨rfl, rfl, rfl, rfl, rfl, rfl, rfl, trivial⟩ (by decide) rfl st))
          · rintro x164 h244
            have h245 := h201 _ h244
            try dsimp only at h245
            refine GL.weak (env' := [(0, .int .i64 (wadd (1 : Int) y6)), (8, v19), (9, .int .i64 y22.1), (11, v29), (13, .int .i64 x164), (54, .int .i64 ((y17).length : Int)), (55, .int .i64 (i153 : Int))]) (L' := [own 3 TR.int v19 y17, imm (TR.sl (TR.sl TR.int)) v29 y27.1]) (fun _ _ st => st) ?_
            refine GL.nilB ?_
            refine GL.region ?_
            refine RL.binI (v := .int .i64 ((i153 + 1 : Nat) : Int)) rfl rfl rfl rfl (binI_succ i153 (by omega)) ?_
            refine RL.mv rfl rfl rfl ?_
            refine RL.fin ?_
            cases h245
            exact fun a w st => lop_intro (i153 + 1, r163, x164) ⟨by show i153 + 1 + r163 = (y17).length; omega, h157⟩ (by simp) (St.cut [0, 1] ⟨rfl, rfl, rfl, rfl, rfl, rfl, rfl, trivial⟩ (by decide) rfl st)
        · have h162 : ¬ i153 < (y17).length := by have := of_decide_eq_false b161; omega
          obtain rfl : r154 = 0 := by omega
          replace h158 : some (Fl.nx _) = some y146 := h158
          cases h158
          exact GL.exit (fun a w st => mid_intro x62 h149 (St.cut [] ⟨rfl, rfl, trivial⟩ (by decide) rfl st))
      · rintro x62 h246
        have h247 := h150 _ h246
        try dsimp only at h247
        refine GL.weak (env' := [(9, .int .i64 y22.1), (13, .int .i64 x62)]) (L' := []) (fun _ _ st => st) ?_
        refine GL.seq ?_
        refine GL.region ?_
        refine RL.mv rfl rfl rfl ?_
        refine RL.mv rfl rfl rfl ?_
        refine RL.binI (v := .bool (y22.1 == x62)) rfl rfl rfl rfl rfl ?_
        refine RL.asg rfl rfl rfl ?_
        refine RL.finG ?_
        have h247 := Option.some.inj h247
        subst h247
        exact GL.ret (Gx.ret (v := .bool (y22.1 == x62)) (res1 rfl rfl) (fun a w st => st.toPostV))
end Go.Wk
