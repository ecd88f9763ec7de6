/- Each function comes to what its model says; printed by a program of this repository. -/
import Derived.Test.YthhconilidaffaaProg
import Derived.Test.YthhconilidaffaaWTopMiddleModels
import Derived.Test.YthhconilidaffaaWTopMiddleWalks1
namespace Go.Wk
open Go.Fw Go.Mo Go.Proofs Go.RowKit
set_option linter.all false
set_option maxRecDepth 100000

set_option maxHeartbeats 4000000 in
theorem rules_best_c (S : Hp) (w : World) (hS : S.sub w) (v0 : Value) (x0 : (List Int)) (k0 : ((TR.sl TR.int)).vrep S v0 x0) (res : (List Int)) (hm : rules_best_m x0 = some res) : Calls Try.prog 59 #[v0] w (Post w S (fun (o : Value) => o) (fun (o : Value) => [own 3 TR.int o res])) := by
 refine calls_enter 45 Try.func59 Try.ntmps59 rfl S false [(0, v0)] [imm (TR.sl TR.int) v0 x0] rfl ⟨rfl, trivial⟩ hS ⟨k0, trivial⟩ ?_
 unfold rules_best_m at hm
 refine GL.seq ?_
 refine GL.region ?_
 refine RL.asg rfl rfl rfl ?_
 refine RL.finG ?_
 refine GL.seq ?_
 refine GL.region ?_
 refine RL.asg rfl rfl rfl ?_
 refine RL.finG ?_
 refine GL.seq ?_
 refine GL.seq ?_
 refine GL.region ?_
 refine RL.mv rfl rfl rfl ?_
 refine RL.lenS 0 Try.underlying22 rfl rfl rfl rfl SlOf.imm ?_
 refine RL.mv rfl rfl rfl ?_
 refine RL.finG ?_
 refine GL.weak (fun a w st => st.nilOwn 3 TR.int) ?_
 refine GL.open_ 0 rfl (fun S h => len_imm S h) (fun n81 => ?_)
 obtain ⟨y82, K83, h84, h85, h86, h87, h88⟩ := bindR_K hm
 refine GL.join (ι := (List Int) × Value) (fun (p : (List Int) × Value) => [(3, p.2)]) (fun (p : (List Int) × Value) => [own 3 TR.int p.2 p.1]) (fun (p : (List Int) × Value) => K83 (.nx p.1)) ?_ ?_
 ·refine GL.block ?_
  refine GL.loop (ι := Nat × (List Int) × (List Int) × Value) (fun (p : Nat × (List Int) × (List Int) × Value) => [(0, v0), (3, p.2.2.2), (6, v0), (7, .int .i64 ((x0).length : Int)), (8, .int .i64 (p.1 : Int))]) (fun (p : Nat × (List Int) × (List Int) × Value) => [imm (TR.sl TR.int) v0 x0, own 3 TR.int p.2.2.2 p.2.2.1]) (fun (p : Nat × (List Int) × (List Int) × Value) => p.1 + p.2.1.length = (x0).length ∧ List.drop p.1 x0 = p.2.1 ∧ rangeL (rules_best_b1 x0) p.2.1 p.1 p.2.2.1 = some y82) (fun (p : Nat × (List Int) × (List Int) × Value) => p.2.1.length) (0, x0, [], Value.slice none 0 0) ⟨by simp, by simp, h84⟩ (fun a w st => St.cut [0, 1] ⟨rfl, rfl, rfl, rfl, rfl, trivial⟩ (by decide) rfl st) ?_
  rintro ⟨i89, r90, l2, v3⟩ ⟨h95, h96, h94⟩
  try dsimp only at h95 h96 h94
  refine GL.weak (env' := [(0, v0), (3, v3), (6, v0), (7, .int .i64 ((x0).length : Int)), (8, .int .i64 (i89 : Int))]) (L' := [imm (TR.sl TR.int) v0 x0, own 3 TR.int v3 l2]) (fun _ _ st => st) ?_
  refine GL.seq ?_
  refine GL.region ?_
  refine RL.binI (v := .bool (decide ((i89 : Int) < ((x0).length : Int)))) rfl rfl rfl rfl rfl ?_
  refine RL.finG ?_
  refine GL.seq ?_
  refine GL.cond rfl (fun b97 => ?_) (fun b97 => ?_)
  ·have h98 : i89 < (x0).length := by have := of_decide_eq_true b97; omega
   obtain ⟨y99, r101, hr, e100, h102⟩ := drop_cons h96 rfl h98
   subst hr
   obtain ⟨z91, h92, h93⟩ := rangeL_some h94
   unfold rules_best_b1 at h92
   try dsimp only at h92
   refine GL.skip ?_
   refine GL.seq ?_
   refine GL.block ?_
   refine GL.seq ?_
   refine GL.region ?_
   refine RL.mv rfl rfl rfl ?_
   refine RL.idxS (sz := 1) 0 Try.underlying22 Try_ln3 rfl rfl rfl rfl rfl SlOf.imm (by omega) (by omega) ?_
   refine RL.ldSx (i := i89) (e' := y99) 0 Ex.ik Try_ln3 rfl rfl rfl rfl SlOf.imm e100 Part.self ?_
   refine RL.asg rfl rfl rfl ?_
   refine RL.asg rfl rfl rfl ?_
   refine RL.finG ?_
   refine GL.seq ?_
   refine GL.seq ?_
   obtain ⟨y114, K115, h116, h117, h118, h119, h120⟩ := bindF_K h92
   refine GL.join (ι := Bool) (fun (p : Bool) => [(0, v0), (3, v3), (4, .int .i64 (i89 : Int)), (5, .int .i64 y99), (6, v0), (7, .int .i64 ((x0).length : Int)), (8, .int .i64 (i89 : Int)), (25, .bool p)]) (fun (p : Bool) => [imm (TR.sl TR.int) v0 x0, own 3 TR.int v3 l2]) (fun (p : Bool) => K115 (.nx p)) ?_ ?_
   ·skip
    refine GL.region ?_
    refine RL.mv rfl rfl rfl ?_
    refine RL.lenS 1 Try.underlying22 rfl rfl rfl rfl SlOf.own ?_
    refine RL.binI (v := .bool (decide (((l2).length : Int) > (0 : Int)))) rfl rfl rfl rfl rfl ?_
    refine RL.mv rfl rfl rfl ?_
    refine RL.split (t := 16) rfl (fun b121 => ?_) (fun b121 => ?_)
    ·replace h116 := ite_t b121 h116
     refine RL.mv rfl rfl rfl ?_
     refine RL.mv rfl rfl rfl ?_
     refine RL.mv rfl rfl rfl ?_
     obtain ⟨y122, e123, h116⟩ := bind_some h116
     refine RL.idxS (sz := 1) 1 Try.underlying22 Try_ln3 rfl rfl rfl rfl rfl SlOf.own (idx_some e123).1 (idx_some e123).2.1 ?_
     refine RL.ldSx (i := ((0 : Int)).toNat) (e' := y122) 1 Ex.ik Try_ln3 rfl rfl rfl rfl SlOf.own (idx_some e123).2.2 Part.self ?_
     obtain ⟨y124, e125, h116⟩ := bind_some h116
     refine RL.idxS (sz := 1) 0 Try.underlying22 Try_ln3 rfl rfl rfl rfl rfl SlOf.imm (idx_some e125).1 (idx_some e125).2.1 ?_
     refine RL.ldSx (i := (y122).toNat) (e' := y124) 0 Ex.ik Try_ln3 rfl rfl rfl rfl SlOf.imm (idx_some e125).2.2 Part.self ?_
     refine RL.binI (v := .bool (decide (y99 > y124))) rfl rfl rfl rfl rfl ?_
     refine RL.pickT rfl rfl rfl rfl ?_
     refine RL.fin ?_
     cases h116
     exact fun a w st => mid_intro (decide (y99 > y124)) h117 (St.cut [0, 1] ⟨rfl, rfl, rfl, rfl, rfl, rfl, rfl, rfl, trivial⟩ (by decide) rfl st)
    replace h116 := ite_f b121 h116
    refine RL.skip rfl rfl ?_
    refine RL.skip rfl rfl ?_
    refine RL.skip rfl rfl ?_
    refine RL.skip rfl rfl ?_
    refine RL.skip rfl rfl ?_
    refine RL.skip rfl rfl ?_
    refine RL.skip rfl rfl ?_
    refine RL.skip rfl rfl ?_
    refine RL.pickF rfl rfl rfl rfl ?_
    refine RL.fin ?_
    cases h116
    exact fun a w st => mid_intro false h117 (St.cut [0, 1] ⟨rfl, rfl, rfl, rfl, rfl, rfl, rfl, rfl, trivial⟩ (by decide) rfl st)
   rintro x113 h126
   have h127 := h118 _ h126
   try dsimp only at h127
   refine GL.weak (env' := [(0, v0), (3, v3), (4, .int .i64 (i89 : Int)), (5, .int .i64 y99), (6, v0), (7, .int .i64 ((x0).length : Int)), (8, .int .i64 (i89 : Int)), (25, .bool x113)]) (L' := [imm (TR.sl TR.int) v0 x0, own 3 TR.int v3 l2]) (fun _ _ st => st) ?_
   obtain ⟨y132, K133, h134, h135, h136, h137, h138⟩ := bindF_K h127
   refine GL.join (ι := (List Int) × Value) (fun (p : (List Int) × Value) => [(0, v0), (3, p.2), (4, .int .i64 (i89 : Int)), (5, .int .i64 y99), (6, v0), (7, .int .i64 ((x0).length : Int)), (8, .int .i64 (i89 : Int))]) (fun (p : (List Int) × Value) => [imm (TR.sl TR.int) v0 x0, own 3 TR.int p.2 p.1]) (fun (p : (List Int) × Value) => K133 (.nx p.1)) ?_ ?_
   ·skip
    refine GL.cond rfl (fun b139 => ?_) (fun b139 => ?_)
    ·replace h134 := ite_t b139 h134
     refine GL.region ?_
     refine RL.asg rfl rfl rfl ?_
     refine RL.finG ?_
     refine GL.weak (fun a w st => st.nilOwn 3 TR.int) ?_
     cases h134
     exact fun a w st => mid_intro ([], Value.slice none 0 0) h135 (St.cut [0, 2] ⟨rfl, rfl, rfl, rfl, rfl, rfl, rfl, trivial⟩ (by decide) rfl st)
    replace h134 := ite_f b139 h134
    refine GL.skip ?_
    cases h134
    exact fun a w st => mid_intro (l2, v3) h135 (St.cut [0, 1] ⟨rfl, rfl, rfl, rfl, rfl, rfl, rfl, trivial⟩ (by decide) rfl st)
   rintro ⟨l130, v131⟩ h140
   have h141 := h136 _ h140
   try dsimp only at h141
   refine GL.weak (env' := [(0, v0), (3, v131), (4, .int .i64 (i89 : Int)), (5, .int .i64 y99), (6, v0), (7, .int .i64 ((x0).length : Int)), (8, .int .i64 (i89 : Int))]) (L' := [imm (TR.sl TR.int) v0 x0, own 3 TR.int v131 l130]) (fun _ _ st => st) ?_
   refine GL.seq ?_
   obtain ⟨y153, K154, h155, h156, h157, h158, h159⟩ := bindF_K h141
   refine GL.join (ι := Bool) (fun (p : Bool) => [(0, v0), (3, v131), (4, .int .i64 (i89 : Int)), (6, v0), (7, .int .i64 ((x0).length : Int)), (8, .int .i64 (i89 : Int)), (38, .bool p)]) (fun (p : Bool) => [imm (TR.sl TR.int) v0 x0, own 3 TR.int v131 l130]) (fun (p : Bool) => K154 (.nx p)) ?_ ?_
   ·skip
    refine GL.region ?_
    refine RL.mv rfl rfl rfl ?_
    refine RL.lenS 1 Try.underlying22 rfl rfl rfl rfl SlOf.own ?_
    refine RL.binI (v := .bool (((l130).length : Int) == (0 : Int))) rfl rfl rfl rfl rfl ?_
    refine RL.mv rfl rfl rfl ?_
    refine RL.split (t := 29) rfl (fun b160 => ?_) (fun b160 => ?_)
    ·replace h155 := ite_t b160 h155
     refine RL.skip rfl rfl ?_
     refine RL.skip rfl rfl ?_
     refine RL.skip rfl rfl ?_
     refine RL.skip rfl rfl ?_
     refine RL.skip rfl rfl ?_
     refine RL.skip rfl rfl ?_
     refine RL.skip rfl rfl ?_
     refine RL.skip rfl rfl ?_
     refine RL.pickT rfl rfl rfl rfl ?_
     refine RL.fin ?_
     cases h155
     exact fun a w st => mid_intro true h156 (St.cut [0, 1] ⟨rfl, rfl, rfl, rfl, rfl, rfl, rfl, trivial⟩ (by decide) rfl st)
    replace h155 := ite_f b160 h155
    refine RL.mv rfl rfl rfl ?_
    refine RL.mv rfl rfl rfl ?_
    refine RL.mv rfl rfl rfl ?_
    obtain ⟨y161, e162, h155⟩ := bind_some h155
    refine RL.idxS (sz := 1) 1 Try.underlying22 Try_ln3 rfl rfl rfl rfl rfl SlOf.own (idx_some e162).1 (idx_some e162).2.1 ?_
    refine RL.ldSx (i := ((0 : Int)).toNat) (e' := y161) 1 Ex.ik Try_ln3 rfl rfl rfl rfl SlOf.own (idx_some e162).2.2 Part.self ?_
    obtain ⟨y163, e164, h155⟩ := bind_some h155
    refine RL.idxS (sz := 1) 0 Try.underlying22 Try_ln3 rfl rfl rfl rfl rfl SlOf.imm (idx_some e164).1 (idx_some e164).2.1 ?_
    refine RL.ldSx (i := (y161).toNat) (e' := y163) 0 Ex.ik Try_ln3 rfl rfl rfl rfl SlOf.imm (idx_some e164).2.2 Part.self ?_
    refine RL.binI (v := .bool (y99 == y163)) rfl rfl rfl rfl rfl ?_
    refine RL.pickF rfl rfl rfl rfl ?_
    refine RL.fin ?_
    cases h155
    exact fun a w st => mid_intro (y99 == y163) h156 (St.cut [0, 1] ⟨rfl, rfl, rfl, rfl, rfl, rfl, rfl, trivial⟩ (by decide) rfl st)
   rintro x152 h165
   have h166 := h157 _ h165
   try dsimp only at h166
   refine GL.weak (env' := [(0, v0), (3, v131), (4, .int .i64 (i89 : Int)), (6, v0), (7, .int .i64 ((x0).length : Int)), (8, .int .i64 (i89 : Int)), (38, .bool x152)]) (L' := [imm (TR.sl TR.int) v0 x0, own 3 TR.int v131 l130]) (fun _ _ st => st) ?_
   refine GL.cond rfl (fun b167 => ?_) (fun b167 => ?_)
   ·replace h166 := ite_t b167 h166
    refine GL.region ?_
    refine RL.mv rfl rfl rfl ?_
    refine RL.mv rfl rfl rfl ?_
    refine RL.bS (t := TR.int) (vs := [.int .i64 (i89 : Int)]) ([(i89 : Int)] : (List Int)) Try.underlying22 Try_lo3 rfl rfl rfl rfl ⟨VR.int, trivial⟩ rfl (by decide) ?_
    intro v172
    obtain ⟨y173, e174, h166⟩ := bind_some h166
    replace e174 := chk_some e174
    refine RL.app 1 2 Try.underlying22 Try_lo3 rfl rfl rfl rfl rfl rfl rfl SlOf.own e174 ?_
    intro v175
    refine RL.reL (L' := [imm (TR.sl TR.int) v0 x0, own 3 TR.int v175 (l130 ++ ([(i89 : Int)] : (List Int))), own 3 TR.int v172 ([(i89 : Int)] : (List Int))]) rfl ?_
    refine RL.asg rfl rfl rfl ?_
    refine RL.finG ?_
    refine GL.nilB ?_
    refine GL.region ?_
    refine RL.binI (v := .int .i64 ((i89 + 1 : Nat) : Int)) rfl rfl rfl rfl (binI_succ i89 (by omega)) ?_
    refine RL.mv rfl rfl rfl ?_
    refine RL.fin ?_
    cases h166
    exact fun a w st => lop_intro (i89 + 1, r101, (l130 ++ ([(i89 : Int)] : (List Int))), v175) ⟨by show i89 + 1 + r101.length = (x0).length; simp only [List.length_cons] at h95; omega, h102, h93⟩ (by simp) (St.cut [0, 1] ⟨rfl, rfl, rfl, rfl, rfl, trivial⟩ (by decide) rfl st)
   replace h166 := ite_f b167 h166
   refine GL.skip ?_
   refine GL.nilB ?_
   refine GL.region ?_
   refine RL.binI (v := .int .i64 ((i89 + 1 : Nat) : Int)) rfl rfl rfl rfl (binI_succ i89 (by omega)) ?_
   refine RL.mv rfl rfl rfl ?_
   refine RL.fin ?_
   cases h166
   exact fun a w st => lop_intro (i89 + 1, r101, l130, v131) ⟨by show i89 + 1 + r101.length = (x0).length; simp only [List.length_cons] at h95; omega, h102, h93⟩ (by simp) (St.cut [0, 1] ⟨rfl, rfl, rfl, rfl, rfl, trivial⟩ (by decide) rfl st)
  have h98 : ¬ i89 < (x0).length := by have := of_decide_eq_false b97; omega
  obtain rfl : r90 = [] := by rw [← h96]; exact List.drop_of_length_le (by omega)
  replace h94 : some (Fl.nx _) = some y82 := h94
  cases h94
  exact GL.exit (fun a w st => mid_intro (l2, v3) h85 (St.cut [1] ⟨rfl, trivial⟩ (by decide) rfl st))
 rintro ⟨l2, v3⟩ h176
 have h177 := h86 _ h176
 try dsimp only at h177
 refine GL.weak (env' := [(3, v3)]) (L' := [own 3 TR.int v3 l2]) (fun _ _ st => st) ?_
 refine GL.seq ?_
 refine GL.region ?_
 refine RL.mv rfl rfl rfl ?_
 refine RL.asg rfl rfl rfl ?_
 refine RL.finG ?_
 have h177 := Option.some.inj h177
 subst h177
 exact GL.ret (Gx.ret (v := v3) (res1 rfl rfl) (fun a w st => (st.pick [0] (by decide) rfl).toPost v3))

set_option maxHeartbeats 4000000 in
theorem tally_Points_c (S : Hp) (w : World) (hS : S.sub w) (x0 : Int) (v1 : Value) (x1 : (List (List Int))) (k1 : ((TR.sl (TR.sl TR.int))).vrep S v1 x1) (res : (List Int) × Int) (hm : tally_Points_m x0 x1 = some res) : Calls Try.prog 55 #[.int .i64 x0, v1] w (Post w S (fun (o : Value) => .tuple #[o, .int .i64 res.2]) (fun (o : Value) => [own 3 TR.int o res.1])) := by
 refine calls_enter 46 Try.func55 Try.ntmps55 rfl S false [(0, .int .i64 x0), (1, v1)] [imm (TR.sl (TR.sl TR.int)) v1 x1] rfl ⟨rfl, ⟨rfl, trivial⟩⟩ hS ⟨k1, trivial⟩ ?_
 unfold tally_Points_m at hm
 refine GL.seq ?_
 refine GL.region ?_
 refine RL.asg rfl rfl rfl ?_
 refine RL.asg rfl rfl rfl ?_
 refine RL.finG ?_
 refine GL.seq ?_
 refine GL.seq ?_
 refine GL.region ?_
 refine RL.mv rfl rfl rfl ?_
 refine RL.mv rfl rfl rfl ?_
 obtain ⟨y5, e6, hm⟩ := bind_some hm
 refine RL.callV (v := .int .i64 y5) (vs := [.int .i64 x0, v1]) Try_fit51 rfl (Or.inl rfl) rfl rfl rfl rfl (fun U w hU hW hL => tally_Check_c U w hU x0 _ _ (hL 0 _ _ rfl Seen.imm) _ e6) ?_
 refine RL.asg rfl rfl rfl ?_
 refine RL.finG ?_
 refine GL.seq ?_
 refine GL.region ?_
 refine RL.mv rfl rfl rfl ?_
 refine RL.binI (v := .bool (y5 != (0 : Int))) rfl rfl rfl rfl rfl ?_
 refine RL.finG ?_
 refine GL.cond rfl (fun b7 => ?_) (fun b7 => ?_)
 ·replace hm := ite_t b7 hm
  refine GL.seq ?_
  refine GL.region ?_
  refine RL.mv rfl rfl rfl ?_
  refine RL.asg rfl rfl rfl ?_
  refine RL.asg rfl rfl rfl ?_
  refine RL.finG ?_
  refine GL.weak (fun a w st => st.nilOwn 3 TR.int) ?_
  have hm := Option.some.inj hm
  subst hm
  exact GL.ret (Gx.ret (v := .tuple #[Value.slice none 0 0, .int .i64 y5]) (res2 rfl rfl rfl) (fun a w st => (st.pick [1] (by decide) rfl).toPost (Value.slice none 0 0)))
 replace hm := ite_f b7 hm
 refine GL.skip ?_
 refine GL.seq ?_
 refine GL.region ?_
 refine RL.mv rfl rfl rfl ?_
 obtain ⟨y11, e12, hm⟩ := bind_some hm
 replace e12 := chk_some e12
 refine RL.mkS (t := TR.int) (z := (0 : Int)) Try.underlying22 Try_lo3 (fun S => rfl) rfl rfl rfl rfl e12.1 e12.2 ?_
 intro v13
 refine RL.asg rfl rfl rfl ?_
 refine RL.finG ?_
 refine GL.seq ?_
 refine GL.seq ?_
 refine GL.region ?_
 refine RL.mv rfl rfl rfl ?_
 refine RL.lenS 0 Try.underlying27 rfl rfl rfl rfl SlOf.imm ?_
 refine RL.mv rfl rfl rfl ?_
 refine RL.finG ?_
 refine GL.open_ 0 rfl (fun S h => len_imm S h) (fun n141 => ?_)
 obtain ⟨y142, K143, h144, h145, h146, h147, h148⟩ := bindR_K hm
 refine GL.join (ι := (List Int)) (fun (p : (List Int)) => [(7, v13)]) (fun (p : (List Int)) => [own 3 TR.int v13 p]) (fun (p : (List Int)) => K143 (.nx p)) ?_ ?_
 ·refine GL.block ?_
  refine GL.loop (ι := Nat × (List (List Int)) × (List Int)) (fun (p : Nat × (List (List Int)) × (List Int)) => [(0, .int .i64 x0), (7, v13), (20, v1), (21, .int .i64 ((x1).length : Int)), (22, .int .i64 (p.1 : Int))]) (fun (p : Nat × (List (List Int)) × (List Int)) => [own 3 TR.int v13 p.2.2, imm (TR.sl (TR.sl TR.int)) v1 x1]) (fun (p : Nat × (List (List Int)) × (List Int)) => p.1 + p.2.1.length = (x1).length ∧ List.drop p.1 x1 = p.2.1 ∧ rangeL (tally_Points_b1 x0) p.2.1 p.1 p.2.2 = some y142) (fun (p : Nat × (List (List Int)) × (List Int)) => p.2.1.length) (0, x1, (List.replicate (x0).toNat (0 : Int))) ⟨by simp, by simp, h144⟩ (fun a w st => St.cut [1, 0] ⟨rfl, rfl, rfl, rfl, rfl, trivial⟩ (by decide) rfl st) ?_
  rintro ⟨i149, r150, l77⟩ ⟨h155, h156, h154⟩
  try dsimp only at h155 h156 h154
  refine GL.weak (env' := [(0, .int .i64 x0), (7, v13), (20, v1), (21, .int .i64 ((x1).length : Int)), (22, .int .i64 (i149 : Int))]) (L' := [own 3 TR.int v13 l77, imm (TR.sl (TR.sl TR.int)) v1 x1]) (fun _ _ st => st) ?_
  refine GL.seq ?_
  refine GL.region ?_
  refine RL.binI (v := .bool (decide ((i149 : Int) < ((x1).length : Int)))) rfl rfl rfl rfl rfl ?_
  refine RL.finG ?_
  refine GL.seq ?_
  refine GL.cond rfl (fun b157 => ?_) (fun b157 => ?_)
  ·have h158 : i149 < (x1).length := by have := of_decide_eq_true b157; omega
   obtain ⟨y159, r161, hr, e160, h162⟩ := drop_cons h156 rfl h158
   subst hr
   obtain ⟨z151, h152, h153⟩ := rangeL_some h154
   unfold tally_Points_b1 at h152
   try dsimp only at h152
   refine GL.skip ?_
   refine GL.seq ?_
   refine GL.block ?_
   refine GL.seq ?_
   refine GL.region ?_
   refine RL.idxS (sz := 1) 1 Try.underlying27 Try_ln22 rfl rfl rfl rfl rfl SlOf.imm (by omega) (by omega) ?_
   refine RL.ldS (i := i149) (r := (TR.sl TR.int)) (e' := y159) 1 Try_ln22 rfl rfl rfl rfl SlOf.imm e160 Part.self ?_
   intro v164
   refine RL.asg rfl rfl rfl ?_
   refine RL.finG ?_
   refine GL.seq ?_
   refine GL.region ?_
   refine RL.mv rfl rfl rfl ?_
   refine RL.lenS 2 Try.underlying22 rfl rfl rfl rfl SlOf.imm ?_
   refine RL.mv rfl rfl rfl ?_
   refine RL.finG ?_
   refine GL.open_ 2 rfl (fun S h => len_imm S h) (fun n190 => ?_)
   obtain ⟨y191, K192, h193, h194, h195, h196, h197⟩ := bindF_K h152
   refine GL.join (ι := (List Int)) (fun (p : (List Int)) => [(0, .int .i64 x0), (7, v13), (20, v1), (21, .int .i64 ((x1).length : Int)), (22, .int .i64 (i149 : Int))]) (fun (p : (List Int)) => [own 3 TR.int v13 p, imm (TR.sl (TR.sl TR.int)) v1 x1]) (fun (p : (List Int)) => K192 (.nx p)) ?_ ?_
   ·refine GL.block ?_
    refine GL.loop (ι := Nat × (List Int) × (List Int)) (fun (p : Nat × (List Int) × (List Int)) => [(0, .int .i64 x0), (7, v13), (20, v1), (21, .int .i64 ((x1).length : Int)), (22, .int .i64 (i149 : Int)), (26, v164), (27, .int .i64 ((y159).length : Int)), (28, .int .i64 (p.1 : Int))]) (fun (p : Nat × (List Int) × (List Int)) => [own 3 TR.int v13 p.2.2, imm (TR.sl (TR.sl TR.int)) v1 x1, imm (TR.sl TR.int) v164 y159]) (fun (p : Nat × (List Int) × (List Int)) => p.1 + p.2.1.length = (y159).length ∧ List.drop p.1 y159 = p.2.1 ∧ rangeL (tally_Points_b2 x0) p.2.1 p.1 p.2.2 = some y191) (fun (p : Nat × (List Int) × (List Int)) => p.2.1.length) (0, y159, l77) ⟨by simp, by simp, h193⟩ (fun a w st => St.cut [0, 1, 2] ⟨rfl, rfl, rfl, rfl, rfl, rfl, rfl, rfl, trivial⟩ (by decide) rfl st) ?_
    rintro ⟨i198, r199, l177⟩ ⟨h204, h205, h203⟩
    try dsimp only at h204 h205 h203
    refine GL.weak (env' := [(0, .int .i64 x0), (7, v13), (20, v1), (21, .int .i64 ((x1).length : Int)), (22, .int .i64 (i149 : Int)), (26, v164), (27, .int .i64 ((y159).length : Int)), (28, .int .i64 (i198 : Int))]) (L' := [own 3 TR.int v13 l177, imm (TR.sl (TR.sl TR.int)) v1 x1, imm (TR.sl TR.int) v164 y159]) (fun _ _ st => st) ?_
    refine GL.seq ?_
    refine GL.region ?_
    refine RL.binI (v := .bool (decide ((i198 : Int) < ((y159).length : Int)))) rfl rfl rfl rfl rfl ?_
    refine RL.finG ?_
    refine GL.seq ?_
    refine GL.cond rfl (fun b206 => ?_) (fun b206 => ?_)
    ·have h207 : i198 < (y159).length := by have := of_decide_eq_true b206; omega
     obtain ⟨y208, r210, hr, e209, h211⟩ := drop_cons h205 rfl h207
     subst hr
     obtain ⟨z200, h201, h202⟩ := rangeL_some h203
     unfold tally_Points_b2 at h201
     try dsimp only at h201
     refine GL.skip ?_
     refine GL.seq ?_
     refine GL.block ?_
     refine GL.seq ?_
     refine GL.region ?_
     refine RL.mv rfl rfl rfl ?_
     refine RL.idxS (sz := 1) 2 Try.underlying22 Try_ln3 rfl rfl rfl rfl rfl SlOf.imm (by omega) (by omega) ?_
     refine RL.ldSx (i := i198) (e' := y208) 2 Ex.ik Try_ln3 rfl rfl rfl rfl SlOf.imm e209 Part.self ?_
     refine RL.asg rfl rfl rfl ?_
     refine RL.asg rfl rfl rfl ?_
     refine RL.finG ?_
     refine GL.region ?_
     refine RL.mv rfl rfl rfl ?_
     refine RL.mv rfl rfl rfl ?_
     obtain ⟨y216, e217, h201⟩ := bind_some h201
     refine RL.idxS (sz := 1) 0 Try.underlying22 Try_ln3 rfl rfl rfl rfl rfl SlOf.own (idx_some e217).1 (idx_some e217).2.1 ?_
     refine RL.ldSx (i := (y208).toNat) (e' := y216) 0 Ex.ik Try_ln3 rfl rfl rfl rfl SlOf.own (idx_some e217).2.2 Part.self ?_
     refine RL.mv rfl rfl rfl ?_
     refine RL.binI (v := .int .i64 (wsub x0 (1 : Int))) rfl rfl rfl rfl rfl ?_
     refine RL.mv rfl rfl rfl ?_
     refine RL.binI (v := .int .i64 (wsub (wsub x0 (1 : Int)) (i198 : Int))) rfl rfl rfl rfl rfl ?_
     refine RL.binI (v := .int .i64 (wadd y216 (wsub (wsub x0 (1 : Int)) (i198 : Int)))) rfl rfl rfl rfl rfl ?_
     obtain ⟨y218, e219, h201⟩ := bind_some h201
     refine RL.idxS (sz := 1) 0 Try.underlying22 Try_ln3 rfl rfl rfl rfl rfl SlOf.own (idx_some e219).1 (idx_some e219).2.1 ?_
     refine RL.stS (i := (y208).toNat) (e' := wadd y216 (wsub (wsub x0 (1 : Int)) (i198 : Int))) (e1 := wadd y216 (wsub (wsub x0 (1 : Int)) (i198 : Int))) (r := TR.int) 0 Try_ln3 rfl rfl rfl rfl VR.int rfl (idx_some e219).2.2 Upd.self ?_
     refine RL.finG ?_
     refine GL.nilB ?_
     refine GL.region ?_
     refine RL.binI (v := .int .i64 ((i198 + 1 : Nat) : Int)) rfl rfl rfl rfl (binI_succ i198 (by omega)) ?_
     refine RL.mv rfl rfl rfl ?_
     refine RL.fin ?_
     cases h201
     exact fun a w st => lop_intro (i198 + 1, r210, (List.set l177 ((y208).toNat) (wadd y216 (wsub (wsub x0 (1 : Int)) (i198 : Int))))) ⟨by show i198 + 1 + r210.length = (y159).length; simp only [List.length_cons] at h204; omega, h211, h202⟩ (by simp) (St.cut [0, 1, 2] ⟨rfl, rfl, rfl, rfl, rfl, rfl, rfl, rfl, trivial⟩ (by decide) rfl st)
    have h207 : ¬ i198 < (y159).length := by have := of_decide_eq_false b206; omega
    obtain rfl : r199 = [] := by rw [← h205]; exact List.drop_of_length_le (by omega)
    replace h203 : some (Fl.nx _) = some y191 := h203
    cases h203
    exact GL.exit (fun a w st => mid_intro l177 h194 (St.cut [0, 1] ⟨rfl, rfl, rfl, rfl, rfl, trivial⟩ (by decide) rfl st))
   rintro l177 h220
   have h221 := h195 _ h220
   try dsimp only at h221
   refine GL.weak (env' := [(0, .int .i64 x0), (7, v13), (20, v1), (21, .int .i64 ((x1).length : Int)), (22, .int .i64 (i149 : Int))]) (L' := [own 3 TR.int v13 l177, imm (TR.sl (TR.sl TR.int)) v1 x1]) (fun _ _ st => st) ?_
   refine GL.nilB ?_
   refine GL.region ?_
   refine RL.binI (v := .int .i64 ((i149 + 1 : Nat) : Int)) rfl rfl rfl rfl (binI_succ i149 (by omega)) ?_
   refine RL.mv rfl rfl rfl ?_
   refine RL.fin ?_
   cases h221
   exact fun a w st => lop_intro (i149 + 1, r161, l177) ⟨by show i149 + 1 + r161.length = (x1).length; simp only [List.length_cons] at h155; omega, h162, h153⟩ (by simp) (St.cut [0, 1] ⟨rfl, rfl, rfl, rfl, rfl, trivial⟩ (by decide) rfl st)
  have h158 : ¬ i149 < (x1).length := by have := of_decide_eq_false b157; omega
  obtain rfl : r150 = [] := by rw [← h156]; exact List.drop_of_length_le (by omega)
  replace h154 : some (Fl.nx _) = some y142 := h154
  cases h154
  exact GL.exit (fun a w st => mid_intro l77 h145 (St.cut [0] ⟨rfl, trivial⟩ (by decide) rfl st))
 rintro l77 h222
 have h223 := h146 _ h222
 try dsimp only at h223
 refine GL.weak (env' := [(7, v13)]) (L' := [own 3 TR.int v13 l77]) (fun _ _ st => st) ?_
 refine GL.seq ?_
 refine GL.region ?_
 refine RL.mv rfl rfl rfl ?_
 refine RL.asg rfl rfl rfl ?_
 refine RL.asg rfl rfl rfl ?_
 refine RL.finG ?_
 have h223 := Option.some.inj h223
 subst h223
 exact GL.ret (Gx.ret (v := .tuple #[v13, .int .i64 (0 : Int)]) (res2 rfl rfl rfl) (fun a w st => (st.pick [0] (by decide) rfl).toPost v13))

set_option maxHeartbeats 4000000 in
theorem duel_Wins_c (S : Hp) (w : World) (hS : S.sub w) (v0 : Value) (x0 : (List (List Int))) (k0 : ((TR.sl (TR.sl TR.int))).vrep S v0 x0) (res : (List Int) × Int) (hm : duel_Wins_m x0 = some res) : Calls Try.prog 56 #[v0] w (Post w S (fun (o : Value) => .tuple #[o, .int .i64 res.2]) (fun (o : Value) => [own 3 TR.int o res.1])) := by
 refine calls_enter 73 Try.func56 Try.ntmps56 rfl S false [(0, v0)] [imm (TR.sl (TR.sl TR.int)) v0 x0] rfl ⟨rfl, trivial⟩ hS ⟨k0, trivial⟩ ?_
 unfold duel_Wins_m at hm
 refine GL.seq ?_
 refine GL.region ?_
 refine RL.asg rfl rfl rfl ?_
 refine RL.asg rfl rfl rfl ?_
 refine RL.finG ?_
 refine GL.seq ?_
 refine GL.seq ?_
 refine GL.region ?_
 refine RL.mv rfl rfl rfl ?_
 obtain ⟨y4, e5, hm⟩ := bind_some hm
 refine RL.callC (v := .int .i64 y4) (vs := [v0]) Try_fit53 rfl rfl rfl rfl (fun U w hU hW hL => duel_Check_c U w hU _ _ (hL 0 _ _ rfl Seen.imm) _ e5) ?_
 refine RL.asg rfl rfl rfl ?_
 refine RL.finG ?_
 refine GL.seq ?_
 refine GL.region ?_
 refine RL.mv rfl rfl rfl ?_
 refine RL.binI (v := .bool (y4 != (0 : Int))) rfl rfl rfl rfl rfl ?_
 refine RL.finG ?_
 refine GL.cond rfl (fun b6 => ?_) (fun b6 => ?_)
 ·replace hm := ite_t b6 hm
  refine GL.seq ?_
  refine GL.region ?_
  refine RL.mv rfl rfl rfl ?_
  refine RL.asg rfl rfl rfl ?_
  refine RL.asg rfl rfl rfl ?_
  refine RL.finG ?_
  refine GL.weak (fun a w st => st.nilOwn 3 TR.int) ?_
  have hm := Option.some.inj hm
  subst hm
  exact GL.ret (Gx.ret (v := .tuple #[Value.slice none 0 0, .int .i64 y4]) (res2 rfl rfl rfl) (fun a w st => (st.pick [1] (by decide) rfl).toPost (Value.slice none 0 0)))
 replace hm := ite_f b6 hm
 refine GL.skip ?_
 refine GL.seq ?_
 refine GL.region ?_
 refine RL.mv rfl rfl rfl ?_
 refine RL.lenS 0 Try.underlying27 rfl rfl rfl rfl SlOf.imm ?_
 obtain ⟨y10, e11, hm⟩ := bind_some hm
 replace e11 := chk_some e11
 refine RL.mkS (t := TR.int) (z := (0 : Int)) Try.underlying22 Try_lo3 (fun S => rfl) rfl rfl rfl rfl e11.1 e11.2 ?_
 intro v12
 refine RL.asg rfl rfl rfl ?_
 refine RL.finG ?_
 refine GL.seq ?_
 refine GL.seq ?_
 refine GL.region ?_
 refine RL.mv rfl rfl rfl ?_
 refine RL.lenS 0 Try.underlying27 rfl rfl rfl rfl SlOf.imm ?_
 refine RL.mv rfl rfl rfl ?_
 refine RL.finG ?_
 refine GL.open_ 0 rfl (fun S h => len_imm S h) (fun n396 => ?_)
 obtain ⟨y397, K398, h399, h400, h401, h402, h403⟩ := bindR_K hm
 refine GL.join (ι := (List Int)) (fun (p : (List Int)) => [(5, v12)]) (fun (p : (List Int)) => [own 3 TR.int v12 p]) (fun (p : (List Int)) => K398 (.nx p)) ?_ ?_
 ·refine GL.block ?_
  refine GL.loop (ι := Nat × (List (List Int)) × (List Int)) (fun (p : Nat × (List (List Int)) × (List Int)) => [(0, v0), (5, v12), (17, .int .i64 ((x0).length : Int)), (18, .int .i64 (p.1 : Int))]) (fun (p : Nat × (List (List Int)) × (List Int)) => [imm (TR.sl (TR.sl TR.int)) v0 x0, own 3 TR.int v12 p.2.2]) (fun (p : Nat × (List (List Int)) × (List Int)) => p.1 + p.2.1.length = (x0).length ∧ List.drop p.1 x0 = p.2.1 ∧ rangeL (duel_Wins_b1 x0) p.2.1 p.1 p.2.2 = some y397) (fun (p : Nat × (List (List Int)) × (List Int)) => p.2.1.length) (0, x0, (List.replicate (((x0).length : Int)).toNat (0 : Int))) ⟨by simp, by simp, h399⟩ (fun a w st => St.cut [0, 1] ⟨rfl, rfl, rfl, rfl, trivial⟩ (by decide) rfl st) ?_
  rintro ⟨i404, r405, l204⟩ ⟨h410, h411, h409⟩
  try dsimp only at h410 h411 h409
  refine GL.weak (env' := [(0, v0), (5, v12), (17, .int .i64 ((x0).length : Int)), (18, .int .i64 (i404 : Int))]) (L' := [imm (TR.sl (TR.sl TR.int)) v0 x0, own 3 TR.int v12 l204]) (fun _ _ st => st) ?_
  refine GL.seq ?_
  refine GL.region ?_
  refine RL.binI (v := .bool (decide ((i404 : Int) < ((x0).length : Int)))) rfl rfl rfl rfl rfl ?_
  refine RL.finG ?_
  refine GL.seq ?_
  refine GL.cond rfl (fun b412 => ?_) (fun b412 => ?_)
  ·have h413 : i404 < (x0).length := by have := of_decide_eq_true b412; omega
   obtain ⟨y414, r416, hr, e415, h417⟩ := drop_cons h411 rfl h413
   subst hr
   obtain ⟨z406, h407, h408⟩ := rangeL_some h409
   unfold duel_Wins_b1 at h407
   try dsimp only at h407
   refine GL.skip ?_
   refine GL.seq ?_
   refine GL.block ?_
   refine GL.seq ?_
   refine GL.region ?_
   refine RL.mv rfl rfl rfl ?_
   refine RL.asg rfl rfl rfl ?_
   refine RL.finG ?_
   refine GL.seq ?_
   refine GL.region ?_
   refine RL.mv rfl rfl rfl ?_
   refine RL.lenS 0 Try.underlying27 rfl rfl rfl rfl SlOf.imm ?_
   refine RL.mv rfl rfl rfl ?_
   refine RL.finG ?_
   refine GL.open_ 0 rfl (fun S h => len_imm S h) (fun n519 => ?_)
   obtain ⟨y520, K521, h522, h523, h524, h525, h526⟩ := bindF_K h407
   refine GL.join (ι := (List Int)) (fun (p : (List Int)) => [(0, v0), (5, v12), (17, .int .i64 ((x0).length : Int)), (18, .int .i64 (i404 : Int))]) (fun (p : (List Int)) => [imm (TR.sl (TR.sl TR.int)) v0 x0, own 3 TR.int v12 p]) (fun (p : (List Int)) => K521 (.nx p)) ?_ ?_
   ·refine GL.block ?_
    refine GL.loop (ι := Nat × (List (List Int)) × (List Int)) (fun (p : Nat × (List (List Int)) × (List Int)) => [(0, v0), (5, v12), (6, .int .i64 (i404 : Int)), (17, .int .i64 ((x0).length : Int)), (18, .int .i64 (i404 : Int)), (22, .int .i64 ((x0).length : Int)), (23, .int .i64 (p.1 : Int))]) (fun (p : Nat × (List (List Int)) × (List Int)) => [imm (TR.sl (TR.sl TR.int)) v0 x0, own 3 TR.int v12 p.2.2]) (fun (p : Nat × (List (List Int)) × (List Int)) => p.1 + p.2.1.length = (x0).length ∧ List.drop p.1 x0 = p.2.1 ∧ rangeL (duel_Wins_b2 y414 i404) p.2.1 p.1 p.2.2 = some y520) (fun (p : Nat × (List (List Int)) × (List Int)) => p.2.1.length) (0, x0, l204) ⟨by simp, by simp, h522⟩ (fun a w st => St.cut [0, 1] ⟨rfl, rfl, rfl, rfl, rfl, rfl, rfl, trivial⟩ (by decide) rfl st) ?_
    rintro ⟨i527, r528, l468⟩ ⟨h533, h534, h532⟩
    try dsimp only at h533 h534 h532
    refine GL.weak (env' := [(0, v0), (5, v12), (6, .int .i64 (i404 : Int)), (17, .int .i64 ((x0).length : Int)), (18, .int .i64 (i404 : Int)), (22, .int .i64 ((x0).length : Int)), (23, .int .i64 (i527 : Int))]) (L' := [imm (TR.sl (TR.sl TR.int)) v0 x0, own 3 TR.int v12 l468]) (fun _ _ st => st) ?_
    refine GL.seq ?_
    refine GL.region ?_
    refine RL.binI (v := .bool (decide ((i527 : Int) < ((x0).length : Int)))) rfl rfl rfl rfl rfl ?_
    refine RL.finG ?_
    refine GL.seq ?_
    refine GL.cond rfl (fun b535 => ?_) (fun b535 => ?_)
    ·have h536 : i527 < (x0).length := by have := of_decide_eq_true b535; omega
     obtain ⟨y537, r539, hr, e538, h540⟩ := drop_cons h534 rfl h536
     subst hr
     obtain ⟨z529, h530, h531⟩ := rangeL_some h532
     unfold duel_Wins_b2 at h530
     try dsimp only at h530
     refine GL.skip ?_
     refine GL.seq ?_
     refine GL.block ?_
     refine GL.seq ?_
     refine GL.region ?_
     refine RL.mv rfl rfl rfl ?_
     refine RL.asg rfl rfl rfl ?_
     refine RL.finG ?_
     refine GL.block ?_
     refine GL.seq ?_
     refine GL.regionQ rfl rfl (by kernel_rfl) ?_
     refine RL.mv rfl rfl rfl ?_
     refine RL.mv rfl rfl rfl ?_
     refine RL.idxS (sz := 1) 0 Try.underlying27 Try_ln22 rfl rfl rfl rfl rfl SlOf.imm (by omega) (by omega) ?_
     refine RL.ldS (i := i404) (r := (TR.sl TR.int)) (e' := y414) 0 Try_ln22 rfl rfl rfl rfl SlOf.imm e415 Part.self ?_
     intro v547
     refine RL.mv rfl rfl rfl ?_
     obtain ⟨y548, e549, h530⟩ := bind_some h530
     refine RL.idxS (sz := 1) 2 Try.underlying22 Try_ln3 rfl rfl rfl rfl rfl SlOf.imm (idx_some e549).1 (idx_some e549).2.1 ?_
     refine RL.ldSx (i := i527) (e' := y548) 2 Ex.ik Try_ln3 rfl rfl rfl rfl SlOf.imm (idx_some e549).2.2 Part.self ?_
     refine RL.mv rfl rfl rfl ?_
     refine RL.mv rfl rfl rfl ?_
     refine RL.idxS (sz := 1) 0 Try.underlying27 Try_ln22 rfl rfl rfl rfl rfl SlOf.imm (by omega) (by omega) ?_
     refine RL.ldS (i := i527) (r := (TR.sl TR.int)) (e' := y537) 0 Try_ln22 rfl rfl rfl rfl SlOf.imm e538 Part.self ?_
     intro v550
     refine RL.reL (L' := [imm (TR.sl (TR.sl TR.int)) v0 x0, own 3 TR.int v12 l468, imm (TR.sl TR.int) v547 y414, imm (TR.sl TR.int) v550 y537]) rfl ?_
     refine RL.mv rfl rfl rfl ?_
     obtain ⟨y551, e552, h530⟩ := bind_some h530
     refine RL.idxS (sz := 1) 3 Try.underlying22 Try_ln3 rfl rfl rfl rfl rfl SlOf.imm (idx_some e552).1 (idx_some e552).2.1 ?_
     refine RL.ldSx (i := i404) (e' := y551) 3 Ex.ik Try_ln3 rfl rfl rfl rfl SlOf.imm (idx_some e552).2.2 Part.self ?_
     refine RL.binI (v := .bool (decide (y548 > y551))) rfl rfl rfl rfl rfl ?_
     refine RL.asg rfl rfl rfl ?_
     refine RL.finQG ?_
     refine GL.cond rfl (fun b553 => ?_) (fun b553 => ?_)
     ·replace h530 := ite_t b553 h530
      refine GL.region ?_
      refine RL.mv rfl rfl rfl ?_
      refine RL.mv rfl rfl rfl ?_
      obtain ⟨y558, e559, h530⟩ := bind_some h530
      refine RL.idxS (sz := 1) 1 Try.underlying22 Try_ln3 rfl rfl rfl rfl rfl SlOf.own (idx_some e559).1 (idx_some e559).2.1 ?_
      refine RL.ldSx (i := i404) (e' := y558) 1 Ex.ik Try_ln3 rfl rfl rfl rfl SlOf.own (idx_some e559).2.2 Part.self ?_
      refine RL.binI (v := .int .i64 (wadd y558 (1 : Int))) rfl rfl rfl rfl rfl ?_
      obtain ⟨y560, e561, h530⟩ := bind_some h530
      refine RL.idxS (sz := 1) 1 Try.underlying22 Try_ln3 rfl rfl rfl rfl rfl SlOf.own (idx_some e561).1 (idx_some e561).2.1 ?_
      refine RL.stS (i := i404) (e' := wadd y558 (1 : Int)) (e1 := wadd y558 (1 : Int)) (r := TR.int) 1 Try_ln3 rfl rfl rfl rfl VR.int rfl (idx_some e561).2.2 Upd.self ?_
      refine RL.finG ?_
      refine GL.nilB ?_
      refine GL.nilB ?_
      refine GL.region ?_
      refine RL.binI (v := .int .i64 ((i527 + 1 : Nat) : Int)) rfl rfl rfl rfl (binI_succ i527 (by omega)) ?_
      refine RL.mv rfl rfl rfl ?_
      refine RL.fin ?_
      cases h530
      exact fun a w st => lop_intro (i527 + 1, r539, (List.set l468 i404 (wadd y558 (1 : Int)))) ⟨by show i527 + 1 + r539.length = (x0).length; simp only [List.length_cons] at h533; omega, h540, h531⟩ (by simp) (St.cut [0, 1] ⟨rfl, rfl, rfl, rfl, rfl, rfl, rfl, trivial⟩ (by decide) rfl st)
     replace h530 := ite_f b553 h530
     refine GL.seq ?_
     refine GL.regionQ rfl rfl (by kernel_rfl) ?_
     refine RL.mv rfl rfl rfl ?_
     refine RL.mv rfl rfl rfl ?_
     refine RL.idxS (sz := 1) 0 Try.underlying27 Try_ln22 rfl rfl rfl rfl rfl SlOf.imm (by omega) (by omega) ?_
     refine RL.ldS (i := i404) (r := (TR.sl TR.int)) (e' := y414) 0 Try_ln22 rfl rfl rfl rfl SlOf.imm e415 Part.self ?_
     intro v568
     refine RL.mv rfl rfl rfl ?_
     obtain ⟨y569, e570, h530⟩ := bind_some h530
     refine RL.idxS (sz := 1) 4 Try.underlying22 Try_ln3 rfl rfl rfl rfl rfl SlOf.imm (idx_some e570).1 (idx_some e570).2.1 ?_
     refine RL.ldSx (i := i527) (e' := y569) 4 Ex.ik Try_ln3 rfl rfl rfl rfl SlOf.imm (idx_some e570).2.2 Part.self ?_
     refine RL.mv rfl rfl rfl ?_
     refine RL.mv rfl rfl rfl ?_
     refine RL.idxS (sz := 1) 0 Try.underlying27 Try_ln22 rfl rfl rfl rfl rfl SlOf.imm (by omega) (by omega) ?_
     refine RL.ldS (i := i527) (r := (TR.sl TR.int)) (e' := y537) 0 Try_ln22 rfl rfl rfl rfl SlOf.imm e538 Part.self ?_
     intro v571
     refine RL.reL (L' := [imm (TR.sl (TR.sl TR.int)) v0 x0, own 3 TR.int v12 l468, imm (TR.sl TR.int) v547 y414, imm (TR.sl TR.int) v550 y537, imm (TR.sl TR.int) v568 y414, imm (TR.sl TR.int) v571 y537]) rfl ?_
     refine RL.mv rfl rfl rfl ?_
     obtain ⟨y572, e573, h530⟩ := bind_some h530
     refine RL.idxS (sz := 1) 5 Try.underlying22 Try_ln3 rfl rfl rfl rfl rfl SlOf.imm (idx_some e573).1 (idx_some e573).2.1 ?_
     refine RL.ldSx (i := i404) (e' := y572) 5 Ex.ik Try_ln3 rfl rfl rfl rfl SlOf.imm (idx_some e573).2.2 Part.self ?_
     refine RL.binI (v := .bool (decide (y569 < y572))) rfl rfl rfl rfl rfl ?_
     refine RL.asg rfl rfl rfl ?_
     refine RL.finQG ?_
     refine GL.cond rfl (fun b574 => ?_) (fun b574 => ?_)
     ·replace h530 := ite_t b574 h530
      refine GL.region ?_
      refine RL.mv rfl rfl rfl ?_
      refine RL.mv rfl rfl rfl ?_
      obtain ⟨y579, e580, h530⟩ := bind_some h530
      refine RL.idxS (sz := 1) 1 Try.underlying22 Try_ln3 rfl rfl rfl rfl rfl SlOf.own (idx_some e580).1 (idx_some e580).2.1 ?_
      refine RL.ldSx (i := i404) (e' := y579) 1 Ex.ik Try_ln3 rfl rfl rfl rfl SlOf.own (idx_some e580).2.2 Part.self ?_
      refine RL.binI (v := .int .i64 (wsub y579 (1 : Int))) rfl rfl rfl rfl rfl ?_
      obtain ⟨y581, e582, h530⟩ := bind_some h530
      refine RL.idxS (sz := 1) 1 Try.underlying22 Try_ln3 rfl rfl rfl rfl rfl SlOf.own (idx_some e582).1 (idx_some e582).2.1 ?_
      refine RL.stS (i := i404) (e' := wsub y579 (1 : Int)) (e1 := wsub y579 (1 : Int)) (r := TR.int) 1 Try_ln3 rfl rfl rfl rfl VR.int rfl (idx_some e582).2.2 Upd.self ?_
      refine RL.finG ?_
      refine GL.nilB ?_
      refine GL.nilB ?_
      refine GL.region ?_
      refine RL.binI (v := .int .i64 ((i527 + 1 : Nat) : Int)) rfl rfl rfl rfl (binI_succ i527 (by omega)) ?_
      refine RL.mv rfl rfl rfl ?_
      refine RL.fin ?_
      cases h530
      exact fun a w st => lop_intro (i527 + 1, r539, (List.set l468 i404 (wsub y579 (1 : Int)))) ⟨by show i527 + 1 + r539.length = (x0).length; simp only [List.length_cons] at h533; omega, h540, h531⟩ (by simp) (St.cut [0, 1] ⟨rfl, rfl, rfl, rfl, rfl, rfl, rfl, trivial⟩ (by decide) rfl st)
     replace h530 := ite_f b574 h530
     refine GL.skip ?_
     refine GL.nilB ?_
     refine GL.nilB ?_
     refine GL.region ?_
     refine RL.binI (v := .int .i64 ((i527 + 1 : Nat) : Int)) rfl rfl rfl rfl (binI_succ i527 (by omega)) ?_
     refine RL.mv rfl rfl rfl ?_
     refine RL.fin ?_
     cases h530
     exact fun a w st => lop_intro (i527 + 1, r539, l468) ⟨by show i527 + 1 + r539.length = (x0).length; simp only [List.length_cons] at h533; omega, h540, h531⟩ (by simp) (St.cut [0, 1] ⟨rfl, rfl, rfl, rfl, rfl, rfl, rfl, trivial⟩ (by decide) rfl st)
    have h536 : ¬ i527 < (x0).length := by have := of_decide_eq_false b535; omega
    obtain rfl : r528 = [] := by rw [← h534]; exact List.drop_of_length_le (by omega)
    replace h532 : some (Fl.nx _) = some y520 := h532
    cases h532
    exact GL.exit (fun a w st => mid_intro l468 h523 (St.cut [0, 1] ⟨rfl, rfl, rfl, rfl, trivial⟩ (by decide) rfl st))
   rintro l468 h583
   have h584 := h524 _ h583
   try dsimp only at h584
   refine GL.weak (env' := [(0, v0), (5, v12), (17, .int .i64 ((x0).length : Int)), (18, .int .i64 (i404 : Int))]) (L' := [imm (TR.sl (TR.sl TR.int)) v0 x0, own 3 TR.int v12 l468]) (fun _ _ st => st) ?_
   refine GL.nilB ?_
   refine GL.region ?_
   refine RL.binI (v := .int .i64 ((i404 + 1 : Nat) : Int)) rfl rfl rfl rfl (binI_succ i404 (by omega)) ?_
   refine RL.mv rfl rfl rfl ?_
   refine RL.fin ?_
   cases h584
   exact fun a w st => lop_intro (i404 + 1, r416, l468) ⟨by show i404 + 1 + r416.length = (x0).length; simp only [List.length_cons] at h410; omega, h417, h408⟩ (by simp) (St.cut [0, 1] ⟨rfl, rfl, rfl, rfl, trivial⟩ (by decide) rfl st)
  have h413 : ¬ i404 < (x0).length := by have := of_decide_eq_false b412; omega
  obtain rfl : r405 = [] := by rw [← h411]; exact List.drop_of_length_le (by omega)
  replace h409 : some (Fl.nx _) = some y397 := h409
  cases h409
  exact GL.exit (fun a w st => mid_intro l204 h400 (St.cut [1] ⟨rfl, trivial⟩ (by decide) rfl st))
 rintro l204 h585
 have h586 := h401 _ h585
 try dsimp only at h586
 refine GL.weak (env' := [(5, v12)]) (L' := [own 3 TR.int v12 l204]) (fun _ _ st => st) ?_
 refine GL.seq ?_
 refine GL.region ?_
 refine RL.mv rfl rfl rfl ?_
 refine RL.asg rfl rfl rfl ?_
 refine RL.asg rfl rfl rfl ?_
 refine RL.finG ?_
 have h586 := Option.some.inj h586
 subst h586
 exact GL.ret (Gx.ret (v := .tuple #[v12, .int .i64 (0 : Int)]) (res2 rfl rfl rfl) (fun a w st => (st.pick [0] (by decide) rfl).toPost v12))

set_option maxHeartbeats 4000000 in
theorem duel_Worst_c (S : Hp) (w : World) (hS : S.sub w) (v0 : Value) (x0 : (List (List Int))) (k0 : ((TR.sl (TR.sl TR.int))).vrep S v0 x0) (res : (List Int) × Int) (hm : duel_Worst_m x0 = some res) : Calls Try.prog 57 #[v0] w (Post w S (fun (o : Value) => .tuple #[o, .int .i64 res.2]) (fun (o : Value) => [own 3 TR.int o res.1])) := by
 refine calls_enter 52 Try.func57 Try.ntmps57 rfl S false [(0, v0)] [imm (TR.sl (TR.sl TR.int)) v0 x0] rfl ⟨rfl, trivial⟩ hS ⟨k0, trivial⟩ ?_
 unfold duel_Worst_m at hm
 refine GL.seq ?_
 refine GL.region ?_
 refine RL.asg rfl rfl rfl ?_
 refine RL.asg rfl rfl rfl ?_
 refine RL.finG ?_
 refine GL.seq ?_
 refine GL.seq ?_
 refine GL.region ?_
 refine RL.mv rfl rfl rfl ?_
 obtain ⟨y4, e5, hm⟩ := bind_some hm
 refine RL.callC (v := .int .i64 y4) (vs := [v0]) Try_fit53 rfl rfl rfl rfl (fun U w hU hW hL => duel_Check_c U w hU _ _ (hL 0 _ _ rfl Seen.imm) _ e5) ?_
 refine RL.asg rfl rfl rfl ?_
 refine RL.finG ?_
 refine GL.seq ?_
 refine GL.region ?_
 refine RL.mv rfl rfl rfl ?_
 refine RL.binI (v := .bool (y4 != (0 : Int))) rfl rfl rfl rfl rfl ?_
 refine RL.finG ?_
 refine GL.cond rfl (fun b6 => ?_) (fun b6 => ?_)
 ·replace hm := ite_t b6 hm
  refine GL.seq ?_
  refine GL.region ?_
  refine RL.mv rfl rfl rfl ?_
  refine RL.asg rfl rfl rfl ?_
  refine RL.asg rfl rfl rfl ?_
  refine RL.finG ?_
  refine GL.weak (fun a w st => st.nilOwn 3 TR.int) ?_
  have hm := Option.some.inj hm
  subst hm
  exact GL.ret (Gx.ret (v := .tuple #[Value.slice none 0 0, .int .i64 y4]) (res2 rfl rfl rfl) (fun a w st => (st.pick [1] (by decide) rfl).toPost (Value.slice none 0 0)))
 replace hm := ite_f b6 hm
 refine GL.skip ?_
 refine GL.seq ?_
 refine GL.region ?_
 refine RL.mv rfl rfl rfl ?_
 refine RL.lenS 0 Try.underlying27 rfl rfl rfl rfl SlOf.imm ?_
 obtain ⟨y10, e11, hm⟩ := bind_some hm
 replace e11 := chk_some e11
 refine RL.mkS (t := TR.int) (z := (0 : Int)) Try.underlying22 Try_lo3 (fun S => rfl) rfl rfl rfl rfl e11.1 e11.2 ?_
 intro v12
 refine RL.asg rfl rfl rfl ?_
 refine RL.finG ?_
 refine GL.seq ?_
 refine GL.seq ?_
 refine GL.region ?_
 refine RL.mv rfl rfl rfl ?_
 refine RL.lenS 0 Try.underlying27 rfl rfl rfl rfl SlOf.imm ?_
 refine RL.mv rfl rfl rfl ?_
 refine RL.finG ?_
 refine GL.open_ 0 rfl (fun S h => len_imm S h) (fun n224 => ?_)
 obtain ⟨y225, K226, h227, h228, h229, h230, h231⟩ := bindR_K hm
 refine GL.join (ι := (List Int)) (fun (p : (List Int)) => [(5, v12)]) (fun (p : (List Int)) => [own 3 TR.int v12 p]) (fun (p : (List Int)) => K226 (.nx p)) ?_ ?_
 ·refine GL.block ?_
  refine GL.loop (ι := Nat × (List (List Int)) × (List Int)) (fun (p : Nat × (List (List Int)) × (List Int)) => [(0, v0), (5, v12), (17, .int .i64 ((x0).length : Int)), (18, .int .i64 (p.1 : Int))]) (fun (p : Nat × (List (List Int)) × (List Int)) => [imm (TR.sl (TR.sl TR.int)) v0 x0, own 3 TR.int v12 p.2.2]) (fun (p : Nat × (List (List Int)) × (List Int)) => p.1 + p.2.1.length = (x0).length ∧ List.drop p.1 x0 = p.2.1 ∧ rangeL (duel_Worst_b1 x0) p.2.1 p.1 p.2.2 = some y225) (fun (p : Nat × (List (List Int)) × (List Int)) => p.2.1.length) (0, x0, (List.replicate (((x0).length : Int)).toNat (0 : Int))) ⟨by simp, by simp, h227⟩ (fun a w st => St.cut [0, 1] ⟨rfl, rfl, rfl, rfl, trivial⟩ (by decide) rfl st) ?_
  rintro ⟨i232, r233, l118⟩ ⟨h238, h239, h237⟩
  try dsimp only at h238 h239 h237
  refine GL.weak (env' := [(0, v0), (5, v12), (17, .int .i64 ((x0).length : Int)), (18, .int .i64 (i232 : Int))]) (L' := [imm (TR.sl (TR.sl TR.int)) v0 x0, own 3 TR.int v12 l118]) (fun _ _ st => st) ?_
  refine GL.seq ?_
  refine GL.region ?_
  refine RL.binI (v := .bool (decide ((i232 : Int) < ((x0).length : Int)))) rfl rfl rfl rfl rfl ?_
  refine RL.finG ?_
  refine GL.seq ?_
  refine GL.cond rfl (fun b240 => ?_) (fun b240 => ?_)
  ·have h241 : i232 < (x0).length := by have := of_decide_eq_true b240; omega
   obtain ⟨y242, r244, hr, e243, h245⟩ := drop_cons h239 rfl h241
   subst hr
   obtain ⟨z234, h235, h236⟩ := rangeL_some h237
   unfold duel_Worst_b1 at h235
   try dsimp only at h235
   refine GL.skip ?_
   refine GL.seq ?_
   refine GL.block ?_
   refine GL.seq ?_
   refine GL.region ?_
   refine RL.mv rfl rfl rfl ?_
   refine RL.asg rfl rfl rfl ?_
   refine RL.finG ?_
   refine GL.seq ?_
   refine GL.region ?_
   refine RL.mv rfl rfl rfl ?_
   refine RL.lenS 0 Try.underlying27 rfl rfl rfl rfl SlOf.imm ?_
   refine RL.mv rfl rfl rfl ?_
   refine RL.finG ?_
   refine GL.open_ 0 rfl (fun S h => len_imm S h) (fun n295 => ?_)
   obtain ⟨y296, K297, h298, h299, h300, h301, h302⟩ := bindF_K h235
   refine GL.join (ι := (List Int)) (fun (p : (List Int)) => [(0, v0), (5, v12), (17, .int .i64 ((x0).length : Int)), (18, .int .i64 (i232 : Int))]) (fun (p : (List Int)) => [imm (TR.sl (TR.sl TR.int)) v0 x0, own 3 TR.int v12 p]) (fun (p : (List Int)) => K297 (.nx p)) ?_ ?_
   ·refine GL.block ?_
    refine GL.loop (ι := Nat × (List (List Int)) × (List Int)) (fun (p : Nat × (List (List Int)) × (List Int)) => [(0, v0), (5, v12), (6, .int .i64 (i232 : Int)), (17, .int .i64 ((x0).length : Int)), (18, .int .i64 (i232 : Int)), (22, .int .i64 ((x0).length : Int)), (23, .int .i64 (p.1 : Int))]) (fun (p : Nat × (List (List Int)) × (List Int)) => [imm (TR.sl (TR.sl TR.int)) v0 x0, own 3 TR.int v12 p.2.2]) (fun (p : Nat × (List (List Int)) × (List Int)) => p.1 + p.2.1.length = (x0).length ∧ List.drop p.1 x0 = p.2.1 ∧ rangeL (duel_Worst_b2 i232 y242) p.2.1 p.1 p.2.2 = some y296) (fun (p : Nat × (List (List Int)) × (List Int)) => p.2.1.length) (0, x0, l118) ⟨by simp, by simp, h298⟩ (fun a w st => St.cut [0, 1] ⟨rfl, rfl, rfl, rfl, rfl, rfl, rfl, trivial⟩ (by decide) rfl st) ?_
    rintro ⟨i303, r304, l270⟩ ⟨h309, h310, h308⟩
    try dsimp only at h309 h310 h308
    refine GL.weak (env' := [(0, v0), (5, v12), (6, .int .i64 (i232 : Int)), (17, .int .i64 ((x0).length : Int)), (18, .int .i64 (i232 : Int)), (22, .int .i64 ((x0).length : Int)), (23, .int .i64 (i303 : Int))]) (L' := [imm (TR.sl (TR.sl TR.int)) v0 x0, own 3 TR.int v12 l270]) (fun _ _ st => st) ?_
    refine GL.seq ?_
    refine GL.region ?_
    refine RL.binI (v := .bool (decide ((i303 : Int) < ((x0).length : Int)))) rfl rfl rfl rfl rfl ?_
    refine RL.finG ?_
    refine GL.seq ?_
    refine GL.cond rfl (fun b311 => ?_) (fun b311 => ?_)
    ·have h312 : i303 < (x0).length := by have := of_decide_eq_true b311; omega
     obtain ⟨y313, r315, hr, e314, h316⟩ := drop_cons h310 rfl h312
     subst hr
     obtain ⟨z305, h306, h307⟩ := rangeL_some h308
     unfold duel_Worst_b2 at h306
     try dsimp only at h306
     refine GL.skip ?_
     refine GL.seq ?_
     refine GL.block ?_
     refine GL.seq ?_
     refine GL.region ?_
     refine RL.mv rfl rfl rfl ?_
     refine RL.asg rfl rfl rfl ?_
     refine RL.finG ?_
     refine GL.regionH 23 rfl rfl (by kernel_rfl) ?_
     simp only [List.take_succ_cons, List.take_zero, List.drop_succ_cons, List.drop_zero]
     refine RL.mv rfl rfl rfl ?_
     refine RL.mv rfl rfl rfl ?_
     refine RL.mv rfl rfl rfl ?_
     refine RL.mv rfl rfl rfl ?_
     obtain ⟨y327, e328, h306⟩ := bind_some h306
     refine RL.idxS (sz := 1) 1 Try.underlying22 Try_ln3 rfl rfl rfl rfl rfl SlOf.own (idx_some e328).1 (idx_some e328).2.1 ?_
     refine RL.ldSx (i := i232) (e' := y327) 1 Ex.ik Try_ln3 rfl rfl rfl rfl SlOf.own (idx_some e328).2.2 Part.self ?_
     refine RL.mv rfl rfl rfl ?_
     refine RL.mv rfl rfl rfl ?_
     refine RL.idxS (sz := 1) 0 Try.underlying27 Try_ln22 rfl rfl rfl rfl rfl SlOf.imm (by omega) (by omega) ?_
     refine RL.ldS (i := i303) (r := (TR.sl TR.int)) (e' := y313) 0 Try_ln22 rfl rfl rfl rfl SlOf.imm e314 Part.self ?_
     intro v329
     refine RL.mv rfl rfl rfl ?_
     obtain ⟨y330, e331, h306⟩ := bind_some h306
     refine RL.idxS (sz := 1) 2 Try.underlying22 Try_ln3 rfl rfl rfl rfl rfl SlOf.imm (idx_some e331).1 (idx_some e331).2.1 ?_
     refine RL.ldSx (i := i232) (e' := y330) 2 Ex.ik Try_ln3 rfl rfl rfl rfl SlOf.imm (idx_some e331).2.2 Part.self ?_
     refine RL.mv rfl rfl rfl ?_
     refine RL.mv rfl rfl rfl ?_
     refine RL.idxS (sz := 1) 0 Try.underlying27 Try_ln22 rfl rfl rfl rfl rfl SlOf.imm (by omega) (by omega) ?_
     refine RL.ldS (i := i232) (r := (TR.sl TR.int)) (e' := y242) 0 Try_ln22 rfl rfl rfl rfl SlOf.imm e243 Part.self ?_
     intro v332
     refine RL.reL (L' := [imm (TR.sl (TR.sl TR.int)) v0 x0, own 3 TR.int v12 l270, imm (TR.sl TR.int) v329 y313, imm (TR.sl TR.int) v332 y242]) rfl ?_
     refine RL.mv rfl rfl rfl ?_
     obtain ⟨y333, e334, h306⟩ := bind_some h306
     refine RL.idxS (sz := 1) 3 Try.underlying22 Try_ln3 rfl rfl rfl rfl rfl SlOf.imm (idx_some e334).1 (idx_some e334).2.1 ?_
     refine RL.ldSx (i := i303) (e' := y333) 3 Ex.ik Try_ln3 rfl rfl rfl rfl SlOf.imm (idx_some e334).2.2 Part.self ?_
     refine RL.binI (v := .int .i64 (wsub y330 y333)) rfl rfl rfl rfl rfl ?_
     refine RL.maxI rfl rfl rfl rfl ?_
     obtain ⟨y335, e336, h306⟩ := bind_some h306
     refine RL.idxS (sz := 1) 1 Try.underlying22 Try_ln3 rfl rfl rfl rfl rfl SlOf.own (idx_some e336).1 (idx_some e336).2.1 ?_
     refine RL.finH ?_
     refine RL.stS (i := i232) (e' := if (wsub y330 y333) > y327 then wsub y330 y333 else y327) (e1 := if (wsub y330 y333) > y327 then wsub y330 y333 else y327) (r := TR.int) 1 Try_ln3 rfl rfl rfl rfl VR.int rfl (idx_some e336).2.2 Upd.self ?_
     refine RL.finG ?_
     refine GL.weak (env' := [(0, v0), (5, v12), (6, .int .i64 (i232 : Int)), (17, .int .i64 ((x0).length : Int)), (18, .int .i64 (i232 : Int)), (22, .int .i64 ((x0).length : Int)), (23, .int .i64 (i303 : Int))]) (L' := [imm (TR.sl (TR.sl TR.int)) v0 x0, own 3 TR.int v12 (List.set l270 i232 (if (wsub y330 y333) > y327 then wsub y330 y333 else y327))]) (fun a w st => St.cut [0, 1] ⟨rfl, rfl, rfl, rfl, rfl, rfl, rfl, trivial⟩ (by decide) rfl st) ?_
     refine GL.nilB ?_
     refine GL.region ?_
     refine RL.binI (v := .int .i64 ((i303 + 1 : Nat) : Int)) rfl rfl rfl rfl (binI_succ i303 (by omega)) ?_
     refine RL.mv rfl rfl rfl ?_
     refine RL.fin ?_
     cases h306
     exact fun a w st => lop_intro (i303 + 1, r315, (List.set l270 i232 (if (wsub y330 y333) > y327 then wsub y330 y333 else y327))) ⟨by show i303 + 1 + r315.length = (x0).length; simp only [List.length_cons] at h309; omega, h316, h307⟩ (by simp) (St.cut [0, 1] ⟨rfl, rfl, rfl, rfl, rfl, rfl, rfl, trivial⟩ (by decide) rfl st)
    have h312 : ¬ i303 < (x0).length := by have := of_decide_eq_false b311; omega
    obtain rfl : r304 = [] := by rw [← h310]; exact List.drop_of_length_le (by omega)
    replace h308 : some (Fl.nx _) = some y296 := h308
    cases h308
    exact GL.exit (fun a w st => mid_intro l270 h299 (St.cut [0, 1] ⟨rfl, rfl, rfl, rfl, trivial⟩ (by decide) rfl st))
   rintro l270 h337
   have h338 := h300 _ h337
   try dsimp only at h338
   refine GL.weak (env' := [(0, v0), (5, v12), (17, .int .i64 ((x0).length : Int)), (18, .int .i64 (i232 : Int))]) (L' := [imm (TR.sl (TR.sl TR.int)) v0 x0, own 3 TR.int v12 l270]) (fun _ _ st => st) ?_
   refine GL.nilB ?_
   refine GL.region ?_
   refine RL.binI (v := .int .i64 ((i232 + 1 : Nat) : Int)) rfl rfl rfl rfl (binI_succ i232 (by omega)) ?_
   refine RL.mv rfl rfl rfl ?_
   refine RL.fin ?_
   cases h338
   exact fun a w st => lop_intro (i232 + 1, r244, l270) ⟨by show i232 + 1 + r244.length = (x0).length; simp only [List.length_cons] at h238; omega, h245, h236⟩ (by simp) (St.cut [0, 1] ⟨rfl, rfl, rfl, rfl, trivial⟩ (by decide) rfl st)
  have h241 : ¬ i232 < (x0).length := by have := of_decide_eq_false b240; omega
  obtain rfl : r233 = [] := by rw [← h239]; exact List.drop_of_length_le (by omega)
  replace h237 : some (Fl.nx _) = some y225 := h237
  cases h237
  exact GL.exit (fun a w st => mid_intro l118 h228 (St.cut [1] ⟨rfl, trivial⟩ (by decide) rfl st))
 rintro l118 h339
 have h340 := h229 _ h339
 try dsimp only at h340
 refine GL.weak (env' := [(5, v12)]) (L' := [own 3 TR.int v12 l118]) (fun _ _ st => st) ?_
 refine GL.seq ?_
 refine GL.region ?_
 refine RL.mv rfl rfl rfl ?_
 refine RL.asg rfl rfl rfl ?_
 refine RL.asg rfl rfl rfl ?_
 refine RL.finG ?_
 have h340 := Option.some.inj h340
 subst h340
 exact GL.ret (Gx.ret (v := .tuple #[v12, .int .i64 (0 : Int)]) (res2 rfl rfl rfl) (fun a w st => (st.pick [0] (by decide) rfl).toPost v12))

set_option maxHeartbeats 4000000 in
theorem rules_rounds_c (S : Hp) (w : World) (hS : S.sub w) (x0 : Int) (v1 : Value) (x1 : (List (List Int))) (k1 : ((TR.sl (TR.sl TR.int))).vrep S v1 x1) (res : (List Int)) (hm : rules_rounds_m x0 x1 = some res) : Calls Try.prog 58 #[.int .i64 x0, v1] w (Post w S (fun (o : Value) => o) (fun (o : Value) => [own 3 TR.int o res])) := by
 refine calls_enter 69 Try.func58 Try.ntmps58 rfl S false [(0, .int .i64 x0), (1, v1)] [imm (TR.sl (TR.sl TR.int)) v1 x1] rfl ⟨rfl, ⟨rfl, trivial⟩⟩ hS ⟨k1, trivial⟩ ?_
 unfold rules_rounds_m at hm
 refine GL.seq ?_
 refine GL.region ?_
 refine RL.asg rfl rfl rfl ?_
 refine RL.finG ?_
 refine GL.seq ?_
 refine GL.region ?_
 refine RL.alloc (t := (TR.arr 6 TR.bool)) (z := (List.replicate 6 false)) Try_lo97 (fun S => ⟨rfl, ⟨_, _, rfl, rfl, ⟨_, _, rfl, rfl, ⟨_, _, rfl, rfl, ⟨_, _, rfl, rfl, ⟨_, _, rfl, rfl, ⟨_, _, rfl, rfl, rfl⟩⟩⟩⟩⟩⟩⟩) rfl rfl rfl ?_
 intro v4
 refine RL.finG ?_
 refine GL.seq ?_
 refine GL.region ?_
 refine RL.mv rfl rfl rfl ?_
 refine RL.asg rfl rfl rfl ?_
 refine RL.finG ?_
 obtain ⟨y724, K725, h726, h727, h728, h729, h730⟩ := bindR_K hm
 refine GL.join (ι := (List Bool) × Int) (fun (p : (List Bool) × Int) => []) (fun (p : (List Bool) × Int) => []) (fun (p : (List Bool) × Int) => K725 (.nx (p.1, p.2))) ?_ ?_
 ·refine GL.block ?_
  refine GL.loop (ι := Nat × (List Bool) × Int) (fun (p : Nat × (List Bool) × Int) => [(0, .int .i64 x0), (1, v1), (5, v4), (6, .int .i64 p.2.2)]) (fun (p : Nat × (List Bool) × Int) => [imm (TR.sl (TR.sl TR.int)) v1 x1, obox 97 (TR.arr 6 TR.bool) v4 p.2.1]) (fun (p : Nat × (List Bool) × Int) => loopM (rules_rounds_b1 x1 x0) p.1 (p.2.1, p.2.2) = some y724) (fun (p : Nat × (List Bool) × Int) => p.1) (1048576, (List.replicate 6 false), x0) h726 (fun a w st => St.cut [0, 1] ⟨rfl, rfl, rfl, rfl, trivial⟩ (by decide) rfl st) ?_
  rintro ⟨r732, l364, x365⟩ h736
  try dsimp only at h736
  refine GL.weak (env' := [(0, .int .i64 x0), (1, v1), (5, v4), (6, .int .i64 x365)]) (L' := [imm (TR.sl (TR.sl TR.int)) v1 x1, obox 97 (TR.arr 6 TR.bool) v4 l364]) (fun _ _ st => st) ?_
  obtain ⟨r739, z733, hr, h734, h735⟩ := loopM_some h736
  subst hr
  unfold rules_rounds_b1 at h734
  try dsimp only at h734
  refine GL.block ?_
  refine GL.seq ?_
  refine GL.region ?_
  refine RL.alloc (t := (TR.arr 6 TR.int)) (z := (List.replicate 6 (0 : Int))) Try_lo98 (fun S => ⟨rfl, ⟨_, _, rfl, rfl, ⟨_, _, rfl, rfl, ⟨_, _, rfl, rfl, ⟨_, _, rfl, rfl, ⟨_, _, rfl, rfl, ⟨_, _, rfl, rfl, rfl⟩⟩⟩⟩⟩⟩⟩) rfl rfl rfl ?_
  intro v741
  refine RL.finG ?_
  refine GL.seq ?_
  refine GL.seq ?_
  refine GL.region ?_
  refine RL.mv rfl rfl rfl ?_
  refine RL.lenS 0 Try.underlying27 rfl rfl rfl rfl SlOf.imm ?_
  refine RL.mv rfl rfl rfl ?_
  refine RL.finG ?_
  refine GL.open_ 0 rfl (fun S h => len_imm S h) (fun n899 => ?_)
  obtain ⟨y900, K901, h902, h903, h904, h905, h906⟩ := bindF_K h734
  refine GL.join (ι := (List Int)) (fun (p : (List Int)) => [(0, .int .i64 x0), (1, v1), (5, v4), (6, .int .i64 x365), (7, v741)]) (fun (p : (List Int)) => [imm (TR.sl (TR.sl TR.int)) v1 x1, obox 97 (TR.arr 6 TR.bool) v4 l364, obox 98 (TR.arr 6 TR.int) v741 p]) (fun (p : (List Int)) => K901 (.nx p)) ?_ ?_
  ·refine GL.block ?_
   refine GL.loop (ι := Nat × (List (List Int)) × (List Int)) (fun (p : Nat × (List (List Int)) × (List Int)) => [(0, .int .i64 x0), (1, v1), (5, v4), (6, .int .i64 x365), (7, v741), (15, v1), (16, .int .i64 ((x1).length : Int)), (17, .int .i64 (p.1 : Int))]) (fun (p : Nat × (List (List Int)) × (List Int)) => [imm (TR.sl (TR.sl TR.int)) v1 x1, obox 97 (TR.arr 6 TR.bool) v4 l364, obox 98 (TR.arr 6 TR.int) v741 p.2.2]) (fun (p : Nat × (List (List Int)) × (List Int)) => p.1 + p.2.1.length = (x1).length ∧ List.drop p.1 x1 = p.2.1 ∧ rangeL (rules_rounds_b2 l364) p.2.1 p.1 p.2.2 = some y900) (fun (p : Nat × (List (List Int)) × (List Int)) => p.2.1.length) (0, x1, (List.replicate 6 (0 : Int))) ⟨by simp, by simp, h902⟩ (fun a w st => St.cut [0, 1, 2] ⟨rfl, rfl, rfl, rfl, rfl, rfl, rfl, rfl, trivial⟩ (by decide) rfl st) ?_
   rintro ⟨i907, r908, l820⟩ ⟨h913, h914, h912⟩
   try dsimp only at h913 h914 h912
   refine GL.weak (env' := [(0, .int .i64 x0), (1, v1), (5, v4), (6, .int .i64 x365), (7, v741), (15, v1), (16, .int .i64 ((x1).length : Int)), (17, .int .i64 (i907 : Int))]) (L' := [imm (TR.sl (TR.sl TR.int)) v1 x1, obox 97 (TR.arr 6 TR.bool) v4 l364, obox 98 (TR.arr 6 TR.int) v741 l820]) (fun _ _ st => st) ?_
   refine GL.seq ?_
   refine GL.region ?_
   refine RL.binI (v := .bool (decide ((i907 : Int) < ((x1).length : Int)))) rfl rfl rfl rfl rfl ?_
   refine RL.finG ?_
   refine GL.seq ?_
   refine GL.cond rfl (fun b915 => ?_) (fun b915 => ?_)
   ·have h916 : i907 < (x1).length := by have := of_decide_eq_true b915; omega
    obtain ⟨y917, r919, hr, e918, h920⟩ := drop_cons h914 rfl h916
    subst hr
    obtain ⟨z909, h910, h911⟩ := rangeL_some h912
    unfold rules_rounds_b2 at h910
    try dsimp only at h910
    refine GL.skip ?_
    refine GL.seq ?_
    refine GL.block ?_
    refine GL.seq ?_
    refine GL.region ?_
    refine RL.idxS (sz := 1) 0 Try.underlying27 Try_ln22 rfl rfl rfl rfl rfl SlOf.imm (by omega) (by omega) ?_
    refine RL.ldS (i := i907) (r := (TR.sl TR.int)) (e' := y917) 0 Try_ln22 rfl rfl rfl rfl SlOf.imm e918 Part.self ?_
    intro v922
    refine RL.asg rfl rfl rfl ?_
    refine RL.finG ?_
    refine GL.seq ?_
    refine GL.region ?_
    refine RL.mv rfl rfl rfl ?_
    refine RL.lenS 3 Try.underlying22 rfl rfl rfl rfl SlOf.imm ?_
    refine RL.mv rfl rfl rfl ?_
    refine RL.finG ?_
    refine GL.open_ 3 rfl (fun S h => len_imm S h) (fun n958 => ?_)
    obtain ⟨y959, K960, h961, h962, h963, h964, h965⟩ := bindF_K h910
    refine GL.join (ι := (List Int)) (fun (p : (List Int)) => [(0, .int .i64 x0), (1, v1), (5, v4), (6, .int .i64 x365), (7, v741), (15, v1), (16, .int .i64 ((x1).length : Int)), (17, .int .i64 (i907 : Int))]) (fun (p : (List Int)) => [imm (TR.sl (TR.sl TR.int)) v1 x1, obox 97 (TR.arr 6 TR.bool) v4 l364, obox 98 (TR.arr 6 TR.int) v741 p]) (fun (p : (List Int)) => K960 (.nx p)) ?_ ?_
    ·refine GL.block ?_
     refine GL.loop (ι := Nat × (List Int) × (List Int)) (fun (p : Nat × (List Int) × (List Int)) => [(0, .int .i64 x0), (1, v1), (5, v4), (6, .int .i64 x365), (7, v741), (15, v1), (16, .int .i64 ((x1).length : Int)), (17, .int .i64 (i907 : Int)), (21, v922), (22, .int .i64 ((y917).length : Int)), (23, .int .i64 (p.1 : Int))]) (fun (p : Nat × (List Int) × (List Int)) => [imm (TR.sl (TR.sl TR.int)) v1 x1, obox 97 (TR.arr 6 TR.bool) v4 l364, obox 98 (TR.arr 6 TR.int) v741 p.2.2, imm (TR.sl TR.int) v922 y917]) (fun (p : Nat × (List Int) × (List Int)) => p.1 + p.2.1.length = (y917).length ∧ List.drop p.1 y917 = p.2.1 ∧ rangeL (rules_rounds_b3 l364) p.2.1 p.1 p.2.2 = some y959) (fun (p : Nat × (List Int) × (List Int)) => p.2.1.length) (0, y917, l820) ⟨by simp, by simp, h961⟩ (fun a w st => St.cut [0, 1, 2, 3] ⟨rfl, rfl, rfl, rfl, rfl, rfl, rfl, rfl, rfl, rfl, rfl, trivial⟩ (by decide) rfl st) ?_
     rintro ⟨i966, r967, l940⟩ ⟨h972, h973, h971⟩
     try dsimp only at h972 h973 h971
     refine GL.weak (env' := [(0, .int .i64 x0), (1, v1), (5, v4), (6, .int .i64 x365), (7, v741), (15, v1), (16, .int .i64 ((x1).length : Int)), (17, .int .i64 (i907 : Int)), (21, v922), (22, .int .i64 ((y917).length : Int)), (23, .int .i64 (i966 : Int))]) (L' := [imm (TR.sl (TR.sl TR.int)) v1 x1, obox 97 (TR.arr 6 TR.bool) v4 l364, obox 98 (TR.arr 6 TR.int) v741 l940, imm (TR.sl TR.int) v922 y917]) (fun _ _ st => st) ?_
     refine GL.seq ?_
     refine GL.region ?_
     refine RL.binI (v := .bool (decide ((i966 : Int) < ((y917).length : Int)))) rfl rfl rfl rfl rfl ?_
     refine RL.finG ?_
     refine GL.seq ?_
     refine GL.cond rfl (fun b974 => ?_) (fun b974 => ?_)
     ·have h975 : i966 < (y917).length := by have := of_decide_eq_true b974; omega
      obtain ⟨y976, r978, hr, e977, h979⟩ := drop_cons h973 rfl h975
      subst hr
      obtain ⟨z968, h969, h970⟩ := rangeL_some h971
      unfold rules_rounds_b3 at h969
      try dsimp only at h969
      refine GL.skip ?_
      refine GL.seq ?_
      refine GL.block ?_
      refine GL.seq ?_
      refine GL.region ?_
      refine RL.idxS (sz := 1) 3 Try.underlying22 Try_ln3 rfl rfl rfl rfl rfl SlOf.imm (by omega) (by omega) ?_
      refine RL.ldSx (i := i966) (e' := y976) 3 Ex.ik Try_ln3 rfl rfl rfl rfl SlOf.imm e977 Part.self ?_
      refine RL.asg rfl rfl rfl ?_
      refine RL.finG ?_
      refine GL.seq ?_
      refine GL.region ?_
      refine RL.mv rfl rfl rfl ?_
      obtain ⟨y982, e983, h969⟩ := bind_some h969
      refine RL.idxA0 (sz := 1) (t' := TR.bool) 1 Try.underlying97 Try_ln4 rfl rfl rfl PtOf.obox rfl rfl Part.self (idx_some e983).1 (idx_some e983).2.1 ?_
      refine RL.ldPx (off := ((y976).toNat * 1)) (e' := y982) 1 Ex.bool Try_ln4 rfl rfl (Or.inl rfl) rfl PtOf.obox (Part.arr (idx_some e983).2.2 Part.self) ?_
      refine RL.notB rfl rfl rfl ?_
      refine RL.finG ?_
      refine GL.cond rfl (fun b984 => ?_) (fun b984 => ?_)
      ·replace h969 := ite_t b984 h969
       refine GL.seq ?_
       refine GL.region ?_
       refine RL.mv rfl rfl rfl ?_
       obtain ⟨y989, e990, h969⟩ := bind_some h969
       refine RL.idxA0 (sz := 1) (t' := TR.int) 2 Try.underlying98 Try_ln3 rfl rfl rfl PtOf.obox rfl rfl Part.self (idx_some e990).1 (idx_some e990).2.1 ?_
       refine RL.ldPx (off := ((y976).toNat * 1)) (e' := y989) 2 Ex.ik Try_ln3 rfl rfl (Or.inl rfl) rfl PtOf.obox (Part.arr (idx_some e990).2.2 Part.self) ?_
       refine RL.binI (v := .int .i64 (wadd y989 (1 : Int))) rfl rfl rfl rfl rfl ?_
       obtain ⟨y991, e992, h969⟩ := bind_some h969
       refine RL.idxA0 (sz := 1) (t' := TR.int) 2 Try.underlying98 Try_ln3 rfl rfl rfl PtOf.obox rfl rfl Part.self (idx_some e992).1 (idx_some e992).2.1 ?_
       refine RL.stP (off := ((y976).toNat * 1)) (e' := wadd y989 (1 : Int)) (d1 := (List.set l940 ((y976).toNat) (wadd y989 (1 : Int)))) (r := TR.int) 2 Try_ln3 rfl rfl (Or.inl rfl) rfl VR.int rfl (Upd.arr (idx_some e992).2.2 Upd.self) ?_
       refine RL.finG ?_
       cases h969
       replace h970 : some (Fl.nx _) = some y959 := h970
       cases h970
       exact GL.exit (fun a w st => mid_intro (List.set l940 ((y976).toNat) (wadd y989 (1 : Int))) h962 (St.cut [0, 1, 2] ⟨rfl, rfl, rfl, rfl, rfl, rfl, rfl, rfl, trivial⟩ (by decide) rfl st))
      replace h969 := ite_f b984 h969
      refine GL.skip ?_
      refine GL.nilB ?_
      refine GL.region ?_
      refine RL.binI (v := .int .i64 ((i966 + 1 : Nat) : Int)) rfl rfl rfl rfl (binI_succ i966 (by omega)) ?_
      refine RL.mv rfl rfl rfl ?_
      refine RL.fin ?_
      cases h969
      exact fun a w st => lop_intro (i966 + 1, r978, l940) ⟨by show i966 + 1 + r978.length = (y917).length; simp only [List.length_cons] at h972; omega, h979, h970⟩ (by simp) (St.cut [0, 1, 2, 3] ⟨rfl, rfl, rfl, rfl, rfl, rfl, rfl, rfl, rfl, rfl, rfl, trivial⟩ (by decide) rfl st)
     have h975 : ¬ i966 < (y917).length := by have := of_decide_eq_false b974; omega
     obtain rfl : r967 = [] := by rw [← h973]; exact List.drop_of_length_le (by omega)
     replace h971 : some (Fl.nx _) = some y959 := h971
     cases h971
     exact GL.exit (fun a w st => mid_intro l940 h962 (St.cut [0, 1, 2] ⟨rfl, rfl, rfl, rfl, rfl, rfl, rfl, rfl, trivial⟩ (by decide) rfl st))
    rintro l940 h993
    have h994 := h963 _ h993
    try dsimp only at h994
    refine GL.weak (env' := [(0, .int .i64 x0), (1, v1), (5, v4), (6, .int .i64 x365), (7, v741), (15, v1), (16, .int .i64 ((x1).length : Int)), (17, .int .i64 (i907 : Int))]) (L' := [imm (TR.sl (TR.sl TR.int)) v1 x1, obox 97 (TR.arr 6 TR.bool) v4 l364, obox 98 (TR.arr 6 TR.int) v741 l940]) (fun _ _ st => st) ?_
    refine GL.nilB ?_
    refine GL.region ?_
    refine RL.binI (v := .int .i64 ((i907 + 1 : Nat) : Int)) rfl rfl rfl rfl (binI_succ i907 (by omega)) ?_
    refine RL.mv rfl rfl rfl ?_
    refine RL.fin ?_
    cases h994
    exact fun a w st => lop_intro (i907 + 1, r919, l940) ⟨by show i907 + 1 + r919.length = (x1).length; simp only [List.length_cons] at h913; omega, h920, h911⟩ (by simp) (St.cut [0, 1, 2] ⟨rfl, rfl, rfl, rfl, rfl, rfl, rfl, rfl, trivial⟩ (by decide) rfl st)
   have h916 : ¬ i907 < (x1).length := by have := of_decide_eq_false b915; omega
   obtain rfl : r908 = [] := by rw [← h914]; exact List.drop_of_length_le (by omega)
   replace h912 : some (Fl.nx _) = some y900 := h912
   cases h912
   exact GL.exit (fun a w st => mid_intro l820 h903 (St.cut [0, 1, 2] ⟨rfl, rfl, rfl, rfl, rfl, trivial⟩ (by decide) rfl st))
  rintro l820 h995
  have h996 := h904 _ h995
  try dsimp only at h996
  refine GL.weak (env' := [(0, .int .i64 x0), (1, v1), (5, v4), (6, .int .i64 x365), (7, v741)]) (L' := [imm (TR.sl (TR.sl TR.int)) v1 x1, obox 97 (TR.arr 6 TR.bool) v4 l364, obox 98 (TR.arr 6 TR.int) v741 l820]) (fun _ _ st => st) ?_
  refine GL.seq ?_
  refine GL.region ?_
  refine RL.asg rfl rfl rfl ?_
  refine RL.finG ?_
  refine GL.seq ?_
  refine GL.seq ?_
  refine GL.region ?_
  refine RL.mv rfl rfl rfl ?_
  refine RL.mv rfl rfl rfl ?_
  refine RL.finG ?_
  obtain ⟨y1034, e1035, h996⟩ := bind_some h996
  replace e1035 := chk_some e1035
  obtain ⟨y1036, K1037, h1038, h1039, h1040, h1041, h1042⟩ := bindF_K h996
  refine GL.join (ι := Int) (fun (p : Int) => [(0, .int .i64 x0), (1, v1), (5, v4), (6, .int .i64 x365), (12, .int .i64 p)]) (fun (p : Int) => [imm (TR.sl (TR.sl TR.int)) v1 x1, obox 97 (TR.arr 6 TR.bool) v4 l364]) (fun (p : Int) => K1037 (.nx p)) ?_ ?_
  ·refine GL.block ?_
   refine GL.loop (ι := Nat × Nat × Int) (fun (p : Nat × Nat × Int) => [(0, .int .i64 x0), (1, v1), (5, v4), (6, .int .i64 x365), (7, v741), (12, .int .i64 p.2.2), (38, .int .i64 x0), (39, .int .i64 (p.1 : Int))]) (fun (p : Nat × Nat × Int) => [imm (TR.sl (TR.sl TR.int)) v1 x1, obox 97 (TR.arr 6 TR.bool) v4 l364, obox 98 (TR.arr 6 TR.int) v741 l820]) (fun (p : Nat × Nat × Int) => p.1 + p.2.1 = (x0).toNat ∧ rangeN (rules_rounds_b4 l364 l820) p.2.1 p.1 p.2.2 = some y1036) (fun (p : Nat × Nat × Int) => p.2.1) (0, (x0).toNat, (-1 : Int)) ⟨by simp, h1038⟩ (fun a w st => St.cut [0, 1, 2] ⟨rfl, rfl, rfl, rfl, rfl, rfl, rfl, rfl, trivial⟩ (by decide) rfl st) ?_
   rintro ⟨i1043, r1044, x997⟩ ⟨h1049, h1048⟩
   try dsimp only at h1049 h1048
   refine GL.weak (env' := [(0, .int .i64 x0), (1, v1), (5, v4), (6, .int .i64 x365), (7, v741), (12, .int .i64 x997), (38, .int .i64 x0), (39, .int .i64 (i1043 : Int))]) (L' := [imm (TR.sl (TR.sl TR.int)) v1 x1, obox 97 (TR.arr 6 TR.bool) v4 l364, obox 98 (TR.arr 6 TR.int) v741 l820]) (fun _ _ st => st) ?_
   refine GL.seq ?_
   refine GL.region ?_
   refine RL.binI (v := .bool (decide ((i1043 : Int) < x0))) rfl rfl rfl rfl rfl ?_
   refine RL.finG ?_
   refine GL.seq ?_
   refine GL.cond rfl (fun b1051 => ?_) (fun b1051 => ?_)
   ·have h1052 : i1043 < (x0).toNat := by have := of_decide_eq_true b1051; omega
    obtain ⟨r1053, hr⟩ : ∃ m, r1044 = m + 1 := ⟨r1044 - 1, by omega⟩
    subst hr
    obtain ⟨z1045, h1046, h1047⟩ := rangeN_some h1048
    unfold rules_rounds_b4 at h1046
    try dsimp only at h1046
    refine GL.skip ?_
    refine GL.seq ?_
    refine GL.block ?_
    refine GL.seq ?_
    refine GL.region ?_
    refine RL.mv rfl rfl rfl ?_
    refine RL.asg rfl rfl rfl ?_
    refine RL.finG ?_
    refine GL.seq ?_
    obtain ⟨y1071, K1072, h1073, h1074, h1075, h1076, h1077⟩ := bindF_K h1046
    refine GL.join (ι := Bool) (fun (p : Bool) => [(0, .int .i64 x0), (1, v1), (5, v4), (6, .int .i64 x365), (7, v741), (12, .int .i64 x997), (13, .int .i64 (i1043 : Int)), (38, .int .i64 x0), (39, .int .i64 (i1043 : Int)), (58, .bool p)]) (fun (p : Bool) => [imm (TR.sl (TR.sl TR.int)) v1 x1, obox 97 (TR.arr 6 TR.bool) v4 l364, obox 98 (TR.arr 6 TR.int) v741 l820]) (fun (p : Bool) => K1072 (.nx p)) ?_ ?_
    ·skip
     refine GL.regionQ rfl rfl (by kernel_rfl) ?_
     refine RL.mv rfl rfl rfl ?_
     obtain ⟨y1078, e1079, h1073⟩ := bind_some h1073
     refine RL.idxA0 (sz := 1) (t' := TR.bool) 1 Try.underlying97 Try_ln4 rfl rfl rfl PtOf.obox rfl rfl Part.self (idx_some e1079).1 (idx_some e1079).2.1 ?_
     refine RL.ldPx (off := (i1043 * 1)) (e' := y1078) 1 Ex.bool Try_ln4 rfl rfl (Or.inl rfl) rfl PtOf.obox (Part.arr (idx_some e1079).2.2 Part.self) ?_
     refine RL.notB rfl rfl rfl ?_
     refine RL.mv rfl rfl rfl ?_
     refine RL.split (t := 46) rfl (fun b1080 => ?_) (fun b1080 => ?_)
     ·replace h1073 := ite_t b1080 h1073
      refine RL.mv rfl rfl rfl ?_
      refine RL.binI (v := .bool (decide (x997 < (0 : Int)))) rfl rfl rfl rfl rfl ?_
      refine RL.mv rfl rfl rfl ?_
      refine RL.split (t := 49) rfl (fun b1081 => ?_) (fun b1081 => ?_)
      ·replace h1073 := ite_t b1081 h1073
       refine RL.skip rfl rfl ?_
       refine RL.skip rfl rfl ?_
       refine RL.skip rfl rfl ?_
       refine RL.skip rfl rfl ?_
       refine RL.skip rfl rfl ?_
       refine RL.skip rfl rfl ?_
       refine RL.skip rfl rfl ?_
       refine RL.pickT rfl rfl rfl rfl ?_
       refine RL.pickT rfl rfl rfl rfl ?_
       refine RL.finQ ?_
       cases h1073
       exact fun a w st => mid_intro true h1074 (St.cut [0, 1, 2] ⟨rfl, rfl, rfl, rfl, rfl, rfl, rfl, rfl, rfl, rfl, trivial⟩ (by decide) rfl st)
      replace h1073 := ite_f b1081 h1073
      refine RL.mv rfl rfl rfl ?_
      obtain ⟨y1082, e1083, h1073⟩ := bind_some h1073
      refine RL.idxA0 (sz := 1) (t' := TR.int) 2 Try.underlying98 Try_ln3 rfl rfl rfl PtOf.obox rfl rfl Part.self (idx_some e1083).1 (idx_some e1083).2.1 ?_
      refine RL.ldPx (off := (i1043 * 1)) (e' := y1082) 2 Ex.ik Try_ln3 rfl rfl (Or.inl rfl) rfl PtOf.obox (Part.arr (idx_some e1083).2.2 Part.self) ?_
      refine RL.mv rfl rfl rfl ?_
      obtain ⟨y1084, e1085, h1073⟩ := bind_some h1073
      refine RL.idxA0 (sz := 1) (t' := TR.int) 2 Try.underlying98 Try_ln3 rfl rfl rfl PtOf.obox rfl rfl Part.self (idx_some e1085).1 (idx_some e1085).2.1 ?_
      refine RL.ldPx (off := ((x997).toNat * 1)) (e' := y1084) 2 Ex.ik Try_ln3 rfl rfl (Or.inl rfl) rfl PtOf.obox (Part.arr (idx_some e1085).2.2 Part.self) ?_
      refine RL.binI (v := .bool (decide (y1082 ≤ y1084))) rfl rfl rfl rfl rfl ?_
      refine RL.pickF rfl rfl rfl rfl ?_
      refine RL.pickT rfl rfl rfl rfl ?_
      refine RL.finQ ?_
      cases h1073
      exact fun a w st => mid_intro (decide (y1082 ≤ y1084)) h1074 (St.cut [0, 1, 2] ⟨rfl, rfl, rfl, rfl, rfl, rfl, rfl, rfl, rfl, rfl, trivial⟩ (by decide) rfl st)
     replace h1073 := ite_f b1080 h1073
     refine RL.skip rfl rfl ?_
     refine RL.skip rfl rfl ?_
     refine RL.skip rfl rfl ?_
     refine RL.skip rfl rfl ?_
     refine RL.skip rfl rfl ?_
     refine RL.skip rfl rfl ?_
     refine RL.skip rfl rfl ?_
     refine RL.skip rfl rfl ?_
     refine RL.skip rfl rfl ?_
     refine RL.skip rfl rfl ?_
     refine RL.skip rfl rfl ?_
     refine RL.pickF rfl rfl rfl rfl ?_
     refine RL.finQ ?_
     cases h1073
     exact fun a w st => mid_intro false h1074 (St.cut [0, 1, 2] ⟨rfl, rfl, rfl, rfl, rfl, rfl, rfl, rfl, rfl, rfl, trivial⟩ (by decide) rfl st)
    rintro x1070 h1086
    have h1087 := h1075 _ h1086
    try dsimp only at h1087
    refine GL.weak (env' := [(0, .int .i64 x0), (1, v1), (5, v4), (6, .int .i64 x365), (7, v741), (12, .int .i64 x997), (13, .int .i64 (i1043 : Int)), (38, .int .i64 x0), (39, .int .i64 (i1043 : Int)), (58, .bool x1070)]) (L' := [imm (TR.sl (TR.sl TR.int)) v1 x1, obox 97 (TR.arr 6 TR.bool) v4 l364, obox 98 (TR.arr 6 TR.int) v741 l820]) (fun _ _ st => st) ?_
    refine GL.cond rfl (fun b1088 => ?_) (fun b1088 => ?_)
    ·replace h1087 := ite_t b1088 h1087
     refine GL.region ?_
     refine RL.mv rfl rfl rfl ?_
     refine RL.asg rfl rfl rfl ?_
     refine RL.finG ?_
     refine GL.nilB ?_
     refine GL.region ?_
     refine RL.binI (v := .int .i64 ((i1043 + 1 : Nat) : Int)) rfl rfl rfl rfl (binI_succ i1043 (by omega)) ?_
     refine RL.mv rfl rfl rfl ?_
     refine RL.fin ?_
     cases h1087
     exact fun a w st => lop_intro (i1043 + 1, r1053, (i1043 : Int)) ⟨by show i1043 + 1 + r1053 = (x0).toNat; omega, h1047⟩ (by simp) (St.cut [0, 1, 2] ⟨rfl, rfl, rfl, rfl, rfl, rfl, rfl, rfl, trivial⟩ (by decide) rfl st)
    replace h1087 := ite_f b1088 h1087
    refine GL.skip ?_
    refine GL.nilB ?_
    refine GL.region ?_
    refine RL.binI (v := .int .i64 ((i1043 + 1 : Nat) : Int)) rfl rfl rfl rfl (binI_succ i1043 (by omega)) ?_
    refine RL.mv rfl rfl rfl ?_
    refine RL.fin ?_
    cases h1087
    exact fun a w st => lop_intro (i1043 + 1, r1053, x997) ⟨by show i1043 + 1 + r1053 = (x0).toNat; omega, h1047⟩ (by simp) (St.cut [0, 1, 2] ⟨rfl, rfl, rfl, rfl, rfl, rfl, rfl, rfl, trivial⟩ (by decide) rfl st)
   have h1052 : ¬ i1043 < (x0).toNat := by have := of_decide_eq_false b1051; omega
   obtain rfl : r1044 = 0 := by omega
   replace h1048 : some (Fl.nx _) = some y1036 := h1048
   cases h1048
   exact GL.exit (fun a w st => mid_intro x997 h1039 (St.cut [0, 1] ⟨rfl, rfl, rfl, rfl, rfl, trivial⟩ (by decide) rfl st))
  rintro x997 h1089
  have h1090 := h1040 _ h1089
  try dsimp only at h1090
  refine GL.weak (env' := [(0, .int .i64 x0), (1, v1), (5, v4), (6, .int .i64 x365), (12, .int .i64 x997)]) (L' := [imm (TR.sl (TR.sl TR.int)) v1 x1, obox 97 (TR.arr 6 TR.bool) v4 l364]) (fun _ _ st => st) ?_
  refine GL.seq ?_
  refine GL.seq ?_
  refine GL.region ?_
  refine RL.mv rfl rfl rfl ?_
  refine RL.binI (v := .bool (x365 == (1 : Int))) rfl rfl rfl rfl rfl ?_
  refine RL.finG ?_
  refine GL.cond rfl (fun b1091 => ?_) (fun b1091 => ?_)
  ·replace h1090 := ite_t b1091 h1090
   refine GL.seq ?_
   refine GL.region ?_
   refine RL.mv rfl rfl rfl ?_
   refine RL.bS (t := TR.int) (vs := [.int .i64 x997]) ([x997] : (List Int)) Try.underlying22 Try_lo3 rfl rfl rfl rfl ⟨VR.int, trivial⟩ rfl (by decide) ?_
   intro v1093
   refine RL.asg rfl rfl rfl ?_
   refine RL.finG ?_
   cases h1090
   replace h735 : some (Fl.rt _) = some y724 := h735
   cases h735
   have hh := h729 _ h727
   subst hh
   exact GL.ret (Gx.ret (v := v1093) (res1 rfl rfl) (fun a w st => (st.pick [2] (by decide) rfl).toPost v1093))
  replace h1090 := ite_f b1091 h1090
  refine GL.skip ?_
  refine GL.seq ?_
  refine GL.region ?_
  refine RL.mv rfl rfl rfl ?_
  obtain ⟨y1096, e1097, h1090⟩ := bind_some h1090
  refine RL.idxA0 (sz := 1) (t' := TR.bool) 1 Try.underlying97 Try_ln4 rfl rfl rfl PtOf.obox rfl rfl Part.self (idx_some e1097).1 (idx_some e1097).2.1 ?_
  refine RL.stP (off := ((x997).toNat * 1)) (e' := true) (d1 := (List.set l364 ((x997).toNat) true)) (r := TR.bool) 1 Try_ln4 rfl rfl (Or.inl rfl) rfl VR.bool rfl (Upd.arr (idx_some e1097).2.2 Upd.self) ?_
  refine RL.finG ?_
  refine GL.region ?_
  refine RL.mv rfl rfl rfl ?_
  refine RL.binI (v := .int .i64 (wsub x365 (1 : Int))) rfl rfl rfl rfl rfl ?_
  refine RL.asg rfl rfl rfl ?_
  refine RL.finG ?_
  refine GL.nilB ?_
  cases h1090
  exact fun a w st => lop_intro (r739, (List.set l364 ((x997).toNat) true), wsub x365 (1 : Int)) (by exact h735) (by simp) (St.cut [0, 1] ⟨rfl, rfl, rfl, rfl, trivial⟩ (by decide) rfl st)
 rintro ⟨l364, x365⟩ h1098
 have h1099 := h728 _ h1098
 try dsimp only at h1099
 cases h1099

set_option maxHeartbeats 4000000 in
theorem rules_Winners_c (S : Hp) (w : World) (hS : S.sub w) (x0 : Int) (x1 : Int) (v2 : Value) (x2 : (List (List Int))) (k2 : ((TR.sl (TR.sl TR.int))).vrep S v2 x2) (res : (List Int) × Int) (hm : rules_Winners_m x0 x1 x2 = some res) : Calls Try.prog 25 #[.int .i64 x0, .int .i64 x1, v2] w (Post w S (fun (o : Value) => .tuple #[o, .int .i64 res.2]) (fun (o : Value) => [own 3 TR.int o res.1])) := by
 refine calls_enter 79 Try.func25 Try.ntmps25 rfl S false [(0, .int .i64 x0), (1, .int .i64 x1), (2, v2)] [imm (TR.sl (TR.sl TR.int)) v2 x2] rfl ⟨rfl, ⟨rfl, ⟨rfl, trivial⟩⟩⟩ hS ⟨k2, trivial⟩ ?_
 unfold rules_Winners_m at hm
 refine GL.seq ?_
 refine GL.region ?_
 refine RL.asg rfl rfl rfl ?_
 refine RL.asg rfl rfl rfl ?_
 refine RL.finG ?_
 refine GL.seq ?_
 refine GL.seq ?_
 obtain ⟨y7, K8, h9, h10, h11, h12, h13⟩ := bindR_K hm
 refine GL.join (ι := Bool) (fun (p : Bool) => [(0, .int .i64 x0), (1, .int .i64 x1), (2, v2), (17, .bool p)]) (fun (p : Bool) => [imm (TR.sl (TR.sl TR.int)) v2 x2]) (fun (p : Bool) => K8 (.nx p)) ?_ ?_
 ·skip
  refine GL.region ?_
  refine RL.mv rfl rfl rfl ?_
  refine RL.binI (v := .bool (decide (x0 < (1 : Int)))) rfl rfl rfl rfl rfl ?_
  refine RL.mv rfl rfl rfl ?_
  refine RL.split (t := 14) rfl (fun b14 => ?_) (fun b14 => ?_)
  ·replace h9 := ite_t b14 h9
   refine RL.skip rfl rfl ?_
   refine RL.skip rfl rfl ?_
   refine RL.pickT rfl rfl rfl rfl ?_
   refine RL.fin ?_
   cases h9
   exact fun a w st => mid_intro true h10 (St.cut [0] ⟨rfl, rfl, rfl, rfl, trivial⟩ (by decide) rfl st)
  replace h9 := ite_f b14 h9
  refine RL.mv rfl rfl rfl ?_
  refine RL.binI (v := .bool (decide (x0 > (5 : Int)))) rfl rfl rfl rfl rfl ?_
  refine RL.pickF rfl rfl rfl rfl ?_
  refine RL.fin ?_
  cases h9
  exact fun a w st => mid_intro (decide (x0 > (5 : Int))) h10 (St.cut [0] ⟨rfl, rfl, rfl, rfl, trivial⟩ (by decide) rfl st)
 rintro x6 h15
 have h16 := h11 _ h15
 try dsimp only at h16
 refine GL.weak (env' := [(0, .int .i64 x0), (1, .int .i64 x1), (2, v2), (17, .bool x6)]) (L' := [imm (TR.sl (TR.sl TR.int)) v2 x2]) (fun _ _ st => st) ?_
 refine GL.cond rfl (fun b17 => ?_) (fun b17 => ?_)
 ·replace h16 := ite_t b17 h16
  refine GL.seq ?_
  refine GL.region ?_
  refine RL.asg rfl rfl rfl ?_
  refine RL.asg rfl rfl rfl ?_
  refine RL.finG ?_
  refine GL.weak (fun a w st => st.nilOwn 3 TR.int) ?_
  have h16 := Option.some.inj h16
  subst h16
  exact GL.ret (Gx.ret (v := .tuple #[Value.slice none 0 0, .int .i64 (1 : Int)]) (res2 rfl rfl rfl) (fun a w st => (st.pick [1] (by decide) rfl).toPost (Value.slice none 0 0)))
 replace h16 := ite_f b17 h16
 refine GL.skip ?_
 refine GL.seq ?_
 refine GL.region ?_
 refine RL.mv rfl rfl rfl ?_
 refine RL.mv rfl rfl rfl ?_
 obtain ⟨y21, e22, h16⟩ := bind_some h16
 refine RL.call (vs := [.int .i64 x1, v2]) Try_fit22 rfl rfl rfl rfl rfl (fun S f w hS hW hi => tally_Duels_c S w hS x1 _ _ (hi 0 _ rfl) _ e22) ?_
 intro v23
 refine RL.mv rfl rfl rfl ?_
 refine RL.ext rfl rfl rfl rfl ?_
 refine RL.ext rfl rfl rfl rfl ?_
 refine RL.asg rfl rfl rfl ?_
 refine RL.asg rfl rfl rfl ?_
 refine RL.finG ?_
 refine GL.seq ?_
 refine GL.seq ?_
 refine GL.region ?_
 refine RL.mv rfl rfl rfl ?_
 refine RL.binI (v := .bool (y21.2 != (0 : Int))) rfl rfl rfl rfl rfl ?_
 refine RL.finG ?_
 refine GL.cond rfl (fun b24 => ?_) (fun b24 => ?_)
 ·replace h16 := ite_t b24 h16
  refine GL.seq ?_
  refine GL.region ?_
  refine RL.mv rfl rfl rfl ?_
  refine RL.asg rfl rfl rfl ?_
  refine RL.asg rfl rfl rfl ?_
  refine RL.finG ?_
  refine GL.weak (fun a w st => st.nilOwn 3 TR.int) ?_
  have h16 := Option.some.inj h16
  subst h16
  exact GL.ret (Gx.ret (v := .tuple #[Value.slice none 0 0, .int .i64 y21.2]) (res2 rfl rfl rfl) (fun a w st => (st.pick [2] (by decide) rfl).toPost (Value.slice none 0 0)))
 replace h16 := ite_f b24 h16
 refine GL.skip ?_
 refine GL.seq ?_
 refine GL.region ?_
 refine RL.asg rfl rfl rfl ?_
 refine RL.finG ?_
 refine GL.seq ?_
 refine GL.seq ?_
 refine GL.region ?_
 refine RL.mv rfl rfl rfl ?_
 refine RL.finG ?_
 refine GL.block ?_
 refine GL.seq ?_
 refine GL.region ?_
 refine RL.binI (v := .bool (x0 == (1 : Int))) rfl rfl rfl rfl rfl ?_
 refine RL.asg rfl rfl rfl ?_
 refine RL.finG ?_
 refine GL.cond rfl (fun b25 => ?_) (fun b25 => ?_)
 ·replace h16 := ite_t b25 h16
  refine GL.region ?_
  refine RL.mv rfl rfl rfl ?_
  refine RL.mv rfl rfl rfl ?_
  obtain ⟨y29, e30, h16⟩ := bind_some h16
  refine RL.call (vs := [.int .i64 x1, v2]) Try_fit54 rfl rfl rfl rfl rfl (fun S f w hS hW hi => tally_Firsts_c S w hS x1 _ _ (hi 0 _ rfl) _ e30) ?_
  intro v31
  refine RL.reL (L' := [imm (TR.sl (TR.sl TR.int)) v2 x2, imm (TR.sl (TR.sl TR.int)) v23 y21.1, own 3 TR.int v31 y29.1]) rfl ?_
  refine RL.mv rfl rfl rfl ?_
  refine RL.ext rfl rfl rfl rfl ?_
  refine RL.ext rfl rfl rfl rfl ?_
  refine RL.asg rfl rfl rfl ?_
  refine RL.finG ?_
  refine GL.nilB ?_
  refine GL.seq ?_
  refine GL.region ?_
  refine RL.mv rfl rfl rfl ?_
  obtain ⟨y35, e36, h16⟩ := bind_some h16
  refine RL.callU (vs := [v31]) (LR := fun (o : Value) => [own 3 TR.int o y35]) (fun o => ⟨Loc.own TR.flatT_ik, trivial⟩) Try_fit59 rfl rfl rfl rfl rfl (fun U w hU hW hL => rules_best_c U w hU _ _ (hL 2 _ _ rfl Seen.own) _ e36) ?_
  intro v37
  refine RL.asg rfl rfl rfl ?_
  refine RL.asg rfl rfl rfl ?_
  refine RL.finG ?_
  have h16 := Option.some.inj h16
  subst h16
  exact GL.ret (Gx.ret (v := .tuple #[v37, .int .i64 (0 : Int)]) (res2 rfl rfl rfl) (fun a w st => (st.pick [3] (by decide) rfl).toPost v37))
 replace h16 := ite_f b25 h16
 refine GL.seq ?_
 refine GL.region ?_
 refine RL.binI (v := .bool (x0 == (2 : Int))) rfl rfl rfl rfl rfl ?_
 refine RL.asg rfl rfl rfl ?_
 refine RL.finG ?_
 refine GL.cond rfl (fun b38 => ?_) (fun b38 => ?_)
 ·replace h16 := ite_t b38 h16
  refine GL.region ?_
  refine RL.mv rfl rfl rfl ?_
  refine RL.mv rfl rfl rfl ?_
  obtain ⟨y42, e43, h16⟩ := bind_some h16
  refine RL.call (vs := [.int .i64 x1, v2]) Try_fit55 rfl rfl rfl rfl rfl (fun S f w hS hW hi => tally_Points_c S w hS x1 _ _ (hi 0 _ rfl) _ e43) ?_
  intro v44
  refine RL.reL (L' := [imm (TR.sl (TR.sl TR.int)) v2 x2, imm (TR.sl (TR.sl TR.int)) v23 y21.1, own 3 TR.int v44 y42.1]) rfl ?_
  refine RL.mv rfl rfl rfl ?_
  refine RL.ext rfl rfl rfl rfl ?_
  refine RL.ext rfl rfl rfl rfl ?_
  refine RL.asg rfl rfl rfl ?_
  refine RL.finG ?_
  refine GL.nilB ?_
  refine GL.seq ?_
  refine GL.region ?_
  refine RL.mv rfl rfl rfl ?_
  obtain ⟨y48, e49, h16⟩ := bind_some h16
  refine RL.callU (vs := [v44]) (LR := fun (o : Value) => [own 3 TR.int o y48]) (fun o => ⟨Loc.own TR.flatT_ik, trivial⟩) Try_fit59 rfl rfl rfl rfl rfl (fun U w hU hW hL => rules_best_c U w hU _ _ (hL 2 _ _ rfl Seen.own) _ e49) ?_
  intro v50
  refine RL.asg rfl rfl rfl ?_
  refine RL.asg rfl rfl rfl ?_
  refine RL.finG ?_
  have h16 := Option.some.inj h16
  subst h16
  exact GL.ret (Gx.ret (v := .tuple #[v50, .int .i64 (0 : Int)]) (res2 rfl rfl rfl) (fun a w st => (st.pick [3] (by decide) rfl).toPost v50))
 replace h16 := ite_f b38 h16
 refine GL.seq ?_
 refine GL.region ?_
 refine RL.binI (v := .bool (x0 == (3 : Int))) rfl rfl rfl rfl rfl ?_
 refine RL.asg rfl rfl rfl ?_
 refine RL.finG ?_
 refine GL.cond rfl (fun b51 => ?_) (fun b51 => ?_)
 ·replace h16 := ite_t b51 h16
  refine GL.region ?_
  refine RL.mv rfl rfl rfl ?_
  obtain ⟨y55, e56, h16⟩ := bind_some h16
  refine RL.call (vs := [v23]) Try_fit56 rfl rfl rfl rfl rfl (fun S f w hS hW hi => duel_Wins_c S w hS _ _ (hi 1 _ rfl) _ e56) ?_
  intro v57
  refine RL.reL (L' := [imm (TR.sl (TR.sl TR.int)) v2 x2, imm (TR.sl (TR.sl TR.int)) v23 y21.1, own 3 TR.int v57 y55.1]) rfl ?_
  refine RL.mv rfl rfl rfl ?_
  refine RL.ext rfl rfl rfl rfl ?_
  refine RL.ext rfl rfl rfl rfl ?_
  refine RL.asg rfl rfl rfl ?_
  refine RL.finG ?_
  refine GL.nilB ?_
  refine GL.seq ?_
  refine GL.region ?_
  refine RL.mv rfl rfl rfl ?_
  obtain ⟨y61, e62, h16⟩ := bind_some h16
  refine RL.callU (vs := [v57]) (LR := fun (o : Value) => [own 3 TR.int o y61]) (fun o => ⟨Loc.own TR.flatT_ik, trivial⟩) Try_fit59 rfl rfl rfl rfl rfl (fun U w hU hW hL => rules_best_c U w hU _ _ (hL 2 _ _ rfl Seen.own) _ e62) ?_
  intro v63
  refine RL.asg rfl rfl rfl ?_
  refine RL.asg rfl rfl rfl ?_
  refine RL.finG ?_
  have h16 := Option.some.inj h16
  subst h16
  exact GL.ret (Gx.ret (v := .tuple #[v63, .int .i64 (0 : Int)]) (res2 rfl rfl rfl) (fun a w st => (st.pick [3] (by decide) rfl).toPost v63))
 replace h16 := ite_f b51 h16
 refine GL.seq ?_
 refine GL.region ?_
 refine RL.binI (v := .bool (x0 == (4 : Int))) rfl rfl rfl rfl rfl ?_
 refine RL.asg rfl rfl rfl ?_
 refine RL.finG ?_
 refine GL.cond rfl (fun b64 => ?_) (fun b64 => ?_)
 ·replace h16 := ite_t b64 h16
  refine GL.seq ?_
  refine GL.region ?_
  refine RL.mv rfl rfl rfl ?_
  obtain ⟨y68, e69, h16⟩ := bind_some h16
  refine RL.call (vs := [v23]) Try_fit57 rfl rfl rfl rfl rfl (fun S f w hS hW hi => duel_Worst_c S w hS _ _ (hi 1 _ rfl) _ e69) ?_
  intro v70
  refine RL.reL (L' := [imm (TR.sl (TR.sl TR.int)) v2 x2, imm (TR.sl (TR.sl TR.int)) v23 y21.1, own 3 TR.int v70 y68.1]) rfl ?_
  refine RL.mv rfl rfl rfl ?_
  refine RL.ext rfl rfl rfl rfl ?_
  refine RL.ext rfl rfl rfl rfl ?_
  refine RL.asg rfl rfl rfl ?_
  refine RL.finG ?_
  refine GL.seq ?_
  refine GL.region ?_
  refine RL.mv rfl rfl rfl ?_
  refine RL.lenS 2 Try.underlying22 rfl rfl rfl rfl SlOf.own ?_
  refine RL.mv rfl rfl rfl ?_
  refine RL.finG ?_
  refine GL.lenOwn 2 rfl (fun n88 => ?_)
  obtain ⟨y89, K90, h91, h92, h93, h94, h95⟩ := bindR_K h16
  refine GL.join (ι := (List Int)) (fun (p : (List Int)) => [(10, v70)]) (fun (p : (List Int)) => [own 3 TR.int v70 p]) (fun (p : (List Int)) => K90 (.nx p)) ?_ ?_
  ·refine GL.block ?_
   refine GL.loop (ι := Nat × Nat × (List Int)) (fun (p : Nat × Nat × (List Int)) => [(10, v70), (59, .int .i64 ((y68.1).length : Int)), (60, .int .i64 (p.1 : Int))]) (fun (p : Nat × Nat × (List Int)) => [own 3 TR.int v70 p.2.2]) (fun (p : Nat × Nat × (List Int)) => p.1 + p.2.1 = (y68.1).length ∧ rangeN rules_Winners_b1 p.2.1 p.1 p.2.2 = some y89) (fun (p : Nat × Nat × (List Int)) => p.2.1) (0, (y68.1).length, y68.1) ⟨by simp, h91⟩ (fun a w st => St.cut [2] ⟨rfl, rfl, rfl, trivial⟩ (by decide) rfl st) ?_
   rintro ⟨i96, r97, l79⟩ ⟨h102, h101⟩
   try dsimp only at h102 h101
   refine GL.weak (env' := [(10, v70), (59, .int .i64 ((y68.1).length : Int)), (60, .int .i64 (i96 : Int))]) (L' := [own 3 TR.int v70 l79]) (fun _ _ st => st) ?_
   refine GL.seq ?_
   refine GL.region ?_
   refine RL.binI (v := .bool (decide ((i96 : Int) < ((y68.1).length : Int)))) rfl rfl rfl rfl rfl ?_
   refine RL.finG ?_
   refine GL.seq ?_
   refine GL.cond rfl (fun b104 => ?_) (fun b104 => ?_)
   ·have h105 : i96 < (y68.1).length := by have := of_decide_eq_true b104; omega
    obtain ⟨r106, hr⟩ : ∃ m, r97 = m + 1 := ⟨r97 - 1, by omega⟩
    subst hr
    obtain ⟨z98, h99, h100⟩ := rangeN_some h101
    unfold rules_Winners_b1 at h99
    try dsimp only at h99
    refine GL.skip ?_
    refine GL.seq ?_
    refine GL.block ?_
    refine GL.seq ?_
    refine GL.region ?_
    refine RL.mv rfl rfl rfl ?_
    refine RL.asg rfl rfl rfl ?_
    refine RL.finG ?_
    refine GL.region ?_
    refine RL.mv rfl rfl rfl ?_
    refine RL.mv rfl rfl rfl ?_
    refine RL.mv rfl rfl rfl ?_
    refine RL.mv rfl rfl rfl ?_
    obtain ⟨y111, e112, h99⟩ := bind_some h99
    refine RL.idxS (sz := 1) 0 Try.underlying22 Try_ln3 rfl rfl rfl rfl rfl SlOf.own (idx_some e112).1 (idx_some e112).2.1 ?_
    refine RL.ldSx (i := i96) (e' := y111) 0 Ex.ik Try_ln3 rfl rfl rfl rfl SlOf.own (idx_some e112).2.2 Part.self ?_
    refine RL.negI rfl rfl rfl ?_
    obtain ⟨y113, e114, h99⟩ := bind_some h99
    refine RL.idxS (sz := 1) 0 Try.underlying22 Try_ln3 rfl rfl rfl rfl rfl SlOf.own (idx_some e114).1 (idx_some e114).2.1 ?_
    refine RL.stS (i := i96) (e' := wsub 0 y111) (e1 := wsub 0 y111) (r := TR.int) 0 Try_ln3 rfl rfl rfl rfl VR.int rfl (idx_some e114).2.2 Upd.self ?_
    refine RL.finG ?_
    refine GL.nilB ?_
    refine GL.region ?_
    refine RL.binI (v := .int .i64 ((i96 + 1 : Nat) : Int)) rfl rfl rfl rfl (binI_succ i96 (by omega)) ?_
    refine RL.mv rfl rfl rfl ?_
    refine RL.fin ?_
    cases h99
    exact fun a w st => lop_intro (i96 + 1, r106, (List.set l79 i96 (wsub 0 y111))) ⟨by show i96 + 1 + r106 = (y68.1).length; omega, h100⟩ (by simp) (St.cut [0] ⟨rfl, rfl, rfl, trivial⟩ (by decide) rfl st)
   have h105 : ¬ i96 < (y68.1).length := by have := of_decide_eq_false b104; omega
   obtain rfl : r97 = 0 := by omega
   replace h101 : some (Fl.nx _) = some y89 := h101
   cases h101
   exact GL.exit (fun a w st => mid_intro l79 h92 (St.cut [0] ⟨rfl, trivial⟩ (by decide) rfl st))
  rintro l79 h115
  have h116 := h93 _ h115
  try dsimp only at h116
  refine GL.weak (env' := [(10, v70)]) (L' := [own 3 TR.int v70 l79]) (fun _ _ st => st) ?_
  refine GL.nilB ?_
  refine GL.seq ?_
  refine GL.region ?_
  refine RL.mv rfl rfl rfl ?_
  obtain ⟨y120, e121, h116⟩ := bind_some h116
  refine RL.callU (vs := [v70]) (LR := fun (o : Value) => [own 3 TR.int o y120]) (fun o => ⟨Loc.own TR.flatT_ik, trivial⟩) Try_fit59 rfl rfl rfl rfl rfl (fun U w hU hW hL => rules_best_c U w hU _ _ (hL 0 _ _ rfl Seen.own) _ e121) ?_
  intro v122
  refine RL.asg rfl rfl rfl ?_
  refine RL.asg rfl rfl rfl ?_
  refine RL.finG ?_
  have h116 := Option.some.inj h116
  subst h116
  exact GL.ret (Gx.ret (v := .tuple #[v122, .int .i64 (0 : Int)]) (res2 rfl rfl rfl) (fun a w st => (st.pick [1] (by decide) rfl).toPost v122))
 replace h16 := ite_f b64 h16
 refine GL.seq ?_
 refine GL.region ?_
 refine RL.binI (v := .bool (x0 == (5 : Int))) rfl rfl rfl rfl rfl ?_
 refine RL.asg rfl rfl rfl ?_
 refine RL.finG ?_
 refine GL.cond rfl (fun b123 => ?_) (fun b123 => ?_)
 ·replace h16 := ite_t b123 h16
  refine GL.seq ?_
  refine GL.region ?_
  refine RL.mv rfl rfl rfl ?_
  refine RL.mv rfl rfl rfl ?_
  obtain ⟨y127, e128, h16⟩ := bind_some h16
  refine RL.call (vs := [.int .i64 x1, v2]) Try_fit58 rfl rfl rfl rfl rfl (fun S f w hS hW hi => rules_rounds_c S w hS x1 _ _ (hi 0 _ rfl) _ e128) ?_
  intro v129
  refine RL.reL (L' := [imm (TR.sl (TR.sl TR.int)) v2 x2, imm (TR.sl (TR.sl TR.int)) v23 y21.1, own 3 TR.int v129 y127]) rfl ?_
  refine RL.asg rfl rfl rfl ?_
  refine RL.asg rfl rfl rfl ?_
  refine RL.finG ?_
  have h16 := Option.some.inj h16
  subst h16
  exact GL.ret (Gx.ret (v := .tuple #[v129, .int .i64 (0 : Int)]) (res2 rfl rfl rfl) (fun a w st => (st.pick [2] (by decide) rfl).toPost v129))
 replace h16 := ite_f b123 h16
 refine GL.skip ?_
 refine GL.nilB ?_
 refine GL.seq ?_
 refine GL.region ?_
 refine RL.mv rfl rfl rfl ?_
 obtain ⟨y133, e134, h16⟩ := bind_some h16
 refine RL.call (vs := [Value.slice none 0 0]) Try_fit59 rfl rfl rfl rfl rfl (fun S f w hS hW hi => rules_best_c S w hS _ _ (VR.nil (L := []) S (fun _ => Hp.emp) (fun i A hA => by simp at hA)) _ e134) ?_
 intro v135
 refine RL.reL (L' := [imm (TR.sl (TR.sl TR.int)) v2 x2, imm (TR.sl (TR.sl TR.int)) v23 y21.1, own 3 TR.int v135 y133]) rfl ?_
 refine RL.asg rfl rfl rfl ?_
 refine RL.asg rfl rfl rfl ?_
 refine RL.finG ?_
 have h16 := Option.some.inj h16
 subst h16
 exact GL.ret (Gx.ret (v := .tuple #[v135, .int .i64 (0 : Int)]) (res2 rfl rfl rfl) (fun a w st => (st.pick [2] (by decide) rfl).toPost v135))

set_option maxHeartbeats 4000000 in
theorem slices_Contains_int_int_c (S : Hp) (w : World) (hS : S.sub w) (v0 : Value) (x0 : (List Int)) (k0 : ((TR.sl TR.int)).vrep S v0 x0) (x1 : Int) (res : Bool) (hm : slices_Contains_int_int_m x0 x1 = some res) : Calls Try.prog 69 #[v0, .int .i64 x1] w (PostC w (.bool res)) := by
 refine calls_enter 9 Try.func69 Try.ntmps69 rfl S true [(0, v0), (1, .int .i64 x1)] [imm (TR.sl TR.int) v0 x0] rfl ⟨rfl, ⟨rfl, trivial⟩⟩ hS ⟨k0, trivial⟩ ?_
 unfold slices_Contains_int_int_m at hm
 refine GL.seq ?_
 refine GL.region ?_
 refine RL.asg rfl rfl rfl ?_
 refine RL.finG ?_
 refine GL.seq ?_
 refine GL.region ?_
 refine RL.mv rfl rfl rfl ?_
 refine RL.mv rfl rfl rfl ?_
 obtain ⟨y5, e6, hm⟩ := bind_some hm
 refine RL.callC (v := .int .i64 y5) (vs := [v0, .int .i64 x1]) Try_fit50 rfl rfl rfl rfl (fun U w hU hW hL => slices_Index_int_int_c U w hU _ _ (hL 0 _ _ rfl Seen.imm) x1 _ e6) ?_
 refine RL.binI (v := .bool (decide (y5 ≥ (0 : Int)))) rfl rfl rfl rfl rfl ?_
 refine RL.asg rfl rfl rfl ?_
 refine RL.finG ?_
 have hm := Option.some.inj hm
 subst hm
 exact GL.ret (Gx.ret (v := .bool (decide (y5 ≥ (0 : Int)))) (res1 rfl rfl) (fun a w st => st.toPostC rfl))

set_option maxHeartbeats 4000000 in
theorem slices_Clone_int_int_c (S : Hp) (w : World) (hS : S.sub w) (v0 : Value) (x0 : List Int) (k0 : (TR.sl TR.int).vrep S v0 x0) (res : List Int) (hm : slices_Clone_int_int_m x0 = some res) : Calls Try.prog 35 #[v0] w (Post w S (fun (o : Value) => o) (fun (o : Value) => [own 3 TR.int o res])) := by
  refine calls_enter 8 Try.func35 Try.ntmps35 rfl S false [(0, v0)] [imm (TR.sl TR.int) v0 x0] rfl ⟨rfl, trivial⟩ hS ⟨k0, trivial⟩ ?_
  unfold slices_Clone_int_int_m at hm
  obtain ⟨_, hc, hm⟩ := bind_some hm
  replace hc := chk_some hc
  have hm := Option.some.inj hm
  subst hm
  refine GL.seq (GL.region (RL.asg rfl rfl rfl (RL.finG (GL.seq (GL.seq (GL.region ?_))))))
  refine RL.mv rfl rfl rfl ?_
  refine RL.eqNil 0 Try.underlying22 rfl rfl rfl rfl rfl SlOf.imm (fun b hb => ?_)
  refine RL.finG (GL.cond rfl (fun h => ?_) (fun h => ?_))
  · have := hb h
    subst this
    refine GL.seq (GL.region (RL.asg rfl rfl rfl (RL.finG ?_)))
    refine GL.weak (fun a w st => st.nilOwn 3 TR.int) ?_
    exact GL.ret (Gx.ret (v := Value.slice none 0 0) (res1 rfl rfl) (fun a w st => (st.pick [1] (by decide) rfl).toPost (Value.slice none 0 0)))
  · refine GL.skip (GL.seq (GL.region ?_))
    refine RL.bS (t := TR.int) (vs := []) ([] : List Int) Try.underlying22 Try_lo3 rfl rfl rfl rfl trivial rfl (by decide) ?_
    intro v1
    refine RL.mv rfl rfl rfl ?_
    refine RL.app 1 0 Try.underlying22 Try_lo3 rfl rfl rfl rfl rfl rfl rfl SlOf.imm (by simpa using hc) ?_
    intro v2
    refine RL.asg rfl rfl rfl (RL.finG ?_)
    exact GL.ret (Gx.ret (v := v2) (res1 rfl rfl) (fun a w st => (st.pick [1] (by decide) rfl).toPost v2))

set_option maxHeartbeats 4000000 in
theorem order_All_c (S : Hp) (w : World) (hS : S.sub w) (x0 : Int) (res : (List (List Int)) × Int) (hm : order_All_m x0 = some res) : Calls Try.prog 60 #[.int .i64 x0] w (Post w S (fun (o : Value) => .tuple #[o, .int .i64 res.2]) (fun (o : Value) => [own 22 (TR.sl TR.int) o res.1])) := by
 refine calls_enter 46 Try.func60 Try.ntmps60 rfl S false [(0, .int .i64 x0)] [] rfl ⟨rfl, trivial⟩ hS trivial ?_
 unfold order_All_m at hm
 refine GL.seq ?_
 refine GL.region ?_
 refine RL.asg rfl rfl rfl ?_
 refine RL.asg rfl rfl rfl ?_
 refine RL.finG ?_
 refine GL.seq ?_
 refine GL.seq ?_
 obtain ⟨y5, K6, h7, h8, h9, h10, h11⟩ := bindR_K hm
 refine GL.join (ι := Bool) (fun (p : Bool) => [(0, .int .i64 x0), (14, .bool p)]) (fun (p : Bool) => []) (fun (p : Bool) => K6 (.nx p)) ?_ ?_
 ·skip
  refine GL.region ?_
  refine RL.mv rfl rfl rfl ?_
  refine RL.binI (v := .bool (decide (x0 < (1 : Int)))) rfl rfl rfl rfl rfl ?_
  refine RL.mv rfl rfl rfl ?_
  refine RL.split (t := 11) rfl (fun b12 => ?_) (fun b12 => ?_)
  ·replace h7 := ite_t b12 h7
   refine RL.skip rfl rfl ?_
   refine RL.skip rfl rfl ?_
   refine RL.pickT rfl rfl rfl rfl ?_
   refine RL.fin ?_
   cases h7
   exact fun a w st => mid_intro true h8 (St.cut [] ⟨rfl, rfl, trivial⟩ (by decide) rfl st)
  replace h7 := ite_f b12 h7
  refine RL.mv rfl rfl rfl ?_
  refine RL.binI (v := .bool (decide (x0 > (6 : Int)))) rfl rfl rfl rfl rfl ?_
  refine RL.pickF rfl rfl rfl rfl ?_
  refine RL.fin ?_
  cases h7
  exact fun a w st => mid_intro (decide (x0 > (6 : Int))) h8 (St.cut [] ⟨rfl, rfl, trivial⟩ (by decide) rfl st)
 rintro x4 h13
 have h14 := h9 _ h13
 try dsimp only at h14
 refine GL.weak (env' := [(0, .int .i64 x0), (14, .bool x4)]) (L' := []) (fun _ _ st => st) ?_
 refine GL.cond rfl (fun b15 => ?_) (fun b15 => ?_)
 ·replace h14 := ite_t b15 h14
  refine GL.seq ?_
  refine GL.region ?_
  refine RL.asg rfl rfl rfl ?_
  refine RL.asg rfl rfl rfl ?_
  refine RL.finG ?_
  refine GL.weak (fun a w st => st.nilOwn 22 (TR.sl TR.int)) ?_
  have h14 := Option.some.inj h14
  subst h14
  exact GL.ret (Gx.ret (v := .tuple #[Value.slice none 0 0, .int .i64 (1 : Int)]) (res2 rfl rfl rfl) (fun a w st => (st.pick [0] (by decide) rfl).toPost (Value.slice none 0 0)))
 replace h14 := ite_f b15 h14
 refine GL.skip ?_
 refine GL.seq ?_
 refine GL.region ?_
 refine RL.bS (t := (TR.sl TR.int)) (vs := [Value.slice none 0 0]) ([[]] : (List (List Int))) Try.underlying27 Try_lo22 rfl rfl rfl rfl ⟨VR.nil, trivial⟩ rfl (by decide) ?_
 intro v17
 refine RL.asg rfl rfl rfl ?_
 refine RL.finG ?_
 refine GL.seq ?_
 refine GL.seq ?_
 refine GL.region ?_
 refine RL.mv rfl rfl rfl ?_
 refine RL.mv rfl rfl rfl ?_
 refine RL.finG ?_
 obtain ⟨y214, e215, h14⟩ := bind_some h14
 replace e215 := chk_some e215
 obtain ⟨y216, K217, h218, h219, h220, h221, h222⟩ := bindR_K h14
 refine GL.join (ι := (List (List Int)) × Value) (fun (p : (List (List Int)) × Value) => [(4, p.2)]) (fun (p : (List (List Int)) × Value) => [own 22 (TR.sl TR.int) p.2 p.1]) (fun (p : (List (List Int)) × Value) => K217 (.nx p.1)) ?_ ?_
 ·refine GL.block ?_
  refine GL.loop (ι := Nat × Nat × (List (List Int)) × Value) (fun (p : Nat × Nat × (List (List Int)) × Value) => [(0, .int .i64 x0), (4, p.2.2.2), (16, .int .i64 x0), (17, .int .i64 (p.1 : Int))]) (fun (p : Nat × Nat × (List (List Int)) × Value) => [own 22 (TR.sl TR.int) p.2.2.2 p.2.2.1]) (fun (p : Nat × Nat × (List (List Int)) × Value) => p.1 + p.2.1 = (x0).toNat ∧ rangeN (order_All_b1 x0) p.2.1 p.1 p.2.2.1 = some y216) (fun (p : Nat × Nat × (List (List Int)) × Value) => p.2.1) (0, (x0).toNat, ([[]] : (List (List Int))), v17) ⟨by simp, h218⟩ (fun a w st => St.cut [0] ⟨rfl, rfl, rfl, rfl, trivial⟩ (by decide) rfl st) ?_
  rintro ⟨i223, r224, l18, v19⟩ ⟨h229, h228⟩
  try dsimp only at h229 h228
  refine GL.weak (env' := [(0, .int .i64 x0), (4, v19), (16, .int .i64 x0), (17, .int .i64 (i223 : Int))]) (L' := [own 22 (TR.sl TR.int) v19 l18]) (fun _ _ st => st) ?_
  refine GL.seq ?_
  refine GL.region ?_
  refine RL.binI (v := .bool (decide ((i223 : Int) < x0))) rfl rfl rfl rfl rfl ?_
  refine RL.finG ?_
  refine GL.seq ?_
  refine GL.cond rfl (fun b231 => ?_) (fun b231 => ?_)
  ·have h232 : i223 < (x0).toNat := by have := of_decide_eq_true b231; omega
   obtain ⟨r233, hr⟩ : ∃ m, r224 = m + 1 := ⟨r224 - 1, by omega⟩
   subst hr
   obtain ⟨z225, h226, h227⟩ := rangeN_some h228
   unfold order_All_b1 at h226
   try dsimp only at h226
   refine GL.skip ?_
   refine GL.seq ?_
   refine GL.block ?_
   refine GL.seq ?_
   refine GL.region ?_
   refine RL.asg rfl rfl rfl ?_
   refine RL.finG ?_
   refine GL.seq ?_
   refine GL.seq ?_
   refine GL.region ?_
   refine RL.mv rfl rfl rfl ?_
   refine RL.lenS 0 Try.underlying27 rfl rfl rfl rfl SlOf.own ?_
   refine RL.mv rfl rfl rfl ?_
   refine RL.finG ?_
   refine GL.weak (fun a w st => st.nilOwn 22 (TR.sl TR.int)) ?_
   refine GL.lenOwn 0 rfl (fun n321 => ?_)
   obtain ⟨y322, K323, h324, h325, h326, h327, h328⟩ := bindF_K h226
   refine GL.join (ι := (List (List Int)) × Value) (fun (p : (List (List Int)) × Value) => [(0, .int .i64 x0), (5, p.2), (16, .int .i64 x0), (17, .int .i64 (i223 : Int))]) (fun (p : (List (List Int)) × Value) => [own 22 (TR.sl TR.int) p.2 p.1]) (fun (p : (List (List Int)) × Value) => K323 (.nx p.1)) ?_ ?_
   ·refine GL.block ?_
    refine GL.loop (ι := Nat × Nat × (List (List Int)) × Value) (fun (p : Nat × Nat × (List (List Int)) × Value) => [(0, .int .i64 x0), (5, p.2.2.2), (16, .int .i64 x0), (17, .int .i64 (i223 : Int)), (19, v19), (20, .int .i64 ((l18).length : Int)), (21, .int .i64 (p.1 : Int))]) (fun (p : Nat × Nat × (List (List Int)) × Value) => [own 22 (TR.sl TR.int) p.2.2.2 p.2.2.1, own 22 (TR.sl TR.int) v19 l18]) (fun (p : Nat × Nat × (List (List Int)) × Value) => p.1 + p.2.1 = (l18).length ∧ rangeN (order_All_b2 l18 x0) p.2.1 p.1 p.2.2.1 = some y322) (fun (p : Nat × Nat × (List (List Int)) × Value) => p.2.1) (0, (l18).length, [], Value.slice none 0 0) ⟨by simp, h324⟩ (fun a w st => St.cut [1, 0] ⟨rfl, rfl, rfl, rfl, rfl, rfl, rfl, trivial⟩ (by decide) rfl st) ?_
    rintro ⟨i329, r330, l234, v235⟩ ⟨h335, h334⟩
    try dsimp only at h335 h334
    refine GL.weak (env' := [(0, .int .i64 x0), (5, v235), (16, .int .i64 x0), (17, .int .i64 (i223 : Int)), (19, v19), (20, .int .i64 ((l18).length : Int)), (21, .int .i64 (i329 : Int))]) (L' := [own 22 (TR.sl TR.int) v235 l234, own 22 (TR.sl TR.int) v19 l18]) (fun _ _ st => st) ?_
    refine GL.seq ?_
    refine GL.region ?_
    refine RL.binI (v := .bool (decide ((i329 : Int) < ((l18).length : Int)))) rfl rfl rfl rfl rfl ?_
    refine RL.finG ?_
    refine GL.seq ?_
    refine GL.cond rfl (fun b337 => ?_) (fun b337 => ?_)
    ·have h338 : i329 < (l18).length := by have := of_decide_eq_true b337; omega
     obtain ⟨r339, hr⟩ : ∃ m, r330 = m + 1 := ⟨r330 - 1, by omega⟩
     subst hr
     obtain ⟨z331, h332, h333⟩ := rangeN_some h334
     unfold order_All_b2 at h332
     try dsimp only at h332
     refine GL.skip ?_
     refine GL.seq ?_
     refine GL.block ?_
     refine GL.seq ?_
     refine GL.region ?_
     obtain ⟨y343, e344, h332⟩ := bind_some h332
     refine RL.idxS (sz := 1) 1 Try.underlying27 Try_ln22 rfl rfl rfl rfl rfl SlOf.own (idx_some e344).1 (idx_some e344).2.1 ?_
     refine RL.ldS (i := i329) (r := (TR.sl TR.int)) (e' := y343) 1 Try_ln22 rfl rfl rfl rfl SlOf.own (idx_some e344).2.2 Part.self ?_
     intro v345
     refine RL.asg rfl rfl rfl ?_
     refine RL.finG ?_
     refine GL.seq ?_
     refine GL.region ?_
     refine RL.mv rfl rfl rfl ?_
     refine RL.mv rfl rfl rfl ?_
     refine RL.finG ?_
     obtain ⟨y376, e377, h332⟩ := bind_some h332
     replace e377 := chk_some e377
     obtain ⟨y378, K379, h380, h381, h382, h383, h384⟩ := bindF_K h332
     refine GL.join (ι := (List (List Int)) × Value) (fun (p : (List (List Int)) × Value) => [(0, .int .i64 x0), (5, p.2), (16, .int .i64 x0), (17, .int .i64 (i223 : Int)), (19, v19), (20, .int .i64 ((l18).length : Int)), (21, .int .i64 (i329 : Int))]) (fun (p : (List (List Int)) × Value) => [own 22 (TR.sl TR.int) p.2 p.1, own 22 (TR.sl TR.int) v19 l18]) (fun (p : (List (List Int)) × Value) => K379 (.nx p.1)) ?_ ?_
     ·refine GL.block ?_
      refine GL.loop (ι := Nat × Nat × (List (List Int)) × Value) (fun (p : Nat × Nat × (List (List Int)) × Value) => [(0, .int .i64 x0), (5, p.2.2.2), (7, v345), (16, .int .i64 x0), (17, .int .i64 (i223 : Int)), (19, v19), (20, .int .i64 ((l18).length : Int)), (21, .int .i64 (i329 : Int)), (25, .int .i64 x0), (26, .int .i64 (p.1 : Int))]) (fun (p : Nat × Nat × (List (List Int)) × Value) => [own 22 (TR.sl TR.int) p.2.2.2 p.2.2.1, imm (TR.sl TR.int) v345 y343, own 22 (TR.sl TR.int) v19 l18]) (fun (p : Nat × Nat × (List (List Int)) × Value) => p.1 + p.2.1 = (x0).toNat ∧ rangeN (order_All_b3 y343) p.2.1 p.1 p.2.2.1 = some y378) (fun (p : Nat × Nat × (List (List Int)) × Value) => p.2.1) (0, (x0).toNat, l234, v235) ⟨by simp, h380⟩ (fun a w st => St.cut [0, 2, 1] ⟨rfl, rfl, rfl, rfl, rfl, rfl, rfl, rfl, rfl, rfl, trivial⟩ (by decide) rfl st) ?_
      rintro ⟨i385, r386, l346, v347⟩ ⟨h391, h390⟩
      try dsimp only at h391 h390
      refine GL.weak (env' := [(0, .int .i64 x0), (5, v347), (7, v345), (16, .int .i64 x0), (17, .int .i64 (i223 : Int)), (19, v19), (20, .int .i64 ((l18).length : Int)), (21, .int .i64 (i329 : Int)), (25, .int .i64 x0), (26, .int .i64 (i385 : Int))]) (L' := [own 22 (TR.sl TR.int) v347 l346, imm (TR.sl TR.int) v345 y343, own 22 (TR.sl TR.int) v19 l18]) (fun _ _ st => st) ?_
      refine GL.seq ?_
      refine GL.region ?_
      refine RL.binI (v := .bool (decide ((i385 : Int) < x0))) rfl rfl rfl rfl rfl ?_
      refine RL.finG ?_
      refine GL.seq ?_
      refine GL.cond rfl (fun b393 => ?_) (fun b393 => ?_)
      ·have h394 : i385 < (x0).toNat := by have := of_decide_eq_true b393; omega
       obtain ⟨r395, hr⟩ : ∃ m, r386 = m + 1 := ⟨r386 - 1, by omega⟩
       subst hr
       obtain ⟨z387, h388, h389⟩ := rangeN_some h390
       unfold order_All_b3 at h388
       try dsimp only at h388
       refine GL.skip ?_
       refine GL.seq ?_
       refine GL.block ?_
       refine GL.seq ?_
       refine GL.region ?_
       refine RL.mv rfl rfl rfl ?_
       refine RL.asg rfl rfl rfl ?_
       refine RL.finG ?_
       refine GL.seq ?_
       refine GL.region ?_
       refine RL.mv rfl rfl rfl ?_
       refine RL.mv rfl rfl rfl ?_
       obtain ⟨y398, e399, h388⟩ := bind_some h388
       refine RL.callC (v := .bool y398) (vs := [v345, .int .i64 (i385 : Int)]) Try_fit69 rfl rfl rfl rfl (fun U w hU hW hL => slices_Contains_int_int_c U w hU _ _ (hL 1 _ _ rfl Seen.imm) (i385 : Int) _ e399) ?_
       refine RL.notB rfl rfl rfl ?_
       refine RL.finG ?_
       refine GL.cond rfl (fun b400 => ?_) (fun b400 => ?_)
       ·replace h388 := ite_t b400 h388
        refine GL.region ?_
        refine RL.mv rfl rfl rfl ?_
        refine RL.mv rfl rfl rfl ?_
        obtain ⟨y412, e413, h388⟩ := bind_some h388
        refine RL.call (vs := [v345]) Try_fit35 rfl rfl rfl rfl rfl (fun S f w hS hW hi => slices_Clone_int_int_c S w hS _ _ (hi 1 _ rfl) _ e413) ?_
        intro v414
        refine RL.mv rfl rfl rfl ?_
        refine RL.bS (t := TR.int) (vs := [.int .i64 (i385 : Int)]) ([(i385 : Int)] : (List Int)) Try.underlying22 Try_lo3 rfl rfl rfl rfl ⟨VR.int, trivial⟩ rfl (by decide) ?_
        intro v415
        refine RL.reL (L' := [own 22 (TR.sl TR.int) v347 l346, imm (TR.sl TR.int) v345 y343, own 22 (TR.sl TR.int) v19 l18, own 3 TR.int v414 y412, own 3 TR.int v415 ([(i385 : Int)] : (List Int))]) rfl ?_
        obtain ⟨y416, e417, h388⟩ := bind_some h388
        replace e417 := chk_some e417
        refine RL.app 3 4 Try.underlying22 Try_lo3 rfl rfl rfl rfl rfl rfl rfl SlOf.own e417 ?_
        intro v418
        refine RL.weak (fun a w st => st.freeze 3 rfl) ?_
        refine RL.bS (t := (TR.sl TR.int)) (vs := [v418]) ([(y412 ++ ([(i385 : Int)] : (List Int)))] : (List (List Int))) Try.underlying27 Try_lo22 rfl rfl rfl rfl ⟨(VR.item 3 rfl), trivial⟩ rfl (by decide) ?_
        intro v419
        refine RL.reL (L' := [own 22 (TR.sl TR.int) v347 l346, imm (TR.sl TR.int) v345 y343, own 22 (TR.sl TR.int) v19 l18, imm (TR.sl TR.int) v418 (y412 ++ ([(i385 : Int)] : (List Int))), own 3 TR.int v415 ([(i385 : Int)] : (List Int)), own 22 (TR.sl TR.int) v419 ([(y412 ++ ([(i385 : Int)] : (List Int)))] : (List (List Int)))]) rfl ?_
        obtain ⟨y420, e421, h388⟩ := bind_some h388
        replace e421 := chk_some e421
        refine RL.app 0 5 Try.underlying27 Try_lo22 rfl rfl rfl rfl rfl rfl rfl SlOf.own e421 ?_
        intro v422
        refine RL.asg rfl rfl rfl ?_
        refine RL.finG ?_
        refine GL.nilB ?_
        refine GL.region ?_
        refine RL.binI (v := .int .i64 ((i385 + 1 : Nat) : Int)) rfl rfl rfl rfl (binI_succ i385 (by omega)) ?_
        refine RL.mv rfl rfl rfl ?_
        refine RL.fin ?_
        cases h388
        exact fun a w st => lop_intro (i385 + 1, r395, (l346 ++ ([(y412 ++ ([(i385 : Int)] : (List Int)))] : (List (List Int)))), v422) ⟨by show i385 + 1 + r395 = (x0).toNat; omega, h389⟩ (by simp) (St.cut [0, 1, 2] ⟨rfl, rfl, rfl, rfl, rfl, rfl, rfl, rfl, rfl, rfl, trivial⟩ (by decide) rfl st)
       replace h388 := ite_f b400 h388
       refine GL.skip ?_
       refine GL.nilB ?_
       refine GL.region ?_
       refine RL.binI (v := .int .i64 ((i385 + 1 : Nat) : Int)) rfl rfl rfl rfl (binI_succ i385 (by omega)) ?_
       refine RL.mv rfl rfl rfl ?_
       refine RL.fin ?_
       cases h388
       exact fun a w st => lop_intro (i385 + 1, r395, l346, v347) ⟨by show i385 + 1 + r395 = (x0).toNat; omega, h389⟩ (by simp) (St.cut [0, 1, 2] ⟨rfl, rfl, rfl, rfl, rfl, rfl, rfl, rfl, rfl, rfl, trivial⟩ (by decide) rfl st)
      have h394 : ¬ i385 < (x0).toNat := by have := of_decide_eq_false b393; omega
      obtain rfl : r386 = 0 := by omega
      replace h390 : some (Fl.nx _) = some y378 := h390
      cases h390
      exact GL.exit (fun a w st => mid_intro (l346, v347) h381 (St.cut [0, 2] ⟨rfl, rfl, rfl, rfl, rfl, rfl, rfl, trivial⟩ (by decide) rfl st))
     rintro ⟨l346, v347⟩ h423
     have h424 := h382 _ h423
     try dsimp only at h424
     refine GL.weak (env' := [(0, .int .i64 x0), (5, v347), (16, .int .i64 x0), (17, .int .i64 (i223 : Int)), (19, v19), (20, .int .i64 ((l18).length : Int)), (21, .int .i64 (i329 : Int))]) (L' := [own 22 (TR.sl TR.int) v347 l346, own 22 (TR.sl TR.int) v19 l18]) (fun _ _ st => st) ?_
     refine GL.nilB ?_
     refine GL.region ?_
     refine RL.binI (v := .int .i64 ((i329 + 1 : Nat) : Int)) rfl rfl rfl rfl (binI_succ i329 (by omega)) ?_
     refine RL.mv rfl rfl rfl ?_
     refine RL.fin ?_
     cases h424
     exact fun a w st => lop_intro (i329 + 1, r339, l346, v347) ⟨by show i329 + 1 + r339 = (l18).length; omega, h333⟩ (by simp) (St.cut [0, 1] ⟨rfl, rfl, rfl, rfl, rfl, rfl, rfl, trivial⟩ (by decide) rfl st)
    have h338 : ¬ i329 < (l18).length := by have := of_decide_eq_false b337; omega
    obtain rfl : r330 = 0 := by omega
    replace h334 : some (Fl.nx _) = some y322 := h334
    cases h334
    exact GL.exit (fun a w st => mid_intro (l234, v235) h325 (St.cut [0] ⟨rfl, rfl, rfl, rfl, trivial⟩ (by decide) rfl st))
   rintro ⟨l234, v235⟩ h425
   have h426 := h326 _ h425
   try dsimp only at h426
   refine GL.weak (env' := [(0, .int .i64 x0), (5, v235), (16, .int .i64 x0), (17, .int .i64 (i223 : Int))]) (L' := [own 22 (TR.sl TR.int) v235 l234]) (fun _ _ st => st) ?_
   refine GL.region ?_
   refine RL.mv rfl rfl rfl ?_
   refine RL.asg rfl rfl rfl ?_
   refine RL.finG ?_
   refine GL.nilB ?_
   refine GL.region ?_
   refine RL.binI (v := .int .i64 ((i223 + 1 : Nat) : Int)) rfl rfl rfl rfl (binI_succ i223 (by omega)) ?_
   refine RL.mv rfl rfl rfl ?_
   refine RL.fin ?_
   cases h426
   exact fun a w st => lop_intro (i223 + 1, r233, l234, v235) ⟨by show i223 + 1 + r233 = (x0).toNat; omega, h227⟩ (by simp) (St.cut [0] ⟨rfl, rfl, rfl, rfl, trivial⟩ (by decide) rfl st)
  have h232 : ¬ i223 < (x0).toNat := by have := of_decide_eq_false b231; omega
  obtain rfl : r224 = 0 := by omega
  replace h228 : some (Fl.nx _) = some y216 := h228
  cases h228
  exact GL.exit (fun a w st => mid_intro (l18, v19) h219 (St.cut [0] ⟨rfl, trivial⟩ (by decide) rfl st))
 rintro ⟨l18, v19⟩ h427
 have h428 := h220 _ h427
 try dsimp only at h428
 refine GL.weak (env' := [(4, v19)]) (L' := [own 22 (TR.sl TR.int) v19 l18]) (fun _ _ st => st) ?_
 refine GL.seq ?_
 refine GL.region ?_
 refine RL.mv rfl rfl rfl ?_
 refine RL.asg rfl rfl rfl ?_
 refine RL.asg rfl rfl rfl ?_
 refine RL.finG ?_
 have h428 := Option.some.inj h428
 subst h428
 exact GL.ret (Gx.ret (v := .tuple #[v19, .int .i64 (0 : Int)]) (res2 rfl rfl rfl) (fun a w st => (st.pick [0] (by decide) rfl).toPost v19))

set_option maxHeartbeats 4000000 in
theorem middle_Best_c (S : Hp) (w : World) (hS : S.sub w) (x0 : Int) (v1 : Value) (x1 : (List (List Int))) (k1 : ((TR.sl (TR.sl TR.int))).vrep S v1 x1) (res : (List Int) × Int × Int) (hm : middle_Best_m x0 x1 = some res) : Calls Try.prog 26 #[.int .i64 x0, v1] w (Post w S (fun (o : Value) => .tuple #[o, .int .i64 res.2.1, .int .i64 res.2.2]) (fun (o : Value) => [imm (TR.sl TR.int) o res.1])) := by
 refine calls_enter 79 Try.func26 Try.ntmps26 rfl S false [(0, .int .i64 x0), (1, v1)] [imm (TR.sl (TR.sl TR.int)) v1 x1] rfl ⟨rfl, ⟨rfl, trivial⟩⟩ hS ⟨k1, trivial⟩ ?_
 unfold middle_Best_m at hm
 refine GL.seq ?_
 refine GL.region ?_
 refine RL.asg rfl rfl rfl ?_
 refine RL.asg rfl rfl rfl ?_
 refine RL.asg rfl rfl rfl ?_
 refine RL.finG ?_
 refine GL.seq ?_
 refine GL.region ?_
 refine RL.mv rfl rfl rfl ?_
 refine RL.mv rfl rfl rfl ?_
 obtain ⟨y6, e7, hm⟩ := bind_some hm
 refine RL.call (vs := [.int .i64 x0, v1]) Try_fit22 rfl rfl rfl rfl rfl (fun S f w hS hW hi => tally_Duels_c S w hS x0 _ _ (hi 0 _ rfl) _ e7) ?_
 intro v8
 refine RL.mv rfl rfl rfl ?_
 refine RL.ext rfl rfl rfl rfl ?_
 refine RL.ext rfl rfl rfl rfl ?_
 refine RL.asg rfl rfl rfl ?_
 refine RL.asg rfl rfl rfl ?_
 refine RL.finG ?_
 refine GL.seq ?_
 refine GL.seq ?_
 refine GL.region ?_
 refine RL.mv rfl rfl rfl ?_
 refine RL.binI (v := .bool (y6.2 != (0 : Int))) rfl rfl rfl rfl rfl ?_
 refine RL.finG ?_
 refine GL.cond rfl (fun b9 => ?_) (fun b9 => ?_)
 ·replace hm := ite_t b9 hm
  refine GL.seq ?_
  refine GL.region ?_
  refine RL.mv rfl rfl rfl ?_
  refine RL.asg rfl rfl rfl ?_
  refine RL.asg rfl rfl rfl ?_
  refine RL.asg rfl rfl rfl ?_
  refine RL.finG ?_
  refine GL.weak (fun a w st => st.nilImm TR.int) ?_
  have hm := Option.some.inj hm
  subst hm
  exact GL.ret (Gx.ret (v := .tuple #[Value.slice none 0 0, .int .i64 (0 : Int), .int .i64 y6.2]) (res3 rfl rfl rfl rfl) (fun a w st => (st.pick [2] (by decide) rfl).toPost (Value.slice none 0 0)))
 replace hm := ite_f b9 hm
 refine GL.skip ?_
 refine GL.seq ?_
 refine GL.region ?_
 refine RL.mv rfl rfl rfl ?_
 obtain ⟨y13, e14, hm⟩ := bind_some hm
 refine RL.call (vs := [.int .i64 x0]) Try_fit60 rfl rfl rfl rfl rfl (fun S f w hS hW hi => order_All_c S w hS x0 _ e14) ?_
 intro v15
 refine RL.reL (L' := [imm (TR.sl (TR.sl TR.int)) v1 x1, imm (TR.sl (TR.sl TR.int)) v8 y6.1, own 22 (TR.sl TR.int) v15 y13.1]) rfl ?_
 refine RL.mv rfl rfl rfl ?_
 refine RL.ext rfl rfl rfl rfl ?_
 refine RL.ext rfl rfl rfl rfl ?_
 refine RL.asg rfl rfl rfl ?_
 refine RL.asg rfl rfl rfl ?_
 refine RL.finG ?_
 refine GL.seq ?_
 refine GL.region ?_
 refine RL.asg rfl rfl rfl ?_
 refine RL.finG ?_
 refine GL.seq ?_
 refine GL.region ?_
 refine RL.asg rfl rfl rfl ?_
 refine RL.finG ?_
 refine GL.seq ?_
 refine GL.seq ?_
 refine GL.region ?_
 refine RL.mv rfl rfl rfl ?_
 refine RL.lenS 2 Try.underlying27 rfl rfl rfl rfl SlOf.own ?_
 refine RL.mv rfl rfl rfl ?_
 refine RL.finG ?_
 refine GL.weak (fun a w st => st.nilOwn 3 TR.int) ?_
 refine GL.weak (fun a w st => st.freeze 3 rfl) ?_
 refine GL.lenOwn 2 rfl (fun n340 => ?_)
 obtain ⟨y341, K342, h343, h344, h345, h346, h347⟩ := bindR_K hm
 refine GL.join (ι := (List Int) × Int × Value) (fun (p : (List Int) × Int × Value) => [(11, p.2.2), (12, .int .i64 p.2.1)]) (fun (p : (List Int) × Int × Value) => [imm (TR.sl TR.int) p.2.2 p.1]) (fun (p : (List Int) × Int × Value) => K342 (.nx (p.1, p.2.1))) ?_ ?_
 ·refine GL.block ?_
  refine GL.loop (ι := Nat × Nat × (List Int) × Int × Value) (fun (p : Nat × Nat × (List Int) × Int × Value) => [(7, v8), (11, p.2.2.2.2), (12, .int .i64 p.2.2.2.1), (34, v15), (35, .int .i64 ((y13.1).length : Int)), (36, .int .i64 (p.1 : Int))]) (fun (p : Nat × Nat × (List Int) × Int × Value) => [imm (TR.sl (TR.sl TR.int)) v8 y6.1, imm (TR.sl TR.int) p.2.2.2.2 p.2.2.1, own 22 (TR.sl TR.int) v15 y13.1]) (fun (p : Nat × Nat × (List Int) × Int × Value) => p.1 + p.2.1 = (y13.1).length ∧ rangeN (middle_Best_b1 y13 y6) p.2.1 p.1 (p.2.2.1, p.2.2.2.1) = some y341) (fun (p : Nat × Nat × (List Int) × Int × Value) => p.2.1) (0, (y13.1).length, [], (-1 : Int), Value.slice none 0 0) ⟨by simp, h343⟩ (fun a w st => St.cut [1, 3, 2] ⟨rfl, rfl, rfl, rfl, rfl, rfl, trivial⟩ (by decide) rfl st) ?_
  rintro ⟨i348, r349, l178, x180, v179⟩ ⟨h354, h353⟩
  try dsimp only at h354 h353
  refine GL.weak (env' := [(7, v8), (11, v179), (12, .int .i64 x180), (34, v15), (35, .int .i64 ((y13.1).length : Int)), (36, .int .i64 (i348 : Int))]) (L' := [imm (TR.sl (TR.sl TR.int)) v8 y6.1, imm (TR.sl TR.int) v179 l178, own 22 (TR.sl TR.int) v15 y13.1]) (fun _ _ st => st) ?_
  refine GL.seq ?_
  refine GL.region ?_
  refine RL.binI (v := .bool (decide ((i348 : Int) < ((y13.1).length : Int)))) rfl rfl rfl rfl rfl ?_
  refine RL.finG ?_
  refine GL.seq ?_
  refine GL.cond rfl (fun b356 => ?_) (fun b356 => ?_)
  ·have h357 : i348 < (y13.1).length := by have := of_decide_eq_true b356; omega
   obtain ⟨r358, hr⟩ : ∃ m, r349 = m + 1 := ⟨r349 - 1, by omega⟩
   subst hr
   obtain ⟨z350, h351, h352⟩ := rangeN_some h353
   unfold middle_Best_b1 at h351
   try dsimp only at h351
   refine GL.skip ?_
   refine GL.seq ?_
   refine GL.block ?_
   refine GL.seq ?_
   refine GL.region ?_
   obtain ⟨y362, e363, h351⟩ := bind_some h351
   refine RL.idxS (sz := 1) 2 Try.underlying27 Try_ln22 rfl rfl rfl rfl rfl SlOf.own (idx_some e363).1 (idx_some e363).2.1 ?_
   refine RL.ldS (i := i348) (r := (TR.sl TR.int)) (e' := y362) 2 Try_ln22 rfl rfl rfl rfl SlOf.own (idx_some e363).2.2 Part.self ?_
   intro v364
   refine RL.asg rfl rfl rfl ?_
   refine RL.finG ?_
   refine GL.seq ?_
   refine GL.region ?_
   refine RL.asg rfl rfl rfl ?_
   refine RL.finG ?_
   refine GL.seq ?_
   refine GL.seq ?_
   refine GL.region ?_
   refine RL.mv rfl rfl rfl ?_
   refine RL.lenS 3 Try.underlying22 rfl rfl rfl rfl SlOf.imm ?_
   refine RL.mv rfl rfl rfl ?_
   refine RL.finG ?_
   refine GL.open_ 3 rfl (fun S h => len_imm S h) (fun n425 => ?_)
   obtain ⟨y426, K427, h428, h429, h430, h431, h432⟩ := bindF_K h351
   refine GL.join (ι := Int) (fun (p : Int) => [(7, v8), (11, v179), (12, .int .i64 x180), (14, v364), (15, .int .i64 p), (34, v15), (35, .int .i64 ((y13.1).length : Int)), (36, .int .i64 (i348 : Int))]) (fun (p : Int) => [imm (TR.sl (TR.sl TR.int)) v8 y6.1, imm (TR.sl TR.int) v179 l178, imm (TR.sl TR.int) v364 y362, own 22 (TR.sl TR.int) v15 y13.1]) (fun (p : Int) => K427 (.nx p)) ?_ ?_
   ·refine GL.block ?_
    refine GL.loop (ι := Nat × (List Int) × Int) (fun (p : Nat × (List Int) × Int) => [(7, v8), (11, v179), (12, .int .i64 x180), (14, v364), (15, .int .i64 p.2.2), (34, v15), (35, .int .i64 ((y13.1).length : Int)), (36, .int .i64 (i348 : Int)), (40, v364), (41, .int .i64 ((y362).length : Int)), (42, .int .i64 (p.1 : Int))]) (fun (p : Nat × (List Int) × Int) => [imm (TR.sl (TR.sl TR.int)) v8 y6.1, imm (TR.sl TR.int) v179 l178, imm (TR.sl TR.int) v364 y362, own 22 (TR.sl TR.int) v15 y13.1]) (fun (p : Nat × (List Int) × Int) => p.1 + p.2.1.length = (y362).length ∧ List.drop p.1 y362 = p.2.1 ∧ rangeL (middle_Best_b2 y362 y6) p.2.1 p.1 p.2.2 = some y426) (fun (p : Nat × (List Int) × Int) => p.2.1.length) (0, y362, (0 : Int)) ⟨by simp, by simp, h428⟩ (fun a w st => St.cut [0, 1, 3, 2] ⟨rfl, rfl, rfl, rfl, rfl, rfl, rfl, rfl, rfl, rfl, rfl, trivial⟩ (by decide) rfl st) ?_
    rintro ⟨i433, r434, x365⟩ ⟨h439, h440, h438⟩
    try dsimp only at h439 h440 h438
    refine GL.weak (env' := [(7, v8), (11, v179), (12, .int .i64 x180), (14, v364), (15, .int .i64 x365), (34, v15), (35, .int .i64 ((y13.1).length : Int)), (36, .int .i64 (i348 : Int)), (40, v364), (41, .int .i64 ((y362).length : Int)), (42, .int .i64 (i433 : Int))]) (L' := [imm (TR.sl (TR.sl TR.int)) v8 y6.1, imm (TR.sl TR.int) v179 l178, imm (TR.sl TR.int) v364 y362, own 22 (TR.sl TR.int) v15 y13.1]) (fun _ _ st => st) ?_
    refine GL.seq ?_
    refine GL.region ?_
    refine RL.binI (v := .bool (decide ((i433 : Int) < ((y362).length : Int)))) rfl rfl rfl rfl rfl ?_
    refine RL.finG ?_
    refine GL.seq ?_
    refine GL.cond rfl (fun b441 => ?_) (fun b441 => ?_)
    ·have h442 : i433 < (y362).length := by have := of_decide_eq_true b441; omega
     obtain ⟨y443, r445, hr, e444, h446⟩ := drop_cons h440 rfl h442
     subst hr
     obtain ⟨z435, h436, h437⟩ := rangeL_some h438
     unfold middle_Best_b2 at h436
     try dsimp only at h436
     refine GL.skip ?_
     refine GL.seq ?_
     refine GL.block ?_
     refine GL.seq ?_
     refine GL.region ?_
     refine RL.mv rfl rfl rfl ?_
     refine RL.idxS (sz := 1) 2 Try.underlying22 Try_ln3 rfl rfl rfl rfl rfl SlOf.imm (by omega) (by omega) ?_
     refine RL.ldSx (i := i433) (e' := y443) 2 Ex.ik Try_ln3 rfl rfl rfl rfl SlOf.imm e444 Part.self ?_
     refine RL.asg rfl rfl rfl ?_
     refine RL.asg rfl rfl rfl ?_
     refine RL.finG ?_
     refine GL.seq ?_
     refine GL.region ?_
     refine RL.mv rfl rfl rfl ?_
     refine RL.mv rfl rfl rfl ?_
     refine RL.binI (v := .int .i64 (wadd (i433 : Int) (1 : Int))) rfl rfl rfl rfl rfl ?_
     obtain ⟨y450, e451, h436⟩ := bind_some h436
     replace e451 := chk_some e451
     refine RL.slc (t := TR.int) (i := (wadd (i433 : Int) (1 : Int)).toNat) (j := (y362).length) (sz := 1) 2 Try.underlying22 Try_ln3 rfl rfl rfl rfl (Or.inr ⟨_, _, rfl, by rw [Int.toNat_of_nonneg (by omega)]; rfl⟩) (Or.inl ⟨rfl, rfl⟩) rfl (by omega) (by omega) ?_
     intro v452
     refine RL.lenS 4 Try.underlying22 rfl rfl rfl rfl SlOf.imm ?_
     refine RL.mv rfl rfl rfl ?_
     refine RL.finG ?_
     refine GL.open_ 4 rfl (fun S h => len_imm S h) (fun n468 => ?_)
     obtain ⟨y469, K470, h471, h472, h473, h474, h475⟩ := bindF_K h436
     refine GL.join (ι := Int) (fun (p : Int) => [(7, v8), (11, v179), (12, .int .i64 x180), (14, v364), (15, .int .i64 p), (34, v15), (35, .int .i64 ((y13.1).length : Int)), (36, .int .i64 (i348 : Int)), (40, v364), (41, .int .i64 ((y362).length : Int)), (42, .int .i64 (i433 : Int))]) (fun (p : Int) => [imm (TR.sl (TR.sl TR.int)) v8 y6.1, imm (TR.sl TR.int) v179 l178, imm (TR.sl TR.int) v364 y362, own 22 (TR.sl TR.int) v15 y13.1]) (fun (p : Int) => K470 (.nx p)) ?_ ?_
     ·refine GL.block ?_
      refine GL.loop (ι := Nat × (List Int) × Int) (fun (p : Nat × (List Int) × Int) => [(7, v8), (11, v179), (12, .int .i64 x180), (14, v364), (15, .int .i64 p.2.2), (17, .int .i64 y443), (34, v15), (35, .int .i64 ((y13.1).length : Int)), (36, .int .i64 (i348 : Int)), (40, v364), (41, .int .i64 ((y362).length : Int)), (42, .int .i64 (i433 : Int)), (50, v452), (51, .int .i64 ((((List.take ((y362).length) y362).drop ((wadd (i433 : Int) (1 : Int)).toNat))).length : Int)), (52, .int .i64 (p.1 : Int))]) (fun (p : Nat × (List Int) × Int) => [imm (TR.sl (TR.sl TR.int)) v8 y6.1, imm (TR.sl TR.int) v179 l178, imm (TR.sl TR.int) v364 y362, own 22 (TR.sl TR.int) v15 y13.1, imm (TR.sl TR.int) v452 ((List.take ((y362).length) y362).drop ((wadd (i433 : Int) (1 : Int)).toNat))]) (fun (p : Nat × (List Int) × Int) => p.1 + p.2.1.length = (((List.take ((y362).length) y362).drop ((wadd (i433 : Int) (1 : Int)).toNat))).length ∧ List.drop p.1 ((List.take ((y362).length) y362).drop ((wadd (i433 : Int) (1 : Int)).toNat)) = p.2.1 ∧ rangeL (middle_Best_b3 y6 y443) p.2.1 p.1 p.2.2 = some y469) (fun (p : Nat × (List Int) × Int) => p.2.1.length) (0, ((List.take ((y362).length) y362).drop ((wadd (i433 : Int) (1 : Int)).toNat)), x365) ⟨by simp, by simp, h471⟩ (fun a w st => St.cut [0, 1, 2, 3, 4] ⟨rfl, rfl, rfl, rfl, rfl, rfl, rfl, rfl, rfl, rfl, rfl, rfl, rfl, rfl, rfl, trivial⟩ (by decide) rfl st) ?_
      rintro ⟨i476, r477, x453⟩ ⟨h482, h483, h481⟩
      try dsimp only at h482 h483 h481
      refine GL.weak (env' := [(7, v8), (11, v179), (12, .int .i64 x180), (14, v364), (15, .int .i64 x453), (17, .int .i64 y443), (34, v15), (35, .int .i64 ((y13.1).length : Int)), (36, .int .i64 (i348 : Int)), (40, v364), (41, .int .i64 ((y362).length : Int)), (42, .int .i64 (i433 : Int)), (50, v452), (51, .int .i64 ((((List.take ((y362).length) y362).drop ((wadd (i433 : Int) (1 : Int)).toNat))).length : Int)), (52, .int .i64 (i476 : Int))]) (L' := [imm (TR.sl (TR.sl TR.int)) v8 y6.1, imm (TR.sl TR.int) v179 l178, imm (TR.sl TR.int) v364 y362, own 22 (TR.sl TR.int) v15 y13.1, imm (TR.sl TR.int) v452 ((List.take ((y362).length) y362).drop ((wadd (i433 : Int) (1 : Int)).toNat))]) (fun _ _ st => st) ?_
      refine GL.seq ?_
      refine GL.region ?_
      refine RL.binI (v := .bool (decide ((i476 : Int) < ((((List.take ((y362).length) y362).drop ((wadd (i433 : Int) (1 : Int)).toNat))).length : Int)))) rfl rfl rfl rfl rfl ?_
      refine RL.finG ?_
      refine GL.seq ?_
      refine GL.cond rfl (fun b484 => ?_) (fun b484 => ?_)
      ·have h485 : i476 < (((List.take ((y362).length) y362).drop ((wadd (i433 : Int) (1 : Int)).toNat))).length := by have := of_decide_eq_true b484; omega
       obtain ⟨y486, r488, hr, e487, h489⟩ := drop_cons h483 rfl h485
       subst hr
       obtain ⟨z478, h479, h480⟩ := rangeL_some h481
       unfold middle_Best_b3 at h479
       try dsimp only at h479
       refine GL.skip ?_
       refine GL.seq ?_
       refine GL.block ?_
       refine GL.seq ?_
       refine GL.region ?_
       refine RL.idxS (sz := 1) 4 Try.underlying22 Try_ln3 rfl rfl rfl rfl rfl SlOf.imm (by omega) (by omega) ?_
       refine RL.ldSx (i := i476) (e' := y486) 4 Ex.ik Try_ln3 rfl rfl rfl rfl SlOf.imm e487 Part.self ?_
       refine RL.asg rfl rfl rfl ?_
       refine RL.finG ?_
       refine GL.region ?_
       refine RL.mv rfl rfl rfl ?_
       refine RL.mv rfl rfl rfl ?_
       refine RL.mv rfl rfl rfl ?_
       obtain ⟨y495, e496, h479⟩ := bind_some h479
       refine RL.idxS (sz := 1) 0 Try.underlying27 Try_ln22 rfl rfl rfl rfl rfl SlOf.imm (idx_some e496).1 (idx_some e496).2.1 ?_
       refine RL.ldS (i := (y486).toNat) (r := (TR.sl TR.int)) (e' := y495) 0 Try_ln22 rfl rfl rfl rfl SlOf.imm (idx_some e496).2.2 Part.self ?_
       intro v497
       refine RL.mv rfl rfl rfl ?_
       obtain ⟨y498, e499, h479⟩ := bind_some h479
       refine RL.idxS (sz := 1) 5 Try.underlying22 Try_ln3 rfl rfl rfl rfl rfl SlOf.imm (idx_some e499).1 (idx_some e499).2.1 ?_
       refine RL.ldSx (i := (y443).toNat) (e' := y498) 5 Ex.ik Try_ln3 rfl rfl rfl rfl SlOf.imm (idx_some e499).2.2 Part.self ?_
       refine RL.binI (v := .int .i64 (wadd x453 y498)) rfl rfl rfl rfl rfl ?_
       refine RL.asg rfl rfl rfl ?_
       refine RL.finG ?_
       refine GL.nilB ?_
       refine GL.region ?_
       refine RL.binI (v := .int .i64 ((i476 + 1 : Nat) : Int)) rfl rfl rfl rfl (binI_succ i476 (by omega)) ?_
       refine RL.mv rfl rfl rfl ?_
       refine RL.fin ?_
       cases h479
       exact fun a w st => lop_intro (i476 + 1, r488, wadd x453 y498) ⟨by show i476 + 1 + r488.length = (((List.take ((y362).length) y362).drop ((wadd (i433 : Int) (1 : Int)).toNat))).length; simp only [List.length_cons] at h482; omega, h489, h480⟩ (by simp) (St.cut [0, 1, 2, 3, 4] ⟨rfl, rfl, rfl, rfl, rfl, rfl, rfl, rfl, rfl, rfl, rfl, rfl, rfl, rfl, rfl, trivial⟩ (by decide) rfl st)
      have h485 : ¬ i476 < (((List.take ((y362).length) y362).drop ((wadd (i433 : Int) (1 : Int)).toNat))).length := by have := of_decide_eq_false b484; omega
      obtain rfl : r477 = [] := by rw [← h483]; exact List.drop_of_length_le (by omega)
      replace h481 : some (Fl.nx _) = some y469 := h481
      cases h481
      exact GL.exit (fun a w st => mid_intro x453 h472 (St.cut [0, 1, 2, 3] ⟨rfl, rfl, rfl, rfl, rfl, rfl, rfl, rfl, rfl, rfl, rfl, trivial⟩ (by decide) rfl st))
     rintro x453 h500
     have h501 := h473 _ h500
     try dsimp only at h501
     refine GL.weak (env' := [(7, v8), (11, v179), (12, .int .i64 x180), (14, v364), (15, .int .i64 x453), (34, v15), (35, .int .i64 ((y13.1).length : Int)), (36, .int .i64 (i348 : Int)), (40, v364), (41, .int .i64 ((y362).length : Int)), (42, .int .i64 (i433 : Int))]) (L' := [imm (TR.sl (TR.sl TR.int)) v8 y6.1, imm (TR.sl TR.int) v179 l178, imm (TR.sl TR.int) v364 y362, own 22 (TR.sl TR.int) v15 y13.1]) (fun _ _ st => st) ?_
     refine GL.nilB ?_
     refine GL.region ?_
     refine RL.binI (v := .int .i64 ((i433 + 1 : Nat) : Int)) rfl rfl rfl rfl (binI_succ i433 (by omega)) ?_
     refine RL.mv rfl rfl rfl ?_
     refine RL.fin ?_
     cases h501
     exact fun a w st => lop_intro (i433 + 1, r445, x453) ⟨by show i433 + 1 + r445.length = (y362).length; simp only [List.length_cons] at h439; omega, h446, h437⟩ (by simp) (St.cut [0, 1, 2, 3] ⟨rfl, rfl, rfl, rfl, rfl, rfl, rfl, rfl, rfl, rfl, rfl, trivial⟩ (by decide) rfl st)
    have h442 : ¬ i433 < (y362).length := by have := of_decide_eq_false b441; omega
    obtain rfl : r434 = [] := by rw [← h440]; exact List.drop_of_length_le (by omega)
    replace h438 : some (Fl.nx _) = some y426 := h438
    cases h438
    exact GL.exit (fun a w st => mid_intro x365 h429 (St.cut [0, 1, 2, 3] ⟨rfl, rfl, rfl, rfl, rfl, rfl, rfl, rfl, trivial⟩ (by decide) rfl st))
   rintro x365 h502
   have h503 := h430 _ h502
   try dsimp only at h503
   refine GL.weak (env' := [(7, v8), (11, v179), (12, .int .i64 x180), (14, v364), (15, .int .i64 x365), (34, v15), (35, .int .i64 ((y13.1).length : Int)), (36, .int .i64 (i348 : Int))]) (L' := [imm (TR.sl (TR.sl TR.int)) v8 y6.1, imm (TR.sl TR.int) v179 l178, imm (TR.sl TR.int) v364 y362, own 22 (TR.sl TR.int) v15 y13.1]) (fun _ _ st => st) ?_
   refine GL.seq ?_
   obtain ⟨y507, K508, h509, h510, h511, h512, h513⟩ := bindF_K h503
   refine GL.join (ι := Bool) (fun (p : Bool) => [(7, v8), (11, v179), (12, .int .i64 x180), (14, v364), (15, .int .i64 x365), (34, v15), (35, .int .i64 ((y13.1).length : Int)), (36, .int .i64 (i348 : Int)), (73, .bool p)]) (fun (p : Bool) => [imm (TR.sl (TR.sl TR.int)) v8 y6.1, imm (TR.sl TR.int) v179 l178, imm (TR.sl TR.int) v364 y362, own 22 (TR.sl TR.int) v15 y13.1]) (fun (p : Bool) => K508 (.nx p)) ?_ ?_
   ·skip
    refine GL.region ?_
    refine RL.mv rfl rfl rfl ?_
    refine RL.binI (v := .bool (decide (x180 < (0 : Int)))) rfl rfl rfl rfl rfl ?_
    refine RL.mv rfl rfl rfl ?_
    refine RL.split (t := 69) rfl (fun b514 => ?_) (fun b514 => ?_)
    ·replace h509 := ite_t b514 h509
     refine RL.skip rfl rfl ?_
     refine RL.skip rfl rfl ?_
     refine RL.skip rfl rfl ?_
     refine RL.pickT rfl rfl rfl rfl ?_
     refine RL.fin ?_
     cases h509
     exact fun a w st => mid_intro true h510 (St.cut [0, 1, 2, 3] ⟨rfl, rfl, rfl, rfl, rfl, rfl, rfl, rfl, rfl, trivial⟩ (by decide) rfl st)
    replace h509 := ite_f b514 h509
    refine RL.mv rfl rfl rfl ?_
    refine RL.mv rfl rfl rfl ?_
    refine RL.binI (v := .bool (decide (x365 < x180))) rfl rfl rfl rfl rfl ?_
    refine RL.pickF rfl rfl rfl rfl ?_
    refine RL.fin ?_
    cases h509
    exact fun a w st => mid_intro (decide (x365 < x180)) h510 (St.cut [0, 1, 2, 3] ⟨rfl, rfl, rfl, rfl, rfl, rfl, rfl, rfl, rfl, trivial⟩ (by decide) rfl st)
   rintro x506 h515
   have h516 := h511 _ h515
   try dsimp only at h516
   refine GL.weak (env' := [(7, v8), (11, v179), (12, .int .i64 x180), (14, v364), (15, .int .i64 x365), (34, v15), (35, .int .i64 ((y13.1).length : Int)), (36, .int .i64 (i348 : Int)), (73, .bool x506)]) (L' := [imm (TR.sl (TR.sl TR.int)) v8 y6.1, imm (TR.sl TR.int) v179 l178, imm (TR.sl TR.int) v364 y362, own 22 (TR.sl TR.int) v15 y13.1]) (fun _ _ st => st) ?_
   refine GL.cond rfl (fun b517 => ?_) (fun b517 => ?_)
   ·replace h516 := ite_t b517 h516
    refine GL.region ?_
    refine RL.mv rfl rfl rfl ?_
    refine RL.mv rfl rfl rfl ?_
    refine RL.asg rfl rfl rfl ?_
    refine RL.asg rfl rfl rfl ?_
    refine RL.finG ?_
    refine GL.nilB ?_
    refine GL.region ?_
    refine RL.binI (v := .int .i64 ((i348 + 1 : Nat) : Int)) rfl rfl rfl rfl (binI_succ i348 (by omega)) ?_
    refine RL.mv rfl rfl rfl ?_
    refine RL.fin ?_
    cases h516
    exact fun a w st => lop_intro (i348 + 1, r358, y362, x365, v364) ⟨by show i348 + 1 + r358 = (y13.1).length; omega, h352⟩ (by simp) (St.cut [0, 2, 3] ⟨rfl, rfl, rfl, rfl, rfl, rfl, trivial⟩ (by decide) rfl st)
   replace h516 := ite_f b517 h516
   refine GL.skip ?_
   refine GL.nilB ?_
   refine GL.region ?_
   refine RL.binI (v := .int .i64 ((i348 + 1 : Nat) : Int)) rfl rfl rfl rfl (binI_succ i348 (by omega)) ?_
   refine RL.mv rfl rfl rfl ?_
   refine RL.fin ?_
   cases h516
   exact fun a w st => lop_intro (i348 + 1, r358, l178, x180, v179) ⟨by show i348 + 1 + r358 = (y13.1).length; omega, h352⟩ (by simp) (St.cut [0, 1, 3] ⟨rfl, rfl, rfl, rfl, rfl, rfl, trivial⟩ (by decide) rfl st)
  have h357 : ¬ i348 < (y13.1).length := by have := of_decide_eq_false b356; omega
  obtain rfl : r349 = 0 := by omega
  replace h353 : some (Fl.nx _) = some y341 := h353
  cases h353
  exact GL.exit (fun a w st => mid_intro (l178, x180, v179) h344 (St.cut [1] ⟨rfl, rfl, trivial⟩ (by decide) rfl st))
 rintro ⟨l178, x180, v179⟩ h518
 have h519 := h345 _ h518
 try dsimp only at h519
 refine GL.weak (env' := [(11, v179), (12, .int .i64 x180)]) (L' := [imm (TR.sl TR.int) v179 l178]) (fun _ _ st => st) ?_
 refine GL.seq ?_
 refine GL.region ?_
 refine RL.mv rfl rfl rfl ?_
 refine RL.mv rfl rfl rfl ?_
 refine RL.asg rfl rfl rfl ?_
 refine RL.asg rfl rfl rfl ?_
 refine RL.asg rfl rfl rfl ?_
 refine RL.finG ?_
 have h519 := Option.some.inj h519
 subst h519
 exact GL.ret (Gx.ret (v := .tuple #[v179, .int .i64 x180, .int .i64 (0 : Int)]) (res3 rfl rfl rfl rfl) (fun a w st => (st.pick [0] (by decide) rfl).toPost v179))

set_option maxHeartbeats 4000000 in
theorem order_Far_c (S : Hp) (w : World) (hS : S.sub w) (v0 : Value) (x0 : (List Int)) (k0 : ((TR.sl TR.int)).vrep S v0 x0) (v1 : Value) (x1 : (List Int)) (k1 : ((TR.sl TR.int)).vrep S v1 x1) (res : Int × Int) (hm : order_Far_m x0 x1 = some res) : Calls Try.prog 30 #[v0, v1] w (PostV w (.tuple #[.int .i64 res.1, .int .i64 res.2])) := by
 refine calls_enter 55 Try.func30 Try.ntmps30 rfl S false [(0, v0), (1, v1)] [imm (TR.sl TR.int) v0 x0, imm (TR.sl TR.int) v1 x1] rfl ⟨rfl, ⟨rfl, trivial⟩⟩ hS ⟨k0, ⟨k1, trivial⟩⟩ ?_
 unfold order_Far_m at hm
 refine GL.seq ?_
 refine GL.region ?_
 refine RL.asg rfl rfl rfl ?_
 refine RL.asg rfl rfl rfl ?_
 refine RL.finG ?_
 refine GL.seq ?_
 refine GL.seq ?_
 refine GL.region ?_
 refine RL.mv rfl rfl rfl ?_
 refine RL.lenS 0 Try.underlying22 rfl rfl rfl rfl SlOf.imm ?_
 refine RL.mv rfl rfl rfl ?_
 obtain ⟨y5, e6, hm⟩ := bind_some hm
 refine RL.callV (v := .int .i64 y5) (vs := [.int .i64 ((x0).length : Int), v0]) Try_fit48 rfl (Or.inl rfl) rfl rfl rfl rfl (fun U w hU hW hL => order_Check_c U w hU ((x0).length : Int) _ _ (hL 0 _ _ rfl Seen.imm) _ e6) ?_
 refine RL.asg rfl rfl rfl ?_
 refine RL.finG ?_
 refine GL.seq ?_
 refine GL.region ?_
 refine RL.mv rfl rfl rfl ?_
 refine RL.binI (v := .bool (y5 != (0 : Int))) rfl rfl rfl rfl rfl ?_
 refine RL.finG ?_
 refine GL.cond rfl (fun b7 => ?_) (fun b7 => ?_)
 ·replace hm := ite_t b7 hm
  refine GL.seq ?_
  refine GL.region ?_
  refine RL.mv rfl rfl rfl ?_
  refine RL.asg rfl rfl rfl ?_
  refine RL.asg rfl rfl rfl ?_
  refine RL.finG ?_
  have hm := Option.some.inj hm
  subst hm
  exact GL.ret (Gx.ret (v := .tuple #[.int .i64 (0 : Int), .int .i64 y5]) (res2 rfl rfl rfl) (fun a w st => st.toPostV))
 replace hm := ite_f b7 hm
 refine GL.skip ?_
 refine GL.seq ?_
 refine GL.seq ?_
 refine GL.region ?_
 refine RL.mv rfl rfl rfl ?_
 refine RL.lenS 0 Try.underlying22 rfl rfl rfl rfl SlOf.imm ?_
 refine RL.mv rfl rfl rfl ?_
 obtain ⟨y10, e11, hm⟩ := bind_some hm
 refine RL.callV (v := .int .i64 y10) (vs := [.int .i64 ((x0).length : Int), v1]) Try_fit48 rfl (Or.inl rfl) rfl rfl rfl rfl (fun U w hU hW hL => order_Check_c U w hU ((x0).length : Int) _ _ (hL 1 _ _ rfl Seen.imm) _ e11) ?_
 refine RL.asg rfl rfl rfl ?_
 refine RL.finG ?_
 refine GL.seq ?_
 refine GL.region ?_
 refine RL.mv rfl rfl rfl ?_
 refine RL.binI (v := .bool (y10 != (0 : Int))) rfl rfl rfl rfl rfl ?_
 refine RL.finG ?_
 refine GL.cond rfl (fun b12 => ?_) (fun b12 => ?_)
 ·replace hm := ite_t b12 hm
  refine GL.seq ?_
  refine GL.region ?_
  refine RL.mv rfl rfl rfl ?_
  refine RL.asg rfl rfl rfl ?_
  refine RL.asg rfl rfl rfl ?_
  refine RL.finG ?_
  have hm := Option.some.inj hm
  subst hm
  exact GL.ret (Gx.ret (v := .tuple #[.int .i64 (0 : Int), .int .i64 y10]) (res2 rfl rfl rfl) (fun a w st => st.toPostV))
 replace hm := ite_f b12 hm
 refine GL.skip ?_
 refine GL.seq ?_
 refine GL.region ?_
 refine RL.asg rfl rfl rfl ?_
 refine RL.finG ?_
 refine GL.seq ?_
 refine GL.seq ?_
 refine GL.region ?_
 refine RL.mv rfl rfl rfl ?_
 refine RL.lenS 0 Try.underlying22 rfl rfl rfl rfl SlOf.imm ?_
 refine RL.mv rfl rfl rfl ?_
 refine RL.finG ?_
 refine GL.open_ 0 rfl (fun S h => len_imm S h) (fun n71 => ?_)
 obtain ⟨y72, K73, h74, h75, h76, h77, h78⟩ := bindR_K hm
 refine GL.join (ι := Int) (fun (p : Int) => [(8, .int .i64 p)]) (fun (p : Int) => []) (fun (p : Int) => K73 (.nx p)) ?_ ?_
 ·refine GL.block ?_
  refine GL.loop (ι := Nat × (List Int) × Int) (fun (p : Nat × (List Int) × Int) => [(0, v0), (1, v1), (8, .int .i64 p.2.2), (27, v0), (28, .int .i64 ((x0).length : Int)), (29, .int .i64 (p.1 : Int))]) (fun (p : Nat × (List Int) × Int) => [imm (TR.sl TR.int) v0 x0, imm (TR.sl TR.int) v1 x1]) (fun (p : Nat × (List Int) × Int) => p.1 + p.2.1.length = (x0).length ∧ List.drop p.1 x0 = p.2.1 ∧ rangeL (order_Far_b1 x0 x1) p.2.1 p.1 p.2.2 = some y72) (fun (p : Nat × (List Int) × Int) => p.2.1.length) (0, x0, (0 : Int)) ⟨by simp, by simp, h74⟩ (fun a w st => St.cut [0, 1] ⟨rfl, rfl, rfl, rfl, rfl, rfl, trivial⟩ (by decide) rfl st) ?_
  rintro ⟨i79, r80, x13⟩ ⟨h85, h86, h84⟩
  try dsimp only at h85 h86 h84
  refine GL.weak (env' := [(0, v0), (1, v1), (8, .int .i64 x13), (27, v0), (28, .int .i64 ((x0).length : Int)), (29, .int .i64 (i79 : Int))]) (L' := [imm (TR.sl TR.int) v0 x0, imm (TR.sl TR.int) v1 x1]) (fun _ _ st => st) ?_
  refine GL.seq ?_
  refine GL.region ?_
  refine RL.binI (v := .bool (decide ((i79 : Int) < ((x0).length : Int)))) rfl rfl rfl rfl rfl ?_
  refine RL.finG ?_
  refine GL.seq ?_
  refine GL.cond rfl (fun b87 => ?_) (fun b87 => ?_)
  ·have h88 : i79 < (x0).length := by have := of_decide_eq_true b87; omega
   obtain ⟨y89, r91, hr, e90, h92⟩ := drop_cons h86 rfl h88
   subst hr
   obtain ⟨z81, h82, h83⟩ := rangeL_some h84
   unfold order_Far_b1 at h82
   try dsimp only at h82
   refine GL.skip ?_
   refine GL.seq ?_
   refine GL.block ?_
   refine GL.seq ?_
   refine GL.region ?_
   refine RL.mv rfl rfl rfl ?_
   refine RL.idxS (sz := 1) 0 Try.underlying22 Try_ln3 rfl rfl rfl rfl rfl SlOf.imm (by omega) (by omega) ?_
   refine RL.ldSx (i := i79) (e' := y89) 0 Ex.ik Try_ln3 rfl rfl rfl rfl SlOf.imm e90 Part.self ?_
   refine RL.asg rfl rfl rfl ?_
   refine RL.asg rfl rfl rfl ?_
   refine RL.finG ?_
   refine GL.seq ?_
   refine GL.region ?_
   refine RL.mv rfl rfl rfl ?_
   refine RL.mv rfl rfl rfl ?_
   refine RL.binI (v := .int .i64 (wadd (i79 : Int) (1 : Int))) rfl rfl rfl rfl rfl ?_
   obtain ⟨y96, e97, h82⟩ := bind_some h82
   replace e97 := chk_some e97
   refine RL.slc (t := TR.int) (i := (wadd (i79 : Int) (1 : Int)).toNat) (j := (x0).length) (sz := 1) 0 Try.underlying22 Try_ln3 rfl rfl rfl rfl (Or.inr ⟨_, _, rfl, by rw [Int.toNat_of_nonneg (by omega)]; rfl⟩) (Or.inl ⟨rfl, rfl⟩) rfl (by omega) (by omega) ?_
   intro v98
   refine RL.lenS 2 Try.underlying22 rfl rfl rfl rfl SlOf.imm ?_
   refine RL.mv rfl rfl rfl ?_
   refine RL.finG ?_
   refine GL.open_ 2 rfl (fun S h => len_imm S h) (fun n113 => ?_)
   obtain ⟨y114, K115, h116, h117, h118, h119, h120⟩ := bindF_K h82
   refine GL.join (ι := Int) (fun (p : Int) => [(0, v0), (1, v1), (8, .int .i64 p), (27, v0), (28, .int .i64 ((x0).length : Int)), (29, .int .i64 (i79 : Int))]) (fun (p : Int) => [imm (TR.sl TR.int) v0 x0, imm (TR.sl TR.int) v1 x1]) (fun (p : Int) => K115 (.nx p)) ?_ ?_
   ·refine GL.block ?_
    refine GL.loop (ι := Nat × (List Int) × Int) (fun (p : Nat × (List Int) × Int) => [(0, v0), (1, v1), (8, .int .i64 p.2.2), (10, .int .i64 y89), (27, v0), (28, .int .i64 ((x0).length : Int)), (29, .int .i64 (i79 : Int)), (37, v98), (38, .int .i64 ((((List.take ((x0).length) x0).drop ((wadd (i79 : Int) (1 : Int)).toNat))).length : Int)), (39, .int .i64 (p.1 : Int))]) (fun (p : Nat × (List Int) × Int) => [imm (TR.sl TR.int) v0 x0, imm (TR.sl TR.int) v1 x1, imm (TR.sl TR.int) v98 ((List.take ((x0).length) x0).drop ((wadd (i79 : Int) (1 : Int)).toNat))]) (fun (p : Nat × (List Int) × Int) => p.1 + p.2.1.length = (((List.take ((x0).length) x0).drop ((wadd (i79 : Int) (1 : Int)).toNat))).length ∧ List.drop p.1 ((List.take ((x0).length) x0).drop ((wadd (i79 : Int) (1 : Int)).toNat)) = p.2.1 ∧ rangeL (order_Far_b2 x1 y89) p.2.1 p.1 p.2.2 = some y114) (fun (p : Nat × (List Int) × Int) => p.2.1.length) (0, ((List.take ((x0).length) x0).drop ((wadd (i79 : Int) (1 : Int)).toNat)), x13) ⟨by simp, by simp, h116⟩ (fun a w st => St.cut [0, 1, 2] ⟨rfl, rfl, rfl, rfl, rfl, rfl, rfl, rfl, rfl, rfl, trivial⟩ (by decide) rfl st) ?_
    rintro ⟨i121, r122, x99⟩ ⟨h127, h128, h126⟩
    try dsimp only at h127 h128 h126
    refine GL.weak (env' := [(0, v0), (1, v1), (8, .int .i64 x99), (10, .int .i64 y89), (27, v0), (28, .int .i64 ((x0).length : Int)), (29, .int .i64 (i79 : Int)), (37, v98), (38, .int .i64 ((((List.take ((x0).length) x0).drop ((wadd (i79 : Int) (1 : Int)).toNat))).length : Int)), (39, .int .i64 (i121 : Int))]) (L' := [imm (TR.sl TR.int) v0 x0, imm (TR.sl TR.int) v1 x1, imm (TR.sl TR.int) v98 ((List.take ((x0).length) x0).drop ((wadd (i79 : Int) (1 : Int)).toNat))]) (fun _ _ st => st) ?_
    refine GL.seq ?_
    refine GL.region ?_
    refine RL.binI (v := .bool (decide ((i121 : Int) < ((((List.take ((x0).length) x0).drop ((wadd (i79 : Int) (1 : Int)).toNat))).length : Int)))) rfl rfl rfl rfl rfl ?_
    refine RL.finG ?_
    refine GL.seq ?_
    refine GL.cond rfl (fun b129 => ?_) (fun b129 => ?_)
    ·have h130 : i121 < (((List.take ((x0).length) x0).drop ((wadd (i79 : Int) (1 : Int)).toNat))).length := by have := of_decide_eq_true b129; omega
     obtain ⟨y131, r133, hr, e132, h134⟩ := drop_cons h128 rfl h130
     subst hr
     obtain ⟨z123, h124, h125⟩ := rangeL_some h126
     unfold order_Far_b2 at h124
     try dsimp only at h124
     refine GL.skip ?_
     refine GL.seq ?_
     refine GL.block ?_
     refine GL.seq ?_
     refine GL.region ?_
     refine RL.idxS (sz := 1) 2 Try.underlying22 Try_ln3 rfl rfl rfl rfl rfl SlOf.imm (by omega) (by omega) ?_
     refine RL.ldSx (i := i121) (e' := y131) 2 Ex.ik Try_ln3 rfl rfl rfl rfl SlOf.imm e132 Part.self ?_
     refine RL.asg rfl rfl rfl ?_
     refine RL.finG ?_
     refine GL.seq ?_
     refine GL.region ?_
     refine RL.mv rfl rfl rfl ?_
     refine RL.mv rfl rfl rfl ?_
     obtain ⟨y139, e140, h124⟩ := bind_some h124
     refine RL.callC (v := .int .i64 y139) (vs := [v1, .int .i64 y89]) Try_fit50 rfl rfl rfl rfl (fun U w hU hW hL => slices_Index_int_int_c U w hU _ _ (hL 1 _ _ rfl Seen.imm) y89 _ e140) ?_
     refine RL.mv rfl rfl rfl ?_
     refine RL.mv rfl rfl rfl ?_
     obtain ⟨y141, e142, h124⟩ := bind_some h124
     refine RL.callC (v := .int .i64 y141) (vs := [v1, .int .i64 y131]) Try_fit50 rfl rfl rfl rfl (fun U w hU hW hL => slices_Index_int_int_c U w hU _ _ (hL 1 _ _ rfl Seen.imm) y131 _ e142) ?_
     refine RL.binI (v := .bool (decide (y139 > y141))) rfl rfl rfl rfl rfl ?_
     refine RL.finG ?_
     refine GL.cond rfl (fun b143 => ?_) (fun b143 => ?_)
     ·replace h124 := ite_t b143 h124
      refine GL.region ?_
      refine RL.mv rfl rfl rfl ?_
      refine RL.binI (v := .int .i64 (wadd x99 (1 : Int))) rfl rfl rfl rfl rfl ?_
      refine RL.asg rfl rfl rfl ?_
      refine RL.finG ?_
      refine GL.nilB ?_
      refine GL.region ?_
      refine RL.binI (v := .int .i64 ((i121 + 1 : Nat) : Int)) rfl rfl rfl rfl (binI_succ i121 (by omega)) ?_
      refine RL.mv rfl rfl rfl ?_
      refine RL.fin ?_
      cases h124
      exact fun a w st => lop_intro (i121 + 1, r133, wadd x99 (1 : Int)) ⟨by show i121 + 1 + r133.length = (((List.take ((x0).length) x0).drop ((wadd (i79 : Int) (1 : Int)).toNat))).length; simp only [List.length_cons] at h127; omega, h134, h125⟩ (by simp) (St.cut [0, 1, 2] ⟨rfl, rfl, rfl, rfl, rfl, rfl, rfl, rfl, rfl, rfl, trivial⟩ (by decide) rfl st)
     replace h124 := ite_f b143 h124
     refine GL.skip ?_
     refine GL.nilB ?_
     refine GL.region ?_
     refine RL.binI (v := .int .i64 ((i121 + 1 : Nat) : Int)) rfl rfl rfl rfl (binI_succ i121 (by omega)) ?_
     refine RL.mv rfl rfl rfl ?_
     refine RL.fin ?_
     cases h124
     exact fun a w st => lop_intro (i121 + 1, r133, x99) ⟨by show i121 + 1 + r133.length = (((List.take ((x0).length) x0).drop ((wadd (i79 : Int) (1 : Int)).toNat))).length; simp only [List.length_cons] at h127; omega, h134, h125⟩ (by simp) (St.cut [0, 1, 2] ⟨rfl, rfl, rfl, rfl, rfl, rfl, rfl, rfl, rfl, rfl, trivial⟩ (by decide) rfl st)
    have h130 : ¬ i121 < (((List.take ((x0).length) x0).drop ((wadd (i79 : Int) (1 : Int)).toNat))).length := by have := of_decide_eq_false b129; omega
    obtain rfl : r122 = [] := by rw [← h128]; exact List.drop_of_length_le (by omega)
    replace h126 : some (Fl.nx _) = some y114 := h126
    cases h126
    exact GL.exit (fun a w st => mid_intro x99 h117 (St.cut [0, 1] ⟨rfl, rfl, rfl, rfl, rfl, rfl, trivial⟩ (by decide) rfl st))
   rintro x99 h144
   have h145 := h118 _ h144
   try dsimp only at h145
   refine GL.weak (env' := [(0, v0), (1, v1), (8, .int .i64 x99), (27, v0), (28, .int .i64 ((x0).length : Int)), (29, .int .i64 (i79 : Int))]) (L' := [imm (TR.sl TR.int) v0 x0, imm (TR.sl TR.int) v1 x1]) (fun _ _ st => st) ?_
   refine GL.nilB ?_
   refine GL.region ?_
   refine RL.binI (v := .int .i64 ((i79 + 1 : Nat) : Int)) rfl rfl rfl rfl (binI_succ i79 (by omega)) ?_
   refine RL.mv rfl rfl rfl ?_
   refine RL.fin ?_
   cases h145
   exact fun a w st => lop_intro (i79 + 1, r91, x99) ⟨by show i79 + 1 + r91.length = (x0).length; simp only [List.length_cons] at h85; omega, h92, h83⟩ (by simp) (St.cut [0, 1] ⟨rfl, rfl, rfl, rfl, rfl, rfl, trivial⟩ (by decide) rfl st)
  have h88 : ¬ i79 < (x0).length := by have := of_decide_eq_false b87; omega
  obtain rfl : r80 = [] := by rw [← h86]; exact List.drop_of_length_le (by omega)
  replace h84 : some (Fl.nx _) = some y72 := h84
  cases h84
  exact GL.exit (fun a w st => mid_intro x13 h75 (St.cut [] ⟨rfl, trivial⟩ (by decide) rfl st))
 rintro x13 h146
 have h147 := h76 _ h146
 try dsimp only at h147
 refine GL.weak (env' := [(8, .int .i64 x13)]) (L' := []) (fun _ _ st => st) ?_
 refine GL.seq ?_
 refine GL.region ?_
 refine RL.mv rfl rfl rfl ?_
 refine RL.asg rfl rfl rfl ?_
 refine RL.asg rfl rfl rfl ?_
 refine RL.finG ?_
 have h147 := Option.some.inj h147
 subst h147
 exact GL.ret (Gx.ret (v := .tuple #[.int .i64 x13, .int .i64 (0 : Int)]) (res2 rfl rfl rfl) (fun a w st => st.toPostV))

set_option maxHeartbeats 4000000 in
theorem worth_Check_c (S : Hp) (w : World) (hS : S.sub w) (x0 : Int) (v1 : Value) (x1 : (List Int)) (k1 : ((TR.sl TR.int)).vrep S v1 x1) (res : Int) (hm : worth_Check_m x0 x1 = some res) : Calls Try.prog 61 #[.int .i64 x0, v1] w (PostC w (.int .i64 res)) := by
 refine calls_enter 35 Try.func61 Try.ntmps61 rfl S true [(0, .int .i64 x0), (1, v1)] [imm (TR.sl TR.int) v1 x1] rfl ⟨rfl, ⟨rfl, trivial⟩⟩ hS ⟨k1, trivial⟩ ?_
 unfold worth_Check_m at hm
 refine GL.seq ?_
 refine GL.region ?_
 refine RL.asg rfl rfl rfl ?_
 refine RL.finG ?_
 refine GL.seq ?_
 refine GL.seq ?_
 obtain ⟨y6, K7, h8, h9, h10, h11, h12⟩ := bindR_K hm
 refine GL.join (ι := Bool) (fun (p : Bool) => [(0, .int .i64 x0), (1, v1), (12, .bool p)]) (fun (p : Bool) => [imm (TR.sl TR.int) v1 x1]) (fun (p : Bool) => K7 (.nx p)) ?_ ?_
 ·skip
  refine GL.region ?_
  refine RL.mv rfl rfl rfl ?_
  refine RL.binI (v := .bool (decide (x0 < (1 : Int)))) rfl rfl rfl rfl rfl ?_
  refine RL.mv rfl rfl rfl ?_
  refine RL.split (t := 9) rfl (fun b13 => ?_) (fun b13 => ?_)
  ·replace h8 := ite_t b13 h8
   refine RL.skip rfl rfl ?_
   refine RL.skip rfl rfl ?_
   refine RL.pickT rfl rfl rfl rfl ?_
   refine RL.fin ?_
   cases h8
   exact fun a w st => mid_intro true h9 (St.cut [0] ⟨rfl, rfl, rfl, trivial⟩ (by decide) rfl st)
  replace h8 := ite_f b13 h8
  refine RL.mv rfl rfl rfl ?_
  refine RL.binI (v := .bool (decide (x0 > (6 : Int)))) rfl rfl rfl rfl rfl ?_
  refine RL.pickF rfl rfl rfl rfl ?_
  refine RL.fin ?_
  cases h8
  exact fun a w st => mid_intro (decide (x0 > (6 : Int))) h9 (St.cut [0] ⟨rfl, rfl, rfl, trivial⟩ (by decide) rfl st)
 rintro x5 h14
 have h15 := h10 _ h14
 try dsimp only at h15
 refine GL.weak (env' := [(0, .int .i64 x0), (1, v1), (12, .bool x5)]) (L' := [imm (TR.sl TR.int) v1 x1]) (fun _ _ st => st) ?_
 refine GL.cond rfl (fun b16 => ?_) (fun b16 => ?_)
 ·replace h15 := ite_t b16 h15
  refine GL.seq ?_
  refine GL.region ?_
  refine RL.asg rfl rfl rfl ?_
  refine RL.finG ?_
  have h15 := Option.some.inj h15
  subst h15
  exact GL.ret (Gx.ret (v := .int .i64 (1 : Int)) (res1 rfl rfl) (fun a w st => st.toPostC rfl))
 replace h15 := ite_f b16 h15
 refine GL.skip ?_
 refine GL.seq ?_
 refine GL.seq ?_
 refine GL.region ?_
 refine RL.mv rfl rfl rfl ?_
 refine RL.lenS 0 Try.underlying22 rfl rfl rfl rfl SlOf.imm ?_
 refine RL.mv rfl rfl rfl ?_
 obtain ⟨y19, e20, h15⟩ := bind_some h15
 replace e20 := chk_some e20
 refine RL.sh (by simp) rfl rfl rfl rfl e20 ?_
 refine RL.binI (v := .bool (((x1).length : Int) != (IntKind.wrap .i64 ((1 : Int) * 2 ^ (min x0.toNat (IntKind.bits .i64)))))) rfl rfl rfl rfl rfl ?_
 refine RL.finG ?_
 refine GL.cond rfl (fun b21 => ?_) (fun b21 => ?_)
 ·replace h15 := ite_t b21 h15
  refine GL.seq ?_
  refine GL.region ?_
  refine RL.asg rfl rfl rfl ?_
  refine RL.finG ?_
  have h15 := Option.some.inj h15
  subst h15
  exact GL.ret (Gx.ret (v := .int .i64 (3 : Int)) (res1 rfl rfl) (fun a w st => st.toPostC rfl))
 replace h15 := ite_f b21 h15
 refine GL.skip ?_
 refine GL.seq ?_
 refine GL.seq ?_
 refine GL.region ?_
 refine RL.mv rfl rfl rfl ?_
 refine RL.lenS 0 Try.underlying22 rfl rfl rfl rfl SlOf.imm ?_
 refine RL.mv rfl rfl rfl ?_
 refine RL.finG ?_
 refine GL.open_ 0 rfl (fun S h => len_imm S h) (fun n40 => ?_)
 obtain ⟨y41, K42, h43, h44, h45, h46, h47⟩ := bindR_K h15
 refine GL.join (ι := Unit) (fun (p : Unit) => [(1, v1)]) (fun (p : Unit) => [imm (TR.sl TR.int) v1 x1]) (fun (p : Unit) => K42 (.nx ())) ?_ ?_
 ·refine GL.block ?_
  refine GL.loop (ι := Nat × (List Int)) (fun (p : Nat × (List Int)) => [(1, v1), (18, v1), (19, .int .i64 ((x1).length : Int)), (20, .int .i64 (p.1 : Int))]) (fun (p : Nat × (List Int)) => [imm (TR.sl TR.int) v1 x1]) (fun (p : Nat × (List Int)) => p.1 + p.2.length = (x1).length ∧ List.drop p.1 x1 = p.2 ∧ rangeL worth_Check_b1 p.2 p.1 () = some y41) (fun (p : Nat × (List Int)) => p.2.length) (0, x1) ⟨by simp, by simp, h43⟩ (fun a w st => St.cut [0] ⟨rfl, rfl, rfl, rfl, trivial⟩ (by decide) rfl st) ?_
  rintro ⟨i48, r49⟩ ⟨h54, h55, h53⟩
  try dsimp only at h54 h55 h53
  refine GL.weak (env' := [(1, v1), (18, v1), (19, .int .i64 ((x1).length : Int)), (20, .int .i64 (i48 : Int))]) (L' := [imm (TR.sl TR.int) v1 x1]) (fun _ _ st => st) ?_
  refine GL.seq ?_
  refine GL.region ?_
  refine RL.binI (v := .bool (decide ((i48 : Int) < ((x1).length : Int)))) rfl rfl rfl rfl rfl ?_
  refine RL.finG ?_
  refine GL.seq ?_
  refine GL.cond rfl (fun b56 => ?_) (fun b56 => ?_)
  ·have h57 : i48 < (x1).length := by have := of_decide_eq_true b56; omega
   obtain ⟨y58, r60, hr, e59, h61⟩ := drop_cons h55 rfl h57
   subst hr
   obtain ⟨z50, h51, h52⟩ := rangeL_some h53
   unfold worth_Check_b1 at h51
   try dsimp only at h51
   refine GL.skip ?_
   refine GL.seq ?_
   refine GL.block ?_
   refine GL.seq ?_
   refine GL.region ?_
   refine RL.idxS (sz := 1) 0 Try.underlying22 Try_ln3 rfl rfl rfl rfl rfl SlOf.imm (by omega) (by omega) ?_
   refine RL.ldSx (i := i48) (e' := y58) 0 Ex.ik Try_ln3 rfl rfl rfl rfl SlOf.imm e59 Part.self ?_
   refine RL.asg rfl rfl rfl ?_
   refine RL.finG ?_
   refine GL.seq ?_
   obtain ⟨y65, K66, h67, h68, h69, h70, h71⟩ := bindF_K h51
   refine GL.join (ι := Bool) (fun (p : Bool) => [(1, v1), (18, v1), (19, .int .i64 ((x1).length : Int)), (20, .int .i64 (i48 : Int)), (29, .bool p)]) (fun (p : Bool) => [imm (TR.sl TR.int) v1 x1]) (fun (p : Bool) => K66 (.nx p)) ?_ ?_
   ·skip
    refine GL.region ?_
    refine RL.mv rfl rfl rfl ?_
    refine RL.binI (v := .bool (decide (y58 < (-1000000 : Int)))) rfl rfl rfl rfl rfl ?_
    refine RL.mv rfl rfl rfl ?_
    refine RL.split (t := 26) rfl (fun b72 => ?_) (fun b72 => ?_)
    ·replace h67 := ite_t b72 h67
     refine RL.skip rfl rfl ?_
     refine RL.skip rfl rfl ?_
     refine RL.pickT rfl rfl rfl rfl ?_
     refine RL.fin ?_
     cases h67
     exact fun a w st => mid_intro true h68 (St.cut [0] ⟨rfl, rfl, rfl, rfl, rfl, trivial⟩ (by decide) rfl st)
    replace h67 := ite_f b72 h67
    refine RL.mv rfl rfl rfl ?_
    refine RL.binI (v := .bool (decide (y58 > (1000000 : Int)))) rfl rfl rfl rfl rfl ?_
    refine RL.pickF rfl rfl rfl rfl ?_
    refine RL.fin ?_
    cases h67
    exact fun a w st => mid_intro (decide (y58 > (1000000 : Int))) h68 (St.cut [0] ⟨rfl, rfl, rfl, rfl, rfl, trivial⟩ (by decide) rfl st)
   rintro x64 h73
   have h74 := h69 _ h73
   try dsimp only at h74
   refine GL.weak (env' := [(1, v1), (18, v1), (19, .int .i64 ((x1).length : Int)), (20, .int .i64 (i48 : Int)), (29, .bool x64)]) (L' := [imm (TR.sl TR.int) v1 x1]) (fun _ _ st => st) ?_
   refine GL.cond rfl (fun b75 => ?_) (fun b75 => ?_)
   ·replace h74 := ite_t b75 h74
    refine GL.seq ?_
    refine GL.region ?_
    refine RL.asg rfl rfl rfl ?_
    refine RL.finG ?_
    cases h74
    replace h52 : some (Fl.rt _) = some y41 := h52
    cases h52
    have hh := h46 _ h44
    subst hh
    exact GL.ret (Gx.ret (v := .int .i64 (1 : Int)) (res1 rfl rfl) (fun a w st => st.toPostC rfl))
   replace h74 := ite_f b75 h74
   refine GL.skip ?_
   refine GL.nilB ?_
   refine GL.region ?_
   refine RL.binI (v := .int .i64 ((i48 + 1 : Nat) : Int)) rfl rfl rfl rfl (binI_succ i48 (by omega)) ?_
   refine RL.mv rfl rfl rfl ?_
   refine RL.fin ?_
   cases h74
   exact fun a w st => lop_intro (i48 + 1, r60) ⟨by show i48 + 1 + r60.length = (x1).length; simp only [List.length_cons] at h54; omega, h61, h52⟩ (by simp) (St.cut [0] ⟨rfl, rfl, rfl, rfl, trivial⟩ (by decide) rfl st)
  have h57 : ¬ i48 < (x1).length := by have := of_decide_eq_false b56; omega
  obtain rfl : r49 = [] := by rw [← h55]; exact List.drop_of_length_le (by omega)
  replace h53 : some (Fl.nx _) = some y41 := h53
  cases h53
  exact GL.exit (fun a w st => mid_intro () h44 (St.cut [0] ⟨rfl, trivial⟩ (by decide) rfl st))
 rintro ⟨⟩ h76
 have h77 := h45 _ h76
 try dsimp only at h77
 refine GL.weak (env' := [(1, v1)]) (L' := [imm (TR.sl TR.int) v1 x1]) (fun _ _ st => st) ?_
 refine GL.seq ?_
 refine GL.seq ?_
 refine GL.region ?_
 refine RL.mv rfl rfl rfl ?_
 obtain ⟨y80, e81, h77⟩ := bind_some h77
 refine RL.idxS (sz := 1) 0 Try.underlying22 Try_ln3 rfl rfl rfl rfl rfl SlOf.imm (idx_some e81).1 (idx_some e81).2.1 ?_
 refine RL.ldSx (i := ((0 : Int)).toNat) (e' := y80) 0 Ex.ik Try_ln3 rfl rfl rfl rfl SlOf.imm (idx_some e81).2.2 Part.self ?_
 refine RL.binI (v := .bool (y80 != (0 : Int))) rfl rfl rfl rfl rfl ?_
 refine RL.finG ?_
 refine GL.cond rfl (fun b82 => ?_) (fun b82 => ?_)
 ·replace h77 := ite_t b82 h77
  refine GL.seq ?_
  refine GL.region ?_
  refine RL.asg rfl rfl rfl ?_
  refine RL.finG ?_
  have h77 := Option.some.inj h77
  subst h77
  exact GL.ret (Gx.ret (v := .int .i64 (3 : Int)) (res1 rfl rfl) (fun a w st => st.toPostC rfl))
 replace h77 := ite_f b82 h77
 refine GL.skip ?_
 refine GL.seq ?_
 refine GL.region ?_
 refine RL.asg rfl rfl rfl ?_
 refine RL.finG ?_
 have h77 := Option.some.inj h77
 subst h77
 exact GL.ret (Gx.ret (v := .int .i64 (0 : Int)) (res1 rfl rfl) (fun a w st => st.toPostC rfl))

set_option maxHeartbeats 4000000 in
theorem worth_size_c (S : Hp) (w : World) (hS : S.sub w) (x0 : Int) (res : Int) (hm : worth_size_m x0 = some res) : Calls Try.prog 62 #[.int .i64 x0] w (PostC w (.int .i64 res)) := by
 refine calls_enter 13 Try.func62 Try.ntmps62 rfl S true [(0, .int .i64 x0)] [] rfl ⟨rfl, trivial⟩ hS trivial ?_
 unfold worth_size_m at hm
 refine GL.seq ?_
 refine GL.region ?_
 refine RL.asg rfl rfl rfl ?_
 refine RL.finG ?_
 refine GL.seq ?_
 refine GL.region ?_
 refine RL.asg rfl rfl rfl ?_
 refine RL.finG ?_
 refine GL.seq ?_
 obtain ⟨y13, K14, h15, h16, h17, h18, h19⟩ := bindR_K hm
 refine GL.join (ι := Int × Int) (fun (p : Int × Int) => [(3, .int .i64 p.2)]) (fun (p : Int × Int) => []) (fun (p : Int × Int) => K14 (.nx (p.1, p.2))) ?_ ?_
 ·refine GL.block ?_
  refine GL.loop (ι := Nat × Int × Int) (fun (p : Nat × Int × Int) => [(0, .int .i64 p.2.1), (3, .int .i64 p.2.2)]) (fun (p : Nat × Int × Int) => []) (fun (p : Nat × Int × Int) => loopM worth_size_b1 p.1 (p.2.1, p.2.2) = some y13) (fun (p : Nat × Int × Int) => p.1) (1048576, x0, (0 : Int)) h15 (fun a w st => St.cut [] ⟨rfl, rfl, trivial⟩ (by decide) rfl st) ?_
  rintro ⟨r21, x2, x3⟩ h25
  try dsimp only at h25
  refine GL.weak (env' := [(0, .int .i64 x2), (3, .int .i64 x3)]) (L' := []) (fun _ _ st => st) ?_
  obtain ⟨r28, z22, hr, h23, h24⟩ := loopM_some h25
  subst hr
  unfold worth_size_b1 at h23
  try dsimp only at h23
  refine GL.seq ?_
  refine GL.seq ?_
  refine GL.region ?_
  refine RL.mv rfl rfl rfl ?_
  refine RL.binI (v := .bool (decide (x2 > (0 : Int)))) rfl rfl rfl rfl rfl ?_
  refine RL.finG ?_
  refine GL.cond rfl (fun b29 => ?_) (fun b29 => ?_)
  ·replace h23 := ite_t b29 h23
   refine GL.skip ?_
   refine GL.seq ?_
   refine GL.block ?_
   refine GL.region ?_
   refine RL.mv rfl rfl rfl ?_
   refine RL.mv rfl rfl rfl ?_
   obtain ⟨y32, e33, h23⟩ := bind_some h23
   replace e33 := chk_some e33
   refine RL.rem rfl rfl rfl rfl e33 ?_
   refine RL.binI (v := .int .i64 (wadd x3 (Int.tmod x2 (2 : Int)))) rfl rfl rfl rfl rfl ?_
   refine RL.asg rfl rfl rfl ?_
   refine RL.finG ?_
   refine GL.nilB ?_
   refine GL.region ?_
   refine RL.mv rfl rfl rfl ?_
   obtain ⟨y36, e37, h23⟩ := bind_some h23
   replace e37 := chk_some e37
   refine RL.quo rfl rfl rfl rfl e37 ?_
   refine RL.asg rfl rfl rfl ?_
   refine RL.finG ?_
   cases h23
   exact fun a w st => lop_intro (r28, IntKind.wrap .i64 (Int.tdiv x2 (2 : Int)), wadd x3 (Int.tmod x2 (2 : Int))) (by exact h24) (by simp) (St.cut [] ⟨rfl, rfl, trivial⟩ (by decide) rfl st)
  replace h23 := ite_f b29 h23
  cases h23
  replace h24 : some (Fl.nx _) = some y13 := h24
  cases h24
  exact GL.exit (fun a w st => mid_intro (x2, x3) h16 (St.cut [] ⟨rfl, trivial⟩ (by decide) rfl st))
 rintro ⟨x2, x3⟩ h38
 have h39 := h17 _ h38
 try dsimp only at h39
 refine GL.weak (env' := [(3, .int .i64 x3)]) (L' := []) (fun _ _ st => st) ?_
 refine GL.seq ?_
 refine GL.region ?_
 refine RL.mv rfl rfl rfl ?_
 refine RL.asg rfl rfl rfl ?_
 refine RL.finG ?_
 have h39 := Option.some.inj h39
 subst h39
 exact GL.ret (Gx.ret (v := .int .i64 x3) (res1 rfl rfl) (fun a w st => st.toPostC rfl))

set_option maxHeartbeats 4000000 in
theorem worth_factorial_c (S : Hp) (w : World) (hS : S.sub w) (x0 : Int) (res : Int) (hm : worth_factorial_m x0 = some res) : Calls Try.prog 63 #[.int .i64 x0] w (PostC w (.int .i64 res)) := by
 refine calls_enter 14 Try.func63 Try.ntmps63 rfl S true [(0, .int .i64 x0)] [] rfl ⟨rfl, trivial⟩ hS trivial ?_
 unfold worth_factorial_m at hm
 refine GL.seq ?_
 refine GL.region ?_
 refine RL.asg rfl rfl rfl ?_
 refine RL.finG ?_
 refine GL.seq ?_
 refine GL.region ?_
 refine RL.asg rfl rfl rfl ?_
 refine RL.finG ?_
 refine GL.seq ?_
 refine GL.seq ?_
 refine GL.region ?_
 refine RL.asg rfl rfl rfl ?_
 refine RL.finG ?_
 obtain ⟨y5, K6, h7, h8, h9, h10, h11⟩ := bindR_K hm
 refine GL.join (ι := Int × Int) (fun (p : Int × Int) => [(3, .int .i64 p.1)]) (fun (p : Int × Int) => []) (fun (p : Int × Int) => K6 (.nx (p.1, p.2))) ?_ ?_
 ·refine GL.block ?_
  refine GL.loop (ι := Nat × Int × Int) (fun (p : Nat × Int × Int) => [(0, .int .i64 x0), (3, .int .i64 p.2.1), (4, .int .i64 p.2.2)]) (fun (p : Nat × Int × Int) => []) (fun (p : Nat × Int × Int) => loopM (worth_factorial_b1 x0) p.1 (p.2.1, p.2.2) = some y5) (fun (p : Nat × Int × Int) => p.1) (1048576, (1 : Int), (2 : Int)) h7 (fun a w st => St.cut [] ⟨rfl, rfl, rfl, trivial⟩ (by decide) rfl st) ?_
  rintro ⟨r13, x2, x3⟩ h17
  try dsimp only at h17
  refine GL.weak (env' := [(0, .int .i64 x0), (3, .int .i64 x2), (4, .int .i64 x3)]) (L' := []) (fun _ _ st => st) ?_
  obtain ⟨r20, z14, hr, h15, h16⟩ := loopM_some h17
  subst hr
  unfold worth_factorial_b1 at h15
  try dsimp only at h15
  refine GL.seq ?_
  refine GL.seq ?_
  refine GL.region ?_
  refine RL.mv rfl rfl rfl ?_
  refine RL.mv rfl rfl rfl ?_
  refine RL.binI (v := .bool (decide (x3 ≤ x0))) rfl rfl rfl rfl rfl ?_
  refine RL.finG ?_
  refine GL.cond rfl (fun b21 => ?_) (fun b21 => ?_)
  ·replace h15 := ite_t b21 h15
   refine GL.skip ?_
   refine GL.seq ?_
   refine GL.block ?_
   refine GL.region ?_
   refine RL.mv rfl rfl rfl ?_
   refine RL.mv rfl rfl rfl ?_
   refine RL.binI (v := .int .i64 (wmul x2 x3)) rfl rfl rfl rfl rfl ?_
   refine RL.asg rfl rfl rfl ?_
   refine RL.finG ?_
   refine GL.nilB ?_
   refine GL.region ?_
   refine RL.mv rfl rfl rfl ?_
   refine RL.binI (v := .int .i64 (wadd x3 (1 : Int))) rfl rfl rfl rfl rfl ?_
   refine RL.asg rfl rfl rfl ?_
   refine RL.finG ?_
   cases h15
   exact fun a w st => lop_intro (r20, wmul x2 x3, wadd x3 (1 : Int)) (by exact h16) (by simp) (St.cut [] ⟨rfl, rfl, rfl, trivial⟩ (by decide) rfl st)
  replace h15 := ite_f b21 h15
  cases h15
  replace h16 : some (Fl.nx _) = some y5 := h16
  cases h16
  exact GL.exit (fun a w st => mid_intro (x2, x3) h8 (St.cut [] ⟨rfl, trivial⟩ (by decide) rfl st))
 rintro ⟨x2, x3⟩ h22
 have h23 := h9 _ h22
 try dsimp only at h23
 refine GL.weak (env' := [(3, .int .i64 x2)]) (L' := []) (fun _ _ st => st) ?_
 refine GL.seq ?_
 refine GL.region ?_
 refine RL.mv rfl rfl rfl ?_
 refine RL.asg rfl rfl rfl ?_
 refine RL.finG ?_
 have h23 := Option.some.inj h23
 subst h23
 exact GL.ret (Gx.ret (v := .int .i64 x2) (res1 rfl rfl) (fun a w st => st.toPostC rfl))

set_option maxHeartbeats 4000000 in
theorem worth_Share_c (S : Hp) (w : World) (hS : S.sub w) (x0 : Int) (v1 : Value) (x1 : (List Int)) (k1 : ((TR.sl TR.int)).vrep S v1 x1) (res : (List Int) × Int) (hm : worth_Share_m x0 x1 = some res) : Calls Try.prog 31 #[.int .i64 x0, v1] w (Post w S (fun (o : Value) => .tuple #[o, .int .i64 res.2]) (fun (o : Value) => [own 3 TR.int o res.1])) := by
 refine calls_enter 65 Try.func31 Try.ntmps31 rfl S false [(0, .int .i64 x0), (1, v1)] [imm (TR.sl TR.int) v1 x1] rfl ⟨rfl, ⟨rfl, trivial⟩⟩ hS ⟨k1, trivial⟩ ?_
 unfold worth_Share_m at hm
 refine GL.seq ?_
 refine GL.region ?_
 refine RL.asg rfl rfl rfl ?_
 refine RL.asg rfl rfl rfl ?_
 refine RL.finG ?_
 refine GL.seq ?_
 refine GL.seq ?_
 refine GL.region ?_
 refine RL.mv rfl rfl rfl ?_
 refine RL.mv rfl rfl rfl ?_
 obtain ⟨y5, e6, hm⟩ := bind_some hm
 refine RL.callC (v := .int .i64 y5) (vs := [.int .i64 x0, v1]) Try_fit61 rfl rfl rfl rfl (fun U w hU hW hL => worth_Check_c U w hU x0 _ _ (hL 0 _ _ rfl Seen.imm) _ e6) ?_
 refine RL.asg rfl rfl rfl ?_
 refine RL.finG ?_
 refine GL.seq ?_
 refine GL.region ?_
 refine RL.mv rfl rfl rfl ?_
 refine RL.binI (v := .bool (y5 != (0 : Int))) rfl rfl rfl rfl rfl ?_
 refine RL.finG ?_
 refine GL.cond rfl (fun b7 => ?_) (fun b7 => ?_)
 ·replace hm := ite_t b7 hm
  refine GL.seq ?_
  refine GL.region ?_
  refine RL.mv rfl rfl rfl ?_
  refine RL.asg rfl rfl rfl ?_
  refine RL.asg rfl rfl rfl ?_
  refine RL.finG ?_
  refine GL.weak (fun a w st => st.nilOwn 3 TR.int) ?_
  have hm := Option.some.inj hm
  subst hm
  exact GL.ret (Gx.ret (v := .tuple #[Value.slice none 0 0, .int .i64 y5]) (res2 rfl rfl rfl) (fun a w st => (st.pick [1] (by decide) rfl).toPost (Value.slice none 0 0)))
 replace hm := ite_f b7 hm
 refine GL.skip ?_
 refine GL.seq ?_
 refine GL.region ?_
 refine RL.mv rfl rfl rfl ?_
 obtain ⟨y11, e12, hm⟩ := bind_some hm
 replace e12 := chk_some e12
 refine RL.mkS (t := TR.int) (z := (0 : Int)) Try.underlying22 Try_lo3 (fun S => rfl) rfl rfl rfl rfl e12.1 e12.2 ?_
 intro v13
 refine RL.asg rfl rfl rfl ?_
 refine RL.finG ?_
 refine GL.seq ?_
 refine GL.seq ?_
 refine GL.region ?_
 refine RL.mv rfl rfl rfl ?_
 refine RL.lenS 0 Try.underlying22 rfl rfl rfl rfl SlOf.imm ?_
 refine RL.mv rfl rfl rfl ?_
 refine RL.finG ?_
 refine GL.open_ 0 rfl (fun S h => len_imm S h) (fun n285 => ?_)
 obtain ⟨y286, K287, h288, h289, h290, h291, h292⟩ := bindR_K hm
 refine GL.join (ι := (List Int)) (fun (p : (List Int)) => [(7, v13)]) (fun (p : (List Int)) => [own 3 TR.int v13 p]) (fun (p : (List Int)) => K287 (.nx p)) ?_ ?_
 ·refine GL.block ?_
  refine GL.loop (ι := Nat × (List Int) × (List Int)) (fun (p : Nat × (List Int) × (List Int)) => [(0, .int .i64 x0), (1, v1), (7, v13), (20, .int .i64 ((x1).length : Int)), (21, .int .i64 (p.1 : Int))]) (fun (p : Nat × (List Int) × (List Int)) => [imm (TR.sl TR.int) v1 x1, own 3 TR.int v13 p.2.2]) (fun (p : Nat × (List Int) × (List Int)) => p.1 + p.2.1.length = (x1).length ∧ List.drop p.1 x1 = p.2.1 ∧ rangeL (worth_Share_b1 x0 x1) p.2.1 p.1 p.2.2 = some y286) (fun (p : Nat × (List Int) × (List Int)) => p.2.1.length) (0, x1, (List.replicate (x0).toNat (0 : Int))) ⟨by simp, by simp, h288⟩ (fun a w st => St.cut [0, 1] ⟨rfl, rfl, rfl, rfl, rfl, trivial⟩ (by decide) rfl st) ?_
  rintro ⟨i293, r294, l149⟩ ⟨h299, h300, h298⟩
  try dsimp only at h299 h300 h298
  refine GL.weak (env' := [(0, .int .i64 x0), (1, v1), (7, v13), (20, .int .i64 ((x1).length : Int)), (21, .int .i64 (i293 : Int))]) (L' := [imm (TR.sl TR.int) v1 x1, own 3 TR.int v13 l149]) (fun _ _ st => st) ?_
  refine GL.seq ?_
  refine GL.region ?_
  refine RL.binI (v := .bool (decide ((i293 : Int) < ((x1).length : Int)))) rfl rfl rfl rfl rfl ?_
  refine RL.finG ?_
  refine GL.seq ?_
  refine GL.cond rfl (fun b301 => ?_) (fun b301 => ?_)
  ·have h302 : i293 < (x1).length := by have := of_decide_eq_true b301; omega
   obtain ⟨y303, r305, hr, e304, h306⟩ := drop_cons h300 rfl h302
   subst hr
   obtain ⟨z295, h296, h297⟩ := rangeL_some h298
   unfold worth_Share_b1 at h296
   try dsimp only at h296
   refine GL.skip ?_
   refine GL.seq ?_
   refine GL.block ?_
   refine GL.seq ?_
   refine GL.region ?_
   refine RL.mv rfl rfl rfl ?_
   refine RL.asg rfl rfl rfl ?_
   refine RL.finG ?_
   refine GL.seq ?_
   refine GL.region ?_
   refine RL.mv rfl rfl rfl ?_
   refine RL.mv rfl rfl rfl ?_
   refine RL.finG ?_
   obtain ⟨y375, e376, h296⟩ := bind_some h296
   replace e376 := chk_some e376
   obtain ⟨y377, K378, h379, h380, h381, h382, h383⟩ := bindF_K h296
   refine GL.join (ι := (List Int)) (fun (p : (List Int)) => [(0, .int .i64 x0), (1, v1), (7, v13), (20, .int .i64 ((x1).length : Int)), (21, .int .i64 (i293 : Int))]) (fun (p : (List Int)) => [imm (TR.sl TR.int) v1 x1, own 3 TR.int v13 p]) (fun (p : (List Int)) => K378 (.nx p)) ?_ ?_
   ·refine GL.block ?_
    refine GL.loop (ι := Nat × Nat × (List Int)) (fun (p : Nat × Nat × (List Int)) => [(0, .int .i64 x0), (1, v1), (7, v13), (8, .int .i64 (i293 : Int)), (20, .int .i64 ((x1).length : Int)), (21, .int .i64 (i293 : Int)), (24, .int .i64 x0), (25, .int .i64 (p.1 : Int))]) (fun (p : Nat × Nat × (List Int)) => [imm (TR.sl TR.int) v1 x1, own 3 TR.int v13 p.2.2]) (fun (p : Nat × Nat × (List Int)) => p.1 + p.2.1 = (x0).toNat ∧ rangeN (worth_Share_b2 i293 x0 x1 y303) p.2.1 p.1 p.2.2 = some y377) (fun (p : Nat × Nat × (List Int)) => p.2.1) (0, (x0).toNat, l149) ⟨by simp, h379⟩ (fun a w st => St.cut [0, 1] ⟨rfl, rfl, rfl, rfl, rfl, rfl, rfl, rfl, trivial⟩ (by decide) rfl st) ?_
    rintro ⟨i384, r385, l340⟩ ⟨h390, h389⟩
    try dsimp only at h390 h389
    refine GL.weak (env' := [(0, .int .i64 x0), (1, v1), (7, v13), (8, .int .i64 (i293 : Int)), (20, .int .i64 ((x1).length : Int)), (21, .int .i64 (i293 : Int)), (24, .int .i64 x0), (25, .int .i64 (i384 : Int))]) (L' := [imm (TR.sl TR.int) v1 x1, own 3 TR.int v13 l340]) (fun _ _ st => st) ?_
    refine GL.seq ?_
    refine GL.region ?_
    refine RL.binI (v := .bool (decide ((i384 : Int) < x0))) rfl rfl rfl rfl rfl ?_
    refine RL.finG ?_
    refine GL.seq ?_
    refine GL.cond rfl (fun b392 => ?_) (fun b392 => ?_)
    ·have h393 : i384 < (x0).toNat := by have := of_decide_eq_true b392; omega
     obtain ⟨r394, hr⟩ : ∃ m, r385 = m + 1 := ⟨r385 - 1, by omega⟩
     subst hr
     obtain ⟨z386, h387, h388⟩ := rangeN_some h389
     unfold worth_Share_b2 at h387
     try dsimp only at h387
     refine GL.skip ?_
     refine GL.seq ?_
     refine GL.block ?_
     refine GL.seq ?_
     refine GL.region ?_
     refine RL.mv rfl rfl rfl ?_
     refine RL.asg rfl rfl rfl ?_
     refine RL.finG ?_
     refine GL.seq ?_
     refine GL.region ?_
     refine RL.mv rfl rfl rfl ?_
     refine RL.mv rfl rfl rfl ?_
     obtain ⟨y397, e398, h387⟩ := bind_some h387
     replace e398 := chk_some e398
     refine RL.sh (by simp) rfl rfl rfl rfl e398 ?_
     refine RL.binI (v := .int .i64 (bits .and .i64 (Int.fdiv (i293 : Int) (2 ^ (min (i384 : Int).toNat (IntKind.bits .i64)))) (1 : Int))) rfl rfl rfl rfl rfl ?_
     refine RL.binI (v := .bool ((bits .and .i64 (Int.fdiv (i293 : Int) (2 ^ (min (i384 : Int).toNat (IntKind.bits .i64)))) (1 : Int)) == (0 : Int))) rfl rfl rfl rfl rfl ?_
     refine RL.finG ?_
     refine GL.cond rfl (fun b399 => ?_) (fun b399 => ?_)
     ·replace h387 := ite_t b399 h387
      refine GL.seq ?_
      refine GL.region ?_
      refine RL.mv rfl rfl rfl ?_
      obtain ⟨y402, e403, h387⟩ := bind_some h387
      refine RL.callC (v := .int .i64 y402) (vs := [.int .i64 (i293 : Int)]) Try_fit62 rfl rfl rfl rfl (fun U w hU hW hL => worth_size_c U w hU (i293 : Int) _ e403) ?_
      refine RL.asg rfl rfl rfl ?_
      refine RL.finG ?_
      refine GL.regionH 27 rfl rfl (by kernel_rfl) ?_
      simp only [List.take_succ_cons, List.take_zero, List.drop_succ_cons, List.drop_zero]
      refine RL.mv rfl rfl rfl ?_
      refine RL.mv rfl rfl rfl ?_
      obtain ⟨y416, e417, h387⟩ := bind_some h387
      refine RL.idxS (sz := 1) 1 Try.underlying22 Try_ln3 rfl rfl rfl rfl rfl SlOf.own (idx_some e417).1 (idx_some e417).2.1 ?_
      refine RL.ldSx (i := i384) (e' := y416) 1 Ex.ik Try_ln3 rfl rfl rfl rfl SlOf.own (idx_some e417).2.2 Part.self ?_
      refine RL.mv rfl rfl rfl ?_
      obtain ⟨y418, e419, h387⟩ := bind_some h387
      refine RL.callC (v := .int .i64 y418) (vs := [.int .i64 y402]) Try_fit63 rfl rfl rfl rfl (fun U w hU hW hL => worth_factorial_c U w hU y402 _ e419) ?_
      refine RL.mv rfl rfl rfl ?_
      refine RL.binI (v := .int .i64 (wsub x0 (1 : Int))) rfl rfl rfl rfl rfl ?_
      refine RL.mv rfl rfl rfl ?_
      refine RL.binI (v := .int .i64 (wsub (wsub x0 (1 : Int)) y402)) rfl rfl rfl rfl rfl ?_
      obtain ⟨y420, e421, h387⟩ := bind_some h387
      refine RL.callC (v := .int .i64 y420) (vs := [.int .i64 (wsub (wsub x0 (1 : Int)) y402)]) Try_fit63 rfl rfl rfl rfl (fun U w hU hW hL => worth_factorial_c U w hU (wsub (wsub x0 (1 : Int)) y402) _ e421) ?_
      refine RL.binI (v := .int .i64 (wmul y418 y420)) rfl rfl rfl rfl rfl ?_
      refine RL.mv rfl rfl rfl ?_
      refine RL.mv rfl rfl rfl ?_
      refine RL.mv rfl rfl rfl ?_
      obtain ⟨y422, e423, h387⟩ := bind_some h387
      replace e423 := chk_some e423
      refine RL.sh (by simp) rfl rfl rfl rfl e423 ?_
      refine RL.binI (v := .int .i64 (bits .or .i64 (i293 : Int) (IntKind.wrap .i64 ((1 : Int) * 2 ^ (min (i384 : Int).toNat (IntKind.bits .i64)))))) rfl rfl rfl rfl rfl ?_
      obtain ⟨y424, e425, h387⟩ := bind_some h387
      refine RL.idxS (sz := 1) 0 Try.underlying22 Try_ln3 rfl rfl rfl rfl rfl SlOf.imm (idx_some e425).1 (idx_some e425).2.1 ?_
      refine RL.ldSx (i := (bits .or .i64 (i293 : Int) (IntKind.wrap .i64 ((1 : Int) * 2 ^ (min (i384 : Int).toNat (IntKind.bits .i64))))).toNat) (e' := y424) 0 Ex.ik Try_ln3 rfl rfl rfl rfl SlOf.imm (idx_some e425).2.2 Part.self ?_
      refine RL.mv rfl rfl rfl ?_
      refine RL.mv rfl rfl rfl ?_
      refine RL.idxS (sz := 1) 0 Try.underlying22 Try_ln3 rfl rfl rfl rfl rfl SlOf.imm (by omega) (by omega) ?_
      refine RL.ldSx (i := i293) (e' := y303) 0 Ex.ik Try_ln3 rfl rfl rfl rfl SlOf.imm e304 Part.self ?_
      refine RL.binI (v := .int .i64 (wsub y424 y303)) rfl rfl rfl rfl rfl ?_
      refine RL.binI (v := .int .i64 (wmul (wmul y418 y420) (wsub y424 y303))) rfl rfl rfl rfl rfl ?_
      refine RL.binI (v := .int .i64 (wadd y416 (wmul (wmul y418 y420) (wsub y424 y303)))) rfl rfl rfl rfl rfl ?_
      obtain ⟨y426, e427, h387⟩ := bind_some h387
      refine RL.idxS (sz := 1) 1 Try.underlying22 Try_ln3 rfl rfl rfl rfl rfl SlOf.own (idx_some e427).1 (idx_some e427).2.1 ?_
      refine RL.finH ?_
      refine RL.stS (i := i384) (e' := wadd y416 (wmul (wmul y418 y420) (wsub y424 y303))) (e1 := wadd y416 (wmul (wmul y418 y420) (wsub y424 y303))) (r := TR.int) 1 Try_ln3 rfl rfl rfl rfl VR.int rfl (idx_some e427).2.2 Upd.self ?_
      refine RL.finG ?_
      refine GL.weak (env' := [(0, .int .i64 x0), (1, v1), (7, v13), (8, .int .i64 (i293 : Int)), (20, .int .i64 ((x1).length : Int)), (21, .int .i64 (i293 : Int)), (24, .int .i64 x0), (25, .int .i64 (i384 : Int))]) (L' := [imm (TR.sl TR.int) v1 x1, own 3 TR.int v13 (List.set l340 i384 (wadd y416 (wmul (wmul y418 y420) (wsub y424 y303))))]) (fun a w st => St.cut [0, 1] ⟨rfl, rfl, rfl, rfl, rfl, rfl, rfl, rfl, trivial⟩ (by decide) rfl st) ?_
      refine GL.nilB ?_
      refine GL.region ?_
      refine RL.binI (v := .int .i64 ((i384 + 1 : Nat) : Int)) rfl rfl rfl rfl (binI_succ i384 (by omega)) ?_
      refine RL.mv rfl rfl rfl ?_
      refine RL.fin ?_
      cases h387
      exact fun a w st => lop_intro (i384 + 1, r394, (List.set l340 i384 (wadd y416 (wmul (wmul y418 y420) (wsub y424 y303))))) ⟨by show i384 + 1 + r394 = (x0).toNat; omega, h388⟩ (by simp) (St.cut [0, 1] ⟨rfl, rfl, rfl, rfl, rfl, rfl, rfl, rfl, trivial⟩ (by decide) rfl st)
     replace h387 := ite_f b399 h387
     refine GL.skip ?_
     refine GL.nilB ?_
     refine GL.region ?_
     refine RL.binI (v := .int .i64 ((i384 + 1 : Nat) : Int)) rfl rfl rfl rfl (binI_succ i384 (by omega)) ?_
     refine RL.mv rfl rfl rfl ?_
     refine RL.fin ?_
     cases h387
     exact fun a w st => lop_intro (i384 + 1, r394, l340) ⟨by show i384 + 1 + r394 = (x0).toNat; omega, h388⟩ (by simp) (St.cut [0, 1] ⟨rfl, rfl, rfl, rfl, rfl, rfl, rfl, rfl, trivial⟩ (by decide) rfl st)
    have h393 : ¬ i384 < (x0).toNat := by have := of_decide_eq_false b392; omega
    obtain rfl : r385 = 0 := by omega
    replace h389 : some (Fl.nx _) = some y377 := h389
    cases h389
    exact GL.exit (fun a w st => mid_intro l340 h380 (St.cut [0, 1] ⟨rfl, rfl, rfl, rfl, rfl, trivial⟩ (by decide) rfl st))
   rintro l340 h428
   have h429 := h381 _ h428
   try dsimp only at h429
   refine GL.weak (env' := [(0, .int .i64 x0), (1, v1), (7, v13), (20, .int .i64 ((x1).length : Int)), (21, .int .i64 (i293 : Int))]) (L' := [imm (TR.sl TR.int) v1 x1, own 3 TR.int v13 l340]) (fun _ _ st => st) ?_
   refine GL.nilB ?_
   refine GL.region ?_
   refine RL.binI (v := .int .i64 ((i293 + 1 : Nat) : Int)) rfl rfl rfl rfl (binI_succ i293 (by omega)) ?_
   refine RL.mv rfl rfl rfl ?_
   refine RL.fin ?_
   cases h429
   exact fun a w st => lop_intro (i293 + 1, r305, l340) ⟨by show i293 + 1 + r305.length = (x1).length; simp only [List.length_cons] at h299; omega, h306, h297⟩ (by simp) (St.cut [0, 1] ⟨rfl, rfl, rfl, rfl, rfl, trivial⟩ (by decide) rfl st)
  have h302 : ¬ i293 < (x1).length := by have := of_decide_eq_false b301; omega
  obtain rfl : r294 = [] := by rw [← h300]; exact List.drop_of_length_le (by omega)
  replace h298 : some (Fl.nx _) = some y286 := h298
  cases h298
  exact GL.exit (fun a w st => mid_intro l149 h289 (St.cut [1] ⟨rfl, trivial⟩ (by decide) rfl st))
 rintro l149 h430
 have h431 := h290 _ h430
 try dsimp only at h431
 refine GL.weak (env' := [(7, v13)]) (L' := [own 3 TR.int v13 l149]) (fun _ _ st => st) ?_
 refine GL.seq ?_
 refine GL.region ?_
 refine RL.mv rfl rfl rfl ?_
 refine RL.asg rfl rfl rfl ?_
 refine RL.asg rfl rfl rfl ?_
 refine RL.finG ?_
 have h431 := Option.some.inj h431
 subst h431
 exact GL.ret (Gx.ret (v := .tuple #[v13, .int .i64 (0 : Int)]) (res2 rfl rfl rfl) (fun a w st => (st.pick [0] (by decide) rfl).toPost v13))

set_option maxHeartbeats 4000000 in
theorem slices_Equal_int_int_c (S : Hp) (w : World) (hS : S.sub w) (v0 : Value) (x0 : (List Int)) (k0 : ((TR.sl TR.int)).vrep S v0 x0) (v1 : Value) (x1 : (List Int)) (k1 : ((TR.sl TR.int)).vrep S v1 x1) (res : Bool) (hm : slices_Equal_int_int_m x0 x1 = some res) : Calls Try.prog 27 #[v0, v1] w (PostV w (.bool res)) := by
 refine calls_enter 26 Try.func27 Try.ntmps27 rfl S false [(0, v0), (1, v1)] [imm (TR.sl TR.int) v0 x0, imm (TR.sl TR.int) v1 x1] rfl ⟨rfl, ⟨rfl, trivial⟩⟩ hS ⟨k0, ⟨k1, trivial⟩⟩ ?_
 unfold slices_Equal_int_int_m at hm
 refine GL.seq ?_
 refine GL.region ?_
 refine RL.asg rfl rfl rfl ?_
 refine RL.finG ?_
 refine GL.seq ?_
 refine GL.seq ?_
 refine GL.region ?_
 refine RL.mv rfl rfl rfl ?_
 refine RL.lenS 0 Try.underlying22 rfl rfl rfl rfl SlOf.imm ?_
 refine RL.mv rfl rfl rfl ?_
 refine RL.lenS 1 Try.underlying22 rfl rfl rfl rfl SlOf.imm ?_
 refine RL.binI (v := .bool (((x0).length : Int) != ((x1).length : Int))) rfl rfl rfl rfl rfl ?_
 refine RL.finG ?_
 refine GL.cond rfl (fun b3 => ?_) (fun b3 => ?_)
 ·replace hm := ite_t b3 hm
  refine GL.seq ?_
  refine GL.region ?_
  refine RL.asg rfl rfl rfl ?_
  refine RL.finG ?_
  have hm := Option.some.inj hm
  subst hm
  exact GL.ret (Gx.ret (v := .bool false) (res1 rfl rfl) (fun a w st => st.toPostV))
 replace hm := ite_f b3 hm
 refine GL.skip ?_
 refine GL.seq ?_
 refine GL.seq ?_
 refine GL.region ?_
 refine RL.mv rfl rfl rfl ?_
 refine RL.lenS 0 Try.underlying22 rfl rfl rfl rfl SlOf.imm ?_
 refine RL.mv rfl rfl rfl ?_
 refine RL.finG ?_
 refine GL.open_ 0 rfl (fun S h => len_imm S h) (fun n13 => ?_)
 obtain ⟨y14, K15, h16, h17, h18, h19, h20⟩ := bindR_K hm
 refine GL.join (ι := Unit) (fun (p : Unit) => []) (fun (p : Unit) => []) (fun (p : Unit) => K15 (.nx ())) ?_ ?_
 ·refine GL.block ?_
  refine GL.loop (ι := Nat × (List Int)) (fun (p : Nat × (List Int)) => [(0, v0), (1, v1), (12, .int .i64 ((x0).length : Int)), (13, .int .i64 (p.1 : Int))]) (fun (p : Nat × (List Int)) => [imm (TR.sl TR.int) v0 x0, imm (TR.sl TR.int) v1 x1]) (fun (p : Nat × (List Int)) => p.1 + p.2.length = (x0).length ∧ List.drop p.1 x0 = p.2 ∧ rangeL (slices_Equal_int_int_b1 x1) p.2 p.1 () = some y14) (fun (p : Nat × (List Int)) => p.2.length) (0, x0) ⟨by simp, by simp, h16⟩ (fun a w st => St.cut [0, 1] ⟨rfl, rfl, rfl, rfl, trivial⟩ (by decide) rfl st) ?_
  rintro ⟨i21, r22⟩ ⟨h27, h28, h26⟩
  try dsimp only at h27 h28 h26
  refine GL.weak (env' := [(0, v0), (1, v1), (12, .int .i64 ((x0).length : Int)), (13, .int .i64 (i21 : Int))]) (L' := [imm (TR.sl TR.int) v0 x0, imm (TR.sl TR.int) v1 x1]) (fun _ _ st => st) ?_
  refine GL.seq ?_
  refine GL.region ?_
  refine RL.binI (v := .bool (decide ((i21 : Int) < ((x0).length : Int)))) rfl rfl rfl rfl rfl ?_
  refine RL.finG ?_
  refine GL.seq ?_
  refine GL.cond rfl (fun b29 => ?_) (fun b29 => ?_)
  ·have h30 : i21 < (x0).length := by have := of_decide_eq_true b29; omega
   obtain ⟨y31, r33, hr, e32, h34⟩ := drop_cons h28 rfl h30
   subst hr
   obtain ⟨z23, h24, h25⟩ := rangeL_some h26
   unfold slices_Equal_int_int_b1 at h24
   try dsimp only at h24
   refine GL.skip ?_
   refine GL.seq ?_
   refine GL.block ?_
   refine GL.seq ?_
   refine GL.region ?_
   refine RL.mv rfl rfl rfl ?_
   refine RL.asg rfl rfl rfl ?_
   refine RL.finG ?_
   refine GL.seq ?_
   refine GL.regionQ rfl rfl (by kernel_rfl) ?_
   refine RL.mv rfl rfl rfl ?_
   refine RL.mv rfl rfl rfl ?_
   refine RL.idxS (sz := 1) 0 Try.underlying22 Try_ln3 rfl rfl rfl rfl rfl SlOf.imm (by omega) (by omega) ?_
   refine RL.ldSx (i := i21) (e' := y31) 0 Ex.ik Try_ln3 rfl rfl rfl rfl SlOf.imm e32 Part.self ?_
   refine RL.mv rfl rfl rfl ?_
   refine RL.mv rfl rfl rfl ?_
   obtain ⟨y37, e38, h24⟩ := bind_some h24
   refine RL.idxS (sz := 1) 1 Try.underlying22 Try_ln3 rfl rfl rfl rfl rfl SlOf.imm (idx_some e38).1 (idx_some e38).2.1 ?_
   refine RL.ldSx (i := i21) (e' := y37) 1 Ex.ik Try_ln3 rfl rfl rfl rfl SlOf.imm (idx_some e38).2.2 Part.self ?_
   refine RL.binI (v := .bool (y31 != y37)) rfl rfl rfl rfl rfl ?_
   refine RL.finQG ?_
   refine GL.cond rfl (fun b39 => ?_) (fun b39 => ?_)
   ·replace h24 := ite_t b39 h24
    refine GL.seq ?_
    refine GL.region ?_
    refine RL.asg rfl rfl rfl ?_
    refine RL.finG ?_
    cases h24
    replace h25 : some (Fl.rt _) = some y14 := h25
    cases h25
    have hh := h19 _ h17
    subst hh
    exact GL.ret (Gx.ret (v := .bool false) (res1 rfl rfl) (fun a w st => st.toPostV))
   replace h24 := ite_f b39 h24
   refine GL.skip ?_
   refine GL.nilB ?_
   refine GL.region ?_
   refine RL.binI (v := .int .i64 ((i21 + 1 : Nat) : Int)) rfl rfl rfl rfl (binI_succ i21 (by omega)) ?_
   refine RL.mv rfl rfl rfl ?_
   refine RL.fin ?_
   cases h24
   exact fun a w st => lop_intro (i21 + 1, r33) ⟨by show i21 + 1 + r33.length = (x0).length; simp only [List.length_cons] at h27; omega, h34, h25⟩ (by simp) (St.cut [0, 1] ⟨rfl, rfl, rfl, rfl, trivial⟩ (by decide) rfl st)
  have h30 : ¬ i21 < (x0).length := by have := of_decide_eq_false b29; omega
  obtain rfl : r22 = [] := by rw [← h28]; exact List.drop_of_length_le (by omega)
  replace h26 : some (Fl.nx _) = some y14 := h26
  cases h26
  exact GL.exit (fun a w st => mid_intro () h17 (St.cut [] trivial (by decide) rfl st))
 rintro ⟨⟩ h40
 have h41 := h18 _ h40
 try dsimp only at h41
 refine GL.weak (env' := []) (L' := []) (fun _ _ st => st) ?_
 refine GL.seq ?_
 refine GL.region ?_
 refine RL.asg rfl rfl rfl ?_
 refine RL.finG ?_
 have h41 := Option.some.inj h41
 subst h41
 exact GL.ret (Gx.ret (v := .bool true) (res1 rfl rfl) (fun a w st => st.toPostV))

set_option maxHeartbeats 4000000 in
theorem top_works_c (S : Hp) (w : World) (hS : S.sub w)  (res : Bool) (hm : top_works_m = some res) : Calls Try.prog 10 #[] w (PostV w (.bool res)) := by
 refine calls_enter 31 Try.func10 Try.ntmps10 rfl S false [] [] rfl trivial hS trivial ?_
 unfold top_works_m at hm
 refine GL.seq ?_
 refine GL.region ?_
 refine RL.asg rfl rfl rfl ?_
 refine RL.finG ?_
 refine GL.seq ?_
 refine GL.region ?_
 refine RL.bS (t := TR.int) (vs := [.int .i64 (0 : Int), .int .i64 (1 : Int), .int .i64 (2 : Int)]) ([(0 : Int), (1 : Int), (2 : Int)] : (List Int)) Try.underlying22 Try_lo3 rfl rfl rfl rfl ⟨VR.int, ⟨VR.int, ⟨VR.int, trivial⟩⟩⟩ rfl (by decide) ?_
 intro v5
 refine RL.bS (t := TR.int) (vs := [.int .i64 (2 : Int), .int .i64 (0 : Int), .int .i64 (1 : Int)]) ([(2 : Int), (0 : Int), (1 : Int)] : (List Int)) Try.underlying22 Try_lo3 rfl rfl rfl rfl ⟨VR.int, ⟨VR.int, ⟨VR.int, trivial⟩⟩⟩ rfl (by decide) ?_
 intro v6
 refine RL.reL (L' := [own 3 TR.int v5 ([(0 : Int), (1 : Int), (2 : Int)] : (List Int)), own 3 TR.int v6 ([(2 : Int), (0 : Int), (1 : Int)] : (List Int))]) rfl ?_
 obtain ⟨y7, e8, hm⟩ := bind_some hm
 refine RL.callV (v := .tuple #[.int .i64 y7.1, .int .i64 y7.2]) (vs := [v5, v6]) Try_fit30 rfl (Or.inl rfl) rfl rfl rfl rfl (fun U w hU hW hL => order_Far_c U w hU _ _ (hL 0 _ _ rfl Seen.own) _ _ (hL 1 _ _ rfl Seen.own) _ e8) ?_
 refine RL.mv rfl rfl rfl ?_
 refine RL.ext rfl rfl rfl rfl ?_
 refine RL.ext rfl rfl rfl rfl ?_
 refine RL.asg rfl rfl rfl ?_
 refine RL.asg rfl rfl rfl ?_
 refine RL.finG ?_
 refine GL.seq ?_
 refine GL.region ?_
 refine RL.bS (t := TR.int) (vs := [.int .i64 (0 : Int), .int .i64 (0 : Int), .int .i64 (2 : Int), .int .i64 (6 : Int)]) ([(0 : Int), (0 : Int), (2 : Int), (6 : Int)] : (List Int)) Try.underlying22 Try_lo3 rfl rfl rfl rfl ⟨VR.int, ⟨VR.int, ⟨VR.int, ⟨VR.int, trivial⟩⟩⟩⟩ rfl (by decide) ?_
 intro v13
 obtain ⟨y14, e15, hm⟩ := bind_some hm
 refine RL.callU (vs := [.int .i64 (2 : Int), v13]) (LR := fun (o : Value) => [own 3 TR.int o y14.1]) (fun o => ⟨Loc.own TR.flatT_ik, trivial⟩) Try_fit31 rfl rfl rfl rfl rfl (fun U w hU hW hL => worth_Share_c U w hU (2 : Int) _ _ (hL 2 _ _ rfl Seen.own) _ e15) ?_
 intro v16
 refine RL.mv rfl rfl rfl ?_
 refine RL.ext rfl rfl rfl rfl ?_
 refine RL.ext rfl rfl rfl rfl ?_
 refine RL.asg rfl rfl rfl ?_
 refine RL.asg rfl rfl rfl ?_
 refine RL.finG ?_
 refine GL.seq ?_
 obtain ⟨y30, K31, h32, h33, h34, h35, h36⟩ := bindR_K hm
 refine GL.join (ι := Bool) (fun (p : Bool) => [(0, .bool p)]) (fun (p : Bool) => []) (fun (p : Bool) => K31 (.nx p)) ?_ ?_
 ·skip
  refine GL.region ?_
  refine RL.mv rfl rfl rfl ?_
  refine RL.binI (v := .bool (y7.2 == (0 : Int))) rfl rfl rfl rfl rfl ?_
  refine RL.mv rfl rfl rfl ?_
  refine RL.split (t := 18) rfl (fun b37 => ?_) (fun b37 => ?_)
  ·replace h32 := ite_t b37 h32
   refine RL.mv rfl rfl rfl ?_
   refine RL.binI (v := .bool (y14.2 == (0 : Int))) rfl rfl rfl rfl rfl ?_
   refine RL.pickT rfl rfl rfl rfl ?_
   refine RL.mv rfl rfl rfl ?_
   refine RL.split (t := 22) rfl (fun b38 => ?_) (fun b38 => ?_)
   ·replace h32 := ite_t b38 h32
    refine RL.mv rfl rfl rfl ?_
    refine RL.binI (v := .bool (y7.1 == (2 : Int))) rfl rfl rfl rfl rfl ?_
    refine RL.pickT rfl rfl rfl rfl ?_
    refine RL.mv rfl rfl rfl ?_
    refine RL.split (t := 26) rfl (fun b39 => ?_) (fun b39 => ?_)
    ·replace h32 := ite_t b39 h32
     refine RL.mv rfl rfl rfl ?_
     refine RL.bS (t := TR.int) (vs := [.int .i64 (4 : Int), .int .i64 (8 : Int)]) ([(4 : Int), (8 : Int)] : (List Int)) Try.underlying22 Try_lo3 rfl rfl rfl rfl ⟨VR.int, ⟨VR.int, trivial⟩⟩ rfl (by decide) ?_
     intro v40
     refine RL.reL (L' := [own 3 TR.int v5 ([(0 : Int), (1 : Int), (2 : Int)] : (List Int)), own 3 TR.int v6 ([(2 : Int), (0 : Int), (1 : Int)] : (List Int)), own 3 TR.int v13 ([(0 : Int), (0 : Int), (2 : Int), (6 : Int)] : (List Int)), own 3 TR.int v16 y14.1, own 3 TR.int v40 ([(4 : Int), (8 : Int)] : (List Int))]) rfl ?_
     obtain ⟨y41, e42, h32⟩ := bind_some h32
     refine RL.callV (v := .bool y41) (vs := [v16, v40]) Try_fit27 rfl (Or.inl rfl) rfl rfl rfl rfl (fun U w hU hW hL => slices_Equal_int_int_c U w hU _ _ (hL 3 _ _ rfl Seen.own) _ _ (hL 4 _ _ rfl Seen.own) _ e42) ?_
     refine RL.pickT rfl rfl rfl rfl ?_
     refine RL.asg rfl rfl rfl ?_
     refine RL.fin ?_
     cases h32
     exact fun a w st => mid_intro y41 h33 (St.cut [] ⟨rfl, trivial⟩ (by decide) rfl st)
    replace h32 := ite_f b39 h32
    refine RL.skip rfl rfl ?_
    refine RL.skip rfl rfl ?_
    refine RL.skip rfl rfl ?_
    refine RL.pickF rfl rfl rfl rfl ?_
    refine RL.asg rfl rfl rfl ?_
    refine RL.fin ?_
    cases h32
    exact fun a w st => mid_intro false h33 (St.cut [] ⟨rfl, trivial⟩ (by decide) rfl st)
   replace h32 := ite_f b38 h32
   refine RL.skip rfl rfl ?_
   refine RL.skip rfl rfl ?_
   refine RL.pickF rfl rfl rfl rfl ?_
   refine RL.mv rfl rfl rfl ?_
   refine RL.skip rfl rfl ?_
   refine RL.skip rfl rfl ?_
   refine RL.skip rfl rfl ?_
   refine RL.pickF rfl rfl rfl rfl ?_
   refine RL.asg rfl rfl rfl ?_
   refine RL.fin ?_
   cases h32
   exact fun a w st => mid_intro false h33 (St.cut [] ⟨rfl, trivial⟩ (by decide) rfl st)
  replace h32 := ite_f b37 h32
  refine RL.skip rfl rfl ?_
  refine RL.skip rfl rfl ?_
  refine RL.pickF rfl rfl rfl rfl ?_
  refine RL.mv rfl rfl rfl ?_
  refine RL.skip rfl rfl ?_
  refine RL.skip rfl rfl ?_
  refine RL.pickF rfl rfl rfl rfl ?_
  refine RL.mv rfl rfl rfl ?_
  refine RL.skip rfl rfl ?_
  refine RL.skip rfl rfl ?_
  refine RL.skip rfl rfl ?_
  refine RL.pickF rfl rfl rfl rfl ?_
  refine RL.asg rfl rfl rfl ?_
  refine RL.fin ?_
  cases h32
  exact fun a w st => mid_intro false h33 (St.cut [] ⟨rfl, trivial⟩ (by decide) rfl st)
 rintro x29 h43
 have h44 := h34 _ h43
 try dsimp only at h44
 refine GL.weak (env' := [(0, .bool x29)]) (L' := []) (fun _ _ st => st) ?_
 have h44 := Option.some.inj h44
 subst h44
 exact GL.ret (Gx.ret (v := .bool x29) (res1 rfl rfl) (fun a w st => st.toPostV))

set_option maxHeartbeats 4000000 in
theorem slices_IndexFunc_api_Errno_api_Errno_c (S : Hp) (w : World) (hS : S.sub w) (v0 : Value) (x0 : (List Int)) (k0 : ((TR.sl TR.int)).vrep S v0 x0) (f1 : FuncId) (c1 : Array Value) (t1 : Fit Try.prog f1) (g1 : Int → Option Bool) (k1 : ∀ (U : Hp) (w' : World), Hp.le S U → U.sub w' → ∀ (a0 : Int) (rr : Bool), g1 a0 = some rr → Calls Try.prog f1 (#[.int .i64 a0] ++ c1) w' (PostV w' (.bool rr))) (res : Int) (hm : slices_IndexFunc_api_Errno_api_Errno_m x0 g1 = some res) : Calls Try.prog 64 #[v0, .func (.func f1) #[] c1] w (PostV w (.int .i64 res)) := by
 refine calls_enter 19 Try.func64 Try.ntmps64 rfl S false [(0, v0), (1, .func (.func f1) #[] c1)] [imm (TR.sl TR.int) v0 x0] rfl ⟨rfl, ⟨rfl, trivial⟩⟩ hS ⟨k0, trivial⟩ ?_
 unfold slices_IndexFunc_api_Errno_api_Errno_m at hm
 refine GL.seq ?_
 refine GL.region ?_
 refine RL.asg rfl rfl rfl ?_
 refine RL.finG ?_
 refine GL.seq ?_
 refine GL.seq ?_
 refine GL.region ?_
 refine RL.mv rfl rfl rfl ?_
 refine RL.lenS 0 Try.underlying66 rfl rfl rfl rfl SlOf.imm ?_
 refine RL.mv rfl rfl rfl ?_
 refine RL.finG ?_
 refine GL.open_ 0 rfl (fun S h => len_imm S h) (fun n12 => ?_)
 obtain ⟨y13, K14, h15, h16, h17, h18, h19⟩ := bindR_K hm
 refine GL.join (ι := Unit) (fun (p : Unit) => []) (fun (p : Unit) => []) (fun (p : Unit) => K14 (.nx ())) ?_ ?_
 ·refine GL.block ?_
  refine GL.loop (ι := Nat × (List Int)) (fun (p : Nat × (List Int)) => [(0, v0), (1, .func (.func f1) #[] c1), (7, .int .i64 ((x0).length : Int)), (8, .int .i64 (p.1 : Int))]) (fun (p : Nat × (List Int)) => [imm (TR.sl TR.int) v0 x0]) (fun (p : Nat × (List Int)) => p.1 + p.2.length = (x0).length ∧ List.drop p.1 x0 = p.2 ∧ rangeL (slices_IndexFunc_api_Errno_api_Errno_b1 g1) p.2 p.1 () = some y13) (fun (p : Nat × (List Int)) => p.2.length) (0, x0) ⟨by simp, by simp, h15⟩ (fun a w st => St.cut [0] ⟨rfl, rfl, rfl, rfl, trivial⟩ (by decide) rfl st) ?_
  rintro ⟨i20, r21⟩ ⟨h26, h27, h25⟩
  try dsimp only at h26 h27 h25
  refine GL.weak (env' := [(0, v0), (1, .func (.func f1) #[] c1), (7, .int .i64 ((x0).length : Int)), (8, .int .i64 (i20 : Int))]) (L' := [imm (TR.sl TR.int) v0 x0]) (fun _ _ st => st) ?_
  refine GL.seq ?_
  refine GL.region ?_
  refine RL.binI (v := .bool (decide ((i20 : Int) < ((x0).length : Int)))) rfl rfl rfl rfl rfl ?_
  refine RL.finG ?_
  refine GL.seq ?_
  refine GL.cond rfl (fun b28 => ?_) (fun b28 => ?_)
  ·have h29 : i20 < (x0).length := by have := of_decide_eq_true b28; omega
   obtain ⟨y30, r32, hr, e31, h33⟩ := drop_cons h27 rfl h29
   subst hr
   obtain ⟨z22, h23, h24⟩ := rangeL_some h25
   unfold slices_IndexFunc_api_Errno_api_Errno_b1 at h23
   try dsimp only at h23
   refine GL.skip ?_
   refine GL.seq ?_
   refine GL.block ?_
   refine GL.seq ?_
   refine GL.region ?_
   refine RL.mv rfl rfl rfl ?_
   refine RL.asg rfl rfl rfl ?_
   refine RL.finG ?_
   refine GL.seq ?_
   refine GL.region ?_
   refine RL.mv rfl rfl rfl ?_
   refine RL.mv rfl rfl rfl ?_
   refine RL.mv rfl rfl rfl ?_
   refine RL.idxS (sz := 1) 0 Try.underlying66 Try_ln28 rfl rfl rfl rfl rfl SlOf.imm (by omega) (by omega) ?_
   refine RL.ldSx (i := i20) (e' := y30) 0 Ex.ik Try_ln28 rfl rfl rfl rfl SlOf.imm e31 Part.self ?_
   obtain ⟨y36, e37, h23⟩ := bind_some h23
   refine RL.callV (v := .bool y36) (vs := [.int .i64 y30]) t1 rfl (Or.inl rfl) rfl rfl rfl rfl (fun U w hU hW hL => k1 U w hW hU y30 _ e37) ?_
   refine RL.finG ?_
   refine GL.cond rfl (fun b38 => ?_) (fun b38 => ?_)
   ·replace h23 := ite_t b38 h23
    refine GL.seq ?_
    refine GL.region ?_
    refine RL.mv rfl rfl rfl ?_
    refine RL.asg rfl rfl rfl ?_
    refine RL.finG ?_
    cases h23
    replace h24 : some (Fl.rt _) = some y13 := h24
    cases h24
    have hh := h18 _ h16
    subst hh
    exact GL.ret (Gx.ret (v := .int .i64 (i20 : Int)) (res1 rfl rfl) (fun a w st => st.toPostV))
   replace h23 := ite_f b38 h23
   refine GL.skip ?_
   refine GL.nilB ?_
   refine GL.region ?_
   refine RL.binI (v := .int .i64 ((i20 + 1 : Nat) : Int)) rfl rfl rfl rfl (binI_succ i20 (by omega)) ?_
   refine RL.mv rfl rfl rfl ?_
   refine RL.fin ?_
   cases h23
   exact fun a w st => lop_intro (i20 + 1, r32) ⟨by show i20 + 1 + r32.length = (x0).length; simp only [List.length_cons] at h26; omega, h33, h24⟩ (by simp) (St.cut [0] ⟨rfl, rfl, rfl, rfl, trivial⟩ (by decide) rfl st)
  have h29 : ¬ i20 < (x0).length := by have := of_decide_eq_false b28; omega
  obtain rfl : r21 = [] := by rw [← h27]; exact List.drop_of_length_le (by omega)
  replace h25 : some (Fl.nx _) = some y13 := h25
  cases h25
  exact GL.exit (fun a w st => mid_intro () h16 (St.cut [] trivial (by decide) rfl st))
 rintro ⟨⟩ h39
 have h40 := h17 _ h39
 try dsimp only at h40
 refine GL.weak (env' := []) (L' := []) (fun _ _ st => st) ?_
 refine GL.seq ?_
 refine GL.region ?_
 refine RL.asg rfl rfl rfl ?_
 refine RL.finG ?_
 have h40 := Option.some.inj h40
 subst h40
 exact GL.ret (Gx.ret (v := .int .i64 (-1 : Int)) (res1 rfl rfl) (fun a w st => st.toPostV))

set_option maxHeartbeats 4000000 in
theorem slices_ContainsFunc_api_Errno_api_Errno_c (S : Hp) (w : World) (hS : S.sub w) (v0 : Value) (x0 : (List Int)) (k0 : ((TR.sl TR.int)).vrep S v0 x0) (f1 : FuncId) (c1 : Array Value) (t1 : Fit Try.prog f1) (g1 : Int → Option Bool) (k1 : ∀ (U : Hp) (w' : World), Hp.le S U → U.sub w' → ∀ (a0 : Int) (rr : Bool), g1 a0 = some rr → Calls Try.prog f1 (#[.int .i64 a0] ++ c1) w' (PostV w' (.bool rr))) (res : Bool) (hm : slices_ContainsFunc_api_Errno_api_Errno_m x0 g1 = some res) : Calls Try.prog 32 #[v0, .func (.func f1) #[] c1] w (PostV w (.bool res)) := by
 refine calls_enter 9 Try.func32 Try.ntmps32 rfl S false [(0, v0), (1, .func (.func f1) #[] c1)] [imm (TR.sl TR.int) v0 x0] rfl ⟨rfl, ⟨rfl, trivial⟩⟩ hS ⟨k0, trivial⟩ ?_
 unfold slices_ContainsFunc_api_Errno_api_Errno_m at hm
 refine GL.seq ?_
 refine GL.region ?_
 refine RL.asg rfl rfl rfl ?_
 refine RL.finG ?_
 refine GL.seq ?_
 refine GL.region ?_
 refine RL.mv rfl rfl rfl ?_
 refine RL.mv rfl rfl rfl ?_
 obtain ⟨y5, e6, hm⟩ := bind_some hm
 refine RL.callV (v := .int .i64 y5) (vs := [v0, .func (.func f1) #[] c1]) Try_fit64 rfl (Or.inl rfl) rfl rfl rfl rfl (fun U w hU hW hL => slices_IndexFunc_api_Errno_api_Errno_c U w hU _ _ (hL 0 _ _ rfl Seen.imm) f1 c1 t1 g1 (fun U' w' hle => k1 U' w' (Hp.le_trans hW hle)) _ e6) ?_
 refine RL.binI (v := .bool (decide (y5 ≥ (0 : Int)))) rfl rfl rfl rfl rfl ?_
 refine RL.asg rfl rfl rfl ?_
 refine RL.finG ?_
 have hm := Option.some.inj hm
 subst hm
 exact GL.ret (Gx.ret (v := .bool (decide (y5 ≥ (0 : Int)))) (res1 rfl rfl) (fun a w st => st.toPostV))

set_option maxHeartbeats 4000000 in
theorem top_good_1_c (S : Hp) (w : World) (hS : S.sub w) (x0 : Int) (res : Bool) (hm : top_good_1_m x0 = some res) : Calls Try.prog 33 #[.int .i64 x0] w (PostC w (.bool res)) := by
 refine calls_enter 5 Try.func33 Try.ntmps33 rfl S true [(0, .int .i64 x0)] [] rfl ⟨rfl, trivial⟩ hS trivial ?_
 unfold top_good_1_m at hm
 refine GL.seq ?_
 refine GL.region ?_
 refine RL.asg rfl rfl rfl ?_
 refine RL.finG ?_
 refine GL.seq ?_
 refine GL.region ?_
 refine RL.mv rfl rfl rfl ?_
 refine RL.binI (v := .bool (x0 != (0 : Int))) rfl rfl rfl rfl rfl ?_
 refine RL.asg rfl rfl rfl ?_
 refine RL.finG ?_
 have hm := Option.some.inj hm
 subst hm
 exact GL.ret (Gx.ret (v := .bool (x0 != (0 : Int))) (res1 rfl rfl) (fun a w st => st.toPostC rfl))

set_option maxHeartbeats 4000000 in
theorem top_good_c (S : Hp) (w : World) (hS : S.sub w) (v0 : Value) (x0 : (List Int)) (k0 : ((TR.sl TR.int)).vrep S v0 x0) (res : Bool) (hm : top_good_m x0 = some res) : Calls Try.prog 11 #[v0] w (PostV w (.bool res)) := by
 refine calls_enter 6 Try.func11 Try.ntmps11 rfl S false [(0, v0)] [imm (TR.sl TR.int) v0 x0] rfl ⟨rfl, trivial⟩ hS ⟨k0, trivial⟩ ?_
 unfold top_good_m at hm
 refine GL.seq ?_
 refine GL.region ?_
 refine RL.asg rfl rfl rfl ?_
 refine RL.finG ?_
 refine GL.seq ?_
 refine GL.region ?_
 refine RL.mv rfl rfl rfl ?_
 obtain ⟨y4, e5, hm⟩ := bind_some hm
 refine RL.callV (v := .bool y4) (vs := [v0, .func (.func 33) #[] #[]]) Try_fit32 rfl (Or.inl rfl) rfl rfl rfl rfl (fun U w hU hW hL => slices_ContainsFunc_api_Errno_api_Errno_c U w hU _ _ (hL 0 _ _ rfl Seen.imm) 33 #[] Try_fit33 (fun a0 => top_good_1_m a0) (fun U' w' hle hU' a0 rr hr => (top_good_1_c U' w' hU' a0 rr hr).mono (fun _ _ z => z.toV)) _ e5) ?_
 refine RL.notB rfl rfl rfl ?_
 refine RL.asg rfl rfl rfl ?_
 refine RL.finG ?_
 have hm := Option.some.inj hm
 subst hm
 exact GL.ret (Gx.ret (v := .bool (!y4)) (res1 rfl rfl) (fun a w st => st.toPostV))

set_option maxHeartbeats 4000000 in
theorem top_TopMiddle_c (S : Hp) (w : World) (hS : S.sub w) (x0 : Int) (v1 : Value) (x1 : (List Int)) (k1 : ((TR.sl TR.int)).vrep S v1 x1) (v2 : Value) (x2 : (List (List Int))) (k2 : ((TR.sl (TR.sl TR.int))).vrep S v2 x2) (res : Bool) (hm : top_TopMiddle_m x0 x1 x2 = some res) : Calls Try.prog 6 #[.int .i64 x0, v1, v2] w (PostV w (.bool res)) := by
 refine calls_enter 144 Try.func6 Try.ntmps6 rfl S false [(0, .int .i64 x0), (1, v1), (2, v2)] [imm (TR.sl TR.int) v1 x1, imm (TR.sl (TR.sl TR.int)) v2 x2] rfl ⟨rfl, ⟨rfl, ⟨rfl, trivial⟩⟩⟩ hS ⟨k1, ⟨k2, trivial⟩⟩ ?_
 unfold top_TopMiddle_m at hm
 refine GL.seq ?_
 refine GL.region ?_
 refine RL.asg rfl rfl rfl ?_
 refine RL.finG ?_
 refine GL.seq ?_
 refine GL.region ?_
 refine RL.mv rfl rfl rfl ?_
 obtain ⟨y6, e7, hm⟩ := bind_some hm
 refine RL.callC (v := .int .i64 y6) (vs := [.int .i64 x0, .int .i64 (6 : Int)]) Try_fit7 rfl rfl rfl rfl (fun U w hU hW hL => pk_Within_c U w hU x0 (6 : Int) _ e7) ?_
 refine RL.binI (v := .int .i64 (wadd (1 : Int) y6)) rfl rfl rfl rfl rfl ?_
 refine RL.asg rfl rfl rfl ?_
 refine RL.finG ?_
 refine GL.seq ?_
 refine GL.region ?_
 refine RL.mv rfl rfl rfl ?_
 refine RL.mv rfl rfl rfl ?_
 obtain ⟨y11, e12, hm⟩ := bind_some hm
 refine RL.call (vs := [.int .i64 (wadd (1 : Int) y6), v1]) Try_fit18 rfl rfl rfl rfl rfl (fun S f w hS hW hi => pk_OrderOf_c S w hS (wadd (1 : Int) y6) _ _ (hi 0 _ rfl) _ e12) ?_
 intro v13
 refine RL.asg rfl rfl rfl ?_
 refine RL.finG ?_
 refine GL.seq ?_
 refine GL.region ?_
 refine RL.asg rfl rfl rfl ?_
 refine RL.finG ?_
 refine GL.seq ?_
 refine GL.seq ?_
 refine GL.region ?_
 refine RL.mv rfl rfl rfl ?_
 refine RL.mv rfl rfl rfl ?_
 obtain ⟨y17, e18, hm⟩ := bind_some hm
 refine RL.call (vs := [.int .i64 (wadd (1 : Int) y6), v2]) Try_fit19 rfl rfl rfl rfl rfl (fun S f w hS hW hi => pk_VotesOf_c S w hS (wadd (1 : Int) y6) _ _ (hi 1 _ rfl) _ e18) ?_
 intro v19
 refine RL.reL (L' := [imm (TR.sl TR.int) v1 x1, imm (TR.sl (TR.sl TR.int)) v2 x2, own 3 TR.int v13 y11, own 22 (TR.sl TR.int) v19 y17]) rfl ?_
 refine RL.lenS 3 Try.underlying27 rfl rfl rfl rfl SlOf.own ?_
 refine RL.mv rfl rfl rfl ?_
 refine RL.finG ?_
 refine GL.weak (fun a w st => st.nilOwn 22 (TR.sl TR.int)) ?_
 refine GL.lenOwn 3 rfl (fun n42 => ?_)
 obtain ⟨y43, K44, h45, h46, h47, h48, h49⟩ := bindR_K hm
 refine GL.join (ι := (List (List Int)) × Value) (fun (p : (List (List Int)) × Value) => [(0, .int .i64 (wadd (1 : Int) y6)), (7, v13), (8, p.2)]) (fun (p : (List (List Int)) × Value) => [own 3 TR.int v13 y11, own 22 (TR.sl TR.int) p.2 p.1]) (fun (p : (List (List Int)) × Value) => K44 (.nx p.1)) ?_ ?_
 ·refine GL.block ?_
  refine GL.loop (ι := Nat × Nat × (List (List Int)) × Value) (fun (p : Nat × Nat × (List (List Int)) × Value) => [(0, .int .i64 (wadd (1 : Int) y6)), (7, v13), (8, p.2.2.2), (35, v19), (36, .int .i64 ((y17).length : Int)), (37, .int .i64 (p.1 : Int))]) (fun (p : Nat × Nat × (List (List Int)) × Value) => [own 3 TR.int v13 y11, own 22 (TR.sl TR.int) p.2.2.2 p.2.2.1, own 22 (TR.sl TR.int) v19 y17]) (fun (p : Nat × Nat × (List (List Int)) × Value) => p.1 + p.2.1 = (y17).length ∧ rangeN (top_TopMiddle_b1 y17 y11) p.2.1 p.1 p.2.2.1 = some y43) (fun (p : Nat × Nat × (List (List Int)) × Value) => p.2.1) (0, (y17).length, [], Value.slice none 0 0) ⟨by simp, h45⟩ (fun a w st => St.cut [2, 4, 3] ⟨rfl, rfl, rfl, rfl, rfl, rfl, trivial⟩ (by decide) rfl st) ?_
  rintro ⟨i50, r51, l20, v21⟩ ⟨h56, h55⟩
  try dsimp only at h56 h55
  refine GL.weak (env' := [(0, .int .i64 (wadd (1 : Int) y6)), (7, v13), (8, v21), (35, v19), (36, .int .i64 ((y17).length : Int)), (37, .int .i64 (i50 : Int))]) (L' := [own 3 TR.int v13 y11, own 22 (TR.sl TR.int) v21 l20, own 22 (TR.sl TR.int) v19 y17]) (fun _ _ st => st) ?_
  refine GL.seq ?_
  refine GL.region ?_
  refine RL.binI (v := .bool (decide ((i50 : Int) < ((y17).length : Int)))) rfl rfl rfl rfl rfl ?_
  refine RL.finG ?_
  refine GL.seq ?_
  refine GL.cond rfl (fun b58 => ?_) (fun b58 => ?_)
  ·have h59 : i50 < (y17).length := by have := of_decide_eq_true b58; omega
   obtain ⟨r60, hr⟩ : ∃ m, r51 = m + 1 := ⟨r51 - 1, by omega⟩
   subst hr
   obtain ⟨z52, h53, h54⟩ := rangeN_some h55
   unfold top_TopMiddle_b1 at h53
   try dsimp only at h53
   refine GL.skip ?_
   refine GL.seq ?_
   refine GL.block ?_
   refine GL.seq ?_
   refine GL.region ?_
   obtain ⟨y64, e65, h53⟩ := bind_some h53
   refine RL.idxS (sz := 1) 2 Try.underlying27 Try_ln22 rfl rfl rfl rfl rfl SlOf.own (idx_some e65).1 (idx_some e65).2.1 ?_
   refine RL.ldS (i := i50) (r := (TR.sl TR.int)) (e' := y64) 2 Try_ln22 rfl rfl rfl rfl SlOf.own (idx_some e65).2.2 Part.self ?_
   intro v66
   refine RL.asg rfl rfl rfl ?_
   refine RL.finG ?_
   refine GL.seq ?_
   refine GL.region ?_
   refine RL.mv rfl rfl rfl ?_
   refine RL.mv rfl rfl rfl ?_
   obtain ⟨y69, e70, h53⟩ := bind_some h53
   refine RL.callV (v := .tuple #[.bool y69.1, .int .i64 y69.2]) (vs := [v13, v66]) Try_fit20 rfl (Or.inl rfl) rfl rfl rfl rfl (fun U w hU hW hL => peak_Along_c U w hU _ _ (hL 0 _ _ rfl Seen.own) _ _ (hL 3 _ _ rfl Seen.imm) _ e70) ?_
   refine RL.mv rfl rfl rfl ?_
   refine RL.ext rfl rfl rfl rfl ?_
   refine RL.ext rfl rfl rfl rfl ?_
   refine RL.asg rfl rfl rfl ?_
   refine RL.asg rfl rfl rfl ?_
   refine RL.finG ?_
   refine GL.seq ?_
   refine GL.region ?_
   refine RL.mv rfl rfl rfl ?_
   refine RL.binI (v := .bool (y69.2 != (0 : Int))) rfl rfl rfl rfl rfl ?_
   refine RL.finG ?_
   refine GL.cond rfl (fun b71 => ?_) (fun b71 => ?_)
   ·replace h53 := ite_t b71 h53
    refine GL.seq ?_
    refine GL.region ?_
    refine RL.asg rfl rfl rfl ?_
    refine RL.finG ?_
    cases h53
    replace h54 : some (Fl.rt _) = some y43 := h54
    cases h54
    have hh := h48 _ h46
    subst hh
    exact GL.ret (Gx.ret (v := .bool false) (res1 rfl rfl) (fun a w st => st.toPostV))
   replace h53 := ite_f b71 h53
   refine GL.seq ?_
   refine GL.region ?_
   refine RL.mv rfl rfl rfl ?_
   refine RL.finG ?_
   refine GL.cond rfl (fun b72 => ?_) (fun b72 => ?_)
   ·replace h53 := ite_t b72 h53
    refine GL.region ?_
    refine RL.mv rfl rfl rfl ?_
    refine RL.mv rfl rfl rfl ?_
    refine RL.bS (t := (TR.sl TR.int)) (vs := [v66]) ([y64] : (List (List Int))) Try.underlying27 Try_lo22 rfl rfl rfl rfl ⟨(VR.item 3 rfl), trivial⟩ rfl (by decide) ?_
    intro v77
    refine RL.reL (L' := [own 3 TR.int v13 y11, own 22 (TR.sl TR.int) v21 l20, own 22 (TR.sl TR.int) v19 y17, imm (TR.sl TR.int) v66 y64, own 22 (TR.sl TR.int) v77 ([y64] : (List (List Int)))]) rfl ?_
    obtain ⟨y78, e79, h53⟩ := bind_some h53
    replace e79 := chk_some e79
    refine RL.app 1 4 Try.underlying27 Try_lo22 rfl rfl rfl rfl rfl rfl rfl SlOf.own e79 ?_
    intro v80
    refine RL.asg rfl rfl rfl ?_
    refine RL.finG ?_
    refine GL.nilB ?_
    refine GL.region ?_
    refine RL.binI (v := .int .i64 ((i50 + 1 : Nat) : Int)) rfl rfl rfl rfl (binI_succ i50 (by omega)) ?_
    refine RL.mv rfl rfl rfl ?_
    refine RL.fin ?_
    cases h53
    exact fun a w st => lop_intro (i50 + 1, r60, (l20 ++ ([y64] : (List (List Int)))), v80) ⟨by show i50 + 1 + r60 = (y17).length; omega, h54⟩ (by simp) (St.cut [0, 1, 2] ⟨rfl, rfl, rfl, rfl, rfl, rfl, trivial⟩ (by decide) rfl st)
   replace h53 := ite_f b72 h53
   refine GL.skip ?_
   refine GL.nilB ?_
   refine GL.region ?_
   refine RL.binI (v := .int .i64 ((i50 + 1 : Nat) : Int)) rfl rfl rfl rfl (binI_succ i50 (by omega)) ?_
   refine RL.mv rfl rfl rfl ?_
   refine RL.fin ?_
   cases h53
   exact fun a w st => lop_intro (i50 + 1, r60, l20, v21) ⟨by show i50 + 1 + r60 = (y17).length; omega, h54⟩ (by simp) (St.cut [0, 1, 2] ⟨rfl, rfl, rfl, rfl, rfl, rfl, trivial⟩ (by decide) rfl st)
  have h59 : ¬ i50 < (y17).length := by have := of_decide_eq_false b58; omega
  obtain rfl : r51 = 0 := by omega
  replace h55 : some (Fl.nx _) = some y43 := h55
  cases h55
  exact GL.exit (fun a w st => mid_intro (l20, v21) h46 (St.cut [0, 1] ⟨rfl, rfl, rfl, trivial⟩ (by decide) rfl st))
 rintro ⟨l20, v21⟩ h81
 have h82 := h47 _ h81
 try dsimp only at h82
 refine GL.weak (env' := [(0, .int .i64 (wadd (1 : Int) y6)), (7, v13), (8, v21)]) (L' := [own 3 TR.int v13 y11, own 22 (TR.sl TR.int) v21 l20]) (fun _ _ st => st) ?_
 refine GL.seq ?_
 refine GL.seq ?_
 refine GL.region ?_
 refine RL.mv rfl rfl rfl ?_
 refine RL.lenS 1 Try.underlying27 rfl rfl rfl rfl SlOf.own ?_
 obtain ⟨y85, e86, h82⟩ := bind_some h82
 replace e86 := chk_some e86
 refine RL.rem rfl rfl rfl rfl e86 ?_
 refine RL.binI (v := .bool ((Int.tmod ((l20).length : Int) (2 : Int)) == (0 : Int))) rfl rfl rfl rfl rfl ?_
 refine RL.finG ?_
 obtain ⟨y98, K99, h100, h101, h102, h103, h104⟩ := bindR_K h82
 refine GL.join (ι := (List (List Int)) × Value) (fun (p : (List (List Int)) × Value) => [(0, .int .i64 (wadd (1 : Int) y6)), (7, v13), (8, p.2)]) (fun (p : (List (List Int)) × Value) => [imm (TR.sl TR.int) v13 y11, own 22 (TR.sl TR.int) p.2 p.1]) (fun (p : (List (List Int)) × Value) => K99 (.nx p.1)) ?_ ?_
 ·skip
  refine GL.cond rfl (fun b105 => ?_) (fun b105 => ?_)
  ·replace h100 := ite_t b105 h100
   refine GL.region ?_
   refine RL.mv rfl rfl rfl ?_
   refine RL.mv rfl rfl rfl ?_
   refine RL.weak (fun a w st => st.freeze 0 rfl) ?_
   refine RL.bS (t := (TR.sl TR.int)) (vs := [v13]) ([y11] : (List (List Int))) Try.underlying27 Try_lo22 rfl rfl rfl rfl ⟨(VR.item 0 rfl), trivial⟩ rfl (by decide) ?_
   intro v110
   refine RL.reL (L' := [imm (TR.sl TR.int) v13 y11, own 22 (TR.sl TR.int) v21 l20, own 22 (TR.sl TR.int) v110 ([y11] : (List (List Int)))]) rfl ?_
   obtain ⟨y111, e112, h100⟩ := bind_some h100
   replace e112 := chk_some e112
   refine RL.app 1 2 Try.underlying27 Try_lo22 rfl rfl rfl rfl rfl rfl rfl SlOf.own e112 ?_
   intro v113
   refine RL.asg rfl rfl rfl ?_
   refine RL.finG ?_
   cases h100
   exact fun a w st => mid_intro ((l20 ++ ([y11] : (List (List Int)))), v113) h101 (St.cut [0, 1] ⟨rfl, rfl, rfl, trivial⟩ (by decide) rfl st)
  replace h100 := ite_f b105 h100
  refine GL.skip ?_
  refine GL.weak (fun a w st => st.freeze 0 rfl) ?_
  cases h100
  exact fun a w st => mid_intro (l20, v21) h101 (St.cut [0, 1] ⟨rfl, rfl, rfl, trivial⟩ (by decide) rfl st)
 rintro ⟨l96, v97⟩ h114
 have h115 := h102 _ h114
 try dsimp only at h115
 refine GL.weak (env' := [(0, .int .i64 (wadd (1 : Int) y6)), (7, v13), (8, v97)]) (L' := [imm (TR.sl TR.int) v13 y11, own 22 (TR.sl TR.int) v97 l96]) (fun _ _ st => st) ?_
 refine GL.seq ?_
 refine GL.seq ?_
 refine GL.region ?_
 refine RL.mv rfl rfl rfl ?_
 refine RL.lenS 1 Try.underlying27 rfl rfl rfl rfl SlOf.own ?_
 refine RL.binI (v := .bool (decide (((l96).length : Int) > (30 : Int)))) rfl rfl rfl rfl rfl ?_
 refine RL.finG ?_
 obtain ⟨y125, K126, h127, h128, h129, h130, h131⟩ := bindR_K h115
 refine GL.join (ι := (List (List Int)) × Value) (fun (p : (List (List Int)) × Value) => [(0, .int .i64 (wadd (1 : Int) y6)), (7, v13), (8, p.2)]) (fun (p : (List (List Int)) × Value) => [imm (TR.sl TR.int) v13 y11, imm (TR.sl (TR.sl TR.int)) p.2 p.1]) (fun (p : (List (List Int)) × Value) => K126 (.nx p.1)) ?_ ?_
 ·skip
  refine GL.cond rfl (fun b132 => ?_) (fun b132 => ?_)
  ·replace h127 := ite_t b132 h127
   refine GL.region ?_
   refine RL.mv rfl rfl rfl ?_
   refine RL.weak (fun a w st => st.freeze 1 rfl) ?_
   obtain ⟨y136, e137, h127⟩ := bind_some h127
   replace e137 := chk_some e137
   refine RL.slc (t := (TR.sl TR.int)) (i := 0) (j := ((29 : Int)).toNat) (sz := 1) 1 Try.underlying27 Try_ln22 rfl rfl rfl rfl (Or.inl ⟨rfl, rfl⟩) (Or.inr ⟨_, _, rfl, by rw [Int.toNat_of_nonneg (by omega)]; rfl⟩) rfl (by omega) (by omega) ?_
   intro v138
   refine RL.reL (L' := [imm (TR.sl TR.int) v13 y11, imm (TR.sl (TR.sl TR.int)) v97 l96, imm (TR.sl (TR.sl TR.int)) v138 ((List.take (((29 : Int)).toNat) l96).drop 0)]) rfl ?_
   refine RL.asg rfl rfl rfl ?_
   refine RL.finG ?_
   cases h127
   exact fun a w st => mid_intro (((List.take (((29 : Int)).toNat) l96).drop 0), v138) h128 (St.cut [0, 2] ⟨rfl, rfl, rfl, trivial⟩ (by decide) rfl st)
  replace h127 := ite_f b132 h127
  refine GL.skip ?_
  refine GL.weak (fun a w st => st.freeze 1 rfl) ?_
  cases h127
  exact fun a w st => mid_intro (l96, v97) h128 (St.cut [0, 1] ⟨rfl, rfl, rfl, trivial⟩ (by decide) rfl st)
 rintro ⟨l123, v124⟩ h139
 have h140 := h129 _ h139
 try dsimp only at h140
 refine GL.weak (env' := [(0, .int .i64 (wadd (1 : Int) y6)), (7, v13), (8, v124)]) (L' := [imm (TR.sl TR.int) v13 y11, imm (TR.sl (TR.sl TR.int)) v124 l123]) (fun _ _ st => st) ?_
 refine GL.seq ?_
 refine GL.region ?_
 refine RL.mv rfl rfl rfl ?_
 refine RL.mv rfl rfl rfl ?_
 obtain ⟨y143, e144, h140⟩ := bind_some h140
 refine RL.callV (v := .tuple #[.int .i64 y143.1, .int .i64 y143.2]) (vs := [v13, v124]) Try_fit21 rfl (Or.inl rfl) rfl rfl rfl rfl (fun U w hU hW hL => peak_Middle_c U w hU _ _ (hL 0 _ _ rfl Seen.imm) _ _ (hL 1 _ _ rfl Seen.imm) _ e144) ?_
 refine RL.mv rfl rfl rfl ?_
 refine RL.ext rfl rfl rfl rfl ?_
 refine RL.ext rfl rfl rfl rfl ?_
 refine RL.asg rfl rfl rfl ?_
 refine RL.asg rfl rfl rfl ?_
 refine RL.finG ?_
 refine GL.seq ?_
 refine GL.region ?_
 refine RL.mv rfl rfl rfl ?_
 refine RL.mv rfl rfl rfl ?_
 obtain ⟨y148, e149, h140⟩ := bind_some h140
 refine RL.call (vs := [.int .i64 (wadd (1 : Int) y6), v124]) Try_fit22 rfl rfl rfl rfl rfl (fun S f w hS hW hi => tally_Duels_c S w hS (wadd (1 : Int) y6) _ _ (hi 1 _ rfl) _ e149) ?_
 intro v150
 refine RL.mv rfl rfl rfl ?_
 refine RL.ext rfl rfl rfl rfl ?_
 refine RL.ext rfl rfl rfl rfl ?_
 refine RL.asg rfl rfl rfl ?_
 refine RL.asg rfl rfl rfl ?_
 refine RL.finG ?_
 refine GL.seq ?_
 refine GL.region ?_
 refine RL.mv rfl rfl rfl ?_
 obtain ⟨y154, e155, h140⟩ := bind_some h140
 refine RL.call (vs := [v150]) Try_fit23 rfl rfl rfl rfl rfl (fun S f w hS hW hi => widest_Winners_c S w hS _ _ (hi 2 _ rfl) _ e155) ?_
 intro v156
 refine RL.reL (L' := [imm (TR.sl TR.int) v13 y11, imm (TR.sl (TR.sl TR.int)) v124 l123, imm (TR.sl (TR.sl TR.int)) v150 y148.1, own 3 TR.int v156 y154.1]) rfl ?_
 refine RL.mv rfl rfl rfl ?_
 refine RL.ext rfl rfl rfl rfl ?_
 refine RL.ext rfl rfl rfl rfl ?_
 refine RL.asg rfl rfl rfl ?_
 refine RL.asg rfl rfl rfl ?_
 refine RL.finG ?_
 refine GL.seq ?_
 refine GL.region ?_
 refine RL.mv rfl rfl rfl ?_
 obtain ⟨y160, e161, h140⟩ := bind_some h140
 refine RL.call (vs := [v150]) Try_fit24 rfl rfl rfl rfl rfl (fun S f w hS hW hi => duel_Top_c S w hS _ _ (hi 2 _ rfl) _ e161) ?_
 intro v162
 refine RL.mv rfl rfl rfl ?_
 refine RL.ext rfl rfl rfl rfl ?_
 refine RL.ext rfl rfl rfl rfl ?_
 refine RL.asg rfl rfl rfl ?_
 refine RL.asg rfl rfl rfl ?_
 refine RL.finG ?_
 refine GL.seq ?_
 refine GL.region ?_
 refine RL.mv rfl rfl rfl ?_
 refine RL.mv rfl rfl rfl ?_
 obtain ⟨y166, e167, h140⟩ := bind_some h140
 refine RL.call (vs := [.int .i64 (3 : Int), .int .i64 (wadd (1 : Int) y6), v124]) Try_fit25 rfl rfl rfl rfl rfl (fun S f w hS hW hi => rules_Winners_c S w hS (3 : Int) (wadd (1 : Int) y6) _ _ (hi 1 _ rfl) _ e167) ?_
 intro v168
 refine RL.reL (L' := [imm (TR.sl TR.int) v13 y11, imm (TR.sl (TR.sl TR.int)) v124 l123, imm (TR.sl (TR.sl TR.int)) v150 y148.1, own 3 TR.int v156 y154.1, own 3 TR.int v162 y160.1, own 3 TR.int v168 y166.1]) rfl ?_
 refine RL.mv rfl rfl rfl ?_
 refine RL.ext rfl rfl rfl rfl ?_
 refine RL.ext rfl rfl rfl rfl ?_
 refine RL.asg rfl rfl rfl ?_
 refine RL.asg rfl rfl rfl ?_
 refine RL.finG ?_
 refine GL.seq ?_
 refine GL.region ?_
 refine RL.mv rfl rfl rfl ?_
 refine RL.mv rfl rfl rfl ?_
 obtain ⟨y172, e173, h140⟩ := bind_some h140
 refine RL.call (vs := [.int .i64 (wadd (1 : Int) y6), v124]) Try_fit26 rfl rfl rfl rfl rfl (fun S f w hS hW hi => middle_Best_c S w hS (wadd (1 : Int) y6) _ _ (hi 1 _ rfl) _ e173) ?_
 intro v174
 refine RL.mv rfl rfl rfl ?_
 refine RL.ext rfl rfl rfl rfl ?_
 refine RL.ext rfl rfl rfl rfl ?_
 refine RL.ext rfl rfl rfl rfl ?_
 refine RL.asg rfl rfl rfl ?_
 refine RL.asg rfl rfl rfl ?_
 refine RL.asg rfl rfl rfl ?_
 refine RL.finG ?_
 refine GL.seq ?_
 refine GL.region ?_
 refine RL.mv rfl rfl rfl ?_
 refine RL.bS (t := TR.int) (vs := [.int .i64 y143.1]) ([y143.1] : (List Int)) Try.underlying22 Try_lo3 rfl rfl rfl rfl ⟨VR.int, trivial⟩ rfl (by decide) ?_
 intro v176
 refine RL.reL (L' := [imm (TR.sl TR.int) v13 y11, imm (TR.sl (TR.sl TR.int)) v124 l123, imm (TR.sl (TR.sl TR.int)) v150 y148.1, own 3 TR.int v156 y154.1, own 3 TR.int v162 y160.1, own 3 TR.int v168 y166.1, imm (TR.sl TR.int) v174 y172.1, own 3 TR.int v176 ([y143.1] : (List Int))]) rfl ?_
 refine RL.asg rfl rfl rfl ?_
 refine RL.finG ?_
 refine GL.seq ?_
 obtain ⟨y216, K217, h218, h219, h220, h221, h222⟩ := bindR_K h140
 refine GL.join (ι := Bool) (fun (p : Bool) => [(6, .bool p)]) (fun (p : Bool) => []) (fun (p : Bool) => K217 (.nx p)) ?_ ?_
 ·skip
  refine GL.region ?_
  obtain ⟨y223, e224, h218⟩ := bind_some h218
  refine RL.callV (v := .bool y223) (vs := []) Try_fit10 rfl (Or.inl rfl) rfl rfl rfl rfl (fun U w hU hW hL => top_works_c U w hU  _ e224) ?_
  refine RL.mv rfl rfl rfl ?_
  refine RL.split (t := 106) rfl (fun b225 => ?_) (fun b225 => ?_)
  ·replace h218 := ite_t b225 h218
   refine RL.mv rfl rfl rfl ?_
   refine RL.mv rfl rfl rfl ?_
   refine RL.mv rfl rfl rfl ?_
   refine RL.mv rfl rfl rfl ?_
   refine RL.mv rfl rfl rfl ?_
   refine RL.mv rfl rfl rfl ?_
   refine RL.bS (t := TR.int) (vs := [.int .i64 y143.2, .int .i64 y148.2, .int .i64 y154.2, .int .i64 y160.2, .int .i64 y166.2, .int .i64 y172.2.2]) ([y143.2, y148.2, y154.2, y160.2, y166.2, y172.2.2] : (List Int)) Try.underlying66 Try_lo28 rfl rfl rfl rfl ⟨VR.int, ⟨VR.int, ⟨VR.int, ⟨VR.int, ⟨VR.int, ⟨VR.int, trivial⟩⟩⟩⟩⟩⟩ rfl (by decide) ?_
   intro v226
   obtain ⟨y227, e228, h218⟩ := bind_some h218
   refine RL.callV (v := .bool y227) (vs := [v226]) Try_fit11 rfl (Or.inl rfl) rfl rfl rfl rfl (fun U w hU hW hL => top_good_c U w hU _ _ (hL 8 _ _ rfl Seen.own) _ e228) ?_
   refine RL.pickT rfl rfl rfl rfl ?_
   refine RL.mv rfl rfl rfl ?_
   refine RL.split (t := 116) rfl (fun b229 => ?_) (fun b229 => ?_)
   ·replace h218 := ite_t b229 h218
    refine RL.mv rfl rfl rfl ?_
    refine RL.mv rfl rfl rfl ?_
    obtain ⟨y230, e231, h218⟩ := bind_some h218
    refine RL.callV (v := .bool y230) (vs := [v156, v176]) Try_fit27 rfl (Or.inl rfl) rfl rfl rfl rfl (fun U w hU hW hL => slices_Equal_int_int_c U w hU _ _ (hL 3 _ _ rfl Seen.own) _ _ (hL 7 _ _ rfl Seen.own) _ e231) ?_
    refine RL.pickT rfl rfl rfl rfl ?_
    refine RL.mv rfl rfl rfl ?_
    refine RL.split (t := 121) rfl (fun b232 => ?_) (fun b232 => ?_)
    ·replace h218 := ite_t b232 h218
     refine RL.mv rfl rfl rfl ?_
     refine RL.mv rfl rfl rfl ?_
     obtain ⟨y233, e234, h218⟩ := bind_some h218
     refine RL.callV (v := .bool y233) (vs := [v162, v176]) Try_fit27 rfl (Or.inl rfl) rfl rfl rfl rfl (fun U w hU hW hL => slices_Equal_int_int_c U w hU _ _ (hL 4 _ _ rfl Seen.own) _ _ (hL 7 _ _ rfl Seen.own) _ e234) ?_
     refine RL.pickT rfl rfl rfl rfl ?_
     refine RL.mv rfl rfl rfl ?_
     refine RL.split (t := 126) rfl (fun b235 => ?_) (fun b235 => ?_)
     ·replace h218 := ite_t b235 h218
      refine RL.mv rfl rfl rfl ?_
      refine RL.mv rfl rfl rfl ?_
      obtain ⟨y236, e237, h218⟩ := bind_some h218
      refine RL.callV (v := .bool y236) (vs := [v168, v176]) Try_fit27 rfl (Or.inl rfl) rfl rfl rfl rfl (fun U w hU hW hL => slices_Equal_int_int_c U w hU _ _ (hL 5 _ _ rfl Seen.own) _ _ (hL 7 _ _ rfl Seen.own) _ e237) ?_
      refine RL.pickT rfl rfl rfl rfl ?_
      refine RL.mv rfl rfl rfl ?_
      refine RL.split (t := 131) rfl (fun b238 => ?_) (fun b238 => ?_)
      ·replace h218 := ite_t b238 h218
       refine RL.mv rfl rfl rfl ?_
       refine RL.lenS 6 Try.underlying22 rfl rfl rfl rfl SlOf.imm ?_
       refine RL.mv rfl rfl rfl ?_
       refine RL.binI (v := .bool (((y172.1).length : Int) == (wadd (1 : Int) y6))) rfl rfl rfl rfl rfl ?_
       refine RL.pickT rfl rfl rfl rfl ?_
       refine RL.mv rfl rfl rfl ?_
       refine RL.split (t := 137) rfl (fun b239 => ?_) (fun b239 => ?_)
       ·replace h218 := ite_t b239 h218
        refine RL.mv rfl rfl rfl ?_
        obtain ⟨y240, e241, h218⟩ := bind_some h218
        refine RL.idxS (sz := 1) 6 Try.underlying22 Try_ln3 rfl rfl rfl rfl rfl SlOf.imm (idx_some e241).1 (idx_some e241).2.1 ?_
        refine RL.ldSx (i := ((0 : Int)).toNat) (e' := y240) 6 Ex.ik Try_ln3 rfl rfl rfl rfl SlOf.imm (idx_some e241).2.2 Part.self ?_
        refine RL.mv rfl rfl rfl ?_
        refine RL.binI (v := .bool (y240 == y143.1)) rfl rfl rfl rfl rfl ?_
        refine RL.pickT rfl rfl rfl rfl ?_
        refine RL.asg rfl rfl rfl ?_
        refine RL.fin ?_
        cases h218
        exact fun a w st => mid_intro (y240 == y143.1) h219 (St.cut [] ⟨rfl, trivial⟩ (by decide) rfl st)
       replace h218 := ite_f b239 h218
       refine RL.skip rfl rfl ?_
       refine RL.skip rfl rfl ?_
       refine RL.skip rfl rfl ?_
       refine RL.skip rfl rfl ?_
       refine RL.skip rfl rfl ?_
       refine RL.pickF rfl rfl rfl rfl ?_
       refine RL.asg rfl rfl rfl ?_
       refine RL.fin ?_
       cases h218
       exact fun a w st => mid_intro false h219 (St.cut [] ⟨rfl, trivial⟩ (by decide) rfl st)
      replace h218 := ite_f b238 h218
      refine RL.skip rfl rfl ?_
      refine RL.skip rfl rfl ?_
      refine RL.skip rfl rfl ?_
      refine RL.skip rfl rfl ?_
      refine RL.pickF rfl rfl rfl rfl ?_
      refine RL.mv rfl rfl rfl ?_
      refine RL.skip rfl rfl ?_
      refine RL.skip rfl rfl ?_
      refine RL.skip rfl rfl ?_
      refine RL.skip rfl rfl ?_
      refine RL.skip rfl rfl ?_
      refine RL.pickF rfl rfl rfl rfl ?_
      refine RL.asg rfl rfl rfl ?_
      refine RL.fin ?_
      cases h218
      exact fun a w st => mid_intro false h219 (St.cut [] ⟨rfl, trivial⟩ (by decide) rfl st)
     replace h218 := ite_f b235 h218
     refine RL.skip rfl rfl ?_
     refine RL.skip rfl rfl ?_
     refine RL.skip rfl rfl ?_
     refine RL.pickF rfl rfl rfl rfl ?_
     refine RL.mv rfl rfl rfl ?_
     refine RL.skip rfl rfl ?_
     refine RL.skip rfl rfl ?_
     refine RL.skip rfl rfl ?_
     refine RL.skip rfl rfl ?_
     refine RL.pickF rfl rfl rfl rfl ?_
     refine RL.mv rfl rfl rfl ?_
     refine RL.skip rfl rfl ?_
     refine RL.skip rfl rfl ?_
     refine RL.skip rfl rfl ?_
     refine RL.skip rfl rfl ?_
     refine RL.skip rfl rfl ?_
     refine RL.pickF rfl rfl rfl rfl ?_
     refine RL.asg rfl rfl rfl ?_
     refine RL.fin ?_
     cases h218
     exact fun a w st => mid_intro false h219 (St.cut [] ⟨rfl, trivial⟩ (by decide) rfl st)
    replace h218 := ite_f b232 h218
    refine RL.skip rfl rfl ?_
    refine RL.skip rfl rfl ?_
    refine RL.skip rfl rfl ?_
    refine RL.pickF rfl rfl rfl rfl ?_
    refine RL.mv rfl rfl rfl ?_
    refine RL.skip rfl rfl ?_
    refine RL.skip rfl rfl ?_
    refine RL.skip rfl rfl ?_
    refine RL.pickF rfl rfl rfl rfl ?_
    refine RL.mv rfl rfl rfl ?_
    refine RL.skip rfl rfl ?_
    refine RL.skip rfl rfl ?_
    refine RL.skip rfl rfl ?_
    refine RL.skip rfl rfl ?_
    refine RL.pickF rfl rfl rfl rfl ?_
    refine RL.mv rfl rfl rfl ?_
    refine RL.skip rfl rfl ?_
    refine RL.skip rfl rfl ?_
    refine RL.skip rfl rfl ?_
    refine RL.skip rfl rfl ?_
    refine RL.skip rfl rfl ?_
    refine RL.pickF rfl rfl rfl rfl ?_
    refine RL.asg rfl rfl rfl ?_
    refine RL.fin ?_
    cases h218
    exact fun a w st => mid_intro false h219 (St.cut [] ⟨rfl, trivial⟩ (by decide) rfl st)
   replace h218 := ite_f b229 h218
   refine RL.skip rfl rfl ?_
   refine RL.skip rfl rfl ?_
   refine RL.skip rfl rfl ?_
   refine RL.pickF rfl rfl rfl rfl ?_
   refine RL.mv rfl rfl rfl ?_
   refine RL.skip rfl rfl ?_
   refine RL.skip rfl rfl ?_
   refine RL.skip rfl rfl ?_
   refine RL.pickF rfl rfl rfl rfl ?_
   refine RL.mv rfl rfl rfl ?_
   refine RL.skip rfl rfl ?_
   refine RL.skip rfl rfl ?_
   refine RL.skip rfl rfl ?_
   refine RL.pickF rfl rfl rfl rfl ?_
   refine RL.mv rfl rfl rfl ?_
   refine RL.skip rfl rfl ?_
   refine RL.skip rfl rfl ?_
   refine RL.skip rfl rfl ?_
   refine RL.skip rfl rfl ?_
   refine RL.pickF rfl rfl rfl rfl ?_
   refine RL.mv rfl rfl rfl ?_
   refine RL.skip rfl rfl ?_
   refine RL.skip rfl rfl ?_
   refine RL.skip rfl rfl ?_
   refine RL.skip rfl rfl ?_
   refine RL.skip rfl rfl ?_
   refine RL.pickF rfl rfl rfl rfl ?_
   refine RL.asg rfl rfl rfl ?_
   refine RL.fin ?_
   cases h218
   exact fun a w st => mid_intro false h219 (St.cut [] ⟨rfl, trivial⟩ (by decide) rfl st)
  replace h218 := ite_f b225 h218
  refine RL.skip rfl rfl ?_
  refine RL.skip rfl rfl ?_
  refine RL.skip rfl rfl ?_
  refine RL.skip rfl rfl ?_
  refine RL.skip rfl rfl ?_
  refine RL.skip rfl rfl ?_
  refine RL.skip rfl rfl ?_
  refine RL.skip rfl rfl ?_
  refine RL.pickF rfl rfl rfl rfl ?_
  refine RL.mv rfl rfl rfl ?_
  refine RL.skip rfl rfl ?_
  refine RL.skip rfl rfl ?_
  refine RL.skip rfl rfl ?_
  refine RL.pickF rfl rfl rfl rfl ?_
  refine RL.mv rfl rfl rfl ?_
  refine RL.skip rfl rfl ?_
  refine RL.skip rfl rfl ?_
  refine RL.skip rfl rfl ?_
  refine RL.pickF rfl rfl rfl rfl ?_
  refine RL.mv rfl rfl rfl ?_
  refine RL.skip rfl rfl ?_
  refine RL.skip rfl rfl ?_
  refine RL.skip rfl rfl ?_
  refine RL.pickF rfl rfl rfl rfl ?_
  refine RL.mv rfl rfl rfl ?_
  refine RL.skip rfl rfl ?_
  refine RL.skip rfl rfl ?_
  refine RL.skip rfl rfl ?_
  refine RL.skip rfl rfl ?_
  refine RL.pickF rfl rfl rfl rfl ?_
  refine RL.mv rfl rfl rfl ?_
  refine RL.skip rfl rfl ?_
  refine RL.skip rfl rfl ?_
  refine RL.skip rfl rfl ?_
  refine RL.skip rfl rfl ?_
  refine RL.skip rfl rfl ?_
  refine RL.pickF rfl rfl rfl rfl ?_
  refine RL.asg rfl rfl rfl ?_
  refine RL.fin ?_
  cases h218
  exact fun a w st => mid_intro false h219 (St.cut [] ⟨rfl, trivial⟩ (by decide) rfl st)
 rintro x215 h242
 have h243 := h220 _ h242
 try dsimp only at h243
 refine GL.weak (env' := [(6, .bool x215)]) (L' := []) (fun _ _ st => st) ?_
 have h243 := Option.some.inj h243
 subst h243
 exact GL.ret (Gx.ret (v := .bool x215) (res1 rfl rfl) (fun a w st => st.toPostV))
end Go.Wk
