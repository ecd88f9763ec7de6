/- Each function comes to what its model says; printed by a program of this repository. -/
import Derived.Test.YtfekdillbgblkaaProg
import Derived.Test.YtfekdillbgblkaaWVotesOwnModels
import Derived.Test.YtfekdillbgblkaaWVotesOwnWalks1
namespace Go.Wk
open Go.Fw Go.Mo Go.Proofs Go.RowKit
set_option linter.all false
set_option maxRecDepth 100000

set_option maxHeartbeats 4000000 in
theorem rules_Winners_c (S : Hp) (w : World) (hS : S.sub w) (x0 : Int) (x1 : Int) (v2 : Value) (x2 : (List (List Int))) (k2 : ((TR.sl (TR.sl TR.int))).vrep S v2 x2) (res : (List Int) × Int) (hm : rules_Winners_m x0 x1 x2 = some res) : Calls Try.prog 47 #[.int .i64 x0, .int .i64 x1, v2] w (Post w S (fun (o : Value) => .tuple #[o, .int .i64 res.2]) (fun (o : Value) => [own 3 TR.int o res.1])) := by
 refine calls_enter 79 Try.func47 Try.ntmps47 rfl S false [(0, .int .i64 x0), (1, .int .i64 x1), (2, v2)] [imm (TR.sl (TR.sl TR.int)) v2 x2] rfl ⟨rfl, ⟨rfl, ⟨rfl, trivial⟩⟩⟩ hS ⟨k2, trivial⟩ ?_
 unfold rules_Winners_m at hm
 refine GL.seq ?_
 refine GL.region ?_
 refine RL.asg rfl rfl rfl ?_
 refine RL.asg rfl rfl rfl ?_
 refine RL.finG ?_
 refine GL.seq ?_
 refine GL.seq ?_
 obtain ⟨y7, K8, h9, h10, h11, h12, h13⟩ := bindR_K hm
 refine GL.join (ι := Bool) (fun (p : Bool) => [(0, .int .i64 x0), (1, .int .i64 x1), (2, v2), (17, .bool p)]) (fun (p : Bool) => [imm (TR.sl (TR.sl TR.int)) v2 x2]) (fun (p : Bool) => K8 (.nx p)) ?_ ?_
 ·skip
  refine GL.region ?_
  refine RL.mv rfl rfl rfl ?_
  refine RL.binI (v := .bool (decide (x0 < (1 : Int)))) rfl rfl rfl rfl rfl ?_
  refine RL.mv rfl rfl rfl ?_
  refine RL.split (t := 14) rfl (fun b14 => ?_) (fun b14 => ?_)
  ·replace h9 := ite_t b14 h9
   refine RL.skip rfl rfl ?_
   refine RL.skip rfl rfl ?_
   refine RL.pickT rfl rfl rfl rfl ?_
   refine RL.fin ?_
   cases h9
   exact fun a w st => mid_intro true h10 (St.cut [0] ⟨rfl, rfl, rfl, rfl, trivial⟩ (by decide) rfl st)
  replace h9 := ite_f b14 h9
  refine RL.mv rfl rfl rfl ?_
  refine RL.binI (v := .bool (decide (x0 > (5 : Int)))) rfl rfl rfl rfl rfl ?_
  refine RL.pickF rfl rfl rfl rfl ?_
  refine RL.fin ?_
  cases h9
  exact fun a w st => mid_intro (decide (x0 > (5 : Int))) h10 (St.cut [0] ⟨rfl, rfl, rfl, rfl, trivial⟩ (by decide) rfl st)
 rintro x6 h15
 have h16 := h11 _ h15
 try dsimp only at h16
 refine GL.weak (env' := [(0, .int .i64 x0), (1, .int .i64 x1), (2, v2), (17, .bool x6)]) (L' := [imm (TR.sl (TR.sl TR.int)) v2 x2]) (fun _ _ st => st) ?_
 refine GL.cond rfl (fun b17 => ?_) (fun b17 => ?_)
 ·replace h16 := ite_t b17 h16
  refine GL.seq ?_
  refine GL.region ?_
  refine RL.asg rfl rfl rfl ?_
  refine RL.asg rfl rfl rfl ?_
  refine RL.finG ?_
  refine GL.weak (fun a w st => st.nilOwn 3 TR.int) ?_
  have h16 := Option.some.inj h16
  subst h16
  exact GL.ret (Gx.ret (v := .tuple #[Value.slice none 0 0, .int .i64 (1 : Int)]) (res2 rfl rfl rfl) (fun a w st => (st.pick [1] (by decide) rfl).toPost (Value.slice none 0 0)))
 replace h16 := ite_f b17 h16
 refine GL.skip ?_
 refine GL.seq ?_
 refine GL.region ?_
 refine RL.mv rfl rfl rfl ?_
 refine RL.mv rfl rfl rfl ?_
 obtain ⟨y22, e23, h16⟩ := bind_some h16
 refine RL.call (vs := [.int .i64 x1, v2]) Try_fit45 rfl rfl rfl rfl rfl (fun S f w hS hW hi => tally_Duels_c S w hS x1 _ _ (hi 0 _ rfl) _ e23) ?_
 intro ⟨v24, V25⟩
 refine RL.weak (fun a w st => st.freeze2 1 rfl) ?_
 refine RL.reL (L' := [imm (TR.sl (TR.sl TR.int)) v2 x2, imm (TR.sl (TR.sl TR.int)) v24 y22.1]) rfl ?_
 refine RL.mv rfl rfl rfl ?_
 refine RL.ext rfl rfl rfl rfl ?_
 refine RL.ext rfl rfl rfl rfl ?_
 refine RL.asg rfl rfl rfl ?_
 refine RL.asg rfl rfl rfl ?_
 refine RL.finG ?_
 refine GL.seq ?_
 refine GL.seq ?_
 refine GL.region ?_
 refine RL.mv rfl rfl rfl ?_
 refine RL.binI (v := .bool (y22.2 != (0 : Int))) rfl rfl rfl rfl rfl ?_
 refine RL.finG ?_
 refine GL.cond rfl (fun b26 => ?_) (fun b26 => ?_)
 ·replace h16 := ite_t b26 h16
  refine GL.seq ?_
  refine GL.region ?_
  refine RL.mv rfl rfl rfl ?_
  refine RL.asg rfl rfl rfl ?_
  refine RL.asg rfl rfl rfl ?_
  refine RL.finG ?_
  refine GL.weak (fun a w st => st.nilOwn 3 TR.int) ?_
  have h16 := Option.some.inj h16
  subst h16
  exact GL.ret (Gx.ret (v := .tuple #[Value.slice none 0 0, .int .i64 y22.2]) (res2 rfl rfl rfl) (fun a w st => (st.pick [2] (by decide) rfl).toPost (Value.slice none 0 0)))
 replace h16 := ite_f b26 h16
 refine GL.skip ?_
 refine GL.seq ?_
 refine GL.region ?_
 refine RL.asg rfl rfl rfl ?_
 refine RL.finG ?_
 refine GL.seq ?_
 refine GL.seq ?_
 refine GL.region ?_
 refine RL.mv rfl rfl rfl ?_
 refine RL.finG ?_
 refine GL.block ?_
 refine GL.seq ?_
 refine GL.region ?_
 refine RL.binI (v := .bool (x0 == (1 : Int))) rfl rfl rfl rfl rfl ?_
 refine RL.asg rfl rfl rfl ?_
 refine RL.finG ?_
 refine GL.cond rfl (fun b27 => ?_) (fun b27 => ?_)
 ·replace h16 := ite_t b27 h16
  refine GL.region ?_
  refine RL.mv rfl rfl rfl ?_
  refine RL.mv rfl rfl rfl ?_
  obtain ⟨y31, e32, h16⟩ := bind_some h16
  refine RL.call (vs := [.int .i64 x1, v2]) Try_fit46 rfl rfl rfl rfl rfl (fun S f w hS hW hi => tally_Firsts_c S w hS x1 _ _ (hi 0 _ rfl) _ e32) ?_
  intro v33
  refine RL.mv rfl rfl rfl ?_
  refine RL.ext rfl rfl rfl rfl ?_
  refine RL.ext rfl rfl rfl rfl ?_
  refine RL.asg rfl rfl rfl ?_
  refine RL.finG ?_
  refine GL.nilB ?_
  refine GL.seq ?_
  refine GL.region ?_
  refine RL.mv rfl rfl rfl ?_
  obtain ⟨y37, e38, h16⟩ := bind_some h16
  refine RL.callU (vs := [v33]) (LR := fun (o : Value) => [own 3 TR.int o y37]) (fun o => ⟨Loc.own TR.flatT_ik, trivial⟩) Try_fit108 rfl rfl rfl rfl rfl (fun U w hU hW hL => rules_best_c U w hU _ _ (hL 2 _ _ rfl Seen.own) _ e38) ?_
  intro v39
  refine RL.asg rfl rfl rfl ?_
  refine RL.asg rfl rfl rfl ?_
  refine RL.finG ?_
  have h16 := Option.some.inj h16
  subst h16
  exact GL.ret (Gx.ret (v := .tuple #[v39, .int .i64 (0 : Int)]) (res2 rfl rfl rfl) (fun a w st => (st.pick [3] (by decide) rfl).toPost v39))
 replace h16 := ite_f b27 h16
 refine GL.seq ?_
 refine GL.region ?_
 refine RL.binI (v := .bool (x0 == (2 : Int))) rfl rfl rfl rfl rfl ?_
 refine RL.asg rfl rfl rfl ?_
 refine RL.finG ?_
 refine GL.cond rfl (fun b40 => ?_) (fun b40 => ?_)
 ·replace h16 := ite_t b40 h16
  refine GL.region ?_
  refine RL.mv rfl rfl rfl ?_
  refine RL.mv rfl rfl rfl ?_
  obtain ⟨y44, e45, h16⟩ := bind_some h16
  refine RL.call (vs := [.int .i64 x1, v2]) Try_fit100 rfl rfl rfl rfl rfl (fun S f w hS hW hi => tally_Points_c S w hS x1 _ _ (hi 0 _ rfl) _ e45) ?_
  intro v46
  refine RL.mv rfl rfl rfl ?_
  refine RL.ext rfl rfl rfl rfl ?_
  refine RL.ext rfl rfl rfl rfl ?_
  refine RL.asg rfl rfl rfl ?_
  refine RL.finG ?_
  refine GL.nilB ?_
  refine GL.seq ?_
  refine GL.region ?_
  refine RL.mv rfl rfl rfl ?_
  obtain ⟨y50, e51, h16⟩ := bind_some h16
  refine RL.callU (vs := [v46]) (LR := fun (o : Value) => [own 3 TR.int o y50]) (fun o => ⟨Loc.own TR.flatT_ik, trivial⟩) Try_fit108 rfl rfl rfl rfl rfl (fun U w hU hW hL => rules_best_c U w hU _ _ (hL 2 _ _ rfl Seen.own) _ e51) ?_
  intro v52
  refine RL.asg rfl rfl rfl ?_
  refine RL.asg rfl rfl rfl ?_
  refine RL.finG ?_
  have h16 := Option.some.inj h16
  subst h16
  exact GL.ret (Gx.ret (v := .tuple #[v52, .int .i64 (0 : Int)]) (res2 rfl rfl rfl) (fun a w st => (st.pick [3] (by decide) rfl).toPost v52))
 replace h16 := ite_f b40 h16
 refine GL.seq ?_
 refine GL.region ?_
 refine RL.binI (v := .bool (x0 == (3 : Int))) rfl rfl rfl rfl rfl ?_
 refine RL.asg rfl rfl rfl ?_
 refine RL.finG ?_
 refine GL.cond rfl (fun b53 => ?_) (fun b53 => ?_)
 ·replace h16 := ite_t b53 h16
  refine GL.region ?_
  refine RL.mv rfl rfl rfl ?_
  obtain ⟨y57, e58, h16⟩ := bind_some h16
  refine RL.call (vs := [v24]) Try_fit102 rfl rfl rfl rfl rfl (fun S f w hS hW hi => duel_Wins_c S w hS _ _ (hi 1 _ rfl) _ e58) ?_
  intro v59
  refine RL.mv rfl rfl rfl ?_
  refine RL.ext rfl rfl rfl rfl ?_
  refine RL.ext rfl rfl rfl rfl ?_
  refine RL.asg rfl rfl rfl ?_
  refine RL.finG ?_
  refine GL.nilB ?_
  refine GL.seq ?_
  refine GL.region ?_
  refine RL.mv rfl rfl rfl ?_
  obtain ⟨y63, e64, h16⟩ := bind_some h16
  refine RL.callU (vs := [v59]) (LR := fun (o : Value) => [own 3 TR.int o y63]) (fun o => ⟨Loc.own TR.flatT_ik, trivial⟩) Try_fit108 rfl rfl rfl rfl rfl (fun U w hU hW hL => rules_best_c U w hU _ _ (hL 2 _ _ rfl Seen.own) _ e64) ?_
  intro v65
  refine RL.asg rfl rfl rfl ?_
  refine RL.asg rfl rfl rfl ?_
  refine RL.finG ?_
  have h16 := Option.some.inj h16
  subst h16
  exact GL.ret (Gx.ret (v := .tuple #[v65, .int .i64 (0 : Int)]) (res2 rfl rfl rfl) (fun a w st => (st.pick [3] (by decide) rfl).toPost v65))
 replace h16 := ite_f b53 h16
 refine GL.seq ?_
 refine GL.region ?_
 refine RL.binI (v := .bool (x0 == (4 : Int))) rfl rfl rfl rfl rfl ?_
 refine RL.asg rfl rfl rfl ?_
 refine RL.finG ?_
 refine GL.cond rfl (fun b66 => ?_) (fun b66 => ?_)
 ·replace h16 := ite_t b66 h16
  refine GL.seq ?_
  refine GL.region ?_
  refine RL.mv rfl rfl rfl ?_
  obtain ⟨y70, e71, h16⟩ := bind_some h16
  refine RL.call (vs := [v24]) Try_fit106 rfl rfl rfl rfl rfl (fun S f w hS hW hi => duel_Worst_c S w hS _ _ (hi 1 _ rfl) _ e71) ?_
  intro v72
  refine RL.mv rfl rfl rfl ?_
  refine RL.ext rfl rfl rfl rfl ?_
  refine RL.ext rfl rfl rfl rfl ?_
  refine RL.asg rfl rfl rfl ?_
  refine RL.finG ?_
  refine GL.seq ?_
  refine GL.region ?_
  refine RL.mv rfl rfl rfl ?_
  refine RL.lenS 2 Try.underlying24 rfl rfl rfl rfl SlOf.own ?_
  refine RL.mv rfl rfl rfl ?_
  refine RL.finG ?_
  refine GL.lenOwn 2 rfl (fun n90 => ?_)
  obtain ⟨y91, K92, h93, h94, h95, h96, h97⟩ := bindR_K h16
  refine GL.join (ι := (List Int)) (fun (p : (List Int)) => [(10, v72)]) (fun (p : (List Int)) => [own 3 TR.int v72 p]) (fun (p : (List Int)) => K92 (.nx p)) ?_ ?_
  ·refine GL.block ?_
   refine GL.loop (ι := Nat × Nat × (List Int)) (fun (p : Nat × Nat × (List Int)) => [(10, v72), (59, .int .i64 ((y70.1).length : Int)), (60, .int .i64 (p.1 : Int))]) (fun (p : Nat × Nat × (List Int)) => [own 3 TR.int v72 p.2.2]) (fun (p : Nat × Nat × (List Int)) => p.1 + p.2.1 = (y70.1).length ∧ rangeN rules_Winners_b1 p.2.1 p.1 p.2.2 = some y91) (fun (p : Nat × Nat × (List Int)) => p.2.1) (0, (y70.1).length, y70.1) ⟨by simp, h93⟩ (fun a w st => St.cut [2] ⟨rfl, rfl, rfl, trivial⟩ (by decide) rfl st) ?_
   rintro ⟨i98, r99, l81⟩ ⟨h104, h103⟩
   try dsimp only at h104 h103
   refine GL.weak (env' := [(10, v72), (59, .int .i64 ((y70.1).length : Int)), (60, .int .i64 (i98 : Int))]) (L' := [own 3 TR.int v72 l81]) (fun _ _ st => st) ?_
   refine GL.seq ?_
   refine GL.region ?_
   refine RL.binI (v := .bool (decide ((i98 : Int) < ((y70.1).length : Int)))) rfl rfl rfl rfl rfl ?_
   refine RL.finG ?_
   refine GL.seq ?_
   refine GL.cond rfl (fun b106 => ?_) (fun b106 => ?_)
   ·have h107 : i98 < (y70.1).length := by have := of_decide_eq_true b106; omega
    obtain ⟨r108, hr⟩ : ∃ m, r99 = m + 1 := ⟨r99 - 1, by omega⟩
    subst hr
    obtain ⟨z100, h101, h102⟩ := rangeN_some h103
    unfold rules_Winners_b1 at h101
    try dsimp only at h101
    refine GL.skip ?_
    refine GL.seq ?_
    refine GL.block ?_
    refine GL.seq ?_
    refine GL.region ?_
    refine RL.mv rfl rfl rfl ?_
    refine RL.asg rfl rfl rfl ?_
    refine RL.finG ?_
    refine GL.region ?_
    refine RL.mv rfl rfl rfl ?_
    refine RL.mv rfl rfl rfl ?_
    refine RL.mv rfl rfl rfl ?_
    refine RL.mv rfl rfl rfl ?_
    obtain ⟨y113, e114, h101⟩ := bind_some h101
    refine RL.idxS (sz := 1) 0 Try.underlying24 Try_ln3 rfl rfl rfl rfl rfl SlOf.own (idx_some e114).1 (idx_some e114).2.1 ?_
    refine RL.ldSx (i := i98) (e' := y113) 0 Ex.ik Try_ln3 rfl rfl rfl rfl SlOf.own (idx_some e114).2.2 Part.self ?_
    refine RL.negI rfl rfl rfl ?_
    obtain ⟨y115, e116, h101⟩ := bind_some h101
    refine RL.idxS (sz := 1) 0 Try.underlying24 Try_ln3 rfl rfl rfl rfl rfl SlOf.own (idx_some e116).1 (idx_some e116).2.1 ?_
    refine RL.stS (i := i98) (e' := wsub 0 y113) (e1 := wsub 0 y113) (r := TR.int) 0 Try_ln3 rfl rfl rfl rfl VR.int rfl (idx_some e116).2.2 Upd.self ?_
    refine RL.finG ?_
    refine GL.nilB ?_
    refine GL.region ?_
    refine RL.binI (v := .int .i64 ((i98 + 1 : Nat) : Int)) rfl rfl rfl rfl (binI_succ i98 (by omega)) ?_
    refine RL.mv rfl rfl rfl ?_
    refine RL.fin ?_
    cases h101
    exact fun a w st => lop_intro (i98 + 1, r108, (List.set l81 i98 (wsub 0 y113))) ⟨by show i98 + 1 + r108 = (y70.1).length; omega, h102⟩ (by simp) (St.cut [0] ⟨rfl, rfl, rfl, trivial⟩ (by decide) rfl st)
   have h107 : ¬ i98 < (y70.1).length := by have := of_decide_eq_false b106; omega
   obtain rfl : r99 = 0 := by omega
   replace h103 : some (Fl.nx _) = some y91 := h103
   cases h103
   exact GL.exit (fun a w st => mid_intro l81 h94 (St.cut [0] ⟨rfl, trivial⟩ (by decide) rfl st))
  rintro l81 h117
  have h118 := h95 _ h117
  try dsimp only at h118
  refine GL.weak (env' := [(10, v72)]) (L' := [own 3 TR.int v72 l81]) (fun _ _ st => st) ?_
  refine GL.nilB ?_
  refine GL.seq ?_
  refine GL.region ?_
  refine RL.mv rfl rfl rfl ?_
  obtain ⟨y122, e123, h118⟩ := bind_some h118
  refine RL.callU (vs := [v72]) (LR := fun (o : Value) => [own 3 TR.int o y122]) (fun o => ⟨Loc.own TR.flatT_ik, trivial⟩) Try_fit108 rfl rfl rfl rfl rfl (fun U w hU hW hL => rules_best_c U w hU _ _ (hL 0 _ _ rfl Seen.own) _ e123) ?_
  intro v124
  refine RL.asg rfl rfl rfl ?_
  refine RL.asg rfl rfl rfl ?_
  refine RL.finG ?_
  have h118 := Option.some.inj h118
  subst h118
  exact GL.ret (Gx.ret (v := .tuple #[v124, .int .i64 (0 : Int)]) (res2 rfl rfl rfl) (fun a w st => (st.pick [1] (by decide) rfl).toPost v124))
 replace h16 := ite_f b66 h16
 refine GL.seq ?_
 refine GL.region ?_
 refine RL.binI (v := .bool (x0 == (5 : Int))) rfl rfl rfl rfl rfl ?_
 refine RL.asg rfl rfl rfl ?_
 refine RL.finG ?_
 refine GL.cond rfl (fun b125 => ?_) (fun b125 => ?_)
 ·replace h16 := ite_t b125 h16
  refine GL.seq ?_
  refine GL.region ?_
  refine RL.mv rfl rfl rfl ?_
  refine RL.mv rfl rfl rfl ?_
  obtain ⟨y129, e130, h16⟩ := bind_some h16
  refine RL.call (vs := [.int .i64 x1, v2]) Try_fit107 rfl rfl rfl rfl rfl (fun S f w hS hW hi => rules_rounds_c S w hS x1 _ _ (hi 0 _ rfl) _ e130) ?_
  intro v131
  refine RL.asg rfl rfl rfl ?_
  refine RL.asg rfl rfl rfl ?_
  refine RL.finG ?_
  have h16 := Option.some.inj h16
  subst h16
  exact GL.ret (Gx.ret (v := .tuple #[v131, .int .i64 (0 : Int)]) (res2 rfl rfl rfl) (fun a w st => (st.pick [2] (by decide) rfl).toPost v131))
 replace h16 := ite_f b125 h16
 refine GL.skip ?_
 refine GL.nilB ?_
 refine GL.seq ?_
 refine GL.region ?_
 refine RL.mv rfl rfl rfl ?_
 obtain ⟨y135, e136, h16⟩ := bind_some h16
 refine RL.call (vs := [Value.slice none 0 0]) Try_fit108 rfl rfl rfl rfl rfl (fun S f w hS hW hi => rules_best_c S w hS _ _ (VR.nil (L := []) S (fun _ => Hp.emp) (fun i A hA => by simp at hA)) _ e136) ?_
 intro v137
 refine RL.asg rfl rfl rfl ?_
 refine RL.asg rfl rfl rfl ?_
 refine RL.finG ?_
 have h16 := Option.some.inj h16
 subst h16
 exact GL.ret (Gx.ret (v := .tuple #[v137, .int .i64 (0 : Int)]) (res2 rfl rfl rfl) (fun a w st => (st.pick [2] (by decide) rfl).toPost v137))

set_option maxHeartbeats 4000000 in
theorem rules_Sole_c (S : Hp) (w : World) (hS : S.sub w) (x0 : Int) (x1 : Int) (v2 : Value) (x2 : (List (List Int))) (k2 : ((TR.sl (TR.sl TR.int))).vrep S v2 x2) (res : Int × Int) (hm : rules_Sole_m x0 x1 x2 = some res) : Calls Try.prog 103 #[.int .i64 x0, .int .i64 x1, v2] w (PostV w (.tuple #[.int .i64 res.1, .int .i64 res.2])) := by
 refine calls_enter 26 Try.func103 Try.ntmps103 rfl S false [(0, .int .i64 x0), (1, .int .i64 x1), (2, v2)] [imm (TR.sl (TR.sl TR.int)) v2 x2] rfl ⟨rfl, ⟨rfl, ⟨rfl, trivial⟩⟩⟩ hS ⟨k2, trivial⟩ ?_
 unfold rules_Sole_m at hm
 refine GL.seq ?_
 refine GL.region ?_
 refine RL.asg rfl rfl rfl ?_
 refine RL.asg rfl rfl rfl ?_
 refine RL.finG ?_
 refine GL.seq ?_
 refine GL.region ?_
 refine RL.mv rfl rfl rfl ?_
 refine RL.mv rfl rfl rfl ?_
 refine RL.mv rfl rfl rfl ?_
 obtain ⟨y7, e8, hm⟩ := bind_some hm
 refine RL.call (vs := [.int .i64 x0, .int .i64 x1, v2]) Try_fit47 rfl rfl rfl rfl rfl (fun S f w hS hW hi => rules_Winners_c S w hS x0 x1 _ _ (hi 0 _ rfl) _ e8) ?_
 intro v9
 refine RL.mv rfl rfl rfl ?_
 refine RL.ext rfl rfl rfl rfl ?_
 refine RL.ext rfl rfl rfl rfl ?_
 refine RL.asg rfl rfl rfl ?_
 refine RL.asg rfl rfl rfl ?_
 refine RL.finG ?_
 refine GL.seq ?_
 refine GL.seq ?_
 refine GL.region ?_
 refine RL.mv rfl rfl rfl ?_
 refine RL.binI (v := .bool (y7.2 != (0 : Int))) rfl rfl rfl rfl rfl ?_
 refine RL.finG ?_
 refine GL.cond rfl (fun b10 => ?_) (fun b10 => ?_)
 ·replace hm := ite_t b10 hm
  refine GL.seq ?_
  refine GL.region ?_
  refine RL.mv rfl rfl rfl ?_
  refine RL.asg rfl rfl rfl ?_
  refine RL.asg rfl rfl rfl ?_
  refine RL.finG ?_
  have hm := Option.some.inj hm
  subst hm
  exact GL.ret (Gx.ret (v := .tuple #[.int .i64 (0 : Int), .int .i64 y7.2]) (res2 rfl rfl rfl) (fun a w st => st.toPostV))
 replace hm := ite_f b10 hm
 refine GL.skip ?_
 refine GL.seq ?_
 refine GL.seq ?_
 refine GL.region ?_
 refine RL.mv rfl rfl rfl ?_
 refine RL.lenS 1 Try.underlying24 rfl rfl rfl rfl SlOf.own ?_
 refine RL.binI (v := .bool (decide (((y7.1).length : Int) > (1 : Int)))) rfl rfl rfl rfl rfl ?_
 refine RL.finG ?_
 refine GL.cond rfl (fun b11 => ?_) (fun b11 => ?_)
 ·replace hm := ite_t b11 hm
  refine GL.seq ?_
  refine GL.region ?_
  refine RL.asg rfl rfl rfl ?_
  refine RL.asg rfl rfl rfl ?_
  refine RL.finG ?_
  have hm := Option.some.inj hm
  subst hm
  exact GL.ret (Gx.ret (v := .tuple #[.int .i64 (0 : Int), .int .i64 (5 : Int)]) (res2 rfl rfl rfl) (fun a w st => st.toPostV))
 replace hm := ite_f b11 hm
 refine GL.skip ?_
 refine GL.seq ?_
 refine GL.region ?_
 refine RL.mv rfl rfl rfl ?_
 obtain ⟨y14, e15, hm⟩ := bind_some hm
 refine RL.idxS (sz := 1) 1 Try.underlying24 Try_ln3 rfl rfl rfl rfl rfl SlOf.own (idx_some e15).1 (idx_some e15).2.1 ?_
 refine RL.ldSx (i := ((0 : Int)).toNat) (e' := y14) 1 Ex.ik Try_ln3 rfl rfl rfl rfl SlOf.own (idx_some e15).2.2 Part.self ?_
 refine RL.asg rfl rfl rfl ?_
 refine RL.asg rfl rfl rfl ?_
 refine RL.finG ?_
 have hm := Option.some.inj hm
 subst hm
 exact GL.ret (Gx.ret (v := .tuple #[.int .i64 y14, .int .i64 (0 : Int)]) (res2 rfl rfl rfl) (fun a w st => st.toPostV))

set_option maxHeartbeats 4000000 in
theorem pk_winners_c (S : Hp) (w : World) (hS : S.sub w)  (res : Bool) (hm : pk_winners_m = some res) : Calls Try.prog 43 #[] w (PostV w (.bool res)) := by
 refine calls_enter 33 Try.func43 Try.ntmps43 rfl S false [] [] rfl trivial hS trivial ?_
 unfold pk_winners_m at hm
 refine GL.seq ?_
 refine GL.region ?_
 refine RL.asg rfl rfl rfl ?_
 refine RL.finG ?_
 refine GL.seq ?_
 refine GL.region ?_
 refine RL.bS (t := TR.int) (vs := [.int .i64 (0 : Int), .int .i64 (1 : Int), .int .i64 (2 : Int)]) ([(0 : Int), (1 : Int), (2 : Int)] : (List Int)) Try.underlying24 Try_lo3 rfl rfl rfl rfl ⟨VR.int, ⟨VR.int, ⟨VR.int, trivial⟩⟩⟩ rfl (by decide) ?_
 intro v7
 refine RL.bS (t := TR.int) (vs := [.int .i64 (2 : Int), .int .i64 (1 : Int), .int .i64 (0 : Int)]) ([(2 : Int), (1 : Int), (0 : Int)] : (List Int)) Try.underlying24 Try_lo3 rfl rfl rfl rfl ⟨VR.int, ⟨VR.int, ⟨VR.int, trivial⟩⟩⟩ rfl (by decide) ?_
 intro v8
 refine RL.reL (L' := [own 3 TR.int v7 ([(0 : Int), (1 : Int), (2 : Int)] : (List Int)), own 3 TR.int v8 ([(2 : Int), (1 : Int), (0 : Int)] : (List Int))]) rfl ?_
 refine RL.weak (fun a w st => st.freeze 0 rfl) ?_
 refine RL.weak (fun a w st => st.freeze 1 rfl) ?_
 refine RL.bS (t := (TR.sl TR.int)) (vs := [v7, v8]) ([([(0 : Int), (1 : Int), (2 : Int)] : (List Int)), ([(2 : Int), (1 : Int), (0 : Int)] : (List Int))] : (List (List Int))) Try.underlying37 Try_lo24 rfl rfl rfl rfl ⟨(VR.item 0 rfl), ⟨(VR.item 1 rfl), trivial⟩⟩ rfl (by decide) ?_
 intro v9
 refine RL.reL (L' := [imm (TR.sl TR.int) v7 ([(0 : Int), (1 : Int), (2 : Int)] : (List Int)), imm (TR.sl TR.int) v8 ([(2 : Int), (1 : Int), (0 : Int)] : (List Int)), own 24 (TR.sl TR.int) v9 ([([(0 : Int), (1 : Int), (2 : Int)] : (List Int)), ([(2 : Int), (1 : Int), (0 : Int)] : (List Int))] : (List (List Int)))]) rfl ?_
 obtain ⟨y10, e11, hm⟩ := bind_some hm
 refine RL.callU (vs := [.int .i64 (1 : Int), .int .i64 (3 : Int), v9]) (LR := fun (o : Value) => [own 3 TR.int o y10.1]) (fun o => ⟨Loc.own TR.flatT_ik, trivial⟩) Try_fit47 rfl rfl rfl rfl rfl (fun U w hU hW hL => rules_Winners_c U w hU (1 : Int) (3 : Int) _ _ (hL 2 _ _ rfl Seen.own) _ e11) ?_
 intro v12
 refine RL.mv rfl rfl rfl ?_
 refine RL.ext rfl rfl rfl rfl ?_
 refine RL.ext rfl rfl rfl rfl ?_
 refine RL.asg rfl rfl rfl ?_
 refine RL.asg rfl rfl rfl ?_
 refine RL.finG ?_
 refine GL.seq ?_
 refine GL.region ?_
 refine RL.bS (t := TR.int) (vs := [.int .i64 (0 : Int), .int .i64 (1 : Int), .int .i64 (2 : Int)]) ([(0 : Int), (1 : Int), (2 : Int)] : (List Int)) Try.underlying24 Try_lo3 rfl rfl rfl rfl ⟨VR.int, ⟨VR.int, ⟨VR.int, trivial⟩⟩⟩ rfl (by decide) ?_
 intro v19
 refine RL.bS (t := TR.int) (vs := [.int .i64 (1 : Int), .int .i64 (0 : Int), .int .i64 (2 : Int)]) ([(1 : Int), (0 : Int), (2 : Int)] : (List Int)) Try.underlying24 Try_lo3 rfl rfl rfl rfl ⟨VR.int, ⟨VR.int, ⟨VR.int, trivial⟩⟩⟩ rfl (by decide) ?_
 intro v20
 refine RL.reL (L' := [imm (TR.sl TR.int) v7 ([(0 : Int), (1 : Int), (2 : Int)] : (List Int)), imm (TR.sl TR.int) v8 ([(2 : Int), (1 : Int), (0 : Int)] : (List Int)), own 24 (TR.sl TR.int) v9 ([([(0 : Int), (1 : Int), (2 : Int)] : (List Int)), ([(2 : Int), (1 : Int), (0 : Int)] : (List Int))] : (List (List Int))), own 3 TR.int v12 y10.1, own 3 TR.int v19 ([(0 : Int), (1 : Int), (2 : Int)] : (List Int)), own 3 TR.int v20 ([(1 : Int), (0 : Int), (2 : Int)] : (List Int))]) rfl ?_
 refine RL.bS (t := TR.int) (vs := [.int .i64 (1 : Int), .int .i64 (2 : Int), .int .i64 (0 : Int)]) ([(1 : Int), (2 : Int), (0 : Int)] : (List Int)) Try.underlying24 Try_lo3 rfl rfl rfl rfl ⟨VR.int, ⟨VR.int, ⟨VR.int, trivial⟩⟩⟩ rfl (by decide) ?_
 intro v21
 refine RL.weak (fun a w st => st.freeze 4 rfl) ?_
 refine RL.weak (fun a w st => st.freeze 5 rfl) ?_
 refine RL.weak (fun a w st => st.freeze 6 rfl) ?_
 refine RL.bS (t := (TR.sl TR.int)) (vs := [v19, v20, v21]) ([([(0 : Int), (1 : Int), (2 : Int)] : (List Int)), ([(1 : Int), (0 : Int), (2 : Int)] : (List Int)), ([(1 : Int), (2 : Int), (0 : Int)] : (List Int))] : (List (List Int))) Try.underlying37 Try_lo24 rfl rfl rfl rfl ⟨(VR.item 4 rfl), ⟨(VR.item 5 rfl), ⟨(VR.item 6 rfl), trivial⟩⟩⟩ rfl (by decide) ?_
 intro v22
 refine RL.reL (L' := [imm (TR.sl TR.int) v7 ([(0 : Int), (1 : Int), (2 : Int)] : (List Int)), imm (TR.sl TR.int) v8 ([(2 : Int), (1 : Int), (0 : Int)] : (List Int)), own 24 (TR.sl TR.int) v9 ([([(0 : Int), (1 : Int), (2 : Int)] : (List Int)), ([(2 : Int), (1 : Int), (0 : Int)] : (List Int))] : (List (List Int))), own 3 TR.int v12 y10.1, imm (TR.sl TR.int) v19 ([(0 : Int), (1 : Int), (2 : Int)] : (List Int)), imm (TR.sl TR.int) v20 ([(1 : Int), (0 : Int), (2 : Int)] : (List Int)), imm (TR.sl TR.int) v21 ([(1 : Int), (2 : Int), (0 : Int)] : (List Int)), own 24 (TR.sl TR.int) v22 ([([(0 : Int), (1 : Int), (2 : Int)] : (List Int)), ([(1 : Int), (0 : Int), (2 : Int)] : (List Int)), ([(1 : Int), (2 : Int), (0 : Int)] : (List Int))] : (List (List Int)))]) rfl ?_
 obtain ⟨y23, e24, hm⟩ := bind_some hm
 refine RL.callV (v := .tuple #[.int .i64 y23.1, .int .i64 y23.2]) (vs := [.int .i64 (2 : Int), .int .i64 (3 : Int), v22]) Try_fit103 rfl (Or.inl rfl) rfl rfl rfl rfl (fun U w hU hW hL => rules_Sole_c U w hU (2 : Int) (3 : Int) _ _ (hL 7 _ _ rfl Seen.own) _ e24) ?_
 refine RL.mv rfl rfl rfl ?_
 refine RL.ext rfl rfl rfl rfl ?_
 refine RL.ext rfl rfl rfl rfl ?_
 refine RL.asg rfl rfl rfl ?_
 refine RL.asg rfl rfl rfl ?_
 refine RL.finG ?_
 refine GL.seq ?_
 obtain ⟨y42, K43, h44, h45, h46, h47, h48⟩ := bindR_K hm
 refine GL.join (ι := Bool) (fun (p : Bool) => [(0, .bool p)]) (fun (p : Bool) => []) (fun (p : Bool) => K43 (.nx p)) ?_ ?_
 ·skip
  refine GL.region ?_
  refine RL.mv rfl rfl rfl ?_
  refine RL.mv rfl rfl rfl ?_
  refine RL.bS (t := TR.int) (vs := [.int .i64 y10.2, .int .i64 y23.2]) ([y10.2, y23.2] : (List Int)) Try.underlying101 Try_lo25 rfl rfl rfl rfl ⟨VR.int, ⟨VR.int, trivial⟩⟩ rfl (by decide) ?_
  intro v49
  obtain ⟨y50, e51, h44⟩ := bind_some h44
  refine RL.callV (v := .bool y50) (vs := [v49]) Try_fit20 rfl (Or.inl rfl) rfl rfl rfl rfl (fun U w hU hW hL => pk_good_c U w hU _ _ (hL 8 _ _ rfl Seen.own) _ e51) ?_
  refine RL.mv rfl rfl rfl ?_
  refine RL.split (t := 24) rfl (fun b52 => ?_) (fun b52 => ?_)
  ·replace h44 := ite_t b52 h44
   refine RL.mv rfl rfl rfl ?_
   refine RL.bS (t := TR.int) (vs := [.int .i64 (0 : Int), .int .i64 (2 : Int)]) ([(0 : Int), (2 : Int)] : (List Int)) Try.underlying24 Try_lo3 rfl rfl rfl rfl ⟨VR.int, ⟨VR.int, trivial⟩⟩ rfl (by decide) ?_
   intro v53
   refine RL.reL (L' := [imm (TR.sl TR.int) v7 ([(0 : Int), (1 : Int), (2 : Int)] : (List Int)), imm (TR.sl TR.int) v8 ([(2 : Int), (1 : Int), (0 : Int)] : (List Int)), own 24 (TR.sl TR.int) v9 ([([(0 : Int), (1 : Int), (2 : Int)] : (List Int)), ([(2 : Int), (1 : Int), (0 : Int)] : (List Int))] : (List (List Int))), own 3 TR.int v12 y10.1, imm (TR.sl TR.int) v19 ([(0 : Int), (1 : Int), (2 : Int)] : (List Int)), imm (TR.sl TR.int) v20 ([(1 : Int), (0 : Int), (2 : Int)] : (List Int)), imm (TR.sl TR.int) v21 ([(1 : Int), (2 : Int), (0 : Int)] : (List Int)), own 24 (TR.sl TR.int) v22 ([([(0 : Int), (1 : Int), (2 : Int)] : (List Int)), ([(1 : Int), (0 : Int), (2 : Int)] : (List Int)), ([(1 : Int), (2 : Int), (0 : Int)] : (List Int))] : (List (List Int))), own 25 TR.int v49 ([y10.2, y23.2] : (List Int)), own 3 TR.int v53 ([(0 : Int), (2 : Int)] : (List Int))]) rfl ?_
   obtain ⟨y54, e55, h44⟩ := bind_some h44
   refine RL.callV (v := .bool y54) (vs := [v12, v53]) Try_fit22 rfl (Or.inl rfl) rfl rfl rfl rfl (fun U w hU hW hL => slices_Equal_int_int_c U w hU _ _ (hL 3 _ _ rfl Seen.own) _ _ (hL 9 _ _ rfl Seen.own) _ e55) ?_
   refine RL.pickT rfl rfl rfl rfl ?_
   refine RL.mv rfl rfl rfl ?_
   refine RL.split (t := 29) rfl (fun b56 => ?_) (fun b56 => ?_)
   ·replace h44 := ite_t b56 h44
    refine RL.mv rfl rfl rfl ?_
    refine RL.binI (v := .bool (y23.1 == (1 : Int))) rfl rfl rfl rfl rfl ?_
    refine RL.pickT rfl rfl rfl rfl ?_
    refine RL.asg rfl rfl rfl ?_
    refine RL.fin ?_
    cases h44
    exact fun a w st => mid_intro (y23.1 == (1 : Int)) h45 (St.cut [] ⟨rfl, trivial⟩ (by decide) rfl st)
   replace h44 := ite_f b56 h44
   refine RL.skip rfl rfl ?_
   refine RL.skip rfl rfl ?_
   refine RL.pickF rfl rfl rfl rfl ?_
   refine RL.asg rfl rfl rfl ?_
   refine RL.fin ?_
   cases h44
   exact fun a w st => mid_intro false h45 (St.cut [] ⟨rfl, trivial⟩ (by decide) rfl st)
  replace h44 := ite_f b52 h44
  refine RL.skip rfl rfl ?_
  refine RL.skip rfl rfl ?_
  refine RL.skip rfl rfl ?_
  refine RL.pickF rfl rfl rfl rfl ?_
  refine RL.mv rfl rfl rfl ?_
  refine RL.skip rfl rfl ?_
  refine RL.skip rfl rfl ?_
  refine RL.pickF rfl rfl rfl rfl ?_
  refine RL.asg rfl rfl rfl ?_
  refine RL.fin ?_
  cases h44
  exact fun a w st => mid_intro false h45 (St.cut [] ⟨rfl, trivial⟩ (by decide) rfl st)
 rintro x41 h57
 have h58 := h46 _ h57
 try dsimp only at h58
 refine GL.weak (env' := [(0, .bool x41)]) (L' := []) (fun _ _ st => st) ?_
 have h58 := Option.some.inj h58
 subst h58
 exact GL.ret (Gx.ret (v := .bool x41) (res1 rfl rfl) (fun a w st => st.toPostV))

set_option maxHeartbeats 4000000 in
theorem slices_Clone_int_int_c (S : Hp) (w : World) (hS : S.sub w) (v0 : Value) (x0 : List Int) (k0 : (TR.sl TR.int).vrep S v0 x0) (res : List Int) (hm : slices_Clone_int_int_m x0 = some res) : Calls Try.prog 18 #[v0] w (Post w S (fun (o : Value) => o) (fun (o : Value) => [own 3 TR.int o res])) := by
  refine calls_enter 8 Try.func18 Try.ntmps18 rfl S false [(0, v0)] [imm (TR.sl TR.int) v0 x0] rfl ⟨rfl, trivial⟩ hS ⟨k0, trivial⟩ ?_
  unfold slices_Clone_int_int_m at hm
  obtain ⟨_, hc, hm⟩ := bind_some hm
  replace hc := chk_some hc
  have hm := Option.some.inj hm
  subst hm
  refine GL.seq (GL.region (RL.asg rfl rfl rfl (RL.finG (GL.seq (GL.seq (GL.region ?_))))))
  refine RL.mv rfl rfl rfl ?_
  refine RL.eqNil 0 Try.underlying24 rfl rfl rfl rfl rfl SlOf.imm (fun b hb => ?_)
  refine RL.finG (GL.cond rfl (fun h => ?_) (fun h => ?_))
  · have := hb h
    subst this
    refine GL.seq (GL.region (RL.asg rfl rfl rfl (RL.finG ?_)))
    refine GL.weak (fun a w st => st.nilOwn 3 TR.int) ?_
    exact GL.ret (Gx.ret (v := Value.slice none 0 0) (res1 rfl rfl) (fun a w st => (st.pick [1] (by decide) rfl).toPost (Value.slice none 0 0)))
  · refine GL.skip (GL.seq (GL.region ?_))
    refine RL.bS (t := TR.int) (vs := []) ([] : List Int) Try.underlying24 Try_lo3 rfl rfl rfl rfl trivial rfl (by decide) ?_
    intro v1
    refine RL.mv rfl rfl rfl ?_
    refine RL.appB 1 0 Try.underlying24 Try_lo3 rfl rfl rfl rfl rfl rfl rfl SlOf.imm (RoomN.of (N := 17592186044416) Try_info3 (by decide) (by decide)) (by simpa using hc) ?_
    intro v2
    refine RL.asg rfl rfl rfl (RL.finG ?_)
    exact GL.ret (Gx.ret (v := v2) (res1 rfl rfl) (fun a w st => (st.pick [1] (by decide) rfl).toPost v2))

set_option maxHeartbeats 4000000 in
theorem pk_copied_c (S : Hp) (w : World) (hS : S.sub w) (v0 : Value) (x0 : (List (List Int))) (k0 : ((TR.sl (TR.sl TR.int))).vrep S v0 x0) (res : (List (List Int))) (hm : pk_copied_m x0 = some res) : Calls Try.prog 33 #[v0] w (Post w S (fun (o : Value) => o) (fun (o : Value) => [own 24 (TR.sl TR.int) o res])) := by
 refine calls_enter 19 Try.func33 Try.ntmps33 rfl S false [(0, v0)] [imm (TR.sl (TR.sl TR.int)) v0 x0] rfl ⟨rfl, trivial⟩ hS ⟨k0, trivial⟩ ?_
 unfold pk_copied_m at hm
 refine GL.seq ?_
 refine GL.region ?_
 refine RL.asg rfl rfl rfl ?_
 refine RL.finG ?_
 refine GL.seq ?_
 refine GL.region ?_
 refine RL.asg rfl rfl rfl ?_
 refine RL.finG ?_
 refine GL.seq ?_
 refine GL.seq ?_
 refine GL.region ?_
 refine RL.mv rfl rfl rfl ?_
 refine RL.lenS 0 Try.underlying37 rfl rfl rfl rfl SlOf.imm ?_
 refine RL.mv rfl rfl rfl ?_
 refine RL.finG ?_
 refine GL.weak (fun a w st => st.nilOwn 24 (TR.sl TR.int)) ?_
 refine GL.open_ 0 rfl (fun S h => len_imm S h) (fun n24 => ?_)
 obtain ⟨y25, K26, h27, h28, h29, h30, h31⟩ := bindR_K hm
 refine GL.join (ι := (List (List Int)) × Value) (fun (p : (List (List Int)) × Value) => [(3, p.2)]) (fun (p : (List (List Int)) × Value) => [own 24 (TR.sl TR.int) p.2 p.1]) (fun (p : (List (List Int)) × Value) => K26 (.nx p.1)) ?_ ?_
 ·refine GL.block ?_
  refine GL.loop (ι := Nat × (List (List Int)) × (List (List Int)) × Value) (fun (p : Nat × (List (List Int)) × (List (List Int)) × Value) => [(3, p.2.2.2), (6, v0), (7, .int .i64 ((x0).length : Int)), (8, .int .i64 (p.1 : Int))]) (fun (p : Nat × (List (List Int)) × (List (List Int)) × Value) => [own 24 (TR.sl TR.int) p.2.2.2 p.2.2.1, imm (TR.sl (TR.sl TR.int)) v0 x0]) (fun (p : Nat × (List (List Int)) × (List (List Int)) × Value) => p.1 + p.2.1.length = (x0).length ∧ List.drop p.1 x0 = p.2.1 ∧ rangeL pk_copied_b1 p.2.1 p.1 p.2.2.1 = some y25) (fun (p : Nat × (List (List Int)) × (List (List Int)) × Value) => p.2.1.length) (0, x0, [], Value.slice none 0 0) ⟨by simp, by simp, h27⟩ (fun a w st => St.cut [1, 0] ⟨rfl, rfl, rfl, rfl, trivial⟩ (by decide) rfl st) ?_
  rintro ⟨i33, r34, l2, v3⟩ ⟨h39, h40, h38⟩
  try dsimp only at h39 h40 h38
  refine GL.weak (env' := [(3, v3), (6, v0), (7, .int .i64 ((x0).length : Int)), (8, .int .i64 (i33 : Int))]) (L' := [own 24 (TR.sl TR.int) v3 l2, imm (TR.sl (TR.sl TR.int)) v0 x0]) (fun _ _ st => st) ?_
  refine GL.seq ?_
  refine GL.region ?_
  refine RL.binI (v := .bool (decide ((i33 : Int) < ((x0).length : Int)))) rfl rfl rfl rfl rfl ?_
  refine RL.finG ?_
  refine GL.seq ?_
  refine GL.cond rfl (fun b41 => ?_) (fun b41 => ?_)
  ·have h42 : i33 < (x0).length := by have := of_decide_eq_true b41; omega
   obtain ⟨y43, r45, hr, e44, h46⟩ := drop_cons h40 rfl h42
   subst hr
   obtain ⟨z35, h36, h37⟩ := rangeL_some h38
   unfold pk_copied_b1 at h36
   try dsimp only at h36
   refine GL.skip ?_
   refine GL.seq ?_
   refine GL.block ?_
   refine GL.seq ?_
   refine GL.region ?_
   refine RL.idxS (sz := 1) 1 Try.underlying37 Try_ln24 rfl rfl rfl rfl rfl SlOf.imm (by omega) (by omega) ?_
   refine RL.ldS (i := i33) (r := (TR.sl TR.int)) (e' := y43) 1 Try_ln24 rfl rfl rfl rfl SlOf.imm e44 Part.self ?_
   intro v48
   refine RL.asg rfl rfl rfl ?_
   refine RL.finG ?_
   refine GL.region ?_
   refine RL.mv rfl rfl rfl ?_
   refine RL.mv rfl rfl rfl ?_
   obtain ⟨y56, e57, h36⟩ := bind_some h36
   refine RL.call (vs := [v48]) Try_fit18 rfl rfl rfl rfl rfl (fun S f w hS hW hi => slices_Clone_int_int_c S w hS _ _ (hi 2 _ rfl) _ e57) ?_
   intro v58
   refine RL.reL (L' := [own 24 (TR.sl TR.int) v3 l2, imm (TR.sl (TR.sl TR.int)) v0 x0, imm (TR.sl TR.int) v48 y43, own 3 TR.int v58 y56]) rfl ?_
   refine RL.weak (fun a w st => st.freeze 3 rfl) ?_
   refine RL.bS (t := (TR.sl TR.int)) (vs := [v58]) ([y56] : (List (List Int))) Try.underlying37 Try_lo24 rfl rfl rfl rfl ⟨(VR.item 3 rfl), trivial⟩ rfl (by decide) ?_
   intro v59
   refine RL.reL (L' := [own 24 (TR.sl TR.int) v3 l2, imm (TR.sl (TR.sl TR.int)) v0 x0, imm (TR.sl TR.int) v48 y43, imm (TR.sl TR.int) v58 y56, own 24 (TR.sl TR.int) v59 ([y56] : (List (List Int)))]) rfl ?_
   obtain ⟨y60, e61, h36⟩ := bind_some h36
   replace e61 := chk_some e61
   refine RL.appB 0 4 Try.underlying37 Try_lo24 rfl rfl rfl rfl rfl rfl rfl SlOf.own (RoomN.of (N := 5864062014805) Try_info24 (by decide) (by decide)) e61 ?_
   intro v62
   refine RL.asg rfl rfl rfl ?_
   refine RL.finG ?_
   refine GL.nilB ?_
   refine GL.region ?_
   refine RL.binI (v := .int .i64 ((i33 + 1 : Nat) : Int)) rfl rfl rfl rfl (binI_succ i33 (by omega)) ?_
   refine RL.mv rfl rfl rfl ?_
   refine RL.fin ?_
   cases h36
   exact fun a w st => lop_intro (i33 + 1, r45, (l2 ++ ([y56] : (List (List Int)))), v62) ⟨by show i33 + 1 + r45.length = (x0).length; simp only [List.length_cons] at h39; omega, h46, h37⟩ (by simp) (St.cut [0, 1] ⟨rfl, rfl, rfl, rfl, trivial⟩ (by decide) rfl st)
  have h42 : ¬ i33 < (x0).length := by have := of_decide_eq_false b41; omega
  obtain rfl : r34 = [] := by rw [← h40]; exact List.drop_of_length_le (by omega)
  replace h38 : some (Fl.nx _) = some y25 := h38
  cases h38
  exact GL.exit (fun a w st => mid_intro (l2, v3) h28 (St.cut [0] ⟨rfl, trivial⟩ (by decide) rfl st))
 rintro ⟨l2, v3⟩ h63
 have h64 := h29 _ h63
 try dsimp only at h64
 refine GL.weak (env' := [(3, v3)]) (L' := [own 24 (TR.sl TR.int) v3 l2]) (fun _ _ st => st) ?_
 refine GL.seq ?_
 refine GL.region ?_
 refine RL.mv rfl rfl rfl ?_
 refine RL.asg rfl rfl rfl ?_
 refine RL.finG ?_
 have h64 := Option.some.inj h64
 subst h64
 exact GL.ret (Gx.ret (v := v3) (res1 rfl rfl) (fun a w st => (st.pick [0] (by decide) rfl).toPost v3))

set_option maxHeartbeats 4000000 in
theorem order_Place_c (S : Hp) (w : World) (hS : S.sub w) (v0 : Value) (x0 : (List Int)) (k0 : ((TR.sl TR.int)).vrep S v0 x0) (x1 : Int) (res : Int × Int) (hm : order_Place_m x0 x1 = some res) : Calls Try.prog 104 #[v0, .int .i64 x1] w (PostV w (.tuple #[.int .i64 res.1, .int .i64 res.2])) := by
 refine calls_enter 21 Try.func104 Try.ntmps104 rfl S false [(0, v0), (1, .int .i64 x1)] [imm (TR.sl TR.int) v0 x0] rfl ⟨rfl, ⟨rfl, trivial⟩⟩ hS ⟨k0, trivial⟩ ?_
 unfold order_Place_m at hm
 refine GL.seq ?_
 refine GL.region ?_
 refine RL.asg rfl rfl rfl ?_
 refine RL.asg rfl rfl rfl ?_
 refine RL.finG ?_
 refine GL.seq ?_
 refine GL.seq ?_
 refine GL.region ?_
 refine RL.mv rfl rfl rfl ?_
 refine RL.lenS 0 Try.underlying24 rfl rfl rfl rfl SlOf.imm ?_
 refine RL.mv rfl rfl rfl ?_
 obtain ⟨y5, e6, hm⟩ := bind_some hm
 refine RL.callV (v := .int .i64 y5) (vs := [.int .i64 ((x0).length : Int), v0]) Try_fit126 rfl (Or.inl rfl) rfl rfl rfl rfl (fun U w hU hW hL => order_Check_c U w hU ((x0).length : Int) _ _ (hL 0 _ _ rfl Seen.imm) _ e6) ?_
 refine RL.asg rfl rfl rfl ?_
 refine RL.finG ?_
 refine GL.seq ?_
 refine GL.region ?_
 refine RL.mv rfl rfl rfl ?_
 refine RL.binI (v := .bool (y5 != (0 : Int))) rfl rfl rfl rfl rfl ?_
 refine RL.finG ?_
 refine GL.cond rfl (fun b7 => ?_) (fun b7 => ?_)
 ·replace hm := ite_t b7 hm
  refine GL.seq ?_
  refine GL.region ?_
  refine RL.mv rfl rfl rfl ?_
  refine RL.asg rfl rfl rfl ?_
  refine RL.asg rfl rfl rfl ?_
  refine RL.finG ?_
  have hm := Option.some.inj hm
  subst hm
  exact GL.ret (Gx.ret (v := .tuple #[.int .i64 (0 : Int), .int .i64 y5]) (res2 rfl rfl rfl) (fun a w st => st.toPostV))
 replace hm := ite_f b7 hm
 refine GL.skip ?_
 refine GL.seq ?_
 refine GL.seq ?_
 refine GL.region ?_
 refine RL.mv rfl rfl rfl ?_
 refine RL.mv rfl rfl rfl ?_
 obtain ⟨y10, e11, hm⟩ := bind_some hm
 refine RL.callC (v := .int .i64 y10) (vs := [v0, .int .i64 x1]) Try_fit85 rfl rfl rfl rfl (fun U w hU hW hL => slices_Index_int_int_c U w hU _ _ (hL 0 _ _ rfl Seen.imm) x1 _ e11) ?_
 refine RL.asg rfl rfl rfl ?_
 refine RL.finG ?_
 refine GL.seq ?_
 refine GL.region ?_
 refine RL.mv rfl rfl rfl ?_
 refine RL.binI (v := .bool (decide (y10 ≥ (0 : Int)))) rfl rfl rfl rfl rfl ?_
 refine RL.finG ?_
 refine GL.cond rfl (fun b12 => ?_) (fun b12 => ?_)
 ·replace hm := ite_t b12 hm
  refine GL.seq ?_
  refine GL.region ?_
  refine RL.mv rfl rfl rfl ?_
  refine RL.asg rfl rfl rfl ?_
  refine RL.asg rfl rfl rfl ?_
  refine RL.finG ?_
  have hm := Option.some.inj hm
  subst hm
  exact GL.ret (Gx.ret (v := .tuple #[.int .i64 y10, .int .i64 (0 : Int)]) (res2 rfl rfl rfl) (fun a w st => st.toPostV))
 replace hm := ite_f b12 hm
 refine GL.skip ?_
 refine GL.seq ?_
 refine GL.region ?_
 refine RL.asg rfl rfl rfl ?_
 refine RL.asg rfl rfl rfl ?_
 refine RL.finG ?_
 have hm := Option.some.inj hm
 subst hm
 exact GL.ret (Gx.ret (v := .tuple #[.int .i64 (0 : Int), .int .i64 (4 : Int)]) (res2 rfl rfl rfl) (fun a w st => st.toPostV))

set_option maxHeartbeats 4000000 in
theorem order_Raise_c (S : Hp) (w : World) (hS : S.sub w) (v0 : Value) (x0 : (List Int)) (k0 : ((TR.sl TR.int)).vrep S v0 x0) (x1 : Int) (res : (List Int) × Int) (hm : order_Raise_m x0 x1 = some res) : Calls Try.prog 44 #[v0, .int .i64 x1] w (Post w S (fun (o : Value) => .tuple #[o, .int .i64 res.2]) (fun (o : Value) => [own 3 TR.int o res.1])) := by
 refine calls_enter 39 Try.func44 Try.ntmps44 rfl S false [(0, v0), (1, .int .i64 x1)] [imm (TR.sl TR.int) v0 x0] rfl ⟨rfl, ⟨rfl, trivial⟩⟩ hS ⟨k0, trivial⟩ ?_
 unfold order_Raise_m at hm
 refine GL.seq ?_
 refine GL.region ?_
 refine RL.asg rfl rfl rfl ?_
 refine RL.asg rfl rfl rfl ?_
 refine RL.finG ?_
 refine GL.seq ?_
 refine GL.region ?_
 refine RL.mv rfl rfl rfl ?_
 refine RL.mv rfl rfl rfl ?_
 obtain ⟨y5, e6, hm⟩ := bind_some hm
 refine RL.callV (v := .tuple #[.int .i64 y5.1, .int .i64 y5.2]) (vs := [v0, .int .i64 x1]) Try_fit104 rfl (Or.inl rfl) rfl rfl rfl rfl (fun U w hU hW hL => order_Place_c U w hU _ _ (hL 0 _ _ rfl Seen.imm) x1 _ e6) ?_
 refine RL.mv rfl rfl rfl ?_
 refine RL.ext rfl rfl rfl rfl ?_
 refine RL.ext rfl rfl rfl rfl ?_
 refine RL.asg rfl rfl rfl ?_
 refine RL.asg rfl rfl rfl ?_
 refine RL.finG ?_
 refine GL.seq ?_
 refine GL.seq ?_
 refine GL.region ?_
 refine RL.mv rfl rfl rfl ?_
 refine RL.binI (v := .bool (y5.2 != (0 : Int))) rfl rfl rfl rfl rfl ?_
 refine RL.finG ?_
 refine GL.cond rfl (fun b7 => ?_) (fun b7 => ?_)
 ·replace hm := ite_t b7 hm
  refine GL.seq ?_
  refine GL.region ?_
  refine RL.mv rfl rfl rfl ?_
  refine RL.asg rfl rfl rfl ?_
  refine RL.asg rfl rfl rfl ?_
  refine RL.finG ?_
  refine GL.weak (fun a w st => st.nilOwn 3 TR.int) ?_
  have hm := Option.some.inj hm
  subst hm
  exact GL.ret (Gx.ret (v := .tuple #[Value.slice none 0 0, .int .i64 y5.2]) (res2 rfl rfl rfl) (fun a w st => (st.pick [1] (by decide) rfl).toPost (Value.slice none 0 0)))
 replace hm := ite_f b7 hm
 refine GL.skip ?_
 refine GL.seq ?_
 refine GL.seq ?_
 refine GL.region ?_
 refine RL.mv rfl rfl rfl ?_
 refine RL.binI (v := .bool (y5.1 == (0 : Int))) rfl rfl rfl rfl rfl ?_
 refine RL.finG ?_
 refine GL.cond rfl (fun b8 => ?_) (fun b8 => ?_)
 ·replace hm := ite_t b8 hm
  refine GL.seq ?_
  refine GL.region ?_
  refine RL.asg rfl rfl rfl ?_
  refine RL.asg rfl rfl rfl ?_
  refine RL.finG ?_
  refine GL.weak (fun a w st => st.nilOwn 3 TR.int) ?_
  have hm := Option.some.inj hm
  subst hm
  exact GL.ret (Gx.ret (v := .tuple #[Value.slice none 0 0, .int .i64 (6 : Int)]) (res2 rfl rfl rfl) (fun a w st => (st.pick [1] (by decide) rfl).toPost (Value.slice none 0 0)))
 replace hm := ite_f b8 hm
 refine GL.skip ?_
 refine GL.seq ?_
 refine GL.region ?_
 refine RL.mv rfl rfl rfl ?_
 obtain ⟨y12, e13, hm⟩ := bind_some hm
 refine RL.call (vs := [v0]) Try_fit18 rfl rfl rfl rfl rfl (fun S f w hS hW hi => slices_Clone_int_int_c S w hS _ _ (hi 0 _ rfl) _ e13) ?_
 intro v14
 refine RL.asg rfl rfl rfl ?_
 refine RL.finG ?_
 refine GL.seq ?_
 refine GL.regionA rfl rfl ?_
 refine RA.mv 0 rfl (by kernel_rfl) rfl rfl rfl ?_
 refine RA.mv 1 rfl (by kernel_rfl) rfl rfl rfl ?_
 refine RA.binI (v := .int .i64 (wsub y5.1 (1 : Int))) 2 rfl (by kernel_rfl) rfl rfl rfl rfl rfl ?_
 refine RA.mv 3 rfl (by kernel_rfl) rfl rfl rfl ?_
 refine RA.mv 4 rfl (by kernel_rfl) rfl rfl rfl ?_
 refine RA.mv 5 rfl (by kernel_rfl) rfl rfl rfl ?_
 refine RA.mv 6 rfl (by kernel_rfl) rfl rfl rfl ?_
 obtain ⟨y23, e24, hm⟩ := bind_some hm
 refine RA.idxS (sz := 1) 1 Try.underlying24 Try_ln3 7 rfl (by kernel_rfl) rfl rfl rfl rfl rfl SlOf.own (idx_some e24).1 (idx_some e24).2.1 ?_
 refine RA.mv 9 rfl (by kernel_rfl) rfl rfl rfl ?_
 refine RA.mv 10 rfl (by kernel_rfl) rfl rfl rfl ?_
 refine RA.binI (v := .int .i64 (wsub y5.1 (1 : Int))) 11 rfl (by kernel_rfl) rfl rfl rfl rfl rfl ?_
 obtain ⟨y25, e26, hm⟩ := bind_some hm
 refine RA.idxS (sz := 1) 1 Try.underlying24 Try_ln3 12 rfl (by kernel_rfl) rfl rfl rfl rfl rfl SlOf.own (idx_some e26).1 (idx_some e26).2.1 ?_
 refine RA.still (le := #[true, true, true, true, true, true, true, true, true, true, true, true, true, true, true, false, false, false]) (f := 3) [8, 13, 14] 15 rfl (by kernel_rfl) ?_
 simp only [pickOps, List.getElem?_toArray, List.getElem?_cons_succ, List.getElem?_cons_zero]
 refine RL.ldSx (i := (y5.1).toNat) (e' := y23) 1 Ex.ik Try_ln3 rfl rfl rfl rfl SlOf.own (idx_some e24).2.2 Part.self ?_
 refine RL.ldSx (i := (wsub y5.1 (1 : Int)).toNat) (e' := y25) 1 Ex.ik Try_ln3 rfl rfl rfl rfl SlOf.own (idx_some e26).2.2 Part.self ?_
 obtain ⟨y27, e28, hm⟩ := bind_some hm
 refine RL.idxS (sz := 1) 1 Try.underlying24 Try_ln3 rfl rfl rfl rfl rfl SlOf.own (idx_some e28).1 (idx_some e28).2.1 ?_
 refine RL.finH ?_
 refine RL.fin ?_
 refine RA.next ?_
 refine RA.seq 15 rfl (by kernel_rfl) ?_
 refine RL.stS (i := (wsub y5.1 (1 : Int)).toNat) (e' := y23) (e1 := y23) (r := TR.int) 1 Try_ln3 rfl rfl rfl rfl VR.int rfl (idx_some e28).2.2 Upd.self ?_
 refine RL.fin ?_
 refine RA.next ?_
 obtain ⟨y29, e30, hm⟩ := bind_some hm
 refine RA.idxS (sz := 1) 1 Try.underlying24 Try_ln3 16 rfl (by kernel_rfl) rfl rfl rfl rfl rfl SlOf.own (idx_some e30).1 (idx_some e30).2.1 ?_
 refine RA.seq 17 rfl (by kernel_rfl) ?_
 refine RL.stS (i := (y5.1).toNat) (e' := y25) (e1 := y25) (r := TR.int) 1 Try_ln3 rfl rfl rfl rfl VR.int rfl (idx_some e30).2.2 Upd.self ?_
 refine RL.fin ?_
 refine RA.next ?_
 refine RA.doneG (by kernel_rfl) ?_
 refine GL.weak (env' := [(8, v14)]) (L' := [own 3 TR.int v14 (List.set (List.set y12 ((wsub y5.1 (1 : Int)).toNat) y23) ((y5.1).toNat) y25)]) (fun a w st => St.cut [1] ⟨rfl, trivial⟩ (by decide) rfl st) ?_
 refine GL.seq ?_
 refine GL.region ?_
 refine RL.mv rfl rfl rfl ?_
 refine RL.asg rfl rfl rfl ?_
 refine RL.asg rfl rfl rfl ?_
 refine RL.finG ?_
 have hm := Option.some.inj hm
 subst hm
 exact GL.ret (Gx.ret (v := .tuple #[v14, .int .i64 (0 : Int)]) (res2 rfl rfl rfl) (fun a w st => (st.pick [0] (by decide) rfl).toPost v14))

set_option maxHeartbeats 4000000 in
theorem pk_spoil_int_c (B : World) (S X : Hp) (f : Nat → Hp) (w : World) (v0 : Value) (x0 : List Int) (hO : HeapOk B.heap.size S f [own 3 TR.int v0 x0, keep X].length w) (hB : Below B.heap.size B w) (hI : Its [own 3 TR.int v0 x0, keep X] S f) (x1 : Int) (res : List Int) (hm : pk_spoil_int_m x0 x1 = some res) : Calls Try.prog 21 #[v0, .int .i64 x1] w (PostM B S (fun (_ : Unit) => .tuple #[]) (fun (_ : Unit) => [own 3 TR.int v0 res, keep X])) := by
  unfold pk_spoil_int_m at hm
  have hm := Option.some.inj hm
  subst hm
  refine calls_enterM 19 Try.func21 Try.ntmps21 rfl B S f [(0, v0), (1, .int .i64 x1)] [own 3 TR.int v0 x0, keep X] [] rfl ⟨rfl, rfl, trivial⟩ hB hO hI trivial ?_
  refine GL.capO 0 rfl (fun hcap hmax hrl hcr => ?_)
  replace hmax : capv v0 ≤ 9223372036854775807 := hmax
  refine GL.weak (fun a w st => st.relenO 0 rfl) ?_
  refine GL.seq ?_
  refine GL.region ?_
  refine RL.mv rfl rfl rfl ?_
  refine RL.mv rfl rfl rfl ?_
  refine RL.capS 0 Try.underlying24 rfl rfl rfl rfl ?_
  refine RL.cutAll 0 Try.underlying24 Try_ln3 rfl rfl rfl rfl rfl ?_
  refine RL.asg rfl rfl rfl ?_
  refine RL.finG ?_
  refine GL.seq ?_
  refine GL.region ?_
  refine RL.mv rfl rfl rfl ?_
  refine RL.lenNx (m := capv v0) 0 Try.underlying24 rfl rfl rfl rfl ?_
  refine RL.mv rfl rfl rfl ?_
  refine RL.finG ?_
  refine GL.join (ι := Unit) (fun _ => []) (fun _ => [own 3 TR.int (relen v0 (capv v0)) (List.replicate (capv v0) x1), keep X]) (fun _ => True) ?_ ?_
  · refine GL.block ?_
    refine GL.loop (ι := Nat) (fun i => [(0, relen v0 (capv v0)), (1, .int .i64 x1), (10, .int .i64 ((capv v0 : Nat) : Int)), (11, .int .i64 ((i : Nat) : Int))]) (fun i => [own 3 TR.int (relen v0 i) (List.replicate i x1), keep X]) (fun i => i ≤ capv v0) (fun i => capv v0 - i) 0 (Nat.zero_le _) (fun a w st => St.cut [0, 1] ⟨rfl, rfl, rfl, rfl, trivial⟩ (by decide) rfl st) ?_
    intro i hG
    refine GL.seq ?_
    refine GL.region ?_
    refine RL.binI (v := .bool (decide ((i : Int) < ((capv v0 : Nat) : Int)))) rfl rfl rfl rfl rfl ?_
    refine RL.finG ?_
    refine GL.seq ?_
    refine GL.cond rfl (fun hb => ?_) (fun hb => ?_)
    · have hi : i < capv v0 := by have := of_decide_eq_true hb; omega
      refine GL.skip ?_
      refine GL.seq ?_
      refine GL.block ?_
      refine GL.seq ?_
      refine GL.region ?_
      refine RL.mv rfl rfl rfl ?_
      refine RL.asg rfl rfl rfl ?_
      refine RL.finG ?_
      refine GL.region ?_
      refine RL.mv rfl rfl rfl ?_
      refine RL.mv rfl rfl rfl ?_
      refine RL.mv rfl rfl rfl ?_
      refine RL.idxNx (sz := 1) 0 Try.underlying24 Try_ln3 rfl rfl rfl rfl rfl hi ?_
      refine RL.stNx (t := TR.int) (e' := x1) 0 Try_ln3 rfl rfl rfl rfl VR.int rfl (by simp) hi ?_
      rw [replicate_snoc]
      refine RL.finG ?_
      refine GL.nilB ?_
      refine GL.region ?_
      refine RL.binI (v := .int .i64 ((i + 1 : Nat) : Int)) rfl rfl rfl rfl (binI_succ i (by omega)) ?_
      refine RL.mv rfl rfl rfl ?_
      refine RL.fin ?_
      exact fun a w st => lop_intro (i + 1) (by show i + 1 ≤ capv v0; omega) (by show capv v0 - (i + 1) < capv v0 - i; omega) (St.cut [0, 1] ⟨rfl, rfl, rfl, rfl, trivial⟩ (by decide) rfl st)
    · have hi : ¬ i < capv v0 := by have := of_decide_eq_false hb; omega
      obtain rfl : i = capv v0 := by omega
      exact GL.exit (fun a w st => mid_intro () trivial (St.cut [0, 1] trivial (by decide) rfl st))
  · intro _ _
    refine GL.weak (fun a w st => st.spoiled (m := x0.length) 0 rfl hcap hrl) ?_
    exact GL.nil (Gx.retN (v := .tuple #[]) (res0 rfl) (fun a w st => (st.pick [0, 1] (by decide) rfl).toPostM (V := fun (_ : Unit) => .tuple #[]) (LR := fun (_ : Unit) => [own 3 TR.int v0 (List.replicate x0.length x1), keep X]) ()))

set_option maxHeartbeats 4000000 in
theorem ref_Rest_c (S : Hp) (w : World) (hS : S.sub w) (x0 : Int) (x1 : Int) (res : Int) (hm : ref_Rest_m x0 x1 = some res) : Calls Try.prog 80 #[.int .i64 x0, .int .i64 x1] w (PostC w (.int .i64 res)) := by
 refine calls_enter 14 Try.func80 Try.ntmps80 rfl S true [(0, .int .i64 x0), (1, .int .i64 x1)] [] rfl ⟨rfl, ⟨rfl, trivial⟩⟩ hS trivial ?_
 unfold ref_Rest_m at hm
 refine GL.seq ?_
 refine GL.region ?_
 refine RL.asg rfl rfl rfl ?_
 refine RL.finG ?_
 refine GL.seq ?_
 refine GL.region ?_
 refine RL.mv rfl rfl rfl ?_
 refine RL.mv rfl rfl rfl ?_
 obtain ⟨y5, e6, hm⟩ := bind_some hm
 replace e6 := chk_some e6
 refine RL.rem rfl rfl rfl rfl e6 ?_
 refine RL.asg rfl rfl rfl ?_
 refine RL.finG ?_
 refine GL.seq ?_
 refine GL.seq ?_
 refine GL.region ?_
 refine RL.mv rfl rfl rfl ?_
 refine RL.binI (v := .bool (decide ((Int.tmod x0 x1) < (0 : Int)))) rfl rfl rfl rfl rfl ?_
 refine RL.finG ?_
 obtain ⟨y9, K10, h11, h12, h13, h14, h15⟩ := bindR_K hm
 refine GL.join (ι := Int) (fun (p : Int) => [(0, .int .i64 p)]) (fun (p : Int) => []) (fun (p : Int) => K10 (.nx p)) ?_ ?_
 ·skip
  refine GL.cond rfl (fun b16 => ?_) (fun b16 => ?_)
  ·replace h11 := ite_t b16 h11
   refine GL.region ?_
   refine RL.mv rfl rfl rfl ?_
   refine RL.mv rfl rfl rfl ?_
   refine RL.binI (v := .int .i64 (wadd (Int.tmod x0 x1) x1)) rfl rfl rfl rfl rfl ?_
   refine RL.asg rfl rfl rfl ?_
   refine RL.finG ?_
   cases h11
   exact fun a w st => mid_intro (wadd (Int.tmod x0 x1) x1) h12 (St.cut [] ⟨rfl, trivial⟩ (by decide) rfl st)
  replace h11 := ite_f b16 h11
  refine GL.skip ?_
  cases h11
  exact fun a w st => mid_intro (Int.tmod x0 x1) h12 (St.cut [] ⟨rfl, trivial⟩ (by decide) rfl st)
 rintro x8 h17
 have h18 := h13 _ h17
 try dsimp only at h18
 refine GL.weak (env' := [(0, .int .i64 x8)]) (L' := []) (fun _ _ st => st) ?_
 refine GL.seq ?_
 refine GL.region ?_
 refine RL.mv rfl rfl rfl ?_
 refine RL.asg rfl rfl rfl ?_
 refine RL.finG ?_
 have h18 := Option.some.inj h18
 subst h18
 exact GL.ret (Gx.ret (v := .int .i64 x8) (res1 rfl rfl) (fun a w st => st.toPostC rfl))

set_option maxHeartbeats 4000000 in
theorem pk_Within_c (S : Hp) (w : World) (hS : S.sub w) (x0 : Int) (x1 : Int) (res : Int) (hm : pk_Within_m x0 x1 = some res) : Calls Try.prog 12 #[.int .i64 x0, .int .i64 x1] w (PostC w (.int .i64 res)) := by
 refine calls_enter 8 Try.func12 Try.ntmps12 rfl S true [(0, .int .i64 x0), (1, .int .i64 x1)] [] rfl ⟨rfl, ⟨rfl, trivial⟩⟩ hS trivial ?_
 unfold pk_Within_m at hm
 refine GL.seq ?_
 refine GL.region ?_
 refine RL.asg rfl rfl rfl ?_
 refine RL.finG ?_
 refine GL.seq ?_
 refine GL.region ?_
 refine RL.mv rfl rfl rfl ?_
 refine RL.mv rfl rfl rfl ?_
 obtain ⟨y5, e6, hm⟩ := bind_some hm
 refine RL.callC (v := .int .i64 y5) (vs := [.int .i64 x0, .int .i64 x1]) Try_fit80 rfl rfl rfl rfl (fun U w hU hW hL => ref_Rest_c U w hU x0 x1 _ e6) ?_
 refine RL.asg rfl rfl rfl ?_
 refine RL.finG ?_
 have hm := Option.some.inj hm
 subst hm
 exact GL.ret (Gx.ret (v := .int .i64 y5) (res1 rfl rfl) (fun a w st => st.toPostC rfl))

set_option maxHeartbeats 4000000 in
theorem duel_Votes_c (S : Hp) (w : World) (hS : S.sub w) (x0 : Int) (v1 : Value) (x1 : (List (List Int))) (k1 : ((TR.sl (TR.sl TR.int))).vrep S v1 x1) (res : (List (List Int)) × Int) (hm : duel_Votes_m x0 x1 = some res) : Calls Try.prog 48 #[.int .i64 x0, v1] w (Post w S (fun (o : Value × (List Value)) => .tuple #[o.1, .int .i64 res.2]) (fun (o : Value × (List Value)) => [own2 24 3 TR.int o.1 o.2 res.1])) := by
 refine calls_enter 113 Try.func48 Try.ntmps48 rfl S false [(0, .int .i64 x0), (1, v1)] [imm (TR.sl (TR.sl TR.int)) v1 x1] rfl ⟨rfl, ⟨rfl, trivial⟩⟩ hS ⟨k1, trivial⟩ ?_
 unfold duel_Votes_m at hm
 refine GL.seq ?_
 refine GL.region ?_
 refine RL.asg rfl rfl rfl ?_
 refine RL.asg rfl rfl rfl ?_
 refine RL.finG ?_
 refine GL.seq ?_
 refine GL.seq ?_
 obtain ⟨y6, K7, h8, h9, h10, h11, h12⟩ := bindR_K hm
 refine GL.join (ι := Bool) (fun (p : Bool) => [(0, .int .i64 x0), (1, v1), (17, .bool p)]) (fun (p : Bool) => [imm (TR.sl (TR.sl TR.int)) v1 x1]) (fun (p : Bool) => K7 (.nx p)) ?_ ?_
 ·skip
  refine GL.region ?_
  refine RL.mv rfl rfl rfl ?_
  refine RL.binI (v := .bool (decide (x0 < (1 : Int)))) rfl rfl rfl rfl rfl ?_
  refine RL.mv rfl rfl rfl ?_
  refine RL.split (t := 14) rfl (fun b13 => ?_) (fun b13 => ?_)
  ·replace h8 := ite_t b13 h8
   refine RL.skip rfl rfl ?_
   refine RL.skip rfl rfl ?_
   refine RL.pickT rfl rfl rfl rfl ?_
   refine RL.fin ?_
   cases h8
   exact fun a w st => mid_intro true h9 (St.cut [0] ⟨rfl, rfl, rfl, trivial⟩ (by decide) rfl st)
  replace h8 := ite_f b13 h8
  refine RL.mv rfl rfl rfl ?_
  refine RL.binI (v := .bool (decide (x0 > (6 : Int)))) rfl rfl rfl rfl rfl ?_
  refine RL.pickF rfl rfl rfl rfl ?_
  refine RL.fin ?_
  cases h8
  exact fun a w st => mid_intro (decide (x0 > (6 : Int))) h9 (St.cut [0] ⟨rfl, rfl, rfl, trivial⟩ (by decide) rfl st)
 rintro x5 h14
 have h15 := h10 _ h14
 try dsimp only at h15
 refine GL.weak (env' := [(0, .int .i64 x0), (1, v1), (17, .bool x5)]) (L' := [imm (TR.sl (TR.sl TR.int)) v1 x1]) (fun _ _ st => st) ?_
 refine GL.cond rfl (fun b16 => ?_) (fun b16 => ?_)
 ·replace h15 := ite_t b16 h15
  refine GL.seq ?_
  refine GL.region ?_
  refine RL.asg rfl rfl rfl ?_
  refine RL.asg rfl rfl rfl ?_
  refine RL.finG ?_
  refine GL.weak (fun a w st => st.nilOwn 24 TR.raw) ?_
  refine GL.weak (fun a w st => St.toRows (m := 0) 3 TR.int 1 rfl st) ?_
  have h15 := Option.some.inj h15
  subst h15
  exact GL.ret (Gx.ret (v := .tuple #[Value.slice none 0 0, .int .i64 (1 : Int)]) (res2 rfl rfl rfl) (fun a w st => (st.pick [1] (by decide) rfl).toPost (Value.slice none 0 0, ([] : List Value))))
 replace h15 := ite_f b16 h15
 refine GL.skip ?_
 refine GL.seq ?_
 refine GL.seq ?_
 refine GL.region ?_
 refine RL.mv rfl rfl rfl ?_
 refine RL.lenS 0 Try.underlying37 rfl rfl rfl rfl SlOf.imm ?_
 refine RL.binI (v := .int .i64 (wmul (2 : Int) ((x1).length : Int))) rfl rfl rfl rfl rfl ?_
 refine RL.binI (v := .bool (decide ((wmul (2 : Int) ((x1).length : Int)) > (30 : Int)))) rfl rfl rfl rfl rfl ?_
 refine RL.finG ?_
 refine GL.cond rfl (fun b17 => ?_) (fun b17 => ?_)
 ·replace h15 := ite_t b17 h15
  refine GL.seq ?_
  refine GL.region ?_
  refine RL.asg rfl rfl rfl ?_
  refine RL.asg rfl rfl rfl ?_
  refine RL.finG ?_
  refine GL.weak (fun a w st => st.nilOwn 24 TR.raw) ?_
  refine GL.weak (fun a w st => St.toRows (m := 0) 3 TR.int 1 rfl st) ?_
  have h15 := Option.some.inj h15
  subst h15
  exact GL.ret (Gx.ret (v := .tuple #[Value.slice none 0 0, .int .i64 (2 : Int)]) (res2 rfl rfl rfl) (fun a w st => (st.pick [1] (by decide) rfl).toPost (Value.slice none 0 0, ([] : List Value))))
 replace h15 := ite_f b17 h15
 refine GL.skip ?_
 refine GL.seq ?_
 refine GL.region ?_
 refine RL.asg rfl rfl rfl ?_
 refine RL.finG ?_
 refine GL.seq ?_
 refine GL.seq ?_
 refine GL.region ?_
 refine RL.mv rfl rfl rfl ?_
 refine RL.lenS 0 Try.underlying37 rfl rfl rfl rfl SlOf.imm ?_
 refine RL.mv rfl rfl rfl ?_
 refine RL.finG ?_
 refine GL.weak (fun a w st => st.nilOwn 24 TR.raw) ?_
 refine GL.weak (fun a w st => St.toRows (m := 0) 3 TR.int 1 rfl st) ?_
 refine GL.open_ 0 rfl (fun S h => len_imm S h) (fun n238 => ?_)
 obtain ⟨y239, K240, h241, h242, h243, h244, h245⟩ := bindR_K h15
 refine GL.join (ι := (List (List Int)) × (List Value) × Value) (fun (p : (List (List Int)) × (List Value) × Value) => [(6, p.2.2)]) (fun (p : (List (List Int)) × (List Value) × Value) => [own2 24 3 TR.int p.2.2 p.2.1 p.1]) (fun (p : (List (List Int)) × (List Value) × Value) => K240 (.nx p.1)) ?_ ?_
 ·refine GL.block ?_
  refine GL.loop (ι := Nat × (List (List Int)) × (List (List Int)) × (List Value) × Value) (fun (p : Nat × (List (List Int)) × (List (List Int)) × (List Value) × Value) => [(0, .int .i64 x0), (6, p.2.2.2.2), (22, v1), (23, .int .i64 ((x1).length : Int)), (24, .int .i64 (p.1 : Int))]) (fun (p : Nat × (List (List Int)) × (List (List Int)) × (List Value) × Value) => [own2 24 3 TR.int p.2.2.2.2 p.2.2.2.1 p.2.2.1, imm (TR.sl (TR.sl TR.int)) v1 x1]) (fun (p : Nat × (List (List Int)) × (List (List Int)) × (List Value) × Value) => p.1 + p.2.1.length = (x1).length ∧ List.drop p.1 x1 = p.2.1 ∧ rangeL (duel_Votes_b1 x0) p.2.1 p.1 p.2.2.1 = some y239) (fun (p : Nat × (List (List Int)) × (List (List Int)) × (List Value) × Value) => p.2.1.length) (0, x1, ([] : (List (List Int))), ([] : List Value), Value.slice none 0 0) ⟨by simp, by simp, h241⟩ (fun a w st => St.cut [1, 0] ⟨rfl, rfl, rfl, rfl, rfl, trivial⟩ (by decide) rfl st) ?_
  rintro ⟨i246, r247, l18, V19, v20⟩ ⟨h252, h253, h251⟩
  try dsimp only at h252 h253 h251
  refine GL.weak (env' := [(0, .int .i64 x0), (6, v20), (22, v1), (23, .int .i64 ((x1).length : Int)), (24, .int .i64 (i246 : Int))]) (L' := [own2 24 3 TR.int v20 V19 l18, imm (TR.sl (TR.sl TR.int)) v1 x1]) (fun _ _ st => st) ?_
  refine GL.seq ?_
  refine GL.region ?_
  refine RL.binI (v := .bool (decide ((i246 : Int) < ((x1).length : Int)))) rfl rfl rfl rfl rfl ?_
  refine RL.finG ?_
  refine GL.seq ?_
  refine GL.cond rfl (fun b254 => ?_) (fun b254 => ?_)
  ·have h255 : i246 < (x1).length := by have := of_decide_eq_true b254; omega
   obtain ⟨y256, r258, hr, e257, h259⟩ := drop_cons h253 rfl h255
   subst hr
   obtain ⟨z248, h249, h250⟩ := rangeL_some h251
   unfold duel_Votes_b1 at h249
   try dsimp only at h249
   refine GL.skip ?_
   refine GL.seq ?_
   refine GL.block ?_
   refine GL.seq ?_
   refine GL.region ?_
   refine RL.idxS (sz := 1) 1 Try.underlying37 Try_ln24 rfl rfl rfl rfl rfl SlOf.imm (by omega) (by omega) ?_
   refine RL.ldS (i := i246) (r := (TR.sl TR.int)) (e' := y256) 1 Try_ln24 rfl rfl rfl rfl SlOf.imm e257 Part.self ?_
   intro v261
   refine RL.asg rfl rfl rfl ?_
   refine RL.finG ?_
   refine GL.seq ?_
   refine GL.seq ?_
   obtain ⟨y297, K298, h299, h300, h301, h302, h303⟩ := bindF_K h249
   refine GL.join (ι := Bool) (fun (p : Bool) => [(0, .int .i64 x0), (6, v20), (8, v261), (22, v1), (23, .int .i64 ((x1).length : Int)), (24, .int .i64 (i246 : Int)), (65, .bool p)]) (fun (p : Bool) => [own2 24 3 TR.int v20 V19 l18, imm (TR.sl TR.int) v261 y256, imm (TR.sl (TR.sl TR.int)) v1 x1]) (fun (p : Bool) => K298 (.nx p)) ?_ ?_
   ·skip
    refine GL.regionQ rfl rfl (by kernel_rfl) ?_
    refine RL.mv rfl rfl rfl ?_
    refine RL.lenS 2 Try.underlying24 rfl rfl rfl rfl SlOf.imm ?_
    refine RL.binI (v := .bool (((y256).length : Int) != (2 : Int))) rfl rfl rfl rfl rfl ?_
    refine RL.mv rfl rfl rfl ?_
    refine RL.split (t := 31) rfl (fun b304 => ?_) (fun b304 => ?_)
    ·replace h299 := ite_t b304 h299
     refine RL.skip rfl rfl ?_
     refine RL.skip rfl rfl ?_
     refine RL.skip rfl rfl ?_
     refine RL.skip rfl rfl ?_
     refine RL.pickT rfl rfl rfl rfl ?_
     refine RL.mv rfl rfl rfl ?_
     refine RL.skip rfl rfl ?_
     refine RL.skip rfl rfl ?_
     refine RL.skip rfl rfl ?_
     refine RL.skip rfl rfl ?_
     refine RL.skip rfl rfl ?_
     refine RL.pickT rfl rfl rfl rfl ?_
     refine RL.mv rfl rfl rfl ?_
     refine RL.skip rfl rfl ?_
     refine RL.skip rfl rfl ?_
     refine RL.skip rfl rfl ?_
     refine RL.skip rfl rfl ?_
     refine RL.pickT rfl rfl rfl rfl ?_
     refine RL.mv rfl rfl rfl ?_
     refine RL.skip rfl rfl ?_
     refine RL.skip rfl rfl ?_
     refine RL.skip rfl rfl ?_
     refine RL.skip rfl rfl ?_
     refine RL.skip rfl rfl ?_
     refine RL.pickT rfl rfl rfl rfl ?_
     refine RL.mv rfl rfl rfl ?_
     refine RL.skip rfl rfl ?_
     refine RL.skip rfl rfl ?_
     refine RL.skip rfl rfl ?_
     refine RL.skip rfl rfl ?_
     refine RL.skip rfl rfl ?_
     refine RL.skip rfl rfl ?_
     refine RL.skip rfl rfl ?_
     refine RL.pickT rfl rfl rfl rfl ?_
     refine RL.finQ ?_
     cases h299
     exact fun a w st => mid_intro true h300 (St.cut [0, 2, 1] ⟨rfl, rfl, rfl, rfl, rfl, rfl, rfl, trivial⟩ (by decide) rfl st)
    replace h299 := ite_f b304 h299
    refine RL.mv rfl rfl rfl ?_
    obtain ⟨y305, e306, h299⟩ := bind_some h299
    refine RL.idxS (sz := 1) 2 Try.underlying24 Try_ln3 rfl rfl rfl rfl rfl SlOf.imm (idx_some e306).1 (idx_some e306).2.1 ?_
    refine RL.ldSx (i := ((0 : Int)).toNat) (e' := y305) 2 Ex.ik Try_ln3 rfl rfl rfl rfl SlOf.imm (idx_some e306).2.2 Part.self ?_
    refine RL.binI (v := .bool (decide (y305 < (0 : Int)))) rfl rfl rfl rfl rfl ?_
    refine RL.pickF rfl rfl rfl rfl ?_
    refine RL.mv rfl rfl rfl ?_
    refine RL.split (t := 37) rfl (fun b307 => ?_) (fun b307 => ?_)
    ·replace h299 := ite_t b307 h299
     refine RL.skip rfl rfl ?_
     refine RL.skip rfl rfl ?_
     refine RL.skip rfl rfl ?_
     refine RL.skip rfl rfl ?_
     refine RL.skip rfl rfl ?_
     refine RL.pickT rfl rfl rfl rfl ?_
     refine RL.mv rfl rfl rfl ?_
     refine RL.skip rfl rfl ?_
     refine RL.skip rfl rfl ?_
     refine RL.skip rfl rfl ?_
     refine RL.skip rfl rfl ?_
     refine RL.pickT rfl rfl rfl rfl ?_
     refine RL.mv rfl rfl rfl ?_
     refine RL.skip rfl rfl ?_
     refine RL.skip rfl rfl ?_
     refine RL.skip rfl rfl ?_
     refine RL.skip rfl rfl ?_
     refine RL.skip rfl rfl ?_
     refine RL.pickT rfl rfl rfl rfl ?_
     refine RL.mv rfl rfl rfl ?_
     refine RL.skip rfl rfl ?_
     refine RL.skip rfl rfl ?_
     refine RL.skip rfl rfl ?_
     refine RL.skip rfl rfl ?_
     refine RL.skip rfl rfl ?_
     refine RL.skip rfl rfl ?_
     refine RL.skip rfl rfl ?_
     refine RL.pickT rfl rfl rfl rfl ?_
     refine RL.finQ ?_
     cases h299
     exact fun a w st => mid_intro true h300 (St.cut [0, 2, 1] ⟨rfl, rfl, rfl, rfl, rfl, rfl, rfl, trivial⟩ (by decide) rfl st)
    replace h299 := ite_f b307 h299
    refine RL.mv rfl rfl rfl ?_
    obtain ⟨y308, e309, h299⟩ := bind_some h299
    refine RL.idxS (sz := 1) 2 Try.underlying24 Try_ln3 rfl rfl rfl rfl rfl SlOf.imm (idx_some e309).1 (idx_some e309).2.1 ?_
    refine RL.ldSx (i := ((0 : Int)).toNat) (e' := y308) 2 Ex.ik Try_ln3 rfl rfl rfl rfl SlOf.imm (idx_some e309).2.2 Part.self ?_
    refine RL.mv rfl rfl rfl ?_
    refine RL.binI (v := .bool (decide (y308 ≥ x0))) rfl rfl rfl rfl rfl ?_
    refine RL.pickF rfl rfl rfl rfl ?_
    refine RL.mv rfl rfl rfl ?_
    refine RL.split (t := 44) rfl (fun b310 => ?_) (fun b310 => ?_)
    ·replace h299 := ite_t b310 h299
     refine RL.skip rfl rfl ?_
     refine RL.skip rfl rfl ?_
     refine RL.skip rfl rfl ?_
     refine RL.skip rfl rfl ?_
     refine RL.pickT rfl rfl rfl rfl ?_
     refine RL.mv rfl rfl rfl ?_
     refine RL.skip rfl rfl ?_
     refine RL.skip rfl rfl ?_
     refine RL.skip rfl rfl ?_
     refine RL.skip rfl rfl ?_
     refine RL.skip rfl rfl ?_
     refine RL.pickT rfl rfl rfl rfl ?_
     refine RL.mv rfl rfl rfl ?_
     refine RL.skip rfl rfl ?_
     refine RL.skip rfl rfl ?_
     refine RL.skip rfl rfl ?_
     refine RL.skip rfl rfl ?_
     refine RL.skip rfl rfl ?_
     refine RL.skip rfl rfl ?_
     refine RL.skip rfl rfl ?_
     refine RL.pickT rfl rfl rfl rfl ?_
     refine RL.finQ ?_
     cases h299
     exact fun a w st => mid_intro true h300 (St.cut [0, 2, 1] ⟨rfl, rfl, rfl, rfl, rfl, rfl, rfl, trivial⟩ (by decide) rfl st)
    replace h299 := ite_f b310 h299
    refine RL.mv rfl rfl rfl ?_
    obtain ⟨y311, e312, h299⟩ := bind_some h299
    refine RL.idxS (sz := 1) 2 Try.underlying24 Try_ln3 rfl rfl rfl rfl rfl SlOf.imm (idx_some e312).1 (idx_some e312).2.1 ?_
    refine RL.ldSx (i := ((1 : Int)).toNat) (e' := y311) 2 Ex.ik Try_ln3 rfl rfl rfl rfl SlOf.imm (idx_some e312).2.2 Part.self ?_
    refine RL.binI (v := .bool (decide (y311 < (0 : Int)))) rfl rfl rfl rfl rfl ?_
    refine RL.pickF rfl rfl rfl rfl ?_
    refine RL.mv rfl rfl rfl ?_
    refine RL.split (t := 50) rfl (fun b313 => ?_) (fun b313 => ?_)
    ·replace h299 := ite_t b313 h299
     refine RL.skip rfl rfl ?_
     refine RL.skip rfl rfl ?_
     refine RL.skip rfl rfl ?_
     refine RL.skip rfl rfl ?_
     refine RL.skip rfl rfl ?_
     refine RL.pickT rfl rfl rfl rfl ?_
     refine RL.mv rfl rfl rfl ?_
     refine RL.skip rfl rfl ?_
     refine RL.skip rfl rfl ?_
     refine RL.skip rfl rfl ?_
     refine RL.skip rfl rfl ?_
     refine RL.skip rfl rfl ?_
     refine RL.skip rfl rfl ?_
     refine RL.skip rfl rfl ?_
     refine RL.pickT rfl rfl rfl rfl ?_
     refine RL.finQ ?_
     cases h299
     exact fun a w st => mid_intro true h300 (St.cut [0, 2, 1] ⟨rfl, rfl, rfl, rfl, rfl, rfl, rfl, trivial⟩ (by decide) rfl st)
    replace h299 := ite_f b313 h299
    refine RL.mv rfl rfl rfl ?_
    obtain ⟨y314, e315, h299⟩ := bind_some h299
    refine RL.idxS (sz := 1) 2 Try.underlying24 Try_ln3 rfl rfl rfl rfl rfl SlOf.imm (idx_some e315).1 (idx_some e315).2.1 ?_
    refine RL.ldSx (i := ((1 : Int)).toNat) (e' := y314) 2 Ex.ik Try_ln3 rfl rfl rfl rfl SlOf.imm (idx_some e315).2.2 Part.self ?_
    refine RL.mv rfl rfl rfl ?_
    refine RL.binI (v := .bool (decide (y314 ≥ x0))) rfl rfl rfl rfl rfl ?_
    refine RL.pickF rfl rfl rfl rfl ?_
    refine RL.mv rfl rfl rfl ?_
    refine RL.split (t := 57) rfl (fun b316 => ?_) (fun b316 => ?_)
    ·replace h299 := ite_t b316 h299
     refine RL.skip rfl rfl ?_
     refine RL.skip rfl rfl ?_
     refine RL.skip rfl rfl ?_
     refine RL.skip rfl rfl ?_
     refine RL.skip rfl rfl ?_
     refine RL.skip rfl rfl ?_
     refine RL.skip rfl rfl ?_
     refine RL.pickT rfl rfl rfl rfl ?_
     refine RL.finQ ?_
     cases h299
     exact fun a w st => mid_intro true h300 (St.cut [0, 2, 1] ⟨rfl, rfl, rfl, rfl, rfl, rfl, rfl, trivial⟩ (by decide) rfl st)
    replace h299 := ite_f b316 h299
    refine RL.mv rfl rfl rfl ?_
    obtain ⟨y317, e318, h299⟩ := bind_some h299
    refine RL.idxS (sz := 1) 2 Try.underlying24 Try_ln3 rfl rfl rfl rfl rfl SlOf.imm (idx_some e318).1 (idx_some e318).2.1 ?_
    refine RL.ldSx (i := ((0 : Int)).toNat) (e' := y317) 2 Ex.ik Try_ln3 rfl rfl rfl rfl SlOf.imm (idx_some e318).2.2 Part.self ?_
    refine RL.mv rfl rfl rfl ?_
    obtain ⟨y319, e320, h299⟩ := bind_some h299
    refine RL.idxS (sz := 1) 2 Try.underlying24 Try_ln3 rfl rfl rfl rfl rfl SlOf.imm (idx_some e320).1 (idx_some e320).2.1 ?_
    refine RL.ldSx (i := ((1 : Int)).toNat) (e' := y319) 2 Ex.ik Try_ln3 rfl rfl rfl rfl SlOf.imm (idx_some e320).2.2 Part.self ?_
    refine RL.binI (v := .bool (y317 == y319)) rfl rfl rfl rfl rfl ?_
    refine RL.pickF rfl rfl rfl rfl ?_
    refine RL.finQ ?_
    cases h299
    exact fun a w st => mid_intro (y317 == y319) h300 (St.cut [0, 2, 1] ⟨rfl, rfl, rfl, rfl, rfl, rfl, rfl, trivial⟩ (by decide) rfl st)
   rintro x296 h321
   have h322 := h301 _ h321
   try dsimp only at h322
   refine GL.weak (env' := [(0, .int .i64 x0), (6, v20), (8, v261), (22, v1), (23, .int .i64 ((x1).length : Int)), (24, .int .i64 (i246 : Int)), (65, .bool x296)]) (L' := [own2 24 3 TR.int v20 V19 l18, imm (TR.sl TR.int) v261 y256, imm (TR.sl (TR.sl TR.int)) v1 x1]) (fun _ _ st => st) ?_
   refine GL.cond rfl (fun b323 => ?_) (fun b323 => ?_)
   ·replace h322 := ite_t b323 h322
    refine GL.seq ?_
    refine GL.region ?_
    refine RL.asg rfl rfl rfl ?_
    refine RL.asg rfl rfl rfl ?_
    refine RL.finG ?_
    refine GL.weak (fun a w st => st.nilOwn 24 TR.raw) ?_
    refine GL.weak (fun a w st => St.toRows (m := 0) 3 TR.int 3 rfl st) ?_
    cases h322
    replace h250 : some (Fl.rt _) = some y239 := h250
    cases h250
    have hh := h244 _ h242
    subst hh
    exact GL.ret (Gx.ret (v := .tuple #[Value.slice none 0 0, .int .i64 (3 : Int)]) (res2 rfl rfl rfl) (fun a w st => (st.pick [3] (by decide) rfl).toPost (Value.slice none 0 0, ([] : List Value))))
   replace h322 := ite_f b323 h322
   refine GL.skip ?_
   refine GL.seq ?_
   refine GL.regionH 6 rfl rfl (by kernel_rfl) ?_
   simp only [List.take_succ_cons, List.take_zero, List.drop_succ_cons, List.drop_zero]
   refine RL.mv rfl rfl rfl ?_
   obtain ⟨y329, e330, h322⟩ := bind_some h322
   refine RL.idxS (sz := 1) 1 Try.underlying24 Try_ln3 rfl rfl rfl rfl rfl SlOf.imm (idx_some e330).1 (idx_some e330).2.1 ?_
   refine RL.ldSx (i := ((0 : Int)).toNat) (e' := y329) 1 Ex.ik Try_ln3 rfl rfl rfl rfl SlOf.imm (idx_some e330).2.2 Part.self ?_
   refine RL.mv rfl rfl rfl ?_
   obtain ⟨y331, e332, h322⟩ := bind_some h322
   refine RL.idxS (sz := 1) 1 Try.underlying24 Try_ln3 rfl rfl rfl rfl rfl SlOf.imm (idx_some e332).1 (idx_some e332).2.1 ?_
   refine RL.ldSx (i := ((1 : Int)).toNat) (e' := y331) 1 Ex.ik Try_ln3 rfl rfl rfl rfl SlOf.imm (idx_some e332).2.2 Part.self ?_
   refine RL.finH ?_
   refine RL.bS (t := TR.int) (vs := [.int .i64 y329, .int .i64 y331]) ([y329, y331] : (List Int)) Try.underlying24 Try_lo3 rfl rfl rfl rfl ⟨VR.int, ⟨VR.int, trivial⟩⟩ rfl (by decide) ?_
   intro v333
   refine RL.asg rfl rfl rfl ?_
   refine RL.finG ?_
   refine GL.seq ?_
   refine GL.region ?_
   refine RL.asg rfl rfl rfl ?_
   refine RL.finG ?_
   refine GL.seq ?_
   refine GL.seq ?_
   refine GL.region ?_
   refine RL.mv rfl rfl rfl ?_
   refine RL.mv rfl rfl rfl ?_
   refine RL.finG ?_
   refine GL.weak (fun a w st => st.nilOwn 3 TR.int) ?_
   obtain ⟨y381, e382, h322⟩ := bind_some h322
   replace e382 := chk_some e382
   obtain ⟨y383, K384, h385, h386, h387, h388, h389⟩ := bindF_K h322
   refine GL.join (ι := (List Int) × (List Int) × Value × Value) (fun (p : (List Int) × (List Int) × Value × Value) => [(0, .int .i64 x0), (6, v20), (8, v261), (9, p.2.2.1), (10, p.2.2.2), (22, v1), (23, .int .i64 ((x1).length : Int)), (24, .int .i64 (i246 : Int))]) (fun (p : (List Int) × (List Int) × Value × Value) => [own2 24 3 TR.int v20 V19 l18, imm (TR.sl TR.int) v261 y256, own 3 TR.int p.2.2.1 p.1, own 3 TR.int p.2.2.2 p.2.1, imm (TR.sl (TR.sl TR.int)) v1 x1]) (fun (p : (List Int) × (List Int) × Value × Value) => K384 (.nx (p.1, p.2.1))) ?_ ?_
   ·refine GL.block ?_
    refine GL.loop (ι := Nat × Nat × (List Int) × (List Int) × Value × Value) (fun (p : Nat × Nat × (List Int) × (List Int) × Value × Value) => [(0, .int .i64 x0), (6, v20), (8, v261), (9, p.2.2.2.2.1), (10, p.2.2.2.2.2), (22, v1), (23, .int .i64 ((x1).length : Int)), (24, .int .i64 (i246 : Int)), (73, .int .i64 x0), (74, .int .i64 (p.1 : Int))]) (fun (p : Nat × Nat × (List Int) × (List Int) × Value × Value) => [own2 24 3 TR.int v20 V19 l18, imm (TR.sl TR.int) v261 y256, own 3 TR.int p.2.2.2.2.1 p.2.2.1, own 3 TR.int p.2.2.2.2.2 p.2.2.2.1, imm (TR.sl (TR.sl TR.int)) v1 x1]) (fun (p : Nat × Nat × (List Int) × (List Int) × Value × Value) => p.1 + p.2.1 = (x0).toNat ∧ rangeN (duel_Votes_b2 y256) p.2.1 p.1 (p.2.2.1, p.2.2.2.1) = some y383) (fun (p : Nat × Nat × (List Int) × (List Int) × Value × Value) => p.2.1) (0, (x0).toNat, ([y329, y331] : (List Int)), [], v333, Value.slice none 0 0) ⟨by simp, h385⟩ (fun a w st => St.cut [0, 1, 3, 4, 2] ⟨rfl, rfl, rfl, rfl, rfl, rfl, rfl, rfl, rfl, rfl, trivial⟩ (by decide) rfl st) ?_
    rintro ⟨i390, r391, l334, l336, v335, v337⟩ ⟨h396, h395⟩
    try dsimp only at h396 h395
    refine GL.weak (env' := [(0, .int .i64 x0), (6, v20), (8, v261), (9, v335), (10, v337), (22, v1), (23, .int .i64 ((x1).length : Int)), (24, .int .i64 (i246 : Int)), (73, .int .i64 x0), (74, .int .i64 (i390 : Int))]) (L' := [own2 24 3 TR.int v20 V19 l18, imm (TR.sl TR.int) v261 y256, own 3 TR.int v335 l334, own 3 TR.int v337 l336, imm (TR.sl (TR.sl TR.int)) v1 x1]) (fun _ _ st => st) ?_
    refine GL.seq ?_
    refine GL.region ?_
    refine RL.binI (v := .bool (decide ((i390 : Int) < x0))) rfl rfl rfl rfl rfl ?_
    refine RL.finG ?_
    refine GL.seq ?_
    refine GL.cond rfl (fun b398 => ?_) (fun b398 => ?_)
    ·have h399 : i390 < (x0).toNat := by have := of_decide_eq_true b398; omega
     obtain ⟨r400, hr⟩ : ∃ m, r391 = m + 1 := ⟨r391 - 1, by omega⟩
     subst hr
     obtain ⟨z392, h393, h394⟩ := rangeN_some h395
     unfold duel_Votes_b2 at h393
     try dsimp only at h393
     refine GL.skip ?_
     refine GL.seq ?_
     refine GL.block ?_
     refine GL.seq ?_
     refine GL.region ?_
     refine RL.mv rfl rfl rfl ?_
     refine RL.asg rfl rfl rfl ?_
     refine RL.finG ?_
     refine GL.seq ?_
     obtain ⟨y412, K413, h414, h415, h416, h417, h418⟩ := bindF_K h393
     refine GL.join (ι := Bool) (fun (p : Bool) => [(0, .int .i64 x0), (6, v20), (8, v261), (9, v335), (10, v337), (11, .int .i64 (i390 : Int)), (22, v1), (23, .int .i64 ((x1).length : Int)), (24, .int .i64 (i246 : Int)), (73, .int .i64 x0), (74, .int .i64 (i390 : Int)), (88, .bool p)]) (fun (p : Bool) => [own2 24 3 TR.int v20 V19 l18, imm (TR.sl TR.int) v261 y256, own 3 TR.int v335 l334, own 3 TR.int v337 l336, imm (TR.sl (TR.sl TR.int)) v1 x1]) (fun (p : Bool) => K413 (.nx p)) ?_ ?_
     ·skip
      refine GL.region ?_
      refine RL.mv rfl rfl rfl ?_
      refine RL.mv rfl rfl rfl ?_
      obtain ⟨y419, e420, h414⟩ := bind_some h414
      refine RL.idxS (sz := 1) 1 Try.underlying24 Try_ln3 rfl rfl rfl rfl rfl SlOf.imm (idx_some e420).1 (idx_some e420).2.1 ?_
      refine RL.ldSx (i := ((0 : Int)).toNat) (e' := y419) 1 Ex.ik Try_ln3 rfl rfl rfl rfl SlOf.imm (idx_some e420).2.2 Part.self ?_
      refine RL.binI (v := .bool ((i390 : Int) != y419)) rfl rfl rfl rfl rfl ?_
      refine RL.mv rfl rfl rfl ?_
      refine RL.split (t := 82) rfl (fun b421 => ?_) (fun b421 => ?_)
      ·replace h414 := ite_t b421 h414
       refine RL.mv rfl rfl rfl ?_
       refine RL.mv rfl rfl rfl ?_
       obtain ⟨y422, e423, h414⟩ := bind_some h414
       refine RL.idxS (sz := 1) 1 Try.underlying24 Try_ln3 rfl rfl rfl rfl rfl SlOf.imm (idx_some e423).1 (idx_some e423).2.1 ?_
       refine RL.ldSx (i := ((1 : Int)).toNat) (e' := y422) 1 Ex.ik Try_ln3 rfl rfl rfl rfl SlOf.imm (idx_some e423).2.2 Part.self ?_
       refine RL.binI (v := .bool ((i390 : Int) != y422)) rfl rfl rfl rfl rfl ?_
       refine RL.pickT rfl rfl rfl rfl ?_
       refine RL.fin ?_
       cases h414
       exact fun a w st => mid_intro ((i390 : Int) != y422) h415 (St.cut [0, 1, 2, 3, 4] ⟨rfl, rfl, rfl, rfl, rfl, rfl, rfl, rfl, rfl, rfl, rfl, rfl, trivial⟩ (by decide) rfl st)
      replace h414 := ite_f b421 h414
      refine RL.skip rfl rfl ?_
      refine RL.skip rfl rfl ?_
      refine RL.skip rfl rfl ?_
      refine RL.skip rfl rfl ?_
      refine RL.skip rfl rfl ?_
      refine RL.pickF rfl rfl rfl rfl ?_
      refine RL.fin ?_
      cases h414
      exact fun a w st => mid_intro false h415 (St.cut [0, 1, 2, 3, 4] ⟨rfl, rfl, rfl, rfl, rfl, rfl, rfl, rfl, rfl, rfl, rfl, rfl, trivial⟩ (by decide) rfl st)
     rintro x411 h424
     have h425 := h416 _ h424
     try dsimp only at h425
     refine GL.weak (env' := [(0, .int .i64 x0), (6, v20), (8, v261), (9, v335), (10, v337), (11, .int .i64 (i390 : Int)), (22, v1), (23, .int .i64 ((x1).length : Int)), (24, .int .i64 (i246 : Int)), (73, .int .i64 x0), (74, .int .i64 (i390 : Int)), (88, .bool x411)]) (L' := [own2 24 3 TR.int v20 V19 l18, imm (TR.sl TR.int) v261 y256, own 3 TR.int v335 l334, own 3 TR.int v337 l336, imm (TR.sl (TR.sl TR.int)) v1 x1]) (fun _ _ st => st) ?_
     refine GL.cond rfl (fun b426 => ?_) (fun b426 => ?_)
     ·replace h425 := ite_t b426 h425
      refine GL.seq ?_
      refine GL.region ?_
      refine RL.mv rfl rfl rfl ?_
      refine RL.mv rfl rfl rfl ?_
      refine RL.bS (t := TR.int) (vs := [.int .i64 (i390 : Int)]) ([(i390 : Int)] : (List Int)) Try.underlying24 Try_lo3 rfl rfl rfl rfl ⟨VR.int, trivial⟩ rfl (by decide) ?_
      intro v431
      obtain ⟨y432, e433, h425⟩ := bind_some h425
      replace e433 := chk_some e433
      refine RL.app 2 5 Try.underlying24 Try_lo3 rfl rfl rfl rfl rfl rfl rfl SlOf.own e433 ?_
      intro v434
      refine RL.reL (L' := [own2 24 3 TR.int v20 V19 l18, imm (TR.sl TR.int) v261 y256, own 3 TR.int v434 (l334 ++ ([(i390 : Int)] : (List Int))), own 3 TR.int v337 l336, imm (TR.sl (TR.sl TR.int)) v1 x1, own 3 TR.int v431 ([(i390 : Int)] : (List Int))]) rfl ?_
      refine RL.asg rfl rfl rfl ?_
      refine RL.finG ?_
      refine GL.region ?_
      refine RL.mv rfl rfl rfl ?_
      refine RL.bS (t := TR.int) (vs := [.int .i64 (i390 : Int)]) ([(i390 : Int)] : (List Int)) Try.underlying24 Try_lo3 rfl rfl rfl rfl ⟨VR.int, trivial⟩ rfl (by decide) ?_
      intro v439
      refine RL.mv rfl rfl rfl ?_
      obtain ⟨y440, e441, h425⟩ := bind_some h425
      replace e441 := chk_some e441
      refine RL.app 6 3 Try.underlying24 Try_lo3 rfl rfl rfl rfl rfl rfl rfl SlOf.own e441 ?_
      intro v442
      refine RL.reL (L' := [own2 24 3 TR.int v20 V19 l18, imm (TR.sl TR.int) v261 y256, own 3 TR.int v434 (l334 ++ ([(i390 : Int)] : (List Int))), own 3 TR.int v337 l336, imm (TR.sl (TR.sl TR.int)) v1 x1, own 3 TR.int v431 ([(i390 : Int)] : (List Int)), own 3 TR.int v442 (([(i390 : Int)] : (List Int)) ++ l336)]) rfl ?_
      refine RL.asg rfl rfl rfl ?_
      refine RL.finG ?_
      refine GL.nilB ?_
      refine GL.region ?_
      refine RL.binI (v := .int .i64 ((i390 + 1 : Nat) : Int)) rfl rfl rfl rfl (binI_succ i390 (by omega)) ?_
      refine RL.mv rfl rfl rfl ?_
      refine RL.fin ?_
      cases h425
      exact fun a w st => lop_intro (i390 + 1, r400, (l334 ++ ([(i390 : Int)] : (List Int))), (([(i390 : Int)] : (List Int)) ++ l336), v434, v442) ⟨by show i390 + 1 + r400 = (x0).toNat; omega, h394⟩ (by simp) (St.cut [0, 1, 2, 6, 4] ⟨rfl, rfl, rfl, rfl, rfl, rfl, rfl, rfl, rfl, rfl, trivial⟩ (by decide) rfl st)
     replace h425 := ite_f b426 h425
     refine GL.skip ?_
     refine GL.nilB ?_
     refine GL.region ?_
     refine RL.binI (v := .int .i64 ((i390 + 1 : Nat) : Int)) rfl rfl rfl rfl (binI_succ i390 (by omega)) ?_
     refine RL.mv rfl rfl rfl ?_
     refine RL.fin ?_
     cases h425
     exact fun a w st => lop_intro (i390 + 1, r400, l334, l336, v335, v337) ⟨by show i390 + 1 + r400 = (x0).toNat; omega, h394⟩ (by simp) (St.cut [0, 1, 2, 3, 4] ⟨rfl, rfl, rfl, rfl, rfl, rfl, rfl, rfl, rfl, rfl, trivial⟩ (by decide) rfl st)
    have h399 : ¬ i390 < (x0).toNat := by have := of_decide_eq_false b398; omega
    obtain rfl : r391 = 0 := by omega
    replace h395 : some (Fl.nx _) = some y383 := h395
    cases h395
    exact GL.exit (fun a w st => mid_intro (l334, l336, v335, v337) h386 (St.cut [0, 1, 2, 3, 4] ⟨rfl, rfl, rfl, rfl, rfl, rfl, rfl, rfl, trivial⟩ (by decide) rfl st))
   rintro ⟨l334, l336, v335, v337⟩ h443
   have h444 := h387 _ h443
   try dsimp only at h444
   refine GL.weak (env' := [(0, .int .i64 x0), (6, v20), (8, v261), (9, v335), (10, v337), (22, v1), (23, .int .i64 ((x1).length : Int)), (24, .int .i64 (i246 : Int))]) (L' := [own2 24 3 TR.int v20 V19 l18, imm (TR.sl TR.int) v261 y256, own 3 TR.int v335 l334, own 3 TR.int v337 l336, imm (TR.sl (TR.sl TR.int)) v1 x1]) (fun _ _ st => st) ?_
   refine GL.regionA rfl rfl ?_
   refine RA.mv 0 rfl (by kernel_rfl) rfl rfl rfl ?_
   refine RA.mv 1 rfl (by kernel_rfl) rfl rfl rfl ?_
   refine RA.mv 2 rfl (by kernel_rfl) rfl rfl rfl ?_
   refine RA.mv 3 rfl (by kernel_rfl) rfl rfl rfl ?_
   obtain ⟨y459, e460, h444⟩ := bind_some h444
   refine RA.idxS (sz := 1) 1 Try.underlying24 Try_ln3 4 rfl (by kernel_rfl) rfl rfl rfl rfl rfl SlOf.imm (idx_some e460).1 (idx_some e460).2.1 ?_
   refine RA.mv 6 rfl (by kernel_rfl) rfl rfl rfl ?_
   obtain ⟨y461, e462, h444⟩ := bind_some h444
   refine RA.idxS (sz := 1) 1 Try.underlying24 Try_ln3 7 rfl (by kernel_rfl) rfl rfl rfl rfl rfl SlOf.imm (idx_some e462).1 (idx_some e462).2.1 ?_
   refine RA.still (le := #[true, true, true, true, true, true, true, true, true, false, false, false, false, false]) (f := 5) [5, 8] 9 rfl (by kernel_rfl) ?_
   simp only [pickOps, List.getElem?_toArray, List.getElem?_cons_succ, List.getElem?_cons_zero]
   refine RL.ldSx (i := ((0 : Int)).toNat) (e' := y459) 1 Ex.ik Try_ln3 rfl rfl rfl rfl SlOf.imm (idx_some e460).2.2 Part.self ?_
   refine RL.ldSx (i := ((1 : Int)).toNat) (e' := y461) 1 Ex.ik Try_ln3 rfl rfl rfl rfl SlOf.imm (idx_some e462).2.2 Part.self ?_
   refine RL.finH ?_
   refine RL.fin ?_
   refine RA.next ?_
   refine RA.seq 9 rfl (by kernel_rfl) ?_
   refine RL.bS (t := TR.int) (vs := [.int .i64 y459, .int .i64 y461]) ([y459, y461] : (List Int)) Try.underlying24 Try_lo3 rfl rfl rfl rfl ⟨VR.int, ⟨VR.int, trivial⟩⟩ rfl (by decide) ?_
   intro v463
   refine RL.fin ?_
   refine RA.next ?_
   refine RA.seq 10 rfl (by kernel_rfl) ?_
   obtain ⟨y464, e465, h444⟩ := bind_some h444
   replace e465 := chk_some e465
   refine RL.app 3 5 Try.underlying24 Try_lo3 rfl rfl rfl rfl rfl rfl rfl SlOf.own e465 ?_
   intro v466
   refine RL.fin ?_
   refine RA.next ?_
   refine RA.seq 11 rfl (by kernel_rfl) ?_
   refine RL.bS (t := TR.raw) (vs := [v335, v466]) ([v335, v466] : List Value) Try.underlying37 Try_lo24 rfl rfl rfl rfl ⟨VR.rawOf 2 rfl SlOf.own, ⟨VR.rawOf 3 rfl SlOf.own, trivial⟩⟩ rfl (by decide) ?_
   intro v467
   refine RL.weak (fun a w st => st.row1 2 rfl) ?_
   refine RL.reL (L' := [own2 24 3 TR.int v20 V19 l18, imm (TR.sl TR.int) v261 y256, rowsI 3 TR.int ([v335] : List Value) ([l334] : (List (List Int))), own 3 TR.int v466 (l336 ++ ([y459, y461] : (List Int))), imm (TR.sl (TR.sl TR.int)) v1 x1, own 3 TR.int v463 ([y459, y461] : (List Int)), own 24 TR.raw v467 ([v335, v466] : List Value)]) rfl ?_
   refine RL.weak (fun a w st => st.row1 3 rfl) ?_
   refine RL.reL (L' := [own2 24 3 TR.int v20 V19 l18, imm (TR.sl TR.int) v261 y256, rowsI 3 TR.int ([v335] : List Value) ([l334] : (List (List Int))), rowsI 3 TR.int ([v466] : List Value) ([(l336 ++ ([y459, y461] : (List Int)))] : (List (List Int))), imm (TR.sl (TR.sl TR.int)) v1 x1, own 3 TR.int v463 ([y459, y461] : (List Int)), own 24 TR.raw v467 ([v335, v466] : List Value)]) rfl ?_
   refine RL.weak (fun a w st => st.rowsApp 2 3 (by decide) rfl rfl) ?_
   refine RL.reL (L' := [own2 24 3 TR.int v20 V19 l18, imm (TR.sl TR.int) v261 y256, rowsI 3 TR.int ([v335, v466] : List Value) ([l334, (l336 ++ ([y459, y461] : (List Int)))] : (List (List Int))), gone, imm (TR.sl (TR.sl TR.int)) v1 x1, own 3 TR.int v463 ([y459, y461] : (List Int)), own 24 TR.raw v467 ([v335, v466] : List Value)]) rfl ?_
   refine RL.weak (fun a w st => st.rerow 6 2 (by decide) rfl rfl) ?_
   refine RL.reL (L' := [own2 24 3 TR.int v20 V19 l18, imm (TR.sl TR.int) v261 y256, gone, gone, imm (TR.sl (TR.sl TR.int)) v1 x1, own 3 TR.int v463 ([y459, y461] : (List Int)), own2 24 3 TR.int v467 ([v335, v466] : List Value) ([l334, (l336 ++ ([y459, y461] : (List Int)))] : (List (List Int)))]) rfl ?_
   refine RL.fin ?_
   refine RA.next ?_
   refine RA.seq 12 rfl (by kernel_rfl) ?_
   obtain ⟨y468, e469, h444⟩ := bind_some h444
   replace e469 := chk_some e469
   refine RL.rowsLen 0 rfl (fun h471 => ?_)
   refine RL.rowsLen 6 rfl (fun h472 => ?_)
   refine RL.weak (fun a w st => st.unrow 0 rfl) ?_
   refine RL.reL (L' := [own 24 TR.raw v20 V19, imm (TR.sl TR.int) v261 y256, gone, gone, imm (TR.sl (TR.sl TR.int)) v1 x1, own 3 TR.int v463 ([y459, y461] : (List Int)), own2 24 3 TR.int v467 ([v335, v466] : List Value) ([l334, (l336 ++ ([y459, y461] : (List Int)))] : (List (List Int))), rowsI 3 TR.int V19 l18]) rfl ?_
   refine RL.weak (fun a w st => st.unrow 6 rfl) ?_
   refine RL.reL (L' := [own 24 TR.raw v20 V19, imm (TR.sl TR.int) v261 y256, gone, gone, imm (TR.sl (TR.sl TR.int)) v1 x1, own 3 TR.int v463 ([y459, y461] : (List Int)), own 24 TR.raw v467 ([v335, v466] : List Value), rowsI 3 TR.int V19 l18, rowsI 3 TR.int ([v335, v466] : List Value) ([l334, (l336 ++ ([y459, y461] : (List Int)))] : (List (List Int)))]) rfl ?_
   refine RL.app 0 6 Try.underlying37 Try_lo24 rfl rfl rfl rfl rfl rfl rfl SlOf.own (by rw [h471, h472]; exact e469) ?_
   intro v470
   refine RL.reL (L' := [own 24 TR.raw v470 (V19 ++ ([v335, v466] : List Value)), imm (TR.sl TR.int) v261 y256, gone, gone, imm (TR.sl (TR.sl TR.int)) v1 x1, own 3 TR.int v463 ([y459, y461] : (List Int)), own 24 TR.raw v467 ([v335, v466] : List Value), rowsI 3 TR.int V19 l18, rowsI 3 TR.int ([v335, v466] : List Value) ([l334, (l336 ++ ([y459, y461] : (List Int)))] : (List (List Int)))]) rfl ?_
   refine RL.weak (fun a w st => st.rowsApp 7 8 (by decide) rfl rfl) ?_
   refine RL.reL (L' := [own 24 TR.raw v470 (V19 ++ ([v335, v466] : List Value)), imm (TR.sl TR.int) v261 y256, gone, gone, imm (TR.sl (TR.sl TR.int)) v1 x1, own 3 TR.int v463 ([y459, y461] : (List Int)), own 24 TR.raw v467 ([v335, v466] : List Value), rowsI 3 TR.int (V19 ++ ([v335, v466] : List Value)) (l18 ++ ([l334, (l336 ++ ([y459, y461] : (List Int)))] : (List (List Int)))), gone]) rfl ?_
   refine RL.weak (fun a w st => st.rerow 0 7 (by decide) rfl rfl) ?_
   refine RL.reL (L' := [own2 24 3 TR.int v470 (V19 ++ ([v335, v466] : List Value)) (l18 ++ ([l334, (l336 ++ ([y459, y461] : (List Int)))] : (List (List Int)))), imm (TR.sl TR.int) v261 y256, gone, gone, imm (TR.sl (TR.sl TR.int)) v1 x1, own 3 TR.int v463 ([y459, y461] : (List Int)), own 24 TR.raw v467 ([v335, v466] : List Value), gone, gone]) rfl ?_
   refine RL.fin ?_
   refine RA.next ?_
   refine RA.quiet 13 rfl rfl (by kernel_rfl) ?_
   simp only [List.drop_succ_cons, List.drop_zero]
   refine RL.asg rfl rfl rfl ?_
   refine RL.reL (L' := [own2 24 3 TR.int v470 (V19 ++ ([v335, v466] : List Value)) (l18 ++ ([l334, (l336 ++ ([y459, y461] : (List Int)))] : (List (List Int)))), imm (TR.sl TR.int) v261 y256, gone, gone, imm (TR.sl (TR.sl TR.int)) v1 x1, own 3 TR.int v463 ([y459, y461] : (List Int)), own 24 TR.raw v467 ([v335, v466] : List Value), gone, gone]) rfl ?_
   refine RL.finQ ?_
   refine RA.outQ ?_
   refine GL.weak (env' := [(0, .int .i64 x0), (6, v470), (22, v1), (23, .int .i64 ((x1).length : Int)), (24, .int .i64 (i246 : Int))]) (L' := [own2 24 3 TR.int v470 (V19 ++ ([v335, v466] : List Value)) (l18 ++ ([l334, (l336 ++ ([y459, y461] : (List Int)))] : (List (List Int)))), imm (TR.sl (TR.sl TR.int)) v1 x1]) (fun a w st => St.cut [0, 4] ⟨rfl, rfl, rfl, rfl, rfl, trivial⟩ (by decide) rfl st) ?_
   refine GL.nilB ?_
   refine GL.region ?_
   refine RL.binI (v := .int .i64 ((i246 + 1 : Nat) : Int)) rfl rfl rfl rfl (binI_succ i246 (by omega)) ?_
   refine RL.mv rfl rfl rfl ?_
   refine RL.fin ?_
   cases h444
   exact fun a w st => lop_intro (i246 + 1, r258, (l18 ++ ([l334, (l336 ++ ([y459, y461] : (List Int)))] : (List (List Int)))), (V19 ++ ([v335, v466] : List Value)), v470) ⟨by show i246 + 1 + r258.length = (x1).length; simp only [List.length_cons] at h252; omega, h259, h250⟩ (by simp) (St.cut [0, 1] ⟨rfl, rfl, rfl, rfl, rfl, trivial⟩ (by decide) rfl st)
  have h255 : ¬ i246 < (x1).length := by have := of_decide_eq_false b254; omega
  obtain rfl : r247 = [] := by rw [← h253]; exact List.drop_of_length_le (by omega)
  replace h251 : some (Fl.nx _) = some y239 := h251
  cases h251
  exact GL.exit (fun a w st => mid_intro (l18, V19, v20) h242 (St.cut [0] ⟨rfl, trivial⟩ (by decide) rfl st))
 rintro ⟨l18, V19, v20⟩ h473
 have h474 := h243 _ h473
 try dsimp only at h474
 refine GL.weak (env' := [(6, v20)]) (L' := [own2 24 3 TR.int v20 V19 l18]) (fun _ _ st => st) ?_
 refine GL.seq ?_
 refine GL.region ?_
 refine RL.mv rfl rfl rfl ?_
 refine RL.asg rfl rfl rfl ?_
 refine RL.asg rfl rfl rfl ?_
 refine RL.finG ?_
 have h474 := Option.some.inj h474
 subst h474
 exact GL.ret (Gx.ret (v := .tuple #[v20, .int .i64 (0 : Int)]) (res2 rfl rfl rfl) (fun a w st => (st.pick [0] (by decide) rfl).toPost (v20, V19)))

set_option maxHeartbeats 4000000 in
theorem slices_EqualFunc_int_int_int_int_c (S : Hp) (w : World) (hS : S.sub w) (v0 : Value) (x0 : (List (List Int))) (k0 : ((TR.sl (TR.sl TR.int))).vrep S v0 x0) (v1 : Value) (x1 : (List (List Int))) (k1 : ((TR.sl (TR.sl TR.int))).vrep S v1 x1) (f2 : FuncId) (c2 : Array Value) (t2 : Fit Try.prog f2) (g2 : (List Int) → (List Int) → Option Bool) (k2 : ∀ (U : Hp) (w' : World), Hp.le S U → U.sub w' → ∀ (u0 : Value) (a0 : (List Int)) (_ : ((TR.sl TR.int)).vrep U u0 a0) (u1 : Value) (a1 : (List Int)) (_ : ((TR.sl TR.int)).vrep U u1 a1) (rr : Bool), g2 a0 a1 = some rr → Calls Try.prog f2 (#[u0, u1] ++ c2) w' (PostV w' (.bool rr))) (res : Bool) (hm : slices_EqualFunc_int_int_int_int_m x0 x1 g2 = some res) : Calls Try.prog 97 #[v0, v1, .func (.func f2) #[] c2] w (PostV w (.bool res)) := by
 refine calls_enter 32 Try.func97 Try.ntmps97 rfl S false [(0, v0), (1, v1), (2, .func (.func f2) #[] c2)] [imm (TR.sl (TR.sl TR.int)) v0 x0, imm (TR.sl (TR.sl TR.int)) v1 x1] rfl ⟨rfl, ⟨rfl, ⟨rfl, trivial⟩⟩⟩ hS ⟨k0, ⟨k1, trivial⟩⟩ ?_
 unfold slices_EqualFunc_int_int_int_int_m at hm
 refine GL.seq ?_
 refine GL.region ?_
 refine RL.asg rfl rfl rfl ?_
 refine RL.finG ?_
 refine GL.seq ?_
 refine GL.seq ?_
 refine GL.region ?_
 refine RL.mv rfl rfl rfl ?_
 refine RL.lenS 0 Try.underlying37 rfl rfl rfl rfl SlOf.imm ?_
 refine RL.mv rfl rfl rfl ?_
 refine RL.lenS 1 Try.underlying37 rfl rfl rfl rfl SlOf.imm ?_
 refine RL.binI (v := .bool (((x0).length : Int) != ((x1).length : Int))) rfl rfl rfl rfl rfl ?_
 refine RL.finG ?_
 refine GL.cond rfl (fun b4 => ?_) (fun b4 => ?_)
 ·replace hm := ite_t b4 hm
  refine GL.seq ?_
  refine GL.region ?_
  refine RL.asg rfl rfl rfl ?_
  refine RL.finG ?_
  have hm := Option.some.inj hm
  subst hm
  exact GL.ret (Gx.ret (v := .bool false) (res1 rfl rfl) (fun a w st => st.toPostV))
 replace hm := ite_f b4 hm
 refine GL.skip ?_
 refine GL.seq ?_
 refine GL.seq ?_
 refine GL.region ?_
 refine RL.mv rfl rfl rfl ?_
 refine RL.lenS 0 Try.underlying37 rfl rfl rfl rfl SlOf.imm ?_
 refine RL.mv rfl rfl rfl ?_
 refine RL.finG ?_
 refine GL.open_ 0 rfl (fun S h => len_imm S h) (fun n22 => ?_)
 obtain ⟨y23, K24, h25, h26, h27, h28, h29⟩ := bindR_K hm
 refine GL.join (ι := Unit) (fun (p : Unit) => []) (fun (p : Unit) => []) (fun (p : Unit) => K24 (.nx ())) ?_ ?_
 ·refine GL.block ?_
  refine GL.loop (ι := Nat × (List (List Int))) (fun (p : Nat × (List (List Int))) => [(1, v1), (2, .func (.func f2) #[] c2), (15, v0), (16, .int .i64 ((x0).length : Int)), (17, .int .i64 (p.1 : Int))]) (fun (p : Nat × (List (List Int))) => [imm (TR.sl (TR.sl TR.int)) v1 x1, imm (TR.sl (TR.sl TR.int)) v0 x0]) (fun (p : Nat × (List (List Int))) => p.1 + p.2.length = (x0).length ∧ List.drop p.1 x0 = p.2 ∧ rangeL (slices_EqualFunc_int_int_int_int_b1 x1 g2) p.2 p.1 () = some y23) (fun (p : Nat × (List (List Int))) => p.2.length) (0, x0) ⟨by simp, by simp, h25⟩ (fun a w st => St.cut [1, 0] ⟨rfl, rfl, rfl, rfl, rfl, trivial⟩ (by decide) rfl st) ?_
  rintro ⟨i30, r31⟩ ⟨h36, h37, h35⟩
  try dsimp only at h36 h37 h35
  refine GL.weak (env' := [(1, v1), (2, .func (.func f2) #[] c2), (15, v0), (16, .int .i64 ((x0).length : Int)), (17, .int .i64 (i30 : Int))]) (L' := [imm (TR.sl (TR.sl TR.int)) v1 x1, imm (TR.sl (TR.sl TR.int)) v0 x0]) (fun _ _ st => st) ?_
  refine GL.seq ?_
  refine GL.region ?_
  refine RL.binI (v := .bool (decide ((i30 : Int) < ((x0).length : Int)))) rfl rfl rfl rfl rfl ?_
  refine RL.finG ?_
  refine GL.seq ?_
  refine GL.cond rfl (fun b38 => ?_) (fun b38 => ?_)
  ·have h39 : i30 < (x0).length := by have := of_decide_eq_true b38; omega
   obtain ⟨y40, r42, hr, e41, h43⟩ := drop_cons h37 rfl h39
   subst hr
   obtain ⟨z32, h33, h34⟩ := rangeL_some h35
   unfold slices_EqualFunc_int_int_int_int_b1 at h33
   try dsimp only at h33
   refine GL.skip ?_
   refine GL.seq ?_
   refine GL.block ?_
   refine GL.seq ?_
   refine GL.region ?_
   refine RL.mv rfl rfl rfl ?_
   refine RL.idxS (sz := 1) 1 Try.underlying37 Try_ln24 rfl rfl rfl rfl rfl SlOf.imm (by omega) (by omega) ?_
   refine RL.ldS (i := i30) (r := (TR.sl TR.int)) (e' := y40) 1 Try_ln24 rfl rfl rfl rfl SlOf.imm e41 Part.self ?_
   intro v45
   refine RL.asg rfl rfl rfl ?_
   refine RL.asg rfl rfl rfl ?_
   refine RL.finG ?_
   refine GL.seq ?_
   refine GL.region ?_
   refine RL.mv rfl rfl rfl ?_
   refine RL.mv rfl rfl rfl ?_
   obtain ⟨y49, e50, h33⟩ := bind_some h33
   refine RL.idxS (sz := 1) 0 Try.underlying37 Try_ln24 rfl rfl rfl rfl rfl SlOf.imm (idx_some e50).1 (idx_some e50).2.1 ?_
   refine RL.ldS (i := i30) (r := (TR.sl TR.int)) (e' := y49) 0 Try_ln24 rfl rfl rfl rfl SlOf.imm (idx_some e50).2.2 Part.self ?_
   intro v51
   refine RL.reL (L' := [imm (TR.sl (TR.sl TR.int)) v1 x1, imm (TR.sl (TR.sl TR.int)) v0 x0, imm (TR.sl TR.int) v45 y40, imm (TR.sl TR.int) v51 y49]) rfl ?_
   refine RL.asg rfl rfl rfl ?_
   refine RL.finG ?_
   refine GL.seq ?_
   refine GL.region ?_
   refine RL.mv rfl rfl rfl ?_
   refine RL.mv rfl rfl rfl ?_
   refine RL.mv rfl rfl rfl ?_
   obtain ⟨y54, e55, h33⟩ := bind_some h33
   refine RL.callV (v := .bool y54) (vs := [v45, v51]) t2 rfl (Or.inl rfl) rfl rfl rfl rfl (fun U w hU hW hL => k2 U w hW hU _ _ (hL 2 _ _ rfl Seen.imm) _ _ (hL 3 _ _ rfl Seen.imm) _ e55) ?_
   refine RL.notB rfl rfl rfl ?_
   refine RL.finG ?_
   refine GL.cond rfl (fun b56 => ?_) (fun b56 => ?_)
   ·replace h33 := ite_t b56 h33
    refine GL.seq ?_
    refine GL.region ?_
    refine RL.asg rfl rfl rfl ?_
    refine RL.finG ?_
    cases h33
    replace h34 : some (Fl.rt _) = some y23 := h34
    cases h34
    have hh := h28 _ h26
    subst hh
    exact GL.ret (Gx.ret (v := .bool false) (res1 rfl rfl) (fun a w st => st.toPostV))
   replace h33 := ite_f b56 h33
   refine GL.skip ?_
   refine GL.nilB ?_
   refine GL.region ?_
   refine RL.binI (v := .int .i64 ((i30 + 1 : Nat) : Int)) rfl rfl rfl rfl (binI_succ i30 (by omega)) ?_
   refine RL.mv rfl rfl rfl ?_
   refine RL.fin ?_
   cases h33
   exact fun a w st => lop_intro (i30 + 1, r42) ⟨by show i30 + 1 + r42.length = (x0).length; simp only [List.length_cons] at h36; omega, h43, h34⟩ (by simp) (St.cut [0, 1] ⟨rfl, rfl, rfl, rfl, rfl, trivial⟩ (by decide) rfl st)
  have h39 : ¬ i30 < (x0).length := by have := of_decide_eq_false b38; omega
  obtain rfl : r31 = [] := by rw [← h37]; exact List.drop_of_length_le (by omega)
  replace h35 : some (Fl.nx _) = some y23 := h35
  cases h35
  exact GL.exit (fun a w st => mid_intro () h26 (St.cut [] trivial (by decide) rfl st))
 rintro ⟨⟩ h57
 have h58 := h27 _ h57
 try dsimp only at h58
 refine GL.weak (env' := []) (L' := []) (fun _ _ st => st) ?_
 refine GL.seq ?_
 refine GL.region ?_
 refine RL.asg rfl rfl rfl ?_
 refine RL.finG ?_
 have h58 := Option.some.inj h58
 subst h58
 exact GL.ret (Gx.ret (v := .bool true) (res1 rfl rfl) (fun a w st => st.toPostV))

set_option maxHeartbeats 4000000 in
theorem pk_sameRows_c (S : Hp) (w : World) (hS : S.sub w) (v0 : Value) (x0 : (List (List Int))) (k0 : ((TR.sl (TR.sl TR.int))).vrep S v0 x0) (v1 : Value) (x1 : (List (List Int))) (k1 : ((TR.sl (TR.sl TR.int))).vrep S v1 x1) (res : Bool) (hm : pk_sameRows_m x0 x1 = some res) : Calls Try.prog 39 #[v0, v1] w (PostV w (.bool res)) := by
 refine calls_enter 8 Try.func39 Try.ntmps39 rfl S false [(0, v0), (1, v1)] [imm (TR.sl (TR.sl TR.int)) v0 x0, imm (TR.sl (TR.sl TR.int)) v1 x1] rfl ⟨rfl, ⟨rfl, trivial⟩⟩ hS ⟨k0, ⟨k1, trivial⟩⟩ ?_
 unfold pk_sameRows_m at hm
 refine GL.seq ?_
 refine GL.region ?_
 refine RL.asg rfl rfl rfl ?_
 refine RL.finG ?_
 refine GL.seq ?_
 refine GL.region ?_
 refine RL.mv rfl rfl rfl ?_
 refine RL.mv rfl rfl rfl ?_
 obtain ⟨y5, e6, hm⟩ := bind_some hm
 refine RL.callV (v := .bool y5) (vs := [v0, v1, .func (.func 22) #[] #[]]) Try_fit97 rfl (Or.inl rfl) rfl rfl rfl rfl (fun U w hU hW hL => slices_EqualFunc_int_int_int_int_c U w hU _ _ (hL 0 _ _ rfl Seen.imm) _ _ (hL 1 _ _ rfl Seen.imm) 22 #[] Try_fit22 (fun a0 a1 => slices_Equal_int_int_m a0 a1) (fun U' w' hle hU' u0 a0 q0 u1 a1 q1 rr hr => (slices_Equal_int_int_c U' w' hU' u0 a0 q0 u1 a1 q1 rr hr).mono (fun _ _ z => z)) _ e6) ?_
 refine RL.asg rfl rfl rfl ?_
 refine RL.finG ?_
 have hm := Option.some.inj hm
 subst hm
 exact GL.ret (Gx.ret (v := .bool y5) (res1 rfl rfl) (fun a w st => st.toPostV))

set_option maxHeartbeats 4000000 in
theorem slices_IndexFunc_rows_c (S : Hp) (w : World) (hS : S.sub w) (v0 : Value) (x0 : (List (List Int))) (k0 : ((TR.sl (TR.sl TR.int))).vrep S v0 x0) (f1 : FuncId) (c1 : Array Value) (t1 : Fit Try.prog f1) (g1 : (List Int) → Option Bool) (k1 : ∀ (U : Hp) (w' : World), Hp.le S U → U.sub w' → ∀ (u0 : Value) (a0 : (List Int)) (_ : ((TR.sl TR.int)).vrep U u0 a0) (rr : Bool), g1 a0 = some rr → Calls Try.prog f1 (#[u0] ++ c1) w' (PostV w' (.bool rr))) (res : Int) (hm : slices_IndexFunc_rows_m x0 g1 = some res) : Calls Try.prog 109 #[v0, .func (.func f1) #[] c1] w (PostV w (.int .i64 res)) := by
 refine calls_enter 19 Try.func109 Try.ntmps109 rfl S false [(0, v0), (1, .func (.func f1) #[] c1)] [imm (TR.sl (TR.sl TR.int)) v0 x0] rfl ⟨rfl, ⟨rfl, trivial⟩⟩ hS ⟨k0, trivial⟩ ?_
 unfold slices_IndexFunc_rows_m at hm
 refine GL.seq ?_
 refine GL.region ?_
 refine RL.asg rfl rfl rfl ?_
 refine RL.finG ?_
 refine GL.seq ?_
 refine GL.seq ?_
 refine GL.region ?_
 refine RL.mv rfl rfl rfl ?_
 refine RL.lenS 0 Try.underlying37 rfl rfl rfl rfl SlOf.imm ?_
 refine RL.mv rfl rfl rfl ?_
 refine RL.finG ?_
 refine GL.open_ 0 rfl (fun S h => len_imm S h) (fun n14 => ?_)
 obtain ⟨y15, K16, h17, h18, h19, h20, h21⟩ := bindR_K hm
 refine GL.join (ι := Unit) (fun (p : Unit) => []) (fun (p : Unit) => []) (fun (p : Unit) => K16 (.nx ())) ?_ ?_
 ·refine GL.block ?_
  refine GL.loop (ι := Nat × (List (List Int))) (fun (p : Nat × (List (List Int))) => [(0, v0), (1, .func (.func f1) #[] c1), (7, .int .i64 ((x0).length : Int)), (8, .int .i64 (p.1 : Int))]) (fun (p : Nat × (List (List Int))) => [imm (TR.sl (TR.sl TR.int)) v0 x0]) (fun (p : Nat × (List (List Int))) => p.1 + p.2.length = (x0).length ∧ List.drop p.1 x0 = p.2 ∧ rangeL (slices_IndexFunc_rows_b1 g1) p.2 p.1 () = some y15) (fun (p : Nat × (List (List Int))) => p.2.length) (0, x0) ⟨by simp, by simp, h17⟩ (fun a w st => St.cut [0] ⟨rfl, rfl, rfl, rfl, trivial⟩ (by decide) rfl st) ?_
  rintro ⟨i22, r23⟩ ⟨h28, h29, h27⟩
  try dsimp only at h28 h29 h27
  refine GL.weak (env' := [(0, v0), (1, .func (.func f1) #[] c1), (7, .int .i64 ((x0).length : Int)), (8, .int .i64 (i22 : Int))]) (L' := [imm (TR.sl (TR.sl TR.int)) v0 x0]) (fun _ _ st => st) ?_
  refine GL.seq ?_
  refine GL.region ?_
  refine RL.binI (v := .bool (decide ((i22 : Int) < ((x0).length : Int)))) rfl rfl rfl rfl rfl ?_
  refine RL.finG ?_
  refine GL.seq ?_
  refine GL.cond rfl (fun b30 => ?_) (fun b30 => ?_)
  ·have h31 : i22 < (x0).length := by have := of_decide_eq_true b30; omega
   obtain ⟨y32, r34, hr, e33, h35⟩ := drop_cons h29 rfl h31
   subst hr
   obtain ⟨z24, h25, h26⟩ := rangeL_some h27
   unfold slices_IndexFunc_rows_b1 at h25
   try dsimp only at h25
   refine GL.skip ?_
   refine GL.seq ?_
   refine GL.block ?_
   refine GL.seq ?_
   refine GL.region ?_
   refine RL.mv rfl rfl rfl ?_
   refine RL.asg rfl rfl rfl ?_
   refine RL.finG ?_
   refine GL.seq ?_
   refine GL.region ?_
   refine RL.mv rfl rfl rfl ?_
   refine RL.mv rfl rfl rfl ?_
   refine RL.mv rfl rfl rfl ?_
   refine RL.idxS (sz := 1) 0 Try.underlying37 Try_ln24 rfl rfl rfl rfl rfl SlOf.imm (by omega) (by omega) ?_
   refine RL.ldS (i := i22) (r := (TR.sl TR.int)) (e' := y32) 0 Try_ln24 rfl rfl rfl rfl SlOf.imm e33 Part.self ?_
   intro v39
   obtain ⟨y40, e41, h25⟩ := bind_some h25
   refine RL.callV (v := .bool y40) (vs := [v39]) t1 rfl (Or.inl rfl) rfl rfl rfl rfl (fun U w hU hW hL => k1 U w hW hU _ _ (hL 1 _ _ rfl Seen.imm) _ e41) ?_
   refine RL.finG ?_
   refine GL.cond rfl (fun b42 => ?_) (fun b42 => ?_)
   ·replace h25 := ite_t b42 h25
    refine GL.seq ?_
    refine GL.region ?_
    refine RL.mv rfl rfl rfl ?_
    refine RL.asg rfl rfl rfl ?_
    refine RL.finG ?_
    cases h25
    replace h26 : some (Fl.rt _) = some y15 := h26
    cases h26
    have hh := h20 _ h18
    subst hh
    exact GL.ret (Gx.ret (v := .int .i64 (i22 : Int)) (res1 rfl rfl) (fun a w st => st.toPostV))
   replace h25 := ite_f b42 h25
   refine GL.skip ?_
   refine GL.nilB ?_
   refine GL.region ?_
   refine RL.binI (v := .int .i64 ((i22 + 1 : Nat) : Int)) rfl rfl rfl rfl (binI_succ i22 (by omega)) ?_
   refine RL.mv rfl rfl rfl ?_
   refine RL.fin ?_
   cases h25
   exact fun a w st => lop_intro (i22 + 1, r34) ⟨by show i22 + 1 + r34.length = (x0).length; simp only [List.length_cons] at h28; omega, h35, h26⟩ (by simp) (St.cut [0] ⟨rfl, rfl, rfl, rfl, trivial⟩ (by decide) rfl st)
  have h31 : ¬ i22 < (x0).length := by have := of_decide_eq_false b30; omega
  obtain rfl : r23 = [] := by rw [← h29]; exact List.drop_of_length_le (by omega)
  replace h27 : some (Fl.nx _) = some y15 := h27
  cases h27
  exact GL.exit (fun a w st => mid_intro () h18 (St.cut [] trivial (by decide) rfl st))
 rintro ⟨⟩ h43
 have h44 := h19 _ h43
 try dsimp only at h44
 refine GL.weak (env' := []) (L' := []) (fun _ _ st => st) ?_
 refine GL.seq ?_
 refine GL.region ?_
 refine RL.asg rfl rfl rfl ?_
 refine RL.finG ?_
 have h44 := Option.some.inj h44
 subst h44
 exact GL.ret (Gx.ret (v := .int .i64 (-1 : Int)) (res1 rfl rfl) (fun a w st => st.toPostV))

set_option maxHeartbeats 4000000 in
theorem slices_ContainsFunc_rows_c (S : Hp) (w : World) (hS : S.sub w) (v0 : Value) (x0 : (List (List Int))) (k0 : ((TR.sl (TR.sl TR.int))).vrep S v0 x0) (f1 : FuncId) (c1 : Array Value) (t1 : Fit Try.prog f1) (g1 : (List Int) → Option Bool) (k1 : ∀ (U : Hp) (w' : World), Hp.le S U → U.sub w' → ∀ (u0 : Value) (a0 : (List Int)) (_ : ((TR.sl TR.int)).vrep U u0 a0) (rr : Bool), g1 a0 = some rr → Calls Try.prog f1 (#[u0] ++ c1) w' (PostV w' (.bool rr))) (res : Bool) (hm : slices_ContainsFunc_rows_m x0 g1 = some res) : Calls Try.prog 49 #[v0, .func (.func f1) #[] c1] w (PostV w (.bool res)) := by
 refine calls_enter 9 Try.func49 Try.ntmps49 rfl S false [(0, v0), (1, .func (.func f1) #[] c1)] [imm (TR.sl (TR.sl TR.int)) v0 x0] rfl ⟨rfl, ⟨rfl, trivial⟩⟩ hS ⟨k0, trivial⟩ ?_
 unfold slices_ContainsFunc_rows_m at hm
 refine GL.seq ?_
 refine GL.region ?_
 refine RL.asg rfl rfl rfl ?_
 refine RL.finG ?_
 refine GL.seq ?_
 refine GL.region ?_
 refine RL.mv rfl rfl rfl ?_
 refine RL.mv rfl rfl rfl ?_
 obtain ⟨y5, e6, hm⟩ := bind_some hm
 refine RL.callV (v := .int .i64 y5) (vs := [v0, .func (.func f1) #[] c1]) Try_fit109 rfl (Or.inl rfl) rfl rfl rfl rfl (fun U w hU hW hL => slices_IndexFunc_rows_c U w hU _ _ (hL 0 _ _ rfl Seen.imm) f1 c1 t1 g1 (fun U' w' hle => k1 U' w' (Hp.le_trans hW hle)) _ e6) ?_
 refine RL.binI (v := .bool (decide (y5 ≥ (0 : Int)))) rfl rfl rfl rfl rfl ?_
 refine RL.asg rfl rfl rfl ?_
 refine RL.finG ?_
 have hm := Option.some.inj hm
 subst hm
 exact GL.ret (Gx.ret (v := .bool (decide (y5 ≥ (0 : Int)))) (res1 rfl rfl) (fun a w st => st.toPostV))

set_option maxHeartbeats 4000000 in
theorem slices_Contains_int_int_c (S : Hp) (w : World) (hS : S.sub w) (v0 : Value) (x0 : (List Int)) (k0 : ((TR.sl TR.int)).vrep S v0 x0) (x1 : Int) (res : Bool) (hm : slices_Contains_int_int_m x0 x1 = some res) : Calls Try.prog 25 #[v0, .int .i64 x1] w (PostC w (.bool res)) := by
 refine calls_enter 9 Try.func25 Try.ntmps25 rfl S true [(0, v0), (1, .int .i64 x1)] [imm (TR.sl TR.int) v0 x0] rfl ⟨rfl, ⟨rfl, trivial⟩⟩ hS ⟨k0, trivial⟩ ?_
 unfold slices_Contains_int_int_m at hm
 refine GL.seq ?_
 refine GL.region ?_
 refine RL.asg rfl rfl rfl ?_
 refine RL.finG ?_
 refine GL.seq ?_
 refine GL.region ?_
 refine RL.mv rfl rfl rfl ?_
 refine RL.mv rfl rfl rfl ?_
 obtain ⟨y5, e6, hm⟩ := bind_some hm
 refine RL.callC (v := .int .i64 y5) (vs := [v0, .int .i64 x1]) Try_fit85 rfl rfl rfl rfl (fun U w hU hW hL => slices_Index_int_int_c U w hU _ _ (hL 0 _ _ rfl Seen.imm) x1 _ e6) ?_
 refine RL.binI (v := .bool (decide (y5 ≥ (0 : Int)))) rfl rfl rfl rfl rfl ?_
 refine RL.asg rfl rfl rfl ?_
 refine RL.finG ?_
 have hm := Option.some.inj hm
 subst hm
 exact GL.ret (Gx.ret (v := .bool (decide (y5 ≥ (0 : Int)))) (res1 rfl rfl) (fun a w st => st.toPostC rfl))

set_option maxHeartbeats 4000000 in
theorem pk_VotesOwn_1_c (S : Hp) (w : World) (hS : S.sub w) (v0 : Value) (x0 : (List Int)) (k0 : ((TR.sl TR.int)).vrep S v0 x0) (res : Bool) (hm : pk_VotesOwn_1_m x0 = some res) : Calls Try.prog 50 #[v0] w (PostC w (.bool res)) := by
 refine calls_enter 5 Try.func50 Try.ntmps50 rfl S true [(0, v0)] [imm (TR.sl TR.int) v0 x0] rfl ⟨rfl, trivial⟩ hS ⟨k0, trivial⟩ ?_
 unfold pk_VotesOwn_1_m at hm
 refine GL.seq ?_
 refine GL.region ?_
 refine RL.asg rfl rfl rfl ?_
 refine RL.finG ?_
 refine GL.seq ?_
 refine GL.region ?_
 refine RL.mv rfl rfl rfl ?_
 obtain ⟨y4, e5, hm⟩ := bind_some hm
 refine RL.callC (v := .bool y4) (vs := [v0, .int .i64 (-7 : Int)]) Try_fit25 rfl rfl rfl rfl (fun U w hU hW hL => slices_Contains_int_int_c U w hU _ _ (hL 0 _ _ rfl Seen.imm) (-7 : Int) _ e5) ?_
 refine RL.asg rfl rfl rfl ?_
 refine RL.finG ?_
 have hm := Option.some.inj hm
 subst hm
 exact GL.ret (Gx.ret (v := .bool y4) (res1 rfl rfl) (fun a w st => st.toPostC rfl))

set_option maxHeartbeats 4000000 in
theorem pk_VotesOwn_c (S : Hp) (w : World) (hS : S.sub w) (x0 : Int) (v1 : Value) (x1 : (List Int)) (k1 : ((TR.sl TR.int)).vrep S v1 x1) (v2 : Value) (x2 : (List (List Int))) (k2 : ((TR.sl (TR.sl TR.int))).vrep S v2 x2) (x3 : Int) (res : Bool) (hm : pk_VotesOwn_m x0 x1 x2 x3 = some res) : Calls Try.prog 8 #[.int .i64 x0, v1, v2, .int .i64 x3] w (PostV w (.bool res)) := by
 refine calls_enter 126 Try.func8 Try.ntmps8 rfl S false [(0, .int .i64 x0), (1, v1), (2, v2), (3, .int .i64 x3)] [imm (TR.sl TR.int) v1 x1, imm (TR.sl (TR.sl TR.int)) v2 x2] rfl ⟨rfl, ⟨rfl, ⟨rfl, ⟨rfl, trivial⟩⟩⟩⟩ hS ⟨k1, ⟨k2, trivial⟩⟩ ?_
 unfold pk_VotesOwn_m at hm
 refine GL.seq ?_
 refine GL.region ?_
 refine RL.asg rfl rfl rfl ?_
 refine RL.finG ?_
 refine GL.seq ?_
 refine GL.seq ?_
 obtain ⟨y28, K29, h30, h31, h32, h33, h34⟩ := bindR_K hm
 refine GL.join (ι := Bool) (fun (p : Bool) => [(0, .int .i64 x0), (1, v1), (2, v2), (3, .int .i64 x3), (40, .bool p)]) (fun (p : Bool) => [imm (TR.sl TR.int) v1 x1, imm (TR.sl (TR.sl TR.int)) v2 x2]) (fun (p : Bool) => K29 (.nx p)) ?_ ?_
 ·skip
  refine GL.region ?_
  obtain ⟨y35, e36, h30⟩ := bind_some h30
  refine RL.callV (v := .bool y35) (vs := []) Try_fit40 rfl (Or.inl rfl) rfl rfl rfl rfl (fun U w hU hW hL => pk_orders_c U w hU  _ e36) ?_
  refine RL.notB rfl rfl rfl ?_
  refine RL.mv rfl rfl rfl ?_
  refine RL.split (t := 29) rfl (fun b37 => ?_) (fun b37 => ?_)
  ·replace h30 := ite_t b37 h30
   refine RL.skip rfl rfl ?_
   refine RL.skip rfl rfl ?_
   refine RL.pickT rfl rfl rfl rfl ?_
   refine RL.mv rfl rfl rfl ?_
   refine RL.skip rfl rfl ?_
   refine RL.skip rfl rfl ?_
   refine RL.pickT rfl rfl rfl rfl ?_
   refine RL.mv rfl rfl rfl ?_
   refine RL.skip rfl rfl ?_
   refine RL.skip rfl rfl ?_
   refine RL.pickT rfl rfl rfl rfl ?_
   refine RL.fin ?_
   cases h30
   exact fun a w st => mid_intro true h31 (St.cut [0, 1] ⟨rfl, rfl, rfl, rfl, rfl, trivial⟩ (by decide) rfl st)
  replace h30 := ite_f b37 h30
  obtain ⟨y38, e39, h30⟩ := bind_some h30
  refine RL.callV (v := .bool y38) (vs := []) Try_fit41 rfl (Or.inl rfl) rfl rfl rfl rfl (fun U w hU hW hL => pk_tallies_c U w hU  _ e39) ?_
  refine RL.notB rfl rfl rfl ?_
  refine RL.pickF rfl rfl rfl rfl ?_
  refine RL.mv rfl rfl rfl ?_
  refine RL.split (t := 33) rfl (fun b40 => ?_) (fun b40 => ?_)
  ·replace h30 := ite_t b40 h30
   refine RL.skip rfl rfl ?_
   refine RL.skip rfl rfl ?_
   refine RL.pickT rfl rfl rfl rfl ?_
   refine RL.mv rfl rfl rfl ?_
   refine RL.skip rfl rfl ?_
   refine RL.skip rfl rfl ?_
   refine RL.pickT rfl rfl rfl rfl ?_
   refine RL.fin ?_
   cases h30
   exact fun a w st => mid_intro true h31 (St.cut [0, 1] ⟨rfl, rfl, rfl, rfl, rfl, trivial⟩ (by decide) rfl st)
  replace h30 := ite_f b40 h30
  obtain ⟨y41, e42, h30⟩ := bind_some h30
  refine RL.callV (v := .bool y41) (vs := []) Try_fit42 rfl (Or.inl rfl) rfl rfl rfl rfl (fun U w hU hW hL => pk_duels_c U w hU  _ e42) ?_
  refine RL.notB rfl rfl rfl ?_
  refine RL.pickF rfl rfl rfl rfl ?_
  refine RL.mv rfl rfl rfl ?_
  refine RL.split (t := 37) rfl (fun b43 => ?_) (fun b43 => ?_)
  ·replace h30 := ite_t b43 h30
   refine RL.skip rfl rfl ?_
   refine RL.skip rfl rfl ?_
   refine RL.pickT rfl rfl rfl rfl ?_
   refine RL.fin ?_
   cases h30
   exact fun a w st => mid_intro true h31 (St.cut [0, 1] ⟨rfl, rfl, rfl, rfl, rfl, trivial⟩ (by decide) rfl st)
  replace h30 := ite_f b43 h30
  obtain ⟨y44, e45, h30⟩ := bind_some h30
  refine RL.callV (v := .bool y44) (vs := []) Try_fit43 rfl (Or.inl rfl) rfl rfl rfl rfl (fun U w hU hW hL => pk_winners_c U w hU  _ e45) ?_
  refine RL.notB rfl rfl rfl ?_
  refine RL.pickF rfl rfl rfl rfl ?_
  refine RL.fin ?_
  cases h30
  exact fun a w st => mid_intro (!y44) h31 (St.cut [0, 1] ⟨rfl, rfl, rfl, rfl, rfl, trivial⟩ (by decide) rfl st)
 rintro x27 h46
 have h47 := h32 _ h46
 try dsimp only at h47
 refine GL.weak (env' := [(0, .int .i64 x0), (1, v1), (2, v2), (3, .int .i64 x3), (40, .bool x27)]) (L' := [imm (TR.sl TR.int) v1 x1, imm (TR.sl (TR.sl TR.int)) v2 x2]) (fun _ _ st => st) ?_
 refine GL.cond rfl (fun b48 => ?_) (fun b48 => ?_)
 ·replace h47 := ite_t b48 h47
  refine GL.seq ?_
  refine GL.region ?_
  refine RL.asg rfl rfl rfl ?_
  refine RL.finG ?_
  have h47 := Option.some.inj h47
  subst h47
  exact GL.ret (Gx.ret (v := .bool false) (res1 rfl rfl) (fun a w st => st.toPostV))
 replace h47 := ite_f b48 h47
 refine GL.skip ?_
 refine GL.seq ?_
 refine GL.region ?_
 refine RL.mv rfl rfl rfl ?_
 obtain ⟨y55, e56, h47⟩ := bind_some h47
 refine RL.call (vs := [v1]) Try_fit18 rfl rfl rfl rfl rfl (fun S f w hS hW hi => slices_Clone_int_int_c S w hS _ _ (hi 0 _ rfl) _ e56) ?_
 intro v57
 refine RL.mv rfl rfl rfl ?_
 obtain ⟨y58, e59, h47⟩ := bind_some h47
 refine RL.call (vs := [v2]) Try_fit33 rfl rfl rfl rfl rfl (fun S f w hS hW hi => pk_copied_c S w hS _ _ (hi 1 _ rfl) _ e59) ?_
 intro v60
 refine RL.reL (L' := [imm (TR.sl TR.int) v1 x1, imm (TR.sl (TR.sl TR.int)) v2 x2, own 3 TR.int v57 y55, own 24 (TR.sl TR.int) v60 y58]) rfl ?_
 refine RL.asg rfl rfl rfl ?_
 refine RL.asg rfl rfl rfl ?_
 refine RL.finG ?_
 refine GL.seq ?_
 refine GL.region ?_
 refine RL.mv rfl rfl rfl ?_
 refine RL.mv rfl rfl rfl ?_
 obtain ⟨y64, e65, h47⟩ := bind_some h47
 refine RL.call (vs := [v1, .int .i64 x3]) Try_fit44 rfl rfl rfl rfl rfl (fun S f w hS hW hi => order_Raise_c S w hS _ _ (hi 0 _ rfl) x3 _ e65) ?_
 intro v66
 refine RL.mv rfl rfl rfl ?_
 refine RL.ext rfl rfl rfl rfl ?_
 refine RL.ext rfl rfl rfl rfl ?_
 refine RL.asg rfl rfl rfl ?_
 refine RL.asg rfl rfl rfl ?_
 refine RL.finG ?_
 refine GL.seq ?_
 refine GL.region ?_
 refine RL.mv rfl rfl rfl ?_
 obtain ⟨y69, e70, h47⟩ := bind_some h47
 refine RL.callK (vs := [v66, .int .i64 (-7 : Int)]) (V := fun (o : Unit) => .tuple #[]) (LR := fun (o : Unit) => [own 3 TR.int v66 y69]) (Ls := [own 3 TR.int v66 y64.1]) [4] (by decide) Try_fit21 rfl rfl rfl rfl rfl rfl (fun S f X w hO hB hW hI hL => pk_spoil_int_c _ S X f w _ _  hO hB hI (-7 : Int) _ e70) ?_
 intro _
 refine RL.reL (L' := [imm (TR.sl TR.int) v1 x1, imm (TR.sl (TR.sl TR.int)) v2 x2, own 3 TR.int v57 y55, own 24 (TR.sl TR.int) v60 y58, gone, own 3 TR.int v66 y69]) rfl ?_
 refine RL.finG ?_
 refine GL.seq ?_
 refine GL.region ?_
 refine RL.mv rfl rfl rfl ?_
 refine RL.mv rfl rfl rfl ?_
 obtain ⟨y75, e76, h47⟩ := bind_some h47
 refine RL.call (vs := [.int .i64 x0, v2]) Try_fit45 rfl rfl rfl rfl rfl (fun S f w hS hW hi => tally_Duels_c S w hS x0 _ _ (hi 1 _ rfl) _ e76) ?_
 intro ⟨v77, V78⟩
 refine RL.mv rfl rfl rfl ?_
 refine RL.ext rfl rfl rfl rfl ?_
 refine RL.ext rfl rfl rfl rfl ?_
 refine RL.asg rfl rfl rfl ?_
 refine RL.asg rfl rfl rfl ?_
 refine RL.finG ?_
 refine GL.seq ?_
 refine GL.seq ?_
 refine GL.region ?_
 refine RL.mv rfl rfl rfl ?_
 refine RL.lenR 6 Try.underlying37 rfl rfl rfl rfl ?_
 refine RL.mv rfl rfl rfl ?_
 refine RL.finG ?_
 refine GL.lenR 6 rfl (fun n97 => ?_)
 obtain ⟨y98, K99, h100, h101, h102, h103, h104⟩ := bindR_K h47
 refine GL.join (ι := (List (List Int))) (fun (p : (List (List Int))) => [(0, .int .i64 x0), (1, v1), (2, v2), (3, .int .i64 x3), (9, v57), (10, v60), (14, .int .i64 y75.2)]) (fun (p : (List (List Int))) => [imm (TR.sl TR.int) v1 x1, imm (TR.sl (TR.sl TR.int)) v2 x2, own 3 TR.int v57 y55, own 24 (TR.sl TR.int) v60 y58]) (fun (p : (List (List Int))) => K99 (.nx p)) ?_ ?_
 ·refine GL.block ?_
  refine GL.loop (ι := Nat × Nat × (List (List Int)) × (List Value)) (fun (p : Nat × Nat × (List (List Int)) × (List Value)) => [(0, .int .i64 x0), (1, v1), (2, v2), (3, .int .i64 x3), (9, v57), (10, v60), (14, .int .i64 y75.2), (59, v77), (60, .int .i64 ((y75.1).length : Int)), (61, .int .i64 (p.1 : Int))]) (fun (p : Nat × Nat × (List (List Int)) × (List Value)) => [imm (TR.sl TR.int) v1 x1, imm (TR.sl (TR.sl TR.int)) v2 x2, own 3 TR.int v57 y55, own 24 (TR.sl TR.int) v60 y58, own2 24 3 TR.int v77 p.2.2.2 p.2.2.1]) (fun (p : Nat × Nat × (List (List Int)) × (List Value)) => p.1 + p.2.1 = (y75.1).length ∧ rangeN pk_VotesOwn_b1 p.2.1 p.1 p.2.2.1 = some y98) (fun (p : Nat × Nat × (List (List Int)) × (List Value)) => p.2.1) (0, (y75.1).length, y75.1, V78) ⟨by simp, h100⟩ (fun a w st => St.cut [0, 1, 2, 3, 6] ⟨rfl, rfl, rfl, rfl, rfl, rfl, rfl, rfl, rfl, rfl, trivial⟩ (by decide) rfl st) ?_
  rintro ⟨i105, r106, l87, V88⟩ ⟨h111, h110⟩
  try dsimp only at h111 h110
  refine GL.weak (env' := [(0, .int .i64 x0), (1, v1), (2, v2), (3, .int .i64 x3), (9, v57), (10, v60), (14, .int .i64 y75.2), (59, v77), (60, .int .i64 ((y75.1).length : Int)), (61, .int .i64 (i105 : Int))]) (L' := [imm (TR.sl TR.int) v1 x1, imm (TR.sl (TR.sl TR.int)) v2 x2, own 3 TR.int v57 y55, own 24 (TR.sl TR.int) v60 y58, own2 24 3 TR.int v77 V88 l87]) (fun _ _ st => st) ?_
  refine GL.seq ?_
  refine GL.region ?_
  refine RL.binI (v := .bool (decide ((i105 : Int) < ((y75.1).length : Int)))) rfl rfl rfl rfl rfl ?_
  refine RL.finG ?_
  refine GL.seq ?_
  refine GL.cond rfl (fun b113 => ?_) (fun b113 => ?_)
  ·have h114 : i105 < (y75.1).length := by have := of_decide_eq_true b113; omega
   obtain ⟨r115, hr⟩ : ∃ m, r106 = m + 1 := ⟨r106 - 1, by omega⟩
   subst hr
   obtain ⟨z107, h108, h109⟩ := rangeN_some h110
   unfold pk_VotesOwn_b1 at h108
   try dsimp only at h108
   refine GL.skip ?_
   refine GL.seq ?_
   refine GL.block ?_
   refine GL.seq ?_
   refine GL.region ?_
   obtain ⟨y118, e119, h108⟩ := bind_some h108
   refine RL.idxR 4 Try.underlying37 Try_ln24 rfl rfl rfl rfl rfl (idx_some e119).1 (idx_some e119).2.1 ?_
   refine RL.ldR (i := i105) (r := y118) 4 Try_ln24 rfl rfl rfl rfl (idx_some e119).2.2 ?_
   refine RL.asg rfl rfl rfl ?_
   refine RL.finG ?_
   refine GL.region ?_
   refine RL.mv rfl rfl rfl ?_
   refine RL.weak (fun a w st => st.takeRow 4 rfl (idx_some e119).2.2) ?_
   refine RL.reL (L' := [imm (TR.sl TR.int) v1 x1, imm (TR.sl (TR.sl TR.int)) v2 x2, own 3 TR.int v57 y55, own 24 (TR.sl TR.int) v60 y58, own2x i105 24 3 TR.int v77 V88 l87, own 3 TR.int (rowv V88 i105) y118]) rfl ?_
   obtain ⟨y122, e123, h108⟩ := bind_some h108
   refine RL.callK (vs := [rowv V88 i105, .int .i64 (-7 : Int)]) (V := fun (o : Unit) => .tuple #[]) (LR := fun (o : Unit) => [own 3 TR.int (rowv V88 i105) y122]) (Ls := [own 3 TR.int (rowv V88 i105) y118]) [5] (by decide) Try_fit21 rfl rfl rfl rfl rfl rfl (fun S f X w hO hB hW hI hL => pk_spoil_int_c _ S X f w _ _  hO hB hI (-7 : Int) _ e123) ?_
   intro _
   refine RL.weak (fun a w st => st.putRow 4 6 (by decide) rfl rfl (idx_some e119).2.2) ?_
   refine RL.reL (L' := [imm (TR.sl TR.int) v1 x1, imm (TR.sl (TR.sl TR.int)) v2 x2, own 3 TR.int v57 y55, own 24 (TR.sl TR.int) v60 y58, own2 24 3 TR.int v77 V88 (List.set l87 i105 y122), gone, gone]) rfl ?_
   refine RL.finG ?_
   refine GL.nilB ?_
   refine GL.region ?_
   refine RL.binI (v := .int .i64 ((i105 + 1 : Nat) : Int)) rfl rfl rfl rfl (binI_succ i105 (by omega)) ?_
   refine RL.mv rfl rfl rfl ?_
   refine RL.fin ?_
   cases h108
   exact fun a w st => lop_intro (i105 + 1, r115, (List.set l87 i105 y122), V88) ⟨by show i105 + 1 + r115 = (y75.1).length; omega, h109⟩ (by simp) (St.cut [0, 1, 2, 3, 4] ⟨rfl, rfl, rfl, rfl, rfl, rfl, rfl, rfl, rfl, rfl, trivial⟩ (by decide) rfl st)
  have h114 : ¬ i105 < (y75.1).length := by have := of_decide_eq_false b113; omega
  obtain rfl : r106 = 0 := by omega
  replace h110 : some (Fl.nx _) = some y98 := h110
  cases h110
  exact GL.exit (fun a w st => mid_intro l87 h101 (St.cut [0, 1, 2, 3] ⟨rfl, rfl, rfl, rfl, rfl, rfl, rfl, trivial⟩ (by decide) rfl st))
 rintro l87 h124
 have h125 := h102 _ h124
 try dsimp only at h125
 refine GL.weak (env' := [(0, .int .i64 x0), (1, v1), (2, v2), (3, .int .i64 x3), (9, v57), (10, v60), (14, .int .i64 y75.2)]) (L' := [imm (TR.sl TR.int) v1 x1, imm (TR.sl (TR.sl TR.int)) v2 x2, own 3 TR.int v57 y55, own 24 (TR.sl TR.int) v60 y58]) (fun _ _ st => st) ?_
 refine GL.seq ?_
 refine GL.region ?_
 refine RL.mv rfl rfl rfl ?_
 refine RL.mv rfl rfl rfl ?_
 obtain ⟨y129, e130, h125⟩ := bind_some h125
 refine RL.call (vs := [.int .i64 x0, v2]) Try_fit46 rfl rfl rfl rfl rfl (fun S f w hS hW hi => tally_Firsts_c S w hS x0 _ _ (hi 1 _ rfl) _ e130) ?_
 intro v131
 refine RL.mv rfl rfl rfl ?_
 refine RL.ext rfl rfl rfl rfl ?_
 refine RL.ext rfl rfl rfl rfl ?_
 refine RL.asg rfl rfl rfl ?_
 refine RL.asg rfl rfl rfl ?_
 refine RL.finG ?_
 refine GL.seq ?_
 refine GL.region ?_
 refine RL.mv rfl rfl rfl ?_
 obtain ⟨y134, e135, h125⟩ := bind_some h125
 refine RL.callK (vs := [v131, .int .i64 (-7 : Int)]) (V := fun (o : Unit) => .tuple #[]) (LR := fun (o : Unit) => [own 3 TR.int v131 y134]) (Ls := [own 3 TR.int v131 y129.1]) [4] (by decide) Try_fit21 rfl rfl rfl rfl rfl rfl (fun S f X w hO hB hW hI hL => pk_spoil_int_c _ S X f w _ _  hO hB hI (-7 : Int) _ e135) ?_
 intro _
 refine RL.reL (L' := [imm (TR.sl TR.int) v1 x1, imm (TR.sl (TR.sl TR.int)) v2 x2, own 3 TR.int v57 y55, own 24 (TR.sl TR.int) v60 y58, gone, own 3 TR.int v131 y134]) rfl ?_
 refine RL.finG ?_
 refine GL.seq ?_
 refine GL.region ?_
 refine RL.mv rfl rfl rfl ?_
 obtain ⟨y141, e142, h125⟩ := bind_some h125
 refine RL.callC (v := .int .i64 y141) (vs := [.int .i64 x3, .int .i64 (5 : Int)]) Try_fit12 rfl rfl rfl rfl (fun U w hU hW hL => pk_Within_c U w hU x3 (5 : Int) _ e142) ?_
 refine RL.binI (v := .int .i64 (wadd (1 : Int) y141)) rfl rfl rfl rfl rfl ?_
 refine RL.mv rfl rfl rfl ?_
 refine RL.mv rfl rfl rfl ?_
 obtain ⟨y143, e144, h125⟩ := bind_some h125
 refine RL.call (vs := [.int .i64 (wadd (1 : Int) y141), .int .i64 x0, v2]) Try_fit47 rfl rfl rfl rfl rfl (fun S f w hS hW hi => rules_Winners_c S w hS (wadd (1 : Int) y141) x0 _ _ (hi 1 _ rfl) _ e144) ?_
 intro v145
 refine RL.mv rfl rfl rfl ?_
 refine RL.ext rfl rfl rfl rfl ?_
 refine RL.ext rfl rfl rfl rfl ?_
 refine RL.asg rfl rfl rfl ?_
 refine RL.asg rfl rfl rfl ?_
 refine RL.finG ?_
 refine GL.seq ?_
 refine GL.region ?_
 refine RL.mv rfl rfl rfl ?_
 obtain ⟨y148, e149, h125⟩ := bind_some h125
 refine RL.callK (vs := [v145, .int .i64 (-7 : Int)]) (V := fun (o : Unit) => .tuple #[]) (LR := fun (o : Unit) => [own 3 TR.int v145 y148]) (Ls := [own 3 TR.int v145 y143.1]) [6] (by decide) Try_fit21 rfl rfl rfl rfl rfl rfl (fun S f X w hO hB hW hI hL => pk_spoil_int_c _ S X f w _ _  hO hB hI (-7 : Int) _ e149) ?_
 intro _
 refine RL.reL (L' := [imm (TR.sl TR.int) v1 x1, imm (TR.sl (TR.sl TR.int)) v2 x2, own 3 TR.int v57 y55, own 24 (TR.sl TR.int) v60 y58, gone, own 3 TR.int v131 y134, gone, own 3 TR.int v145 y148]) rfl ?_
 refine RL.finG ?_
 refine GL.seq ?_
 refine GL.region ?_
 refine RL.mv rfl rfl rfl ?_
 refine RL.mv rfl rfl rfl ?_
 obtain ⟨y154, e155, h125⟩ := bind_some h125
 refine RL.call (vs := [.int .i64 x0, v2]) Try_fit48 rfl rfl rfl rfl rfl (fun S f w hS hW hi => duel_Votes_c S w hS x0 _ _ (hi 1 _ rfl) _ e155) ?_
 intro ⟨v156, V157⟩
 refine RL.mv rfl rfl rfl ?_
 refine RL.ext rfl rfl rfl rfl ?_
 refine RL.ext rfl rfl rfl rfl ?_
 refine RL.asg rfl rfl rfl ?_
 refine RL.asg rfl rfl rfl ?_
 refine RL.finG ?_
 refine GL.seq ?_
 refine GL.seq ?_
 refine GL.region ?_
 refine RL.mv rfl rfl rfl ?_
 refine RL.lenR 8 Try.underlying37 rfl rfl rfl rfl ?_
 refine RL.mv rfl rfl rfl ?_
 refine RL.finG ?_
 refine GL.lenR 8 rfl (fun n176 => ?_)
 obtain ⟨y177, K178, h179, h180, h181, h182, h183⟩ := bindR_K h125
 refine GL.join (ι := (List (List Int))) (fun (p : (List (List Int))) => [(0, .int .i64 x0), (1, v1), (2, v2), (9, v57), (10, v60), (14, .int .i64 y75.2)]) (fun (p : (List (List Int))) => [imm (TR.sl TR.int) v1 x1, imm (TR.sl (TR.sl TR.int)) v2 x2, own 3 TR.int v57 y55, own 24 (TR.sl TR.int) v60 y58]) (fun (p : (List (List Int))) => K178 (.nx p)) ?_ ?_
 ·refine GL.block ?_
  refine GL.loop (ι := Nat × Nat × (List (List Int)) × (List Value)) (fun (p : Nat × Nat × (List (List Int)) × (List Value)) => [(0, .int .i64 x0), (1, v1), (2, v2), (9, v57), (10, v60), (14, .int .i64 y75.2), (93, v156), (94, .int .i64 ((y154.1).length : Int)), (95, .int .i64 (p.1 : Int))]) (fun (p : Nat × Nat × (List (List Int)) × (List Value)) => [imm (TR.sl TR.int) v1 x1, imm (TR.sl (TR.sl TR.int)) v2 x2, own 3 TR.int v57 y55, own 24 (TR.sl TR.int) v60 y58, own2 24 3 TR.int v156 p.2.2.2 p.2.2.1]) (fun (p : Nat × Nat × (List (List Int)) × (List Value)) => p.1 + p.2.1 = (y154.1).length ∧ rangeN pk_VotesOwn_b2 p.2.1 p.1 p.2.2.1 = some y177) (fun (p : Nat × Nat × (List (List Int)) × (List Value)) => p.2.1) (0, (y154.1).length, y154.1, V157) ⟨by simp, h179⟩ (fun a w st => St.cut [0, 1, 2, 3, 8] ⟨rfl, rfl, rfl, rfl, rfl, rfl, rfl, rfl, rfl, trivial⟩ (by decide) rfl st) ?_
  rintro ⟨i184, r185, l166, V167⟩ ⟨h190, h189⟩
  try dsimp only at h190 h189
  refine GL.weak (env' := [(0, .int .i64 x0), (1, v1), (2, v2), (9, v57), (10, v60), (14, .int .i64 y75.2), (93, v156), (94, .int .i64 ((y154.1).length : Int)), (95, .int .i64 (i184 : Int))]) (L' := [imm (TR.sl TR.int) v1 x1, imm (TR.sl (TR.sl TR.int)) v2 x2, own 3 TR.int v57 y55, own 24 (TR.sl TR.int) v60 y58, own2 24 3 TR.int v156 V167 l166]) (fun _ _ st => st) ?_
  refine GL.seq ?_
  refine GL.region ?_
  refine RL.binI (v := .bool (decide ((i184 : Int) < ((y154.1).length : Int)))) rfl rfl rfl rfl rfl ?_
  refine RL.finG ?_
  refine GL.seq ?_
  refine GL.cond rfl (fun b192 => ?_) (fun b192 => ?_)
  ·have h193 : i184 < (y154.1).length := by have := of_decide_eq_true b192; omega
   obtain ⟨r194, hr⟩ : ∃ m, r185 = m + 1 := ⟨r185 - 1, by omega⟩
   subst hr
   obtain ⟨z186, h187, h188⟩ := rangeN_some h189
   unfold pk_VotesOwn_b2 at h187
   try dsimp only at h187
   refine GL.skip ?_
   refine GL.seq ?_
   refine GL.block ?_
   refine GL.seq ?_
   refine GL.region ?_
   obtain ⟨y197, e198, h187⟩ := bind_some h187
   refine RL.idxR 4 Try.underlying37 Try_ln24 rfl rfl rfl rfl rfl (idx_some e198).1 (idx_some e198).2.1 ?_
   refine RL.ldR (i := i184) (r := y197) 4 Try_ln24 rfl rfl rfl rfl (idx_some e198).2.2 ?_
   refine RL.asg rfl rfl rfl ?_
   refine RL.finG ?_
   refine GL.region ?_
   refine RL.mv rfl rfl rfl ?_
   refine RL.weak (fun a w st => st.takeRow 4 rfl (idx_some e198).2.2) ?_
   refine RL.reL (L' := [imm (TR.sl TR.int) v1 x1, imm (TR.sl (TR.sl TR.int)) v2 x2, own 3 TR.int v57 y55, own 24 (TR.sl TR.int) v60 y58, own2x i184 24 3 TR.int v156 V167 l166, own 3 TR.int (rowv V167 i184) y197]) rfl ?_
   obtain ⟨y201, e202, h187⟩ := bind_some h187
   refine RL.callK (vs := [rowv V167 i184, .int .i64 (-7 : Int)]) (V := fun (o : Unit) => .tuple #[]) (LR := fun (o : Unit) => [own 3 TR.int (rowv V167 i184) y201]) (Ls := [own 3 TR.int (rowv V167 i184) y197]) [5] (by decide) Try_fit21 rfl rfl rfl rfl rfl rfl (fun S f X w hO hB hW hI hL => pk_spoil_int_c _ S X f w _ _  hO hB hI (-7 : Int) _ e202) ?_
   intro _
   refine RL.weak (fun a w st => st.putRow 4 6 (by decide) rfl rfl (idx_some e198).2.2) ?_
   refine RL.reL (L' := [imm (TR.sl TR.int) v1 x1, imm (TR.sl (TR.sl TR.int)) v2 x2, own 3 TR.int v57 y55, own 24 (TR.sl TR.int) v60 y58, own2 24 3 TR.int v156 V167 (List.set l166 i184 y201), gone, gone]) rfl ?_
   refine RL.finG ?_
   refine GL.nilB ?_
   refine GL.region ?_
   refine RL.binI (v := .int .i64 ((i184 + 1 : Nat) : Int)) rfl rfl rfl rfl (binI_succ i184 (by omega)) ?_
   refine RL.mv rfl rfl rfl ?_
   refine RL.fin ?_
   cases h187
   exact fun a w st => lop_intro (i184 + 1, r194, (List.set l166 i184 y201), V167) ⟨by show i184 + 1 + r194 = (y154.1).length; omega, h188⟩ (by simp) (St.cut [0, 1, 2, 3, 4] ⟨rfl, rfl, rfl, rfl, rfl, rfl, rfl, rfl, rfl, trivial⟩ (by decide) rfl st)
  have h193 : ¬ i184 < (y154.1).length := by have := of_decide_eq_false b192; omega
  obtain rfl : r185 = 0 := by omega
  replace h189 : some (Fl.nx _) = some y177 := h189
  cases h189
  exact GL.exit (fun a w st => mid_intro l166 h180 (St.cut [0, 1, 2, 3] ⟨rfl, rfl, rfl, rfl, rfl, rfl, trivial⟩ (by decide) rfl st))
 rintro l166 h203
 have h204 := h181 _ h203
 try dsimp only at h204
 refine GL.weak (env' := [(0, .int .i64 x0), (1, v1), (2, v2), (9, v57), (10, v60), (14, .int .i64 y75.2)]) (L' := [imm (TR.sl TR.int) v1 x1, imm (TR.sl (TR.sl TR.int)) v2 x2, own 3 TR.int v57 y55, own 24 (TR.sl TR.int) v60 y58]) (fun _ _ st => st) ?_
 refine GL.seq ?_
 refine GL.region ?_
 refine RL.mv rfl rfl rfl ?_
 refine RL.mv rfl rfl rfl ?_
 obtain ⟨y209, e210, h204⟩ := bind_some h204
 refine RL.call (vs := [.int .i64 x0, v2]) Try_fit45 rfl rfl rfl rfl rfl (fun S f w hS hW hi => tally_Duels_c S w hS x0 _ _ (hi 1 _ rfl) _ e210) ?_
 intro ⟨v211, V212⟩
 refine RL.mv rfl rfl rfl ?_
 refine RL.ext rfl rfl rfl rfl ?_
 refine RL.ext rfl rfl rfl rfl ?_
 refine RL.asg rfl rfl rfl ?_
 refine RL.asg rfl rfl rfl ?_
 refine RL.finG ?_
 refine GL.seq ?_
 obtain ⟨y232, K233, h234, h235, h236, h237, h238⟩ := bindR_K h204
 refine GL.join (ι := Bool) (fun (p : Bool) => [(8, .bool p)]) (fun (p : Bool) => []) (fun (p : Bool) => K233 (.nx p)) ?_ ?_
 ·skip
  refine GL.region ?_
  refine RL.mv rfl rfl rfl ?_
  refine RL.mv rfl rfl rfl ?_
  obtain ⟨y239, e240, h234⟩ := bind_some h234
  refine RL.callV (v := .bool y239) (vs := [v1, v57]) Try_fit22 rfl (Or.inl rfl) rfl rfl rfl rfl (fun U w hU hW hL => slices_Equal_int_int_c U w hU _ _ (hL 0 _ _ rfl Seen.imm) _ _ (hL 2 _ _ rfl Seen.own) _ e240) ?_
  refine RL.mv rfl rfl rfl ?_
  refine RL.split (t := 111) rfl (fun b241 => ?_) (fun b241 => ?_)
  ·replace h234 := ite_t b241 h234
   refine RL.mv rfl rfl rfl ?_
   refine RL.mv rfl rfl rfl ?_
   obtain ⟨y242, e243, h234⟩ := bind_some h234
   refine RL.callV (v := .bool y242) (vs := [v2, v60]) Try_fit39 rfl (Or.inl rfl) rfl rfl rfl rfl (fun U w hU hW hL => pk_sameRows_c U w hU _ _ (hL 1 _ _ rfl Seen.imm) _ _ (hL 3 _ _ rfl Seen.own) _ e243) ?_
   refine RL.pickT rfl rfl rfl rfl ?_
   refine RL.mv rfl rfl rfl ?_
   refine RL.split (t := 116) rfl (fun b244 => ?_) (fun b244 => ?_)
   ·replace h234 := ite_t b244 h234
    refine RL.mv rfl rfl rfl ?_
    refine RL.mv rfl rfl rfl ?_
    refine RL.binI (v := .bool (y75.2 == y209.2)) rfl rfl rfl rfl rfl ?_
    refine RL.pickT rfl rfl rfl rfl ?_
    refine RL.mv rfl rfl rfl ?_
    refine RL.split (t := 121) rfl (fun b245 => ?_) (fun b245 => ?_)
    ·replace h234 := ite_t b245 h234
     refine RL.mv rfl rfl rfl ?_
     obtain ⟨y246, e247, h234⟩ := bind_some h234
     refine RL.callV (v := .bool y246) (vs := [v211, .func (.func 50) #[] #[]]) Try_fit49 rfl (Or.inl rfl) rfl rfl rfl rfl (fun U w hU hW hL => slices_ContainsFunc_rows_c U w hU _ _ (hL 4 _ _ rfl Seen.own2) 50 #[] Try_fit50 (fun a0 => pk_VotesOwn_1_m a0) (fun U' w' hle hU' u0 a0 q0 rr hr => (pk_VotesOwn_1_c U' w' hU' u0 a0 q0 rr hr).mono (fun _ _ z => z.toV)) _ e247) ?_
     refine RL.notB rfl rfl rfl ?_
     refine RL.pickT rfl rfl rfl rfl ?_
     refine RL.asg rfl rfl rfl ?_
     refine RL.fin ?_
     cases h234
     exact fun a w st => mid_intro (!y246) h235 (St.cut [] ⟨rfl, trivial⟩ (by decide) rfl st)
    replace h234 := ite_f b245 h234
    refine RL.skip rfl rfl ?_
    refine RL.skip rfl rfl ?_
    refine RL.skip rfl rfl ?_
    refine RL.pickF rfl rfl rfl rfl ?_
    refine RL.asg rfl rfl rfl ?_
    refine RL.fin ?_
    cases h234
    exact fun a w st => mid_intro false h235 (St.cut [] ⟨rfl, trivial⟩ (by decide) rfl st)
   replace h234 := ite_f b244 h234
   refine RL.skip rfl rfl ?_
   refine RL.skip rfl rfl ?_
   refine RL.skip rfl rfl ?_
   refine RL.pickF rfl rfl rfl rfl ?_
   refine RL.mv rfl rfl rfl ?_
   refine RL.skip rfl rfl ?_
   refine RL.skip rfl rfl ?_
   refine RL.skip rfl rfl ?_
   refine RL.pickF rfl rfl rfl rfl ?_
   refine RL.asg rfl rfl rfl ?_
   refine RL.fin ?_
   cases h234
   exact fun a w st => mid_intro false h235 (St.cut [] ⟨rfl, trivial⟩ (by decide) rfl st)
  replace h234 := ite_f b241 h234
  refine RL.skip rfl rfl ?_
  refine RL.skip rfl rfl ?_
  refine RL.skip rfl rfl ?_
  refine RL.pickF rfl rfl rfl rfl ?_
  refine RL.mv rfl rfl rfl ?_
  refine RL.skip rfl rfl ?_
  refine RL.skip rfl rfl ?_
  refine RL.skip rfl rfl ?_
  refine RL.pickF rfl rfl rfl rfl ?_
  refine RL.mv rfl rfl rfl ?_
  refine RL.skip rfl rfl ?_
  refine RL.skip rfl rfl ?_
  refine RL.skip rfl rfl ?_
  refine RL.pickF rfl rfl rfl rfl ?_
  refine RL.asg rfl rfl rfl ?_
  refine RL.fin ?_
  cases h234
  exact fun a w st => mid_intro false h235 (St.cut [] ⟨rfl, trivial⟩ (by decide) rfl st)
 rintro x231 h248
 have h249 := h236 _ h248
 try dsimp only at h249
 refine GL.weak (env' := [(8, .bool x231)]) (L' := []) (fun _ _ st => st) ?_
 have h249 := Option.some.inj h249
 subst h249
 exact GL.ret (Gx.ret (v := .bool x231) (res1 rfl rfl) (fun a w st => st.toPostV))
end Go.Wk
