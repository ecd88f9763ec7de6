/- Each function comes to what its model says; printed by a program of this repository. -/
import Derived.Test.YtfekdillbgblkaaProg
import Derived.Test.YtfekdillbgblkaaWListsOwnModels
import Derived.Test.YtfekdillbgblkaaWListsOwnWalks2
namespace Go.Wk
open Go.Fw Go.Mo Go.Proofs Go.RowKit
set_option linter.all false
set_option maxRecDepth 100000

set_option maxHeartbeats 4000000 in
theorem pk_ListsOwn_c (S : Hp) (w : World) (hS : S.sub w) (v0 : Value) (x0 : (List Int)) (k0 : ((TR.sl TR.int)).vrep S v0 x0) (x1 : Int) (v2 : Value) (x2 : (List (List Int))) (k2 : ((TR.sl (TR.sl TR.int))).vrep S v2 x2) (v3 : Value) (x3 : (List (Int × Int))) (k3 : ((TR.sl (TR.pair TR.int TR.int))).vrep S v3 x3) (res : Bool) (hm : pk_ListsOwn_m x0 x1 x2 x3 = some res) : Calls Try.prog 9 #[v0, .int .i64 x1, v2, v3] w (PostV w (.bool res)) := by
 refine calls_enter 76 Try.func9 Try.ntmps9 rfl S false [(0, v0), (1, .int .i64 x1), (2, v2), (3, v3)] [imm (TR.sl TR.int) v0 x0, imm (TR.sl (TR.sl TR.int)) v2 x2, imm (TR.sl (TR.pair TR.int TR.int)) v3 x3] rfl ⟨rfl, ⟨rfl, ⟨rfl, ⟨rfl, trivial⟩⟩⟩⟩ hS ⟨k0, ⟨k2, ⟨k3, trivial⟩⟩⟩ ?_
 unfold pk_ListsOwn_m at hm
 refine GL.seq ?_
 refine GL.region ?_
 refine RL.box (t := (TR.sl TR.int)) (e := x0) rfl rfl rfl rfl (VR.item 0 rfl) ?_
 intro v9
 refine RL.box (t := TR.int) (e := x1) rfl rfl rfl rfl VR.int ?_
 intro v10
 refine RL.reL (L' := [imm (TR.sl TR.int) v0 x0, imm (TR.sl (TR.sl TR.int)) v2 x2, imm (TR.sl (TR.pair TR.int TR.int)) v3 x3, obox 24 (TR.sl TR.int) v9 x0, obox 3 TR.int v10 x1]) rfl ?_
 refine RL.box (t := (TR.sl (TR.sl TR.int))) (e := x2) rfl rfl rfl rfl (VR.item 1 rfl) ?_
 intro v11
 refine RL.box (t := (TR.sl (TR.pair TR.int TR.int))) (e := x3) rfl rfl rfl rfl (VR.item 2 rfl) ?_
 intro v12
 refine RL.reL (L' := [imm (TR.sl TR.int) v0 x0, imm (TR.sl (TR.sl TR.int)) v2 x2, imm (TR.sl (TR.pair TR.int TR.int)) v3 x3, obox 24 (TR.sl TR.int) v9 x0, obox 3 TR.int v10 x1, obox 37 (TR.sl (TR.sl TR.int)) v11 x2, obox 77 (TR.sl (TR.pair TR.int TR.int)) v12 x3]) rfl ?_
 refine RL.asg rfl rfl rfl ?_
 refine RL.finG ?_
 refine GL.seq ?_
 refine GL.seq ?_
 obtain ⟨y48, K49, h50, h51, h52, h53, h54⟩ := bindR_K hm
 refine GL.join (ι := Bool) (fun (p : Bool) => [(4, v9), (5, v10), (6, v11), (7, v12), (35, .bool p)]) (fun (p : Bool) => [obox 24 (TR.sl TR.int) v9 x0, obox 3 TR.int v10 x1, obox 37 (TR.sl (TR.sl TR.int)) v11 x2, obox 77 (TR.sl (TR.pair TR.int TR.int)) v12 x3]) (fun (p : Bool) => K49 (.nx p)) ?_ ?_
 ·skip
  refine GL.region ?_
  obtain ⟨y55, e56, h50⟩ := bind_some h50
  refine RL.callV (v := .bool y55) (vs := []) Try_fit51 rfl (Or.inl rfl) rfl rfl rfl rfl (fun U w hU hW hL => pk_powers_c U w hU  _ e56) ?_
  refine RL.notB rfl rfl rfl ?_
  refine RL.mv rfl rfl rfl ?_
  refine RL.split (t := 16) rfl (fun b57 => ?_) (fun b57 => ?_)
  ·replace h50 := ite_t b57 h50
   refine RL.skip rfl rfl ?_
   refine RL.skip rfl rfl ?_
   refine RL.pickT rfl rfl rfl rfl ?_
   refine RL.mv rfl rfl rfl ?_
   refine RL.skip rfl rfl ?_
   refine RL.skip rfl rfl ?_
   refine RL.pickT rfl rfl rfl rfl ?_
   refine RL.mv rfl rfl rfl ?_
   refine RL.skip rfl rfl ?_
   refine RL.skip rfl rfl ?_
   refine RL.pickT rfl rfl rfl rfl ?_
   refine RL.mv rfl rfl rfl ?_
   refine RL.skip rfl rfl ?_
   refine RL.skip rfl rfl ?_
   refine RL.pickT rfl rfl rfl rfl ?_
   refine RL.mv rfl rfl rfl ?_
   refine RL.skip rfl rfl ?_
   refine RL.skip rfl rfl ?_
   refine RL.pickT rfl rfl rfl rfl ?_
   refine RL.fin ?_
   cases h50
   exact fun a w st => mid_intro true h51 (St.cut [3, 4, 5, 6] ⟨rfl, rfl, rfl, rfl, rfl, trivial⟩ (by decide) rfl st)
  replace h50 := ite_f b57 h50
  obtain ⟨y58, e59, h50⟩ := bind_some h50
  refine RL.callV (v := .bool y58) (vs := []) Try_fit52 rfl (Or.inl rfl) rfl rfl rfl rfl (fun U w hU hW hL => pk_shares_c U w hU  _ e59) ?_
  refine RL.notB rfl rfl rfl ?_
  refine RL.pickF rfl rfl rfl rfl ?_
  refine RL.mv rfl rfl rfl ?_
  refine RL.split (t := 20) rfl (fun b60 => ?_) (fun b60 => ?_)
  ·replace h50 := ite_t b60 h50
   refine RL.skip rfl rfl ?_
   refine RL.skip rfl rfl ?_
   refine RL.pickT rfl rfl rfl rfl ?_
   refine RL.mv rfl rfl rfl ?_
   refine RL.skip rfl rfl ?_
   refine RL.skip rfl rfl ?_
   refine RL.pickT rfl rfl rfl rfl ?_
   refine RL.mv rfl rfl rfl ?_
   refine RL.skip rfl rfl ?_
   refine RL.skip rfl rfl ?_
   refine RL.pickT rfl rfl rfl rfl ?_
   refine RL.mv rfl rfl rfl ?_
   refine RL.skip rfl rfl ?_
   refine RL.skip rfl rfl ?_
   refine RL.pickT rfl rfl rfl rfl ?_
   refine RL.fin ?_
   cases h50
   exact fun a w st => mid_intro true h51 (St.cut [3, 4, 5, 6] ⟨rfl, rfl, rfl, rfl, rfl, trivial⟩ (by decide) rfl st)
  replace h50 := ite_f b60 h50
  obtain ⟨y61, e62, h50⟩ := bind_some h50
  refine RL.callV (v := .bool y61) (vs := []) Try_fit53 rfl (Or.inl rfl) rfl rfl rfl rfl (fun U w hU hW hL => pk_nims_c U w hU  _ e62) ?_
  refine RL.notB rfl rfl rfl ?_
  refine RL.pickF rfl rfl rfl rfl ?_
  refine RL.mv rfl rfl rfl ?_
  refine RL.split (t := 24) rfl (fun b63 => ?_) (fun b63 => ?_)
  ·replace h50 := ite_t b63 h50
   refine RL.skip rfl rfl ?_
   refine RL.skip rfl rfl ?_
   refine RL.pickT rfl rfl rfl rfl ?_
   refine RL.mv rfl rfl rfl ?_
   refine RL.skip rfl rfl ?_
   refine RL.skip rfl rfl ?_
   refine RL.pickT rfl rfl rfl rfl ?_
   refine RL.mv rfl rfl rfl ?_
   refine RL.skip rfl rfl ?_
   refine RL.skip rfl rfl ?_
   refine RL.pickT rfl rfl rfl rfl ?_
   refine RL.fin ?_
   cases h50
   exact fun a w st => mid_intro true h51 (St.cut [3, 4, 5, 6] ⟨rfl, rfl, rfl, rfl, rfl, trivial⟩ (by decide) rfl st)
  replace h50 := ite_f b63 h50
  obtain ⟨y64, e65, h50⟩ := bind_some h50
  refine RL.callV (v := .bool y64) (vs := []) Try_fit54 rfl (Or.inl rfl) rfl rfl rfl rfl (fun U w hU hW hL => pk_trades_c U w hU  _ e65) ?_
  refine RL.notB rfl rfl rfl ?_
  refine RL.pickF rfl rfl rfl rfl ?_
  refine RL.mv rfl rfl rfl ?_
  refine RL.split (t := 28) rfl (fun b66 => ?_) (fun b66 => ?_)
  ·replace h50 := ite_t b66 h50
   refine RL.skip rfl rfl ?_
   refine RL.skip rfl rfl ?_
   refine RL.pickT rfl rfl rfl rfl ?_
   refine RL.mv rfl rfl rfl ?_
   refine RL.skip rfl rfl ?_
   refine RL.skip rfl rfl ?_
   refine RL.pickT rfl rfl rfl rfl ?_
   refine RL.fin ?_
   cases h50
   exact fun a w st => mid_intro true h51 (St.cut [3, 4, 5, 6] ⟨rfl, rfl, rfl, rfl, rfl, trivial⟩ (by decide) rfl st)
  replace h50 := ite_f b66 h50
  obtain ⟨y67, e68, h50⟩ := bind_some h50
  refine RL.callV (v := .bool y67) (vs := []) Try_fit55 rfl (Or.inl rfl) rfl rfl rfl rfl (fun U w hU hW hL => pk_sells_c U w hU  _ e68) ?_
  refine RL.notB rfl rfl rfl ?_
  refine RL.pickF rfl rfl rfl rfl ?_
  refine RL.mv rfl rfl rfl ?_
  refine RL.split (t := 32) rfl (fun b69 => ?_) (fun b69 => ?_)
  ·replace h50 := ite_t b69 h50
   refine RL.skip rfl rfl ?_
   refine RL.skip rfl rfl ?_
   refine RL.pickT rfl rfl rfl rfl ?_
   refine RL.fin ?_
   cases h50
   exact fun a w st => mid_intro true h51 (St.cut [3, 4, 5, 6] ⟨rfl, rfl, rfl, rfl, rfl, trivial⟩ (by decide) rfl st)
  replace h50 := ite_f b69 h50
  obtain ⟨y70, e71, h50⟩ := bind_some h50
  refine RL.callV (v := .bool y70) (vs := []) Try_fit56 rfl (Or.inl rfl) rfl rfl rfl rfl (fun U w hU hW hL => pk_knaps_c U w hU  _ e71) ?_
  refine RL.notB rfl rfl rfl ?_
  refine RL.pickF rfl rfl rfl rfl ?_
  refine RL.fin ?_
  cases h50
  exact fun a w st => mid_intro (!y70) h51 (St.cut [3, 4, 5, 6] ⟨rfl, rfl, rfl, rfl, rfl, trivial⟩ (by decide) rfl st)
 rintro x47 h72
 have h73 := h52 _ h72
 try dsimp only at h73
 refine GL.weak (env' := [(4, v9), (5, v10), (6, v11), (7, v12), (35, .bool x47)]) (L' := [obox 24 (TR.sl TR.int) v9 x0, obox 3 TR.int v10 x1, obox 37 (TR.sl (TR.sl TR.int)) v11 x2, obox 77 (TR.sl (TR.pair TR.int TR.int)) v12 x3]) (fun _ _ st => st) ?_
 refine GL.cond rfl (fun b74 => ?_) (fun b74 => ?_)
 ·replace h73 := ite_t b74 h73
  refine GL.seq ?_
  refine GL.region ?_
  refine RL.asg rfl rfl rfl ?_
  refine RL.finG ?_
  have h73 := Option.some.inj h73
  subst h73
  exact GL.ret (Gx.ret (v := .bool false) (res1 rfl rfl) (fun a w st => st.toPostV))
 replace h73 := ite_f b74 h73
 refine GL.skip ?_
 refine GL.seq ?_
 refine GL.regionA rfl rfl ?_
 obtain ⟨y137, e138, h73⟩ := bind_some h73
 obtain ⟨y141, e142, h73⟩ := bind_some h73
 refine RA.meet (ι := Value × Value × Value) (fun (p : Value × Value × Value) => [(4, v9), (5, v10), (6, v11), (7, v12), (37, p.1), (39, p.2.1), (40, p.2.2)]) (fun (p : Value × Value × Value) => [obox 24 (TR.sl TR.int) v9 x0, obox 3 TR.int v10 x1, obox 37 (TR.sl (TR.sl TR.int)) v11 x2, obox 77 (TR.sl (TR.pair TR.int TR.int)) v12 x3, own 3 TR.int p.1 y137, own 24 (TR.sl TR.int) p.2.1 y141, imm (TR.sl (TR.pair TR.int TR.int)) p.2.2 x3]) 4 #[true, true, true, true, true, false, false, false, false] (fun h158 => ?_) ?_
 ·skip
  refine RA.meet (ι := Value × Value) (fun (p : Value × Value) => [(4, v9), (5, v10), (6, v11), (7, v12), (37, p.1), (39, p.2)]) (fun (p : Value × Value) => [obox 24 (TR.sl TR.int) v9 x0, obox 3 TR.int v10 x1, obox 37 (TR.sl (TR.sl TR.int)) v11 x2, obox 77 (TR.sl (TR.pair TR.int TR.int)) v12 x3, own 3 TR.int p.1 y137, own 24 (TR.sl TR.int) p.2 y141]) 5 #[true, true, true, true, false, false, false, false, false] (fun h159 => ?_) ?_
  rotate_left
  ·rintro ⟨v151, v156⟩
   refine RA.weak (env' := [(4, v9), (5, v10), (6, v11), (7, v12), (37, v151), (39, v156)]) (L' := [obox 24 (TR.sl TR.int) v9 x0, obox 3 TR.int v10 x1, obox 37 (TR.sl (TR.sl TR.int)) v11 x2, obox 77 (TR.sl (TR.pair TR.int TR.int)) v12 x3, own 3 TR.int v151 y137, own 24 (TR.sl TR.int) v156 y141]) (fun _ _ st => st) ?_
   refine RA.seq 4 rfl (by kernel_rfl) ?_
   refine RL.ldP (off := 0) (r := (TR.sl (TR.pair TR.int TR.int))) (e' := x3) 3 Try_ln77 rfl rfl (Or.inr ⟨rfl, rfl⟩) rfl PtOf.obox Part.self ?_
   intro v193
   refine RL.fin ?_
   refine RA.next ?_
   refine RA.relist 4 #[true, true, true, true, true, false, false, false, false] rfl (by kernel_rfl) ?_
   exact fun a w st => h158 (v151, v156, v193) a w (St.cut [0, 1, 2, 3, 4, 5, 6] ⟨rfl, rfl, rfl, rfl, rfl, rfl, rfl, trivial⟩ (by decide) rfl st)
  refine RA.meet (ι := Value × Value × Value) (fun (p : Value × Value × Value) => [(4, v9), (5, v10), (6, v11), (7, v12), (37, p.1), (38, p.2.1), (40, p.2.2)]) (fun (p : Value × Value × Value) => [obox 24 (TR.sl TR.int) v9 x0, obox 3 TR.int v10 x1, obox 37 (TR.sl (TR.sl TR.int)) v11 x2, obox 77 (TR.sl (TR.pair TR.int TR.int)) v12 x3, own 3 TR.int p.1 y137, imm (TR.sl (TR.sl TR.int)) p.2.1 x2, imm (TR.sl (TR.pair TR.int TR.int)) p.2.2 x3]) 5 #[true, true, true, false, true, false, false, false, false] (fun h160 => ?_) ?_
  rotate_left
  ·rintro ⟨v151, v155, v153⟩
   refine RA.weak (env' := [(4, v9), (5, v10), (6, v11), (7, v12), (37, v151), (38, v155), (40, v153)]) (L' := [obox 24 (TR.sl TR.int) v9 x0, obox 3 TR.int v10 x1, obox 37 (TR.sl (TR.sl TR.int)) v11 x2, obox 77 (TR.sl (TR.pair TR.int TR.int)) v12 x3, own 3 TR.int v151 y137, imm (TR.sl (TR.sl TR.int)) v155 x2, imm (TR.sl (TR.pair TR.int TR.int)) v153 x3]) (fun _ _ st => st) ?_
   refine RA.seq 3 rfl (by kernel_rfl) ?_
   refine RL.call (vs := [v155]) Try_fit33 rfl rfl rfl rfl rfl (fun S f w hS hW hi => pk_copied_c S w hS _ _ (hi 5 _ rfl) _ e142) ?_
   intro v192
   refine RL.fin ?_
   refine RA.next ?_
   refine RA.relist 4 #[true, true, true, true, true, false, false, false, false] rfl (by kernel_rfl) ?_
   exact fun a w st => h158 (v151, v192, v153) a w (St.cut [0, 1, 2, 3, 4, 7, 6] ⟨rfl, rfl, rfl, rfl, rfl, rfl, rfl, trivial⟩ (by decide) rfl st)
  refine RA.meet (ι := Value × Value) (fun (p : Value × Value) => [(4, v9), (5, v10), (6, v11), (7, v12), (37, p.1), (40, p.2)]) (fun (p : Value × Value) => [obox 24 (TR.sl TR.int) v9 x0, obox 3 TR.int v10 x1, obox 37 (TR.sl (TR.sl TR.int)) v11 x2, obox 77 (TR.sl (TR.pair TR.int TR.int)) v12 x3, own 3 TR.int p.1 y137, imm (TR.sl (TR.pair TR.int TR.int)) p.2 x3]) 6 #[true, true, false, false, true, false, false, false, false] (fun h161 => ?_) ?_
  rotate_left
  ·rintro ⟨v151, v153⟩
   refine RA.weak (env' := [(4, v9), (5, v10), (6, v11), (7, v12), (37, v151), (40, v153)]) (L' := [obox 24 (TR.sl TR.int) v9 x0, obox 3 TR.int v10 x1, obox 37 (TR.sl (TR.sl TR.int)) v11 x2, obox 77 (TR.sl (TR.pair TR.int TR.int)) v12 x3, own 3 TR.int v151 y137, imm (TR.sl (TR.pair TR.int TR.int)) v153 x3]) (fun _ _ st => st) ?_
   refine RA.seq 2 rfl (by kernel_rfl) ?_
   refine RL.ldP (off := 0) (r := (TR.sl (TR.sl TR.int))) (e' := x2) 2 Try_ln37 rfl rfl (Or.inr ⟨rfl, rfl⟩) rfl PtOf.obox Part.self ?_
   intro v191
   refine RL.fin ?_
   refine RA.next ?_
   refine RA.relist 5 #[true, true, true, false, true, false, false, false, false] rfl (by kernel_rfl) ?_
   exact fun a w st => h160 (v151, v191, v153) a w (St.cut [0, 1, 2, 3, 4, 6, 5] ⟨rfl, rfl, rfl, rfl, rfl, rfl, rfl, trivial⟩ (by decide) rfl st)
  refine RA.meet (ι := Value × Value) (fun (p : Value × Value) => [(4, v9), (5, v10), (6, v11), (7, v12), (37, p.1), (38, p.2)]) (fun (p : Value × Value) => [obox 24 (TR.sl TR.int) v9 x0, obox 3 TR.int v10 x1, obox 37 (TR.sl (TR.sl TR.int)) v11 x2, obox 77 (TR.sl (TR.pair TR.int TR.int)) v12 x3, own 3 TR.int p.1 y137, imm (TR.sl (TR.sl TR.int)) p.2 x2]) 6 #[true, true, true, false, false, false, false, false, false] (fun h162 => ?_) ?_
  rotate_left
  ·rintro ⟨v151, v152⟩
   refine RA.weak (env' := [(4, v9), (5, v10), (6, v11), (7, v12), (37, v151), (38, v152)]) (L' := [obox 24 (TR.sl TR.int) v9 x0, obox 3 TR.int v10 x1, obox 37 (TR.sl (TR.sl TR.int)) v11 x2, obox 77 (TR.sl (TR.pair TR.int TR.int)) v12 x3, own 3 TR.int v151 y137, imm (TR.sl (TR.sl TR.int)) v152 x2]) (fun _ _ st => st) ?_
   refine RA.many [3, 4] (by kernel_rfl) ⟨⟨_, rfl, ?_⟩, ⟨_, rfl, ?_⟩, trivial⟩
   ·skip
    refine RL.call (vs := [v152]) Try_fit33 rfl rfl rfl rfl rfl (fun S f w hS hW hi => pk_copied_c S w hS _ _ (hi 5 _ rfl) _ e142) ?_
    intro v189
    refine RL.fin ?_
    refine RA.next ?_
    refine RA.relist 5 #[true, true, true, true, false, false, false, false, false] rfl (by kernel_rfl) ?_
    exact fun a w st => h159 (v151, v189) a w (St.cut [0, 1, 2, 3, 4, 6] ⟨rfl, rfl, rfl, rfl, rfl, rfl, trivial⟩ (by decide) rfl st)
   refine RL.ldP (off := 0) (r := (TR.sl (TR.pair TR.int TR.int))) (e' := x3) 3 Try_ln77 rfl rfl (Or.inr ⟨rfl, rfl⟩) rfl PtOf.obox Part.self ?_
   intro v190
   refine RL.fin ?_
   refine RA.next ?_
   refine RA.relist 5 #[true, true, true, false, true, false, false, false, false] rfl (by kernel_rfl) ?_
   exact fun a w st => h160 (v151, v152, v190) a w (St.cut [0, 1, 2, 3, 4, 5, 6] ⟨rfl, rfl, rfl, rfl, rfl, rfl, rfl, trivial⟩ (by decide) rfl st)
  refine RA.meet (ι := Value × Value × Value) (fun (p : Value × Value × Value) => [(4, v9), (5, v10), (6, v11), (7, v12), (36, p.1), (38, p.2.1), (40, p.2.2)]) (fun (p : Value × Value × Value) => [obox 24 (TR.sl TR.int) v9 x0, obox 3 TR.int v10 x1, obox 37 (TR.sl (TR.sl TR.int)) v11 x2, obox 77 (TR.sl (TR.pair TR.int TR.int)) v12 x3, imm (TR.sl TR.int) p.1 x0, imm (TR.sl (TR.sl TR.int)) p.2.1 x2, imm (TR.sl (TR.pair TR.int TR.int)) p.2.2 x3]) 6 #[true, false, true, false, true, false, false, false, false] (fun h163 => ?_) ?_
  rotate_left
  ·rintro ⟨v148, v146, v154⟩
   refine RA.weak (env' := [(4, v9), (5, v10), (6, v11), (7, v12), (36, v148), (38, v146), (40, v154)]) (L' := [obox 24 (TR.sl TR.int) v9 x0, obox 3 TR.int v10 x1, obox 37 (TR.sl (TR.sl TR.int)) v11 x2, obox 77 (TR.sl (TR.pair TR.int TR.int)) v12 x3, imm (TR.sl TR.int) v148 x0, imm (TR.sl (TR.sl TR.int)) v146 x2, imm (TR.sl (TR.pair TR.int TR.int)) v154 x3]) (fun _ _ st => st) ?_
   refine RA.seq 1 rfl (by kernel_rfl) ?_
   refine RL.call (vs := [v148]) Try_fit18 rfl rfl rfl rfl rfl (fun S f w hS hW hi => slices_Clone_int_int_c S w hS _ _ (hi 4 _ rfl) _ e138) ?_
   intro v188
   refine RL.fin ?_
   refine RA.next ?_
   refine RA.relist 5 #[true, true, true, false, true, false, false, false, false] rfl (by kernel_rfl) ?_
   exact fun a w st => h160 (v188, v146, v154) a w (St.cut [0, 1, 2, 3, 7, 5, 6] ⟨rfl, rfl, rfl, rfl, rfl, rfl, rfl, trivial⟩ (by decide) rfl st)
  refine RA.meet (ι := Value) (fun (p : Value) => [(4, v9), (5, v10), (6, v11), (7, v12), (37, p)]) (fun (p : Value) => [obox 24 (TR.sl TR.int) v9 x0, obox 3 TR.int v10 x1, obox 37 (TR.sl (TR.sl TR.int)) v11 x2, obox 77 (TR.sl (TR.pair TR.int TR.int)) v12 x3, own 3 TR.int p y137]) 7 #[true, true, false, false, false, false, false, false, false] (fun h164 => ?_) ?_
  rotate_left
  ·rintro v151
   refine RA.weak (env' := [(4, v9), (5, v10), (6, v11), (7, v12), (37, v151)]) (L' := [obox 24 (TR.sl TR.int) v9 x0, obox 3 TR.int v10 x1, obox 37 (TR.sl (TR.sl TR.int)) v11 x2, obox 77 (TR.sl (TR.pair TR.int TR.int)) v12 x3, own 3 TR.int v151 y137]) (fun _ _ st => st) ?_
   refine RA.many [2, 4] (by kernel_rfl) ⟨⟨_, rfl, ?_⟩, ⟨_, rfl, ?_⟩, trivial⟩
   ·skip
    refine RL.ldP (off := 0) (r := (TR.sl (TR.sl TR.int))) (e' := x2) 2 Try_ln37 rfl rfl (Or.inr ⟨rfl, rfl⟩) rfl PtOf.obox Part.self ?_
    intro v186
    refine RL.fin ?_
    refine RA.next ?_
    refine RA.relist 6 #[true, true, true, false, false, false, false, false, false] rfl (by kernel_rfl) ?_
    exact fun a w st => h162 (v151, v186) a w (St.cut [0, 1, 2, 3, 4, 5] ⟨rfl, rfl, rfl, rfl, rfl, rfl, trivial⟩ (by decide) rfl st)
   refine RL.ldP (off := 0) (r := (TR.sl (TR.pair TR.int TR.int))) (e' := x3) 3 Try_ln77 rfl rfl (Or.inr ⟨rfl, rfl⟩) rfl PtOf.obox Part.self ?_
   intro v187
   refine RL.fin ?_
   refine RA.next ?_
   refine RA.relist 6 #[true, true, false, false, true, false, false, false, false] rfl (by kernel_rfl) ?_
   exact fun a w st => h161 (v151, v187) a w (St.cut [0, 1, 2, 3, 4, 5] ⟨rfl, rfl, rfl, rfl, rfl, rfl, trivial⟩ (by decide) rfl st)
  refine RA.meet (ι := Value × Value) (fun (p : Value × Value) => [(4, v9), (5, v10), (6, v11), (7, v12), (36, p.1), (38, p.2)]) (fun (p : Value × Value) => [obox 24 (TR.sl TR.int) v9 x0, obox 3 TR.int v10 x1, obox 37 (TR.sl (TR.sl TR.int)) v11 x2, obox 77 (TR.sl (TR.pair TR.int TR.int)) v12 x3, imm (TR.sl TR.int) p.1 x0, imm (TR.sl (TR.sl TR.int)) p.2 x2]) 7 #[true, false, true, false, false, false, false, false, false] (fun h165 => ?_) ?_
  rotate_left
  ·rintro ⟨v148, v146⟩
   refine RA.weak (env' := [(4, v9), (5, v10), (6, v11), (7, v12), (36, v148), (38, v146)]) (L' := [obox 24 (TR.sl TR.int) v9 x0, obox 3 TR.int v10 x1, obox 37 (TR.sl (TR.sl TR.int)) v11 x2, obox 77 (TR.sl (TR.pair TR.int TR.int)) v12 x3, imm (TR.sl TR.int) v148 x0, imm (TR.sl (TR.sl TR.int)) v146 x2]) (fun _ _ st => st) ?_
   refine RA.many [1, 4] (by kernel_rfl) ⟨⟨_, rfl, ?_⟩, ⟨_, rfl, ?_⟩, trivial⟩
   ·skip
    refine RL.call (vs := [v148]) Try_fit18 rfl rfl rfl rfl rfl (fun S f w hS hW hi => slices_Clone_int_int_c S w hS _ _ (hi 4 _ rfl) _ e138) ?_
    intro v184
    refine RL.fin ?_
    refine RA.next ?_
    refine RA.relist 6 #[true, true, true, false, false, false, false, false, false] rfl (by kernel_rfl) ?_
    exact fun a w st => h162 (v184, v146) a w (St.cut [0, 1, 2, 3, 6, 5] ⟨rfl, rfl, rfl, rfl, rfl, rfl, trivial⟩ (by decide) rfl st)
   refine RL.ldP (off := 0) (r := (TR.sl (TR.pair TR.int TR.int))) (e' := x3) 3 Try_ln77 rfl rfl (Or.inr ⟨rfl, rfl⟩) rfl PtOf.obox Part.self ?_
   intro v185
   refine RL.fin ?_
   refine RA.next ?_
   refine RA.relist 6 #[true, false, true, false, true, false, false, false, false] rfl (by kernel_rfl) ?_
   exact fun a w st => h163 (v148, v146, v185) a w (St.cut [0, 1, 2, 3, 4, 5, 6] ⟨rfl, rfl, rfl, rfl, rfl, rfl, rfl, trivial⟩ (by decide) rfl st)
  refine RA.meet (ι := Value × Value) (fun (p : Value × Value) => [(4, v9), (5, v10), (6, v11), (7, v12), (36, p.1), (40, p.2)]) (fun (p : Value × Value) => [obox 24 (TR.sl TR.int) v9 x0, obox 3 TR.int v10 x1, obox 37 (TR.sl (TR.sl TR.int)) v11 x2, obox 77 (TR.sl (TR.pair TR.int TR.int)) v12 x3, imm (TR.sl TR.int) p.1 x0, imm (TR.sl (TR.pair TR.int TR.int)) p.2 x3]) 7 #[true, false, false, false, true, false, false, false, false] (fun h166 => ?_) ?_
  rotate_left
  ·rintro ⟨v150, v147⟩
   refine RA.weak (env' := [(4, v9), (5, v10), (6, v11), (7, v12), (36, v150), (40, v147)]) (L' := [obox 24 (TR.sl TR.int) v9 x0, obox 3 TR.int v10 x1, obox 37 (TR.sl (TR.sl TR.int)) v11 x2, obox 77 (TR.sl (TR.pair TR.int TR.int)) v12 x3, imm (TR.sl TR.int) v150 x0, imm (TR.sl (TR.pair TR.int TR.int)) v147 x3]) (fun _ _ st => st) ?_
   refine RA.many [1, 2] (by kernel_rfl) ⟨⟨_, rfl, ?_⟩, ⟨_, rfl, ?_⟩, trivial⟩
   ·skip
    refine RL.call (vs := [v150]) Try_fit18 rfl rfl rfl rfl rfl (fun S f w hS hW hi => slices_Clone_int_int_c S w hS _ _ (hi 4 _ rfl) _ e138) ?_
    intro v182
    refine RL.fin ?_
    refine RA.next ?_
    refine RA.relist 6 #[true, true, false, false, true, false, false, false, false] rfl (by kernel_rfl) ?_
    exact fun a w st => h161 (v182, v147) a w (St.cut [0, 1, 2, 3, 6, 5] ⟨rfl, rfl, rfl, rfl, rfl, rfl, trivial⟩ (by decide) rfl st)
   refine RL.ldP (off := 0) (r := (TR.sl (TR.sl TR.int))) (e' := x2) 2 Try_ln37 rfl rfl (Or.inr ⟨rfl, rfl⟩) rfl PtOf.obox Part.self ?_
   intro v183
   refine RL.fin ?_
   refine RA.next ?_
   refine RA.relist 6 #[true, false, true, false, true, false, false, false, false] rfl (by kernel_rfl) ?_
   exact fun a w st => h163 (v150, v183, v147) a w (St.cut [0, 1, 2, 3, 4, 6, 5] ⟨rfl, rfl, rfl, rfl, rfl, rfl, rfl, trivial⟩ (by decide) rfl st)
  refine RA.meet (ι := Value × Value) (fun (p : Value × Value) => [(4, v9), (5, v10), (6, v11), (7, v12), (38, p.1), (40, p.2)]) (fun (p : Value × Value) => [obox 24 (TR.sl TR.int) v9 x0, obox 3 TR.int v10 x1, obox 37 (TR.sl (TR.sl TR.int)) v11 x2, obox 77 (TR.sl (TR.pair TR.int TR.int)) v12 x3, imm (TR.sl (TR.sl TR.int)) p.1 x2, imm (TR.sl (TR.pair TR.int TR.int)) p.2 x3]) 7 #[false, false, true, false, true, false, false, false, false] (fun h167 => ?_) ?_
  rotate_left
  ·rintro ⟨v146, v149⟩
   refine RA.weak (env' := [(4, v9), (5, v10), (6, v11), (7, v12), (38, v146), (40, v149)]) (L' := [obox 24 (TR.sl TR.int) v9 x0, obox 3 TR.int v10 x1, obox 37 (TR.sl (TR.sl TR.int)) v11 x2, obox 77 (TR.sl (TR.pair TR.int TR.int)) v12 x3, imm (TR.sl (TR.sl TR.int)) v146 x2, imm (TR.sl (TR.pair TR.int TR.int)) v149 x3]) (fun _ _ st => st) ?_
   refine RA.seq 0 rfl (by kernel_rfl) ?_
   refine RL.ldP (off := 0) (r := (TR.sl TR.int)) (e' := x0) 0 Try_ln24 rfl rfl (Or.inr ⟨rfl, rfl⟩) rfl PtOf.obox Part.self ?_
   intro v181
   refine RL.fin ?_
   refine RA.next ?_
   refine RA.relist 6 #[true, false, true, false, true, false, false, false, false] rfl (by kernel_rfl) ?_
   exact fun a w st => h163 (v181, v146, v149) a w (St.cut [0, 1, 2, 3, 6, 4, 5] ⟨rfl, rfl, rfl, rfl, rfl, rfl, rfl, trivial⟩ (by decide) rfl st)
  refine RA.meet (ι := Value) (fun (p : Value) => [(4, v9), (5, v10), (6, v11), (7, v12), (38, p)]) (fun (p : Value) => [obox 24 (TR.sl TR.int) v9 x0, obox 3 TR.int v10 x1, obox 37 (TR.sl (TR.sl TR.int)) v11 x2, obox 77 (TR.sl (TR.pair TR.int TR.int)) v12 x3, imm (TR.sl (TR.sl TR.int)) p x2]) 8 #[false, false, true, false, false, false, false, false, false] (fun h168 => ?_) ?_
  rotate_left
  ·rintro v146
   refine RA.weak (env' := [(4, v9), (5, v10), (6, v11), (7, v12), (38, v146)]) (L' := [obox 24 (TR.sl TR.int) v9 x0, obox 3 TR.int v10 x1, obox 37 (TR.sl (TR.sl TR.int)) v11 x2, obox 77 (TR.sl (TR.pair TR.int TR.int)) v12 x3, imm (TR.sl (TR.sl TR.int)) v146 x2]) (fun _ _ st => st) ?_
   refine RA.many [0, 4] (by kernel_rfl) ⟨⟨_, rfl, ?_⟩, ⟨_, rfl, ?_⟩, trivial⟩
   ·skip
    refine RL.ldP (off := 0) (r := (TR.sl TR.int)) (e' := x0) 0 Try_ln24 rfl rfl (Or.inr ⟨rfl, rfl⟩) rfl PtOf.obox Part.self ?_
    intro v179
    refine RL.fin ?_
    refine RA.next ?_
    refine RA.relist 7 #[true, false, true, false, false, false, false, false, false] rfl (by kernel_rfl) ?_
    exact fun a w st => h165 (v179, v146) a w (St.cut [0, 1, 2, 3, 5, 4] ⟨rfl, rfl, rfl, rfl, rfl, rfl, trivial⟩ (by decide) rfl st)
   refine RL.ldP (off := 0) (r := (TR.sl (TR.pair TR.int TR.int))) (e' := x3) 3 Try_ln77 rfl rfl (Or.inr ⟨rfl, rfl⟩) rfl PtOf.obox Part.self ?_
   intro v180
   refine RL.fin ?_
   refine RA.next ?_
   refine RA.relist 7 #[false, false, true, false, true, false, false, false, false] rfl (by kernel_rfl) ?_
   exact fun a w st => h167 (v146, v180) a w (St.cut [0, 1, 2, 3, 4, 5] ⟨rfl, rfl, rfl, rfl, rfl, rfl, trivial⟩ (by decide) rfl st)
  refine RA.meet (ι := Value) (fun (p : Value) => [(4, v9), (5, v10), (6, v11), (7, v12), (40, p)]) (fun (p : Value) => [obox 24 (TR.sl TR.int) v9 x0, obox 3 TR.int v10 x1, obox 37 (TR.sl (TR.sl TR.int)) v11 x2, obox 77 (TR.sl (TR.pair TR.int TR.int)) v12 x3, imm (TR.sl (TR.pair TR.int TR.int)) p x3]) 8 #[false, false, false, false, true, false, false, false, false] (fun h169 => ?_) ?_
  rotate_left
  ·rintro v147
   refine RA.weak (env' := [(4, v9), (5, v10), (6, v11), (7, v12), (40, v147)]) (L' := [obox 24 (TR.sl TR.int) v9 x0, obox 3 TR.int v10 x1, obox 37 (TR.sl (TR.sl TR.int)) v11 x2, obox 77 (TR.sl (TR.pair TR.int TR.int)) v12 x3, imm (TR.sl (TR.pair TR.int TR.int)) v147 x3]) (fun _ _ st => st) ?_
   refine RA.many [0, 2] (by kernel_rfl) ⟨⟨_, rfl, ?_⟩, ⟨_, rfl, ?_⟩, trivial⟩
   ·skip
    refine RL.ldP (off := 0) (r := (TR.sl TR.int)) (e' := x0) 0 Try_ln24 rfl rfl (Or.inr ⟨rfl, rfl⟩) rfl PtOf.obox Part.self ?_
    intro v177
    refine RL.fin ?_
    refine RA.next ?_
    refine RA.relist 7 #[true, false, false, false, true, false, false, false, false] rfl (by kernel_rfl) ?_
    exact fun a w st => h166 (v177, v147) a w (St.cut [0, 1, 2, 3, 5, 4] ⟨rfl, rfl, rfl, rfl, rfl, rfl, trivial⟩ (by decide) rfl st)
   refine RL.ldP (off := 0) (r := (TR.sl (TR.sl TR.int))) (e' := x2) 2 Try_ln37 rfl rfl (Or.inr ⟨rfl, rfl⟩) rfl PtOf.obox Part.self ?_
   intro v178
   refine RL.fin ?_
   refine RA.next ?_
   refine RA.relist 7 #[false, false, true, false, true, false, false, false, false] rfl (by kernel_rfl) ?_
   exact fun a w st => h167 (v178, v147) a w (St.cut [0, 1, 2, 3, 5, 4] ⟨rfl, rfl, rfl, rfl, rfl, rfl, trivial⟩ (by decide) rfl st)
  refine RA.meet (ι := Value) (fun (p : Value) => [(4, v9), (5, v10), (6, v11), (7, v12), (36, p)]) (fun (p : Value) => [obox 24 (TR.sl TR.int) v9 x0, obox 3 TR.int v10 x1, obox 37 (TR.sl (TR.sl TR.int)) v11 x2, obox 77 (TR.sl (TR.pair TR.int TR.int)) v12 x3, imm (TR.sl TR.int) p x0]) 8 #[true, false, false, false, false, false, false, false, false] (fun h170 => ?_) ?_
  rotate_left
  ·rintro v145
   refine RA.weak (env' := [(4, v9), (5, v10), (6, v11), (7, v12), (36, v145)]) (L' := [obox 24 (TR.sl TR.int) v9 x0, obox 3 TR.int v10 x1, obox 37 (TR.sl (TR.sl TR.int)) v11 x2, obox 77 (TR.sl (TR.pair TR.int TR.int)) v12 x3, imm (TR.sl TR.int) v145 x0]) (fun _ _ st => st) ?_
   refine RA.many [1, 2, 4] (by kernel_rfl) ⟨⟨_, rfl, ?_⟩, ⟨_, rfl, ?_⟩, ⟨_, rfl, ?_⟩, trivial⟩
   ·skip
    refine RL.call (vs := [v145]) Try_fit18 rfl rfl rfl rfl rfl (fun S f w hS hW hi => slices_Clone_int_int_c S w hS _ _ (hi 4 _ rfl) _ e138) ?_
    intro v174
    refine RL.fin ?_
    refine RA.next ?_
    refine RA.relist 7 #[true, true, false, false, false, false, false, false, false] rfl (by kernel_rfl) ?_
    exact fun a w st => h164 v174 a w (St.cut [0, 1, 2, 3, 5] ⟨rfl, rfl, rfl, rfl, rfl, trivial⟩ (by decide) rfl st)
   ·skip
    refine RL.ldP (off := 0) (r := (TR.sl (TR.sl TR.int))) (e' := x2) 2 Try_ln37 rfl rfl (Or.inr ⟨rfl, rfl⟩) rfl PtOf.obox Part.self ?_
    intro v175
    refine RL.fin ?_
    refine RA.next ?_
    refine RA.relist 7 #[true, false, true, false, false, false, false, false, false] rfl (by kernel_rfl) ?_
    exact fun a w st => h165 (v145, v175) a w (St.cut [0, 1, 2, 3, 4, 5] ⟨rfl, rfl, rfl, rfl, rfl, rfl, trivial⟩ (by decide) rfl st)
   refine RL.ldP (off := 0) (r := (TR.sl (TR.pair TR.int TR.int))) (e' := x3) 3 Try_ln77 rfl rfl (Or.inr ⟨rfl, rfl⟩) rfl PtOf.obox Part.self ?_
   intro v176
   refine RL.fin ?_
   refine RA.next ?_
   refine RA.relist 7 #[true, false, false, false, true, false, false, false, false] rfl (by kernel_rfl) ?_
   exact fun a w st => h166 (v145, v176) a w (St.cut [0, 1, 2, 3, 4, 5] ⟨rfl, rfl, rfl, rfl, rfl, rfl, trivial⟩ (by decide) rfl st)
  refine RA.many [0, 2, 4] (by kernel_rfl) ⟨⟨_, rfl, ?_⟩, ⟨_, rfl, ?_⟩, ⟨_, rfl, ?_⟩, trivial⟩
  ·skip
   refine RL.ldP (off := 0) (r := (TR.sl TR.int)) (e' := x0) 0 Try_ln24 rfl rfl (Or.inr ⟨rfl, rfl⟩) rfl PtOf.obox Part.self ?_
   intro v171
   refine RL.fin ?_
   refine RA.next ?_
   refine RA.relist 8 #[true, false, false, false, false, false, false, false, false] rfl (by kernel_rfl) ?_
   exact fun a w st => h170 v171 a w (St.cut [0, 1, 2, 3, 4] ⟨rfl, rfl, rfl, rfl, rfl, trivial⟩ (by decide) rfl st)
  ·skip
   refine RL.ldP (off := 0) (r := (TR.sl (TR.sl TR.int))) (e' := x2) 2 Try_ln37 rfl rfl (Or.inr ⟨rfl, rfl⟩) rfl PtOf.obox Part.self ?_
   intro v172
   refine RL.fin ?_
   refine RA.next ?_
   refine RA.relist 8 #[false, false, true, false, false, false, false, false, false] rfl (by kernel_rfl) ?_
   exact fun a w st => h168 v172 a w (St.cut [0, 1, 2, 3, 4] ⟨rfl, rfl, rfl, rfl, rfl, trivial⟩ (by decide) rfl st)
  refine RL.ldP (off := 0) (r := (TR.sl (TR.pair TR.int TR.int))) (e' := x3) 3 Try_ln77 rfl rfl (Or.inr ⟨rfl, rfl⟩) rfl PtOf.obox Part.self ?_
  intro v173
  refine RL.fin ?_
  refine RA.next ?_
  refine RA.relist 8 #[false, false, false, false, true, false, false, false, false] rfl (by kernel_rfl) ?_
  exact fun a w st => h169 v173 a w (St.cut [0, 1, 2, 3, 4] ⟨rfl, rfl, rfl, rfl, rfl, trivial⟩ (by decide) rfl st)
 rintro ⟨v151, v156, v157⟩
 refine RA.weak (env' := [(4, v9), (5, v10), (6, v11), (7, v12), (37, v151), (39, v156), (40, v157)]) (L' := [obox 24 (TR.sl TR.int) v9 x0, obox 3 TR.int v10 x1, obox 37 (TR.sl (TR.sl TR.int)) v11 x2, obox 77 (TR.sl (TR.pair TR.int TR.int)) v12 x3, own 3 TR.int v151 y137, own 24 (TR.sl TR.int) v156 y141, imm (TR.sl (TR.pair TR.int TR.int)) v157 x3]) (fun _ _ st => st) ?_
 refine RA.seq 5 rfl (by kernel_rfl) ?_
 obtain ⟨y194, e195, h73⟩ := bind_some h73
 refine RL.call (vs := [v157]) Try_fit57 rfl rfl rfl rfl rfl (fun S f w hS hW hi => slices_Clone_api_Item_api_Item_c S w hS _ _ (hi 6 _ rfl) _ e195) ?_
 intro v196
 refine RL.fin ?_
 refine RA.next ?_
 refine RA.quiet 6 rfl rfl (by kernel_rfl) ?_
 simp only [List.drop_succ_cons, List.drop_zero]
 refine RL.asg rfl rfl rfl ?_
 refine RL.asg rfl rfl rfl ?_
 refine RL.asg rfl rfl rfl ?_
 refine RL.finQ ?_
 refine RA.outQ ?_
 refine GL.weak (env' := [(4, v9), (5, v10), (6, v11), (7, v12), (9, v151), (10, v156), (11, v196)]) (L' := [obox 24 (TR.sl TR.int) v9 x0, obox 3 TR.int v10 x1, obox 37 (TR.sl (TR.sl TR.int)) v11 x2, obox 77 (TR.sl (TR.pair TR.int TR.int)) v12 x3, own 3 TR.int v151 y137, own 24 (TR.sl TR.int) v156 y141, own 80 (TR.pair TR.int TR.int) v196 y194]) (fun a w st => St.cut [0, 1, 2, 3, 4, 5, 7] ⟨rfl, rfl, rfl, rfl, rfl, rfl, rfl, trivial⟩ (by decide) rfl st) ?_
 refine GL.seq ?_
 refine GL.seq ?_
 refine GL.region ?_
 refine RL.mkF (vs := [v9, v10]) rfl rfl rfl ?_
 refine RL.mkF (vs := [v9, v10]) rfl rfl rfl ?_
 refine RL.mkF (vs := [v9, v10]) rfl rfl rfl ?_
 refine RL.mkF (vs := [v10, v9]) rfl rfl rfl ?_
 refine RL.mkF (vs := [v9, v10]) rfl rfl rfl ?_
 refine RL.mkF (vs := [v11]) rfl rfl rfl ?_
 refine RL.mkF (vs := [v12, v10]) rfl rfl rfl ?_
 refine RL.mkF (vs := [v12, v10]) rfl rfl rfl ?_
 refine RL.weak (fun a w st => st.freezeB 0 rfl) ?_
 refine RL.reL (L' := [imm (TR.ptr (TR.sl TR.int)) v9 x0, obox 3 TR.int v10 x1, obox 37 (TR.sl (TR.sl TR.int)) v11 x2, obox 77 (TR.sl (TR.pair TR.int TR.int)) v12 x3, own 3 TR.int v151 y137, own 24 (TR.sl TR.int) v156 y141, own 80 (TR.pair TR.int TR.int) v196 y194]) rfl ?_
 refine RL.weak (fun a w st => st.freezeB 1 rfl) ?_
 refine RL.reL (L' := [imm (TR.ptr (TR.sl TR.int)) v9 x0, imm (TR.ptr TR.int) v10 x1, obox 37 (TR.sl (TR.sl TR.int)) v11 x2, obox 77 (TR.sl (TR.pair TR.int TR.int)) v12 x3, own 3 TR.int v151 y137, own 24 (TR.sl TR.int) v156 y141, own 80 (TR.pair TR.int TR.int) v196 y194]) rfl ?_
 refine RL.weak (fun a w st => st.freezeB 2 rfl) ?_
 refine RL.reL (L' := [imm (TR.ptr (TR.sl TR.int)) v9 x0, imm (TR.ptr TR.int) v10 x1, imm (TR.ptr (TR.sl (TR.sl TR.int))) v11 x2, obox 77 (TR.sl (TR.pair TR.int TR.int)) v12 x3, own 3 TR.int v151 y137, own 24 (TR.sl TR.int) v156 y141, own 80 (TR.pair TR.int TR.int) v196 y194]) rfl ?_
 refine RL.weak (fun a w st => st.freezeB 3 rfl) ?_
 refine RL.reL (L' := [imm (TR.ptr (TR.sl TR.int)) v9 x0, imm (TR.ptr TR.int) v10 x1, imm (TR.ptr (TR.sl (TR.sl TR.int))) v11 x2, imm (TR.ptr (TR.sl (TR.pair TR.int TR.int))) v12 x3, own 3 TR.int v151 y137, own 24 (TR.sl TR.int) v156 y141, own 80 (TR.pair TR.int TR.int) v196 y194]) rfl ?_
 refine RL.bS (t := (TR.thk Try.prog 3 TR.int)) (vs := [.func (.func 58) #[] #[v9, v10], .func (.func 60) #[] #[v9, v10], .func (.func 62) #[] #[v9, v10], .func (.func 63) #[] #[v10, v9], .func (.func 65) #[] #[v9, v10], .func (.func 67) #[] #[v11], .func (.func 69) #[] #[v12, v10], .func (.func 71) #[] #[v12, v10]]) ([(pk_ListsOwn_1_m x0 x1), (pk_ListsOwn_2_m x0 x1), (pk_ListsOwn_3_m x0 x1), (pk_ListsOwn_4_m x1 x0), (pk_ListsOwn_5_m x0 x1), (pk_ListsOwn_6_m x2), (pk_ListsOwn_7_m x3 x1), (pk_ListsOwn_8_m x3 x1)] : (List (Option (List Int)))) Try.underlying86 Try_lo81 rfl rfl rfl rfl ⟨(fun S f hi => ⟨[_], rfl, _, _, rfl, Try_fit58, fun U w' hle hU rr hr => pk_ListsOwn_1_c U w' hU _ _ (TR.vrep_mono hle (hi 0 _ rfl)) _ _ (TR.vrep_mono hle (hi 1 _ rfl)) _ hr⟩), ⟨(fun S f hi => ⟨[_], rfl, _, _, rfl, Try_fit60, fun U w' hle hU rr hr => pk_ListsOwn_2_c U w' hU _ _ (TR.vrep_mono hle (hi 0 _ rfl)) _ _ (TR.vrep_mono hle (hi 1 _ rfl)) _ hr⟩), ⟨(fun S f hi => ⟨[_], rfl, _, _, rfl, Try_fit62, fun U w' hle hU rr hr => pk_ListsOwn_3_c U w' hU _ _ (TR.vrep_mono hle (hi 0 _ rfl)) _ _ (TR.vrep_mono hle (hi 1 _ rfl)) _ hr⟩), ⟨(fun S f hi => ⟨[_], rfl, _, _, rfl, Try_fit63, fun U w' hle hU rr hr => pk_ListsOwn_4_c U w' hU _ _ (TR.vrep_mono hle (hi 1 _ rfl)) _ _ (TR.vrep_mono hle (hi 0 _ rfl)) _ hr⟩), ⟨(fun S f hi => ⟨[_], rfl, _, _, rfl, Try_fit65, fun U w' hle hU rr hr => pk_ListsOwn_5_c U w' hU _ _ (TR.vrep_mono hle (hi 0 _ rfl)) _ _ (TR.vrep_mono hle (hi 1 _ rfl)) _ hr⟩), ⟨(fun S f hi => ⟨[_], rfl, _, _, rfl, Try_fit67, fun U w' hle hU rr hr => pk_ListsOwn_6_c U w' hU _ _ (TR.vrep_mono hle (hi 2 _ rfl)) _ hr⟩), ⟨(fun S f hi => ⟨[_], rfl, _, _, rfl, Try_fit69, fun U w' hle hU rr hr => pk_ListsOwn_7_c U w' hU _ _ (TR.vrep_mono hle (hi 3 _ rfl)) _ _ (TR.vrep_mono hle (hi 1 _ rfl)) _ hr⟩), ⟨(fun S f hi => ⟨[_], rfl, _, _, rfl, Try_fit71, fun U w' hle hU rr hr => pk_ListsOwn_8_c U w' hU _ _ (TR.vrep_mono hle (hi 3 _ rfl)) _ _ (TR.vrep_mono hle (hi 1 _ rfl)) _ hr⟩), trivial⟩⟩⟩⟩⟩⟩⟩⟩ rfl (by decide) ?_
 intro v198
 refine RL.reL (L' := [imm (TR.ptr (TR.sl TR.int)) v9 x0, imm (TR.ptr TR.int) v10 x1, imm (TR.ptr (TR.sl (TR.sl TR.int))) v11 x2, imm (TR.ptr (TR.sl (TR.pair TR.int TR.int))) v12 x3, own 3 TR.int v151 y137, own 24 (TR.sl TR.int) v156 y141, own 80 (TR.pair TR.int TR.int) v196 y194, own 81 (TR.thk Try.prog 3 TR.int) v198 ([(pk_ListsOwn_1_m x0 x1), (pk_ListsOwn_2_m x0 x1), (pk_ListsOwn_3_m x0 x1), (pk_ListsOwn_4_m x1 x0), (pk_ListsOwn_5_m x0 x1), (pk_ListsOwn_6_m x2), (pk_ListsOwn_7_m x3 x1), (pk_ListsOwn_8_m x3 x1)] : (List (Option (List Int))))]) rfl ?_
 refine RL.lenS 7 Try.underlying86 rfl rfl rfl rfl SlOf.own ?_
 refine RL.mv rfl rfl rfl ?_
 refine RL.finG ?_
 refine GL.lenOwn 7 rfl (fun n226 => ?_)
 obtain ⟨y227, K228, h229, h230, h231, h232, h233⟩ := bindR_K h73
 refine GL.join (ι := Unit) (fun (p : Unit) => [(4, v9), (6, v11), (7, v12), (9, v151), (10, v156), (11, v196)]) (fun (p : Unit) => [imm (TR.ptr (TR.sl TR.int)) v9 x0, imm (TR.ptr (TR.sl (TR.sl TR.int))) v11 x2, imm (TR.ptr (TR.sl (TR.pair TR.int TR.int))) v12 x3, own 3 TR.int v151 y137, own 24 (TR.sl TR.int) v156 y141, own 80 (TR.pair TR.int TR.int) v196 y194]) (fun (p : Unit) => K228 (.nx ())) ?_ ?_
 ·refine GL.block ?_
  refine GL.loop (ι := Nat × Nat) (fun (p : Nat × Nat) => [(4, v9), (6, v11), (7, v12), (9, v151), (10, v156), (11, v196), (50, v198), (51, .int .i64 ((([(pk_ListsOwn_1_m x0 x1), (pk_ListsOwn_2_m x0 x1), (pk_ListsOwn_3_m x0 x1), (pk_ListsOwn_4_m x1 x0), (pk_ListsOwn_5_m x0 x1), (pk_ListsOwn_6_m x2), (pk_ListsOwn_7_m x3 x1), (pk_ListsOwn_8_m x3 x1)] : (List (Option (List Int))))).length : Int)), (52, .int .i64 (p.1 : Int))]) (fun (p : Nat × Nat) => [imm (TR.ptr (TR.sl TR.int)) v9 x0, imm (TR.ptr (TR.sl (TR.sl TR.int))) v11 x2, imm (TR.ptr (TR.sl (TR.pair TR.int TR.int))) v12 x3, own 3 TR.int v151 y137, own 24 (TR.sl TR.int) v156 y141, own 80 (TR.pair TR.int TR.int) v196 y194, own 81 (TR.thk Try.prog 3 TR.int) v198 ([(pk_ListsOwn_1_m x0 x1), (pk_ListsOwn_2_m x0 x1), (pk_ListsOwn_3_m x0 x1), (pk_ListsOwn_4_m x1 x0), (pk_ListsOwn_5_m x0 x1), (pk_ListsOwn_6_m x2), (pk_ListsOwn_7_m x3 x1), (pk_ListsOwn_8_m x3 x1)] : (List (Option (List Int))))]) (fun (p : Nat × Nat) => p.1 + p.2 = (([(pk_ListsOwn_1_m x0 x1), (pk_ListsOwn_2_m x0 x1), (pk_ListsOwn_3_m x0 x1), (pk_ListsOwn_4_m x1 x0), (pk_ListsOwn_5_m x0 x1), (pk_ListsOwn_6_m x2), (pk_ListsOwn_7_m x3 x1), (pk_ListsOwn_8_m x3 x1)] : (List (Option (List Int))))).length ∧ rangeN (pk_ListsOwn_b1 x0 x1 x2 x3) p.2 p.1 () = some y227) (fun (p : Nat × Nat) => p.2) (0, (([(pk_ListsOwn_1_m x0 x1), (pk_ListsOwn_2_m x0 x1), (pk_ListsOwn_3_m x0 x1), (pk_ListsOwn_4_m x1 x0), (pk_ListsOwn_5_m x0 x1), (pk_ListsOwn_6_m x2), (pk_ListsOwn_7_m x3 x1), (pk_ListsOwn_8_m x3 x1)] : (List (Option (List Int))))).length) ⟨by simp, h229⟩ (fun a w st => St.cut [0, 2, 3, 4, 5, 6, 7] ⟨rfl, rfl, rfl, rfl, rfl, rfl, rfl, rfl, rfl, trivial⟩ (by decide) rfl st) ?_
  rintro ⟨i234, r235⟩ ⟨h240, h239⟩
  try dsimp only at h240 h239
  refine GL.weak (env' := [(4, v9), (6, v11), (7, v12), (9, v151), (10, v156), (11, v196), (50, v198), (51, .int .i64 ((([(pk_ListsOwn_1_m x0 x1), (pk_ListsOwn_2_m x0 x1), (pk_ListsOwn_3_m x0 x1), (pk_ListsOwn_4_m x1 x0), (pk_ListsOwn_5_m x0 x1), (pk_ListsOwn_6_m x2), (pk_ListsOwn_7_m x3 x1), (pk_ListsOwn_8_m x3 x1)] : (List (Option (List Int))))).length : Int)), (52, .int .i64 (i234 : Int))]) (L' := [imm (TR.ptr (TR.sl TR.int)) v9 x0, imm (TR.ptr (TR.sl (TR.sl TR.int))) v11 x2, imm (TR.ptr (TR.sl (TR.pair TR.int TR.int))) v12 x3, own 3 TR.int v151 y137, own 24 (TR.sl TR.int) v156 y141, own 80 (TR.pair TR.int TR.int) v196 y194, own 81 (TR.thk Try.prog 3 TR.int) v198 ([(pk_ListsOwn_1_m x0 x1), (pk_ListsOwn_2_m x0 x1), (pk_ListsOwn_3_m x0 x1), (pk_ListsOwn_4_m x1 x0), (pk_ListsOwn_5_m x0 x1), (pk_ListsOwn_6_m x2), (pk_ListsOwn_7_m x3 x1), (pk_ListsOwn_8_m x3 x1)] : (List (Option (List Int))))]) (fun _ _ st => st) ?_
  refine GL.seq ?_
  refine GL.region ?_
  refine RL.binI (v := .bool (decide ((i234 : Int) < ((([(pk_ListsOwn_1_m x0 x1), (pk_ListsOwn_2_m x0 x1), (pk_ListsOwn_3_m x0 x1), (pk_ListsOwn_4_m x1 x0), (pk_ListsOwn_5_m x0 x1), (pk_ListsOwn_6_m x2), (pk_ListsOwn_7_m x3 x1), (pk_ListsOwn_8_m x3 x1)] : (List (Option (List Int))))).length : Int)))) rfl rfl rfl rfl rfl ?_
  refine RL.finG ?_
  refine GL.seq ?_
  refine GL.cond rfl (fun b242 => ?_) (fun b242 => ?_)
  ·have h243 : i234 < (([(pk_ListsOwn_1_m x0 x1), (pk_ListsOwn_2_m x0 x1), (pk_ListsOwn_3_m x0 x1), (pk_ListsOwn_4_m x1 x0), (pk_ListsOwn_5_m x0 x1), (pk_ListsOwn_6_m x2), (pk_ListsOwn_7_m x3 x1), (pk_ListsOwn_8_m x3 x1)] : (List (Option (List Int))))).length := by have := of_decide_eq_true b242; omega
   obtain ⟨r244, hr⟩ : ∃ m, r235 = m + 1 := ⟨r235 - 1, by omega⟩
   subst hr
   obtain ⟨z236, h237, h238⟩ := rangeN_some h239
   unfold pk_ListsOwn_b1 at h237
   try dsimp only at h237
   refine GL.skip ?_
   refine GL.seq ?_
   refine GL.block ?_
   refine GL.seq ?_
   refine GL.region ?_
   obtain ⟨y248, e249, h237⟩ := bind_some h237
   refine RL.idxS (sz := 1) 6 Try.underlying86 Try_ln81 rfl rfl rfl rfl rfl SlOf.own (idx_some e249).1 (idx_some e249).2.1 ?_
   refine RL.ldS (i := i234) (r := (TR.thk Try.prog 3 TR.int)) (e' := y248) 6 Try_ln81 rfl rfl rfl rfl SlOf.own (idx_some e249).2.2 Part.self ?_
   intro v250
   refine RL.asg rfl rfl rfl ?_
   refine RL.finG ?_
   refine GL.seq ?_
   refine GL.region ?_
   refine RL.mv rfl rfl rfl ?_
   obtain ⟨y256, e257, h237⟩ := bind_some h237
   refine RL.callT 7 rfl rfl rfl rfl rfl e257 ?_
   intro v258
   refine RL.reL (L' := [imm (TR.ptr (TR.sl TR.int)) v9 x0, imm (TR.ptr (TR.sl (TR.sl TR.int))) v11 x2, imm (TR.ptr (TR.sl (TR.pair TR.int TR.int))) v12 x3, own 3 TR.int v151 y137, own 24 (TR.sl TR.int) v156 y141, own 80 (TR.pair TR.int TR.int) v196 y194, own 81 (TR.thk Try.prog 3 TR.int) v198 ([(pk_ListsOwn_1_m x0 x1), (pk_ListsOwn_2_m x0 x1), (pk_ListsOwn_3_m x0 x1), (pk_ListsOwn_4_m x1 x0), (pk_ListsOwn_5_m x0 x1), (pk_ListsOwn_6_m x2), (pk_ListsOwn_7_m x3 x1), (pk_ListsOwn_8_m x3 x1)] : (List (Option (List Int)))), imm (TR.thk Try.prog 3 TR.int) v250 y248, own 3 TR.int v258 y256]) rfl ?_
   obtain ⟨y259, e260, h237⟩ := bind_some h237
   refine RL.callK (vs := [v258, .int .i64 (-7 : Int)]) (V := fun (o : Unit) => .tuple #[]) (LR := fun (o : Unit) => [own 3 TR.int v258 y259]) (Ls := [own 3 TR.int v258 y256]) [8] (by decide) Try_fit21 rfl rfl rfl rfl rfl rfl (fun S f X w hO hB hW hI hL => pk_spoil_int_c _ S X f w _ _  hO hB hI (-7 : Int) _ e260) ?_
   intro _
   refine RL.reL (L' := [imm (TR.ptr (TR.sl TR.int)) v9 x0, imm (TR.ptr (TR.sl (TR.sl TR.int))) v11 x2, imm (TR.ptr (TR.sl (TR.pair TR.int TR.int))) v12 x3, own 3 TR.int v151 y137, own 24 (TR.sl TR.int) v156 y141, own 80 (TR.pair TR.int TR.int) v196 y194, own 81 (TR.thk Try.prog 3 TR.int) v198 ([(pk_ListsOwn_1_m x0 x1), (pk_ListsOwn_2_m x0 x1), (pk_ListsOwn_3_m x0 x1), (pk_ListsOwn_4_m x1 x0), (pk_ListsOwn_5_m x0 x1), (pk_ListsOwn_6_m x2), (pk_ListsOwn_7_m x3 x1), (pk_ListsOwn_8_m x3 x1)] : (List (Option (List Int)))), imm (TR.thk Try.prog 3 TR.int) v250 y248, gone, own 3 TR.int v258 y259]) rfl ?_
   refine RL.finG ?_
   refine GL.seq ?_
   refine GL.region ?_
   refine RL.mv rfl rfl rfl ?_
   obtain ⟨y266, e267, h237⟩ := bind_some h237
   refine RL.callT 7 rfl rfl rfl rfl rfl e267 ?_
   intro v268
   obtain ⟨y269, e270, h237⟩ := bind_some h237
   refine RL.callC (v := .bool y269) (vs := [v268, .int .i64 (-7 : Int)]) Try_fit25 rfl rfl rfl rfl (fun U w hU hW hL => slices_Contains_int_int_c U w hU _ _ (hL 10 _ _ rfl Seen.own) (-7 : Int) _ e270) ?_
   refine RL.finG ?_
   refine GL.cond rfl (fun b271 => ?_) (fun b271 => ?_)
   ·replace h237 := ite_t b271 h237
    refine GL.seq ?_
    refine GL.region ?_
    refine RL.asg rfl rfl rfl ?_
    refine RL.finG ?_
    cases h237
    replace h238 : some (Fl.rt _) = some y227 := h238
    cases h238
    have hh := h232 _ h230
    subst hh
    exact GL.ret (Gx.ret (v := .bool false) (res1 rfl rfl) (fun a w st => st.toPostV))
   replace h237 := ite_f b271 h237
   refine GL.skip ?_
   refine GL.nilB ?_
   refine GL.region ?_
   refine RL.binI (v := .int .i64 ((i234 + 1 : Nat) : Int)) rfl rfl rfl rfl (binI_succ i234 (by omega)) ?_
   refine RL.mv rfl rfl rfl ?_
   refine RL.fin ?_
   cases h237
   exact fun a w st => lop_intro (i234 + 1, r244) ⟨by show i234 + 1 + r244 = (([(pk_ListsOwn_1_m x0 x1), (pk_ListsOwn_2_m x0 x1), (pk_ListsOwn_3_m x0 x1), (pk_ListsOwn_4_m x1 x0), (pk_ListsOwn_5_m x0 x1), (pk_ListsOwn_6_m x2), (pk_ListsOwn_7_m x3 x1), (pk_ListsOwn_8_m x3 x1)] : (List (Option (List Int))))).length; omega, h238⟩ (by simp) (St.cut [0, 1, 2, 3, 4, 5, 6] ⟨rfl, rfl, rfl, rfl, rfl, rfl, rfl, rfl, rfl, trivial⟩ (by decide) rfl st)
  have h243 : ¬ i234 < (([(pk_ListsOwn_1_m x0 x1), (pk_ListsOwn_2_m x0 x1), (pk_ListsOwn_3_m x0 x1), (pk_ListsOwn_4_m x1 x0), (pk_ListsOwn_5_m x0 x1), (pk_ListsOwn_6_m x2), (pk_ListsOwn_7_m x3 x1), (pk_ListsOwn_8_m x3 x1)] : (List (Option (List Int))))).length := by have := of_decide_eq_false b242; omega
  obtain rfl : r235 = 0 := by omega
  replace h239 : some (Fl.nx _) = some y227 := h239
  cases h239
  exact GL.exit (fun a w st => mid_intro () h230 (St.cut [0, 1, 2, 3, 4, 5] ⟨rfl, rfl, rfl, rfl, rfl, rfl, trivial⟩ (by decide) rfl st))
 rintro ⟨⟩ h272
 have h273 := h231 _ h272
 try dsimp only at h273
 refine GL.weak (env' := [(4, v9), (6, v11), (7, v12), (9, v151), (10, v156), (11, v196)]) (L' := [imm (TR.ptr (TR.sl TR.int)) v9 x0, imm (TR.ptr (TR.sl (TR.sl TR.int))) v11 x2, imm (TR.ptr (TR.sl (TR.pair TR.int TR.int))) v12 x3, own 3 TR.int v151 y137, own 24 (TR.sl TR.int) v156 y141, own 80 (TR.pair TR.int TR.int) v196 y194]) (fun _ _ st => st) ?_
 refine GL.seq ?_
 obtain ⟨y297, K298, h299, h300, h301, h302, h303⟩ := bindR_K h273
 refine GL.join (ι := Bool) (fun (p : Bool) => [(8, .bool p)]) (fun (p : Bool) => []) (fun (p : Bool) => K298 (.nx p)) ?_ ?_
 ·skip
  refine GL.region ?_
  refine RL.ldP (off := 0) (r := (TR.sl TR.int)) (e' := x0) 0 Try_ln24 rfl rfl (Or.inr ⟨rfl, rfl⟩) rfl PtOf.imm Part.self ?_
  intro v304
  refine RL.mv rfl rfl rfl ?_
  obtain ⟨y305, e306, h299⟩ := bind_some h299
  refine RL.callV (v := .bool y305) (vs := [v304, v151]) Try_fit22 rfl (Or.inl rfl) rfl rfl rfl rfl (fun U w hU hW hL => slices_Equal_int_int_c U w hU _ _ (hL 6 _ _ rfl Seen.imm) _ _ (hL 3 _ _ rfl Seen.own) _ e306) ?_
  refine RL.mv rfl rfl rfl ?_
  refine RL.split (t := 66) rfl (fun b307 => ?_) (fun b307 => ?_)
  ·replace h299 := ite_t b307 h299
   refine RL.ldP (off := 0) (r := (TR.sl (TR.sl TR.int))) (e' := x2) 1 Try_ln37 rfl rfl (Or.inr ⟨rfl, rfl⟩) rfl PtOf.imm Part.self ?_
   intro v308
   refine RL.reL (L' := [imm (TR.ptr (TR.sl TR.int)) v9 x0, imm (TR.ptr (TR.sl (TR.sl TR.int))) v11 x2, imm (TR.ptr (TR.sl (TR.pair TR.int TR.int))) v12 x3, own 3 TR.int v151 y137, own 24 (TR.sl TR.int) v156 y141, own 80 (TR.pair TR.int TR.int) v196 y194, imm (TR.sl TR.int) v304 x0, imm (TR.sl (TR.sl TR.int)) v308 x2]) rfl ?_
   refine RL.mv rfl rfl rfl ?_
   obtain ⟨y309, e310, h299⟩ := bind_some h299
   refine RL.callV (v := .bool y309) (vs := [v308, v156]) Try_fit39 rfl (Or.inl rfl) rfl rfl rfl rfl (fun U w hU hW hL => pk_sameRows_c U w hU _ _ (hL 7 _ _ rfl Seen.imm) _ _ (hL 4 _ _ rfl Seen.own) _ e310) ?_
   refine RL.pickT rfl rfl rfl rfl ?_
   refine RL.mv rfl rfl rfl ?_
   refine RL.split (t := 71) rfl (fun b311 => ?_) (fun b311 => ?_)
   ·replace h299 := ite_t b311 h299
    refine RL.ldP (off := 0) (r := (TR.sl (TR.pair TR.int TR.int))) (e' := x3) 2 Try_ln77 rfl rfl (Or.inr ⟨rfl, rfl⟩) rfl PtOf.imm Part.self ?_
    intro v312
    refine RL.mv rfl rfl rfl ?_
    obtain ⟨y313, e314, h299⟩ := bind_some h299
    refine RL.callV (v := .bool y313) (vs := [v312, v196]) Try_fit73 rfl (Or.inl rfl) rfl rfl rfl rfl (fun U w hU hW hL => slices_Equal_api_Item_api_Item_c U w hU _ _ (hL 8 _ _ rfl Seen.imm) _ _ (hL 5 _ _ rfl Seen.own) _ e314) ?_
    refine RL.pickT rfl rfl rfl rfl ?_
    refine RL.asg rfl rfl rfl ?_
    refine RL.fin ?_
    cases h299
    exact fun a w st => mid_intro y313 h300 (St.cut [] ⟨rfl, trivial⟩ (by decide) rfl st)
   replace h299 := ite_f b311 h299
   refine RL.skip rfl rfl ?_
   refine RL.skip rfl rfl ?_
   refine RL.skip rfl rfl ?_
   refine RL.pickF rfl rfl rfl rfl ?_
   refine RL.asg rfl rfl rfl ?_
   refine RL.fin ?_
   cases h299
   exact fun a w st => mid_intro false h300 (St.cut [] ⟨rfl, trivial⟩ (by decide) rfl st)
  replace h299 := ite_f b307 h299
  refine RL.skip rfl rfl ?_
  refine RL.skip rfl rfl ?_
  refine RL.skip rfl rfl ?_
  refine RL.pickF rfl rfl rfl rfl ?_
  refine RL.mv rfl rfl rfl ?_
  refine RL.skip rfl rfl ?_
  refine RL.skip rfl rfl ?_
  refine RL.skip rfl rfl ?_
  refine RL.pickF rfl rfl rfl rfl ?_
  refine RL.asg rfl rfl rfl ?_
  refine RL.fin ?_
  cases h299
  exact fun a w st => mid_intro false h300 (St.cut [] ⟨rfl, trivial⟩ (by decide) rfl st)
 rintro x296 h315
 have h316 := h301 _ h315
 try dsimp only at h316
 refine GL.weak (env' := [(8, .bool x296)]) (L' := []) (fun _ _ st => st) ?_
 have h316 := Option.some.inj h316
 subst h316
 exact GL.ret (Gx.ret (v := .bool x296) (res1 rfl rfl) (fun a w st => st.toPostV))
end Go.Wk
