/- Each function comes to what its model says; printed by a program of this repository. -/
import Derived.Test.YtocimbokgngofaaProg
import Derived.Test.YtocimbokgngofaaWMixedOtherModels
import Derived.Test.YtocimbokgngofaaWMixedOtherWalks1
namespace Go.Wk
open Go.Fw Go.Mo Go.Proofs Go.RowKit
set_option linter.all false
set_option maxRecDepth 100000

set_option maxHeartbeats 4000000 in
theorem pk_mixes_c (S : Hp) (w : World) (hS : S.sub w)  (res : Bool) (hm : pk_mixes_m = some res) : Calls Try.prog 14 #[] w (PostV w (.bool res)) := by
 refine calls_enter 24 Try.func14 Try.ntmps14 rfl S false [] [] rfl trivial hS trivial ?_
 unfold pk_mixes_m at hm
 refine GL.seq ?_
 refine GL.region ?_
 refine RL.asg rfl rfl rfl ?_
 refine RL.finG ?_
 refine GL.seq ?_
 refine GL.region ?_
 refine RL.bS (t := TR.int) (vs := [.int .i64 (1 : Int), .int .i64 (-1 : Int)]) ([(1 : Int), (-1 : Int)] : (List Int)) Try.underlying32 Try_lo3 rfl rfl rfl rfl ⟨VR.int, ⟨VR.int, trivial⟩⟩ rfl (by decide) ?_
 intro v10
 refine RL.bS (t := TR.int) (vs := [.int .i64 (-1 : Int), .int .i64 (1 : Int)]) ([(-1 : Int), (1 : Int)] : (List Int)) Try.underlying32 Try_lo3 rfl rfl rfl rfl ⟨VR.int, ⟨VR.int, trivial⟩⟩ rfl (by decide) ?_
 intro v11
 refine RL.reL (L' := [own 3 TR.int v10 ([(1 : Int), (-1 : Int)] : (List Int)), own 3 TR.int v11 ([(-1 : Int), (1 : Int)] : (List Int))]) rfl ?_
 refine RL.weak (fun a w st => st.freeze 0 rfl) ?_
 refine RL.weak (fun a w st => st.freeze 1 rfl) ?_
 refine RL.bS (t := (TR.sl TR.int)) (vs := [v10, v11]) ([([(1 : Int), (-1 : Int)] : (List Int)), ([(-1 : Int), (1 : Int)] : (List Int))] : (List (List Int))) Try.underlying22 Try_lo32 rfl rfl rfl rfl ⟨(VR.item 0 rfl), ⟨(VR.item 1 rfl), trivial⟩⟩ rfl (by decide) ?_
 intro v12
 refine RL.reL (L' := [imm (TR.sl TR.int) v10 ([(1 : Int), (-1 : Int)] : (List Int)), imm (TR.sl TR.int) v11 ([(-1 : Int), (1 : Int)] : (List Int)), own 32 (TR.sl TR.int) v12 ([([(1 : Int), (-1 : Int)] : (List Int)), ([(-1 : Int), (1 : Int)] : (List Int))] : (List (List Int)))]) rfl ?_
 refine RL.weak (fun a w st => st.freeze 2 rfl) ?_
 obtain ⟨y13, e14, hm⟩ := bind_some hm
 refine RL.call (vs := [v12]) Try_fit16 rfl rfl rfl rfl rfl (fun S f w hS hW hi => mixed_Solve_c S w hS _ _ (hi 2 _ rfl) _ e14) ?_
 intro ⟨v15, v16⟩
 refine RL.reL (L' := [imm (TR.sl TR.int) v10 ([(1 : Int), (-1 : Int)] : (List Int)), imm (TR.sl TR.int) v11 ([(-1 : Int), (1 : Int)] : (List Int)), imm (TR.sl (TR.sl TR.int)) v12 ([([(1 : Int), (-1 : Int)] : (List Int)), ([(-1 : Int), (1 : Int)] : (List Int))] : (List (List Int))), imm (TR.pair TR.int TR.int) v15 y13.1, imm (TR.pair TR.int TR.int) v16 y13.2.1]) rfl ?_
 refine RL.mv rfl rfl rfl ?_
 refine RL.ext rfl rfl rfl rfl ?_
 refine RL.ext rfl rfl rfl rfl ?_
 refine RL.ext rfl rfl rfl rfl ?_
 refine RL.alloc (t := (TR.pair TR.int TR.int)) (z := ((0 : Int), (0 : Int))) Try_lo26 (fun S => ⟨[.int .i64 0], _, rfl, rfl, rfl⟩) rfl rfl rfl ?_
 intro v17
 refine RL.alloc (t := (TR.pair TR.int TR.int)) (z := ((0 : Int), (0 : Int))) Try_lo26 (fun S => ⟨[.int .i64 0], _, rfl, rfl, rfl⟩) rfl rfl rfl ?_
 intro v18
 refine RL.reL (L' := [imm (TR.sl TR.int) v10 ([(1 : Int), (-1 : Int)] : (List Int)), imm (TR.sl TR.int) v11 ([(-1 : Int), (1 : Int)] : (List Int)), imm (TR.sl (TR.sl TR.int)) v12 ([([(1 : Int), (-1 : Int)] : (List Int)), ([(-1 : Int), (1 : Int)] : (List Int))] : (List (List Int))), imm (TR.pair TR.int TR.int) v15 y13.1, imm (TR.pair TR.int TR.int) v16 y13.2.1, obox 26 (TR.pair TR.int TR.int) v17 ((0 : Int), (0 : Int)), obox 26 (TR.pair TR.int TR.int) v18 ((0 : Int), (0 : Int))]) rfl ?_
 refine RL.stP (off := 0) (e' := y13.1) (d1 := y13.1) (r := (TR.pair TR.int TR.int)) 5 Try_ln26 rfl rfl (Or.inr ⟨rfl, rfl⟩) rfl (VR.item 3 rfl) rfl Upd.self ?_
 refine RL.stP (off := 0) (e' := y13.2.1) (d1 := y13.2.1) (r := (TR.pair TR.int TR.int)) 6 Try_ln26 rfl rfl (Or.inr ⟨rfl, rfl⟩) rfl (VR.item 4 rfl) rfl Upd.self ?_
 refine RL.reL (L' := [imm (TR.sl TR.int) v10 ([(1 : Int), (-1 : Int)] : (List Int)), imm (TR.sl TR.int) v11 ([(-1 : Int), (1 : Int)] : (List Int)), imm (TR.sl (TR.sl TR.int)) v12 ([([(1 : Int), (-1 : Int)] : (List Int)), ([(-1 : Int), (1 : Int)] : (List Int))] : (List (List Int))), imm (TR.pair TR.int TR.int) v15 y13.1, imm (TR.pair TR.int TR.int) v16 y13.2.1, obox 26 (TR.pair TR.int TR.int) v17 y13.1, obox 26 (TR.pair TR.int TR.int) v18 y13.2.1]) rfl ?_
 refine RL.asg rfl rfl rfl ?_
 refine RL.finG ?_
 refine GL.seq ?_
 obtain ⟨y32, K33, h34, h35, h36, h37, h38⟩ := bindR_K hm
 refine GL.join (ι := Bool) (fun (p : Bool) => [(0, .bool p)]) (fun (p : Bool) => []) (fun (p : Bool) => K33 (.nx p)) ?_ ?_
 ·skip
  refine GL.region ?_
  refine RL.mv rfl rfl rfl ?_
  refine RL.binI (v := .bool (y13.2.2 == (0 : Int))) rfl rfl rfl rfl rfl ?_
  refine RL.mv rfl rfl rfl ?_
  refine RL.split (t := 14) rfl (fun b39 => ?_) (fun b39 => ?_)
  ·replace h34 := ite_t b39 h34
   refine RL.ldP (off := 0) (r := (TR.pair TR.int TR.int)) (e' := y13.1) 5 Try_ln26 rfl rfl (Or.inr ⟨rfl, rfl⟩) rfl PtOf.obox Part.self ?_
   intro v40
   refine RL.bld (t := (TR.pair TR.int TR.int)) (d0 := (((1 : Int), (2 : Int)) : (Int × Int))) (pv := [(0, .int .i64 (1 : Int)), (1, .int .i64 (2 : Int))]) rfl Try_bld26 rfl rfl rfl ⟨⟨_, _, TR.int, (1 : Int), rfl, rfl, VR.int⟩, ⟨⟨_, _, TR.int, (2 : Int), rfl, rfl, VR.int⟩, trivial⟩⟩ (fun S f hi => by
     obtain ⟨c0, e0, r0⟩ := cells_vrep (t := TR.int) (u := .int .i64 (1 : Int)) (e := (1 : Int)) (VR.int S f hi)
     obtain ⟨c1, e1, r1⟩ := cells_vrep (t := TR.int) (u := .int .i64 (2 : Int)) (e := (2 : Int)) (VR.int S f hi)
     show TR.rep (TR.pair TR.int TR.int) S (List.flatten [(.int .i64 (1 : Int) : Value).cells.toList, (.int .i64 (2 : Int) : Value).cells.toList]) _
     simp only [e0, e1,  List.flatten_cons, List.flatten_nil, List.append_nil]
     exact ⟨_, _, rfl, r0, r1⟩) ?_
   intro v41
   refine RL.reL (L' := [imm (TR.sl TR.int) v10 ([(1 : Int), (-1 : Int)] : (List Int)), imm (TR.sl TR.int) v11 ([(-1 : Int), (1 : Int)] : (List Int)), imm (TR.sl (TR.sl TR.int)) v12 ([([(1 : Int), (-1 : Int)] : (List Int)), ([(-1 : Int), (1 : Int)] : (List Int))] : (List (List Int))), imm (TR.pair TR.int TR.int) v15 y13.1, imm (TR.pair TR.int TR.int) v16 y13.2.1, obox 26 (TR.pair TR.int TR.int) v17 y13.1, obox 26 (TR.pair TR.int TR.int) v18 y13.2.1, imm (TR.pair TR.int TR.int) v40 y13.1, imm (TR.pair TR.int TR.int) v41 (((1 : Int), (2 : Int)) : (Int × Int))]) rfl ?_
   refine RL.eqG (t := (TR.pair TR.int TR.int)) (e := y13.1) (e' := (((1 : Int), (2 : Int)) : (Int × Int))) rfl Try_eq26 (by decide) Try.eqGuardType26 rfl rfl rfl rfl (VR.item 7 rfl) (VR.item 8 rfl) ?_
   refine RL.pickT rfl rfl rfl rfl ?_
   refine RL.mv rfl rfl rfl ?_
   refine RL.split (t := 19) rfl (fun b42 => ?_) (fun b42 => ?_)
   ·replace h34 := ite_t b42 h34
    refine RL.ldP (off := 0) (r := (TR.pair TR.int TR.int)) (e' := y13.2.1) 6 Try_ln26 rfl rfl (Or.inr ⟨rfl, rfl⟩) rfl PtOf.obox Part.self ?_
    intro v43
    refine RL.bld (t := (TR.pair TR.int TR.int)) (d0 := (((0 : Int), (1 : Int)) : (Int × Int))) (pv := [(1, .int .i64 (1 : Int))]) rfl Try_bld26 rfl rfl rfl ⟨⟨_, _, TR.int, (1 : Int), rfl, rfl, VR.int⟩, trivial⟩ (fun S f hi => by
      obtain ⟨c1, e1, r1⟩ := cells_vrep (t := TR.int) (u := .int .i64 (1 : Int)) (e := (1 : Int)) (VR.int S f hi)
      show TR.rep (TR.pair TR.int TR.int) S (List.flatten [[.int .i64 0], (.int .i64 (1 : Int) : Value).cells.toList]) _
      simp only [e1,  List.flatten_cons, List.flatten_nil, List.append_nil]
      exact ⟨_, _, rfl, rfl, r1⟩) ?_
    intro v44
    refine RL.reL (L' := [imm (TR.sl TR.int) v10 ([(1 : Int), (-1 : Int)] : (List Int)), imm (TR.sl TR.int) v11 ([(-1 : Int), (1 : Int)] : (List Int)), imm (TR.sl (TR.sl TR.int)) v12 ([([(1 : Int), (-1 : Int)] : (List Int)), ([(-1 : Int), (1 : Int)] : (List Int))] : (List (List Int))), imm (TR.pair TR.int TR.int) v15 y13.1, imm (TR.pair TR.int TR.int) v16 y13.2.1, obox 26 (TR.pair TR.int TR.int) v17 y13.1, obox 26 (TR.pair TR.int TR.int) v18 y13.2.1, imm (TR.pair TR.int TR.int) v40 y13.1, imm (TR.pair TR.int TR.int) v41 (((1 : Int), (2 : Int)) : (Int × Int)), imm (TR.pair TR.int TR.int) v43 y13.2.1, imm (TR.pair TR.int TR.int) v44 (((0 : Int), (1 : Int)) : (Int × Int))]) rfl ?_
    refine RL.eqG (t := (TR.pair TR.int TR.int)) (e := y13.2.1) (e' := (((0 : Int), (1 : Int)) : (Int × Int))) rfl Try_eq26 (by decide) Try.eqGuardType26 rfl rfl rfl rfl (VR.item 9 rfl) (VR.item 10 rfl) ?_
    refine RL.pickT rfl rfl rfl rfl ?_
    refine RL.asg rfl rfl rfl ?_
    refine RL.fin ?_
    cases h34
    exact fun a w st => mid_intro (decide (y13.2.1 = (((0 : Int), (1 : Int)) : (Int × Int)))) h35 (St.cut [] ⟨rfl, trivial⟩ (by decide) rfl st)
   replace h34 := ite_f b42 h34
   refine RL.skip rfl rfl ?_
   refine RL.skip rfl rfl ?_
   refine RL.skip rfl rfl ?_
   refine RL.pickF rfl rfl rfl rfl ?_
   refine RL.asg rfl rfl rfl ?_
   refine RL.fin ?_
   cases h34
   exact fun a w st => mid_intro false h35 (St.cut [] ⟨rfl, trivial⟩ (by decide) rfl st)
  replace h34 := ite_f b39 h34
  refine RL.skip rfl rfl ?_
  refine RL.skip rfl rfl ?_
  refine RL.skip rfl rfl ?_
  refine RL.pickF rfl rfl rfl rfl ?_
  refine RL.mv rfl rfl rfl ?_
  refine RL.skip rfl rfl ?_
  refine RL.skip rfl rfl ?_
  refine RL.skip rfl rfl ?_
  refine RL.pickF rfl rfl rfl rfl ?_
  refine RL.asg rfl rfl rfl ?_
  refine RL.fin ?_
  cases h34
  exact fun a w st => mid_intro false h35 (St.cut [] ⟨rfl, trivial⟩ (by decide) rfl st)
 rintro x31 h45
 have h46 := h36 _ h45
 try dsimp only at h46
 refine GL.weak (env' := [(0, .bool x31)]) (L' := []) (fun _ _ st => st) ?_
 have h46 := Option.some.inj h46
 subst h46
 exact GL.ret (Gx.ret (v := .bool x31) (res1 rfl rfl) (fun a w st => st.toPostV))

set_option maxHeartbeats 4000000 in
theorem pk_two_c (S : Hp) (w : World) (hS : S.sub w) (v0 : Value) (x0 : (List (List Int))) (k0 : ((TR.sl (TR.sl TR.int))).vrep S v0 x0) (res : (List (List Int))) (hm : pk_two_m x0 = some res) : Calls Try.prog 15 #[v0] w (Post w S (fun (o : Value) => o) (fun (o : Value) => [imm (TR.sl (TR.sl TR.int)) o res])) := by
 refine calls_enter 9 Try.func15 Try.ntmps15 rfl S false [(0, v0)] [imm (TR.sl (TR.sl TR.int)) v0 x0] rfl ⟨rfl, trivial⟩ hS ⟨k0, trivial⟩ ?_
 unfold pk_two_m at hm
 refine GL.seq ?_
 refine GL.region ?_
 refine RL.asg rfl rfl rfl ?_
 refine RL.finG ?_
 refine GL.seq ?_
 refine GL.seq ?_
 refine GL.region ?_
 refine RL.mv rfl rfl rfl ?_
 refine RL.lenS 0 Try.underlying22 rfl rfl rfl rfl SlOf.imm ?_
 refine RL.binI (v := .bool (decide (((x0).length : Int) > (2 : Int)))) rfl rfl rfl rfl rfl ?_
 refine RL.finG ?_
 refine GL.cond rfl (fun b2 => ?_) (fun b2 => ?_)
 ·replace hm := ite_t b2 hm
  refine GL.seq ?_
  refine GL.region ?_
  refine RL.mv rfl rfl rfl ?_
  obtain ⟨y6, e7, hm⟩ := bind_some hm
  replace e7 := chk_some e7
  refine RL.slc (t := (TR.sl TR.int)) (i := 0) (j := ((2 : Int)).toNat) (sz := 1) 0 Try.underlying22 Try_ln32 rfl rfl rfl rfl (Or.inl ⟨rfl, rfl⟩) (Or.inr ⟨_, _, rfl, by rw [Int.toNat_of_nonneg (by omega)]; rfl⟩) rfl (by omega) (by omega) ?_
  intro v8
  refine RL.asg rfl rfl rfl ?_
  refine RL.finG ?_
  have hm := Option.some.inj hm
  subst hm
  exact GL.ret (Gx.ret (v := v8) (res1 rfl rfl) (fun a w st => (st.pick [1] (by decide) rfl).toPost v8))
 replace hm := ite_f b2 hm
 refine GL.skip ?_
 refine GL.seq ?_
 refine GL.region ?_
 refine RL.mv rfl rfl rfl ?_
 refine RL.asg rfl rfl rfl ?_
 refine RL.finG ?_
 have hm := Option.some.inj hm
 subst hm
 exact GL.ret (Gx.ret (v := v0) (res1 rfl rfl) (fun a w st => (st.pick [0] (by decide) rfl).toPost v0))

set_option maxHeartbeats 4000000 in
theorem pk_MixedOther_c (S : Hp) (w : World) (hS : S.sub w) (v0 : Value) (x0 : (List (List Int))) (k0 : ((TR.sl (TR.sl TR.int))).vrep S v0 x0) (res : Bool) (hm : pk_MixedOther_m x0 = some res) : Calls Try.prog 4 #[v0] w (PostV w (.bool res)) := by
 refine calls_enter 156 Try.func4 Try.ntmps4 rfl S false [(0, v0)] [imm (TR.sl (TR.sl TR.int)) v0 x0] rfl ⟨rfl, trivial⟩ hS ⟨k0, trivial⟩ ?_
 unfold pk_MixedOther_m at hm
 refine GL.seq ?_
 refine GL.region ?_
 refine RL.asg rfl rfl rfl ?_
 refine RL.finG ?_
 refine GL.seq ?_
 refine GL.seq ?_
 refine GL.region ?_
 obtain ⟨y4, e5, hm⟩ := bind_some hm
 refine RL.callV (v := .bool y4) (vs := []) Try_fit14 rfl (Or.inl rfl) rfl rfl rfl rfl (fun U w hU hW hL => pk_mixes_c U w hU  _ e5) ?_
 refine RL.notB rfl rfl rfl ?_
 refine RL.finG ?_
 refine GL.cond rfl (fun b6 => ?_) (fun b6 => ?_)
 ·replace hm := ite_t b6 hm
  refine GL.seq ?_
  refine GL.region ?_
  refine RL.asg rfl rfl rfl ?_
  refine RL.finG ?_
  have hm := Option.some.inj hm
  subst hm
  exact GL.ret (Gx.ret (v := .bool false) (res1 rfl rfl) (fun a w st => st.toPostV))
 replace hm := ite_f b6 hm
 refine GL.skip ?_
 refine GL.seq ?_
 refine GL.region ?_
 refine RL.mv rfl rfl rfl ?_
 obtain ⟨y10, e11, hm⟩ := bind_some hm
 refine RL.call (vs := [v0]) Try_fit15 rfl rfl rfl rfl rfl (fun S f w hS hW hi => pk_two_c S w hS _ _ (hi 0 _ rfl) _ e11) ?_
 intro v12
 refine RL.asg rfl rfl rfl ?_
 refine RL.finG ?_
 refine GL.seq ?_
 refine GL.region ?_
 refine RL.mv rfl rfl rfl ?_
 obtain ⟨y19, e20, hm⟩ := bind_some hm
 refine RL.call (vs := [v12]) Try_fit16 rfl rfl rfl rfl rfl (fun S f w hS hW hi => mixed_Solve_c S w hS _ _ (hi 1 _ rfl) _ e20) ?_
 intro ⟨v21, v22⟩
 refine RL.reL (L' := [imm (TR.sl (TR.sl TR.int)) v0 x0, imm (TR.sl (TR.sl TR.int)) v12 y10, imm (TR.pair TR.int TR.int) v21 y19.1, imm (TR.pair TR.int TR.int) v22 y19.2.1]) rfl ?_
 refine RL.mv rfl rfl rfl ?_
 refine RL.ext rfl rfl rfl rfl ?_
 refine RL.ext rfl rfl rfl rfl ?_
 refine RL.ext rfl rfl rfl rfl ?_
 refine RL.alloc (t := (TR.pair TR.int TR.int)) (z := ((0 : Int), (0 : Int))) Try_lo26 (fun S => ⟨[.int .i64 0], _, rfl, rfl, rfl⟩) rfl rfl rfl ?_
 intro v23
 refine RL.alloc (t := (TR.pair TR.int TR.int)) (z := ((0 : Int), (0 : Int))) Try_lo26 (fun S => ⟨[.int .i64 0], _, rfl, rfl, rfl⟩) rfl rfl rfl ?_
 intro v24
 refine RL.reL (L' := [imm (TR.sl (TR.sl TR.int)) v0 x0, imm (TR.sl (TR.sl TR.int)) v12 y10, imm (TR.pair TR.int TR.int) v21 y19.1, imm (TR.pair TR.int TR.int) v22 y19.2.1, obox 26 (TR.pair TR.int TR.int) v23 ((0 : Int), (0 : Int)), obox 26 (TR.pair TR.int TR.int) v24 ((0 : Int), (0 : Int))]) rfl ?_
 refine RL.stP (off := 0) (e' := y19.1) (d1 := y19.1) (r := (TR.pair TR.int TR.int)) 4 Try_ln26 rfl rfl (Or.inr ⟨rfl, rfl⟩) rfl (VR.item 2 rfl) rfl Upd.self ?_
 refine RL.stP (off := 0) (e' := y19.2.1) (d1 := y19.2.1) (r := (TR.pair TR.int TR.int)) 5 Try_ln26 rfl rfl (Or.inr ⟨rfl, rfl⟩) rfl (VR.item 3 rfl) rfl Upd.self ?_
 refine RL.reL (L' := [imm (TR.sl (TR.sl TR.int)) v0 x0, imm (TR.sl (TR.sl TR.int)) v12 y10, imm (TR.pair TR.int TR.int) v21 y19.1, imm (TR.pair TR.int TR.int) v22 y19.2.1, obox 26 (TR.pair TR.int TR.int) v23 y19.1, obox 26 (TR.pair TR.int TR.int) v24 y19.2.1]) rfl ?_
 refine RL.asg rfl rfl rfl ?_
 refine RL.finG ?_
 refine GL.seq ?_
 refine GL.seq ?_
 refine GL.region ?_
 refine RL.mv rfl rfl rfl ?_
 refine RL.binI (v := .bool (y19.2.2 != (0 : Int))) rfl rfl rfl rfl rfl ?_
 refine RL.finG ?_
 refine GL.cond rfl (fun b25 => ?_) (fun b25 => ?_)
 ·replace hm := ite_t b25 hm
  refine GL.seq ?_
  refine GL.region ?_
  refine RL.ldP (off := 0) (r := (TR.pair TR.int TR.int)) (e' := y19.2.1) 5 Try_ln26 rfl rfl (Or.inr ⟨rfl, rfl⟩) rfl PtOf.obox Part.self ?_
  intro v28
  refine RL.bld (t := (TR.pair TR.int TR.int)) (d0 := (((0 : Int), (0 : Int)) : (Int × Int))) (pv := []) rfl Try_bld26 rfl rfl rfl trivial (fun S f hi => by
    show TR.rep (TR.pair TR.int TR.int) S (List.flatten [[.int .i64 0], [.int .i64 0]]) _
    simp only [ List.flatten_cons, List.flatten_nil, List.append_nil]
    exact ⟨_, _, rfl, rfl, rfl⟩) ?_
  intro v29
  refine RL.reL (L' := [imm (TR.sl (TR.sl TR.int)) v0 x0, imm (TR.sl (TR.sl TR.int)) v12 y10, imm (TR.pair TR.int TR.int) v21 y19.1, imm (TR.pair TR.int TR.int) v22 y19.2.1, obox 26 (TR.pair TR.int TR.int) v23 y19.1, obox 26 (TR.pair TR.int TR.int) v24 y19.2.1, imm (TR.pair TR.int TR.int) v28 y19.2.1, imm (TR.pair TR.int TR.int) v29 (((0 : Int), (0 : Int)) : (Int × Int))]) rfl ?_
  refine RL.eqG (t := (TR.pair TR.int TR.int)) (e := y19.2.1) (e' := (((0 : Int), (0 : Int)) : (Int × Int))) rfl Try_eq26 (by decide) Try.eqGuardType26 rfl rfl rfl rfl (VR.item 6 rfl) (VR.item 7 rfl) ?_
  refine RL.asg rfl rfl rfl ?_
  refine RL.finG ?_
  have hm := Option.some.inj hm
  subst hm
  exact GL.ret (Gx.ret (v := .bool (decide (y19.2.1 = (((0 : Int), (0 : Int)) : (Int × Int))))) (res1 rfl rfl) (fun a w st => st.toPostV))
 replace hm := ite_f b25 hm
 refine GL.skip ?_
 refine GL.seq ?_
 refine GL.region ?_
 refine RL.mv rfl rfl rfl ?_
 obtain ⟨y33, e34, hm⟩ := bind_some hm
 refine RL.idxS (sz := 1) 1 Try.underlying22 Try_ln32 rfl rfl rfl rfl rfl SlOf.imm (idx_some e34).1 (idx_some e34).2.1 ?_
 refine RL.ldS (i := ((0 : Int)).toNat) (r := (TR.sl TR.int)) (e' := y33) 1 Try_ln32 rfl rfl rfl rfl SlOf.imm (idx_some e34).2.2 Part.self ?_
 intro v35
 refine RL.lenS 6 Try.underlying32 rfl rfl rfl rfl SlOf.imm ?_
 refine RL.asg rfl rfl rfl ?_
 refine RL.finG ?_
 refine GL.seq ?_
 refine GL.seq ?_
 refine GL.region ?_
 refine RL.mv rfl rfl rfl ?_
 refine RL.mv rfl rfl rfl ?_
 refine RL.finG ?_
 refine GL.open_ 6 rfl (fun S h => len_imm S h) (fun n455 => ?_)
 obtain ⟨y456, K457, h458, h459, h460, h461, h462⟩ := bindR_K hm
 refine GL.join (ι := Unit) (fun (p : Unit) => []) (fun (p : Unit) => []) (fun (p : Unit) => K457 (.nx ())) ?_ ?_
 ·refine GL.block ?_
  refine GL.loop (ι := Nat × (List Int)) (fun (p : Nat × (List Int)) => [(0, v12), (4, v24), (6, .int .i64 ((y33).length : Int)), (39, .int .i64 ((y33).length : Int)), (40, .int .i64 (p.1 : Int))]) (fun (p : Nat × (List Int)) => [imm (TR.sl (TR.sl TR.int)) v12 y10, obox 26 (TR.pair TR.int TR.int) v24 y19.2.1]) (fun (p : Nat × (List Int)) => p.1 + p.2.length = (y33).length ∧ List.drop p.1 y33 = p.2 ∧ rangeL (pk_MixedOther_b1 y33 y10 y19) p.2 p.1 () = some y456) (fun (p : Nat × (List Int)) => p.2.length) (0, y33) ⟨by simp, by simp, h458⟩ (fun a w st => St.cut [1, 5] ⟨rfl, rfl, rfl, rfl, rfl, trivial⟩ (by decide) rfl st) ?_
  rintro ⟨i463, r464⟩ ⟨h469, h470, h468⟩
  try dsimp only at h469 h470 h468
  refine GL.weak (env' := [(0, v12), (4, v24), (6, .int .i64 ((y33).length : Int)), (39, .int .i64 ((y33).length : Int)), (40, .int .i64 (i463 : Int))]) (L' := [imm (TR.sl (TR.sl TR.int)) v12 y10, obox 26 (TR.pair TR.int TR.int) v24 y19.2.1]) (fun _ _ st => st) ?_
  refine GL.seq ?_
  refine GL.region ?_
  refine RL.binI (v := .bool (decide ((i463 : Int) < ((y33).length : Int)))) rfl rfl rfl rfl rfl ?_
  refine RL.finG ?_
  refine GL.seq ?_
  refine GL.cond rfl (fun b471 => ?_) (fun b471 => ?_)
  ·have h472 : i463 < (y33).length := by have := of_decide_eq_true b471; omega
   obtain ⟨y473, r475, hr, e474, h476⟩ := drop_cons h470 rfl h472
   subst hr
   obtain ⟨z465, h466, h467⟩ := rangeL_some h468
   unfold pk_MixedOther_b1 at h466
   try dsimp only at h466
   refine GL.skip ?_
   refine GL.seq ?_
   refine GL.block ?_
   refine GL.seq ?_
   refine GL.region ?_
   refine RL.mv rfl rfl rfl ?_
   refine RL.asg rfl rfl rfl ?_
   refine RL.finG ?_
   refine GL.seq ?_
   refine GL.region ?_
   refine RL.mv rfl rfl rfl ?_
   refine RL.mv rfl rfl rfl ?_
   refine RL.finG ?_
   obtain ⟨y676, e677, h466⟩ := bind_some h466
   replace e677 := chk_some e677
   obtain ⟨y678, K679, h680, h681, h682, h683, h684⟩ := bindF_K h466
   refine GL.join (ι := Unit) (fun (p : Unit) => [(0, v12), (4, v24), (6, .int .i64 ((y33).length : Int)), (39, .int .i64 ((y33).length : Int)), (40, .int .i64 (i463 : Int))]) (fun (p : Unit) => [imm (TR.sl (TR.sl TR.int)) v12 y10, obox 26 (TR.pair TR.int TR.int) v24 y19.2.1]) (fun (p : Unit) => K679 (.nx ())) ?_ ?_
   ·refine GL.block ?_
    refine GL.loop (ι := Nat × Nat) (fun (p : Nat × Nat) => [(0, v12), (4, v24), (6, .int .i64 ((y33).length : Int)), (7, .int .i64 (i463 : Int)), (39, .int .i64 ((y33).length : Int)), (40, .int .i64 (i463 : Int)), (43, .int .i64 ((y33).length : Int)), (44, .int .i64 (p.1 : Int))]) (fun (p : Nat × Nat) => [imm (TR.sl (TR.sl TR.int)) v12 y10, obox 26 (TR.pair TR.int TR.int) v24 y19.2.1]) (fun (p : Nat × Nat) => p.1 + p.2 = (((y33).length : Int)).toNat ∧ rangeN (pk_MixedOther_b2 y10 i463 y19) p.2 p.1 () = some y678) (fun (p : Nat × Nat) => p.2) (0, (((y33).length : Int)).toNat) ⟨by simp, h680⟩ (fun a w st => St.cut [0, 1] ⟨rfl, rfl, rfl, rfl, rfl, rfl, rfl, rfl, trivial⟩ (by decide) rfl st) ?_
    rintro ⟨i685, r686⟩ ⟨h691, h690⟩
    try dsimp only at h691 h690
    refine GL.weak (env' := [(0, v12), (4, v24), (6, .int .i64 ((y33).length : Int)), (7, .int .i64 (i463 : Int)), (39, .int .i64 ((y33).length : Int)), (40, .int .i64 (i463 : Int)), (43, .int .i64 ((y33).length : Int)), (44, .int .i64 (i685 : Int))]) (L' := [imm (TR.sl (TR.sl TR.int)) v12 y10, obox 26 (TR.pair TR.int TR.int) v24 y19.2.1]) (fun _ _ st => st) ?_
    refine GL.seq ?_
    refine GL.region ?_
    refine RL.binI (v := .bool (decide ((i685 : Int) < ((y33).length : Int)))) rfl rfl rfl rfl rfl ?_
    refine RL.finG ?_
    refine GL.seq ?_
    refine GL.cond rfl (fun b693 => ?_) (fun b693 => ?_)
    ·have h694 : i685 < (((y33).length : Int)).toNat := by have := of_decide_eq_true b693; omega
     obtain ⟨r695, hr⟩ : ∃ m, r686 = m + 1 := ⟨r686 - 1, by omega⟩
     subst hr
     obtain ⟨z687, h688, h689⟩ := rangeN_some h690
     unfold pk_MixedOther_b2 at h688
     try dsimp only at h688
     refine GL.skip ?_
     refine GL.seq ?_
     refine GL.block ?_
     refine GL.seq ?_
     refine GL.region ?_
     refine RL.mv rfl rfl rfl ?_
     refine RL.asg rfl rfl rfl ?_
     refine RL.finG ?_
     refine GL.seq ?_
     refine GL.regionQ rfl rfl (by kernel_rfl) ?_
     refine RL.mv rfl rfl rfl ?_
     obtain ⟨y716, e717, h688⟩ := bind_some h688
     refine RL.idxS (sz := 1) 0 Try.underlying22 Try_ln32 rfl rfl rfl rfl rfl SlOf.imm (idx_some e717).1 (idx_some e717).2.1 ?_
     refine RL.ldS (i := ((0 : Int)).toNat) (r := (TR.sl TR.int)) (e' := y716) 0 Try_ln32 rfl rfl rfl rfl SlOf.imm (idx_some e717).2.2 Part.self ?_
     intro v718
     refine RL.mv rfl rfl rfl ?_
     obtain ⟨y719, e720, h688⟩ := bind_some h688
     refine RL.idxS (sz := 1) 2 Try.underlying32 Try_ln3 rfl rfl rfl rfl rfl SlOf.imm (idx_some e720).1 (idx_some e720).2.1 ?_
     refine RL.ldSx (i := i463) (e' := y719) 2 Ex.ik Try_ln3 rfl rfl rfl rfl SlOf.imm (idx_some e720).2.2 Part.self ?_
     refine RL.mv rfl rfl rfl ?_
     obtain ⟨y721, e722, h688⟩ := bind_some h688
     refine RL.idxS (sz := 1) 0 Try.underlying22 Try_ln32 rfl rfl rfl rfl rfl SlOf.imm (idx_some e722).1 (idx_some e722).2.1 ?_
     refine RL.ldS (i := ((0 : Int)).toNat) (r := (TR.sl TR.int)) (e' := y721) 0 Try_ln32 rfl rfl rfl rfl SlOf.imm (idx_some e722).2.2 Part.self ?_
     intro v723
     refine RL.reL (L' := [imm (TR.sl (TR.sl TR.int)) v12 y10, obox 26 (TR.pair TR.int TR.int) v24 y19.2.1, imm (TR.sl TR.int) v718 y716, imm (TR.sl TR.int) v723 y721]) rfl ?_
     refine RL.mv rfl rfl rfl ?_
     obtain ⟨y724, e725, h688⟩ := bind_some h688
     refine RL.idxS (sz := 1) 3 Try.underlying32 Try_ln3 rfl rfl rfl rfl rfl SlOf.imm (idx_some e725).1 (idx_some e725).2.1 ?_
     refine RL.ldSx (i := i685) (e' := y724) 3 Ex.ik Try_ln3 rfl rfl rfl rfl SlOf.imm (idx_some e725).2.2 Part.self ?_
     refine RL.mv rfl rfl rfl ?_
     obtain ⟨y726, e727, h688⟩ := bind_some h688
     refine RL.idxS (sz := 1) 0 Try.underlying22 Try_ln32 rfl rfl rfl rfl rfl SlOf.imm (idx_some e727).1 (idx_some e727).2.1 ?_
     refine RL.ldS (i := ((1 : Int)).toNat) (r := (TR.sl TR.int)) (e' := y726) 0 Try_ln32 rfl rfl rfl rfl SlOf.imm (idx_some e727).2.2 Part.self ?_
     intro v728
     refine RL.mv rfl rfl rfl ?_
     obtain ⟨y729, e730, h688⟩ := bind_some h688
     refine RL.idxS (sz := 1) 4 Try.underlying32 Try_ln3 rfl rfl rfl rfl rfl SlOf.imm (idx_some e730).1 (idx_some e730).2.1 ?_
     refine RL.ldSx (i := i463) (e' := y729) 4 Ex.ik Try_ln3 rfl rfl rfl rfl SlOf.imm (idx_some e730).2.2 Part.self ?_
     refine RL.mv rfl rfl rfl ?_
     obtain ⟨y731, e732, h688⟩ := bind_some h688
     refine RL.idxS (sz := 1) 0 Try.underlying22 Try_ln32 rfl rfl rfl rfl rfl SlOf.imm (idx_some e732).1 (idx_some e732).2.1 ?_
     refine RL.ldS (i := ((1 : Int)).toNat) (r := (TR.sl TR.int)) (e' := y731) 0 Try_ln32 rfl rfl rfl rfl SlOf.imm (idx_some e732).2.2 Part.self ?_
     intro v733
     refine RL.reL (L' := [imm (TR.sl (TR.sl TR.int)) v12 y10, obox 26 (TR.pair TR.int TR.int) v24 y19.2.1, imm (TR.sl TR.int) v718 y716, imm (TR.sl TR.int) v723 y721, imm (TR.sl TR.int) v728 y726, imm (TR.sl TR.int) v733 y731]) rfl ?_
     refine RL.mv rfl rfl rfl ?_
     obtain ⟨y734, e735, h688⟩ := bind_some h688
     refine RL.idxS (sz := 1) 5 Try.underlying32 Try_ln3 rfl rfl rfl rfl rfl SlOf.imm (idx_some e735).1 (idx_some e735).2.1 ?_
     refine RL.ldSx (i := i685) (e' := y734) 5 Ex.ik Try_ln3 rfl rfl rfl rfl SlOf.imm (idx_some e735).2.2 Part.self ?_
     refine RL.asg rfl rfl rfl ?_
     refine RL.asg rfl rfl rfl ?_
     refine RL.asg rfl rfl rfl ?_
     refine RL.asg rfl rfl rfl ?_
     refine RL.finQG ?_
     refine GL.weak (env' := [(0, v12), (4, v24), (6, .int .i64 ((y33).length : Int)), (7, .int .i64 (i463 : Int)), (9, .int .i64 y719), (10, .int .i64 y724), (11, .int .i64 y729), (12, .int .i64 y734), (39, .int .i64 ((y33).length : Int)), (40, .int .i64 (i463 : Int)), (43, .int .i64 ((y33).length : Int)), (44, .int .i64 (i685 : Int))]) (L' := [imm (TR.sl (TR.sl TR.int)) v12 y10, obox 26 (TR.pair TR.int TR.int) v24 y19.2.1]) (fun a w st => St.cut [0, 1] ⟨rfl, rfl, rfl, rfl, rfl, rfl, rfl, rfl, rfl, rfl, rfl, rfl, trivial⟩ (by decide) rfl st) ?_
     refine GL.seq ?_
     refine GL.region ?_
     refine RL.bldA (t := (TR.arr 2 TR.int)) (d0 := ([(1 : Int), (1 : Int)] : (List Int))) (pv := [(0, .int .i64 (1 : Int)), (1, .int .i64 (1 : Int))]) rfl Try_bld34 (by decide) rfl rfl rfl ⟨⟨_, _, TR.int, (1 : Int), rfl, rfl, VR.int⟩, ⟨⟨_, _, TR.int, (1 : Int), rfl, rfl, VR.int⟩, trivial⟩⟩ (fun S f hi => by
       obtain ⟨c0, e0, r0⟩ := cells_vrep (t := TR.int) (u := .int .i64 (1 : Int)) (e := (1 : Int)) (VR.int S f hi)
       obtain ⟨c1, e1, r1⟩ := cells_vrep (t := TR.int) (u := .int .i64 (1 : Int)) (e := (1 : Int)) (VR.int S f hi)
       show TR.rep (TR.arr 2 TR.int) S (List.flatten [(.int .i64 (1 : Int) : Value).cells.toList, (.int .i64 (1 : Int) : Value).cells.toList]) _
       simp only [e0, e1,  List.flatten_cons, List.flatten_nil, List.append_nil]
       exact ⟨rfl, ⟨_, _, rfl, r0, ⟨_, [], (List.append_nil _).symm, r0, rfl⟩⟩⟩) ?_
     intro v739
     refine RL.bldA (t := (TR.arr 2 TR.int)) (d0 := ([(0 : Int), (1 : Int)] : (List Int))) (pv := [(0, .int .i64 (0 : Int)), (1, .int .i64 (1 : Int))]) rfl Try_bld34 (by decide) rfl rfl rfl ⟨⟨_, _, TR.int, (0 : Int), rfl, rfl, VR.int⟩, ⟨⟨_, _, TR.int, (1 : Int), rfl, rfl, VR.int⟩, trivial⟩⟩ (fun S f hi => by
       obtain ⟨c0, e0, r0⟩ := cells_vrep (t := TR.int) (u := .int .i64 (0 : Int)) (e := (0 : Int)) (VR.int S f hi)
       obtain ⟨c1, e1, r1⟩ := cells_vrep (t := TR.int) (u := .int .i64 (1 : Int)) (e := (1 : Int)) (VR.int S f hi)
       show TR.rep (TR.arr 2 TR.int) S (List.flatten [(.int .i64 (0 : Int) : Value).cells.toList, (.int .i64 (1 : Int) : Value).cells.toList]) _
       simp only [e0, e1,  List.flatten_cons, List.flatten_nil, List.append_nil]
       exact ⟨rfl, ⟨_, _, rfl, r0, ⟨_, [], (List.append_nil _).symm, r1, rfl⟩⟩⟩) ?_
     intro v740
     refine RL.reL (L' := [imm (TR.sl (TR.sl TR.int)) v12 y10, obox 26 (TR.pair TR.int TR.int) v24 y19.2.1, imm (TR.arr 2 TR.int) v739 ([(1 : Int), (1 : Int)] : (List Int)), imm (TR.arr 2 TR.int) v740 ([(0 : Int), (1 : Int)] : (List Int))]) rfl ?_
     refine RL.bS (t := (TR.arr 2 TR.int)) (vs := [v739, v740]) ([([(1 : Int), (1 : Int)] : (List Int)), ([(0 : Int), (1 : Int)] : (List Int))] : (List (List Int))) Try.underlying35 Try_lo34 rfl rfl rfl rfl ⟨(VR.item 2 rfl), ⟨(VR.item 3 rfl), trivial⟩⟩ rfl (by decide) ?_
     intro v741
     refine RL.asg rfl rfl rfl ?_
     refine RL.finG ?_
     refine GL.seq ?_
     refine GL.seq ?_
     refine GL.region ?_
     refine RL.mv rfl rfl rfl ?_
     refine RL.mv rfl rfl rfl ?_
     refine RL.binI (v := .int .i64 (wsub y734 y724)) rfl rfl rfl rfl rfl ?_
     refine RL.mv rfl rfl rfl ?_
     refine RL.mv rfl rfl rfl ?_
     refine RL.binI (v := .int .i64 (wsub y719 y724)) rfl rfl rfl rfl rfl ?_
     refine RL.mv rfl rfl rfl ?_
     refine RL.binI (v := .int .i64 (wsub (wsub y719 y724) y729)) rfl rfl rfl rfl rfl ?_
     refine RL.mv rfl rfl rfl ?_
     refine RL.binI (v := .int .i64 (wadd (wsub (wsub y719 y724) y729) y734)) rfl rfl rfl rfl rfl ?_
     refine RL.asg rfl rfl rfl ?_
     refine RL.asg rfl rfl rfl ?_
     refine RL.finG ?_
     refine GL.seq ?_
     refine GL.region ?_
     refine RL.mv rfl rfl rfl ?_
     refine RL.binI (v := .bool ((wadd (wsub (wsub y719 y724) y729) y734) != (0 : Int))) rfl rfl rfl rfl rfl ?_
     refine RL.finG ?_
     obtain ⟨y768, K769, h770, h771, h772, h773, h774⟩ := bindF_K h688
     refine GL.join (ι := (List (List Int)) × Value) (fun (p : (List (List Int)) × Value) => [(0, v12), (4, v24), (6, .int .i64 ((y33).length : Int)), (7, .int .i64 (i463 : Int)), (9, .int .i64 y719), (10, .int .i64 y724), (11, .int .i64 y729), (12, .int .i64 y734), (13, p.2), (39, .int .i64 ((y33).length : Int)), (40, .int .i64 (i463 : Int)), (43, .int .i64 ((y33).length : Int)), (44, .int .i64 (i685 : Int))]) (fun (p : (List (List Int)) × Value) => [imm (TR.sl (TR.sl TR.int)) v12 y10, obox 26 (TR.pair TR.int TR.int) v24 y19.2.1, own 34 (TR.arr 2 TR.int) p.2 p.1]) (fun (p : (List (List Int)) × Value) => K769 (.nx p.1)) ?_ ?_
     ·skip
      refine GL.cond rfl (fun b775 => ?_) (fun b775 => ?_)
      ·replace h770 := ite_t b775 h770
       refine GL.seq ?_
       refine GL.seq ?_
       refine GL.region ?_
       refine RL.mv rfl rfl rfl ?_
       refine RL.binI (v := .bool (decide ((wadd (wsub (wsub y719 y724) y729) y734) < (0 : Int)))) rfl rfl rfl rfl rfl ?_
       refine RL.finG ?_
       obtain ⟨y779, K780, h781, h782, h783, h784, h785⟩ := bindF_K h770
       refine GL.join (ι := Int × Int) (fun (p : Int × Int) => [(0, v12), (4, v24), (6, .int .i64 ((y33).length : Int)), (7, .int .i64 (i463 : Int)), (9, .int .i64 y719), (10, .int .i64 y724), (11, .int .i64 y729), (12, .int .i64 y734), (13, v741), (14, .int .i64 p.1), (15, .int .i64 p.2), (39, .int .i64 ((y33).length : Int)), (40, .int .i64 (i463 : Int)), (43, .int .i64 ((y33).length : Int)), (44, .int .i64 (i685 : Int))]) (fun (p : Int × Int) => [imm (TR.sl (TR.sl TR.int)) v12 y10, obox 26 (TR.pair TR.int TR.int) v24 y19.2.1, own 34 (TR.arr 2 TR.int) v741 ([([(1 : Int), (1 : Int)] : (List Int)), ([(0 : Int), (1 : Int)] : (List Int))] : (List (List Int)))]) (fun (p : Int × Int) => K780 (.nx (p.1, p.2))) ?_ ?_
       ·skip
        refine GL.cond rfl (fun b786 => ?_) (fun b786 => ?_)
        ·replace h781 := ite_t b786 h781
         refine GL.region ?_
         refine RL.mv rfl rfl rfl ?_
         refine RL.negI rfl rfl rfl ?_
         refine RL.mv rfl rfl rfl ?_
         refine RL.negI rfl rfl rfl ?_
         refine RL.asg rfl rfl rfl ?_
         refine RL.asg rfl rfl rfl ?_
         refine RL.finG ?_
         cases h781
         exact fun a w st => mid_intro (wsub 0 (wsub y734 y724), wsub 0 (wadd (wsub (wsub y719 y724) y729) y734)) h782 (St.cut [0, 1, 4] ⟨rfl, rfl, rfl, rfl, rfl, rfl, rfl, rfl, rfl, rfl, rfl, rfl, rfl, rfl, rfl, trivial⟩ (by decide) rfl st)
        replace h781 := ite_f b786 h781
        refine GL.skip ?_
        cases h781
        exact fun a w st => mid_intro (wsub y734 y724, wadd (wsub (wsub y719 y724) y729) y734) h782 (St.cut [0, 1, 4] ⟨rfl, rfl, rfl, rfl, rfl, rfl, rfl, rfl, rfl, rfl, rfl, rfl, rfl, rfl, rfl, trivial⟩ (by decide) rfl st)
       rintro ⟨x777, x778⟩ h787
       have h788 := h783 _ h787
       try dsimp only at h788
       refine GL.weak (env' := [(0, v12), (4, v24), (6, .int .i64 ((y33).length : Int)), (7, .int .i64 (i463 : Int)), (9, .int .i64 y719), (10, .int .i64 y724), (11, .int .i64 y729), (12, .int .i64 y734), (13, v741), (14, .int .i64 x777), (15, .int .i64 x778), (39, .int .i64 ((y33).length : Int)), (40, .int .i64 (i463 : Int)), (43, .int .i64 ((y33).length : Int)), (44, .int .i64 (i685 : Int))]) (L' := [imm (TR.sl (TR.sl TR.int)) v12 y10, obox 26 (TR.pair TR.int TR.int) v24 y19.2.1, own 34 (TR.arr 2 TR.int) v741 ([([(1 : Int), (1 : Int)] : (List Int)), ([(0 : Int), (1 : Int)] : (List Int))] : (List (List Int)))]) (fun _ _ st => st) ?_
       refine GL.region ?_
       refine RL.mv rfl rfl rfl ?_
       refine RL.mv rfl rfl rfl ?_
       refine RL.mv rfl rfl rfl ?_
       refine RL.bldA (t := (TR.arr 2 TR.int)) (d0 := ([x777, x778] : (List Int))) (pv := [(0, .int .i64 x777), (1, .int .i64 x778)]) rfl Try_bld34 (by decide) rfl rfl rfl ⟨⟨_, _, TR.int, x777, rfl, rfl, VR.int⟩, ⟨⟨_, _, TR.int, x778, rfl, rfl, VR.int⟩, trivial⟩⟩ (fun S f hi => by
         obtain ⟨c0, e0, r0⟩ := cells_vrep (t := TR.int) (u := .int .i64 x777) (e := x777) (VR.int S f hi)
         obtain ⟨c1, e1, r1⟩ := cells_vrep (t := TR.int) (u := .int .i64 x778) (e := x778) (VR.int S f hi)
         show TR.rep (TR.arr 2 TR.int) S (List.flatten [(.int .i64 x777 : Value).cells.toList, (.int .i64 x778 : Value).cells.toList]) _
         simp only [e0, e1,  List.flatten_cons, List.flatten_nil, List.append_nil]
         exact ⟨rfl, ⟨_, _, rfl, r0, ⟨_, [], (List.append_nil _).symm, r1, rfl⟩⟩⟩) ?_
       intro v794
       refine RL.bS (t := (TR.arr 2 TR.int)) (vs := [v794]) ([([x777, x778] : (List Int))] : (List (List Int))) Try.underlying35 Try_lo34 rfl rfl rfl rfl ⟨(VR.item 3 rfl), trivial⟩ rfl (by decide) ?_
       intro v795
       refine RL.reL (L' := [imm (TR.sl (TR.sl TR.int)) v12 y10, obox 26 (TR.pair TR.int TR.int) v24 y19.2.1, own 34 (TR.arr 2 TR.int) v741 ([([(1 : Int), (1 : Int)] : (List Int)), ([(0 : Int), (1 : Int)] : (List Int))] : (List (List Int))), imm (TR.arr 2 TR.int) v794 ([x777, x778] : (List Int)), own 34 (TR.arr 2 TR.int) v795 ([([x777, x778] : (List Int))] : (List (List Int)))]) rfl ?_
       obtain ⟨y796, e797, h788⟩ := bind_some h788
       replace e797 := chk_some e797
       refine RL.app 2 4 Try.underlying35 Try_lo34 rfl rfl rfl rfl rfl rfl rfl SlOf.own e797 ?_
       intro v798
       refine RL.asg rfl rfl rfl ?_
       refine RL.finG ?_
       cases h788
       exact fun a w st => mid_intro ((([([(1 : Int), (1 : Int)] : (List Int)), ([(0 : Int), (1 : Int)] : (List Int))] : (List (List Int))) ++ ([([x777, x778] : (List Int))] : (List (List Int)))), v798) h771 (St.cut [0, 1, 2] ⟨rfl, rfl, rfl, rfl, rfl, rfl, rfl, rfl, rfl, rfl, rfl, rfl, rfl, trivial⟩ (by decide) rfl st)
      replace h770 := ite_f b775 h770
      refine GL.skip ?_
      cases h770
      exact fun a w st => mid_intro (([([(1 : Int), (1 : Int)] : (List Int)), ([(0 : Int), (1 : Int)] : (List Int))] : (List (List Int))), v741) h771 (St.cut [0, 1, 4] ⟨rfl, rfl, rfl, rfl, rfl, rfl, rfl, rfl, rfl, rfl, rfl, rfl, rfl, trivial⟩ (by decide) rfl st)
     rintro ⟨l766, v767⟩ h799
     have h800 := h772 _ h799
     try dsimp only at h800
     refine GL.weak (env' := [(0, v12), (4, v24), (6, .int .i64 ((y33).length : Int)), (7, .int .i64 (i463 : Int)), (9, .int .i64 y719), (10, .int .i64 y724), (11, .int .i64 y729), (12, .int .i64 y734), (13, v767), (39, .int .i64 ((y33).length : Int)), (40, .int .i64 (i463 : Int)), (43, .int .i64 ((y33).length : Int)), (44, .int .i64 (i685 : Int))]) (L' := [imm (TR.sl (TR.sl TR.int)) v12 y10, obox 26 (TR.pair TR.int TR.int) v24 y19.2.1, own 34 (TR.arr 2 TR.int) v767 l766]) (fun _ _ st => st) ?_
     refine GL.seq ?_
     refine GL.region ?_
     refine RL.mv rfl rfl rfl ?_
     refine RL.lenS 2 Try.underlying35 rfl rfl rfl rfl SlOf.own ?_
     refine RL.mv rfl rfl rfl ?_
     refine RL.finG ?_
     refine GL.lenOwn 2 rfl (fun n837 => ?_)
     obtain ⟨y838, K839, h840, h841, h842, h843, h844⟩ := bindF_K h800
     refine GL.join (ι := Unit) (fun (p : Unit) => [(0, v12), (4, v24), (6, .int .i64 ((y33).length : Int)), (7, .int .i64 (i463 : Int)), (39, .int .i64 ((y33).length : Int)), (40, .int .i64 (i463 : Int)), (43, .int .i64 ((y33).length : Int)), (44, .int .i64 (i685 : Int))]) (fun (p : Unit) => [imm (TR.sl (TR.sl TR.int)) v12 y10, obox 26 (TR.pair TR.int TR.int) v24 y19.2.1]) (fun (p : Unit) => K839 (.nx ())) ?_ ?_
     ·refine GL.block ?_
      refine GL.loop (ι := Nat × Nat) (fun (p : Nat × Nat) => [(0, v12), (4, v24), (6, .int .i64 ((y33).length : Int)), (7, .int .i64 (i463 : Int)), (9, .int .i64 y719), (10, .int .i64 y724), (11, .int .i64 y729), (12, .int .i64 y734), (39, .int .i64 ((y33).length : Int)), (40, .int .i64 (i463 : Int)), (43, .int .i64 ((y33).length : Int)), (44, .int .i64 (i685 : Int)), (98, v767), (99, .int .i64 ((l766).length : Int)), (100, .int .i64 (p.1 : Int))]) (fun (p : Nat × Nat) => [imm (TR.sl (TR.sl TR.int)) v12 y10, obox 26 (TR.pair TR.int TR.int) v24 y19.2.1, own 34 (TR.arr 2 TR.int) v767 l766]) (fun (p : Nat × Nat) => p.1 + p.2 = (l766).length ∧ rangeN (pk_MixedOther_b3 l766 y719 y724 y19 y729 y734) p.2 p.1 () = some y838) (fun (p : Nat × Nat) => p.2) (0, (l766).length) ⟨by simp, h840⟩ (fun a w st => St.cut [0, 1, 2] ⟨rfl, rfl, rfl, rfl, rfl, rfl, rfl, rfl, rfl, rfl, rfl, rfl, rfl, rfl, rfl, trivial⟩ (by decide) rfl st) ?_
      rintro ⟨i845, r846⟩ ⟨h851, h850⟩
      try dsimp only at h851 h850
      refine GL.weak (env' := [(0, v12), (4, v24), (6, .int .i64 ((y33).length : Int)), (7, .int .i64 (i463 : Int)), (9, .int .i64 y719), (10, .int .i64 y724), (11, .int .i64 y729), (12, .int .i64 y734), (39, .int .i64 ((y33).length : Int)), (40, .int .i64 (i463 : Int)), (43, .int .i64 ((y33).length : Int)), (44, .int .i64 (i685 : Int)), (98, v767), (99, .int .i64 ((l766).length : Int)), (100, .int .i64 (i845 : Int))]) (L' := [imm (TR.sl (TR.sl TR.int)) v12 y10, obox 26 (TR.pair TR.int TR.int) v24 y19.2.1, own 34 (TR.arr 2 TR.int) v767 l766]) (fun _ _ st => st) ?_
      refine GL.seq ?_
      refine GL.region ?_
      refine RL.binI (v := .bool (decide ((i845 : Int) < ((l766).length : Int)))) rfl rfl rfl rfl rfl ?_
      refine RL.finG ?_
      refine GL.seq ?_
      refine GL.cond rfl (fun b853 => ?_) (fun b853 => ?_)
      ·have h854 : i845 < (l766).length := by have := of_decide_eq_true b853; omega
       obtain ⟨r855, hr⟩ : ∃ m, r846 = m + 1 := ⟨r846 - 1, by omega⟩
       subst hr
       obtain ⟨z847, h848, h849⟩ := rangeN_some h850
       unfold pk_MixedOther_b3 at h848
       try dsimp only at h848
       refine GL.skip ?_
       refine GL.seq ?_
       refine GL.block ?_
       refine GL.seq ?_
       refine GL.region ?_
       obtain ⟨y860, e861, h848⟩ := bind_some h848
       refine RL.idxS (sz := 2) 2 Try.underlying35 Try_ln34 rfl rfl rfl rfl rfl SlOf.own (idx_some e861).1 (idx_some e861).2.1 ?_
       refine RL.ldS (i := i845) (r := (TR.arr 2 TR.int)) (e' := y860) 2 Try_ln34 rfl rfl rfl rfl SlOf.own (idx_some e861).2.2 Part.self ?_
       intro v862
       refine RL.alloc (t := (TR.arr 2 TR.int)) (z := (List.replicate 2 (0 : Int))) Try_lo34 (fun S => ⟨rfl, ⟨_, _, rfl, rfl, ⟨_, _, rfl, rfl, rfl⟩⟩⟩) rfl rfl rfl ?_
       intro v863
       refine RL.reL (L' := [imm (TR.sl (TR.sl TR.int)) v12 y10, obox 26 (TR.pair TR.int TR.int) v24 y19.2.1, own 34 (TR.arr 2 TR.int) v767 l766, imm (TR.arr 2 TR.int) v862 y860, obox 34 (TR.arr 2 TR.int) v863 (List.replicate 2 (0 : Int))]) rfl ?_
       refine RL.stP (off := 0) (e' := y860) (d1 := y860) (r := (TR.arr 2 TR.int)) 4 Try_ln34 rfl rfl (Or.inr ⟨rfl, rfl⟩) rfl (VR.item 3 rfl) rfl Upd.self ?_
       refine RL.finG ?_
       refine GL.seq ?_
       refine GL.regionQ rfl rfl (by kernel_rfl) ?_
       obtain ⟨y868, e869, h848⟩ := bind_some h848
       refine RL.idxA0 (sz := 1) (t' := TR.int) 4 Try.underlying34 Try_ln3 rfl rfl rfl PtOf.obox rfl rfl Part.self (idx_some e869).1 (idx_some e869).2.1 ?_
       refine RL.ldPx (off := (((0 : Int)).toNat * 1)) (e' := y868) 4 Ex.ik Try_ln3 rfl rfl (Or.inl rfl) rfl PtOf.obox (Part.arr (idx_some e869).2.2 Part.self) ?_
       obtain ⟨y870, e871, h848⟩ := bind_some h848
       refine RL.idxA0 (sz := 1) (t' := TR.int) 4 Try.underlying34 Try_ln3 rfl rfl rfl PtOf.obox rfl rfl Part.self (idx_some e871).1 (idx_some e871).2.1 ?_
       refine RL.ldPx (off := (((1 : Int)).toNat * 1)) (e' := y870) 4 Ex.ik Try_ln3 rfl rfl (Or.inl rfl) rfl PtOf.obox (Part.arr (idx_some e871).2.2 Part.self) ?_
       refine RL.asg rfl rfl rfl ?_
       refine RL.asg rfl rfl rfl ?_
       refine RL.finQG ?_
       refine GL.seq ?_
       obtain ⟨y879, K880, h881, h882, h883, h884, h885⟩ := bindF_K h848
       refine GL.join (ι := Bool) (fun (p : Bool) => [(0, v12), (4, v24), (6, .int .i64 ((y33).length : Int)), (7, .int .i64 (i463 : Int)), (9, .int .i64 y719), (10, .int .i64 y724), (11, .int .i64 y729), (12, .int .i64 y734), (39, .int .i64 ((y33).length : Int)), (40, .int .i64 (i463 : Int)), (43, .int .i64 ((y33).length : Int)), (44, .int .i64 (i685 : Int)), (98, v767), (99, .int .i64 ((l766).length : Int)), (100, .int .i64 (i845 : Int)), (152, .bool p)]) (fun (p : Bool) => [imm (TR.sl (TR.sl TR.int)) v12 y10, obox 26 (TR.pair TR.int TR.int) v24 y19.2.1, own 34 (TR.arr 2 TR.int) v767 l766]) (fun (p : Bool) => K880 (.nx p)) ?_ ?_
       ·skip
        refine GL.region ?_
        refine RL.mv rfl rfl rfl ?_
        refine RL.binI (v := .bool (decide (y868 ≥ (0 : Int)))) rfl rfl rfl rfl rfl ?_
        refine RL.mv rfl rfl rfl ?_
        refine RL.split (t := 110) rfl (fun b886 => ?_) (fun b886 => ?_)
        ·replace h881 := ite_t b886 h881
         refine RL.mv rfl rfl rfl ?_
         refine RL.mv rfl rfl rfl ?_
         refine RL.binI (v := .bool (decide (y868 ≤ y870))) rfl rfl rfl rfl rfl ?_
         refine RL.pickT rfl rfl rfl rfl ?_
         refine RL.mv rfl rfl rfl ?_
         refine RL.split (t := 115) rfl (fun b887 => ?_) (fun b887 => ?_)
         ·replace h881 := ite_t b887 h881
          refine RL.mv rfl rfl rfl ?_
          refine RL.mv rfl rfl rfl ?_
          refine RL.binI (v := .int .i64 (wmul y719 y868)) rfl rfl rfl rfl rfl ?_
          refine RL.mv rfl rfl rfl ?_
          refine RL.mv rfl rfl rfl ?_
          refine RL.mv rfl rfl rfl ?_
          refine RL.binI (v := .int .i64 (wsub y870 y868)) rfl rfl rfl rfl rfl ?_
          refine RL.binI (v := .int .i64 (wmul y724 (wsub y870 y868))) rfl rfl rfl rfl rfl ?_
          refine RL.binI (v := .int .i64 (wadd (wmul y719 y868) (wmul y724 (wsub y870 y868)))) rfl rfl rfl rfl rfl ?_
          refine RL.fadr (off := 0) (fo := 1) 1 Try_fld26_1 rfl rfl rfl PtOf.obox (Or.inr ⟨rfl, rfl⟩) ?_
          refine RL.ldPx (off := (0 + 1)) (e' := y19.2.1.2) 1 Ex.ik Try_ln3 rfl rfl (Or.inl rfl) rfl PtOf.obox (Part.snd Part.self) ?_
          refine RL.binI (v := .int .i64 (wmul (wadd (wmul y719 y868) (wmul y724 (wsub y870 y868))) y19.2.1.2)) rfl rfl rfl rfl rfl ?_
          refine RL.fadr (off := 0) (fo := 0) 1 Try_fld26_0 rfl rfl rfl PtOf.obox (Or.inr ⟨rfl, rfl⟩) ?_
          refine RL.ldPx (off := (0 + 0)) (e' := y19.2.1.1) 1 Ex.ik Try_ln3 rfl rfl (Or.inl rfl) rfl PtOf.obox (Part.fst Part.self) ?_
          refine RL.mv rfl rfl rfl ?_
          refine RL.binI (v := .int .i64 (wmul y19.2.1.1 y870)) rfl rfl rfl rfl rfl ?_
          refine RL.binI (v := .bool (decide ((wmul (wadd (wmul y719 y868) (wmul y724 (wsub y870 y868))) y19.2.1.2) ≤ (wmul y19.2.1.1 y870)))) rfl rfl rfl rfl rfl ?_
          refine RL.pickT rfl rfl rfl rfl ?_
          refine RL.mv rfl rfl rfl ?_
          refine RL.split (t := 134) rfl (fun b888 => ?_) (fun b888 => ?_)
          ·replace h881 := ite_t b888 h881
           refine RL.mv rfl rfl rfl ?_
           refine RL.mv rfl rfl rfl ?_
           refine RL.binI (v := .int .i64 (wmul y729 y868)) rfl rfl rfl rfl rfl ?_
           refine RL.mv rfl rfl rfl ?_
           refine RL.mv rfl rfl rfl ?_
           refine RL.mv rfl rfl rfl ?_
           refine RL.binI (v := .int .i64 (wsub y870 y868)) rfl rfl rfl rfl rfl ?_
           refine RL.binI (v := .int .i64 (wmul y734 (wsub y870 y868))) rfl rfl rfl rfl rfl ?_
           refine RL.binI (v := .int .i64 (wadd (wmul y729 y868) (wmul y734 (wsub y870 y868)))) rfl rfl rfl rfl rfl ?_
           refine RL.fadr (off := 0) (fo := 1) 1 Try_fld26_1 rfl rfl rfl PtOf.obox (Or.inr ⟨rfl, rfl⟩) ?_
           refine RL.ldPx (off := (0 + 1)) (e' := y19.2.1.2) 1 Ex.ik Try_ln3 rfl rfl (Or.inl rfl) rfl PtOf.obox (Part.snd Part.self) ?_
           refine RL.binI (v := .int .i64 (wmul (wadd (wmul y729 y868) (wmul y734 (wsub y870 y868))) y19.2.1.2)) rfl rfl rfl rfl rfl ?_
           refine RL.fadr (off := 0) (fo := 0) 1 Try_fld26_0 rfl rfl rfl PtOf.obox (Or.inr ⟨rfl, rfl⟩) ?_
           refine RL.ldPx (off := (0 + 0)) (e' := y19.2.1.1) 1 Ex.ik Try_ln3 rfl rfl (Or.inl rfl) rfl PtOf.obox (Part.fst Part.self) ?_
           refine RL.mv rfl rfl rfl ?_
           refine RL.binI (v := .int .i64 (wmul y19.2.1.1 y870)) rfl rfl rfl rfl rfl ?_
           refine RL.binI (v := .bool (decide ((wmul (wadd (wmul y729 y868) (wmul y734 (wsub y870 y868))) y19.2.1.2) ≤ (wmul y19.2.1.1 y870)))) rfl rfl rfl rfl rfl ?_
           refine RL.pickT rfl rfl rfl rfl ?_
           refine RL.fin ?_
           cases h881
           exact fun a w st => mid_intro (decide ((wmul (wadd (wmul y729 y868) (wmul y734 (wsub y870 y868))) y19.2.1.2) ≤ (wmul y19.2.1.1 y870))) h882 (St.cut [0, 1, 2] ⟨rfl, rfl, rfl, rfl, rfl, rfl, rfl, rfl, rfl, rfl, rfl, rfl, rfl, rfl, rfl, rfl, trivial⟩ (by decide) rfl st)
          replace h881 := ite_f b888 h881
          refine RL.skip rfl rfl ?_
          refine RL.skip rfl rfl ?_
          refine RL.skip rfl rfl ?_
          refine RL.skip rfl rfl ?_
          refine RL.skip rfl rfl ?_
          refine RL.skip rfl rfl ?_
          refine RL.skip rfl rfl ?_
          refine RL.skip rfl rfl ?_
          refine RL.skip rfl rfl ?_
          refine RL.skip rfl rfl ?_
          refine RL.skip rfl rfl ?_
          refine RL.skip rfl rfl ?_
          refine RL.skip rfl rfl ?_
          refine RL.skip rfl rfl ?_
          refine RL.skip rfl rfl ?_
          refine RL.skip rfl rfl ?_
          refine RL.skip rfl rfl ?_
          refine RL.pickF rfl rfl rfl rfl ?_
          refine RL.fin ?_
          cases h881
          exact fun a w st => mid_intro false h882 (St.cut [0, 1, 2] ⟨rfl, rfl, rfl, rfl, rfl, rfl, rfl, rfl, rfl, rfl, rfl, rfl, rfl, rfl, rfl, rfl, trivial⟩ (by decide) rfl st)
         replace h881 := ite_f b887 h881
         refine RL.skip rfl rfl ?_
         refine RL.skip rfl rfl ?_
         refine RL.skip rfl rfl ?_
         refine RL.skip rfl rfl ?_
         refine RL.skip rfl rfl ?_
         refine RL.skip rfl rfl ?_
         refine RL.skip rfl rfl ?_
         refine RL.skip rfl rfl ?_
         refine RL.skip rfl rfl ?_
         refine RL.skip rfl rfl ?_
         refine RL.skip rfl rfl ?_
         refine RL.skip rfl rfl ?_
         refine RL.skip rfl rfl ?_
         refine RL.skip rfl rfl ?_
         refine RL.skip rfl rfl ?_
         refine RL.skip rfl rfl ?_
         refine RL.skip rfl rfl ?_
         refine RL.pickF rfl rfl rfl rfl ?_
         refine RL.mv rfl rfl rfl ?_
         refine RL.skip rfl rfl ?_
         refine RL.skip rfl rfl ?_
         refine RL.skip rfl rfl ?_
         refine RL.skip rfl rfl ?_
         refine RL.skip rfl rfl ?_
         refine RL.skip rfl rfl ?_
         refine RL.skip rfl rfl ?_
         refine RL.skip rfl rfl ?_
         refine RL.skip rfl rfl ?_
         refine RL.skip rfl rfl ?_
         refine RL.skip rfl rfl ?_
         refine RL.skip rfl rfl ?_
         refine RL.skip rfl rfl ?_
         refine RL.skip rfl rfl ?_
         refine RL.skip rfl rfl ?_
         refine RL.skip rfl rfl ?_
         refine RL.skip rfl rfl ?_
         refine RL.pickF rfl rfl rfl rfl ?_
         refine RL.fin ?_
         cases h881
         exact fun a w st => mid_intro false h882 (St.cut [0, 1, 2] ⟨rfl, rfl, rfl, rfl, rfl, rfl, rfl, rfl, rfl, rfl, rfl, rfl, rfl, rfl, rfl, rfl, trivial⟩ (by decide) rfl st)
        replace h881 := ite_f b886 h881
        refine RL.skip rfl rfl ?_
        refine RL.skip rfl rfl ?_
        refine RL.skip rfl rfl ?_
        refine RL.pickF rfl rfl rfl rfl ?_
        refine RL.mv rfl rfl rfl ?_
        refine RL.skip rfl rfl ?_
        refine RL.skip rfl rfl ?_
        refine RL.skip rfl rfl ?_
        refine RL.skip rfl rfl ?_
        refine RL.skip rfl rfl ?_
        refine RL.skip rfl rfl ?_
        refine RL.skip rfl rfl ?_
        refine RL.skip rfl rfl ?_
        refine RL.skip rfl rfl ?_
        refine RL.skip rfl rfl ?_
        refine RL.skip rfl rfl ?_
        refine RL.skip rfl rfl ?_
        refine RL.skip rfl rfl ?_
        refine RL.skip rfl rfl ?_
        refine RL.skip rfl rfl ?_
        refine RL.skip rfl rfl ?_
        refine RL.skip rfl rfl ?_
        refine RL.pickF rfl rfl rfl rfl ?_
        refine RL.mv rfl rfl rfl ?_
        refine RL.skip rfl rfl ?_
        refine RL.skip rfl rfl ?_
        refine RL.skip rfl rfl ?_
        refine RL.skip rfl rfl ?_
        refine RL.skip rfl rfl ?_
        refine RL.skip rfl rfl ?_
        refine RL.skip rfl rfl ?_
        refine RL.skip rfl rfl ?_
        refine RL.skip rfl rfl ?_
        refine RL.skip rfl rfl ?_
        refine RL.skip rfl rfl ?_
        refine RL.skip rfl rfl ?_
        refine RL.skip rfl rfl ?_
        refine RL.skip rfl rfl ?_
        refine RL.skip rfl rfl ?_
        refine RL.skip rfl rfl ?_
        refine RL.skip rfl rfl ?_
        refine RL.pickF rfl rfl rfl rfl ?_
        refine RL.fin ?_
        cases h881
        exact fun a w st => mid_intro false h882 (St.cut [0, 1, 2] ⟨rfl, rfl, rfl, rfl, rfl, rfl, rfl, rfl, rfl, rfl, rfl, rfl, rfl, rfl, rfl, rfl, trivial⟩ (by decide) rfl st)
       rintro x878 h889
       have h890 := h883 _ h889
       try dsimp only at h890
       refine GL.weak (env' := [(0, v12), (4, v24), (6, .int .i64 ((y33).length : Int)), (7, .int .i64 (i463 : Int)), (9, .int .i64 y719), (10, .int .i64 y724), (11, .int .i64 y729), (12, .int .i64 y734), (39, .int .i64 ((y33).length : Int)), (40, .int .i64 (i463 : Int)), (43, .int .i64 ((y33).length : Int)), (44, .int .i64 (i685 : Int)), (98, v767), (99, .int .i64 ((l766).length : Int)), (100, .int .i64 (i845 : Int)), (152, .bool x878)]) (L' := [imm (TR.sl (TR.sl TR.int)) v12 y10, obox 26 (TR.pair TR.int TR.int) v24 y19.2.1, own 34 (TR.arr 2 TR.int) v767 l766]) (fun _ _ st => st) ?_
       refine GL.cond rfl (fun b891 => ?_) (fun b891 => ?_)
       ·replace h890 := ite_t b891 h890
        refine GL.seq ?_
        refine GL.region ?_
        refine RL.asg rfl rfl rfl ?_
        refine RL.finG ?_
        cases h890
        replace h849 : some (Fl.rt _) = some y838 := h849
        cases h849
        have hh := h843 _ h841
        subst hh
        replace h689 : some (Fl.rt _) = some y678 := h689
        cases h689
        have hh := h683 _ h681
        subst hh
        replace h467 : some (Fl.rt _) = some y456 := h467
        cases h467
        have hh := h461 _ h459
        subst hh
        exact GL.ret (Gx.ret (v := .bool true) (res1 rfl rfl) (fun a w st => st.toPostV))
       replace h890 := ite_f b891 h890
       refine GL.skip ?_
       refine GL.nilB ?_
       refine GL.region ?_
       refine RL.binI (v := .int .i64 ((i845 + 1 : Nat) : Int)) rfl rfl rfl rfl (binI_succ i845 (by omega)) ?_
       refine RL.mv rfl rfl rfl ?_
       refine RL.fin ?_
       cases h890
       exact fun a w st => lop_intro (i845 + 1, r855) ⟨by show i845 + 1 + r855 = (l766).length; omega, h849⟩ (by simp) (St.cut [0, 1, 2] ⟨rfl, rfl, rfl, rfl, rfl, rfl, rfl, rfl, rfl, rfl, rfl, rfl, rfl, rfl, rfl, trivial⟩ (by decide) rfl st)
      have h854 : ¬ i845 < (l766).length := by have := of_decide_eq_false b853; omega
      obtain rfl : r846 = 0 := by omega
      replace h850 : some (Fl.nx _) = some y838 := h850
      cases h850
      exact GL.exit (fun a w st => mid_intro () h841 (St.cut [0, 1] ⟨rfl, rfl, rfl, rfl, rfl, rfl, rfl, rfl, trivial⟩ (by decide) rfl st))
     rintro ⟨⟩ h892
     have h893 := h842 _ h892
     try dsimp only at h893
     refine GL.weak (env' := [(0, v12), (4, v24), (6, .int .i64 ((y33).length : Int)), (7, .int .i64 (i463 : Int)), (39, .int .i64 ((y33).length : Int)), (40, .int .i64 (i463 : Int)), (43, .int .i64 ((y33).length : Int)), (44, .int .i64 (i685 : Int))]) (L' := [imm (TR.sl (TR.sl TR.int)) v12 y10, obox 26 (TR.pair TR.int TR.int) v24 y19.2.1]) (fun _ _ st => st) ?_
     refine GL.nilB ?_
     refine GL.region ?_
     refine RL.binI (v := .int .i64 ((i685 + 1 : Nat) : Int)) rfl rfl rfl rfl (binI_succ i685 (by omega)) ?_
     refine RL.mv rfl rfl rfl ?_
     refine RL.fin ?_
     cases h893
     exact fun a w st => lop_intro (i685 + 1, r695) ⟨by show i685 + 1 + r695 = (((y33).length : Int)).toNat; omega, h689⟩ (by simp) (St.cut [0, 1] ⟨rfl, rfl, rfl, rfl, rfl, rfl, rfl, rfl, trivial⟩ (by decide) rfl st)
    have h694 : ¬ i685 < (((y33).length : Int)).toNat := by have := of_decide_eq_false b693; omega
    obtain rfl : r686 = 0 := by omega
    replace h690 : some (Fl.nx _) = some y678 := h690
    cases h690
    exact GL.exit (fun a w st => mid_intro () h681 (St.cut [0, 1] ⟨rfl, rfl, rfl, rfl, rfl, trivial⟩ (by decide) rfl st))
   rintro ⟨⟩ h894
   have h895 := h682 _ h894
   try dsimp only at h895
   refine GL.weak (env' := [(0, v12), (4, v24), (6, .int .i64 ((y33).length : Int)), (39, .int .i64 ((y33).length : Int)), (40, .int .i64 (i463 : Int))]) (L' := [imm (TR.sl (TR.sl TR.int)) v12 y10, obox 26 (TR.pair TR.int TR.int) v24 y19.2.1]) (fun _ _ st => st) ?_
   refine GL.nilB ?_
   refine GL.region ?_
   refine RL.binI (v := .int .i64 ((i463 + 1 : Nat) : Int)) rfl rfl rfl rfl (binI_succ i463 (by omega)) ?_
   refine RL.mv rfl rfl rfl ?_
   refine RL.fin ?_
   cases h895
   exact fun a w st => lop_intro (i463 + 1, r475) ⟨by show i463 + 1 + r475.length = (y33).length; simp only [List.length_cons] at h469; omega, h476, h467⟩ (by simp) (St.cut [0, 1] ⟨rfl, rfl, rfl, rfl, rfl, trivial⟩ (by decide) rfl st)
  have h472 : ¬ i463 < (y33).length := by have := of_decide_eq_false b471; omega
  obtain rfl : r464 = [] := by rw [← h470]; exact List.drop_of_length_le (by omega)
  replace h468 : some (Fl.nx _) = some y456 := h468
  cases h468
  exact GL.exit (fun a w st => mid_intro () h459 (St.cut [] trivial (by decide) rfl st))
 rintro ⟨⟩ h896
 have h897 := h460 _ h896
 try dsimp only at h897
 refine GL.weak (env' := []) (L' := []) (fun _ _ st => st) ?_
 refine GL.seq ?_
 refine GL.region ?_
 refine RL.asg rfl rfl rfl ?_
 refine RL.finG ?_
 have h897 := Option.some.inj h897
 subst h897
 exact GL.ret (Gx.ret (v := .bool false) (res1 rfl rfl) (fun a w st => st.toPostV))
end Go.Wk
