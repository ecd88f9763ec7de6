/- Each function comes to what its model says; printed by a program of this repository. -/
import Derived.Test.YtocimbokgngofaaProg
import Derived.Test.YtocimbokgngofaaWMixedMoreModels
import Derived.Test.YtocimbokgngofaaWMixedMoreWalks1
namespace Go.Wk
open Go.Fw Go.Mo Go.Proofs Go.RowKit
set_option linter.all false
set_option maxRecDepth 100000

set_option maxHeartbeats 4000000 in
theorem pk_mixes_c (S : Hp) (w : World) (hS : S.sub w)  (res : Bool) (hm : pk_mixes_m = some res) : Calls Try.prog 14 #[] w (PostV w (.bool res)) := by
 refine calls_enter 24 Try.func14 Try.ntmps14 rfl S false [] [] rfl trivial hS trivial ?_
 unfold pk_mixes_m at hm
 refine GL.seq ?_
 refine GL.region ?_
 refine RL.asg rfl rfl rfl ?_
 refine RL.finG ?_
 refine GL.seq ?_
 refine GL.region ?_
 refine RL.bS (t := TR.int) (vs := [.int .i64 (1 : Int), .int .i64 (-1 : Int)]) ([(1 : Int), (-1 : Int)] : (List Int)) Try.underlying32 Try_lo3 rfl rfl rfl rfl ⟨VR.int, ⟨VR.int, trivial⟩⟩ rfl (by decide) ?_
 intro v10
 refine RL.bS (t := TR.int) (vs := [.int .i64 (-1 : Int), .int .i64 (1 : Int)]) ([(-1 : Int), (1 : Int)] : (List Int)) Try.underlying32 Try_lo3 rfl rfl rfl rfl ⟨VR.int, ⟨VR.int, trivial⟩⟩ rfl (by decide) ?_
 intro v11
 refine RL.reL (L' := [own 3 TR.int v10 ([(1 : Int), (-1 : Int)] : (List Int)), own 3 TR.int v11 ([(-1 : Int), (1 : Int)] : (List Int))]) rfl ?_
 refine RL.weak (fun a w st => st.freeze 0 rfl) ?_
 refine RL.weak (fun a w st => st.freeze 1 rfl) ?_
 refine RL.bS (t := (TR.sl TR.int)) (vs := [v10, v11]) ([([(1 : Int), (-1 : Int)] : (List Int)), ([(-1 : Int), (1 : Int)] : (List Int))] : (List (List Int))) Try.underlying22 Try_lo32 rfl rfl rfl rfl ⟨(VR.item 0 rfl), ⟨(VR.item 1 rfl), trivial⟩⟩ rfl (by decide) ?_
 intro v12
 refine RL.reL (L' := [imm (TR.sl TR.int) v10 ([(1 : Int), (-1 : Int)] : (List Int)), imm (TR.sl TR.int) v11 ([(-1 : Int), (1 : Int)] : (List Int)), own 32 (TR.sl TR.int) v12 ([([(1 : Int), (-1 : Int)] : (List Int)), ([(-1 : Int), (1 : Int)] : (List Int))] : (List (List Int)))]) rfl ?_
 refine RL.weak (fun a w st => st.freeze 2 rfl) ?_
 obtain ⟨y13, e14, hm⟩ := bind_some hm
 refine RL.call (vs := [v12]) Try_fit16 rfl rfl rfl rfl rfl (fun S f w hS hW hi => mixed_Solve_c S w hS _ _ (hi 2 _ rfl) _ e14) ?_
 intro ⟨v15, v16⟩
 refine RL.reL (L' := [imm (TR.sl TR.int) v10 ([(1 : Int), (-1 : Int)] : (List Int)), imm (TR.sl TR.int) v11 ([(-1 : Int), (1 : Int)] : (List Int)), imm (TR.sl (TR.sl TR.int)) v12 ([([(1 : Int), (-1 : Int)] : (List Int)), ([(-1 : Int), (1 : Int)] : (List Int))] : (List (List Int))), imm (TR.pair TR.int TR.int) v15 y13.1, imm (TR.pair TR.int TR.int) v16 y13.2.1]) rfl ?_
 refine RL.mv rfl rfl rfl ?_
 refine RL.ext rfl rfl rfl rfl ?_
 refine RL.ext rfl rfl rfl rfl ?_
 refine RL.ext rfl rfl rfl rfl ?_
 refine RL.alloc (t := (TR.pair TR.int TR.int)) (z := ((0 : Int), (0 : Int))) Try_lo26 (fun S => ⟨[.int .i64 0], _, rfl, rfl, rfl⟩) rfl rfl rfl ?_
 intro v17
 refine RL.alloc (t := (TR.pair TR.int TR.int)) (z := ((0 : Int), (0 : Int))) Try_lo26 (fun S => ⟨[.int .i64 0], _, rfl, rfl, rfl⟩) rfl rfl rfl ?_
 intro v18
 refine RL.reL (L' := [imm (TR.sl TR.int) v10 ([(1 : Int), (-1 : Int)] : (List Int)), imm (TR.sl TR.int) v11 ([(-1 : Int), (1 : Int)] : (List Int)), imm (TR.sl (TR.sl TR.int)) v12 ([([(1 : Int), (-1 : Int)] : (List Int)), ([(-1 : Int), (1 : Int)] : (List Int))] : (List (List Int))), imm (TR.pair TR.int TR.int) v15 y13.1, imm (TR.pair TR.int TR.int) v16 y13.2.1, obox 26 (TR.pair TR.int TR.int) v17 ((0 : Int), (0 : Int)), obox 26 (TR.pair TR.int TR.int) v18 ((0 : Int), (0 : Int))]) rfl ?_
 refine RL.stP (off := 0) (e' := y13.1) (d1 := y13.1) (r := (TR.pair TR.int TR.int)) 5 Try_ln26 rfl rfl (Or.inr ⟨rfl, rfl⟩) rfl (VR.item 3 rfl) rfl Upd.self ?_
 refine RL.stP (off := 0) (e' := y13.2.1) (d1 := y13.2.1) (r := (TR.pair TR.int TR.int)) 6 Try_ln26 rfl rfl (Or.inr ⟨rfl, rfl⟩) rfl (VR.item 4 rfl) rfl Upd.self ?_
 refine RL.reL (L' := [imm (TR.sl TR.int) v10 ([(1 : Int), (-1 : Int)] : (List Int)), imm (TR.sl TR.int) v11 ([(-1 : Int), (1 : Int)] : (List Int)), imm (TR.sl (TR.sl TR.int)) v12 ([([(1 : Int), (-1 : Int)] : (List Int)), ([(-1 : Int), (1 : Int)] : (List Int))] : (List (List Int))), imm (TR.pair TR.int TR.int) v15 y13.1, imm (TR.pair TR.int TR.int) v16 y13.2.1, obox 26 (TR.pair TR.int TR.int) v17 y13.1, obox 26 (TR.pair TR.int TR.int) v18 y13.2.1]) rfl ?_
 refine RL.asg rfl rfl rfl ?_
 refine RL.finG ?_
 refine GL.seq ?_
 obtain ⟨y32, K33, h34, h35, h36, h37, h38⟩ := bindR_K hm
 refine GL.join (ι := Bool) (fun (p : Bool) => [(0, .bool p)]) (fun (p : Bool) => []) (fun (p : Bool) => K33 (.nx p)) ?_ ?_
 ·skip
  refine GL.region ?_
  refine RL.mv rfl rfl rfl ?_
  refine RL.binI (v := .bool (y13.2.2 == (0 : Int))) rfl rfl rfl rfl rfl ?_
  refine RL.mv rfl rfl rfl ?_
  refine RL.split (t := 14) rfl (fun b39 => ?_) (fun b39 => ?_)
  ·replace h34 := ite_t b39 h34
   refine RL.ldP (off := 0) (r := (TR.pair TR.int TR.int)) (e' := y13.1) 5 Try_ln26 rfl rfl (Or.inr ⟨rfl, rfl⟩) rfl PtOf.obox Part.self ?_
   intro v40
   refine RL.bld (t := (TR.pair TR.int TR.int)) (d0 := (((1 : Int), (2 : Int)) : (Int × Int))) (pv := [(0, .int .i64 (1 : Int)), (1, .int .i64 (2 : Int))]) rfl Try_bld26 rfl rfl rfl ⟨⟨_, _, TR.int, (1 : Int), rfl, rfl, VR.int⟩, ⟨⟨_, _, TR.int, (2 : Int), rfl, rfl, VR.int⟩, trivial⟩⟩ (fun S f hi => by
     obtain ⟨c0, e0, r0⟩ := cells_vrep (t := TR.int) (u := .int .i64 (1 : Int)) (e := (1 : Int)) (VR.int S f hi)
     obtain ⟨c1, e1, r1⟩ := cells_vrep (t := TR.int) (u := .int .i64 (2 : Int)) (e := (2 : Int)) (VR.int S f hi)
     show TR.rep (TR.pair TR.int TR.int) S (List.flatten [(.int .i64 (1 : Int) : Value).cells.toList, (.int .i64 (2 : Int) : Value).cells.toList]) _
     simp only [e0, e1,  List.flatten_cons, List.flatten_nil, List.append_nil]
     exact ⟨_, _, rfl, r0, r1⟩) ?_
   intro v41
   refine RL.reL (L' := [imm (TR.sl TR.int) v10 ([(1 : Int), (-1 : Int)] : (List Int)), imm (TR.sl TR.int) v11 ([(-1 : Int), (1 : Int)] : (List Int)), imm (TR.sl (TR.sl TR.int)) v12 ([([(1 : Int), (-1 : Int)] : (List Int)), ([(-1 : Int), (1 : Int)] : (List Int))] : (List (List Int))), imm (TR.pair TR.int TR.int) v15 y13.1, imm (TR.pair TR.int TR.int) v16 y13.2.1, obox 26 (TR.pair TR.int TR.int) v17 y13.1, obox 26 (TR.pair TR.int TR.int) v18 y13.2.1, imm (TR.pair TR.int TR.int) v40 y13.1, imm (TR.pair TR.int TR.int) v41 (((1 : Int), (2 : Int)) : (Int × Int))]) rfl ?_
   refine RL.eqG (t := (TR.pair TR.int TR.int)) (e := y13.1) (e' := (((1 : Int), (2 : Int)) : (Int × Int))) rfl Try_eq26 (by decide) Try.eqGuardType26 rfl rfl rfl rfl (VR.item 7 rfl) (VR.item 8 rfl) ?_
   refine RL.pickT rfl rfl rfl rfl ?_
   refine RL.mv rfl rfl rfl ?_
   refine RL.split (t := 19) rfl (fun b42 => ?_) (fun b42 => ?_)
   ·replace h34 := ite_t b42 h34
    refine RL.ldP (off := 0) (r := (TR.pair TR.int TR.int)) (e' := y13.2.1) 6 Try_ln26 rfl rfl (Or.inr ⟨rfl, rfl⟩) rfl PtOf.obox Part.self ?_
    intro v43
    refine RL.bld (t := (TR.pair TR.int TR.int)) (d0 := (((0 : Int), (1 : Int)) : (Int × Int))) (pv := [(1, .int .i64 (1 : Int))]) rfl Try_bld26 rfl rfl rfl ⟨⟨_, _, TR.int, (1 : Int), rfl, rfl, VR.int⟩, trivial⟩ (fun S f hi => by
      obtain ⟨c1, e1, r1⟩ := cells_vrep (t := TR.int) (u := .int .i64 (1 : Int)) (e := (1 : Int)) (VR.int S f hi)
      show TR.rep (TR.pair TR.int TR.int) S (List.flatten [[.int .i64 0], (.int .i64 (1 : Int) : Value).cells.toList]) _
      simp only [e1,  List.flatten_cons, List.flatten_nil, List.append_nil]
      exact ⟨_, _, rfl, rfl, r1⟩) ?_
    intro v44
    refine RL.reL (L' := [imm (TR.sl TR.int) v10 ([(1 : Int), (-1 : Int)] : (List Int)), imm (TR.sl TR.int) v11 ([(-1 : Int), (1 : Int)] : (List Int)), imm (TR.sl (TR.sl TR.int)) v12 ([([(1 : Int), (-1 : Int)] : (List Int)), ([(-1 : Int), (1 : Int)] : (List Int))] : (List (List Int))), imm (TR.pair TR.int TR.int) v15 y13.1, imm (TR.pair TR.int TR.int) v16 y13.2.1, obox 26 (TR.pair TR.int TR.int) v17 y13.1, obox 26 (TR.pair TR.int TR.int) v18 y13.2.1, imm (TR.pair TR.int TR.int) v40 y13.1, imm (TR.pair TR.int TR.int) v41 (((1 : Int), (2 : Int)) : (Int × Int)), imm (TR.pair TR.int TR.int) v43 y13.2.1, imm (TR.pair TR.int TR.int) v44 (((0 : Int), (1 : Int)) : (Int × Int))]) rfl ?_
    refine RL.eqG (t := (TR.pair TR.int TR.int)) (e := y13.2.1) (e' := (((0 : Int), (1 : Int)) : (Int × Int))) rfl Try_eq26 (by decide) Try.eqGuardType26 rfl rfl rfl rfl (VR.item 9 rfl) (VR.item 10 rfl) ?_
    refine RL.pickT rfl rfl rfl rfl ?_
    refine RL.asg rfl rfl rfl ?_
    refine RL.fin ?_
    cases h34
    exact fun a w st => mid_intro (decide (y13.2.1 = (((0 : Int), (1 : Int)) : (Int × Int)))) h35 (St.cut [] ⟨rfl, trivial⟩ (by decide) rfl st)
   replace h34 := ite_f b42 h34
   refine RL.skip rfl rfl ?_
   refine RL.skip rfl rfl ?_
   refine RL.skip rfl rfl ?_
   refine RL.pickF rfl rfl rfl rfl ?_
   refine RL.asg rfl rfl rfl ?_
   refine RL.fin ?_
   cases h34
   exact fun a w st => mid_intro false h35 (St.cut [] ⟨rfl, trivial⟩ (by decide) rfl st)
  replace h34 := ite_f b39 h34
  refine RL.skip rfl rfl ?_
  refine RL.skip rfl rfl ?_
  refine RL.skip rfl rfl ?_
  refine RL.pickF rfl rfl rfl rfl ?_
  refine RL.mv rfl rfl rfl ?_
  refine RL.skip rfl rfl ?_
  refine RL.skip rfl rfl ?_
  refine RL.skip rfl rfl ?_
  refine RL.pickF rfl rfl rfl rfl ?_
  refine RL.asg rfl rfl rfl ?_
  refine RL.fin ?_
  cases h34
  exact fun a w st => mid_intro false h35 (St.cut [] ⟨rfl, trivial⟩ (by decide) rfl st)
 rintro x31 h45
 have h46 := h36 _ h45
 try dsimp only at h46
 refine GL.weak (env' := [(0, .bool x31)]) (L' := []) (fun _ _ st => st) ?_
 have h46 := Option.some.inj h46
 subst h46
 exact GL.ret (Gx.ret (v := .bool x31) (res1 rfl rfl) (fun a w st => st.toPostV))

set_option maxHeartbeats 4000000 in
theorem pk_two_c (S : Hp) (w : World) (hS : S.sub w) (v0 : Value) (x0 : (List (List Int))) (k0 : ((TR.sl (TR.sl TR.int))).vrep S v0 x0) (res : (List (List Int))) (hm : pk_two_m x0 = some res) : Calls Try.prog 15 #[v0] w (Post w S (fun (o : Value) => o) (fun (o : Value) => [imm (TR.sl (TR.sl TR.int)) o res])) := by
 refine calls_enter 9 Try.func15 Try.ntmps15 rfl S false [(0, v0)] [imm (TR.sl (TR.sl TR.int)) v0 x0] rfl ⟨rfl, trivial⟩ hS ⟨k0, trivial⟩ ?_
 unfold pk_two_m at hm
 refine GL.seq ?_
 refine GL.region ?_
 refine RL.asg rfl rfl rfl ?_
 refine RL.finG ?_
 refine GL.seq ?_
 refine GL.seq ?_
 refine GL.region ?_
 refine RL.mv rfl rfl rfl ?_
 refine RL.lenS 0 Try.underlying22 rfl rfl rfl rfl SlOf.imm ?_
 refine RL.binI (v := .bool (decide (((x0).length : Int) > (2 : Int)))) rfl rfl rfl rfl rfl ?_
 refine RL.finG ?_
 refine GL.cond rfl (fun b2 => ?_) (fun b2 => ?_)
 ·replace hm := ite_t b2 hm
  refine GL.seq ?_
  refine GL.region ?_
  refine RL.mv rfl rfl rfl ?_
  obtain ⟨y6, e7, hm⟩ := bind_some hm
  replace e7 := chk_some e7
  refine RL.slc (t := (TR.sl TR.int)) (i := 0) (j := ((2 : Int)).toNat) (sz := 1) 0 Try.underlying22 Try_ln32 rfl rfl rfl rfl (Or.inl ⟨rfl, rfl⟩) (Or.inr ⟨_, _, rfl, by rw [Int.toNat_of_nonneg (by omega)]; rfl⟩) rfl (by omega) (by omega) ?_
  intro v8
  refine RL.asg rfl rfl rfl ?_
  refine RL.finG ?_
  have hm := Option.some.inj hm
  subst hm
  exact GL.ret (Gx.ret (v := v8) (res1 rfl rfl) (fun a w st => (st.pick [1] (by decide) rfl).toPost v8))
 replace hm := ite_f b2 hm
 refine GL.skip ?_
 refine GL.seq ?_
 refine GL.region ?_
 refine RL.mv rfl rfl rfl ?_
 refine RL.asg rfl rfl rfl ?_
 refine RL.finG ?_
 have hm := Option.some.inj hm
 subst hm
 exact GL.ret (Gx.ret (v := v0) (res1 rfl rfl) (fun a w st => (st.pick [0] (by decide) rfl).toPost v0))

set_option maxHeartbeats 4000000 in
theorem ref_Rest_c (S : Hp) (w : World) (hS : S.sub w) (x0 : Int) (x1 : Int) (res : Int) (hm : ref_Rest_m x0 x1 = some res) : Calls Try.prog 39 #[.int .i64 x0, .int .i64 x1] w (PostC w (.int .i64 res)) := by
 refine calls_enter 14 Try.func39 Try.ntmps39 rfl S true [(0, .int .i64 x0), (1, .int .i64 x1)] [] rfl ⟨rfl, ⟨rfl, trivial⟩⟩ hS trivial ?_
 unfold ref_Rest_m at hm
 refine GL.seq ?_
 refine GL.region ?_
 refine RL.asg rfl rfl rfl ?_
 refine RL.finG ?_
 refine GL.seq ?_
 refine GL.region ?_
 refine RL.mv rfl rfl rfl ?_
 refine RL.mv rfl rfl rfl ?_
 obtain ⟨y5, e6, hm⟩ := bind_some hm
 replace e6 := chk_some e6
 refine RL.rem rfl rfl rfl rfl e6 ?_
 refine RL.asg rfl rfl rfl ?_
 refine RL.finG ?_
 refine GL.seq ?_
 refine GL.seq ?_
 refine GL.region ?_
 refine RL.mv rfl rfl rfl ?_
 refine RL.binI (v := .bool (decide ((Int.tmod x0 x1) < (0 : Int)))) rfl rfl rfl rfl rfl ?_
 refine RL.finG ?_
 obtain ⟨y9, K10, h11, h12, h13, h14, h15⟩ := bindR_K hm
 refine GL.join (ι := Int) (fun (p : Int) => [(0, .int .i64 p)]) (fun (p : Int) => []) (fun (p : Int) => K10 (.nx p)) ?_ ?_
 ·skip
  refine GL.cond rfl (fun b16 => ?_) (fun b16 => ?_)
  ·replace h11 := ite_t b16 h11
   refine GL.region ?_
   refine RL.mv rfl rfl rfl ?_
   refine RL.mv rfl rfl rfl ?_
   refine RL.binI (v := .int .i64 (wadd (Int.tmod x0 x1) x1)) rfl rfl rfl rfl rfl ?_
   refine RL.asg rfl rfl rfl ?_
   refine RL.finG ?_
   cases h11
   exact fun a w st => mid_intro (wadd (Int.tmod x0 x1) x1) h12 (St.cut [] ⟨rfl, trivial⟩ (by decide) rfl st)
  replace h11 := ite_f b16 h11
  refine GL.skip ?_
  cases h11
  exact fun a w st => mid_intro (Int.tmod x0 x1) h12 (St.cut [] ⟨rfl, trivial⟩ (by decide) rfl st)
 rintro x8 h17
 have h18 := h13 _ h17
 try dsimp only at h18
 refine GL.weak (env' := [(0, .int .i64 x8)]) (L' := []) (fun _ _ st => st) ?_
 refine GL.seq ?_
 refine GL.region ?_
 refine RL.mv rfl rfl rfl ?_
 refine RL.asg rfl rfl rfl ?_
 refine RL.finG ?_
 have h18 := Option.some.inj h18
 subst h18
 exact GL.ret (Gx.ret (v := .int .i64 x8) (res1 rfl rfl) (fun a w st => st.toPostC rfl))

set_option maxHeartbeats 4000000 in
theorem pk_Within_c (S : Hp) (w : World) (hS : S.sub w) (x0 : Int) (x1 : Int) (res : Int) (hm : pk_Within_m x0 x1 = some res) : Calls Try.prog 18 #[.int .i64 x0, .int .i64 x1] w (PostC w (.int .i64 res)) := by
 refine calls_enter 8 Try.func18 Try.ntmps18 rfl S true [(0, .int .i64 x0), (1, .int .i64 x1)] [] rfl ⟨rfl, ⟨rfl, trivial⟩⟩ hS trivial ?_
 unfold pk_Within_m at hm
 refine GL.seq ?_
 refine GL.region ?_
 refine RL.asg rfl rfl rfl ?_
 refine RL.finG ?_
 refine GL.seq ?_
 refine GL.region ?_
 refine RL.mv rfl rfl rfl ?_
 refine RL.mv rfl rfl rfl ?_
 obtain ⟨y5, e6, hm⟩ := bind_some hm
 refine RL.callC (v := .int .i64 y5) (vs := [.int .i64 x0, .int .i64 x1]) Try_fit39 rfl rfl rfl rfl (fun U w hU hW hL => ref_Rest_c U w hU x0 x1 _ e6) ?_
 refine RL.asg rfl rfl rfl ?_
 refine RL.finG ?_
 have hm := Option.some.inj hm
 subst hm
 exact GL.ret (Gx.ret (v := .int .i64 y5) (res1 rfl rfl) (fun a w st => st.toPostC rfl))

set_option maxHeartbeats 4000000 in
theorem slices_Clone_int_int_c (S : Hp) (w : World) (hS : S.sub w) (v0 : Value) (x0 : List Int) (k0 : (TR.sl TR.int).vrep S v0 x0) (res : List Int) (hm : slices_Clone_int_int_m x0 = some res) : Calls Try.prog 24 #[v0] w (Post w S (fun (o : Value) => o) (fun (o : Value) => [own 3 TR.int o res])) := by
  refine calls_enter 8 Try.func24 Try.ntmps24 rfl S false [(0, v0)] [imm (TR.sl TR.int) v0 x0] rfl ⟨rfl, trivial⟩ hS ⟨k0, trivial⟩ ?_
  unfold slices_Clone_int_int_m at hm
  obtain ⟨_, hc, hm⟩ := bind_some hm
  replace hc := chk_some hc
  have hm := Option.some.inj hm
  subst hm
  refine GL.seq (GL.region (RL.asg rfl rfl rfl (RL.finG (GL.seq (GL.seq (GL.region ?_))))))
  refine RL.mv rfl rfl rfl ?_
  refine RL.eqNil 0 Try.underlying32 rfl rfl rfl rfl rfl SlOf.imm (fun b hb => ?_)
  refine RL.finG (GL.cond rfl (fun h => ?_) (fun h => ?_))
  · have := hb h
    subst this
    refine GL.seq (GL.region (RL.asg rfl rfl rfl (RL.finG ?_)))
    refine GL.weak (fun a w st => st.nilOwn 3 TR.int) ?_
    exact GL.ret (Gx.ret (v := Value.slice none 0 0) (res1 rfl rfl) (fun a w st => (st.pick [1] (by decide) rfl).toPost (Value.slice none 0 0)))
  · refine GL.skip (GL.seq (GL.region ?_))
    refine RL.bS (t := TR.int) (vs := []) ([] : List Int) Try.underlying32 Try_lo3 rfl rfl rfl rfl trivial rfl (by decide) ?_
    intro v1
    refine RL.mv rfl rfl rfl ?_
    refine RL.app 1 0 Try.underlying32 Try_lo3 rfl rfl rfl rfl rfl rfl rfl SlOf.imm (by simpa using hc) ?_
    intro v2
    refine RL.asg rfl rfl rfl (RL.finG ?_)
    exact GL.ret (Gx.ret (v := v2) (res1 rfl rfl) (fun a w st => (st.pick [1] (by decide) rfl).toPost v2))

set_option maxHeartbeats 4000000 in
theorem slices_Delete_int_int_c (B : World) (S X : Hp) (f : Nat → Hp) (w : World) (v0 : Value) (x0 : List Int) (hO : HeapOk B.heap.size S f [own 3 TR.int v0 x0, keep X].length w) (hB : Below B.heap.size B w) (hI : Its [own 3 TR.int v0 x0, keep X] S f) (x1 x2 : Int) (res : List Int) (hm : slices_Delete_int_int_m x0 x1 x2 = some res) : Calls Try.prog 23 #[v0, .int .i64 x1, .int .i64 x2] w (PostM B S (fun (o : Value) => o) (fun (o : Value) => [own 3 TR.int o res, keep X])) := by
  refine calls_enterM 33 Try.func23 Try.ntmps23 rfl B S f [(0, v0), (1, .int .i64 x1), (2, .int .i64 x2)] [own 3 TR.int v0 x0, keep X] [] rfl ⟨rfl, rfl, rfl, trivial⟩ hB hO hI trivial ?_
  unfold slices_Delete_int_int_m at hm
  obtain ⟨_, hc, hm⟩ := bind_some hm
  replace hc := chk_some hc
  have hm := Option.some.inj hm
  subst hm
  obtain ⟨i, rfl⟩ : ∃ i : Nat, x1 = (i : Int) := ⟨x1.toNat, by omega⟩
  obtain ⟨j, rfl⟩ : ∃ j : Nat, x2 = (j : Int) := ⟨x2.toNat, by omega⟩
  simp only [Int.toNat_natCast]
  refine GL.capO 0 rfl (fun hcap hmax hrl hcr => ?_)
  repeat refine GL.seq ?_
  refine GL.region ?_
  refine RL.asg rfl rfl rfl ?_
  refine RL.finG ?_
  repeat refine GL.seq ?_
  refine GL.region ?_
  refine RL.mv rfl rfl rfl ?_
  refine RL.mv rfl rfl rfl ?_
  refine RL.mv rfl rfl rfl ?_
  refine RL.mv rfl rfl rfl ?_
  refine RL.lenS 0 Try.underlying32 rfl rfl rfl rfl SlOf.own ?_
  refine RL.cut3 (i := i) (j := j) (m := x0.length) 0 Try.underlying32 Try_ln3 rfl rfl rfl rfl rfl rfl rfl (by omega) (by omega) (by omega) ?_
  intro u
  refine RL.finG ?_
  repeat refine GL.seq ?_
  refine GL.region ?_
  refine RL.mv rfl rfl rfl ?_
  refine RL.mv rfl rfl rfl ?_
  refine RL.binI (v := .bool ((i : Int) == (j : Int))) rfl rfl rfl rfl rfl ?_
  refine RL.finG ?_
  repeat refine GL.seq ?_
  refine GL.cond rfl (fun h => ?_) (fun h => ?_)
  · have hij : i = j := by have := of_decide_eq_true (p := (i : Int) = (j : Int)) (by simpa using h); omega
    subst hij
    repeat refine GL.seq ?_
    refine GL.region ?_
    refine RL.mv rfl rfl rfl ?_
    refine RL.asg rfl rfl rfl ?_
    refine RL.finG ?_
    have hx : x0.take i ++ x0.drop i = x0 := List.take_append_drop _ _
    rw [hx]
    exact GL.ret (Gx.ret (v := v0) (res1 rfl rfl) (fun a w st => (st.pick [0, 1] (by decide) rfl).toPostM (LR := fun (o : Value) => [own 3 TR.int o x0, keep X]) v0))
  · have hij : i ≠ j := fun e => by subst e; simp at h
    have hll : (x0.take i ++ x0.drop j).length = i + (x0.length - j) := by rw [List.length_append, List.length_take, List.length_drop]; omega
    refine GL.skip ?_
    repeat refine GL.seq ?_
    refine GL.region ?_
    refine RL.mv rfl rfl rfl ?_
    refine RL.lenS 0 Try.underlying32 rfl rfl rfl rfl SlOf.own ?_
    refine RL.asg rfl rfl rfl ?_
    refine RL.finG ?_
    repeat refine GL.seq ?_
    refine GL.regionH 6 rfl rfl (by kernel_rfl) ?_
    simp only [List.take_succ_cons, List.take_zero, List.drop_succ_cons, List.drop_zero]
    refine RL.mv rfl rfl rfl ?_
    refine RL.mv rfl rfl rfl ?_
    refine RL.cutO (i := 0) (j := i) 0 Try.underlying32 Try_ln3 rfl rfl rfl (Or.inl ⟨rfl, rfl⟩) (Or.inr ⟨_, _, rfl, rfl⟩) rfl (by omega) (by show i ≤ capv v0; omega) ?_
    refine RL.mv rfl rfl rfl ?_
    refine RL.mv rfl rfl rfl ?_
    refine RL.cutO (i := j) (j := x0.length) 0 Try.underlying32 Try_ln3 rfl rfl rfl (Or.inr ⟨_, _, rfl, rfl⟩) (Or.inl ⟨rfl, rfl⟩) rfl (by omega) hcap ?_
    refine RL.finH ?_
    refine RL.del (i := i) (j := j) 0 Try.underlying32 Try_lo3 rfl rfl rfl rfl rfl rfl (by omega) (by omega) ?_
    refine RL.asg rfl rfl rfl ?_
    refine RL.finG ?_
    repeat refine GL.seq ?_
    refine GL.region ?_
    refine RL.mv rfl rfl rfl ?_
    refine RL.mv rfl rfl rfl ?_
    refine RL.lenS 0 Try.underlying32 rfl rfl rfl rfl SlOf.own ?_
    refine RL.mv rfl rfl rfl ?_
    refine RL.cutO (i := (x0.take i ++ x0.drop j).length) (j := x0.length) 0 Try.underlying32 Try_ln3 rfl rfl rfl (Or.inr ⟨_, _, rfl, rfl⟩) (Or.inr ⟨_, _, rfl, rfl⟩) rfl (by omega) (by rw [hcr]; exact hcap) ?_
    refine RL.clr (j := x0.length) 0 Try.underlying32 Try_lo3 (by decide) rfl rfl rfl rfl (by omega) (by rw [hcr]; exact hcap) ?_
    refine RL.finG ?_
    repeat refine GL.seq ?_
    refine GL.region ?_
    refine RL.mv rfl rfl rfl ?_
    refine RL.asg rfl rfl rfl ?_
    refine RL.finG ?_
    exact GL.ret (Gx.ret (v := relen v0 (i + (x0.length - j))) (res1 rfl rfl) (fun a w st => (st.pick [0, 1] (by decide) rfl).toPostM (LR := fun (o : Value) => [own 3 TR.int o (x0.take i ++ x0.drop j), keep X]) (relen v0 (i + (x0.length - j)))))

set_option maxHeartbeats 4000000 in
theorem pk_MixedMore_c (S : Hp) (w : World) (hS : S.sub w) (v0 : Value) (x0 : (List (List Int))) (k0 : ((TR.sl (TR.sl TR.int))).vrep S v0 x0) (x1 : Int) (x2 : Int) (res : Bool) (hm : pk_MixedMore_m x0 x1 x2 = some res) : Calls Try.prog 7 #[v0, .int .i64 x1, .int .i64 x2] w (PostV w (.bool res)) := by
 refine calls_enter 141 Try.func7 Try.ntmps7 rfl S false [(0, v0), (1, .int .i64 x1), (2, .int .i64 x2)] [imm (TR.sl (TR.sl TR.int)) v0 x0] rfl ⟨rfl, ⟨rfl, ⟨rfl, trivial⟩⟩⟩ hS ⟨k0, trivial⟩ ?_
 unfold pk_MixedMore_m at hm
 refine GL.seq ?_
 refine GL.region ?_
 refine RL.asg rfl rfl rfl ?_
 refine RL.finG ?_
 refine GL.seq ?_
 refine GL.seq ?_
 refine GL.region ?_
 obtain ⟨y6, e7, hm⟩ := bind_some hm
 refine RL.callV (v := .bool y6) (vs := []) Try_fit14 rfl (Or.inl rfl) rfl rfl rfl rfl (fun U w hU hW hL => pk_mixes_c U w hU  _ e7) ?_
 refine RL.notB rfl rfl rfl ?_
 refine RL.finG ?_
 refine GL.cond rfl (fun b8 => ?_) (fun b8 => ?_)
 ·replace hm := ite_t b8 hm
  refine GL.seq ?_
  refine GL.region ?_
  refine RL.asg rfl rfl rfl ?_
  refine RL.finG ?_
  have hm := Option.some.inj hm
  subst hm
  exact GL.ret (Gx.ret (v := .bool false) (res1 rfl rfl) (fun a w st => st.toPostV))
 replace hm := ite_f b8 hm
 refine GL.skip ?_
 refine GL.seq ?_
 refine GL.region ?_
 refine RL.mv rfl rfl rfl ?_
 obtain ⟨y12, e13, hm⟩ := bind_some hm
 refine RL.call (vs := [v0]) Try_fit15 rfl rfl rfl rfl rfl (fun S f w hS hW hi => pk_two_c S w hS _ _ (hi 0 _ rfl) _ e13) ?_
 intro v14
 refine RL.asg rfl rfl rfl ?_
 refine RL.finG ?_
 refine GL.seq ?_
 refine GL.region ?_
 refine RL.mv rfl rfl rfl ?_
 obtain ⟨y21, e22, hm⟩ := bind_some hm
 refine RL.call (vs := [v14]) Try_fit16 rfl rfl rfl rfl rfl (fun S f w hS hW hi => mixed_Solve_c S w hS _ _ (hi 1 _ rfl) _ e22) ?_
 intro ⟨v23, v24⟩
 refine RL.reL (L' := [imm (TR.sl (TR.sl TR.int)) v0 x0, imm (TR.sl (TR.sl TR.int)) v14 y12, imm (TR.pair TR.int TR.int) v23 y21.1, imm (TR.pair TR.int TR.int) v24 y21.2.1]) rfl ?_
 refine RL.mv rfl rfl rfl ?_
 refine RL.ext rfl rfl rfl rfl ?_
 refine RL.ext rfl rfl rfl rfl ?_
 refine RL.ext rfl rfl rfl rfl ?_
 refine RL.alloc (t := (TR.pair TR.int TR.int)) (z := ((0 : Int), (0 : Int))) Try_lo26 (fun S => ⟨[.int .i64 0], _, rfl, rfl, rfl⟩) rfl rfl rfl ?_
 intro v25
 refine RL.alloc (t := (TR.pair TR.int TR.int)) (z := ((0 : Int), (0 : Int))) Try_lo26 (fun S => ⟨[.int .i64 0], _, rfl, rfl, rfl⟩) rfl rfl rfl ?_
 intro v26
 refine RL.reL (L' := [imm (TR.sl (TR.sl TR.int)) v0 x0, imm (TR.sl (TR.sl TR.int)) v14 y12, imm (TR.pair TR.int TR.int) v23 y21.1, imm (TR.pair TR.int TR.int) v24 y21.2.1, obox 26 (TR.pair TR.int TR.int) v25 ((0 : Int), (0 : Int)), obox 26 (TR.pair TR.int TR.int) v26 ((0 : Int), (0 : Int))]) rfl ?_
 refine RL.stP (off := 0) (e' := y21.1) (d1 := y21.1) (r := (TR.pair TR.int TR.int)) 4 Try_ln26 rfl rfl (Or.inr ⟨rfl, rfl⟩) rfl (VR.item 2 rfl) rfl Upd.self ?_
 refine RL.stP (off := 0) (e' := y21.2.1) (d1 := y21.2.1) (r := (TR.pair TR.int TR.int)) 5 Try_ln26 rfl rfl (Or.inr ⟨rfl, rfl⟩) rfl (VR.item 3 rfl) rfl Upd.self ?_
 refine RL.reL (L' := [imm (TR.sl (TR.sl TR.int)) v0 x0, imm (TR.sl (TR.sl TR.int)) v14 y12, imm (TR.pair TR.int TR.int) v23 y21.1, imm (TR.pair TR.int TR.int) v24 y21.2.1, obox 26 (TR.pair TR.int TR.int) v25 y21.1, obox 26 (TR.pair TR.int TR.int) v26 y21.2.1]) rfl ?_
 refine RL.asg rfl rfl rfl ?_
 refine RL.finG ?_
 refine GL.seq ?_
 refine GL.seq ?_
 refine GL.region ?_
 refine RL.mv rfl rfl rfl ?_
 refine RL.binI (v := .bool (y21.2.2 != (0 : Int))) rfl rfl rfl rfl rfl ?_
 refine RL.finG ?_
 refine GL.cond rfl (fun b27 => ?_) (fun b27 => ?_)
 ·replace hm := ite_t b27 hm
  refine GL.seq ?_
  refine GL.region ?_
  refine RL.ldP (off := 0) (r := (TR.pair TR.int TR.int)) (e' := y21.1) 4 Try_ln26 rfl rfl (Or.inr ⟨rfl, rfl⟩) rfl PtOf.obox Part.self ?_
  intro v30
  refine RL.bld (t := (TR.pair TR.int TR.int)) (d0 := (((0 : Int), (0 : Int)) : (Int × Int))) (pv := []) rfl Try_bld26 rfl rfl rfl trivial (fun S f hi => by
    show TR.rep (TR.pair TR.int TR.int) S (List.flatten [[.int .i64 0], [.int .i64 0]]) _
    simp only [ List.flatten_cons, List.flatten_nil, List.append_nil]
    exact ⟨_, _, rfl, rfl, rfl⟩) ?_
  intro v31
  refine RL.reL (L' := [imm (TR.sl (TR.sl TR.int)) v0 x0, imm (TR.sl (TR.sl TR.int)) v14 y12, imm (TR.pair TR.int TR.int) v23 y21.1, imm (TR.pair TR.int TR.int) v24 y21.2.1, obox 26 (TR.pair TR.int TR.int) v25 y21.1, obox 26 (TR.pair TR.int TR.int) v26 y21.2.1, imm (TR.pair TR.int TR.int) v30 y21.1, imm (TR.pair TR.int TR.int) v31 (((0 : Int), (0 : Int)) : (Int × Int))]) rfl ?_
  refine RL.eqG (t := (TR.pair TR.int TR.int)) (e := y21.1) (e' := (((0 : Int), (0 : Int)) : (Int × Int))) rfl Try_eq26 (by decide) Try.eqGuardType26 rfl rfl rfl rfl (VR.item 6 rfl) (VR.item 7 rfl) ?_
  refine RL.asg rfl rfl rfl ?_
  refine RL.finG ?_
  have hm := Option.some.inj hm
  subst hm
  exact GL.ret (Gx.ret (v := .bool (decide (y21.1 = (((0 : Int), (0 : Int)) : (Int × Int))))) (res1 rfl rfl) (fun a w st => st.toPostV))
 replace hm := ite_f b27 hm
 refine GL.skip ?_
 refine GL.seq ?_
 refine GL.region ?_
 refine RL.mv rfl rfl rfl ?_
 obtain ⟨y34, e35, hm⟩ := bind_some hm
 refine RL.callC (v := .int .i64 y34) (vs := [.int .i64 x1, .int .i64 (50 : Int)]) Try_fit18 rfl rfl rfl rfl (fun U w hU hW hL => pk_Within_c U w hU x1 (50 : Int) _ e35) ?_
 refine RL.binI (v := .int .i64 (wsub y34 (25 : Int))) rfl rfl rfl rfl rfl ?_
 refine RL.asg rfl rfl rfl ?_
 refine RL.finG ?_
 refine GL.seq ?_
 refine GL.region ?_
 refine RL.asg rfl rfl rfl ?_
 refine RL.asg rfl rfl rfl ?_
 refine RL.finG ?_
 refine GL.seq ?_
 refine GL.region ?_
 refine RL.mv rfl rfl rfl ?_
 refine RL.mv rfl rfl rfl ?_
 obtain ⟨y41, e42, hm⟩ := bind_some hm
 refine RL.idxS (sz := 1) 1 Try.underlying22 Try_ln32 rfl rfl rfl rfl rfl SlOf.imm (idx_some e42).1 (idx_some e42).2.1 ?_
 refine RL.ldS (i := ((0 : Int)).toNat) (r := (TR.sl TR.int)) (e' := y41) 1 Try_ln32 rfl rfl rfl rfl SlOf.imm (idx_some e42).2.2 Part.self ?_
 intro v43
 refine RL.lenS 6 Try.underlying32 rfl rfl rfl rfl SlOf.imm ?_
 obtain ⟨y44, e45, hm⟩ := bind_some hm
 refine RL.callC (v := .int .i64 y44) (vs := [.int .i64 x2, .int .i64 ((y41).length : Int)]) Try_fit18 rfl rfl rfl rfl (fun U w hU hW hL => pk_Within_c U w hU x2 ((y41).length : Int) _ e45) ?_
 refine RL.asg rfl rfl rfl ?_
 refine RL.finG ?_
 refine GL.seq ?_
 refine GL.seq ?_
 refine GL.region ?_
 refine RL.mv rfl rfl rfl ?_
 refine RL.lenS 1 Try.underlying22 rfl rfl rfl rfl SlOf.imm ?_
 refine RL.mv rfl rfl rfl ?_
 refine RL.finG ?_
 refine GL.weak (fun a w st => st.nilOwn 32 (TR.sl TR.int)) ?_
 refine GL.weak (fun a w st => st.nilOwn 32 (TR.sl TR.int)) ?_
 refine GL.open_ 1 rfl (fun S h => len_imm S h) (fun n130 => ?_)
 obtain ⟨y131, K132, h133, h134, h135, h136, h137⟩ := bindR_K hm
 refine GL.join (ι := (List (List Int)) × (List (List Int)) × Value × Value) (fun (p : (List (List Int)) × (List (List Int)) × Value × Value) => [(1, .int .i64 (wsub y34 (25 : Int))), (7, v25), (8, v26), (10, p.2.2.1), (11, p.2.2.2)]) (fun (p : (List (List Int)) × (List (List Int)) × Value × Value) => [obox 26 (TR.pair TR.int TR.int) v25 y21.1, obox 26 (TR.pair TR.int TR.int) v26 y21.2.1, own 32 (TR.sl TR.int) p.2.2.1 p.1, own 32 (TR.sl TR.int) p.2.2.2 p.2.1]) (fun (p : (List (List Int)) × (List (List Int)) × Value × Value) => K132 (.nx (p.1, p.2.1))) ?_ ?_
 ·refine GL.block ?_
  refine GL.loop (ι := Nat × (List (List Int)) × (List (List Int)) × (List (List Int)) × Value × Value) (fun (p : Nat × (List (List Int)) × (List (List Int)) × (List (List Int)) × Value × Value) => [(1, .int .i64 (wsub y34 (25 : Int))), (2, .int .i64 y44), (7, v25), (8, v26), (10, p.2.2.2.2.1), (11, p.2.2.2.2.2), (47, v14), (48, .int .i64 ((y12).length : Int)), (49, .int .i64 (p.1 : Int))]) (fun (p : Nat × (List (List Int)) × (List (List Int)) × (List (List Int)) × Value × Value) => [obox 26 (TR.pair TR.int TR.int) v25 y21.1, obox 26 (TR.pair TR.int TR.int) v26 y21.2.1, own 32 (TR.sl TR.int) p.2.2.2.2.1 p.2.2.1, own 32 (TR.sl TR.int) p.2.2.2.2.2 p.2.2.2.1, imm (TR.sl (TR.sl TR.int)) v14 y12]) (fun (p : Nat × (List (List Int)) × (List (List Int)) × (List (List Int)) × Value × Value) => p.1 + p.2.1.length = (y12).length ∧ List.drop p.1 y12 = p.2.1 ∧ rangeL (pk_MixedMore_b1 y34 y44) p.2.1 p.1 (p.2.2.1, p.2.2.2.1) = some y131) (fun (p : Nat × (List (List Int)) × (List (List Int)) × (List (List Int)) × Value × Value) => p.2.1.length) (0, y12, [], [], Value.slice none 0 0, Value.slice none 0 0) ⟨by simp, by simp, h133⟩ (fun a w st => St.cut [4, 5, 7, 8, 1] ⟨rfl, rfl, rfl, rfl, rfl, rfl, rfl, rfl, rfl, trivial⟩ (by decide) rfl st) ?_
  rintro ⟨i138, r139, l46, l48, v47, v49⟩ ⟨h144, h145, h143⟩
  try dsimp only at h144 h145 h143
  refine GL.weak (env' := [(1, .int .i64 (wsub y34 (25 : Int))), (2, .int .i64 y44), (7, v25), (8, v26), (10, v47), (11, v49), (47, v14), (48, .int .i64 ((y12).length : Int)), (49, .int .i64 (i138 : Int))]) (L' := [obox 26 (TR.pair TR.int TR.int) v25 y21.1, obox 26 (TR.pair TR.int TR.int) v26 y21.2.1, own 32 (TR.sl TR.int) v47 l46, own 32 (TR.sl TR.int) v49 l48, imm (TR.sl (TR.sl TR.int)) v14 y12]) (fun _ _ st => st) ?_
  refine GL.seq ?_
  refine GL.region ?_
  refine RL.binI (v := .bool (decide ((i138 : Int) < ((y12).length : Int)))) rfl rfl rfl rfl rfl ?_
  refine RL.finG ?_
  refine GL.seq ?_
  refine GL.cond rfl (fun b146 => ?_) (fun b146 => ?_)
  ·have h147 : i138 < (y12).length := by have := of_decide_eq_true b146; omega
   obtain ⟨y148, r150, hr, e149, h151⟩ := drop_cons h145 rfl h147
   subst hr
   obtain ⟨z140, h141, h142⟩ := rangeL_some h143
   unfold pk_MixedMore_b1 at h141
   try dsimp only at h141
   refine GL.skip ?_
   refine GL.seq ?_
   refine GL.block ?_
   refine GL.seq ?_
   refine GL.region ?_
   refine RL.idxS (sz := 1) 4 Try.underlying22 Try_ln32 rfl rfl rfl rfl rfl SlOf.imm (by omega) (by omega) ?_
   refine RL.ldS (i := i138) (r := (TR.sl TR.int)) (e' := y148) 4 Try_ln32 rfl rfl rfl rfl SlOf.imm e149 Part.self ?_
   intro v153
   refine RL.asg rfl rfl rfl ?_
   refine RL.finG ?_
   refine GL.seq ?_
   refine GL.region ?_
   refine RL.asg rfl rfl rfl ?_
   refine RL.finG ?_
   refine GL.seq ?_
   refine GL.seq ?_
   refine GL.region ?_
   refine RL.mv rfl rfl rfl ?_
   refine RL.lenS 5 Try.underlying32 rfl rfl rfl rfl SlOf.imm ?_
   refine RL.mv rfl rfl rfl ?_
   refine RL.finG ?_
   refine GL.weak (fun a w st => st.nilOwn 3 TR.int) ?_
   refine GL.open_ 5 rfl (fun S h => len_imm S h) (fun n168 => ?_)
   obtain ⟨y169, K170, h171, h172, h173, h174, h175⟩ := bindF_K h141
   refine GL.join (ι := (List Int) × Value) (fun (p : (List Int) × Value) => [(1, .int .i64 (wsub y34 (25 : Int))), (2, .int .i64 y44), (7, v25), (8, v26), (10, v47), (11, v49), (13, v153), (14, p.2), (47, v14), (48, .int .i64 ((y12).length : Int)), (49, .int .i64 (i138 : Int))]) (fun (p : (List Int) × Value) => [obox 26 (TR.pair TR.int TR.int) v25 y21.1, obox 26 (TR.pair TR.int TR.int) v26 y21.2.1, own 32 (TR.sl TR.int) v47 l46, own 32 (TR.sl TR.int) v49 l48, imm (TR.sl TR.int) v153 y148, own 3 TR.int p.2 p.1, imm (TR.sl (TR.sl TR.int)) v14 y12]) (fun (p : (List Int) × Value) => K170 (.nx p.1)) ?_ ?_
   ·refine GL.block ?_
    refine GL.loop (ι := Nat × (List Int) × (List Int) × Value) (fun (p : Nat × (List Int) × (List Int) × Value) => [(1, .int .i64 (wsub y34 (25 : Int))), (2, .int .i64 y44), (7, v25), (8, v26), (10, v47), (11, v49), (13, v153), (14, p.2.2.2), (47, v14), (48, .int .i64 ((y12).length : Int)), (49, .int .i64 (i138 : Int)), (53, v153), (54, .int .i64 ((y148).length : Int)), (55, .int .i64 (p.1 : Int))]) (fun (p : Nat × (List Int) × (List Int) × Value) => [obox 26 (TR.pair TR.int TR.int) v25 y21.1, obox 26 (TR.pair TR.int TR.int) v26 y21.2.1, own 32 (TR.sl TR.int) v47 l46, own 32 (TR.sl TR.int) v49 l48, imm (TR.sl TR.int) v153 y148, own 3 TR.int p.2.2.2 p.2.2.1, imm (TR.sl (TR.sl TR.int)) v14 y12]) (fun (p : Nat × (List Int) × (List Int) × Value) => p.1 + p.2.1.length = (y148).length ∧ List.drop p.1 y148 = p.2.1 ∧ rangeL (pk_MixedMore_b2 y34) p.2.1 p.1 p.2.2.1 = some y169) (fun (p : Nat × (List Int) × (List Int) × Value) => p.2.1.length) (0, y148, [], Value.slice none 0 0) ⟨by simp, by simp, h171⟩ (fun a w st => St.cut [0, 1, 2, 3, 5, 6, 4] ⟨rfl, rfl, rfl, rfl, rfl, rfl, rfl, rfl, rfl, rfl, rfl, rfl, rfl, rfl, trivial⟩ (by decide) rfl st) ?_
    rintro ⟨i176, r177, l154, v155⟩ ⟨h182, h183, h181⟩
    try dsimp only at h182 h183 h181
    refine GL.weak (env' := [(1, .int .i64 (wsub y34 (25 : Int))), (2, .int .i64 y44), (7, v25), (8, v26), (10, v47), (11, v49), (13, v153), (14, v155), (47, v14), (48, .int .i64 ((y12).length : Int)), (49, .int .i64 (i138 : Int)), (53, v153), (54, .int .i64 ((y148).length : Int)), (55, .int .i64 (i176 : Int))]) (L' := [obox 26 (TR.pair TR.int TR.int) v25 y21.1, obox 26 (TR.pair TR.int TR.int) v26 y21.2.1, own 32 (TR.sl TR.int) v47 l46, own 32 (TR.sl TR.int) v49 l48, imm (TR.sl TR.int) v153 y148, own 3 TR.int v155 l154, imm (TR.sl (TR.sl TR.int)) v14 y12]) (fun _ _ st => st) ?_
    refine GL.seq ?_
    refine GL.region ?_
    refine RL.binI (v := .bool (decide ((i176 : Int) < ((y148).length : Int)))) rfl rfl rfl rfl rfl ?_
    refine RL.finG ?_
    refine GL.seq ?_
    refine GL.cond rfl (fun b184 => ?_) (fun b184 => ?_)
    ·have h185 : i176 < (y148).length := by have := of_decide_eq_true b184; omega
     obtain ⟨y186, r188, hr, e187, h189⟩ := drop_cons h183 rfl h185
     subst hr
     obtain ⟨z178, h179, h180⟩ := rangeL_some h181
     unfold pk_MixedMore_b2 at h179
     try dsimp only at h179
     refine GL.skip ?_
     refine GL.seq ?_
     refine GL.block ?_
     refine GL.seq ?_
     refine GL.region ?_
     refine RL.idxS (sz := 1) 4 Try.underlying32 Try_ln3 rfl rfl rfl rfl rfl SlOf.imm (by omega) (by omega) ?_
     refine RL.ldSx (i := i176) (e' := y186) 4 Ex.ik Try_ln3 rfl rfl rfl rfl SlOf.imm e187 Part.self ?_
     refine RL.asg rfl rfl rfl ?_
     refine RL.finG ?_
     refine GL.region ?_
     refine RL.mv rfl rfl rfl ?_
     refine RL.mv rfl rfl rfl ?_
     refine RL.mv rfl rfl rfl ?_
     refine RL.binI (v := .int .i64 (wadd y186 (wsub y34 (25 : Int)))) rfl rfl rfl rfl rfl ?_
     refine RL.bS (t := TR.int) (vs := [.int .i64 (wadd y186 (wsub y34 (25 : Int)))]) ([wadd y186 (wsub y34 (25 : Int))] : (List Int)) Try.underlying32 Try_lo3 rfl rfl rfl rfl ⟨VR.int, trivial⟩ rfl (by decide) ?_
     intro v194
     obtain ⟨y195, e196, h179⟩ := bind_some h179
     replace e196 := chk_some e196
     refine RL.app 5 7 Try.underlying32 Try_lo3 rfl rfl rfl rfl rfl rfl rfl SlOf.own e196 ?_
     intro v197
     refine RL.reL (L' := [obox 26 (TR.pair TR.int TR.int) v25 y21.1, obox 26 (TR.pair TR.int TR.int) v26 y21.2.1, own 32 (TR.sl TR.int) v47 l46, own 32 (TR.sl TR.int) v49 l48, imm (TR.sl TR.int) v153 y148, own 3 TR.int v197 (l154 ++ ([wadd y186 (wsub y34 (25 : Int))] : (List Int))), imm (TR.sl (TR.sl TR.int)) v14 y12, own 3 TR.int v194 ([wadd y186 (wsub y34 (25 : Int))] : (List Int))]) rfl ?_
     refine RL.asg rfl rfl rfl ?_
     refine RL.finG ?_
     refine GL.nilB ?_
     refine GL.region ?_
     refine RL.binI (v := .int .i64 ((i176 + 1 : Nat) : Int)) rfl rfl rfl rfl (binI_succ i176 (by omega)) ?_
     refine RL.mv rfl rfl rfl ?_
     refine RL.fin ?_
     cases h179
     exact fun a w st => lop_intro (i176 + 1, r188, (l154 ++ ([wadd y186 (wsub y34 (25 : Int))] : (List Int))), v197) ⟨by show i176 + 1 + r188.length = (y148).length; simp only [List.length_cons] at h182; omega, h189, h180⟩ (by simp) (St.cut [0, 1, 2, 3, 4, 5, 6] ⟨rfl, rfl, rfl, rfl, rfl, rfl, rfl, rfl, rfl, rfl, rfl, rfl, rfl, rfl, trivial⟩ (by decide) rfl st)
    have h185 : ¬ i176 < (y148).length := by have := of_decide_eq_false b184; omega
    obtain rfl : r177 = [] := by rw [← h183]; exact List.drop_of_length_le (by omega)
    replace h181 : some (Fl.nx _) = some y169 := h181
    cases h181
    exact GL.exit (fun a w st => mid_intro (l154, v155) h172 (St.cut [0, 1, 2, 3, 4, 5, 6] ⟨rfl, rfl, rfl, rfl, rfl, rfl, rfl, rfl, rfl, rfl, rfl, trivial⟩ (by decide) rfl st))
   rintro ⟨l154, v155⟩ h198
   have h199 := h173 _ h198
   try dsimp only at h199
   refine GL.weak (env' := [(1, .int .i64 (wsub y34 (25 : Int))), (2, .int .i64 y44), (7, v25), (8, v26), (10, v47), (11, v49), (13, v153), (14, v155), (47, v14), (48, .int .i64 ((y12).length : Int)), (49, .int .i64 (i138 : Int))]) (L' := [obox 26 (TR.pair TR.int TR.int) v25 y21.1, obox 26 (TR.pair TR.int TR.int) v26 y21.2.1, own 32 (TR.sl TR.int) v47 l46, own 32 (TR.sl TR.int) v49 l48, imm (TR.sl TR.int) v153 y148, own 3 TR.int v155 l154, imm (TR.sl (TR.sl TR.int)) v14 y12]) (fun _ _ st => st) ?_
   refine GL.seq ?_
   refine GL.region ?_
   refine RL.mv rfl rfl rfl ?_
   refine RL.mv rfl rfl rfl ?_
   refine RL.weak (fun a w st => st.freeze 5 rfl) ?_
   refine RL.bS (t := (TR.sl TR.int)) (vs := [v155]) ([l154] : (List (List Int))) Try.underlying22 Try_lo32 rfl rfl rfl rfl ⟨(VR.item 5 rfl), trivial⟩ rfl (by decide) ?_
   intro v204
   refine RL.reL (L' := [obox 26 (TR.pair TR.int TR.int) v25 y21.1, obox 26 (TR.pair TR.int TR.int) v26 y21.2.1, own 32 (TR.sl TR.int) v47 l46, own 32 (TR.sl TR.int) v49 l48, imm (TR.sl TR.int) v153 y148, imm (TR.sl TR.int) v155 l154, imm (TR.sl (TR.sl TR.int)) v14 y12, own 32 (TR.sl TR.int) v204 ([l154] : (List (List Int)))]) rfl ?_
   obtain ⟨y205, e206, h199⟩ := bind_some h199
   replace e206 := chk_some e206
   refine RL.app 2 7 Try.underlying22 Try_lo32 rfl rfl rfl rfl rfl rfl rfl SlOf.own e206 ?_
   intro v207
   refine RL.asg rfl rfl rfl ?_
   refine RL.finG ?_
   refine GL.region ?_
   refine RL.mv rfl rfl rfl ?_
   refine RL.mv rfl rfl rfl ?_
   obtain ⟨y218, e219, h199⟩ := bind_some h199
   refine RL.call (vs := [v153]) Try_fit24 rfl rfl rfl rfl rfl (fun S f w hS hW hi => slices_Clone_int_int_c S w hS _ _ (hi 4 _ rfl) _ e219) ?_
   intro v220
   refine RL.reL (L' := [obox 26 (TR.pair TR.int TR.int) v25 y21.1, obox 26 (TR.pair TR.int TR.int) v26 y21.2.1, own 32 (TR.sl TR.int) v207 (l46 ++ ([l154] : (List (List Int)))), own 32 (TR.sl TR.int) v49 l48, imm (TR.sl TR.int) v153 y148, imm (TR.sl TR.int) v155 l154, imm (TR.sl (TR.sl TR.int)) v14 y12, own 32 (TR.sl TR.int) v204 ([l154] : (List (List Int))), own 3 TR.int v220 y218]) rfl ?_
   refine RL.mv rfl rfl rfl ?_
   refine RL.mv rfl rfl rfl ?_
   refine RL.binI (v := .int .i64 (wadd y44 (1 : Int))) rfl rfl rfl rfl rfl ?_
   obtain ⟨y221, e222, h199⟩ := bind_some h199
   refine RL.callK (vs := [v220, .int .i64 y44, .int .i64 (wadd y44 (1 : Int))]) (V := fun (o : Value) => o) (LR := fun (o : Value) => [own 3 TR.int o y221]) (Ls := [own 3 TR.int v220 y218]) [8] (by decide) Try_fit23 rfl rfl rfl rfl rfl rfl (fun S f X w hO hB hW hI hL => slices_Delete_int_int_c _ S X f w _ _ hO hB hI y44 (wadd y44 (1 : Int)) _ e222) ?_
   intro v223
   refine RL.reL (L' := [obox 26 (TR.pair TR.int TR.int) v25 y21.1, obox 26 (TR.pair TR.int TR.int) v26 y21.2.1, own 32 (TR.sl TR.int) v207 (l46 ++ ([l154] : (List (List Int)))), own 32 (TR.sl TR.int) v49 l48, imm (TR.sl TR.int) v153 y148, imm (TR.sl TR.int) v155 l154, imm (TR.sl (TR.sl TR.int)) v14 y12, own 32 (TR.sl TR.int) v204 ([l154] : (List (List Int))), gone, own 3 TR.int v223 y221]) rfl ?_
   refine RL.weak (fun a w st => st.freeze 9 rfl) ?_
   refine RL.bS (t := (TR.sl TR.int)) (vs := [v223]) ([y221] : (List (List Int))) Try.underlying22 Try_lo32 rfl rfl rfl rfl ⟨(VR.item 9 rfl), trivial⟩ rfl (by decide) ?_
   intro v224
   refine RL.reL (L' := [obox 26 (TR.pair TR.int TR.int) v25 y21.1, obox 26 (TR.pair TR.int TR.int) v26 y21.2.1, own 32 (TR.sl TR.int) v207 (l46 ++ ([l154] : (List (List Int)))), own 32 (TR.sl TR.int) v49 l48, imm (TR.sl TR.int) v153 y148, imm (TR.sl TR.int) v155 l154, imm (TR.sl (TR.sl TR.int)) v14 y12, own 32 (TR.sl TR.int) v204 ([l154] : (List (List Int))), gone, imm (TR.sl TR.int) v223 y221, own 32 (TR.sl TR.int) v224 ([y221] : (List (List Int)))]) rfl ?_
   obtain ⟨y225, e226, h199⟩ := bind_some h199
   replace e226 := chk_some e226
   refine RL.app 3 10 Try.underlying22 Try_lo32 rfl rfl rfl rfl rfl rfl rfl SlOf.own e226 ?_
   intro v227
   refine RL.asg rfl rfl rfl ?_
   refine RL.finG ?_
   refine GL.nilB ?_
   refine GL.region ?_
   refine RL.binI (v := .int .i64 ((i138 + 1 : Nat) : Int)) rfl rfl rfl rfl (binI_succ i138 (by omega)) ?_
   refine RL.mv rfl rfl rfl ?_
   refine RL.fin ?_
   cases h199
   exact fun a w st => lop_intro (i138 + 1, r150, (l46 ++ ([l154] : (List (List Int)))), (l48 ++ ([y221] : (List (List Int)))), v207, v227) ⟨by show i138 + 1 + r150.length = (y12).length; simp only [List.length_cons] at h144; omega, h151, h142⟩ (by simp) (St.cut [0, 1, 2, 3, 6] ⟨rfl, rfl, rfl, rfl, rfl, rfl, rfl, rfl, rfl, trivial⟩ (by decide) rfl st)
  have h147 : ¬ i138 < (y12).length := by have := of_decide_eq_false b146; omega
  obtain rfl : r139 = [] := by rw [← h145]; exact List.drop_of_length_le (by omega)
  replace h143 : some (Fl.nx _) = some y131 := h143
  cases h143
  exact GL.exit (fun a w st => mid_intro (l46, l48, v47, v49) h134 (St.cut [0, 1, 2, 3] ⟨rfl, rfl, rfl, rfl, rfl, trivial⟩ (by decide) rfl st))
 rintro ⟨l46, l48, v47, v49⟩ h228
 have h229 := h135 _ h228
 try dsimp only at h229
 refine GL.weak (env' := [(1, .int .i64 (wsub y34 (25 : Int))), (7, v25), (8, v26), (10, v47), (11, v49)]) (L' := [obox 26 (TR.pair TR.int TR.int) v25 y21.1, obox 26 (TR.pair TR.int TR.int) v26 y21.2.1, own 32 (TR.sl TR.int) v47 l46, own 32 (TR.sl TR.int) v49 l48]) (fun _ _ st => st) ?_
 refine GL.seq ?_
 refine GL.region ?_
 refine RL.mv rfl rfl rfl ?_
 refine RL.weak (fun a w st => st.freeze 2 rfl) ?_
 obtain ⟨y236, e237, h229⟩ := bind_some h229
 refine RL.call (vs := [v47]) Try_fit16 rfl rfl rfl rfl rfl (fun S f w hS hW hi => mixed_Solve_c S w hS _ _ (hi 2 _ rfl) _ e237) ?_
 intro ⟨v238, v239⟩
 refine RL.reL (L' := [obox 26 (TR.pair TR.int TR.int) v25 y21.1, obox 26 (TR.pair TR.int TR.int) v26 y21.2.1, imm (TR.sl (TR.sl TR.int)) v47 l46, own 32 (TR.sl TR.int) v49 l48, imm (TR.pair TR.int TR.int) v238 y236.1, imm (TR.pair TR.int TR.int) v239 y236.2.1]) rfl ?_
 refine RL.mv rfl rfl rfl ?_
 refine RL.ext rfl rfl rfl rfl ?_
 refine RL.ext rfl rfl rfl rfl ?_
 refine RL.ext rfl rfl rfl rfl ?_
 refine RL.alloc (t := (TR.pair TR.int TR.int)) (z := ((0 : Int), (0 : Int))) Try_lo26 (fun S => ⟨[.int .i64 0], _, rfl, rfl, rfl⟩) rfl rfl rfl ?_
 intro v240
 refine RL.alloc (t := (TR.pair TR.int TR.int)) (z := ((0 : Int), (0 : Int))) Try_lo26 (fun S => ⟨[.int .i64 0], _, rfl, rfl, rfl⟩) rfl rfl rfl ?_
 intro v241
 refine RL.reL (L' := [obox 26 (TR.pair TR.int TR.int) v25 y21.1, obox 26 (TR.pair TR.int TR.int) v26 y21.2.1, imm (TR.sl (TR.sl TR.int)) v47 l46, own 32 (TR.sl TR.int) v49 l48, imm (TR.pair TR.int TR.int) v238 y236.1, imm (TR.pair TR.int TR.int) v239 y236.2.1, obox 26 (TR.pair TR.int TR.int) v240 ((0 : Int), (0 : Int)), obox 26 (TR.pair TR.int TR.int) v241 ((0 : Int), (0 : Int))]) rfl ?_
 refine RL.stP (off := 0) (e' := y236.1) (d1 := y236.1) (r := (TR.pair TR.int TR.int)) 6 Try_ln26 rfl rfl (Or.inr ⟨rfl, rfl⟩) rfl (VR.item 4 rfl) rfl Upd.self ?_
 refine RL.stP (off := 0) (e' := y236.2.1) (d1 := y236.2.1) (r := (TR.pair TR.int TR.int)) 7 Try_ln26 rfl rfl (Or.inr ⟨rfl, rfl⟩) rfl (VR.item 5 rfl) rfl Upd.self ?_
 refine RL.reL (L' := [obox 26 (TR.pair TR.int TR.int) v25 y21.1, obox 26 (TR.pair TR.int TR.int) v26 y21.2.1, imm (TR.sl (TR.sl TR.int)) v47 l46, own 32 (TR.sl TR.int) v49 l48, imm (TR.pair TR.int TR.int) v238 y236.1, imm (TR.pair TR.int TR.int) v239 y236.2.1, obox 26 (TR.pair TR.int TR.int) v240 y236.1, obox 26 (TR.pair TR.int TR.int) v241 y236.2.1]) rfl ?_
 refine RL.asg rfl rfl rfl ?_
 refine RL.finG ?_
 refine GL.seq ?_
 refine GL.seq ?_
 obtain ⟨y253, K254, h255, h256, h257, h258, h259⟩ := bindR_K h229
 refine GL.join (ι := Bool) (fun (p : Bool) => [(8, v26), (11, v49), (19, .int .i64 y236.2.2), (111, .bool p)]) (fun (p : Bool) => [obox 26 (TR.pair TR.int TR.int) v26 y21.2.1, own 32 (TR.sl TR.int) v49 l48]) (fun (p : Bool) => K254 (.nx p)) ?_ ?_
 ·skip
  refine GL.region ?_
  refine RL.mv rfl rfl rfl ?_
  refine RL.binI (v := .bool (y236.2.2 == (0 : Int))) rfl rfl rfl rfl rfl ?_
  refine RL.mv rfl rfl rfl ?_
  refine RL.split (t := 88) rfl (fun b260 => ?_) (fun b260 => ?_)
  ·replace h255 := ite_t b260 h255
   refine RL.ldP (off := 0) (r := (TR.pair TR.int TR.int)) (e' := y236.1) 6 Try_ln26 rfl rfl (Or.inr ⟨rfl, rfl⟩) rfl PtOf.obox Part.self ?_
   intro v261
   refine RL.ldP (off := 0) (r := (TR.pair TR.int TR.int)) (e' := y21.1) 0 Try_ln26 rfl rfl (Or.inr ⟨rfl, rfl⟩) rfl PtOf.obox Part.self ?_
   intro v262
   refine RL.reL (L' := [obox 26 (TR.pair TR.int TR.int) v25 y21.1, obox 26 (TR.pair TR.int TR.int) v26 y21.2.1, imm (TR.sl (TR.sl TR.int)) v47 l46, own 32 (TR.sl TR.int) v49 l48, imm (TR.pair TR.int TR.int) v238 y236.1, imm (TR.pair TR.int TR.int) v239 y236.2.1, obox 26 (TR.pair TR.int TR.int) v240 y236.1, obox 26 (TR.pair TR.int TR.int) v241 y236.2.1, imm (TR.pair TR.int TR.int) v261 y236.1, imm (TR.pair TR.int TR.int) v262 y21.1]) rfl ?_
   refine RL.neG (t := (TR.pair TR.int TR.int)) (e := y236.1) (e' := y21.1) rfl Try_eq26 (by decide) Try.eqGuardType26 rfl rfl rfl rfl (VR.item 8 rfl) (VR.item 9 rfl) ?_
   refine RL.mv rfl rfl rfl ?_
   refine RL.split (t := 92) rfl (fun b263 => ?_) (fun b263 => ?_)
   ·replace h255 := ite_t b263 h255
    refine RL.skip rfl rfl ?_
    refine RL.skip rfl rfl ?_
    refine RL.skip rfl rfl ?_
    refine RL.skip rfl rfl ?_
    refine RL.skip rfl rfl ?_
    refine RL.pickT rfl rfl rfl rfl ?_
    refine RL.mv rfl rfl rfl ?_
    refine RL.skip rfl rfl ?_
    refine RL.skip rfl rfl ?_
    refine RL.skip rfl rfl ?_
    refine RL.skip rfl rfl ?_
    refine RL.skip rfl rfl ?_
    refine RL.skip rfl rfl ?_
    refine RL.skip rfl rfl ?_
    refine RL.skip rfl rfl ?_
    refine RL.skip rfl rfl ?_
    refine RL.skip rfl rfl ?_
    refine RL.pickT rfl rfl rfl rfl ?_
    refine RL.pickT rfl rfl rfl rfl ?_
    refine RL.fin ?_
    cases h255
    exact fun a w st => mid_intro true h256 (St.cut [1, 3] ⟨rfl, rfl, rfl, rfl, trivial⟩ (by decide) rfl st)
   replace h255 := ite_f b263 h255
   refine RL.fadr (off := 0) (fo := 1) 7 Try_fld26_1 rfl rfl rfl PtOf.obox (Or.inr ⟨rfl, rfl⟩) ?_
   refine RL.ldPx (off := (0 + 1)) (e' := y236.2.1.2) 7 Ex.ik Try_ln3 rfl rfl (Or.inl rfl) rfl PtOf.obox (Part.snd Part.self) ?_
   refine RL.fadr (off := 0) (fo := 1) 1 Try_fld26_1 rfl rfl rfl PtOf.obox (Or.inr ⟨rfl, rfl⟩) ?_
   refine RL.ldPx (off := (0 + 1)) (e' := y21.2.1.2) 1 Ex.ik Try_ln3 rfl rfl (Or.inl rfl) rfl PtOf.obox (Part.snd Part.self) ?_
   refine RL.binI (v := .bool (y236.2.1.2 != y21.2.1.2)) rfl rfl rfl rfl rfl ?_
   refine RL.pickF rfl rfl rfl rfl ?_
   refine RL.mv rfl rfl rfl ?_
   refine RL.split (t := 99) rfl (fun b264 => ?_) (fun b264 => ?_)
   ·replace h255 := ite_t b264 h255
    refine RL.skip rfl rfl ?_
    refine RL.skip rfl rfl ?_
    refine RL.skip rfl rfl ?_
    refine RL.skip rfl rfl ?_
    refine RL.skip rfl rfl ?_
    refine RL.skip rfl rfl ?_
    refine RL.skip rfl rfl ?_
    refine RL.skip rfl rfl ?_
    refine RL.skip rfl rfl ?_
    refine RL.skip rfl rfl ?_
    refine RL.pickT rfl rfl rfl rfl ?_
    refine RL.pickT rfl rfl rfl rfl ?_
    refine RL.fin ?_
    cases h255
    exact fun a w st => mid_intro true h256 (St.cut [1, 3] ⟨rfl, rfl, rfl, rfl, trivial⟩ (by decide) rfl st)
   replace h255 := ite_f b264 h255
   refine RL.fadr (off := 0) (fo := 0) 7 Try_fld26_0 rfl rfl rfl PtOf.obox (Or.inr ⟨rfl, rfl⟩) ?_
   refine RL.ldPx (off := (0 + 0)) (e' := y236.2.1.1) 7 Ex.ik Try_ln3 rfl rfl (Or.inl rfl) rfl PtOf.obox (Part.fst Part.self) ?_
   refine RL.fadr (off := 0) (fo := 0) 1 Try_fld26_0 rfl rfl rfl PtOf.obox (Or.inr ⟨rfl, rfl⟩) ?_
   refine RL.ldPx (off := (0 + 0)) (e' := y21.2.1.1) 1 Ex.ik Try_ln3 rfl rfl (Or.inl rfl) rfl PtOf.obox (Part.fst Part.self) ?_
   refine RL.mv rfl rfl rfl ?_
   refine RL.fadr (off := 0) (fo := 1) 1 Try_fld26_1 rfl rfl rfl PtOf.obox (Or.inr ⟨rfl, rfl⟩) ?_
   refine RL.ldPx (off := (0 + 1)) (e' := y21.2.1.2) 1 Ex.ik Try_ln3 rfl rfl (Or.inl rfl) rfl PtOf.obox (Part.snd Part.self) ?_
   refine RL.binI (v := .int .i64 (wmul (wsub y34 (25 : Int)) y21.2.1.2)) rfl rfl rfl rfl rfl ?_
   refine RL.binI (v := .int .i64 (wadd y21.2.1.1 (wmul (wsub y34 (25 : Int)) y21.2.1.2))) rfl rfl rfl rfl rfl ?_
   refine RL.binI (v := .bool (y236.2.1.1 != (wadd y21.2.1.1 (wmul (wsub y34 (25 : Int)) y21.2.1.2)))) rfl rfl rfl rfl rfl ?_
   refine RL.pickF rfl rfl rfl rfl ?_
   refine RL.pickT rfl rfl rfl rfl ?_
   refine RL.fin ?_
   cases h255
   exact fun a w st => mid_intro (y236.2.1.1 != (wadd y21.2.1.1 (wmul (wsub y34 (25 : Int)) y21.2.1.2))) h256 (St.cut [1, 3] ⟨rfl, rfl, rfl, rfl, trivial⟩ (by decide) rfl st)
  replace h255 := ite_f b260 h255
  refine RL.skip rfl rfl ?_
  refine RL.skip rfl rfl ?_
  refine RL.skip rfl rfl ?_
  refine RL.skip rfl rfl ?_
  refine RL.skip rfl rfl ?_
  refine RL.skip rfl rfl ?_
  refine RL.skip rfl rfl ?_
  refine RL.skip rfl rfl ?_
  refine RL.skip rfl rfl ?_
  refine RL.skip rfl rfl ?_
  refine RL.skip rfl rfl ?_
  refine RL.skip rfl rfl ?_
  refine RL.skip rfl rfl ?_
  refine RL.skip rfl rfl ?_
  refine RL.skip rfl rfl ?_
  refine RL.skip rfl rfl ?_
  refine RL.skip rfl rfl ?_
  refine RL.skip rfl rfl ?_
  refine RL.skip rfl rfl ?_
  refine RL.skip rfl rfl ?_
  refine RL.skip rfl rfl ?_
  refine RL.skip rfl rfl ?_
  refine RL.pickF rfl rfl rfl rfl ?_
  refine RL.fin ?_
  cases h255
  exact fun a w st => mid_intro false h256 (St.cut [1, 3] ⟨rfl, rfl, rfl, rfl, trivial⟩ (by decide) rfl st)
 rintro x252 h265
 have h266 := h257 _ h265
 try dsimp only at h266
 refine GL.weak (env' := [(8, v26), (11, v49), (19, .int .i64 y236.2.2), (111, .bool x252)]) (L' := [obox 26 (TR.pair TR.int TR.int) v26 y21.2.1, own 32 (TR.sl TR.int) v49 l48]) (fun _ _ st => st) ?_
 refine GL.cond rfl (fun b267 => ?_) (fun b267 => ?_)
 ·replace h266 := ite_t b267 h266
  refine GL.seq ?_
  refine GL.region ?_
  refine RL.asg rfl rfl rfl ?_
  refine RL.finG ?_
  have h266 := Option.some.inj h266
  subst h266
  exact GL.ret (Gx.ret (v := .bool false) (res1 rfl rfl) (fun a w st => st.toPostV))
 replace h266 := ite_f b267 h266
 refine GL.skip ?_
 refine GL.seq ?_
 refine GL.region ?_
 refine RL.mv rfl rfl rfl ?_
 refine RL.weak (fun a w st => st.freeze 1 rfl) ?_
 obtain ⟨y274, e275, h266⟩ := bind_some h266
 refine RL.call (vs := [v49]) Try_fit16 rfl rfl rfl rfl rfl (fun S f w hS hW hi => mixed_Solve_c S w hS _ _ (hi 1 _ rfl) _ e275) ?_
 intro ⟨v276, v277⟩
 refine RL.reL (L' := [obox 26 (TR.pair TR.int TR.int) v26 y21.2.1, imm (TR.sl (TR.sl TR.int)) v49 l48, imm (TR.pair TR.int TR.int) v276 y274.1, imm (TR.pair TR.int TR.int) v277 y274.2.1]) rfl ?_
 refine RL.mv rfl rfl rfl ?_
 refine RL.ext rfl rfl rfl rfl ?_
 refine RL.ext rfl rfl rfl rfl ?_
 refine RL.ext rfl rfl rfl rfl ?_
 refine RL.alloc (t := (TR.pair TR.int TR.int)) (z := ((0 : Int), (0 : Int))) Try_lo26 (fun S => ⟨[.int .i64 0], _, rfl, rfl, rfl⟩) rfl rfl rfl ?_
 intro v278
 refine RL.alloc (t := (TR.pair TR.int TR.int)) (z := ((0 : Int), (0 : Int))) Try_lo26 (fun S => ⟨[.int .i64 0], _, rfl, rfl, rfl⟩) rfl rfl rfl ?_
 intro v279
 refine RL.reL (L' := [obox 26 (TR.pair TR.int TR.int) v26 y21.2.1, imm (TR.sl (TR.sl TR.int)) v49 l48, imm (TR.pair TR.int TR.int) v276 y274.1, imm (TR.pair TR.int TR.int) v277 y274.2.1, obox 26 (TR.pair TR.int TR.int) v278 ((0 : Int), (0 : Int)), obox 26 (TR.pair TR.int TR.int) v279 ((0 : Int), (0 : Int))]) rfl ?_
 refine RL.stP (off := 0) (e' := y274.1) (d1 := y274.1) (r := (TR.pair TR.int TR.int)) 4 Try_ln26 rfl rfl (Or.inr ⟨rfl, rfl⟩) rfl (VR.item 2 rfl) rfl Upd.self ?_
 refine RL.stP (off := 0) (e' := y274.2.1) (d1 := y274.2.1) (r := (TR.pair TR.int TR.int)) 5 Try_ln26 rfl rfl (Or.inr ⟨rfl, rfl⟩) rfl (VR.item 3 rfl) rfl Upd.self ?_
 refine RL.reL (L' := [obox 26 (TR.pair TR.int TR.int) v26 y21.2.1, imm (TR.sl (TR.sl TR.int)) v49 l48, imm (TR.pair TR.int TR.int) v276 y274.1, imm (TR.pair TR.int TR.int) v277 y274.2.1, obox 26 (TR.pair TR.int TR.int) v278 y274.1, obox 26 (TR.pair TR.int TR.int) v279 y274.2.1]) rfl ?_
 refine RL.asg rfl rfl rfl ?_
 refine RL.finG ?_
 refine GL.seq ?_
 obtain ⟨y289, K290, h291, h292, h293, h294, h295⟩ := bindR_K h266
 refine GL.join (ι := Bool) (fun (p : Bool) => [(6, .bool p)]) (fun (p : Bool) => []) (fun (p : Bool) => K290 (.nx p)) ?_ ?_
 ·skip
  refine GL.region ?_
  refine RL.mv rfl rfl rfl ?_
  refine RL.binI (v := .bool (y236.2.2 == (0 : Int))) rfl rfl rfl rfl rfl ?_
  refine RL.mv rfl rfl rfl ?_
  refine RL.split (t := 120) rfl (fun b296 => ?_) (fun b296 => ?_)
  ·replace h291 := ite_t b296 h291
   refine RL.skip rfl rfl ?_
   refine RL.skip rfl rfl ?_
   refine RL.pickT rfl rfl rfl rfl ?_
   refine RL.mv rfl rfl rfl ?_
   refine RL.mv rfl rfl rfl ?_
   refine RL.binI (v := .bool (y274.2.2 != (0 : Int))) rfl rfl rfl rfl rfl ?_
   refine RL.mv rfl rfl rfl ?_
   refine RL.split (t := 127) rfl (fun b297 => ?_) (fun b297 => ?_)
   ·replace h291 := ite_t b297 h291
    refine RL.skip rfl rfl ?_
    refine RL.skip rfl rfl ?_
    refine RL.skip rfl rfl ?_
    refine RL.skip rfl rfl ?_
    refine RL.skip rfl rfl ?_
    refine RL.skip rfl rfl ?_
    refine RL.skip rfl rfl ?_
    refine RL.skip rfl rfl ?_
    refine RL.skip rfl rfl ?_
    refine RL.skip rfl rfl ?_
    refine RL.skip rfl rfl ?_
    refine RL.pickT rfl rfl rfl rfl ?_
    refine RL.pickT rfl rfl rfl rfl ?_
    refine RL.asg rfl rfl rfl ?_
    refine RL.fin ?_
    cases h291
    exact fun a w st => mid_intro true h292 (St.cut [] ⟨rfl, trivial⟩ (by decide) rfl st)
   replace h291 := ite_f b297 h291
   refine RL.fadr (off := 0) (fo := 0) 5 Try_fld26_0 rfl rfl rfl PtOf.obox (Or.inr ⟨rfl, rfl⟩) ?_
   refine RL.ldPx (off := (0 + 0)) (e' := y274.2.1.1) 5 Ex.ik Try_ln3 rfl rfl (Or.inl rfl) rfl PtOf.obox (Part.fst Part.self) ?_
   refine RL.fadr (off := 0) (fo := 1) 0 Try_fld26_1 rfl rfl rfl PtOf.obox (Or.inr ⟨rfl, rfl⟩) ?_
   refine RL.ldPx (off := (0 + 1)) (e' := y21.2.1.2) 0 Ex.ik Try_ln3 rfl rfl (Or.inl rfl) rfl PtOf.obox (Part.snd Part.self) ?_
   refine RL.binI (v := .int .i64 (wmul y274.2.1.1 y21.2.1.2)) rfl rfl rfl rfl rfl ?_
   refine RL.fadr (off := 0) (fo := 0) 0 Try_fld26_0 rfl rfl rfl PtOf.obox (Or.inr ⟨rfl, rfl⟩) ?_
   refine RL.ldPx (off := (0 + 0)) (e' := y21.2.1.1) 0 Ex.ik Try_ln3 rfl rfl (Or.inl rfl) rfl PtOf.obox (Part.fst Part.self) ?_
   refine RL.fadr (off := 0) (fo := 1) 5 Try_fld26_1 rfl rfl rfl PtOf.obox (Or.inr ⟨rfl, rfl⟩) ?_
   refine RL.ldPx (off := (0 + 1)) (e' := y274.2.1.2) 5 Ex.ik Try_ln3 rfl rfl (Or.inl rfl) rfl PtOf.obox (Part.snd Part.self) ?_
   refine RL.binI (v := .int .i64 (wmul y21.2.1.1 y274.2.1.2)) rfl rfl rfl rfl rfl ?_
   refine RL.binI (v := .bool (decide ((wmul y274.2.1.1 y21.2.1.2) ≥ (wmul y21.2.1.1 y274.2.1.2)))) rfl rfl rfl rfl rfl ?_
   refine RL.pickF rfl rfl rfl rfl ?_
   refine RL.pickT rfl rfl rfl rfl ?_
   refine RL.asg rfl rfl rfl ?_
   refine RL.fin ?_
   cases h291
   exact fun a w st => mid_intro (decide ((wmul y274.2.1.1 y21.2.1.2) ≥ (wmul y21.2.1.1 y274.2.1.2))) h292 (St.cut [] ⟨rfl, trivial⟩ (by decide) rfl st)
  replace h291 := ite_f b296 h291
  refine RL.mv rfl rfl rfl ?_
  refine RL.binI (v := .bool (y236.2.2 == (1 : Int))) rfl rfl rfl rfl rfl ?_
  refine RL.pickF rfl rfl rfl rfl ?_
  refine RL.mv rfl rfl rfl ?_
  refine RL.split (t := 124) rfl (fun b298 => ?_) (fun b298 => ?_)
  ·replace h291 := ite_t b298 h291
   refine RL.mv rfl rfl rfl ?_
   refine RL.binI (v := .bool (y274.2.2 != (0 : Int))) rfl rfl rfl rfl rfl ?_
   refine RL.mv rfl rfl rfl ?_
   refine RL.split (t := 127) rfl (fun b299 => ?_) (fun b299 => ?_)
   ·replace h291 := ite_t b299 h291
    refine RL.skip rfl rfl ?_
    refine RL.skip rfl rfl ?_
    refine RL.skip rfl rfl ?_
    refine RL.skip rfl rfl ?_
    refine RL.skip rfl rfl ?_
    refine RL.skip rfl rfl ?_
    refine RL.skip rfl rfl ?_
    refine RL.skip rfl rfl ?_
    refine RL.skip rfl rfl ?_
    refine RL.skip rfl rfl ?_
    refine RL.skip rfl rfl ?_
    refine RL.pickT rfl rfl rfl rfl ?_
    refine RL.pickT rfl rfl rfl rfl ?_
    refine RL.asg rfl rfl rfl ?_
    refine RL.fin ?_
    cases h291
    exact fun a w st => mid_intro true h292 (St.cut [] ⟨rfl, trivial⟩ (by decide) rfl st)
   replace h291 := ite_f b299 h291
   refine RL.fadr (off := 0) (fo := 0) 5 Try_fld26_0 rfl rfl rfl PtOf.obox (Or.inr ⟨rfl, rfl⟩) ?_
   refine RL.ldPx (off := (0 + 0)) (e' := y274.2.1.1) 5 Ex.ik Try_ln3 rfl rfl (Or.inl rfl) rfl PtOf.obox (Part.fst Part.self) ?_
   refine RL.fadr (off := 0) (fo := 1) 0 Try_fld26_1 rfl rfl rfl PtOf.obox (Or.inr ⟨rfl, rfl⟩) ?_
   refine RL.ldPx (off := (0 + 1)) (e' := y21.2.1.2) 0 Ex.ik Try_ln3 rfl rfl (Or.inl rfl) rfl PtOf.obox (Part.snd Part.self) ?_
   refine RL.binI (v := .int .i64 (wmul y274.2.1.1 y21.2.1.2)) rfl rfl rfl rfl rfl ?_
   refine RL.fadr (off := 0) (fo := 0) 0 Try_fld26_0 rfl rfl rfl PtOf.obox (Or.inr ⟨rfl, rfl⟩) ?_
   refine RL.ldPx (off := (0 + 0)) (e' := y21.2.1.1) 0 Ex.ik Try_ln3 rfl rfl (Or.inl rfl) rfl PtOf.obox (Part.fst Part.self) ?_
   refine RL.fadr (off := 0) (fo := 1) 5 Try_fld26_1 rfl rfl rfl PtOf.obox (Or.inr ⟨rfl, rfl⟩) ?_
   refine RL.ldPx (off := (0 + 1)) (e' := y274.2.1.2) 5 Ex.ik Try_ln3 rfl rfl (Or.inl rfl) rfl PtOf.obox (Part.snd Part.self) ?_
   refine RL.binI (v := .int .i64 (wmul y21.2.1.1 y274.2.1.2)) rfl rfl rfl rfl rfl ?_
   refine RL.binI (v := .bool (decide ((wmul y274.2.1.1 y21.2.1.2) ≥ (wmul y21.2.1.1 y274.2.1.2)))) rfl rfl rfl rfl rfl ?_
   refine RL.pickF rfl rfl rfl rfl ?_
   refine RL.pickT rfl rfl rfl rfl ?_
   refine RL.asg rfl rfl rfl ?_
   refine RL.fin ?_
   cases h291
   exact fun a w st => mid_intro (decide ((wmul y274.2.1.1 y21.2.1.2) ≥ (wmul y21.2.1.1 y274.2.1.2))) h292 (St.cut [] ⟨rfl, trivial⟩ (by decide) rfl st)
  replace h291 := ite_f b298 h291
  refine RL.skip rfl rfl ?_
  refine RL.skip rfl rfl ?_
  refine RL.skip rfl rfl ?_
  refine RL.skip rfl rfl ?_
  refine RL.skip rfl rfl ?_
  refine RL.skip rfl rfl ?_
  refine RL.skip rfl rfl ?_
  refine RL.skip rfl rfl ?_
  refine RL.skip rfl rfl ?_
  refine RL.skip rfl rfl ?_
  refine RL.skip rfl rfl ?_
  refine RL.skip rfl rfl ?_
  refine RL.skip rfl rfl ?_
  refine RL.skip rfl rfl ?_
  refine RL.skip rfl rfl ?_
  refine RL.pickF rfl rfl rfl rfl ?_
  refine RL.asg rfl rfl rfl ?_
  refine RL.fin ?_
  cases h291
  exact fun a w st => mid_intro false h292 (St.cut [] ⟨rfl, trivial⟩ (by decide) rfl st)
 rintro x288 h300
 have h301 := h293 _ h300
 try dsimp only at h301
 refine GL.weak (env' := [(6, .bool x288)]) (L' := []) (fun _ _ st => st) ?_
 have h301 := Option.some.inj h301
 subst h301
 exact GL.ret (Gx.ret (v := .bool x288) (res1 rfl rfl) (fun a w st => st.toPostV))
end Go.Wk
