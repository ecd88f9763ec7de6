/- Each function comes to what its model says; printed by a program of this repository. -/
import Derived.Test.YthhconilidaffaaProg
import Derived.Test.YthhconilidaffaaWTopRoadsModels
import Derived.Test.YthhconilidaffaaWTopRoadsWalks1
namespace Go.Wk
open Go.Fw Go.Mo Go.Proofs Go.RowKit
set_option linter.all false
set_option maxRecDepth 100000

set_option maxHeartbeats 4000000 in
theorem top_TopRoads_c (S : Hp) (w : World) (hS : S.sub w) (v0 : Value) (x0 : (List (List Int))) (k0 : ((TR.sl (TR.rec1 (TR.sl TR.int)))).vrep S v0 x0) (v1 : Value) (x1 : (List Int)) (k1 : ((TR.arr 2 TR.int)).vrep S v1 x1) (res : Bool) (hm : top_TopRoads_m x0 x1 = some res) : Calls Try.prog 4 #[v0, v1] w (PostV w (.bool res)) := by
 refine calls_enter 142 Try.func4 Try.ntmps4 rfl S false [(0, v0), (1, v1)] [imm (TR.sl (TR.rec1 (TR.sl TR.int))) v0 x0, imm (TR.arr 2 TR.int) v1 x1] rfl ⟨rfl, ⟨rfl, trivial⟩⟩ hS ⟨k0, ⟨k1, trivial⟩⟩ ?_
 unfold top_TopRoads_m at hm
 refine GL.seq ?_
 refine GL.region ?_
 refine RL.box (t := (TR.arr 2 TR.int)) (e := x1) rfl rfl rfl rfl (VR.item 1 rfl) ?_
 intro v4
 refine RL.asg rfl rfl rfl ?_
 refine RL.finG ?_
 refine GL.seq ?_
 refine GL.seq ?_
 obtain ⟨y8, K9, h10, h11, h12, h13, h14⟩ := bindR_K hm
 refine GL.join (ι := Bool) (fun (p : Bool) => [(0, v0), (3, v4), (24, .bool p)]) (fun (p : Bool) => [imm (TR.sl (TR.rec1 (TR.sl TR.int))) v0 x0, obox 37 (TR.arr 2 TR.int) v4 x1]) (fun (p : Bool) => K9 (.nx p)) ?_ ?_
 ·skip
  refine GL.region ?_
  refine RL.mv rfl rfl rfl ?_
  refine RL.lenS 0 Try.underlying36 rfl rfl rfl rfl SlOf.imm ?_
  refine RL.binI (v := .bool (decide (((x0).length : Int) < (1 : Int)))) rfl rfl rfl rfl rfl ?_
  refine RL.mv rfl rfl rfl ?_
  refine RL.split (t := 20) rfl (fun b15 => ?_) (fun b15 => ?_)
  ·replace h10 := ite_t b15 h10
   refine RL.skip rfl rfl ?_
   refine RL.skip rfl rfl ?_
   refine RL.skip rfl rfl ?_
   refine RL.pickT rfl rfl rfl rfl ?_
   refine RL.fin ?_
   cases h10
   exact fun a w st => mid_intro true h11 (St.cut [0, 2] ⟨rfl, rfl, rfl, trivial⟩ (by decide) rfl st)
  replace h10 := ite_f b15 h10
  refine RL.mv rfl rfl rfl ?_
  refine RL.lenS 0 Try.underlying36 rfl rfl rfl rfl SlOf.imm ?_
  refine RL.binI (v := .bool (decide (((x0).length : Int) > (4 : Int)))) rfl rfl rfl rfl rfl ?_
  refine RL.pickF rfl rfl rfl rfl ?_
  refine RL.fin ?_
  cases h10
  exact fun a w st => mid_intro (decide (((x0).length : Int) > (4 : Int))) h11 (St.cut [0, 2] ⟨rfl, rfl, rfl, trivial⟩ (by decide) rfl st)
 rintro x7 h16
 have h17 := h12 _ h16
 try dsimp only at h17
 refine GL.weak (env' := [(0, v0), (3, v4), (24, .bool x7)]) (L' := [imm (TR.sl (TR.rec1 (TR.sl TR.int))) v0 x0, obox 37 (TR.arr 2 TR.int) v4 x1]) (fun _ _ st => st) ?_
 refine GL.cond rfl (fun b18 => ?_) (fun b18 => ?_)
 ·replace h17 := ite_t b18 h17
  refine GL.seq ?_
  refine GL.region ?_
  obtain ⟨y21, e22, h17⟩ := bind_some h17
  refine RL.callV (v := .bool y21) (vs := []) Try_fit10 rfl (Or.inl rfl) rfl rfl rfl rfl (fun U w hU hW hL => top_works_c U w hU  _ e22) ?_
  refine RL.asg rfl rfl rfl ?_
  refine RL.finG ?_
  have h17 := Option.some.inj h17
  subst h17
  exact GL.ret (Gx.ret (v := .bool y21) (res1 rfl rfl) (fun a w st => st.toPostV))
 replace h17 := ite_f b18 h17
 refine GL.skip ?_
 refine GL.seq ?_
 refine GL.regionH 10 rfl rfl (by kernel_rfl) ?_
 simp only [List.take_succ_cons, List.take_zero, List.drop_succ_cons, List.drop_zero]
 obtain ⟨y32, e33, h17⟩ := bind_some h17
 refine RL.idxA0 (sz := 1) (t' := TR.int) 1 Try.underlying37 Try_ln3 rfl rfl rfl PtOf.obox rfl rfl Part.self (idx_some e33).1 (idx_some e33).2.1 ?_
 refine RL.ldPx (off := (((0 : Int)).toNat * 1)) (e' := y32) 1 Ex.ik Try_ln3 rfl rfl (Or.inl rfl) rfl PtOf.obox (Part.arr (idx_some e33).2.2 Part.self) ?_
 refine RL.mv rfl rfl rfl ?_
 refine RL.lenS 0 Try.underlying36 rfl rfl rfl rfl SlOf.imm ?_
 obtain ⟨y34, e35, h17⟩ := bind_some h17
 refine RL.callC (v := .int .i64 y34) (vs := [.int .i64 y32, .int .i64 ((x0).length : Int)]) Try_fit7 rfl rfl rfl rfl (fun U w hU hW hL => pk_Within_c U w hU y32 ((x0).length : Int) _ e35) ?_
 obtain ⟨y36, e37, h17⟩ := bind_some h17
 refine RL.idxA0 (sz := 1) (t' := TR.int) 1 Try.underlying37 Try_ln3 rfl rfl rfl PtOf.obox rfl rfl Part.self (idx_some e37).1 (idx_some e37).2.1 ?_
 refine RL.ldPx (off := (((1 : Int)).toNat * 1)) (e' := y36) 1 Ex.ik Try_ln3 rfl rfl (Or.inl rfl) rfl PtOf.obox (Part.arr (idx_some e37).2.2 Part.self) ?_
 refine RL.mv rfl rfl rfl ?_
 refine RL.lenS 0 Try.underlying36 rfl rfl rfl rfl SlOf.imm ?_
 obtain ⟨y38, e39, h17⟩ := bind_some h17
 refine RL.callC (v := .int .i64 y38) (vs := [.int .i64 y36, .int .i64 ((x0).length : Int)]) Try_fit7 rfl rfl rfl rfl (fun U w hU hW hL => pk_Within_c U w hU y36 ((x0).length : Int) _ e39) ?_
 refine RL.finH ?_
 refine RL.bS (t := TR.int) (vs := [.int .i64 y34, .int .i64 y38]) ([y34, y38] : (List Int)) Try.underlying22 Try_lo3 rfl rfl rfl rfl ⟨VR.int, ⟨VR.int, trivial⟩⟩ rfl (by decide) ?_
 intro v40
 refine RL.asg rfl rfl rfl ?_
 refine RL.finG ?_
 refine GL.seq ?_
 refine GL.region ?_
 refine RL.mv rfl rfl rfl ?_
 refine RL.mv rfl rfl rfl ?_
 obtain ⟨y44, e45, h17⟩ := bind_some h17
 refine RL.callU (vs := [v0, v40]) (LR := fun (o : Value) => [own 3 TR.int o y44.1]) (fun o => ⟨Loc.own TR.flatT_ik, trivial⟩) Try_fit12 rfl rfl rfl rfl rfl (fun U w hU hW hL => roads_Settle_c U w hU _ _ (hL 0 _ _ rfl Seen.imm) _ _ (hL 2 _ _ rfl Seen.own) _ e45) ?_
 intro v46
 refine RL.mv rfl rfl rfl ?_
 refine RL.ext rfl rfl rfl rfl ?_
 refine RL.ext rfl rfl rfl rfl ?_
 refine RL.ext rfl rfl rfl rfl ?_
 refine RL.asg rfl rfl rfl ?_
 refine RL.asg rfl rfl rfl ?_
 refine RL.asg rfl rfl rfl ?_
 refine RL.finG ?_
 refine GL.seq ?_
 refine GL.seq ?_
 obtain ⟨y50, K51, h52, h53, h54, h55, h56⟩ := bindR_K h17
 refine GL.join (ι := Bool) (fun (p : Bool) => [(0, v0), (6, v46), (8, .int .i64 y44.2.2), (50, .bool p)]) (fun (p : Bool) => [imm (TR.sl (TR.rec1 (TR.sl TR.int))) v0 x0, own 3 TR.int v46 y44.1]) (fun (p : Bool) => K51 (.nx p)) ?_ ?_
 ·skip
  refine GL.region ?_
  refine RL.mv rfl rfl rfl ?_
  refine RL.binI (v := .bool (y44.2.2 != (0 : Int))) rfl rfl rfl rfl rfl ?_
  refine RL.mv rfl rfl rfl ?_
  refine RL.split (t := 46) rfl (fun b57 => ?_) (fun b57 => ?_)
  ·replace h52 := ite_t b57 h52
   refine RL.skip rfl rfl ?_
   refine RL.skip rfl rfl ?_
   refine RL.skip rfl rfl ?_
   refine RL.pickT rfl rfl rfl rfl ?_
   refine RL.fin ?_
   cases h52
   exact fun a w st => mid_intro true h53 (St.cut [0, 3] ⟨rfl, rfl, rfl, rfl, trivial⟩ (by decide) rfl st)
  replace h52 := ite_f b57 h52
  refine RL.mv rfl rfl rfl ?_
  refine RL.lenS 3 Try.underlying22 rfl rfl rfl rfl SlOf.own ?_
  refine RL.binI (v := .bool (((y44.1).length : Int) != (2 : Int))) rfl rfl rfl rfl rfl ?_
  refine RL.pickF rfl rfl rfl rfl ?_
  refine RL.fin ?_
  cases h52
  exact fun a w st => mid_intro (((y44.1).length : Int) != (2 : Int)) h53 (St.cut [0, 3] ⟨rfl, rfl, rfl, rfl, trivial⟩ (by decide) rfl st)
 rintro x49 h58
 have h59 := h54 _ h58
 try dsimp only at h59
 refine GL.weak (env' := [(0, v0), (6, v46), (8, .int .i64 y44.2.2), (50, .bool x49)]) (L' := [imm (TR.sl (TR.rec1 (TR.sl TR.int))) v0 x0, own 3 TR.int v46 y44.1]) (fun _ _ st => st) ?_
 refine GL.cond rfl (fun b60 => ?_) (fun b60 => ?_)
 ·replace h59 := ite_t b60 h59
  refine GL.seq ?_
  obtain ⟨y70, K71, h72, h73, h74, h75, h76⟩ := bindR_K h59
  refine GL.join (ι := Bool) (fun (p : Bool) => [(4, .bool p)]) (fun (p : Bool) => []) (fun (p : Bool) => K71 (.nx p)) ?_ ?_
  ·skip
   refine GL.region ?_
   obtain ⟨y77, e78, h72⟩ := bind_some h72
   refine RL.callV (v := .bool y77) (vs := []) Try_fit10 rfl (Or.inl rfl) rfl rfl rfl rfl (fun U w hU hW hL => top_works_c U w hU  _ e78) ?_
   refine RL.mv rfl rfl rfl ?_
   refine RL.split (t := 52) rfl (fun b79 => ?_) (fun b79 => ?_)
   ·replace h72 := ite_t b79 h72
    refine RL.mv rfl rfl rfl ?_
    refine RL.binI (v := .bool (y44.2.2 != (0 : Int))) rfl rfl rfl rfl rfl ?_
    refine RL.pickT rfl rfl rfl rfl ?_
    refine RL.mv rfl rfl rfl ?_
    refine RL.split (t := 56) rfl (fun b80 => ?_) (fun b80 => ?_)
    ·replace h72 := ite_t b80 h72
     refine RL.mv rfl rfl rfl ?_
     refine RL.lenS 1 Try.underlying22 rfl rfl rfl rfl SlOf.own ?_
     refine RL.binI (v := .bool (((y44.1).length : Int) == (0 : Int))) rfl rfl rfl rfl rfl ?_
     refine RL.pickT rfl rfl rfl rfl ?_
     refine RL.asg rfl rfl rfl ?_
     refine RL.fin ?_
     cases h72
     exact fun a w st => mid_intro (((y44.1).length : Int) == (0 : Int)) h73 (St.cut [] ⟨rfl, trivial⟩ (by decide) rfl st)
    replace h72 := ite_f b80 h72
    refine RL.skip rfl rfl ?_
    refine RL.skip rfl rfl ?_
    refine RL.skip rfl rfl ?_
    refine RL.pickF rfl rfl rfl rfl ?_
    refine RL.asg rfl rfl rfl ?_
    refine RL.fin ?_
    cases h72
    exact fun a w st => mid_intro false h73 (St.cut [] ⟨rfl, trivial⟩ (by decide) rfl st)
   replace h72 := ite_f b79 h72
   refine RL.skip rfl rfl ?_
   refine RL.skip rfl rfl ?_
   refine RL.pickF rfl rfl rfl rfl ?_
   refine RL.mv rfl rfl rfl ?_
   refine RL.skip rfl rfl ?_
   refine RL.skip rfl rfl ?_
   refine RL.skip rfl rfl ?_
   refine RL.pickF rfl rfl rfl rfl ?_
   refine RL.asg rfl rfl rfl ?_
   refine RL.fin ?_
   cases h72
   exact fun a w st => mid_intro false h73 (St.cut [] ⟨rfl, trivial⟩ (by decide) rfl st)
  rintro x69 h81
  have h82 := h74 _ h81
  try dsimp only at h82
  refine GL.weak (env' := [(4, .bool x69)]) (L' := []) (fun _ _ st => st) ?_
  have h82 := Option.some.inj h82
  subst h82
  exact GL.ret (Gx.ret (v := .bool x69) (res1 rfl rfl) (fun a w st => st.toPostV))
 replace h59 := ite_f b60 h59
 refine GL.skip ?_
 refine GL.seq ?_
 refine GL.regionA rfl rfl ?_
 refine RA.mv 0 rfl (by kernel_rfl) rfl rfl rfl ?_
 refine RA.lenS 0 Try.underlying36 1 rfl (by kernel_rfl) rfl rfl rfl rfl SlOf.imm ?_
 refine RA.mv 3 rfl (by kernel_rfl) rfl rfl rfl ?_
 refine RA.lenS 0 Try.underlying36 4 rfl (by kernel_rfl) rfl rfl rfl rfl SlOf.imm ?_
 obtain ⟨y99, e100, h59⟩ := bind_some h59
 replace e100 := chk_some e100
 obtain ⟨y102, e103, h59⟩ := bind_some h59
 replace e103 := chk_some e103
 refine RA.meet (ι := Value × Value) (fun (p : Value × Value) => [(0, v0), (6, v46), (9, p.1), (10, p.2)]) (fun (p : Value × Value) => [imm (TR.sl (TR.rec1 (TR.sl TR.int))) v0 x0, own 3 TR.int v46 y44.1, own2 22 3 TR.int p.1 (List.replicate (((x0).length : Int)).toNat (Value.slice none 0 0)) (List.replicate (((x0).length : Int)).toNat ([] : (List Int))), own2 22 3 TR.int p.2 (List.replicate (((x0).length : Int)).toNat (Value.slice none 0 0)) (List.replicate (((x0).length : Int)).toNat ([] : (List Int)))]) 0 #[true, true, true, true, true, true, true, true] (fun h108 => ?_) ?_
 ·skip
  refine RA.meet (ι := Value) (fun (p : Value) => [(0, v0), (6, v46), (9, p), (65, .int .i64 ((x0).length : Int))]) (fun (p : Value) => [imm (TR.sl (TR.rec1 (TR.sl TR.int))) v0 x0, own 3 TR.int v46 y44.1, own2 22 3 TR.int p (List.replicate (((x0).length : Int)).toNat (Value.slice none 0 0)) (List.replicate (((x0).length : Int)).toNat ([] : (List Int)))]) 2 #[true, true, true, true, true, false, true, false] (fun h109 => ?_) ?_
  rotate_left
  ·rintro v105
   refine RA.weak (env' := [(0, v0), (6, v46), (9, v105), (65, .int .i64 ((x0).length : Int))]) (L' := [imm (TR.sl (TR.rec1 (TR.sl TR.int))) v0 x0, own 3 TR.int v46 y44.1, own2 22 3 TR.int v105 (List.replicate (((x0).length : Int)).toNat (Value.slice none 0 0)) (List.replicate (((x0).length : Int)).toNat ([] : (List Int)))]) (fun _ _ st => st) ?_
   refine RA.seq 5 rfl (by kernel_rfl) ?_
   refine RL.mkS (t := TR.raw) (z := .slice none 0 0) Try.underlying27 Try_lo22 (fun S => ⟨rfl, rfl⟩) rfl rfl rfl rfl e103.1 e103.2 ?_
   intro v114
   refine RL.weak (fun a w st => st.toRows 3 TR.int 3 rfl) ?_
   refine RL.fin ?_
   refine RA.next ?_
   refine RA.asg 7 rfl (by kernel_rfl) rfl rfl rfl ?_
   refine RA.relist 0 #[true, true, true, true, true, true, true, true] rfl (by kernel_rfl) ?_
   exact fun a w st => h108 (v105, v114) a w (St.cut [0, 1, 2, 3] ⟨rfl, rfl, rfl, rfl, trivial⟩ (by decide) rfl st)
  refine RA.meet (ι := Value) (fun (p : Value) => [(0, v0), (6, v46), (62, .int .i64 ((x0).length : Int)), (66, p)]) (fun (p : Value) => [imm (TR.sl (TR.rec1 (TR.sl TR.int))) v0 x0, own 3 TR.int v46 y44.1, own2 22 3 TR.int p (List.replicate (((x0).length : Int)).toNat (Value.slice none 0 0)) (List.replicate (((x0).length : Int)).toNat ([] : (List Int)))]) 3 #[true, true, false, true, true, true, false, false] (fun h110 => ?_) ?_
  rotate_left
  ·rintro v106
   refine RA.weak (env' := [(0, v0), (6, v46), (62, .int .i64 ((x0).length : Int)), (66, v106)]) (L' := [imm (TR.sl (TR.rec1 (TR.sl TR.int))) v0 x0, own 3 TR.int v46 y44.1, own2 22 3 TR.int v106 (List.replicate (((x0).length : Int)).toNat (Value.slice none 0 0)) (List.replicate (((x0).length : Int)).toNat ([] : (List Int)))]) (fun _ _ st => st) ?_
   refine RA.seq 2 rfl (by kernel_rfl) ?_
   refine RL.mkS (t := TR.raw) (z := .slice none 0 0) Try.underlying27 Try_lo22 (fun S => ⟨rfl, rfl⟩) rfl rfl rfl rfl e100.1 e100.2 ?_
   intro v113
   refine RL.weak (fun a w st => st.toRows 3 TR.int 3 rfl) ?_
   refine RL.fin ?_
   refine RA.next ?_
   refine RA.asg 6 rfl (by kernel_rfl) rfl rfl rfl ?_
   refine RA.asg 7 rfl (by kernel_rfl) rfl rfl rfl ?_
   refine RA.relist 0 #[true, true, true, true, true, true, true, true] rfl (by kernel_rfl) ?_
   exact fun a w st => h108 (v113, v106) a w (St.cut [0, 1, 3, 2] ⟨rfl, rfl, rfl, rfl, trivial⟩ (by decide) rfl st)
  refine RA.many [2, 5] (by kernel_rfl) ⟨⟨_, rfl, ?_⟩, ⟨_, rfl, ?_⟩, trivial⟩
  ·skip
   refine RL.mkS (t := TR.raw) (z := .slice none 0 0) Try.underlying27 Try_lo22 (fun S => ⟨rfl, rfl⟩) rfl rfl rfl rfl e100.1 e100.2 ?_
   intro v111
   refine RL.weak (fun a w st => st.toRows 3 TR.int 2 rfl) ?_
   refine RL.fin ?_
   refine RA.next ?_
   refine RA.asg 6 rfl (by kernel_rfl) rfl rfl rfl ?_
   refine RA.relist 2 #[true, true, true, true, true, false, true, false] rfl (by kernel_rfl) ?_
   exact fun a w st => h109 v111 a w (St.cut [0, 1, 2] ⟨rfl, rfl, rfl, rfl, trivial⟩ (by decide) rfl st)
  refine RL.mkS (t := TR.raw) (z := .slice none 0 0) Try.underlying27 Try_lo22 (fun S => ⟨rfl, rfl⟩) rfl rfl rfl rfl e103.1 e103.2 ?_
  intro v112
  refine RL.weak (fun a w st => st.toRows 3 TR.int 2 rfl) ?_
  refine RL.fin ?_
  refine RA.next ?_
  refine RA.relist 3 #[true, true, false, true, true, true, false, false] rfl (by kernel_rfl) ?_
  exact fun a w st => h110 v112 a w (St.cut [0, 1, 2] ⟨rfl, rfl, rfl, rfl, trivial⟩ (by decide) rfl st)
 rintro ⟨v107, v106⟩
 refine RA.weak (env' := [(0, v0), (6, v46), (9, v107), (10, v106)]) (L' := [imm (TR.sl (TR.rec1 (TR.sl TR.int))) v0 x0, own 3 TR.int v46 y44.1, own2 22 3 TR.int v107 (List.replicate (((x0).length : Int)).toNat (Value.slice none 0 0)) (List.replicate (((x0).length : Int)).toNat ([] : (List Int))), own2 22 3 TR.int v106 (List.replicate (((x0).length : Int)).toNat (Value.slice none 0 0)) (List.replicate (((x0).length : Int)).toNat ([] : (List Int)))]) (fun _ _ st => st) ?_
 refine RA.doneG (by kernel_rfl) ?_
 refine GL.weak (env' := [(0, v0), (6, v46), (9, v107), (10, v106)]) (L' := [imm (TR.sl (TR.rec1 (TR.sl TR.int))) v0 x0, own 3 TR.int v46 y44.1, own2 22 3 TR.int v107 (List.replicate (((x0).length : Int)).toNat (Value.slice none 0 0)) (List.replicate (((x0).length : Int)).toNat ([] : (List Int))), own2 22 3 TR.int v106 (List.replicate (((x0).length : Int)).toNat (Value.slice none 0 0)) (List.replicate (((x0).length : Int)).toNat ([] : (List Int)))]) (fun a w st => St.cut [0, 1, 2, 3] ⟨rfl, rfl, rfl, rfl, trivial⟩ (by decide) rfl st) ?_
 refine GL.seq ?_
 refine GL.seq ?_
 refine GL.region ?_
 refine RL.mv rfl rfl rfl ?_
 refine RL.lenS 0 Try.underlying36 rfl rfl rfl rfl SlOf.imm ?_
 refine RL.mv rfl rfl rfl ?_
 refine RL.finG ?_
 refine GL.open_ 0 rfl (fun S h => len_imm S h) (fun n1567 => ?_)
 obtain ⟨y1568, K1569, h1570, h1571, h1572, h1573, h1574⟩ := bindR_K h59
 refine GL.join (ι := (List (List Int)) × (List (List Int)) × (List Value) × (List Value)) (fun (p : (List (List Int)) × (List (List Int)) × (List Value) × (List Value)) => [(6, v46), (9, v107), (10, v106)]) (fun (p : (List (List Int)) × (List (List Int)) × (List Value) × (List Value)) => [own 3 TR.int v46 y44.1, own2 22 3 TR.int v107 p.2.2.1 p.1, own2 22 3 TR.int v106 p.2.2.2 p.2.1]) (fun (p : (List (List Int)) × (List (List Int)) × (List Value) × (List Value)) => K1569 (.nx (p.1, p.2.1))) ?_ ?_
 ·refine GL.block ?_
  refine GL.loop (ι := Nat × (List (List Int)) × (List (List Int)) × (List (List Int)) × (List Value) × (List Value)) (fun (p : Nat × (List (List Int)) × (List (List Int)) × (List (List Int)) × (List Value) × (List Value)) => [(0, v0), (6, v46), (9, v107), (10, v106), (68, .int .i64 ((x0).length : Int)), (69, .int .i64 (p.1 : Int))]) (fun (p : Nat × (List (List Int)) × (List (List Int)) × (List (List Int)) × (List Value) × (List Value)) => [imm (TR.sl (TR.rec1 (TR.sl TR.int))) v0 x0, own 3 TR.int v46 y44.1, own2 22 3 TR.int v107 p.2.2.2.2.1 p.2.2.1, own2 22 3 TR.int v106 p.2.2.2.2.2 p.2.2.2.1]) (fun (p : Nat × (List (List Int)) × (List (List Int)) × (List (List Int)) × (List Value) × (List Value)) => p.1 + p.2.1.length = (x0).length ∧ List.drop p.1 x0 = p.2.1 ∧ rangeL (top_TopRoads_b1 x0) p.2.1 p.1 (p.2.2.1, p.2.2.2.1) = some y1568) (fun (p : Nat × (List (List Int)) × (List (List Int)) × (List (List Int)) × (List Value) × (List Value)) => p.2.1.length) (0, x0, (List.replicate (((x0).length : Int)).toNat ([] : (List Int))), (List.replicate (((x0).length : Int)).toNat ([] : (List Int))), (List.replicate (((x0).length : Int)).toNat (Value.slice none 0 0)), (List.replicate (((x0).length : Int)).toNat (Value.slice none 0 0))) ⟨by simp, by simp, h1570⟩ (fun a w st => St.cut [0, 1, 2, 3] ⟨rfl, rfl, rfl, rfl, rfl, rfl, trivial⟩ (by decide) rfl st) ?_
  rintro ⟨i1575, r1576, l839, l841, V840, V842⟩ ⟨h1581, h1582, h1580⟩
  try dsimp only at h1581 h1582 h1580
  refine GL.weak (env' := [(0, v0), (6, v46), (9, v107), (10, v106), (68, .int .i64 ((x0).length : Int)), (69, .int .i64 (i1575 : Int))]) (L' := [imm (TR.sl (TR.rec1 (TR.sl TR.int))) v0 x0, own 3 TR.int v46 y44.1, own2 22 3 TR.int v107 V840 l839, own2 22 3 TR.int v106 V842 l841]) (fun _ _ st => st) ?_
  refine GL.seq ?_
  refine GL.region ?_
  refine RL.binI (v := .bool (decide ((i1575 : Int) < ((x0).length : Int)))) rfl rfl rfl rfl rfl ?_
  refine RL.finG ?_
  refine GL.seq ?_
  refine GL.cond rfl (fun b1583 => ?_) (fun b1583 => ?_)
  ·have h1584 : i1575 < (x0).length := by have := of_decide_eq_true b1583; omega
   obtain ⟨y1585, r1587, hr, e1586, h1588⟩ := drop_cons h1582 rfl h1584
   subst hr
   obtain ⟨z1577, h1578, h1579⟩ := rangeL_some h1580
   unfold top_TopRoads_b1 at h1578
   try dsimp only at h1578
   refine GL.skip ?_
   refine GL.seq ?_
   refine GL.block ?_
   refine GL.seq ?_
   refine GL.region ?_
   refine RL.mv rfl rfl rfl ?_
   refine RL.asg rfl rfl rfl ?_
   refine RL.finG ?_
   refine GL.seq ?_
   refine GL.region ?_
   refine RL.mv rfl rfl rfl ?_
   refine RL.lenS 0 Try.underlying36 rfl rfl rfl rfl SlOf.imm ?_
   refine RL.mv rfl rfl rfl ?_
   refine RL.finG ?_
   refine GL.open_ 0 rfl (fun S h => len_imm S h) (fun n2057 => ?_)
   obtain ⟨y2058, K2059, h2060, h2061, h2062, h2063, h2064⟩ := bindF_K h1578
   refine GL.join (ι := (List (List Int)) × (List (List Int)) × (List Value) × (List Value)) (fun (p : (List (List Int)) × (List (List Int)) × (List Value) × (List Value)) => [(0, v0), (6, v46), (9, v107), (10, v106), (68, .int .i64 ((x0).length : Int)), (69, .int .i64 (i1575 : Int))]) (fun (p : (List (List Int)) × (List (List Int)) × (List Value) × (List Value)) => [imm (TR.sl (TR.rec1 (TR.sl TR.int))) v0 x0, own 3 TR.int v46 y44.1, own2 22 3 TR.int v107 p.2.2.1 p.1, own2 22 3 TR.int v106 p.2.2.2 p.2.1]) (fun (p : (List (List Int)) × (List (List Int)) × (List Value) × (List Value)) => K2059 (.nx (p.1, p.2.1))) ?_ ?_
   ·refine GL.block ?_
    refine GL.loop (ι := Nat × (List (List Int)) × (List (List Int)) × (List (List Int)) × (List Value) × (List Value)) (fun (p : Nat × (List (List Int)) × (List (List Int)) × (List (List Int)) × (List Value) × (List Value)) => [(0, v0), (6, v46), (9, v107), (10, v106), (11, .int .i64 (i1575 : Int)), (68, .int .i64 ((x0).length : Int)), (69, .int .i64 (i1575 : Int)), (73, .int .i64 ((x0).length : Int)), (74, .int .i64 (p.1 : Int))]) (fun (p : Nat × (List (List Int)) × (List (List Int)) × (List (List Int)) × (List Value) × (List Value)) => [imm (TR.sl (TR.rec1 (TR.sl TR.int))) v0 x0, own 3 TR.int v46 y44.1, own2 22 3 TR.int v107 p.2.2.2.2.1 p.2.2.1, own2 22 3 TR.int v106 p.2.2.2.2.2 p.2.2.2.1]) (fun (p : Nat × (List (List Int)) × (List (List Int)) × (List (List Int)) × (List Value) × (List Value)) => p.1 + p.2.1.length = (x0).length ∧ List.drop p.1 x0 = p.2.1 ∧ rangeL (top_TopRoads_b2 x0 i1575) p.2.1 p.1 (p.2.2.1, p.2.2.2.1) = some y2058) (fun (p : Nat × (List (List Int)) × (List (List Int)) × (List (List Int)) × (List Value) × (List Value)) => p.2.1.length) (0, x0, l839, l841, V840, V842) ⟨by simp, by simp, h2060⟩ (fun a w st => St.cut [0, 1, 2, 3] ⟨rfl, rfl, rfl, rfl, rfl, rfl, rfl, rfl, rfl, trivial⟩ (by decide) rfl st) ?_
    rintro ⟨i2065, r2066, l1821, l1823, V1822, V1824⟩ ⟨h2071, h2072, h2070⟩
    try dsimp only at h2071 h2072 h2070
    refine GL.weak (env' := [(0, v0), (6, v46), (9, v107), (10, v106), (11, .int .i64 (i1575 : Int)), (68, .int .i64 ((x0).length : Int)), (69, .int .i64 (i1575 : Int)), (73, .int .i64 ((x0).length : Int)), (74, .int .i64 (i2065 : Int))]) (L' := [imm (TR.sl (TR.rec1 (TR.sl TR.int))) v0 x0, own 3 TR.int v46 y44.1, own2 22 3 TR.int v107 V1822 l1821, own2 22 3 TR.int v106 V1824 l1823]) (fun _ _ st => st) ?_
    refine GL.seq ?_
    refine GL.region ?_
    refine RL.binI (v := .bool (decide ((i2065 : Int) < ((x0).length : Int)))) rfl rfl rfl rfl rfl ?_
    refine RL.finG ?_
    refine GL.seq ?_
    refine GL.cond rfl (fun b2073 => ?_) (fun b2073 => ?_)
    ·have h2074 : i2065 < (x0).length := by have := of_decide_eq_true b2073; omega
     obtain ⟨y2075, r2077, hr, e2076, h2078⟩ := drop_cons h2072 rfl h2074
     subst hr
     obtain ⟨z2067, h2068, h2069⟩ := rangeL_some h2070
     unfold top_TopRoads_b2 at h2068
     try dsimp only at h2068
     refine GL.skip ?_
     refine GL.seq ?_
     refine GL.block ?_
     refine GL.seq ?_
     refine GL.region ?_
     refine RL.mv rfl rfl rfl ?_
     refine RL.asg rfl rfl rfl ?_
     refine RL.finG ?_
     refine GL.seq ?_
     refine GL.region ?_
     refine RL.mv rfl rfl rfl ?_
     refine RL.mv rfl rfl rfl ?_
     refine RL.mv rfl rfl rfl ?_
     refine RL.bS (t := TR.int) (vs := [.int .i64 (i1575 : Int), .int .i64 (i2065 : Int)]) ([(i1575 : Int), (i2065 : Int)] : (List Int)) Try.underlying22 Try_lo3 rfl rfl rfl rfl ⟨VR.int, ⟨VR.int, trivial⟩⟩ rfl (by decide) ?_
     intro v2083
     obtain ⟨y2084, e2085, h2068⟩ := bind_some h2068
     refine RL.callU (vs := [v0, v2083]) (LR := fun (o : Value) => [own 3 TR.int o y2084.1]) (fun o => ⟨Loc.own TR.flatT_ik, trivial⟩) Try_fit13 rfl rfl rfl rfl rfl (fun U w hU hW hL => roads_Costs_c U w hU _ _ (hL 0 _ _ rfl Seen.imm) _ _ (hL 4 _ _ rfl Seen.own) _ e2085) ?_
     intro v2086
     refine RL.mv rfl rfl rfl ?_
     refine RL.ext rfl rfl rfl rfl ?_
     refine RL.ext rfl rfl rfl rfl ?_
     refine RL.asg rfl rfl rfl ?_
     refine RL.asg rfl rfl rfl ?_
     refine RL.finG ?_
     refine GL.seq ?_
     refine GL.seq ?_
     obtain ⟨y2090, K2091, h2092, h2093, h2094, h2095, h2096⟩ := bindF_K h2068
     refine GL.join (ι := Bool) (fun (p : Bool) => [(0, v0), (6, v46), (9, v107), (10, v106), (11, .int .i64 (i1575 : Int)), (13, v2086), (68, .int .i64 ((x0).length : Int)), (69, .int .i64 (i1575 : Int)), (73, .int .i64 ((x0).length : Int)), (74, .int .i64 (i2065 : Int)), (91, .bool p)]) (fun (p : Bool) => [imm (TR.sl (TR.rec1 (TR.sl TR.int))) v0 x0, own 3 TR.int v46 y44.1, own2 22 3 TR.int v107 V1822 l1821, own2 22 3 TR.int v106 V1824 l1823, own 3 TR.int v2086 y2084.1]) (fun (p : Bool) => K2091 (.nx p)) ?_ ?_
     ·skip
      refine GL.region ?_
      refine RL.mv rfl rfl rfl ?_
      refine RL.binI (v := .bool (y2084.2 != (0 : Int))) rfl rfl rfl rfl rfl ?_
      refine RL.mv rfl rfl rfl ?_
      refine RL.split (t := 87) rfl (fun b2097 => ?_) (fun b2097 => ?_)
      ·replace h2092 := ite_t b2097 h2092
       refine RL.skip rfl rfl ?_
       refine RL.skip rfl rfl ?_
       refine RL.skip rfl rfl ?_
       refine RL.pickT rfl rfl rfl rfl ?_
       refine RL.fin ?_
       cases h2092
       exact fun a w st => mid_intro true h2093 (St.cut [0, 1, 2, 3, 5] ⟨rfl, rfl, rfl, rfl, rfl, rfl, rfl, rfl, rfl, rfl, rfl, trivial⟩ (by decide) rfl st)
      replace h2092 := ite_f b2097 h2092
      refine RL.mv rfl rfl rfl ?_
      refine RL.lenS 5 Try.underlying22 rfl rfl rfl rfl SlOf.own ?_
      refine RL.binI (v := .bool (((y2084.1).length : Int) != (2 : Int))) rfl rfl rfl rfl rfl ?_
      refine RL.pickF rfl rfl rfl rfl ?_
      refine RL.fin ?_
      cases h2092
      exact fun a w st => mid_intro (((y2084.1).length : Int) != (2 : Int)) h2093 (St.cut [0, 1, 2, 3, 5] ⟨rfl, rfl, rfl, rfl, rfl, rfl, rfl, rfl, rfl, rfl, rfl, trivial⟩ (by decide) rfl st)
     rintro x2089 h2098
     have h2099 := h2094 _ h2098
     try dsimp only at h2099
     refine GL.weak (env' := [(0, v0), (6, v46), (9, v107), (10, v106), (11, .int .i64 (i1575 : Int)), (13, v2086), (68, .int .i64 ((x0).length : Int)), (69, .int .i64 (i1575 : Int)), (73, .int .i64 ((x0).length : Int)), (74, .int .i64 (i2065 : Int)), (91, .bool x2089)]) (L' := [imm (TR.sl (TR.rec1 (TR.sl TR.int))) v0 x0, own 3 TR.int v46 y44.1, own2 22 3 TR.int v107 V1822 l1821, own2 22 3 TR.int v106 V1824 l1823, own 3 TR.int v2086 y2084.1]) (fun _ _ st => st) ?_
     refine GL.cond rfl (fun b2100 => ?_) (fun b2100 => ?_)
     ·replace h2099 := ite_t b2100 h2099
      refine GL.seq ?_
      refine GL.region ?_
      refine RL.asg rfl rfl rfl ?_
      refine RL.finG ?_
      cases h2099
      replace h2069 : some (Fl.rt _) = some y2058 := h2069
      cases h2069
      have hh := h2063 _ h2061
      subst hh
      replace h1579 : some (Fl.rt _) = some y1568 := h1579
      cases h1579
      have hh := h1573 _ h1571
      subst hh
      exact GL.ret (Gx.ret (v := .bool false) (res1 rfl rfl) (fun a w st => st.toPostV))
     replace h2099 := ite_f b2100 h2099
     refine GL.skip ?_
     refine GL.regionA rfl rfl ?_
     refine RA.mv 0 rfl (by kernel_rfl) rfl rfl rfl ?_
     refine RA.mv 1 rfl (by kernel_rfl) rfl rfl rfl ?_
     refine RA.mv 2 rfl (by kernel_rfl) rfl rfl rfl ?_
     refine RA.mv 3 rfl (by kernel_rfl) rfl rfl rfl ?_
     refine RA.mv 4 rfl (by kernel_rfl) rfl rfl rfl ?_
     refine RA.mv 5 rfl (by kernel_rfl) rfl rfl rfl ?_
     obtain ⟨y2206, e2207, h2099⟩ := bind_some h2099
     refine RA.idxR 2 Try.underlying27 Try_ln22 6 rfl (by kernel_rfl) rfl rfl rfl rfl rfl (idx_some e2207).1 (idx_some e2207).2.1 ?_
     refine RA.mv 8 rfl (by kernel_rfl) rfl rfl rfl ?_
     obtain ⟨y2208, e2209, h2099⟩ := bind_some h2099
     refine RA.idxS (sz := 1) 4 Try.underlying22 Try_ln3 9 rfl (by kernel_rfl) rfl rfl rfl rfl rfl SlOf.own (idx_some e2209).1 (idx_some e2209).2.1 ?_
     refine RA.mv 14 rfl (by kernel_rfl) rfl rfl rfl ?_
     refine RA.mv 15 rfl (by kernel_rfl) rfl rfl rfl ?_
     obtain ⟨y2210, e2211, h2099⟩ := bind_some h2099
     refine RA.idxR 3 Try.underlying27 Try_ln22 16 rfl (by kernel_rfl) rfl rfl rfl rfl rfl (idx_some e2211).1 (idx_some e2211).2.1 ?_
     refine RA.mv 18 rfl (by kernel_rfl) rfl rfl rfl ?_
     obtain ⟨y2212, e2213, h2099⟩ := bind_some h2099
     refine RA.idxS (sz := 1) 4 Try.underlying22 Try_ln3 19 rfl (by kernel_rfl) rfl rfl rfl rfl rfl SlOf.own (idx_some e2213).1 (idx_some e2213).2.1 ?_
     obtain ⟨y2215, e2216, h2099⟩ := bind_some h2099
     replace e2216 := chk_some e2216
     refine RA.meet (ι := Value × Value) (fun (p : Value × Value) => [(0, v0), (6, v46), (9, v107), (10, v106), (11, .int .i64 (i1575 : Int)), (68, .int .i64 ((x0).length : Int)), (69, .int .i64 (i1575 : Int)), (73, .int .i64 ((x0).length : Int)), (74, .int .i64 (i2065 : Int)), (92, v107), (93, .int .i64 (i1575 : Int)), (94, v106), (95, .int .i64 (i1575 : Int)), (105, p.1), (109, rowv V1824 i1575), (114, p.2)]) (fun (p : Value × Value) => [imm (TR.sl (TR.rec1 (TR.sl TR.int))) v0 x0, own 3 TR.int v46 y44.1, own2x i1575 22 3 TR.int v107 V1822 l1821, own2 22 3 TR.int v106 V1824 l1823, own 3 TR.int p.1 (y2206 ++ ([wsub 0 y2208] : (List Int))), own 3 TR.int p.2 ([wsub 0 y2212] : (List Int))]) 5 #[true, true, true, true, true, true, true, true, true, true, true, true, true, true, true, true, true, true, true, true, true, true, true, false, false, false, false, false] (fun h2231 => ?_) ?_
     ·skip
      refine RA.meet (ι := Value) (fun (p : Value) => [(0, v0), (6, v46), (9, v107), (10, v106), (11, .int .i64 (i1575 : Int)), (68, .int .i64 ((x0).length : Int)), (69, .int .i64 (i1575 : Int)), (73, .int .i64 ((x0).length : Int)), (74, .int .i64 (i2065 : Int)), (92, v107), (93, .int .i64 (i1575 : Int)), (94, v106), (95, .int .i64 (i1575 : Int)), (105, p), (109, rowv V1824 i1575), (113, .int .i64 (wsub 0 y2212))]) (fun (p : Value) => [imm (TR.sl (TR.rec1 (TR.sl TR.int))) v0 x0, own 3 TR.int v46 y44.1, own2x i1575 22 3 TR.int v107 V1822 l1821, own2 22 3 TR.int v106 V1824 l1823, own 3 TR.int p (y2206 ++ ([wsub 0 y2208] : (List Int)))]) 6 #[true, true, true, true, true, true, true, true, true, true, true, true, true, true, true, true, true, true, true, true, true, true, false, false, false, false, false, false] (fun h2232 => ?_) ?_
      rotate_left
      ·rintro v2225
       refine RA.weak (env' := [(0, v0), (6, v46), (9, v107), (10, v106), (11, .int .i64 (i1575 : Int)), (68, .int .i64 ((x0).length : Int)), (69, .int .i64 (i1575 : Int)), (73, .int .i64 ((x0).length : Int)), (74, .int .i64 (i2065 : Int)), (92, v107), (93, .int .i64 (i1575 : Int)), (94, v106), (95, .int .i64 (i1575 : Int)), (105, v2225), (109, rowv V1824 i1575), (113, .int .i64 (wsub 0 y2212))]) (L' := [imm (TR.sl (TR.rec1 (TR.sl TR.int))) v0 x0, own 3 TR.int v46 y44.1, own2x i1575 22 3 TR.int v107 V1822 l1821, own2 22 3 TR.int v106 V1824 l1823, own 3 TR.int v2225 (y2206 ++ ([wsub 0 y2208] : (List Int)))]) (fun _ _ st => st) ?_
       refine RA.seq 22 rfl (by kernel_rfl) ?_
       refine RL.bS (t := TR.int) (vs := [.int .i64 (wsub 0 y2212)]) ([wsub 0 y2212] : (List Int)) Try.underlying22 Try_lo3 rfl rfl rfl rfl ⟨VR.int, trivial⟩ rfl (by decide) ?_
       intro v2303
       refine RL.fin ?_
       refine RA.next ?_
       refine RA.relist 5 #[true, true, true, true, true, true, true, true, true, true, true, true, true, true, true, true, true, true, true, true, true, true, true, false, false, false, false, false] rfl (by kernel_rfl) ?_
       exact fun a w st => h2231 (v2225, v2303) a w (St.cut [0, 1, 2, 3, 4, 5] ⟨rfl, rfl, rfl, rfl, rfl, rfl, rfl, rfl, rfl, rfl, rfl, rfl, rfl, rfl, rfl, rfl, trivial⟩ (by decide) rfl st)
      refine RA.meet (ι := Value × Value) (fun (p : Value × Value) => [(0, v0), (6, v46), (9, v107), (10, v106), (11, .int .i64 (i1575 : Int)), (68, .int .i64 ((x0).length : Int)), (69, .int .i64 (i1575 : Int)), (73, .int .i64 ((x0).length : Int)), (74, .int .i64 (i2065 : Int)), (92, v107), (93, .int .i64 (i1575 : Int)), (94, v106), (95, .int .i64 (i1575 : Int)), (105, p.1), (108, adr v106 (i1575 * 1)), (114, p.2)]) (fun (p : Value × Value) => [imm (TR.sl (TR.rec1 (TR.sl TR.int))) v0 x0, own 3 TR.int v46 y44.1, own2x i1575 22 3 TR.int v107 V1822 l1821, own2 22 3 TR.int v106 V1824 l1823, own 3 TR.int p.1 (y2206 ++ ([wsub 0 y2208] : (List Int))), own 3 TR.int p.2 ([wsub 0 y2212] : (List Int))]) 6 #[true, true, true, true, true, true, true, true, true, true, true, true, true, true, true, true, true, false, true, true, true, true, true, false, false, false, false, false] (fun h2233 => ?_) ?_
      rotate_left
      ·rintro ⟨v2229, v2227⟩
       refine RA.weak (env' := [(0, v0), (6, v46), (9, v107), (10, v106), (11, .int .i64 (i1575 : Int)), (68, .int .i64 ((x0).length : Int)), (69, .int .i64 (i1575 : Int)), (73, .int .i64 ((x0).length : Int)), (74, .int .i64 (i2065 : Int)), (92, v107), (93, .int .i64 (i1575 : Int)), (94, v106), (95, .int .i64 (i1575 : Int)), (105, v2229), (108, adr v106 (i1575 * 1)), (114, v2227)]) (L' := [imm (TR.sl (TR.rec1 (TR.sl TR.int))) v0 x0, own 3 TR.int v46 y44.1, own2x i1575 22 3 TR.int v107 V1822 l1821, own2 22 3 TR.int v106 V1824 l1823, own 3 TR.int v2229 (y2206 ++ ([wsub 0 y2208] : (List Int))), own 3 TR.int v2227 ([wsub 0 y2212] : (List Int))]) (fun _ _ st => st) ?_
       refine RA.seq 17 rfl (by kernel_rfl) ?_
       refine RL.ldR (i := i1575) (r := y2210) 3 Try_ln22 rfl rfl rfl rfl (idx_some e2211).2.2 ?_
       refine RL.fin ?_
       refine RA.next ?_
       refine RA.relist 5 #[true, true, true, true, true, true, true, true, true, true, true, true, true, true, true, true, true, true, true, true, true, true, true, false, false, false, false, false] rfl (by kernel_rfl) ?_
       exact fun a w st => h2231 (v2229, v2227) a w (St.cut [0, 1, 2, 3, 4, 5] ⟨rfl, rfl, rfl, rfl, rfl, rfl, rfl, rfl, rfl, rfl, rfl, rfl, rfl, rfl, rfl, rfl, trivial⟩ (by decide) rfl st)
      refine RA.meet (ι := Value × Value) (fun (p : Value × Value) => [(0, v0), (6, v46), (9, v107), (10, v106), (11, .int .i64 (i1575 : Int)), (68, .int .i64 ((x0).length : Int)), (69, .int .i64 (i1575 : Int)), (73, .int .i64 ((x0).length : Int)), (74, .int .i64 (i2065 : Int)), (92, v107), (93, .int .i64 (i1575 : Int)), (94, v106), (95, .int .i64 (i1575 : Int)), (99, rowv V1822 i1575), (104, p.1), (109, rowv V1824 i1575), (114, p.2)]) (fun (p : Value × Value) => [imm (TR.sl (TR.rec1 (TR.sl TR.int))) v0 x0, own 3 TR.int v46 y44.1, own2 22 3 TR.int v107 V1822 l1821, own2 22 3 TR.int v106 V1824 l1823, own 3 TR.int p.1 ([wsub 0 y2208] : (List Int)), own 3 TR.int p.2 ([wsub 0 y2212] : (List Int))]) 6 #[true, true, true, true, true, true, true, true, true, true, true, true, true, false, true, true, true, true, true, true, true, true, true, false, false, false, false, false] (fun h2234 => ?_) ?_
      rotate_left
      ·rintro ⟨v2228, v2222⟩
       refine RA.weak (env' := [(0, v0), (6, v46), (9, v107), (10, v106), (11, .int .i64 (i1575 : Int)), (68, .int .i64 ((x0).length : Int)), (69, .int .i64 (i1575 : Int)), (73, .int .i64 ((x0).length : Int)), (74, .int .i64 (i2065 : Int)), (92, v107), (93, .int .i64 (i1575 : Int)), (94, v106), (95, .int .i64 (i1575 : Int)), (99, rowv V1822 i1575), (104, v2228), (109, rowv V1824 i1575), (114, v2222)]) (L' := [imm (TR.sl (TR.rec1 (TR.sl TR.int))) v0 x0, own 3 TR.int v46 y44.1, own2 22 3 TR.int v107 V1822 l1821, own2 22 3 TR.int v106 V1824 l1823, own 3 TR.int v2228 ([wsub 0 y2208] : (List Int)), own 3 TR.int v2222 ([wsub 0 y2212] : (List Int))]) (fun _ _ st => st) ?_
       refine RA.seq 13 rfl (by kernel_rfl) ?_
       refine RL.weak (fun a w st => st.takeRow 2 rfl (idx_some e2207).2.2) ?_
       refine RL.app 6 4 Try.underlying22 Try_lo3 rfl rfl rfl rfl rfl rfl rfl SlOf.own e2216 ?_
       intro v2302
       refine RL.fin ?_
       refine RA.next ?_
       refine RA.relist 5 #[true, true, true, true, true, true, true, true, true, true, true, true, true, true, true, true, true, true, true, true, true, true, true, false, false, false, false, false] rfl (by kernel_rfl) ?_
       exact fun a w st => h2231 (v2302, v2222) a w (St.cut [0, 1, 2, 3, 6, 5] ⟨rfl, rfl, rfl, rfl, rfl, rfl, rfl, rfl, rfl, rfl, rfl, rfl, rfl, rfl, rfl, rfl, trivial⟩ (by decide) rfl st)
      refine RA.meet (ι := Value) (fun (p : Value) => [(0, v0), (6, v46), (9, v107), (10, v106), (11, .int .i64 (i1575 : Int)), (68, .int .i64 ((x0).length : Int)), (69, .int .i64 (i1575 : Int)), (73, .int .i64 ((x0).length : Int)), (74, .int .i64 (i2065 : Int)), (92, v107), (93, .int .i64 (i1575 : Int)), (94, v106), (95, .int .i64 (i1575 : Int)), (99, rowv V1822 i1575), (103, .int .i64 (wsub 0 y2208)), (109, rowv V1824 i1575), (114, p)]) (fun (p : Value) => [imm (TR.sl (TR.rec1 (TR.sl TR.int))) v0 x0, own 3 TR.int v46 y44.1, own2 22 3 TR.int v107 V1822 l1821, own2 22 3 TR.int v106 V1824 l1823, own 3 TR.int p ([wsub 0 y2212] : (List Int))]) 7 #[true, true, true, true, true, true, true, true, true, true, true, true, false, false, true, true, true, true, true, true, true, true, true, false, false, false, false, false] (fun h2235 => ?_) ?_
      rotate_left
      ·rintro v2222
       refine RA.weak (env' := [(0, v0), (6, v46), (9, v107), (10, v106), (11, .int .i64 (i1575 : Int)), (68, .int .i64 ((x0).length : Int)), (69, .int .i64 (i1575 : Int)), (73, .int .i64 ((x0).length : Int)), (74, .int .i64 (i2065 : Int)), (92, v107), (93, .int .i64 (i1575 : Int)), (94, v106), (95, .int .i64 (i1575 : Int)), (99, rowv V1822 i1575), (103, .int .i64 (wsub 0 y2208)), (109, rowv V1824 i1575), (114, v2222)]) (L' := [imm (TR.sl (TR.rec1 (TR.sl TR.int))) v0 x0, own 3 TR.int v46 y44.1, own2 22 3 TR.int v107 V1822 l1821, own2 22 3 TR.int v106 V1824 l1823, own 3 TR.int v2222 ([wsub 0 y2212] : (List Int))]) (fun _ _ st => st) ?_
       refine RA.seq 12 rfl (by kernel_rfl) ?_
       refine RL.bS (t := TR.int) (vs := [.int .i64 (wsub 0 y2208)]) ([wsub 0 y2208] : (List Int)) Try.underlying22 Try_lo3 rfl rfl rfl rfl ⟨VR.int, trivial⟩ rfl (by decide) ?_
       intro v2301
       refine RL.fin ?_
       refine RA.next ?_
       refine RA.relist 6 #[true, true, true, true, true, true, true, true, true, true, true, true, true, false, true, true, true, true, true, true, true, true, true, false, false, false, false, false] rfl (by kernel_rfl) ?_
       exact fun a w st => h2234 (v2301, v2222) a w (St.cut [0, 1, 2, 3, 5, 4] ⟨rfl, rfl, rfl, rfl, rfl, rfl, rfl, rfl, rfl, rfl, rfl, rfl, rfl, rfl, rfl, rfl, rfl, trivial⟩ (by decide) rfl st)
      refine RA.meet (ι := Value × Value) (fun (p : Value × Value) => [(0, v0), (6, v46), (9, v107), (10, v106), (11, .int .i64 (i1575 : Int)), (68, .int .i64 ((x0).length : Int)), (69, .int .i64 (i1575 : Int)), (73, .int .i64 ((x0).length : Int)), (74, .int .i64 (i2065 : Int)), (92, v107), (93, .int .i64 (i1575 : Int)), (94, v106), (95, .int .i64 (i1575 : Int)), (99, rowv V1822 i1575), (104, p.1), (108, adr v106 (i1575 * 1)), (114, p.2)]) (fun (p : Value × Value) => [imm (TR.sl (TR.rec1 (TR.sl TR.int))) v0 x0, own 3 TR.int v46 y44.1, own2 22 3 TR.int v107 V1822 l1821, own2 22 3 TR.int v106 V1824 l1823, own 3 TR.int p.1 ([wsub 0 y2208] : (List Int)), own 3 TR.int p.2 ([wsub 0 y2212] : (List Int))]) 7 #[true, true, true, true, true, true, true, true, true, true, true, true, true, false, true, true, true, false, true, true, true, true, true, false, false, false, false, false] (fun h2236 => ?_) ?_
      rotate_left
      ·rintro ⟨v2219, v2227⟩
       refine RA.weak (env' := [(0, v0), (6, v46), (9, v107), (10, v106), (11, .int .i64 (i1575 : Int)), (68, .int .i64 ((x0).length : Int)), (69, .int .i64 (i1575 : Int)), (73, .int .i64 ((x0).length : Int)), (74, .int .i64 (i2065 : Int)), (92, v107), (93, .int .i64 (i1575 : Int)), (94, v106), (95, .int .i64 (i1575 : Int)), (99, rowv V1822 i1575), (104, v2219), (108, adr v106 (i1575 * 1)), (114, v2227)]) (L' := [imm (TR.sl (TR.rec1 (TR.sl TR.int))) v0 x0, own 3 TR.int v46 y44.1, own2 22 3 TR.int v107 V1822 l1821, own2 22 3 TR.int v106 V1824 l1823, own 3 TR.int v2219 ([wsub 0 y2208] : (List Int)), own 3 TR.int v2227 ([wsub 0 y2212] : (List Int))]) (fun _ _ st => st) ?_
       refine RA.many [13, 17] (by kernel_rfl) ⟨⟨_, rfl, ?_⟩, ⟨_, rfl, ?_⟩, trivial⟩
       ·skip
        refine RL.weak (fun a w st => st.takeRow 2 rfl (idx_some e2207).2.2) ?_
        refine RL.app 6 4 Try.underlying22 Try_lo3 rfl rfl rfl rfl rfl rfl rfl SlOf.own e2216 ?_
        intro v2300
        refine RL.fin ?_
        refine RA.next ?_
        refine RA.relist 6 #[true, true, true, true, true, true, true, true, true, true, true, true, true, true, true, true, true, false, true, true, true, true, true, false, false, false, false, false] rfl (by kernel_rfl) ?_
        exact fun a w st => h2233 (v2300, v2227) a w (St.cut [0, 1, 2, 3, 6, 5] ⟨rfl, rfl, rfl, rfl, rfl, rfl, rfl, rfl, rfl, rfl, rfl, rfl, rfl, rfl, rfl, rfl, trivial⟩ (by decide) rfl st)
       refine RL.ldR (i := i1575) (r := y2210) 3 Try_ln22 rfl rfl rfl rfl (idx_some e2211).2.2 ?_
       refine RL.fin ?_
       refine RA.next ?_
       refine RA.relist 6 #[true, true, true, true, true, true, true, true, true, true, true, true, true, false, true, true, true, true, true, true, true, true, true, false, false, false, false, false] rfl (by kernel_rfl) ?_
       exact fun a w st => h2234 (v2219, v2227) a w (St.cut [0, 1, 2, 3, 4, 5] ⟨rfl, rfl, rfl, rfl, rfl, rfl, rfl, rfl, rfl, rfl, rfl, rfl, rfl, rfl, rfl, rfl, rfl, trivial⟩ (by decide) rfl st)
      refine RA.meet (ι := Value) (fun (p : Value) => [(0, v0), (6, v46), (9, v107), (10, v106), (11, .int .i64 (i1575 : Int)), (68, .int .i64 ((x0).length : Int)), (69, .int .i64 (i1575 : Int)), (73, .int .i64 ((x0).length : Int)), (74, .int .i64 (i2065 : Int)), (92, v107), (93, .int .i64 (i1575 : Int)), (94, v106), (95, .int .i64 (i1575 : Int)), (99, rowv V1822 i1575), (104, p), (109, rowv V1824 i1575), (113, .int .i64 (wsub 0 y2212))]) (fun (p : Value) => [imm (TR.sl (TR.rec1 (TR.sl TR.int))) v0 x0, own 3 TR.int v46 y44.1, own2 22 3 TR.int v107 V1822 l1821, own2 22 3 TR.int v106 V1824 l1823, own 3 TR.int p ([wsub 0 y2208] : (List Int))]) 7 #[true, true, true, true, true, true, true, true, true, true, true, true, true, false, true, true, true, true, true, true, true, true, false, false, false, false, false, false] (fun h2237 => ?_) ?_
      rotate_left
      ·rintro v2223
       refine RA.weak (env' := [(0, v0), (6, v46), (9, v107), (10, v106), (11, .int .i64 (i1575 : Int)), (68, .int .i64 ((x0).length : Int)), (69, .int .i64 (i1575 : Int)), (73, .int .i64 ((x0).length : Int)), (74, .int .i64 (i2065 : Int)), (92, v107), (93, .int .i64 (i1575 : Int)), (94, v106), (95, .int .i64 (i1575 : Int)), (99, rowv V1822 i1575), (104, v2223), (109, rowv V1824 i1575), (113, .int .i64 (wsub 0 y2212))]) (L' := [imm (TR.sl (TR.rec1 (TR.sl TR.int))) v0 x0, own 3 TR.int v46 y44.1, own2 22 3 TR.int v107 V1822 l1821, own2 22 3 TR.int v106 V1824 l1823, own 3 TR.int v2223 ([wsub 0 y2208] : (List Int))]) (fun _ _ st => st) ?_
       refine RA.many [13, 22] (by kernel_rfl) ⟨⟨_, rfl, ?_⟩, ⟨_, rfl, ?_⟩, trivial⟩
       ·skip
        refine RL.weak (fun a w st => st.takeRow 2 rfl (idx_some e2207).2.2) ?_
        refine RL.app 5 4 Try.underlying22 Try_lo3 rfl rfl rfl rfl rfl rfl rfl SlOf.own e2216 ?_
        intro v2298
        refine RL.fin ?_
        refine RA.next ?_
        refine RA.relist 6 #[true, true, true, true, true, true, true, true, true, true, true, true, true, true, true, true, true, true, true, true, true, true, false, false, false, false, false, false] rfl (by kernel_rfl) ?_
        exact fun a w st => h2232 v2298 a w (St.cut [0, 1, 2, 3, 5] ⟨rfl, rfl, rfl, rfl, rfl, rfl, rfl, rfl, rfl, rfl, rfl, rfl, rfl, rfl, rfl, rfl, trivial⟩ (by decide) rfl st)
       refine RL.bS (t := TR.int) (vs := [.int .i64 (wsub 0 y2212)]) ([wsub 0 y2212] : (List Int)) Try.underlying22 Try_lo3 rfl rfl rfl rfl ⟨VR.int, trivial⟩ rfl (by decide) ?_
       intro v2299
       refine RL.fin ?_
       refine RA.next ?_
       refine RA.relist 6 #[true, true, true, true, true, true, true, true, true, true, true, true, true, false, true, true, true, true, true, true, true, true, true, false, false, false, false, false] rfl (by kernel_rfl) ?_
       exact fun a w st => h2234 (v2223, v2299) a w (St.cut [0, 1, 2, 3, 4, 5] ⟨rfl, rfl, rfl, rfl, rfl, rfl, rfl, rfl, rfl, rfl, rfl, rfl, rfl, rfl, rfl, rfl, rfl, trivial⟩ (by decide) rfl st)
      refine RA.meet (ι := Value) (fun (p : Value) => [(0, v0), (6, v46), (9, v107), (10, v106), (11, .int .i64 (i1575 : Int)), (68, .int .i64 ((x0).length : Int)), (69, .int .i64 (i1575 : Int)), (73, .int .i64 ((x0).length : Int)), (74, .int .i64 (i2065 : Int)), (92, v107), (93, .int .i64 (i1575 : Int)), (94, v106), (95, .int .i64 (i1575 : Int)), (105, p), (108, adr v106 (i1575 * 1)), (113, .int .i64 (wsub 0 y2212))]) (fun (p : Value) => [imm (TR.sl (TR.rec1 (TR.sl TR.int))) v0 x0, own 3 TR.int v46 y44.1, own2x i1575 22 3 TR.int v107 V1822 l1821, own2 22 3 TR.int v106 V1824 l1823, own 3 TR.int p (y2206 ++ ([wsub 0 y2208] : (List Int)))]) 7 #[true, true, true, true, true, true, true, true, true, true, true, true, true, true, true, true, true, false, true, true, true, true, false, false, false, false, false, false] (fun h2238 => ?_) ?_
      rotate_left
      ·rintro v2224
       refine RA.weak (env' := [(0, v0), (6, v46), (9, v107), (10, v106), (11, .int .i64 (i1575 : Int)), (68, .int .i64 ((x0).length : Int)), (69, .int .i64 (i1575 : Int)), (73, .int .i64 ((x0).length : Int)), (74, .int .i64 (i2065 : Int)), (92, v107), (93, .int .i64 (i1575 : Int)), (94, v106), (95, .int .i64 (i1575 : Int)), (105, v2224), (108, adr v106 (i1575 * 1)), (113, .int .i64 (wsub 0 y2212))]) (L' := [imm (TR.sl (TR.rec1 (TR.sl TR.int))) v0 x0, own 3 TR.int v46 y44.1, own2x i1575 22 3 TR.int v107 V1822 l1821, own2 22 3 TR.int v106 V1824 l1823, own 3 TR.int v2224 (y2206 ++ ([wsub 0 y2208] : (List Int)))]) (fun _ _ st => st) ?_
       refine RA.many [17, 22] (by kernel_rfl) ⟨⟨_, rfl, ?_⟩, ⟨_, rfl, ?_⟩, trivial⟩
       ·skip
        refine RL.ldR (i := i1575) (r := y2210) 3 Try_ln22 rfl rfl rfl rfl (idx_some e2211).2.2 ?_
        refine RL.fin ?_
        refine RA.next ?_
        refine RA.relist 6 #[true, true, true, true, true, true, true, true, true, true, true, true, true, true, true, true, true, true, true, true, true, true, false, false, false, false, false, false] rfl (by kernel_rfl) ?_
        exact fun a w st => h2232 v2224 a w (St.cut [0, 1, 2, 3, 4] ⟨rfl, rfl, rfl, rfl, rfl, rfl, rfl, rfl, rfl, rfl, rfl, rfl, rfl, rfl, rfl, rfl, trivial⟩ (by decide) rfl st)
       refine RL.bS (t := TR.int) (vs := [.int .i64 (wsub 0 y2212)]) ([wsub 0 y2212] : (List Int)) Try.underlying22 Try_lo3 rfl rfl rfl rfl ⟨VR.int, trivial⟩ rfl (by decide) ?_
       intro v2297
       refine RL.fin ?_
       refine RA.next ?_
       refine RA.relist 6 #[true, true, true, true, true, true, true, true, true, true, true, true, true, true, true, true, true, false, true, true, true, true, true, false, false, false, false, false] rfl (by kernel_rfl) ?_
       exact fun a w st => h2233 (v2224, v2297) a w (St.cut [0, 1, 2, 3, 4, 5] ⟨rfl, rfl, rfl, rfl, rfl, rfl, rfl, rfl, rfl, rfl, rfl, rfl, rfl, rfl, rfl, rfl, trivial⟩ (by decide) rfl st)
      refine RA.meet (ι := Value × Value) (fun (p : Value × Value) => [(0, v0), (6, v46), (9, v107), (10, v106), (11, .int .i64 (i1575 : Int)), (68, .int .i64 ((x0).length : Int)), (69, .int .i64 (i1575 : Int)), (73, .int .i64 ((x0).length : Int)), (74, .int .i64 (i2065 : Int)), (92, v107), (93, .int .i64 (i1575 : Int)), (94, v106), (95, .int .i64 (i1575 : Int)), (98, adr v107 (i1575 * 1)), (104, p.1), (109, rowv V1824 i1575), (114, p.2)]) (fun (p : Value × Value) => [imm (TR.sl (TR.rec1 (TR.sl TR.int))) v0 x0, own 3 TR.int v46 y44.1, own2 22 3 TR.int v107 V1822 l1821, own2 22 3 TR.int v106 V1824 l1823, own 3 TR.int p.1 ([wsub 0 y2208] : (List Int)), own 3 TR.int p.2 ([wsub 0 y2212] : (List Int))]) 7 #[true, true, true, true, true, true, true, false, true, true, true, true, true, false, true, true, true, true, true, true, true, true, true, false, false, false, false, false] (fun h2239 => ?_) ?_
      rotate_left
      ·rintro ⟨v2219, v2226⟩
       refine RA.weak (env' := [(0, v0), (6, v46), (9, v107), (10, v106), (11, .int .i64 (i1575 : Int)), (68, .int .i64 ((x0).length : Int)), (69, .int .i64 (i1575 : Int)), (73, .int .i64 ((x0).length : Int)), (74, .int .i64 (i2065 : Int)), (92, v107), (93, .int .i64 (i1575 : Int)), (94, v106), (95, .int .i64 (i1575 : Int)), (98, adr v107 (i1575 * 1)), (104, v2219), (109, rowv V1824 i1575), (114, v2226)]) (L' := [imm (TR.sl (TR.rec1 (TR.sl TR.int))) v0 x0, own 3 TR.int v46 y44.1, own2 22 3 TR.int v107 V1822 l1821, own2 22 3 TR.int v106 V1824 l1823, own 3 TR.int v2219 ([wsub 0 y2208] : (List Int)), own 3 TR.int v2226 ([wsub 0 y2212] : (List Int))]) (fun _ _ st => st) ?_
       refine RA.seq 7 rfl (by kernel_rfl) ?_
       refine RL.ldR (i := i1575) (r := y2206) 2 Try_ln22 rfl rfl rfl rfl (idx_some e2207).2.2 ?_
       refine RL.fin ?_
       refine RA.next ?_
       refine RA.relist 6 #[true, true, true, true, true, true, true, true, true, true, true, true, true, false, true, true, true, true, true, true, true, true, true, false, false, false, false, false] rfl (by kernel_rfl) ?_
       exact fun a w st => h2234 (v2219, v2226) a w (St.cut [0, 1, 2, 3, 4, 5] ⟨rfl, rfl, rfl, rfl, rfl, rfl, rfl, rfl, rfl, rfl, rfl, rfl, rfl, rfl, rfl, rfl, rfl, trivial⟩ (by decide) rfl st)
      refine RA.meet (ι := Value) (fun (p : Value) => [(0, v0), (6, v46), (9, v107), (10, v106), (11, .int .i64 (i1575 : Int)), (68, .int .i64 ((x0).length : Int)), (69, .int .i64 (i1575 : Int)), (73, .int .i64 ((x0).length : Int)), (74, .int .i64 (i2065 : Int)), (92, v107), (93, .int .i64 (i1575 : Int)), (94, v106), (95, .int .i64 (i1575 : Int)), (99, rowv V1822 i1575), (104, p), (108, adr v106 (i1575 * 1)), (113, .int .i64 (wsub 0 y2212))]) (fun (p : Value) => [imm (TR.sl (TR.rec1 (TR.sl TR.int))) v0 x0, own 3 TR.int v46 y44.1, own2 22 3 TR.int v107 V1822 l1821, own2 22 3 TR.int v106 V1824 l1823, own 3 TR.int p ([wsub 0 y2208] : (List Int))]) 8 #[true, true, true, true, true, true, true, true, true, true, true, true, true, false, true, true, true, false, true, true, true, true, false, false, false, false, false, false] (fun h2240 => ?_) ?_
      rotate_left
      ·rintro v2219
       refine RA.weak (env' := [(0, v0), (6, v46), (9, v107), (10, v106), (11, .int .i64 (i1575 : Int)), (68, .int .i64 ((x0).length : Int)), (69, .int .i64 (i1575 : Int)), (73, .int .i64 ((x0).length : Int)), (74, .int .i64 (i2065 : Int)), (92, v107), (93, .int .i64 (i1575 : Int)), (94, v106), (95, .int .i64 (i1575 : Int)), (99, rowv V1822 i1575), (104, v2219), (108, adr v106 (i1575 * 1)), (113, .int .i64 (wsub 0 y2212))]) (L' := [imm (TR.sl (TR.rec1 (TR.sl TR.int))) v0 x0, own 3 TR.int v46 y44.1, own2 22 3 TR.int v107 V1822 l1821, own2 22 3 TR.int v106 V1824 l1823, own 3 TR.int v2219 ([wsub 0 y2208] : (List Int))]) (fun _ _ st => st) ?_
       refine RA.many [13, 17, 22] (by kernel_rfl) ⟨⟨_, rfl, ?_⟩, ⟨_, rfl, ?_⟩, ⟨_, rfl, ?_⟩, trivial⟩
       ·skip
        refine RL.weak (fun a w st => st.takeRow 2 rfl (idx_some e2207).2.2) ?_
        refine RL.app 5 4 Try.underlying22 Try_lo3 rfl rfl rfl rfl rfl rfl rfl SlOf.own e2216 ?_
        intro v2295
        refine RL.fin ?_
        refine RA.next ?_
        refine RA.relist 7 #[true, true, true, true, true, true, true, true, true, true, true, true, true, true, true, true, true, false, true, true, true, true, false, false, false, false, false, false] rfl (by kernel_rfl) ?_
        exact fun a w st => h2238 v2295 a w (St.cut [0, 1, 2, 3, 5] ⟨rfl, rfl, rfl, rfl, rfl, rfl, rfl, rfl, rfl, rfl, rfl, rfl, rfl, rfl, rfl, rfl, trivial⟩ (by decide) rfl st)
       ·skip
        refine RL.ldR (i := i1575) (r := y2210) 3 Try_ln22 rfl rfl rfl rfl (idx_some e2211).2.2 ?_
        refine RL.fin ?_
        refine RA.next ?_
        refine RA.relist 7 #[true, true, true, true, true, true, true, true, true, true, true, true, true, false, true, true, true, true, true, true, true, true, false, false, false, false, false, false] rfl (by kernel_rfl) ?_
        exact fun a w st => h2237 v2219 a w (St.cut [0, 1, 2, 3, 4] ⟨rfl, rfl, rfl, rfl, rfl, rfl, rfl, rfl, rfl, rfl, rfl, rfl, rfl, rfl, rfl, rfl, rfl, trivial⟩ (by decide) rfl st)
       refine RL.bS (t := TR.int) (vs := [.int .i64 (wsub 0 y2212)]) ([wsub 0 y2212] : (List Int)) Try.underlying22 Try_lo3 rfl rfl rfl rfl ⟨VR.int, trivial⟩ rfl (by decide) ?_
       intro v2296
       refine RL.fin ?_
       refine RA.next ?_
       refine RA.relist 7 #[true, true, true, true, true, true, true, true, true, true, true, true, true, false, true, true, true, false, true, true, true, true, true, false, false, false, false, false] rfl (by kernel_rfl) ?_
       exact fun a w st => h2236 (v2219, v2296) a w (St.cut [0, 1, 2, 3, 4, 5] ⟨rfl, rfl, rfl, rfl, rfl, rfl, rfl, rfl, rfl, rfl, rfl, rfl, rfl, rfl, rfl, rfl, rfl, trivial⟩ (by decide) rfl st)
      refine RA.meet (ι := Unit) (fun (p : Unit) => [(0, v0), (6, v46), (9, v107), (10, v106), (11, .int .i64 (i1575 : Int)), (68, .int .i64 ((x0).length : Int)), (69, .int .i64 (i1575 : Int)), (73, .int .i64 ((x0).length : Int)), (74, .int .i64 (i2065 : Int)), (92, v107), (93, .int .i64 (i1575 : Int)), (94, v106), (95, .int .i64 (i1575 : Int)), (99, rowv V1822 i1575), (103, .int .i64 (wsub 0 y2208)), (109, rowv V1824 i1575), (113, .int .i64 (wsub 0 y2212))]) (fun (p : Unit) => [imm (TR.sl (TR.rec1 (TR.sl TR.int))) v0 x0, own 3 TR.int v46 y44.1, own2 22 3 TR.int v107 V1822 l1821, own2 22 3 TR.int v106 V1824 l1823]) 8 #[true, true, true, true, true, true, true, true, true, true, true, true, false, false, true, true, true, true, true, true, true, true, false, false, false, false, false, false] (fun h2241 => ?_) ?_
      rotate_left
      ·rintro ⟨⟩
       refine RA.weak (env' := [(0, v0), (6, v46), (9, v107), (10, v106), (11, .int .i64 (i1575 : Int)), (68, .int .i64 ((x0).length : Int)), (69, .int .i64 (i1575 : Int)), (73, .int .i64 ((x0).length : Int)), (74, .int .i64 (i2065 : Int)), (92, v107), (93, .int .i64 (i1575 : Int)), (94, v106), (95, .int .i64 (i1575 : Int)), (99, rowv V1822 i1575), (103, .int .i64 (wsub 0 y2208)), (109, rowv V1824 i1575), (113, .int .i64 (wsub 0 y2212))]) (L' := [imm (TR.sl (TR.rec1 (TR.sl TR.int))) v0 x0, own 3 TR.int v46 y44.1, own2 22 3 TR.int v107 V1822 l1821, own2 22 3 TR.int v106 V1824 l1823]) (fun _ _ st => st) ?_
       refine RA.many [12, 22] (by kernel_rfl) ⟨⟨_, rfl, ?_⟩, ⟨_, rfl, ?_⟩, trivial⟩
       ·skip
        refine RL.bS (t := TR.int) (vs := [.int .i64 (wsub 0 y2208)]) ([wsub 0 y2208] : (List Int)) Try.underlying22 Try_lo3 rfl rfl rfl rfl ⟨VR.int, trivial⟩ rfl (by decide) ?_
        intro v2293
        refine RL.fin ?_
        refine RA.next ?_
        refine RA.relist 7 #[true, true, true, true, true, true, true, true, true, true, true, true, true, false, true, true, true, true, true, true, true, true, false, false, false, false, false, false] rfl (by kernel_rfl) ?_
        exact fun a w st => h2237 v2293 a w (St.cut [0, 1, 2, 3, 4] ⟨rfl, rfl, rfl, rfl, rfl, rfl, rfl, rfl, rfl, rfl, rfl, rfl, rfl, rfl, rfl, rfl, rfl, trivial⟩ (by decide) rfl st)
       refine RL.bS (t := TR.int) (vs := [.int .i64 (wsub 0 y2212)]) ([wsub 0 y2212] : (List Int)) Try.underlying22 Try_lo3 rfl rfl rfl rfl ⟨VR.int, trivial⟩ rfl (by decide) ?_
       intro v2294
       refine RL.fin ?_
       refine RA.next ?_
       refine RA.relist 7 #[true, true, true, true, true, true, true, true, true, true, true, true, false, false, true, true, true, true, true, true, true, true, true, false, false, false, false, false] rfl (by kernel_rfl) ?_
       exact fun a w st => h2235 v2294 a w (St.cut [0, 1, 2, 3, 4] ⟨rfl, rfl, rfl, rfl, rfl, rfl, rfl, rfl, rfl, rfl, rfl, rfl, rfl, rfl, rfl, rfl, rfl, trivial⟩ (by decide) rfl st)
      refine RA.meet (ι := Value × Value) (fun (p : Value × Value) => [(0, v0), (6, v46), (9, v107), (10, v106), (11, .int .i64 (i1575 : Int)), (68, .int .i64 ((x0).length : Int)), (69, .int .i64 (i1575 : Int)), (73, .int .i64 ((x0).length : Int)), (74, .int .i64 (i2065 : Int)), (92, v107), (93, .int .i64 (i1575 : Int)), (94, v106), (95, .int .i64 (i1575 : Int)), (98, adr v107 (i1575 * 1)), (104, p.1), (108, adr v106 (i1575 * 1)), (114, p.2)]) (fun (p : Value × Value) => [imm (TR.sl (TR.rec1 (TR.sl TR.int))) v0 x0, own 3 TR.int v46 y44.1, own2 22 3 TR.int v107 V1822 l1821, own2 22 3 TR.int v106 V1824 l1823, own 3 TR.int p.1 ([wsub 0 y2208] : (List Int)), own 3 TR.int p.2 ([wsub 0 y2212] : (List Int))]) 8 #[true, true, true, true, true, true, true, false, true, true, true, true, true, false, true, true, true, false, true, true, true, true, true, false, false, false, false, false] (fun h2242 => ?_) ?_
      rotate_left
      ·rintro ⟨v2219, v2226⟩
       refine RA.weak (env' := [(0, v0), (6, v46), (9, v107), (10, v106), (11, .int .i64 (i1575 : Int)), (68, .int .i64 ((x0).length : Int)), (69, .int .i64 (i1575 : Int)), (73, .int .i64 ((x0).length : Int)), (74, .int .i64 (i2065 : Int)), (92, v107), (93, .int .i64 (i1575 : Int)), (94, v106), (95, .int .i64 (i1575 : Int)), (98, adr v107 (i1575 * 1)), (104, v2219), (108, adr v106 (i1575 * 1)), (114, v2226)]) (L' := [imm (TR.sl (TR.rec1 (TR.sl TR.int))) v0 x0, own 3 TR.int v46 y44.1, own2 22 3 TR.int v107 V1822 l1821, own2 22 3 TR.int v106 V1824 l1823, own 3 TR.int v2219 ([wsub 0 y2208] : (List Int)), own 3 TR.int v2226 ([wsub 0 y2212] : (List Int))]) (fun _ _ st => st) ?_
       refine RA.many [7, 17] (by kernel_rfl) ⟨⟨_, rfl, ?_⟩, ⟨_, rfl, ?_⟩, trivial⟩
       ·skip
        refine RL.ldR (i := i1575) (r := y2206) 2 Try_ln22 rfl rfl rfl rfl (idx_some e2207).2.2 ?_
        refine RL.fin ?_
        refine RA.next ?_
        refine RA.relist 7 #[true, true, true, true, true, true, true, true, true, true, true, true, true, false, true, true, true, false, true, true, true, true, true, false, false, false, false, false] rfl (by kernel_rfl) ?_
        exact fun a w st => h2236 (v2219, v2226) a w (St.cut [0, 1, 2, 3, 4, 5] ⟨rfl, rfl, rfl, rfl, rfl, rfl, rfl, rfl, rfl, rfl, rfl, rfl, rfl, rfl, rfl, rfl, rfl, trivial⟩ (by decide) rfl st)
       refine RL.ldR (i := i1575) (r := y2210) 3 Try_ln22 rfl rfl rfl rfl (idx_some e2211).2.2 ?_
       refine RL.fin ?_
       refine RA.next ?_
       refine RA.relist 7 #[true, true, true, true, true, true, true, false, true, true, true, true, true, false, true, true, true, true, true, true, true, true, true, false, false, false, false, false] rfl (by kernel_rfl) ?_
       exact fun a w st => h2239 (v2219, v2226) a w (St.cut [0, 1, 2, 3, 4, 5] ⟨rfl, rfl, rfl, rfl, rfl, rfl, rfl, rfl, rfl, rfl, rfl, rfl, rfl, rfl, rfl, rfl, rfl, trivial⟩ (by decide) rfl st)
      refine RA.meet (ι := Value) (fun (p : Value) => [(0, v0), (6, v46), (9, v107), (10, v106), (11, .int .i64 (i1575 : Int)), (68, .int .i64 ((x0).length : Int)), (69, .int .i64 (i1575 : Int)), (73, .int .i64 ((x0).length : Int)), (74, .int .i64 (i2065 : Int)), (92, v107), (93, .int .i64 (i1575 : Int)), (94, v106), (95, .int .i64 (i1575 : Int)), (98, adr v107 (i1575 * 1)), (103, .int .i64 (wsub 0 y2208)), (109, rowv V1824 i1575), (114, p)]) (fun (p : Value) => [imm (TR.sl (TR.rec1 (TR.sl TR.int))) v0 x0, own 3 TR.int v46 y44.1, own2 22 3 TR.int v107 V1822 l1821, own2 22 3 TR.int v106 V1824 l1823, own 3 TR.int p ([wsub 0 y2212] : (List Int))]) 8 #[true, true, true, true, true, true, true, false, true, true, true, true, false, false, true, true, true, true, true, true, true, true, true, false, false, false, false, false] (fun h2243 => ?_) ?_
      rotate_left
      ·rintro v2222
       refine RA.weak (env' := [(0, v0), (6, v46), (9, v107), (10, v106), (11, .int .i64 (i1575 : Int)), (68, .int .i64 ((x0).length : Int)), (69, .int .i64 (i1575 : Int)), (73, .int .i64 ((x0).length : Int)), (74, .int .i64 (i2065 : Int)), (92, v107), (93, .int .i64 (i1575 : Int)), (94, v106), (95, .int .i64 (i1575 : Int)), (98, adr v107 (i1575 * 1)), (103, .int .i64 (wsub 0 y2208)), (109, rowv V1824 i1575), (114, v2222)]) (L' := [imm (TR.sl (TR.rec1 (TR.sl TR.int))) v0 x0, own 3 TR.int v46 y44.1, own2 22 3 TR.int v107 V1822 l1821, own2 22 3 TR.int v106 V1824 l1823, own 3 TR.int v2222 ([wsub 0 y2212] : (List Int))]) (fun _ _ st => st) ?_
       refine RA.many [7, 12] (by kernel_rfl) ⟨⟨_, rfl, ?_⟩, ⟨_, rfl, ?_⟩, trivial⟩
       ·skip
        refine RL.ldR (i := i1575) (r := y2206) 2 Try_ln22 rfl rfl rfl rfl (idx_some e2207).2.2 ?_
        refine RL.fin ?_
        refine RA.next ?_
        refine RA.relist 7 #[true, true, true, true, true, true, true, true, true, true, true, true, false, false, true, true, true, true, true, true, true, true, true, false, false, false, false, false] rfl (by kernel_rfl) ?_
        exact fun a w st => h2235 v2222 a w (St.cut [0, 1, 2, 3, 4] ⟨rfl, rfl, rfl, rfl, rfl, rfl, rfl, rfl, rfl, rfl, rfl, rfl, rfl, rfl, rfl, rfl, rfl, trivial⟩ (by decide) rfl st)
       refine RL.bS (t := TR.int) (vs := [.int .i64 (wsub 0 y2208)]) ([wsub 0 y2208] : (List Int)) Try.underlying22 Try_lo3 rfl rfl rfl rfl ⟨VR.int, trivial⟩ rfl (by decide) ?_
       intro v2292
       refine RL.fin ?_
       refine RA.next ?_
       refine RA.relist 7 #[true, true, true, true, true, true, true, false, true, true, true, true, true, false, true, true, true, true, true, true, true, true, true, false, false, false, false, false] rfl (by kernel_rfl) ?_
       exact fun a w st => h2239 (v2292, v2222) a w (St.cut [0, 1, 2, 3, 5, 4] ⟨rfl, rfl, rfl, rfl, rfl, rfl, rfl, rfl, rfl, rfl, rfl, rfl, rfl, rfl, rfl, rfl, rfl, trivial⟩ (by decide) rfl st)
      refine RA.meet (ι := Value) (fun (p : Value) => [(0, v0), (6, v46), (9, v107), (10, v106), (11, .int .i64 (i1575 : Int)), (68, .int .i64 ((x0).length : Int)), (69, .int .i64 (i1575 : Int)), (73, .int .i64 ((x0).length : Int)), (74, .int .i64 (i2065 : Int)), (92, v107), (93, .int .i64 (i1575 : Int)), (94, v106), (95, .int .i64 (i1575 : Int)), (98, adr v107 (i1575 * 1)), (104, p), (109, rowv V1824 i1575), (113, .int .i64 (wsub 0 y2212))]) (fun (p : Value) => [imm (TR.sl (TR.rec1 (TR.sl TR.int))) v0 x0, own 3 TR.int v46 y44.1, own2 22 3 TR.int v107 V1822 l1821, own2 22 3 TR.int v106 V1824 l1823, own 3 TR.int p ([wsub 0 y2208] : (List Int))]) 8 #[true, true, true, true, true, true, true, false, true, true, true, true, true, false, true, true, true, true, true, true, true, true, false, false, false, false, false, false] (fun h2244 => ?_) ?_
      rotate_left
      ·rintro v2221
       refine RA.weak (env' := [(0, v0), (6, v46), (9, v107), (10, v106), (11, .int .i64 (i1575 : Int)), (68, .int .i64 ((x0).length : Int)), (69, .int .i64 (i1575 : Int)), (73, .int .i64 ((x0).length : Int)), (74, .int .i64 (i2065 : Int)), (92, v107), (93, .int .i64 (i1575 : Int)), (94, v106), (95, .int .i64 (i1575 : Int)), (98, adr v107 (i1575 * 1)), (104, v2221), (109, rowv V1824 i1575), (113, .int .i64 (wsub 0 y2212))]) (L' := [imm (TR.sl (TR.rec1 (TR.sl TR.int))) v0 x0, own 3 TR.int v46 y44.1, own2 22 3 TR.int v107 V1822 l1821, own2 22 3 TR.int v106 V1824 l1823, own 3 TR.int v2221 ([wsub 0 y2208] : (List Int))]) (fun _ _ st => st) ?_
       refine RA.many [7, 22] (by kernel_rfl) ⟨⟨_, rfl, ?_⟩, ⟨_, rfl, ?_⟩, trivial⟩
       ·skip
        refine RL.ldR (i := i1575) (r := y2206) 2 Try_ln22 rfl rfl rfl rfl (idx_some e2207).2.2 ?_
        refine RL.fin ?_
        refine RA.next ?_
        refine RA.relist 7 #[true, true, true, true, true, true, true, true, true, true, true, true, true, false, true, true, true, true, true, true, true, true, false, false, false, false, false, false] rfl (by kernel_rfl) ?_
        exact fun a w st => h2237 v2221 a w (St.cut [0, 1, 2, 3, 4] ⟨rfl, rfl, rfl, rfl, rfl, rfl, rfl, rfl, rfl, rfl, rfl, rfl, rfl, rfl, rfl, rfl, rfl, trivial⟩ (by decide) rfl st)
       refine RL.bS (t := TR.int) (vs := [.int .i64 (wsub 0 y2212)]) ([wsub 0 y2212] : (List Int)) Try.underlying22 Try_lo3 rfl rfl rfl rfl ⟨VR.int, trivial⟩ rfl (by decide) ?_
       intro v2291
       refine RL.fin ?_
       refine RA.next ?_
       refine RA.relist 7 #[true, true, true, true, true, true, true, false, true, true, true, true, true, false, true, true, true, true, true, true, true, true, true, false, false, false, false, false] rfl (by kernel_rfl) ?_
       exact fun a w st => h2239 (v2221, v2291) a w (St.cut [0, 1, 2, 3, 4, 5] ⟨rfl, rfl, rfl, rfl, rfl, rfl, rfl, rfl, rfl, rfl, rfl, rfl, rfl, rfl, rfl, rfl, rfl, trivial⟩ (by decide) rfl st)
      refine RA.meet (ι := Value) (fun (p : Value) => [(0, v0), (6, v46), (9, v107), (10, v106), (11, .int .i64 (i1575 : Int)), (68, .int .i64 ((x0).length : Int)), (69, .int .i64 (i1575 : Int)), (73, .int .i64 ((x0).length : Int)), (74, .int .i64 (i2065 : Int)), (92, v107), (93, .int .i64 (i1575 : Int)), (94, v106), (95, .int .i64 (i1575 : Int)), (99, rowv V1822 i1575), (103, .int .i64 (wsub 0 y2208)), (108, adr v106 (i1575 * 1)), (114, p)]) (fun (p : Value) => [imm (TR.sl (TR.rec1 (TR.sl TR.int))) v0 x0, own 3 TR.int v46 y44.1, own2 22 3 TR.int v107 V1822 l1821, own2 22 3 TR.int v106 V1824 l1823, own 3 TR.int p ([wsub 0 y2212] : (List Int))]) 8 #[true, true, true, true, true, true, true, true, true, true, true, true, false, false, true, true, true, false, true, true, true, true, true, false, false, false, false, false] (fun h2245 => ?_) ?_
      rotate_left
      ·rintro v2220
       refine RA.weak (env' := [(0, v0), (6, v46), (9, v107), (10, v106), (11, .int .i64 (i1575 : Int)), (68, .int .i64 ((x0).length : Int)), (69, .int .i64 (i1575 : Int)), (73, .int .i64 ((x0).length : Int)), (74, .int .i64 (i2065 : Int)), (92, v107), (93, .int .i64 (i1575 : Int)), (94, v106), (95, .int .i64 (i1575 : Int)), (99, rowv V1822 i1575), (103, .int .i64 (wsub 0 y2208)), (108, adr v106 (i1575 * 1)), (114, v2220)]) (L' := [imm (TR.sl (TR.rec1 (TR.sl TR.int))) v0 x0, own 3 TR.int v46 y44.1, own2 22 3 TR.int v107 V1822 l1821, own2 22 3 TR.int v106 V1824 l1823, own 3 TR.int v2220 ([wsub 0 y2212] : (List Int))]) (fun _ _ st => st) ?_
       refine RA.many [12, 17] (by kernel_rfl) ⟨⟨_, rfl, ?_⟩, ⟨_, rfl, ?_⟩, trivial⟩
       ·skip
        refine RL.bS (t := TR.int) (vs := [.int .i64 (wsub 0 y2208)]) ([wsub 0 y2208] : (List Int)) Try.underlying22 Try_lo3 rfl rfl rfl rfl ⟨VR.int, trivial⟩ rfl (by decide) ?_
        intro v2290
        refine RL.fin ?_
        refine RA.next ?_
        refine RA.relist 7 #[true, true, true, true, true, true, true, true, true, true, true, true, true, false, true, true, true, false, true, true, true, true, true, false, false, false, false, false] rfl (by kernel_rfl) ?_
        exact fun a w st => h2236 (v2290, v2220) a w (St.cut [0, 1, 2, 3, 5, 4] ⟨rfl, rfl, rfl, rfl, rfl, rfl, rfl, rfl, rfl, rfl, rfl, rfl, rfl, rfl, rfl, rfl, rfl, trivial⟩ (by decide) rfl st)
       refine RL.ldR (i := i1575) (r := y2210) 3 Try_ln22 rfl rfl rfl rfl (idx_some e2211).2.2 ?_
       refine RL.fin ?_
       refine RA.next ?_
       refine RA.relist 7 #[true, true, true, true, true, true, true, true, true, true, true, true, false, false, true, true, true, true, true, true, true, true, true, false, false, false, false, false] rfl (by kernel_rfl) ?_
       exact fun a w st => h2235 v2220 a w (St.cut [0, 1, 2, 3, 4] ⟨rfl, rfl, rfl, rfl, rfl, rfl, rfl, rfl, rfl, rfl, rfl, rfl, rfl, rfl, rfl, rfl, rfl, trivial⟩ (by decide) rfl st)
      refine RA.meet (ι := Value) (fun (p : Value) => [(0, v0), (6, v46), (9, v107), (10, v106), (11, .int .i64 (i1575 : Int)), (68, .int .i64 ((x0).length : Int)), (69, .int .i64 (i1575 : Int)), (73, .int .i64 ((x0).length : Int)), (74, .int .i64 (i2065 : Int)), (92, v107), (93, .int .i64 (i1575 : Int)), (94, v106), (95, .int .i64 (i1575 : Int)), (105, p), (109, rowv V1824 i1575), (111, adr v2086 (((1 : Int)).toNat * 1))]) (fun (p : Value) => [imm (TR.sl (TR.rec1 (TR.sl TR.int))) v0 x0, own 3 TR.int v46 y44.1, own2x i1575 22 3 TR.int v107 V1822 l1821, own2 22 3 TR.int v106 V1824 l1823, own 3 TR.int p (y2206 ++ ([wsub 0 y2208] : (List Int))), own 3 TR.int v2086 y2084.1]) 8 #[true, true, true, true, true, true, true, true, true, true, true, true, true, true, true, true, true, true, true, true, false, false, false, false, false, false, false, false] (fun h2246 => ?_) ?_
      rotate_left
      ·rintro v2225
       refine RA.weak (env' := [(0, v0), (6, v46), (9, v107), (10, v106), (11, .int .i64 (i1575 : Int)), (68, .int .i64 ((x0).length : Int)), (69, .int .i64 (i1575 : Int)), (73, .int .i64 ((x0).length : Int)), (74, .int .i64 (i2065 : Int)), (92, v107), (93, .int .i64 (i1575 : Int)), (94, v106), (95, .int .i64 (i1575 : Int)), (105, v2225), (109, rowv V1824 i1575), (111, adr v2086 (((1 : Int)).toNat * 1))]) (L' := [imm (TR.sl (TR.rec1 (TR.sl TR.int))) v0 x0, own 3 TR.int v46 y44.1, own2x i1575 22 3 TR.int v107 V1822 l1821, own2 22 3 TR.int v106 V1824 l1823, own 3 TR.int v2225 (y2206 ++ ([wsub 0 y2208] : (List Int))), own 3 TR.int v2086 y2084.1]) (fun _ _ st => st) ?_
       refine RA.seq 20 rfl (by kernel_rfl) ?_
       refine RL.ldSx (i := ((1 : Int)).toNat) (e' := y2212) 5 Ex.ik Try_ln3 rfl rfl rfl rfl SlOf.own (idx_some e2213).2.2 Part.self ?_
       refine RL.fin ?_
       refine RA.next ?_
       refine RA.negI 21 rfl (by kernel_rfl) rfl rfl rfl ?_
       refine RA.relist 6 #[true, true, true, true, true, true, true, true, true, true, true, true, true, true, true, true, true, true, true, true, true, true, false, false, false, false, false, false] rfl (by kernel_rfl) ?_
       exact fun a w st => h2232 v2225 a w (St.cut [0, 1, 2, 3, 4] ⟨rfl, rfl, rfl, rfl, rfl, rfl, rfl, rfl, rfl, rfl, rfl, rfl, rfl, rfl, rfl, rfl, trivial⟩ (by decide) rfl st)
      refine RA.meet (ι := Value) (fun (p : Value) => [(0, v0), (6, v46), (9, v107), (10, v106), (11, .int .i64 (i1575 : Int)), (68, .int .i64 ((x0).length : Int)), (69, .int .i64 (i1575 : Int)), (73, .int .i64 ((x0).length : Int)), (74, .int .i64 (i2065 : Int)), (92, v107), (93, .int .i64 (i1575 : Int)), (94, v106), (95, .int .i64 (i1575 : Int)), (99, rowv V1822 i1575), (101, adr v2086 (((0 : Int)).toNat * 1)), (109, rowv V1824 i1575), (114, p)]) (fun (p : Value) => [imm (TR.sl (TR.rec1 (TR.sl TR.int))) v0 x0, own 3 TR.int v46 y44.1, own2 22 3 TR.int v107 V1822 l1821, own2 22 3 TR.int v106 V1824 l1823, own 3 TR.int v2086 y2084.1, own 3 TR.int p ([wsub 0 y2212] : (List Int))]) 9 #[true, true, true, true, true, true, true, true, true, true, false, false, false, false, true, true, true, true, true, true, true, true, true, false, false, false, false, false] (fun h2247 => ?_) ?_
      rotate_left
      ·rintro v2222
       refine RA.weak (env' := [(0, v0), (6, v46), (9, v107), (10, v106), (11, .int .i64 (i1575 : Int)), (68, .int .i64 ((x0).length : Int)), (69, .int .i64 (i1575 : Int)), (73, .int .i64 ((x0).length : Int)), (74, .int .i64 (i2065 : Int)), (92, v107), (93, .int .i64 (i1575 : Int)), (94, v106), (95, .int .i64 (i1575 : Int)), (99, rowv V1822 i1575), (101, adr v2086 (((0 : Int)).toNat * 1)), (109, rowv V1824 i1575), (114, v2222)]) (L' := [imm (TR.sl (TR.rec1 (TR.sl TR.int))) v0 x0, own 3 TR.int v46 y44.1, own2 22 3 TR.int v107 V1822 l1821, own2 22 3 TR.int v106 V1824 l1823, own 3 TR.int v2086 y2084.1, own 3 TR.int v2222 ([wsub 0 y2212] : (List Int))]) (fun _ _ st => st) ?_
       refine RA.seq 10 rfl (by kernel_rfl) ?_
       refine RL.ldSx (i := ((0 : Int)).toNat) (e' := y2208) 4 Ex.ik Try_ln3 rfl rfl rfl rfl SlOf.own (idx_some e2209).2.2 Part.self ?_
       refine RL.fin ?_
       refine RA.next ?_
       refine RA.negI 11 rfl (by kernel_rfl) rfl rfl rfl ?_
       refine RA.relist 7 #[true, true, true, true, true, true, true, true, true, true, true, true, false, false, true, true, true, true, true, true, true, true, true, false, false, false, false, false] rfl (by kernel_rfl) ?_
       exact fun a w st => h2235 v2222 a w (St.cut [0, 1, 2, 3, 5] ⟨rfl, rfl, rfl, rfl, rfl, rfl, rfl, rfl, rfl, rfl, rfl, rfl, rfl, rfl, rfl, rfl, rfl, trivial⟩ (by decide) rfl st)
      refine RA.meet (ι := Value) (fun (p : Value) => [(0, v0), (6, v46), (9, v107), (10, v106), (11, .int .i64 (i1575 : Int)), (68, .int .i64 ((x0).length : Int)), (69, .int .i64 (i1575 : Int)), (73, .int .i64 ((x0).length : Int)), (74, .int .i64 (i2065 : Int)), (92, v107), (93, .int .i64 (i1575 : Int)), (94, v106), (95, .int .i64 (i1575 : Int)), (99, rowv V1822 i1575), (104, p), (109, rowv V1824 i1575), (111, adr v2086 (((1 : Int)).toNat * 1))]) (fun (p : Value) => [imm (TR.sl (TR.rec1 (TR.sl TR.int))) v0 x0, own 3 TR.int v46 y44.1, own2 22 3 TR.int v107 V1822 l1821, own2 22 3 TR.int v106 V1824 l1823, own 3 TR.int p ([wsub 0 y2208] : (List Int)), own 3 TR.int v2086 y2084.1]) 9 #[true, true, true, true, true, true, true, true, true, true, true, true, true, false, true, true, true, true, true, true, false, false, false, false, false, false, false, false] (fun h2248 => ?_) ?_
      rotate_left
      ·rintro v2223
       refine RA.weak (env' := [(0, v0), (6, v46), (9, v107), (10, v106), (11, .int .i64 (i1575 : Int)), (68, .int .i64 ((x0).length : Int)), (69, .int .i64 (i1575 : Int)), (73, .int .i64 ((x0).length : Int)), (74, .int .i64 (i2065 : Int)), (92, v107), (93, .int .i64 (i1575 : Int)), (94, v106), (95, .int .i64 (i1575 : Int)), (99, rowv V1822 i1575), (104, v2223), (109, rowv V1824 i1575), (111, adr v2086 (((1 : Int)).toNat * 1))]) (L' := [imm (TR.sl (TR.rec1 (TR.sl TR.int))) v0 x0, own 3 TR.int v46 y44.1, own2 22 3 TR.int v107 V1822 l1821, own2 22 3 TR.int v106 V1824 l1823, own 3 TR.int v2223 ([wsub 0 y2208] : (List Int)), own 3 TR.int v2086 y2084.1]) (fun _ _ st => st) ?_
       refine RA.many [13, 20] (by kernel_rfl) ⟨⟨_, rfl, ?_⟩, ⟨_, rfl, ?_⟩, trivial⟩
       ·skip
        refine RL.weak (fun a w st => st.takeRow 2 rfl (idx_some e2207).2.2) ?_
        refine RL.app 6 4 Try.underlying22 Try_lo3 rfl rfl rfl rfl rfl rfl rfl SlOf.own e2216 ?_
        intro v2289
        refine RL.fin ?_
        refine RA.next ?_
        refine RA.relist 8 #[true, true, true, true, true, true, true, true, true, true, true, true, true, true, true, true, true, true, true, true, false, false, false, false, false, false, false, false] rfl (by kernel_rfl) ?_
        exact fun a w st => h2246 v2289 a w (St.cut [0, 1, 2, 3, 6, 5] ⟨rfl, rfl, rfl, rfl, rfl, rfl, rfl, rfl, rfl, rfl, rfl, rfl, rfl, rfl, rfl, rfl, trivial⟩ (by decide) rfl st)
       refine RL.ldSx (i := ((1 : Int)).toNat) (e' := y2212) 5 Ex.ik Try_ln3 rfl rfl rfl rfl SlOf.own (idx_some e2213).2.2 Part.self ?_
       refine RL.fin ?_
       refine RA.next ?_
       refine RA.negI 21 rfl (by kernel_rfl) rfl rfl rfl ?_
       refine RA.relist 7 #[true, true, true, true, true, true, true, true, true, true, true, true, true, false, true, true, true, true, true, true, true, true, false, false, false, false, false, false] rfl (by kernel_rfl) ?_
       exact fun a w st => h2237 v2223 a w (St.cut [0, 1, 2, 3, 4] ⟨rfl, rfl, rfl, rfl, rfl, rfl, rfl, rfl, rfl, rfl, rfl, rfl, rfl, rfl, rfl, rfl, rfl, trivial⟩ (by decide) rfl st)
      refine RA.meet (ι := Unit) (fun (p : Unit) => [(0, v0), (6, v46), (9, v107), (10, v106), (11, .int .i64 (i1575 : Int)), (68, .int .i64 ((x0).length : Int)), (69, .int .i64 (i1575 : Int)), (73, .int .i64 ((x0).length : Int)), (74, .int .i64 (i2065 : Int)), (92, v107), (93, .int .i64 (i1575 : Int)), (94, v106), (95, .int .i64 (i1575 : Int)), (99, rowv V1822 i1575), (103, .int .i64 (wsub 0 y2208)), (108, adr v106 (i1575 * 1)), (113, .int .i64 (wsub 0 y2212))]) (fun (p : Unit) => [imm (TR.sl (TR.rec1 (TR.sl TR.int))) v0 x0, own 3 TR.int v46 y44.1, own2 22 3 TR.int v107 V1822 l1821, own2 22 3 TR.int v106 V1824 l1823]) 9 #[true, true, true, true, true, true, true, true, true, true, true, true, false, false, true, true, true, false, true, true, true, true, false, false, false, false, false, false] (fun h2249 => ?_) ?_
      rotate_left
      ·rintro ⟨⟩
       refine RA.weak (env' := [(0, v0), (6, v46), (9, v107), (10, v106), (11, .int .i64 (i1575 : Int)), (68, .int .i64 ((x0).length : Int)), (69, .int .i64 (i1575 : Int)), (73, .int .i64 ((x0).length : Int)), (74, .int .i64 (i2065 : Int)), (92, v107), (93, .int .i64 (i1575 : Int)), (94, v106), (95, .int .i64 (i1575 : Int)), (99, rowv V1822 i1575), (103, .int .i64 (wsub 0 y2208)), (108, adr v106 (i1575 * 1)), (113, .int .i64 (wsub 0 y2212))]) (L' := [imm (TR.sl (TR.rec1 (TR.sl TR.int))) v0 x0, own 3 TR.int v46 y44.1, own2 22 3 TR.int v107 V1822 l1821, own2 22 3 TR.int v106 V1824 l1823]) (fun _ _ st => st) ?_
       refine RA.many [12, 17, 22] (by kernel_rfl) ⟨⟨_, rfl, ?_⟩, ⟨_, rfl, ?_⟩, ⟨_, rfl, ?_⟩, trivial⟩
       ·skip
        refine RL.bS (t := TR.int) (vs := [.int .i64 (wsub 0 y2208)]) ([wsub 0 y2208] : (List Int)) Try.underlying22 Try_lo3 rfl rfl rfl rfl ⟨VR.int, trivial⟩ rfl (by decide) ?_
        intro v2287
        refine RL.fin ?_
        refine RA.next ?_
        refine RA.relist 8 #[true, true, true, true, true, true, true, true, true, true, true, true, true, false, true, true, true, false, true, true, true, true, false, false, false, false, false, false] rfl (by kernel_rfl) ?_
        exact fun a w st => h2240 v2287 a w (St.cut [0, 1, 2, 3, 4] ⟨rfl, rfl, rfl, rfl, rfl, rfl, rfl, rfl, rfl, rfl, rfl, rfl, rfl, rfl, rfl, rfl, rfl, trivial⟩ (by decide) rfl st)
       ·skip
        refine RL.ldR (i := i1575) (r := y2210) 3 Try_ln22 rfl rfl rfl rfl (idx_some e2211).2.2 ?_
        refine RL.fin ?_
        refine RA.next ?_
        refine RA.relist 8 #[true, true, true, true, true, true, true, true, true, true, true, true, false, false, true, true, true, true, true, true, true, true, false, false, false, false, false, false] rfl (by kernel_rfl) ?_
        exact fun a w st => h2241 () a w (St.cut [0, 1, 2, 3] ⟨rfl, rfl, rfl, rfl, rfl, rfl, rfl, rfl, rfl, rfl, rfl, rfl, rfl, rfl, rfl, rfl, rfl, trivial⟩ (by decide) rfl st)
       refine RL.bS (t := TR.int) (vs := [.int .i64 (wsub 0 y2212)]) ([wsub 0 y2212] : (List Int)) Try.underlying22 Try_lo3 rfl rfl rfl rfl ⟨VR.int, trivial⟩ rfl (by decide) ?_
       intro v2288
       refine RL.fin ?_
       refine RA.next ?_
       refine RA.relist 8 #[true, true, true, true, true, true, true, true, true, true, true, true, false, false, true, true, true, false, true, true, true, true, true, false, false, false, false, false] rfl (by kernel_rfl) ?_
       exact fun a w st => h2245 v2288 a w (St.cut [0, 1, 2, 3, 4] ⟨rfl, rfl, rfl, rfl, rfl, rfl, rfl, rfl, rfl, rfl, rfl, rfl, rfl, rfl, rfl, rfl, rfl, trivial⟩ (by decide) rfl st)
      refine RA.meet (ι := Value) (fun (p : Value) => [(0, v0), (6, v46), (9, v107), (10, v106), (11, .int .i64 (i1575 : Int)), (68, .int .i64 ((x0).length : Int)), (69, .int .i64 (i1575 : Int)), (73, .int .i64 ((x0).length : Int)), (74, .int .i64 (i2065 : Int)), (92, v107), (93, .int .i64 (i1575 : Int)), (94, v106), (95, .int .i64 (i1575 : Int)), (105, p), (108, adr v106 (i1575 * 1)), (111, adr v2086 (((1 : Int)).toNat * 1))]) (fun (p : Value) => [imm (TR.sl (TR.rec1 (TR.sl TR.int))) v0 x0, own 3 TR.int v46 y44.1, own2x i1575 22 3 TR.int v107 V1822 l1821, own2 22 3 TR.int v106 V1824 l1823, own 3 TR.int p (y2206 ++ ([wsub 0 y2208] : (List Int))), own 3 TR.int v2086 y2084.1]) 9 #[true, true, true, true, true, true, true, true, true, true, true, true, true, true, true, true, true, false, true, true, false, false, false, false, false, false, false, false] (fun h2250 => ?_) ?_
      rotate_left
      ·rintro v2224
       refine RA.weak (env' := [(0, v0), (6, v46), (9, v107), (10, v106), (11, .int .i64 (i1575 : Int)), (68, .int .i64 ((x0).length : Int)), (69, .int .i64 (i1575 : Int)), (73, .int .i64 ((x0).length : Int)), (74, .int .i64 (i2065 : Int)), (92, v107), (93, .int .i64 (i1575 : Int)), (94, v106), (95, .int .i64 (i1575 : Int)), (105, v2224), (108, adr v106 (i1575 * 1)), (111, adr v2086 (((1 : Int)).toNat * 1))]) (L' := [imm (TR.sl (TR.rec1 (TR.sl TR.int))) v0 x0, own 3 TR.int v46 y44.1, own2x i1575 22 3 TR.int v107 V1822 l1821, own2 22 3 TR.int v106 V1824 l1823, own 3 TR.int v2224 (y2206 ++ ([wsub 0 y2208] : (List Int))), own 3 TR.int v2086 y2084.1]) (fun _ _ st => st) ?_
       refine RA.many [17, 20] (by kernel_rfl) ⟨⟨_, rfl, ?_⟩, ⟨_, rfl, ?_⟩, trivial⟩
       ·skip
        refine RL.ldR (i := i1575) (r := y2210) 3 Try_ln22 rfl rfl rfl rfl (idx_some e2211).2.2 ?_
        refine RL.fin ?_
        refine RA.next ?_
        refine RA.relist 8 #[true, true, true, true, true, true, true, true, true, true, true, true, true, true, true, true, true, true, true, true, false, false, false, false, false, false, false, false] rfl (by kernel_rfl) ?_
        exact fun a w st => h2246 v2224 a w (St.cut [0, 1, 2, 3, 4, 5] ⟨rfl, rfl, rfl, rfl, rfl, rfl, rfl, rfl, rfl, rfl, rfl, rfl, rfl, rfl, rfl, rfl, trivial⟩ (by decide) rfl st)
       refine RL.ldSx (i := ((1 : Int)).toNat) (e' := y2212) 5 Ex.ik Try_ln3 rfl rfl rfl rfl SlOf.own (idx_some e2213).2.2 Part.self ?_
       refine RL.fin ?_
       refine RA.next ?_
       refine RA.negI 21 rfl (by kernel_rfl) rfl rfl rfl ?_
       refine RA.relist 7 #[true, true, true, true, true, true, true, true, true, true, true, true, true, true, true, true, true, false, true, true, true, true, false, false, false, false, false, false] rfl (by kernel_rfl) ?_
       exact fun a w st => h2238 v2224 a w (St.cut [0, 1, 2, 3, 4] ⟨rfl, rfl, rfl, rfl, rfl, rfl, rfl, rfl, rfl, rfl, rfl, rfl, rfl, rfl, rfl, rfl, trivial⟩ (by decide) rfl st)
      refine RA.meet (ι := Value) (fun (p : Value) => [(0, v0), (6, v46), (9, v107), (10, v106), (11, .int .i64 (i1575 : Int)), (68, .int .i64 ((x0).length : Int)), (69, .int .i64 (i1575 : Int)), (73, .int .i64 ((x0).length : Int)), (74, .int .i64 (i2065 : Int)), (92, v107), (93, .int .i64 (i1575 : Int)), (94, v106), (95, .int .i64 (i1575 : Int)), (98, adr v107 (i1575 * 1)), (104, p), (108, adr v106 (i1575 * 1)), (113, .int .i64 (wsub 0 y2212))]) (fun (p : Value) => [imm (TR.sl (TR.rec1 (TR.sl TR.int))) v0 x0, own 3 TR.int v46 y44.1, own2 22 3 TR.int v107 V1822 l1821, own2 22 3 TR.int v106 V1824 l1823, own 3 TR.int p ([wsub 0 y2208] : (List Int))]) 9 #[true, true, true, true, true, true, true, false, true, true, true, true, true, false, true, true, true, false, true, true, true, true, false, false, false, false, false, false] (fun h2251 => ?_) ?_
      rotate_left
      ·rintro v2219
       refine RA.weak (env' := [(0, v0), (6, v46), (9, v107), (10, v106), (11, .int .i64 (i1575 : Int)), (68, .int .i64 ((x0).length : Int)), (69, .int .i64 (i1575 : Int)), (73, .int .i64 ((x0).length : Int)), (74, .int .i64 (i2065 : Int)), (92, v107), (93, .int .i64 (i1575 : Int)), (94, v106), (95, .int .i64 (i1575 : Int)), (98, adr v107 (i1575 * 1)), (104, v2219), (108, adr v106 (i1575 * 1)), (113, .int .i64 (wsub 0 y2212))]) (L' := [imm (TR.sl (TR.rec1 (TR.sl TR.int))) v0 x0, own 3 TR.int v46 y44.1, own2 22 3 TR.int v107 V1822 l1821, own2 22 3 TR.int v106 V1824 l1823, own 3 TR.int v2219 ([wsub 0 y2208] : (List Int))]) (fun _ _ st => st) ?_
       refine RA.many [7, 17, 22] (by kernel_rfl) ⟨⟨_, rfl, ?_⟩, ⟨_, rfl, ?_⟩, ⟨_, rfl, ?_⟩, trivial⟩
       ·skip
        refine RL.ldR (i := i1575) (r := y2206) 2 Try_ln22 rfl rfl rfl rfl (idx_some e2207).2.2 ?_
        refine RL.fin ?_
        refine RA.next ?_
        refine RA.relist 8 #[true, true, true, true, true, true, true, true, true, true, true, true, true, false, true, true, true, false, true, true, true, true, false, false, false, false, false, false] rfl (by kernel_rfl) ?_
        exact fun a w st => h2240 v2219 a w (St.cut [0, 1, 2, 3, 4] ⟨rfl, rfl, rfl, rfl, rfl, rfl, rfl, rfl, rfl, rfl, rfl, rfl, rfl, rfl, rfl, rfl, rfl, trivial⟩ (by decide) rfl st)
       ·skip
        refine RL.ldR (i := i1575) (r := y2210) 3 Try_ln22 rfl rfl rfl rfl (idx_some e2211).2.2 ?_
        refine RL.fin ?_
        refine RA.next ?_
        refine RA.relist 8 #[true, true, true, true, true, true, true, false, true, true, true, true, true, false, true, true, true, true, true, true, true, true, false, false, false, false, false, false] rfl (by kernel_rfl) ?_
        exact fun a w st => h2244 v2219 a w (St.cut [0, 1, 2, 3, 4] ⟨rfl, rfl, rfl, rfl, rfl, rfl, rfl, rfl, rfl, rfl, rfl, rfl, rfl, rfl, rfl, rfl, rfl, trivial⟩ (by decide) rfl st)
       refine RL.bS (t := TR.int) (vs := [.int .i64 (wsub 0 y2212)]) ([wsub 0 y2212] : (List Int)) Try.underlying22 Try_lo3 rfl rfl rfl rfl ⟨VR.int, trivial⟩ rfl (by decide) ?_
       intro v2286
       refine RL.fin ?_
       refine RA.next ?_
       refine RA.relist 8 #[true, true, true, true, true, true, true, false, true, true, true, true, true, false, true, true, true, false, true, true, true, true, true, false, false, false, false, false] rfl (by kernel_rfl) ?_
       exact fun a w st => h2242 (v2219, v2286) a w (St.cut [0, 1, 2, 3, 4, 5] ⟨rfl, rfl, rfl, rfl, rfl, rfl, rfl, rfl, rfl, rfl, rfl, rfl, rfl, rfl, rfl, rfl, rfl, trivial⟩ (by decide) rfl st)
      refine RA.meet (ι := Unit) (fun (p : Unit) => [(0, v0), (6, v46), (9, v107), (10, v106), (11, .int .i64 (i1575 : Int)), (68, .int .i64 ((x0).length : Int)), (69, .int .i64 (i1575 : Int)), (73, .int .i64 ((x0).length : Int)), (74, .int .i64 (i2065 : Int)), (92, v107), (93, .int .i64 (i1575 : Int)), (94, v106), (95, .int .i64 (i1575 : Int)), (98, adr v107 (i1575 * 1)), (103, .int .i64 (wsub 0 y2208)), (109, rowv V1824 i1575), (113, .int .i64 (wsub 0 y2212))]) (fun (p : Unit) => [imm (TR.sl (TR.rec1 (TR.sl TR.int))) v0 x0, own 3 TR.int v46 y44.1, own2 22 3 TR.int v107 V1822 l1821, own2 22 3 TR.int v106 V1824 l1823]) 9 #[true, true, true, true, true, true, true, false, true, true, true, true, false, false, true, true, true, true, true, true, true, true, false, false, false, false, false, false] (fun h2252 => ?_) ?_
      rotate_left
      ·rintro ⟨⟩
       refine RA.weak (env' := [(0, v0), (6, v46), (9, v107), (10, v106), (11, .int .i64 (i1575 : Int)), (68, .int .i64 ((x0).length : Int)), (69, .int .i64 (i1575 : Int)), (73, .int .i64 ((x0).length : Int)), (74, .int .i64 (i2065 : Int)), (92, v107), (93, .int .i64 (i1575 : Int)), (94, v106), (95, .int .i64 (i1575 : Int)), (98, adr v107 (i1575 * 1)), (103, .int .i64 (wsub 0 y2208)), (109, rowv V1824 i1575), (113, .int .i64 (wsub 0 y2212))]) (L' := [imm (TR.sl (TR.rec1 (TR.sl TR.int))) v0 x0, own 3 TR.int v46 y44.1, own2 22 3 TR.int v107 V1822 l1821, own2 22 3 TR.int v106 V1824 l1823]) (fun _ _ st => st) ?_
       refine RA.many [7, 12, 22] (by kernel_rfl) ⟨⟨_, rfl, ?_⟩, ⟨_, rfl, ?_⟩, ⟨_, rfl, ?_⟩, trivial⟩
       ·skip
        refine RL.ldR (i := i1575) (r := y2206) 2 Try_ln22 rfl rfl rfl rfl (idx_some e2207).2.2 ?_
        refine RL.fin ?_
        refine RA.next ?_
        refine RA.relist 8 #[true, true, true, true, true, true, true, true, true, true, true, true, false, false, true, true, true, true, true, true, true, true, false, false, false, false, false, false] rfl (by kernel_rfl) ?_
        exact fun a w st => h2241 () a w (St.cut [0, 1, 2, 3] ⟨rfl, rfl, rfl, rfl, rfl, rfl, rfl, rfl, rfl, rfl, rfl, rfl, rfl, rfl, rfl, rfl, rfl, trivial⟩ (by decide) rfl st)
       ·skip
        refine RL.bS (t := TR.int) (vs := [.int .i64 (wsub 0 y2208)]) ([wsub 0 y2208] : (List Int)) Try.underlying22 Try_lo3 rfl rfl rfl rfl ⟨VR.int, trivial⟩ rfl (by decide) ?_
        intro v2284
        refine RL.fin ?_
        refine RA.next ?_
        refine RA.relist 8 #[true, true, true, true, true, true, true, false, true, true, true, true, true, false, true, true, true, true, true, true, true, true, false, false, false, false, false, false] rfl (by kernel_rfl) ?_
        exact fun a w st => h2244 v2284 a w (St.cut [0, 1, 2, 3, 4] ⟨rfl, rfl, rfl, rfl, rfl, rfl, rfl, rfl, rfl, rfl, rfl, rfl, rfl, rfl, rfl, rfl, rfl, trivial⟩ (by decide) rfl st)
       refine RL.bS (t := TR.int) (vs := [.int .i64 (wsub 0 y2212)]) ([wsub 0 y2212] : (List Int)) Try.underlying22 Try_lo3 rfl rfl rfl rfl ⟨VR.int, trivial⟩ rfl (by decide) ?_
       intro v2285
       refine RL.fin ?_
       refine RA.next ?_
       refine RA.relist 8 #[true, true, true, true, true, true, true, false, true, true, true, true, false, false, true, true, true, true, true, true, true, true, true, false, false, false, false, false] rfl (by kernel_rfl) ?_
       exact fun a w st => h2243 v2285 a w (St.cut [0, 1, 2, 3, 4] ⟨rfl, rfl, rfl, rfl, rfl, rfl, rfl, rfl, rfl, rfl, rfl, rfl, rfl, rfl, rfl, rfl, rfl, trivial⟩ (by decide) rfl st)
      refine RA.meet (ι := Value) (fun (p : Value) => [(0, v0), (6, v46), (9, v107), (10, v106), (11, .int .i64 (i1575 : Int)), (68, .int .i64 ((x0).length : Int)), (69, .int .i64 (i1575 : Int)), (73, .int .i64 ((x0).length : Int)), (74, .int .i64 (i2065 : Int)), (92, v107), (93, .int .i64 (i1575 : Int)), (94, v106), (95, .int .i64 (i1575 : Int)), (98, adr v107 (i1575 * 1)), (103, .int .i64 (wsub 0 y2208)), (108, adr v106 (i1575 * 1)), (114, p)]) (fun (p : Value) => [imm (TR.sl (TR.rec1 (TR.sl TR.int))) v0 x0, own 3 TR.int v46 y44.1, own2 22 3 TR.int v107 V1822 l1821, own2 22 3 TR.int v106 V1824 l1823, own 3 TR.int p ([wsub 0 y2212] : (List Int))]) 9 #[true, true, true, true, true, true, true, false, true, true, true, true, false, false, true, true, true, false, true, true, true, true, true, false, false, false, false, false] (fun h2253 => ?_) ?_
      rotate_left
      ·rintro v2220
       refine RA.weak (env' := [(0, v0), (6, v46), (9, v107), (10, v106), (11, .int .i64 (i1575 : Int)), (68, .int .i64 ((x0).length : Int)), (69, .int .i64 (i1575 : Int)), (73, .int .i64 ((x0).length : Int)), (74, .int .i64 (i2065 : Int)), (92, v107), (93, .int .i64 (i1575 : Int)), (94, v106), (95, .int .i64 (i1575 : Int)), (98, adr v107 (i1575 * 1)), (103, .int .i64 (wsub 0 y2208)), (108, adr v106 (i1575 * 1)), (114, v2220)]) (L' := [imm (TR.sl (TR.rec1 (TR.sl TR.int))) v0 x0, own 3 TR.int v46 y44.1, own2 22 3 TR.int v107 V1822 l1821, own2 22 3 TR.int v106 V1824 l1823, own 3 TR.int v2220 ([wsub 0 y2212] : (List Int))]) (fun _ _ st => st) ?_
       refine RA.many [7, 12, 17] (by kernel_rfl) ⟨⟨_, rfl, ?_⟩, ⟨_, rfl, ?_⟩, ⟨_, rfl, ?_⟩, trivial⟩
       ·skip
        refine RL.ldR (i := i1575) (r := y2206) 2 Try_ln22 rfl rfl rfl rfl (idx_some e2207).2.2 ?_
        refine RL.fin ?_
        refine RA.next ?_
        refine RA.relist 8 #[true, true, true, true, true, true, true, true, true, true, true, true, false, false, true, true, true, false, true, true, true, true, true, false, false, false, false, false] rfl (by kernel_rfl) ?_
        exact fun a w st => h2245 v2220 a w (St.cut [0, 1, 2, 3, 4] ⟨rfl, rfl, rfl, rfl, rfl, rfl, rfl, rfl, rfl, rfl, rfl, rfl, rfl, rfl, rfl, rfl, rfl, trivial⟩ (by decide) rfl st)
       ·skip
        refine RL.bS (t := TR.int) (vs := [.int .i64 (wsub 0 y2208)]) ([wsub 0 y2208] : (List Int)) Try.underlying22 Try_lo3 rfl rfl rfl rfl ⟨VR.int, trivial⟩ rfl (by decide) ?_
        intro v2283
        refine RL.fin ?_
        refine RA.next ?_
        refine RA.relist 8 #[true, true, true, true, true, true, true, false, true, true, true, true, true, false, true, true, true, false, true, true, true, true, true, false, false, false, false, false] rfl (by kernel_rfl) ?_
        exact fun a w st => h2242 (v2283, v2220) a w (St.cut [0, 1, 2, 3, 5, 4] ⟨rfl, rfl, rfl, rfl, rfl, rfl, rfl, rfl, rfl, rfl, rfl, rfl, rfl, rfl, rfl, rfl, rfl, trivial⟩ (by decide) rfl st)
       refine RL.ldR (i := i1575) (r := y2210) 3 Try_ln22 rfl rfl rfl rfl (idx_some e2211).2.2 ?_
       refine RL.fin ?_
       refine RA.next ?_
       refine RA.relist 8 #[true, true, true, true, true, true, true, false, true, true, true, true, false, false, true, true, true, true, true, true, true, true, true, false, false, false, false, false] rfl (by kernel_rfl) ?_
       exact fun a w st => h2243 v2220 a w (St.cut [0, 1, 2, 3, 4] ⟨rfl, rfl, rfl, rfl, rfl, rfl, rfl, rfl, rfl, rfl, rfl, rfl, rfl, rfl, rfl, rfl, rfl, trivial⟩ (by decide) rfl st)
      refine RA.meet (ι := Value) (fun (p : Value) => [(0, v0), (6, v46), (9, v107), (10, v106), (11, .int .i64 (i1575 : Int)), (68, .int .i64 ((x0).length : Int)), (69, .int .i64 (i1575 : Int)), (73, .int .i64 ((x0).length : Int)), (74, .int .i64 (i2065 : Int)), (92, v107), (93, .int .i64 (i1575 : Int)), (94, v106), (95, .int .i64 (i1575 : Int)), (98, adr v107 (i1575 * 1)), (101, adr v2086 (((0 : Int)).toNat * 1)), (109, rowv V1824 i1575), (114, p)]) (fun (p : Value) => [imm (TR.sl (TR.rec1 (TR.sl TR.int))) v0 x0, own 3 TR.int v46 y44.1, own2 22 3 TR.int v107 V1822 l1821, own2 22 3 TR.int v106 V1824 l1823, own 3 TR.int v2086 y2084.1, own 3 TR.int p ([wsub 0 y2212] : (List Int))]) 10 #[true, true, true, true, true, true, true, false, true, true, false, false, false, false, true, true, true, true, true, true, true, true, true, false, false, false, false, false] (fun h2254 => ?_) ?_
      rotate_left
      ·rintro v2222
       refine RA.weak (env' := [(0, v0), (6, v46), (9, v107), (10, v106), (11, .int .i64 (i1575 : Int)), (68, .int .i64 ((x0).length : Int)), (69, .int .i64 (i1575 : Int)), (73, .int .i64 ((x0).length : Int)), (74, .int .i64 (i2065 : Int)), (92, v107), (93, .int .i64 (i1575 : Int)), (94, v106), (95, .int .i64 (i1575 : Int)), (98, adr v107 (i1575 * 1)), (101, adr v2086 (((0 : Int)).toNat * 1)), (109, rowv V1824 i1575), (114, v2222)]) (L' := [imm (TR.sl (TR.rec1 (TR.sl TR.int))) v0 x0, own 3 TR.int v46 y44.1, own2 22 3 TR.int v107 V1822 l1821, own2 22 3 TR.int v106 V1824 l1823, own 3 TR.int v2086 y2084.1, own 3 TR.int v2222 ([wsub 0 y2212] : (List Int))]) (fun _ _ st => st) ?_
       refine RA.many [7, 10] (by kernel_rfl) ⟨⟨_, rfl, ?_⟩, ⟨_, rfl, ?_⟩, trivial⟩
       ·skip
        refine RL.ldR (i := i1575) (r := y2206) 2 Try_ln22 rfl rfl rfl rfl (idx_some e2207).2.2 ?_
        refine RL.fin ?_
        refine RA.next ?_
        refine RA.relist 9 #[true, true, true, true, true, true, true, true, true, true, false, false, false, false, true, true, true, true, true, true, true, true, true, false, false, false, false, false] rfl (by kernel_rfl) ?_
        exact fun a w st => h2247 v2222 a w (St.cut [0, 1, 2, 3, 4, 5] ⟨rfl, rfl, rfl, rfl, rfl, rfl, rfl, rfl, rfl, rfl, rfl, rfl, rfl, rfl, rfl, rfl, rfl, trivial⟩ (by decide) rfl st)
       refine RL.ldSx (i := ((0 : Int)).toNat) (e' := y2208) 4 Ex.ik Try_ln3 rfl rfl rfl rfl SlOf.own (idx_some e2209).2.2 Part.self ?_
       refine RL.fin ?_
       refine RA.next ?_
       refine RA.negI 11 rfl (by kernel_rfl) rfl rfl rfl ?_
       refine RA.relist 8 #[true, true, true, true, true, true, true, false, true, true, true, true, false, false, true, true, true, true, true, true, true, true, true, false, false, false, false, false] rfl (by kernel_rfl) ?_
       exact fun a w st => h2243 v2222 a w (St.cut [0, 1, 2, 3, 5] ⟨rfl, rfl, rfl, rfl, rfl, rfl, rfl, rfl, rfl, rfl, rfl, rfl, rfl, rfl, rfl, rfl, rfl, trivial⟩ (by decide) rfl st)
      refine RA.meet (ι := Unit) (fun (p : Unit) => [(0, v0), (6, v46), (9, v107), (10, v106), (11, .int .i64 (i1575 : Int)), (68, .int .i64 ((x0).length : Int)), (69, .int .i64 (i1575 : Int)), (73, .int .i64 ((x0).length : Int)), (74, .int .i64 (i2065 : Int)), (92, v107), (93, .int .i64 (i1575 : Int)), (94, v106), (95, .int .i64 (i1575 : Int)), (99, rowv V1822 i1575), (103, .int .i64 (wsub 0 y2208)), (109, rowv V1824 i1575), (111, adr v2086 (((1 : Int)).toNat * 1))]) (fun (p : Unit) => [imm (TR.sl (TR.rec1 (TR.sl TR.int))) v0 x0, own 3 TR.int v46 y44.1, own2 22 3 TR.int v107 V1822 l1821, own2 22 3 TR.int v106 V1824 l1823, own 3 TR.int v2086 y2084.1]) 10 #[true, true, true, true, true, true, true, true, true, true, true, true, false, false, true, true, true, true, true, true, false, false, false, false, false, false, false, false] (fun h2255 => ?_) ?_
      rotate_left
      ·rintro ⟨⟩
       refine RA.weak (env' := [(0, v0), (6, v46), (9, v107), (10, v106), (11, .int .i64 (i1575 : Int)), (68, .int .i64 ((x0).length : Int)), (69, .int .i64 (i1575 : Int)), (73, .int .i64 ((x0).length : Int)), (74, .int .i64 (i2065 : Int)), (92, v107), (93, .int .i64 (i1575 : Int)), (94, v106), (95, .int .i64 (i1575 : Int)), (99, rowv V1822 i1575), (103, .int .i64 (wsub 0 y2208)), (109, rowv V1824 i1575), (111, adr v2086 (((1 : Int)).toNat * 1))]) (L' := [imm (TR.sl (TR.rec1 (TR.sl TR.int))) v0 x0, own 3 TR.int v46 y44.1, own2 22 3 TR.int v107 V1822 l1821, own2 22 3 TR.int v106 V1824 l1823, own 3 TR.int v2086 y2084.1]) (fun _ _ st => st) ?_
       refine RA.many [12, 20] (by kernel_rfl) ⟨⟨_, rfl, ?_⟩, ⟨_, rfl, ?_⟩, trivial⟩
       ·skip
        refine RL.bS (t := TR.int) (vs := [.int .i64 (wsub 0 y2208)]) ([wsub 0 y2208] : (List Int)) Try.underlying22 Try_lo3 rfl rfl rfl rfl ⟨VR.int, trivial⟩ rfl (by decide) ?_
        intro v2282
        refine RL.fin ?_
        refine RA.next ?_
        refine RA.relist 9 #[true, true, true, true, true, true, true, true, true, true, true, true, true, false, true, true, true, true, true, true, false, false, false, false, false, false, false, false] rfl (by kernel_rfl) ?_
        exact fun a w st => h2248 v2282 a w (St.cut [0, 1, 2, 3, 5, 4] ⟨rfl, rfl, rfl, rfl, rfl, rfl, rfl, rfl, rfl, rfl, rfl, rfl, rfl, rfl, rfl, rfl, rfl, trivial⟩ (by decide) rfl st)
       refine RL.ldSx (i := ((1 : Int)).toNat) (e' := y2212) 4 Ex.ik Try_ln3 rfl rfl rfl rfl SlOf.own (idx_some e2213).2.2 Part.self ?_
       refine RL.fin ?_
       refine RA.next ?_
       refine RA.negI 21 rfl (by kernel_rfl) rfl rfl rfl ?_
       refine RA.relist 8 #[true, true, true, true, true, true, true, true, true, true, true, true, false, false, true, true, true, true, true, true, true, true, false, false, false, false, false, false] rfl (by kernel_rfl) ?_
       exact fun a w st => h2241 () a w (St.cut [0, 1, 2, 3] ⟨rfl, rfl, rfl, rfl, rfl, rfl, rfl, rfl, rfl, rfl, rfl, rfl, rfl, rfl, rfl, rfl, rfl, trivial⟩ (by decide) rfl st)
      refine RA.meet (ι := Value) (fun (p : Value) => [(0, v0), (6, v46), (9, v107), (10, v106), (11, .int .i64 (i1575 : Int)), (68, .int .i64 ((x0).length : Int)), (69, .int .i64 (i1575 : Int)), (73, .int .i64 ((x0).length : Int)), (74, .int .i64 (i2065 : Int)), (92, v107), (93, .int .i64 (i1575 : Int)), (94, v106), (95, .int .i64 (i1575 : Int)), (99, rowv V1822 i1575), (104, p), (108, adr v106 (i1575 * 1)), (111, adr v2086 (((1 : Int)).toNat * 1))]) (fun (p : Value) => [imm (TR.sl (TR.rec1 (TR.sl TR.int))) v0 x0, own 3 TR.int v46 y44.1, own2 22 3 TR.int v107 V1822 l1821, own2 22 3 TR.int v106 V1824 l1823, own 3 TR.int p ([wsub 0 y2208] : (List Int)), own 3 TR.int v2086 y2084.1]) 10 #[true, true, true, true, true, true, true, true, true, true, true, true, true, false, true, true, true, false, true, true, false, false, false, false, false, false, false, false] (fun h2256 => ?_) ?_
      rotate_left
      ·rintro v2219
       refine RA.weak (env' := [(0, v0), (6, v46), (9, v107), (10, v106), (11, .int .i64 (i1575 : Int)), (68, .int .i64 ((x0).length : Int)), (69, .int .i64 (i1575 : Int)), (73, .int .i64 ((x0).length : Int)), (74, .int .i64 (i2065 : Int)), (92, v107), (93, .int .i64 (i1575 : Int)), (94, v106), (95, .int .i64 (i1575 : Int)), (99, rowv V1822 i1575), (104, v2219), (108, adr v106 (i1575 * 1)), (111, adr v2086 (((1 : Int)).toNat * 1))]) (L' := [imm (TR.sl (TR.rec1 (TR.sl TR.int))) v0 x0, own 3 TR.int v46 y44.1, own2 22 3 TR.int v107 V1822 l1821, own2 22 3 TR.int v106 V1824 l1823, own 3 TR.int v2219 ([wsub 0 y2208] : (List Int)), own 3 TR.int v2086 y2084.1]) (fun _ _ st => st) ?_
       refine RA.many [13, 17, 20] (by kernel_rfl) ⟨⟨_, rfl, ?_⟩, ⟨_, rfl, ?_⟩, ⟨_, rfl, ?_⟩, trivial⟩
       ·skip
        refine RL.weak (fun a w st => st.takeRow 2 rfl (idx_some e2207).2.2) ?_
        refine RL.app 6 4 Try.underlying22 Try_lo3 rfl rfl rfl rfl rfl rfl rfl SlOf.own e2216 ?_
        intro v2281
        refine RL.fin ?_
        refine RA.next ?_
        refine RA.relist 9 #[true, true, true, true, true, true, true, true, true, true, true, true, true, true, true, true, true, false, true, true, false, false, false, false, false, false, false, false] rfl (by kernel_rfl) ?_
        exact fun a w st => h2250 v2281 a w (St.cut [0, 1, 2, 3, 6, 5] ⟨rfl, rfl, rfl, rfl, rfl, rfl, rfl, rfl, rfl, rfl, rfl, rfl, rfl, rfl, rfl, rfl, trivial⟩ (by decide) rfl st)
       ·skip
        refine RL.ldR (i := i1575) (r := y2210) 3 Try_ln22 rfl rfl rfl rfl (idx_some e2211).2.2 ?_
        refine RL.fin ?_
        refine RA.next ?_
        refine RA.relist 9 #[true, true, true, true, true, true, true, true, true, true, true, true, true, false, true, true, true, true, true, true, false, false, false, false, false, false, false, false] rfl (by kernel_rfl) ?_
        exact fun a w st => h2248 v2219 a w (St.cut [0, 1, 2, 3, 4, 5] ⟨rfl, rfl, rfl, rfl, rfl, rfl, rfl, rfl, rfl, rfl, rfl, rfl, rfl, rfl, rfl, rfl, rfl, trivial⟩ (by decide) rfl st)
       refine RL.ldSx (i := ((1 : Int)).toNat) (e' := y2212) 5 Ex.ik Try_ln3 rfl rfl rfl rfl SlOf.own (idx_some e2213).2.2 Part.self ?_
       refine RL.fin ?_
       refine RA.next ?_
       refine RA.negI 21 rfl (by kernel_rfl) rfl rfl rfl ?_
       refine RA.relist 8 #[true, true, true, true, true, true, true, true, true, true, true, true, true, false, true, true, true, false, true, true, true, true, false, false, false, false, false, false] rfl (by kernel_rfl) ?_
       exact fun a w st => h2240 v2219 a w (St.cut [0, 1, 2, 3, 4] ⟨rfl, rfl, rfl, rfl, rfl, rfl, rfl, rfl, rfl, rfl, rfl, rfl, rfl, rfl, rfl, rfl, rfl, trivial⟩ (by decide) rfl st)
      refine RA.meet (ι := Unit) (fun (p : Unit) => [(0, v0), (6, v46), (9, v107), (10, v106), (11, .int .i64 (i1575 : Int)), (68, .int .i64 ((x0).length : Int)), (69, .int .i64 (i1575 : Int)), (73, .int .i64 ((x0).length : Int)), (74, .int .i64 (i2065 : Int)), (92, v107), (93, .int .i64 (i1575 : Int)), (94, v106), (95, .int .i64 (i1575 : Int)), (98, adr v107 (i1575 * 1)), (103, .int .i64 (wsub 0 y2208)), (108, adr v106 (i1575 * 1)), (113, .int .i64 (wsub 0 y2212))]) (fun (p : Unit) => [imm (TR.sl (TR.rec1 (TR.sl TR.int))) v0 x0, own 3 TR.int v46 y44.1, own2 22 3 TR.int v107 V1822 l1821, own2 22 3 TR.int v106 V1824 l1823]) 10 #[true, true, true, true, true, true, true, false, true, true, true, true, false, false, true, true, true, false, true, true, true, true, false, false, false, false, false, false] (fun h2257 => ?_) ?_
      rotate_left
      ·rintro ⟨⟩
       refine RA.weak (env' := [(0, v0), (6, v46), (9, v107), (10, v106), (11, .int .i64 (i1575 : Int)), (68, .int .i64 ((x0).length : Int)), (69, .int .i64 (i1575 : Int)), (73, .int .i64 ((x0).length : Int)), (74, .int .i64 (i2065 : Int)), (92, v107), (93, .int .i64 (i1575 : Int)), (94, v106), (95, .int .i64 (i1575 : Int)), (98, adr v107 (i1575 * 1)), (103, .int .i64 (wsub 0 y2208)), (108, adr v106 (i1575 * 1)), (113, .int .i64 (wsub 0 y2212))]) (L' := [imm (TR.sl (TR.rec1 (TR.sl TR.int))) v0 x0, own 3 TR.int v46 y44.1, own2 22 3 TR.int v107 V1822 l1821, own2 22 3 TR.int v106 V1824 l1823]) (fun _ _ st => st) ?_
       refine RA.many [7, 12, 17, 22] (by kernel_rfl) ⟨⟨_, rfl, ?_⟩, ⟨_, rfl, ?_⟩, ⟨_, rfl, ?_⟩, ⟨_, rfl, ?_⟩, trivial⟩
       ·skip
        refine RL.ldR (i := i1575) (r := y2206) 2 Try_ln22 rfl rfl rfl rfl (idx_some e2207).2.2 ?_
        refine RL.fin ?_
        refine RA.next ?_
        refine RA.relist 9 #[true, true, true, true, true, true, true, true, true, true, true, true, false, false, true, true, true, false, true, true, true, true, false, false, false, false, false, false] rfl (by kernel_rfl) ?_
        exact fun a w st => h2249 () a w (St.cut [0, 1, 2, 3] ⟨rfl, rfl, rfl, rfl, rfl, rfl, rfl, rfl, rfl, rfl, rfl, rfl, rfl, rfl, rfl, rfl, rfl, trivial⟩ (by decide) rfl st)
       ·skip
        refine RL.bS (t := TR.int) (vs := [.int .i64 (wsub 0 y2208)]) ([wsub 0 y2208] : (List Int)) Try.underlying22 Try_lo3 rfl rfl rfl rfl ⟨VR.int, trivial⟩ rfl (by decide) ?_
        intro v2279
        refine RL.fin ?_
        refine RA.next ?_
        refine RA.relist 9 #[true, true, true, true, true, true, true, false, true, true, true, true, true, false, true, true, true, false, true, true, true, true, false, false, false, false, false, false] rfl (by kernel_rfl) ?_
        exact fun a w st => h2251 v2279 a w (St.cut [0, 1, 2, 3, 4] ⟨rfl, rfl, rfl, rfl, rfl, rfl, rfl, rfl, rfl, rfl, rfl, rfl, rfl, rfl, rfl, rfl, rfl, trivial⟩ (by decide) rfl st)
       ·skip
        refine RL.ldR (i := i1575) (r := y2210) 3 Try_ln22 rfl rfl rfl rfl (idx_some e2211).2.2 ?_
        refine RL.fin ?_
        refine RA.next ?_
        refine RA.relist 9 #[true, true, true, true, true, true, true, false, true, true, true, true, false, false, true, true, true, true, true, true, true, true, false, false, false, false, false, false] rfl (by kernel_rfl) ?_
        exact fun a w st => h2252 () a w (St.cut [0, 1, 2, 3] ⟨rfl, rfl, rfl, rfl, rfl, rfl, rfl, rfl, rfl, rfl, rfl, rfl, rfl, rfl, rfl, rfl, rfl, trivial⟩ (by decide) rfl st)
       refine RL.bS (t := TR.int) (vs := [.int .i64 (wsub 0 y2212)]) ([wsub 0 y2212] : (List Int)) Try.underlying22 Try_lo3 rfl rfl rfl rfl ⟨VR.int, trivial⟩ rfl (by decide) ?_
       intro v2280
       refine RL.fin ?_
       refine RA.next ?_
       refine RA.relist 9 #[true, true, true, true, true, true, true, false, true, true, true, true, false, false, true, true, true, false, true, true, true, true, true, false, false, false, false, false] rfl (by kernel_rfl) ?_
       exact fun a w st => h2253 v2280 a w (St.cut [0, 1, 2, 3, 4] ⟨rfl, rfl, rfl, rfl, rfl, rfl, rfl, rfl, rfl, rfl, rfl, rfl, rfl, rfl, rfl, rfl, rfl, trivial⟩ (by decide) rfl st)
      refine RA.meet (ι := Unit) (fun (p : Unit) => [(0, v0), (6, v46), (9, v107), (10, v106), (11, .int .i64 (i1575 : Int)), (68, .int .i64 ((x0).length : Int)), (69, .int .i64 (i1575 : Int)), (73, .int .i64 ((x0).length : Int)), (74, .int .i64 (i2065 : Int)), (92, v107), (93, .int .i64 (i1575 : Int)), (94, v106), (95, .int .i64 (i1575 : Int)), (99, rowv V1822 i1575), (101, adr v2086 (((0 : Int)).toNat * 1)), (109, rowv V1824 i1575), (113, .int .i64 (wsub 0 y2212))]) (fun (p : Unit) => [imm (TR.sl (TR.rec1 (TR.sl TR.int))) v0 x0, own 3 TR.int v46 y44.1, own2 22 3 TR.int v107 V1822 l1821, own2 22 3 TR.int v106 V1824 l1823, own 3 TR.int v2086 y2084.1]) 10 #[true, true, true, true, true, true, true, true, true, true, false, false, false, false, true, true, true, true, true, true, true, true, false, false, false, false, false, false] (fun h2258 => ?_) ?_
      rotate_left
      ·rintro ⟨⟩
       refine RA.weak (env' := [(0, v0), (6, v46), (9, v107), (10, v106), (11, .int .i64 (i1575 : Int)), (68, .int .i64 ((x0).length : Int)), (69, .int .i64 (i1575 : Int)), (73, .int .i64 ((x0).length : Int)), (74, .int .i64 (i2065 : Int)), (92, v107), (93, .int .i64 (i1575 : Int)), (94, v106), (95, .int .i64 (i1575 : Int)), (99, rowv V1822 i1575), (101, adr v2086 (((0 : Int)).toNat * 1)), (109, rowv V1824 i1575), (113, .int .i64 (wsub 0 y2212))]) (L' := [imm (TR.sl (TR.rec1 (TR.sl TR.int))) v0 x0, own 3 TR.int v46 y44.1, own2 22 3 TR.int v107 V1822 l1821, own2 22 3 TR.int v106 V1824 l1823, own 3 TR.int v2086 y2084.1]) (fun _ _ st => st) ?_
       refine RA.many [10, 22] (by kernel_rfl) ⟨⟨_, rfl, ?_⟩, ⟨_, rfl, ?_⟩, trivial⟩
       ·skip
        refine RL.ldSx (i := ((0 : Int)).toNat) (e' := y2208) 4 Ex.ik Try_ln3 rfl rfl rfl rfl SlOf.own (idx_some e2209).2.2 Part.self ?_
        refine RL.fin ?_
        refine RA.next ?_
        refine RA.negI 11 rfl (by kernel_rfl) rfl rfl rfl ?_
        refine RA.relist 8 #[true, true, true, true, true, true, true, true, true, true, true, true, false, false, true, true, true, true, true, true, true, true, false, false, false, false, false, false] rfl (by kernel_rfl) ?_
        exact fun a w st => h2241 () a w (St.cut [0, 1, 2, 3] ⟨rfl, rfl, rfl, rfl, rfl, rfl, rfl, rfl, rfl, rfl, rfl, rfl, rfl, rfl, rfl, rfl, rfl, trivial⟩ (by decide) rfl st)
       refine RL.bS (t := TR.int) (vs := [.int .i64 (wsub 0 y2212)]) ([wsub 0 y2212] : (List Int)) Try.underlying22 Try_lo3 rfl rfl rfl rfl ⟨VR.int, trivial⟩ rfl (by decide) ?_
       intro v2278
       refine RL.fin ?_
       refine RA.next ?_
       refine RA.relist 9 #[true, true, true, true, true, true, true, true, true, true, false, false, false, false, true, true, true, true, true, true, true, true, true, false, false, false, false, false] rfl (by kernel_rfl) ?_
       exact fun a w st => h2247 v2278 a w (St.cut [0, 1, 2, 3, 4, 5] ⟨rfl, rfl, rfl, rfl, rfl, rfl, rfl, rfl, rfl, rfl, rfl, rfl, rfl, rfl, rfl, rfl, rfl, trivial⟩ (by decide) rfl st)
      refine RA.meet (ι := Value) (fun (p : Value) => [(0, v0), (6, v46), (9, v107), (10, v106), (11, .int .i64 (i1575 : Int)), (68, .int .i64 ((x0).length : Int)), (69, .int .i64 (i1575 : Int)), (73, .int .i64 ((x0).length : Int)), (74, .int .i64 (i2065 : Int)), (92, v107), (93, .int .i64 (i1575 : Int)), (94, v106), (95, .int .i64 (i1575 : Int)), (99, rowv V1822 i1575), (101, adr v2086 (((0 : Int)).toNat * 1)), (108, adr v106 (i1575 * 1)), (114, p)]) (fun (p : Value) => [imm (TR.sl (TR.rec1 (TR.sl TR.int))) v0 x0, own 3 TR.int v46 y44.1, own2 22 3 TR.int v107 V1822 l1821, own2 22 3 TR.int v106 V1824 l1823, own 3 TR.int v2086 y2084.1, own 3 TR.int p ([wsub 0 y2212] : (List Int))]) 10 #[true, true, true, true, true, true, true, true, true, true, false, false, false, false, true, true, true, false, true, true, true, true, true, false, false, false, false, false] (fun h2259 => ?_) ?_
      rotate_left
      ·rintro v2220
       refine RA.weak (env' := [(0, v0), (6, v46), (9, v107), (10, v106), (11, .int .i64 (i1575 : Int)), (68, .int .i64 ((x0).length : Int)), (69, .int .i64 (i1575 : Int)), (73, .int .i64 ((x0).length : Int)), (74, .int .i64 (i2065 : Int)), (92, v107), (93, .int .i64 (i1575 : Int)), (94, v106), (95, .int .i64 (i1575 : Int)), (99, rowv V1822 i1575), (101, adr v2086 (((0 : Int)).toNat * 1)), (108, adr v106 (i1575 * 1)), (114, v2220)]) (L' := [imm (TR.sl (TR.rec1 (TR.sl TR.int))) v0 x0, own 3 TR.int v46 y44.1, own2 22 3 TR.int v107 V1822 l1821, own2 22 3 TR.int v106 V1824 l1823, own 3 TR.int v2086 y2084.1, own 3 TR.int v2220 ([wsub 0 y2212] : (List Int))]) (fun _ _ st => st) ?_
       refine RA.many [10, 17] (by kernel_rfl) ⟨⟨_, rfl, ?_⟩, ⟨_, rfl, ?_⟩, trivial⟩
       ·skip
        refine RL.ldSx (i := ((0 : Int)).toNat) (e' := y2208) 4 Ex.ik Try_ln3 rfl rfl rfl rfl SlOf.own (idx_some e2209).2.2 Part.self ?_
        refine RL.fin ?_
        refine RA.next ?_
        refine RA.negI 11 rfl (by kernel_rfl) rfl rfl rfl ?_
        refine RA.relist 8 #[true, true, true, true, true, true, true, true, true, true, true, true, false, false, true, true, true, false, true, true, true, true, true, false, false, false, false, false] rfl (by kernel_rfl) ?_
        exact fun a w st => h2245 v2220 a w (St.cut [0, 1, 2, 3, 5] ⟨rfl, rfl, rfl, rfl, rfl, rfl, rfl, rfl, rfl, rfl, rfl, rfl, rfl, rfl, rfl, rfl, rfl, trivial⟩ (by decide) rfl st)
       refine RL.ldR (i := i1575) (r := y2210) 3 Try_ln22 rfl rfl rfl rfl (idx_some e2211).2.2 ?_
       refine RL.fin ?_
       refine RA.next ?_
       refine RA.relist 9 #[true, true, true, true, true, true, true, true, true, true, false, false, false, false, true, true, true, true, true, true, true, true, true, false, false, false, false, false] rfl (by kernel_rfl) ?_
       exact fun a w st => h2247 v2220 a w (St.cut [0, 1, 2, 3, 4, 5] ⟨rfl, rfl, rfl, rfl, rfl, rfl, rfl, rfl, rfl, rfl, rfl, rfl, rfl, rfl, rfl, rfl, rfl, trivial⟩ (by decide) rfl st)
      refine RA.meet (ι := Value) (fun (p : Value) => [(0, v0), (6, v46), (9, v107), (10, v106), (11, .int .i64 (i1575 : Int)), (68, .int .i64 ((x0).length : Int)), (69, .int .i64 (i1575 : Int)), (73, .int .i64 ((x0).length : Int)), (74, .int .i64 (i2065 : Int)), (92, v107), (93, .int .i64 (i1575 : Int)), (94, v106), (95, .int .i64 (i1575 : Int)), (98, adr v107 (i1575 * 1)), (104, p), (109, rowv V1824 i1575), (111, adr v2086 (((1 : Int)).toNat * 1))]) (fun (p : Value) => [imm (TR.sl (TR.rec1 (TR.sl TR.int))) v0 x0, own 3 TR.int v46 y44.1, own2 22 3 TR.int v107 V1822 l1821, own2 22 3 TR.int v106 V1824 l1823, own 3 TR.int p ([wsub 0 y2208] : (List Int)), own 3 TR.int v2086 y2084.1]) 10 #[true, true, true, true, true, true, true, false, true, true, true, true, true, false, true, true, true, true, true, true, false, false, false, false, false, false, false, false] (fun h2260 => ?_) ?_
      rotate_left
      ·rintro v2221
       refine RA.weak (env' := [(0, v0), (6, v46), (9, v107), (10, v106), (11, .int .i64 (i1575 : Int)), (68, .int .i64 ((x0).length : Int)), (69, .int .i64 (i1575 : Int)), (73, .int .i64 ((x0).length : Int)), (74, .int .i64 (i2065 : Int)), (92, v107), (93, .int .i64 (i1575 : Int)), (94, v106), (95, .int .i64 (i1575 : Int)), (98, adr v107 (i1575 * 1)), (104, v2221), (109, rowv V1824 i1575), (111, adr v2086 (((1 : Int)).toNat * 1))]) (L' := [imm (TR.sl (TR.rec1 (TR.sl TR.int))) v0 x0, own 3 TR.int v46 y44.1, own2 22 3 TR.int v107 V1822 l1821, own2 22 3 TR.int v106 V1824 l1823, own 3 TR.int v2221 ([wsub 0 y2208] : (List Int)), own 3 TR.int v2086 y2084.1]) (fun _ _ st => st) ?_
       refine RA.many [7, 20] (by kernel_rfl) ⟨⟨_, rfl, ?_⟩, ⟨_, rfl, ?_⟩, trivial⟩
       ·skip
        refine RL.ldR (i := i1575) (r := y2206) 2 Try_ln22 rfl rfl rfl rfl (idx_some e2207).2.2 ?_
        refine RL.fin ?_
        refine RA.next ?_
        refine RA.relist 9 #[true, true, true, true, true, true, true, true, true, true, true, true, true, false, true, true, true, true, true, true, false, false, false, false, false, false, false, false] rfl (by kernel_rfl) ?_
        exact fun a w st => h2248 v2221 a w (St.cut [0, 1, 2, 3, 4, 5] ⟨rfl, rfl, rfl, rfl, rfl, rfl, rfl, rfl, rfl, rfl, rfl, rfl, rfl, rfl, rfl, rfl, rfl, trivial⟩ (by decide) rfl st)
       refine RL.ldSx (i := ((1 : Int)).toNat) (e' := y2212) 5 Ex.ik Try_ln3 rfl rfl rfl rfl SlOf.own (idx_some e2213).2.2 Part.self ?_
       refine RL.fin ?_
       refine RA.next ?_
       refine RA.negI 21 rfl (by kernel_rfl) rfl rfl rfl ?_
       refine RA.relist 8 #[true, true, true, true, true, true, true, false, true, true, true, true, true, false, true, true, true, true, true, true, true, true, false, false, false, false, false, false] rfl (by kernel_rfl) ?_
       exact fun a w st => h2244 v2221 a w (St.cut [0, 1, 2, 3, 4] ⟨rfl, rfl, rfl, rfl, rfl, rfl, rfl, rfl, rfl, rfl, rfl, rfl, rfl, rfl, rfl, rfl, rfl, trivial⟩ (by decide) rfl st)
      refine RA.meet (ι := Unit) (fun (p : Unit) => [(0, v0), (6, v46), (9, v107), (10, v106), (11, .int .i64 (i1575 : Int)), (68, .int .i64 ((x0).length : Int)), (69, .int .i64 (i1575 : Int)), (73, .int .i64 ((x0).length : Int)), (74, .int .i64 (i2065 : Int)), (92, v107), (93, .int .i64 (i1575 : Int)), (94, v106), (95, .int .i64 (i1575 : Int)), (98, adr v107 (i1575 * 1)), (103, .int .i64 (wsub 0 y2208)), (109, rowv V1824 i1575), (111, adr v2086 (((1 : Int)).toNat * 1))]) (fun (p : Unit) => [imm (TR.sl (TR.rec1 (TR.sl TR.int))) v0 x0, own 3 TR.int v46 y44.1, own2 22 3 TR.int v107 V1822 l1821, own2 22 3 TR.int v106 V1824 l1823, own 3 TR.int v2086 y2084.1]) 11 #[true, true, true, true, true, true, true, false, true, true, true, true, false, false, true, true, true, true, true, true, false, false, false, false, false, false, false, false] (fun h2261 => ?_) ?_
      rotate_left
      ·rintro ⟨⟩
       refine RA.weak (env' := [(0, v0), (6, v46), (9, v107), (10, v106), (11, .int .i64 (i1575 : Int)), (68, .int .i64 ((x0).length : Int)), (69, .int .i64 (i1575 : Int)), (73, .int .i64 ((x0).length : Int)), (74, .int .i64 (i2065 : Int)), (92, v107), (93, .int .i64 (i1575 : Int)), (94, v106), (95, .int .i64 (i1575 : Int)), (98, adr v107 (i1575 * 1)), (103, .int .i64 (wsub 0 y2208)), (109, rowv V1824 i1575), (111, adr v2086 (((1 : Int)).toNat * 1))]) (L' := [imm (TR.sl (TR.rec1 (TR.sl TR.int))) v0 x0, own 3 TR.int v46 y44.1, own2 22 3 TR.int v107 V1822 l1821, own2 22 3 TR.int v106 V1824 l1823, own 3 TR.int v2086 y2084.1]) (fun _ _ st => st) ?_
       refine RA.many [7, 12, 20] (by kernel_rfl) ⟨⟨_, rfl, ?_⟩, ⟨_, rfl, ?_⟩, ⟨_, rfl, ?_⟩, trivial⟩
       ·skip
        refine RL.ldR (i := i1575) (r := y2206) 2 Try_ln22 rfl rfl rfl rfl (idx_some e2207).2.2 ?_
        refine RL.fin ?_
        refine RA.next ?_
        refine RA.relist 10 #[true, true, true, true, true, true, true, true, true, true, true, true, false, false, true, true, true, true, true, true, false, false, false, false, false, false, false, false] rfl (by kernel_rfl) ?_
        exact fun a w st => h2255 () a w (St.cut [0, 1, 2, 3, 4] ⟨rfl, rfl, rfl, rfl, rfl, rfl, rfl, rfl, rfl, rfl, rfl, rfl, rfl, rfl, rfl, rfl, rfl, trivial⟩ (by decide) rfl st)
       ·skip
        refine RL.bS (t := TR.int) (vs := [.int .i64 (wsub 0 y2208)]) ([wsub 0 y2208] : (List Int)) Try.underlying22 Try_lo3 rfl rfl rfl rfl ⟨VR.int, trivial⟩ rfl (by decide) ?_
        intro v2277
        refine RL.fin ?_
        refine RA.next ?_
        refine RA.relist 10 #[true, true, true, true, true, true, true, false, true, true, true, true, true, false, true, true, true, true, true, true, false, false, false, false, false, false, false, false] rfl (by kernel_rfl) ?_
        exact fun a w st => h2260 v2277 a w (St.cut [0, 1, 2, 3, 5, 4] ⟨rfl, rfl, rfl, rfl, rfl, rfl, rfl, rfl, rfl, rfl, rfl, rfl, rfl, rfl, rfl, rfl, rfl, trivial⟩ (by decide) rfl st)
       refine RL.ldSx (i := ((1 : Int)).toNat) (e' := y2212) 4 Ex.ik Try_ln3 rfl rfl rfl rfl SlOf.own (idx_some e2213).2.2 Part.self ?_
       refine RL.fin ?_
       refine RA.next ?_
       refine RA.negI 21 rfl (by kernel_rfl) rfl rfl rfl ?_
       refine RA.relist 9 #[true, true, true, true, true, true, true, false, true, true, true, true, false, false, true, true, true, true, true, true, true, true, false, false, false, false, false, false] rfl (by kernel_rfl) ?_
       exact fun a w st => h2252 () a w (St.cut [0, 1, 2, 3] ⟨rfl, rfl, rfl, rfl, rfl, rfl, rfl, rfl, rfl, rfl, rfl, rfl, rfl, rfl, rfl, rfl, rfl, trivial⟩ (by decide) rfl st)
      refine RA.meet (ι := Value) (fun (p : Value) => [(0, v0), (6, v46), (9, v107), (10, v106), (11, .int .i64 (i1575 : Int)), (68, .int .i64 ((x0).length : Int)), (69, .int .i64 (i1575 : Int)), (73, .int .i64 ((x0).length : Int)), (74, .int .i64 (i2065 : Int)), (92, v107), (93, .int .i64 (i1575 : Int)), (94, v106), (95, .int .i64 (i1575 : Int)), (98, adr v107 (i1575 * 1)), (104, p), (108, adr v106 (i1575 * 1)), (111, adr v2086 (((1 : Int)).toNat * 1))]) (fun (p : Value) => [imm (TR.sl (TR.rec1 (TR.sl TR.int))) v0 x0, own 3 TR.int v46 y44.1, own2 22 3 TR.int v107 V1822 l1821, own2 22 3 TR.int v106 V1824 l1823, own 3 TR.int p ([wsub 0 y2208] : (List Int)), own 3 TR.int v2086 y2084.1]) 11 #[true, true, true, true, true, true, true, false, true, true, true, true, true, false, true, true, true, false, true, true, false, false, false, false, false, false, false, false] (fun h2262 => ?_) ?_
      rotate_left
      ·rintro v2219
       refine RA.weak (env' := [(0, v0), (6, v46), (9, v107), (10, v106), (11, .int .i64 (i1575 : Int)), (68, .int .i64 ((x0).length : Int)), (69, .int .i64 (i1575 : Int)), (73, .int .i64 ((x0).length : Int)), (74, .int .i64 (i2065 : Int)), (92, v107), (93, .int .i64 (i1575 : Int)), (94, v106), (95, .int .i64 (i1575 : Int)), (98, adr v107 (i1575 * 1)), (104, v2219), (108, adr v106 (i1575 * 1)), (111, adr v2086 (((1 : Int)).toNat * 1))]) (L' := [imm (TR.sl (TR.rec1 (TR.sl TR.int))) v0 x0, own 3 TR.int v46 y44.1, own2 22 3 TR.int v107 V1822 l1821, own2 22 3 TR.int v106 V1824 l1823, own 3 TR.int v2219 ([wsub 0 y2208] : (List Int)), own 3 TR.int v2086 y2084.1]) (fun _ _ st => st) ?_
       refine RA.many [7, 17, 20] (by kernel_rfl) ⟨⟨_, rfl, ?_⟩, ⟨_, rfl, ?_⟩, ⟨_, rfl, ?_⟩, trivial⟩
       ·skip
        refine RL.ldR (i := i1575) (r := y2206) 2 Try_ln22 rfl rfl rfl rfl (idx_some e2207).2.2 ?_
        refine RL.fin ?_
        refine RA.next ?_
        refine RA.relist 10 #[true, true, true, true, true, true, true, true, true, true, true, true, true, false, true, true, true, false, true, true, false, false, false, false, false, false, false, false] rfl (by kernel_rfl) ?_
        exact fun a w st => h2256 v2219 a w (St.cut [0, 1, 2, 3, 4, 5] ⟨rfl, rfl, rfl, rfl, rfl, rfl, rfl, rfl, rfl, rfl, rfl, rfl, rfl, rfl, rfl, rfl, rfl, trivial⟩ (by decide) rfl st)
       ·skip
        refine RL.ldR (i := i1575) (r := y2210) 3 Try_ln22 rfl rfl rfl rfl (idx_some e2211).2.2 ?_
        refine RL.fin ?_
        refine RA.next ?_
        refine RA.relist 10 #[true, true, true, true, true, true, true, false, true, true, true, true, true, false, true, true, true, true, true, true, false, false, false, false, false, false, false, false] rfl (by kernel_rfl) ?_
        exact fun a w st => h2260 v2219 a w (St.cut [0, 1, 2, 3, 4, 5] ⟨rfl, rfl, rfl, rfl, rfl, rfl, rfl, rfl, rfl, rfl, rfl, rfl, rfl, rfl, rfl, rfl, rfl, trivial⟩ (by decide) rfl st)
       refine RL.ldSx (i := ((1 : Int)).toNat) (e' := y2212) 5 Ex.ik Try_ln3 rfl rfl rfl rfl SlOf.own (idx_some e2213).2.2 Part.self ?_
       refine RL.fin ?_
       refine RA.next ?_
       refine RA.negI 21 rfl (by kernel_rfl) rfl rfl rfl ?_
       refine RA.relist 9 #[true, true, true, true, true, true, true, false, true, true, true, true, true, false, true, true, true, false, true, true, true, true, false, false, false, false, false, false] rfl (by kernel_rfl) ?_
       exact fun a w st => h2251 v2219 a w (St.cut [0, 1, 2, 3, 4] ⟨rfl, rfl, rfl, rfl, rfl, rfl, rfl, rfl, rfl, rfl, rfl, rfl, rfl, rfl, rfl, rfl, rfl, trivial⟩ (by decide) rfl st)
      refine RA.meet (ι := Unit) (fun (p : Unit) => [(0, v0), (6, v46), (9, v107), (10, v106), (11, .int .i64 (i1575 : Int)), (68, .int .i64 ((x0).length : Int)), (69, .int .i64 (i1575 : Int)), (73, .int .i64 ((x0).length : Int)), (74, .int .i64 (i2065 : Int)), (92, v107), (93, .int .i64 (i1575 : Int)), (94, v106), (95, .int .i64 (i1575 : Int)), (98, adr v107 (i1575 * 1)), (101, adr v2086 (((0 : Int)).toNat * 1)), (109, rowv V1824 i1575), (113, .int .i64 (wsub 0 y2212))]) (fun (p : Unit) => [imm (TR.sl (TR.rec1 (TR.sl TR.int))) v0 x0, own 3 TR.int v46 y44.1, own2 22 3 TR.int v107 V1822 l1821, own2 22 3 TR.int v106 V1824 l1823, own 3 TR.int v2086 y2084.1]) 11 #[true, true, true, true, true, true, true, false, true, true, false, false, false, false, true, true, true, true, true, true, true, true, false, false, false, false, false, false] (fun h2263 => ?_) ?_
      rotate_left
      ·rintro ⟨⟩
       refine RA.weak (env' := [(0, v0), (6, v46), (9, v107), (10, v106), (11, .int .i64 (i1575 : Int)), (68, .int .i64 ((x0).length : Int)), (69, .int .i64 (i1575 : Int)), (73, .int .i64 ((x0).length : Int)), (74, .int .i64 (i2065 : Int)), (92, v107), (93, .int .i64 (i1575 : Int)), (94, v106), (95, .int .i64 (i1575 : Int)), (98, adr v107 (i1575 * 1)), (101, adr v2086 (((0 : Int)).toNat * 1)), (109, rowv V1824 i1575), (113, .int .i64 (wsub 0 y2212))]) (L' := [imm (TR.sl (TR.rec1 (TR.sl TR.int))) v0 x0, own 3 TR.int v46 y44.1, own2 22 3 TR.int v107 V1822 l1821, own2 22 3 TR.int v106 V1824 l1823, own 3 TR.int v2086 y2084.1]) (fun _ _ st => st) ?_
       refine RA.many [7, 10, 22] (by kernel_rfl) ⟨⟨_, rfl, ?_⟩, ⟨_, rfl, ?_⟩, ⟨_, rfl, ?_⟩, trivial⟩
       ·skip
        refine RL.ldR (i := i1575) (r := y2206) 2 Try_ln22 rfl rfl rfl rfl (idx_some e2207).2.2 ?_
        refine RL.fin ?_
        refine RA.next ?_
        refine RA.relist 10 #[true, true, true, true, true, true, true, true, true, true, false, false, false, false, true, true, true, true, true, true, true, true, false, false, false, false, false, false] rfl (by kernel_rfl) ?_
        exact fun a w st => h2258 () a w (St.cut [0, 1, 2, 3, 4] ⟨rfl, rfl, rfl, rfl, rfl, rfl, rfl, rfl, rfl, rfl, rfl, rfl, rfl, rfl, rfl, rfl, rfl, trivial⟩ (by decide) rfl st)
       ·skip
        refine RL.ldSx (i := ((0 : Int)).toNat) (e' := y2208) 4 Ex.ik Try_ln3 rfl rfl rfl rfl SlOf.own (idx_some e2209).2.2 Part.self ?_
        refine RL.fin ?_
        refine RA.next ?_
        refine RA.negI 11 rfl (by kernel_rfl) rfl rfl rfl ?_
        refine RA.relist 9 #[true, true, true, true, true, true, true, false, true, true, true, true, false, false, true, true, true, true, true, true, true, true, false, false, false, false, false, false] rfl (by kernel_rfl) ?_
        exact fun a w st => h2252 () a w (St.cut [0, 1, 2, 3] ⟨rfl, rfl, rfl, rfl, rfl, rfl, rfl, rfl, rfl, rfl, rfl, rfl, rfl, rfl, rfl, rfl, rfl, trivial⟩ (by decide) rfl st)
       refine RL.bS (t := TR.int) (vs := [.int .i64 (wsub 0 y2212)]) ([wsub 0 y2212] : (List Int)) Try.underlying22 Try_lo3 rfl rfl rfl rfl ⟨VR.int, trivial⟩ rfl (by decide) ?_
       intro v2276
       refine RL.fin ?_
       refine RA.next ?_
       refine RA.relist 10 #[true, true, true, true, true, true, true, false, true, true, false, false, false, false, true, true, true, true, true, true, true, true, true, false, false, false, false, false] rfl (by kernel_rfl) ?_
       exact fun a w st => h2254 v2276 a w (St.cut [0, 1, 2, 3, 4, 5] ⟨rfl, rfl, rfl, rfl, rfl, rfl, rfl, rfl, rfl, rfl, rfl, rfl, rfl, rfl, rfl, rfl, rfl, trivial⟩ (by decide) rfl st)
      refine RA.meet (ι := Value) (fun (p : Value) => [(0, v0), (6, v46), (9, v107), (10, v106), (11, .int .i64 (i1575 : Int)), (68, .int .i64 ((x0).length : Int)), (69, .int .i64 (i1575 : Int)), (73, .int .i64 ((x0).length : Int)), (74, .int .i64 (i2065 : Int)), (92, v107), (93, .int .i64 (i1575 : Int)), (94, v106), (95, .int .i64 (i1575 : Int)), (98, adr v107 (i1575 * 1)), (101, adr v2086 (((0 : Int)).toNat * 1)), (108, adr v106 (i1575 * 1)), (114, p)]) (fun (p : Value) => [imm (TR.sl (TR.rec1 (TR.sl TR.int))) v0 x0, own 3 TR.int v46 y44.1, own2 22 3 TR.int v107 V1822 l1821, own2 22 3 TR.int v106 V1824 l1823, own 3 TR.int v2086 y2084.1, own 3 TR.int p ([wsub 0 y2212] : (List Int))]) 11 #[true, true, true, true, true, true, true, false, true, true, false, false, false, false, true, true, true, false, true, true, true, true, true, false, false, false, false, false] (fun h2264 => ?_) ?_
      rotate_left
      ·rintro v2220
       refine RA.weak (env' := [(0, v0), (6, v46), (9, v107), (10, v106), (11, .int .i64 (i1575 : Int)), (68, .int .i64 ((x0).length : Int)), (69, .int .i64 (i1575 : Int)), (73, .int .i64 ((x0).length : Int)), (74, .int .i64 (i2065 : Int)), (92, v107), (93, .int .i64 (i1575 : Int)), (94, v106), (95, .int .i64 (i1575 : Int)), (98, adr v107 (i1575 * 1)), (101, adr v2086 (((0 : Int)).toNat * 1)), (108, adr v106 (i1575 * 1)), (114, v2220)]) (L' := [imm (TR.sl (TR.rec1 (TR.sl TR.int))) v0 x0, own 3 TR.int v46 y44.1, own2 22 3 TR.int v107 V1822 l1821, own2 22 3 TR.int v106 V1824 l1823, own 3 TR.int v2086 y2084.1, own 3 TR.int v2220 ([wsub 0 y2212] : (List Int))]) (fun _ _ st => st) ?_
       refine RA.many [7, 10, 17] (by kernel_rfl) ⟨⟨_, rfl, ?_⟩, ⟨_, rfl, ?_⟩, ⟨_, rfl, ?_⟩, trivial⟩
       ·skip
        refine RL.ldR (i := i1575) (r := y2206) 2 Try_ln22 rfl rfl rfl rfl (idx_some e2207).2.2 ?_
        refine RL.fin ?_
        refine RA.next ?_
        refine RA.relist 10 #[true, true, true, true, true, true, true, true, true, true, false, false, false, false, true, true, true, false, true, true, true, true, true, false, false, false, false, false] rfl (by kernel_rfl) ?_
        exact fun a w st => h2259 v2220 a w (St.cut [0, 1, 2, 3, 4, 5] ⟨rfl, rfl, rfl, rfl, rfl, rfl, rfl, rfl, rfl, rfl, rfl, rfl, rfl, rfl, rfl, rfl, rfl, trivial⟩ (by decide) rfl st)
       ·skip
        refine RL.ldSx (i := ((0 : Int)).toNat) (e' := y2208) 4 Ex.ik Try_ln3 rfl rfl rfl rfl SlOf.own (idx_some e2209).2.2 Part.self ?_
        refine RL.fin ?_
        refine RA.next ?_
        refine RA.negI 11 rfl (by kernel_rfl) rfl rfl rfl ?_
        refine RA.relist 9 #[true, true, true, true, true, true, true, false, true, true, true, true, false, false, true, true, true, false, true, true, true, true, true, false, false, false, false, false] rfl (by kernel_rfl) ?_
        exact fun a w st => h2253 v2220 a w (St.cut [0, 1, 2, 3, 5] ⟨rfl, rfl, rfl, rfl, rfl, rfl, rfl, rfl, rfl, rfl, rfl, rfl, rfl, rfl, rfl, rfl, rfl, trivial⟩ (by decide) rfl st)
       refine RL.ldR (i := i1575) (r := y2210) 3 Try_ln22 rfl rfl rfl rfl (idx_some e2211).2.2 ?_
       refine RL.fin ?_
       refine RA.next ?_
       refine RA.relist 10 #[true, true, true, true, true, true, true, false, true, true, false, false, false, false, true, true, true, true, true, true, true, true, true, false, false, false, false, false] rfl (by kernel_rfl) ?_
       exact fun a w st => h2254 v2220 a w (St.cut [0, 1, 2, 3, 4, 5] ⟨rfl, rfl, rfl, rfl, rfl, rfl, rfl, rfl, rfl, rfl, rfl, rfl, rfl, rfl, rfl, rfl, rfl, trivial⟩ (by decide) rfl st)
      refine RA.meet (ι := Unit) (fun (p : Unit) => [(0, v0), (6, v46), (9, v107), (10, v106), (11, .int .i64 (i1575 : Int)), (68, .int .i64 ((x0).length : Int)), (69, .int .i64 (i1575 : Int)), (73, .int .i64 ((x0).length : Int)), (74, .int .i64 (i2065 : Int)), (92, v107), (93, .int .i64 (i1575 : Int)), (94, v106), (95, .int .i64 (i1575 : Int)), (99, rowv V1822 i1575), (103, .int .i64 (wsub 0 y2208)), (108, adr v106 (i1575 * 1)), (111, adr v2086 (((1 : Int)).toNat * 1))]) (fun (p : Unit) => [imm (TR.sl (TR.rec1 (TR.sl TR.int))) v0 x0, own 3 TR.int v46 y44.1, own2 22 3 TR.int v107 V1822 l1821, own2 22 3 TR.int v106 V1824 l1823, own 3 TR.int v2086 y2084.1]) 11 #[true, true, true, true, true, true, true, true, true, true, true, true, false, false, true, true, true, false, true, true, false, false, false, false, false, false, false, false] (fun h2265 => ?_) ?_
      rotate_left
      ·rintro ⟨⟩
       refine RA.weak (env' := [(0, v0), (6, v46), (9, v107), (10, v106), (11, .int .i64 (i1575 : Int)), (68, .int .i64 ((x0).length : Int)), (69, .int .i64 (i1575 : Int)), (73, .int .i64 ((x0).length : Int)), (74, .int .i64 (i2065 : Int)), (92, v107), (93, .int .i64 (i1575 : Int)), (94, v106), (95, .int .i64 (i1575 : Int)), (99, rowv V1822 i1575), (103, .int .i64 (wsub 0 y2208)), (108, adr v106 (i1575 * 1)), (111, adr v2086 (((1 : Int)).toNat * 1))]) (L' := [imm (TR.sl (TR.rec1 (TR.sl TR.int))) v0 x0, own 3 TR.int v46 y44.1, own2 22 3 TR.int v107 V1822 l1821, own2 22 3 TR.int v106 V1824 l1823, own 3 TR.int v2086 y2084.1]) (fun _ _ st => st) ?_
       refine RA.many [12, 17, 20] (by kernel_rfl) ⟨⟨_, rfl, ?_⟩, ⟨_, rfl, ?_⟩, ⟨_, rfl, ?_⟩, trivial⟩
       ·skip
        refine RL.bS (t := TR.int) (vs := [.int .i64 (wsub 0 y2208)]) ([wsub 0 y2208] : (List Int)) Try.underlying22 Try_lo3 rfl rfl rfl rfl ⟨VR.int, trivial⟩ rfl (by decide) ?_
        intro v2275
        refine RL.fin ?_
        refine RA.next ?_
        refine RA.relist 10 #[true, true, true, true, true, true, true, true, true, true, true, true, true, false, true, true, true, false, true, true, false, false, false, false, false, false, false, false] rfl (by kernel_rfl) ?_
        exact fun a w st => h2256 v2275 a w (St.cut [0, 1, 2, 3, 5, 4] ⟨rfl, rfl, rfl, rfl, rfl, rfl, rfl, rfl, rfl, rfl, rfl, rfl, rfl, rfl, rfl, rfl, rfl, trivial⟩ (by decide) rfl st)
       ·skip
        refine RL.ldR (i := i1575) (r := y2210) 3 Try_ln22 rfl rfl rfl rfl (idx_some e2211).2.2 ?_
        refine RL.fin ?_
        refine RA.next ?_
        refine RA.relist 10 #[true, true, true, true, true, true, true, true, true, true, true, true, false, false, true, true, true, true, true, true, false, false, false, false, false, false, false, false] rfl (by kernel_rfl) ?_
        exact fun a w st => h2255 () a w (St.cut [0, 1, 2, 3, 4] ⟨rfl, rfl, rfl, rfl, rfl, rfl, rfl, rfl, rfl, rfl, rfl, rfl, rfl, rfl, rfl, rfl, rfl, trivial⟩ (by decide) rfl st)
       refine RL.ldSx (i := ((1 : Int)).toNat) (e' := y2212) 4 Ex.ik Try_ln3 rfl rfl rfl rfl SlOf.own (idx_some e2213).2.2 Part.self ?_
       refine RL.fin ?_
       refine RA.next ?_
       refine RA.negI 21 rfl (by kernel_rfl) rfl rfl rfl ?_
       refine RA.relist 9 #[true, true, true, true, true, true, true, true, true, true, true, true, false, false, true, true, true, false, true, true, true, true, false, false, false, false, false, false] rfl (by kernel_rfl) ?_
       exact fun a w st => h2249 () a w (St.cut [0, 1, 2, 3] ⟨rfl, rfl, rfl, rfl, rfl, rfl, rfl, rfl, rfl, rfl, rfl, rfl, rfl, rfl, rfl, rfl, rfl, trivial⟩ (by decide) rfl st)
      refine RA.meet (ι := Unit) (fun (p : Unit) => [(0, v0), (6, v46), (9, v107), (10, v106), (11, .int .i64 (i1575 : Int)), (68, .int .i64 ((x0).length : Int)), (69, .int .i64 (i1575 : Int)), (73, .int .i64 ((x0).length : Int)), (74, .int .i64 (i2065 : Int)), (92, v107), (93, .int .i64 (i1575 : Int)), (94, v106), (95, .int .i64 (i1575 : Int)), (99, rowv V1822 i1575), (101, adr v2086 (((0 : Int)).toNat * 1)), (108, adr v106 (i1575 * 1)), (113, .int .i64 (wsub 0 y2212))]) (fun (p : Unit) => [imm (TR.sl (TR.rec1 (TR.sl TR.int))) v0 x0, own 3 TR.int v46 y44.1, own2 22 3 TR.int v107 V1822 l1821, own2 22 3 TR.int v106 V1824 l1823, own 3 TR.int v2086 y2084.1]) 11 #[true, true, true, true, true, true, true, true, true, true, false, false, false, false, true, true, true, false, true, true, true, true, false, false, false, false, false, false] (fun h2266 => ?_) ?_
      rotate_left
      ·rintro ⟨⟩
       refine RA.weak (env' := [(0, v0), (6, v46), (9, v107), (10, v106), (11, .int .i64 (i1575 : Int)), (68, .int .i64 ((x0).length : Int)), (69, .int .i64 (i1575 : Int)), (73, .int .i64 ((x0).length : Int)), (74, .int .i64 (i2065 : Int)), (92, v107), (93, .int .i64 (i1575 : Int)), (94, v106), (95, .int .i64 (i1575 : Int)), (99, rowv V1822 i1575), (101, adr v2086 (((0 : Int)).toNat * 1)), (108, adr v106 (i1575 * 1)), (113, .int .i64 (wsub 0 y2212))]) (L' := [imm (TR.sl (TR.rec1 (TR.sl TR.int))) v0 x0, own 3 TR.int v46 y44.1, own2 22 3 TR.int v107 V1822 l1821, own2 22 3 TR.int v106 V1824 l1823, own 3 TR.int v2086 y2084.1]) (fun _ _ st => st) ?_
       refine RA.many [10, 17, 22] (by kernel_rfl) ⟨⟨_, rfl, ?_⟩, ⟨_, rfl, ?_⟩, ⟨_, rfl, ?_⟩, trivial⟩
       ·skip
        refine RL.ldSx (i := ((0 : Int)).toNat) (e' := y2208) 4 Ex.ik Try_ln3 rfl rfl rfl rfl SlOf.own (idx_some e2209).2.2 Part.self ?_
        refine RL.fin ?_
        refine RA.next ?_
        refine RA.negI 11 rfl (by kernel_rfl) rfl rfl rfl ?_
        refine RA.relist 9 #[true, true, true, true, true, true, true, true, true, true, true, true, false, false, true, true, true, false, true, true, true, true, false, false, false, false, false, false] rfl (by kernel_rfl) ?_
        exact fun a w st => h2249 () a w (St.cut [0, 1, 2, 3] ⟨rfl, rfl, rfl, rfl, rfl, rfl, rfl, rfl, rfl, rfl, rfl, rfl, rfl, rfl, rfl, rfl, rfl, trivial⟩ (by decide) rfl st)
       ·skip
        refine RL.ldR (i := i1575) (r := y2210) 3 Try_ln22 rfl rfl rfl rfl (idx_some e2211).2.2 ?_
        refine RL.fin ?_
        refine RA.next ?_
        refine RA.relist 10 #[true, true, true, true, true, true, true, true, true, true, false, false, false, false, true, true, true, true, true, true, true, true, false, false, false, false, false, false] rfl (by kernel_rfl) ?_
        exact fun a w st => h2258 () a w (St.cut [0, 1, 2, 3, 4] ⟨rfl, rfl, rfl, rfl, rfl, rfl, rfl, rfl, rfl, rfl, rfl, rfl, rfl, rfl, rfl, rfl, rfl, trivial⟩ (by decide) rfl st)
       refine RL.bS (t := TR.int) (vs := [.int .i64 (wsub 0 y2212)]) ([wsub 0 y2212] : (List Int)) Try.underlying22 Try_lo3 rfl rfl rfl rfl ⟨VR.int, trivial⟩ rfl (by decide) ?_
       intro v2274
       refine RL.fin ?_
       refine RA.next ?_
       refine RA.relist 10 #[true, true, true, true, true, true, true, true, true, true, false, false, false, false, true, true, true, false, true, true, true, true, true, false, false, false, false, false] rfl (by kernel_rfl) ?_
       exact fun a w st => h2259 v2274 a w (St.cut [0, 1, 2, 3, 4, 5] ⟨rfl, rfl, rfl, rfl, rfl, rfl, rfl, rfl, rfl, rfl, rfl, rfl, rfl, rfl, rfl, rfl, rfl, trivial⟩ (by decide) rfl st)
      refine RA.meet (ι := Unit) (fun (p : Unit) => [(0, v0), (6, v46), (9, v107), (10, v106), (11, .int .i64 (i1575 : Int)), (68, .int .i64 ((x0).length : Int)), (69, .int .i64 (i1575 : Int)), (73, .int .i64 ((x0).length : Int)), (74, .int .i64 (i2065 : Int)), (92, v107), (93, .int .i64 (i1575 : Int)), (94, v106), (95, .int .i64 (i1575 : Int)), (98, adr v107 (i1575 * 1)), (103, .int .i64 (wsub 0 y2208)), (108, adr v106 (i1575 * 1)), (111, adr v2086 (((1 : Int)).toNat * 1))]) (fun (p : Unit) => [imm (TR.sl (TR.rec1 (TR.sl TR.int))) v0 x0, own 3 TR.int v46 y44.1, own2 22 3 TR.int v107 V1822 l1821, own2 22 3 TR.int v106 V1824 l1823, own 3 TR.int v2086 y2084.1]) 12 #[true, true, true, true, true, true, true, false, true, true, true, true, false, false, true, true, true, false, true, true, false, false, false, false, false, false, false, false] (fun h2267 => ?_) ?_
      rotate_left
      ·rintro ⟨⟩
       refine RA.weak (env' := [(0, v0), (6, v46), (9, v107), (10, v106), (11, .int .i64 (i1575 : Int)), (68, .int .i64 ((x0).length : Int)), (69, .int .i64 (i1575 : Int)), (73, .int .i64 ((x0).length : Int)), (74, .int .i64 (i2065 : Int)), (92, v107), (93, .int .i64 (i1575 : Int)), (94, v106), (95, .int .i64 (i1575 : Int)), (98, adr v107 (i1575 * 1)), (103, .int .i64 (wsub 0 y2208)), (108, adr v106 (i1575 * 1)), (111, adr v2086 (((1 : Int)).toNat * 1))]) (L' := [imm (TR.sl (TR.rec1 (TR.sl TR.int))) v0 x0, own 3 TR.int v46 y44.1, own2 22 3 TR.int v107 V1822 l1821, own2 22 3 TR.int v106 V1824 l1823, own 3 TR.int v2086 y2084.1]) (fun _ _ st => st) ?_
       refine RA.many [7, 12, 17, 20] (by kernel_rfl) ⟨⟨_, rfl, ?_⟩, ⟨_, rfl, ?_⟩, ⟨_, rfl, ?_⟩, ⟨_, rfl, ?_⟩, trivial⟩
       ·skip
        refine RL.ldR (i := i1575) (r := y2206) 2 Try_ln22 rfl rfl rfl rfl (idx_some e2207).2.2 ?_
        refine RL.fin ?_
        refine RA.next ?_
        refine RA.relist 11 #[true, true, true, true, true, true, true, true, true, true, true, true, false, false, true, true, true, false, true, true, false, false, false, false, false, false, false, false] rfl (by kernel_rfl) ?_
        exact fun a w st => h2265 () a w (St.cut [0, 1, 2, 3, 4] ⟨rfl, rfl, rfl, rfl, rfl, rfl, rfl, rfl, rfl, rfl, rfl, rfl, rfl, rfl, rfl, rfl, rfl, trivial⟩ (by decide) rfl st)
       ·skip
        refine RL.bS (t := TR.int) (vs := [.int .i64 (wsub 0 y2208)]) ([wsub 0 y2208] : (List Int)) Try.underlying22 Try_lo3 rfl rfl rfl rfl ⟨VR.int, trivial⟩ rfl (by decide) ?_
        intro v2273
        refine RL.fin ?_
        refine RA.next ?_
        refine RA.relist 11 #[true, true, true, true, true, true, true, false, true, true, true, true, true, false, true, true, true, false, true, true, false, false, false, false, false, false, false, false] rfl (by kernel_rfl) ?_
        exact fun a w st => h2262 v2273 a w (St.cut [0, 1, 2, 3, 5, 4] ⟨rfl, rfl, rfl, rfl, rfl, rfl, rfl, rfl, rfl, rfl, rfl, rfl, rfl, rfl, rfl, rfl, rfl, trivial⟩ (by decide) rfl st)
       ·skip
        refine RL.ldR (i := i1575) (r := y2210) 3 Try_ln22 rfl rfl rfl rfl (idx_some e2211).2.2 ?_
        refine RL.fin ?_
        refine RA.next ?_
        refine RA.relist 11 #[true, true, true, true, true, true, true, false, true, true, true, true, false, false, true, true, true, true, true, true, false, false, false, false, false, false, false, false] rfl (by kernel_rfl) ?_
        exact fun a w st => h2261 () a w (St.cut [0, 1, 2, 3, 4] ⟨rfl, rfl, rfl, rfl, rfl, rfl, rfl, rfl, rfl, rfl, rfl, rfl, rfl, rfl, rfl, rfl, rfl, trivial⟩ (by decide) rfl st)
       refine RL.ldSx (i := ((1 : Int)).toNat) (e' := y2212) 4 Ex.ik Try_ln3 rfl rfl rfl rfl SlOf.own (idx_some e2213).2.2 Part.self ?_
       refine RL.fin ?_
       refine RA.next ?_
       refine RA.negI 21 rfl (by kernel_rfl) rfl rfl rfl ?_
       refine RA.relist 10 #[true, true, true, true, true, true, true, false, true, true, true, true, false, false, true, true, true, false, true, true, true, true, false, false, false, false, false, false] rfl (by kernel_rfl) ?_
       exact fun a w st => h2257 () a w (St.cut [0, 1, 2, 3] ⟨rfl, rfl, rfl, rfl, rfl, rfl, rfl, rfl, rfl, rfl, rfl, rfl, rfl, rfl, rfl, rfl, rfl, trivial⟩ (by decide) rfl st)
      refine RA.meet (ι := Unit) (fun (p : Unit) => [(0, v0), (6, v46), (9, v107), (10, v106), (11, .int .i64 (i1575 : Int)), (68, .int .i64 ((x0).length : Int)), (69, .int .i64 (i1575 : Int)), (73, .int .i64 ((x0).length : Int)), (74, .int .i64 (i2065 : Int)), (92, v107), (93, .int .i64 (i1575 : Int)), (94, v106), (95, .int .i64 (i1575 : Int)), (99, rowv V1822 i1575), (101, adr v2086 (((0 : Int)).toNat * 1)), (109, rowv V1824 i1575), (111, adr v2086 (((1 : Int)).toNat * 1))]) (fun (p : Unit) => [imm (TR.sl (TR.rec1 (TR.sl TR.int))) v0 x0, own 3 TR.int v46 y44.1, own2 22 3 TR.int v107 V1822 l1821, own2 22 3 TR.int v106 V1824 l1823, own 3 TR.int v2086 y2084.1]) 12 #[true, true, true, true, true, true, true, true, true, true, false, false, false, false, true, true, true, true, true, true, false, false, false, false, false, false, false, false] (fun h2268 => ?_) ?_
      rotate_left
      ·rintro ⟨⟩
       refine RA.weak (env' := [(0, v0), (6, v46), (9, v107), (10, v106), (11, .int .i64 (i1575 : Int)), (68, .int .i64 ((x0).length : Int)), (69, .int .i64 (i1575 : Int)), (73, .int .i64 ((x0).length : Int)), (74, .int .i64 (i2065 : Int)), (92, v107), (93, .int .i64 (i1575 : Int)), (94, v106), (95, .int .i64 (i1575 : Int)), (99, rowv V1822 i1575), (101, adr v2086 (((0 : Int)).toNat * 1)), (109, rowv V1824 i1575), (111, adr v2086 (((1 : Int)).toNat * 1))]) (L' := [imm (TR.sl (TR.rec1 (TR.sl TR.int))) v0 x0, own 3 TR.int v46 y44.1, own2 22 3 TR.int v107 V1822 l1821, own2 22 3 TR.int v106 V1824 l1823, own 3 TR.int v2086 y2084.1]) (fun _ _ st => st) ?_
       refine RA.many [10, 20] (by kernel_rfl) ⟨⟨_, rfl, ?_⟩, ⟨_, rfl, ?_⟩, trivial⟩
       ·skip
        refine RL.ldSx (i := ((0 : Int)).toNat) (e' := y2208) 4 Ex.ik Try_ln3 rfl rfl rfl rfl SlOf.own (idx_some e2209).2.2 Part.self ?_
        refine RL.fin ?_
        refine RA.next ?_
        refine RA.negI 11 rfl (by kernel_rfl) rfl rfl rfl ?_
        refine RA.relist 10 #[true, true, true, true, true, true, true, true, true, true, true, true, false, false, true, true, true, true, true, true, false, false, false, false, false, false, false, false] rfl (by kernel_rfl) ?_
        exact fun a w st => h2255 () a w (St.cut [0, 1, 2, 3, 4] ⟨rfl, rfl, rfl, rfl, rfl, rfl, rfl, rfl, rfl, rfl, rfl, rfl, rfl, rfl, rfl, rfl, rfl, trivial⟩ (by decide) rfl st)
       refine RL.ldSx (i := ((1 : Int)).toNat) (e' := y2212) 4 Ex.ik Try_ln3 rfl rfl rfl rfl SlOf.own (idx_some e2213).2.2 Part.self ?_
       refine RL.fin ?_
       refine RA.next ?_
       refine RA.negI 21 rfl (by kernel_rfl) rfl rfl rfl ?_
       refine RA.relist 10 #[true, true, true, true, true, true, true, true, true, true, false, false, false, false, true, true, true, true, true, true, true, true, false, false, false, false, false, false] rfl (by kernel_rfl) ?_
       exact fun a w st => h2258 () a w (St.cut [0, 1, 2, 3, 4] ⟨rfl, rfl, rfl, rfl, rfl, rfl, rfl, rfl, rfl, rfl, rfl, rfl, rfl, rfl, rfl, rfl, rfl, trivial⟩ (by decide) rfl st)
      refine RA.meet (ι := Unit) (fun (p : Unit) => [(0, v0), (6, v46), (9, v107), (10, v106), (11, .int .i64 (i1575 : Int)), (68, .int .i64 ((x0).length : Int)), (69, .int .i64 (i1575 : Int)), (73, .int .i64 ((x0).length : Int)), (74, .int .i64 (i2065 : Int)), (92, v107), (93, .int .i64 (i1575 : Int)), (94, v106), (95, .int .i64 (i1575 : Int)), (98, adr v107 (i1575 * 1)), (101, adr v2086 (((0 : Int)).toNat * 1)), (108, adr v106 (i1575 * 1)), (113, .int .i64 (wsub 0 y2212))]) (fun (p : Unit) => [imm (TR.sl (TR.rec1 (TR.sl TR.int))) v0 x0, own 3 TR.int v46 y44.1, own2 22 3 TR.int v107 V1822 l1821, own2 22 3 TR.int v106 V1824 l1823, own 3 TR.int v2086 y2084.1]) 12 #[true, true, true, true, true, true, true, false, true, true, false, false, false, false, true, true, true, false, true, true, true, true, false, false, false, false, false, false] (fun h2269 => ?_) ?_
      rotate_left
      ·rintro ⟨⟩
       refine RA.weak (env' := [(0, v0), (6, v46), (9, v107), (10, v106), (11, .int .i64 (i1575 : Int)), (68, .int .i64 ((x0).length : Int)), (69, .int .i64 (i1575 : Int)), (73, .int .i64 ((x0).length : Int)), (74, .int .i64 (i2065 : Int)), (92, v107), (93, .int .i64 (i1575 : Int)), (94, v106), (95, .int .i64 (i1575 : Int)), (98, adr v107 (i1575 * 1)), (101, adr v2086 (((0 : Int)).toNat * 1)), (108, adr v106 (i1575 * 1)), (113, .int .i64 (wsub 0 y2212))]) (L' := [imm (TR.sl (TR.rec1 (TR.sl TR.int))) v0 x0, own 3 TR.int v46 y44.1, own2 22 3 TR.int v107 V1822 l1821, own2 22 3 TR.int v106 V1824 l1823, own 3 TR.int v2086 y2084.1]) (fun _ _ st => st) ?_
       refine RA.many [7, 10, 17, 22] (by kernel_rfl) ⟨⟨_, rfl, ?_⟩, ⟨_, rfl, ?_⟩, ⟨_, rfl, ?_⟩, ⟨_, rfl, ?_⟩, trivial⟩
       ·skip
        refine RL.ldR (i := i1575) (r := y2206) 2 Try_ln22 rfl rfl rfl rfl (idx_some e2207).2.2 ?_
        refine RL.fin ?_
        refine RA.next ?_
        refine RA.relist 11 #[true, true, true, true, true, true, true, true, true, true, false, false, false, false, true, true, true, false, true, true, true, true, false, false, false, false, false, false] rfl (by kernel_rfl) ?_
        exact fun a w st => h2266 () a w (St.cut [0, 1, 2, 3, 4] ⟨rfl, rfl, rfl, rfl, rfl, rfl, rfl, rfl, rfl, rfl, rfl, rfl, rfl, rfl, rfl, rfl, rfl, trivial⟩ (by decide) rfl st)
       ·skip
        refine RL.ldSx (i := ((0 : Int)).toNat) (e' := y2208) 4 Ex.ik Try_ln3 rfl rfl rfl rfl SlOf.own (idx_some e2209).2.2 Part.self ?_
        refine RL.fin ?_
        refine RA.next ?_
        refine RA.negI 11 rfl (by kernel_rfl) rfl rfl rfl ?_
        refine RA.relist 10 #[true, true, true, true, true, true, true, false, true, true, true, true, false, false, true, true, true, false, true, true, true, true, false, false, false, false, false, false] rfl (by kernel_rfl) ?_
        exact fun a w st => h2257 () a w (St.cut [0, 1, 2, 3] ⟨rfl, rfl, rfl, rfl, rfl, rfl, rfl, rfl, rfl, rfl, rfl, rfl, rfl, rfl, rfl, rfl, rfl, trivial⟩ (by decide) rfl st)
       ·skip
        refine RL.ldR (i := i1575) (r := y2210) 3 Try_ln22 rfl rfl rfl rfl (idx_some e2211).2.2 ?_
        refine RL.fin ?_
        refine RA.next ?_
        refine RA.relist 11 #[true, true, true, true, true, true, true, false, true, true, false, false, false, false, true, true, true, true, true, true, true, true, false, false, false, false, false, false] rfl (by kernel_rfl) ?_
        exact fun a w st => h2263 () a w (St.cut [0, 1, 2, 3, 4] ⟨rfl, rfl, rfl, rfl, rfl, rfl, rfl, rfl, rfl, rfl, rfl, rfl, rfl, rfl, rfl, rfl, rfl, trivial⟩ (by decide) rfl st)
       refine RL.bS (t := TR.int) (vs := [.int .i64 (wsub 0 y2212)]) ([wsub 0 y2212] : (List Int)) Try.underlying22 Try_lo3 rfl rfl rfl rfl ⟨VR.int, trivial⟩ rfl (by decide) ?_
       intro v2272
       refine RL.fin ?_
       refine RA.next ?_
       refine RA.relist 11 #[true, true, true, true, true, true, true, false, true, true, false, false, false, false, true, true, true, false, true, true, true, true, true, false, false, false, false, false] rfl (by kernel_rfl) ?_
       exact fun a w st => h2264 v2272 a w (St.cut [0, 1, 2, 3, 4, 5] ⟨rfl, rfl, rfl, rfl, rfl, rfl, rfl, rfl, rfl, rfl, rfl, rfl, rfl, rfl, rfl, rfl, rfl, trivial⟩ (by decide) rfl st)
      refine RA.meet (ι := Unit) (fun (p : Unit) => [(0, v0), (6, v46), (9, v107), (10, v106), (11, .int .i64 (i1575 : Int)), (68, .int .i64 ((x0).length : Int)), (69, .int .i64 (i1575 : Int)), (73, .int .i64 ((x0).length : Int)), (74, .int .i64 (i2065 : Int)), (92, v107), (93, .int .i64 (i1575 : Int)), (94, v106), (95, .int .i64 (i1575 : Int)), (98, adr v107 (i1575 * 1)), (101, adr v2086 (((0 : Int)).toNat * 1)), (109, rowv V1824 i1575), (111, adr v2086 (((1 : Int)).toNat * 1))]) (fun (p : Unit) => [imm (TR.sl (TR.rec1 (TR.sl TR.int))) v0 x0, own 3 TR.int v46 y44.1, own2 22 3 TR.int v107 V1822 l1821, own2 22 3 TR.int v106 V1824 l1823, own 3 TR.int v2086 y2084.1]) 13 #[true, true, true, true, true, true, true, false, true, true, false, false, false, false, true, true, true, true, true, true, false, false, false, false, false, false, false, false] (fun h2270 => ?_) ?_
      rotate_left
      ·rintro ⟨⟩
       refine RA.weak (env' := [(0, v0), (6, v46), (9, v107), (10, v106), (11, .int .i64 (i1575 : Int)), (68, .int .i64 ((x0).length : Int)), (69, .int .i64 (i1575 : Int)), (73, .int .i64 ((x0).length : Int)), (74, .int .i64 (i2065 : Int)), (92, v107), (93, .int .i64 (i1575 : Int)), (94, v106), (95, .int .i64 (i1575 : Int)), (98, adr v107 (i1575 * 1)), (101, adr v2086 (((0 : Int)).toNat * 1)), (109, rowv V1824 i1575), (111, adr v2086 (((1 : Int)).toNat * 1))]) (L' := [imm (TR.sl (TR.rec1 (TR.sl TR.int))) v0 x0, own 3 TR.int v46 y44.1, own2 22 3 TR.int v107 V1822 l1821, own2 22 3 TR.int v106 V1824 l1823, own 3 TR.int v2086 y2084.1]) (fun _ _ st => st) ?_
       refine RA.many [7, 10, 20] (by kernel_rfl) ⟨⟨_, rfl, ?_⟩, ⟨_, rfl, ?_⟩, ⟨_, rfl, ?_⟩, trivial⟩
       ·skip
        refine RL.ldR (i := i1575) (r := y2206) 2 Try_ln22 rfl rfl rfl rfl (idx_some e2207).2.2 ?_
        refine RL.fin ?_
        refine RA.next ?_
        refine RA.relist 12 #[true, true, true, true, true, true, true, true, true, true, false, false, false, false, true, true, true, true, true, true, false, false, false, false, false, false, false, false] rfl (by kernel_rfl) ?_
        exact fun a w st => h2268 () a w (St.cut [0, 1, 2, 3, 4] ⟨rfl, rfl, rfl, rfl, rfl, rfl, rfl, rfl, rfl, rfl, rfl, rfl, rfl, rfl, rfl, rfl, rfl, trivial⟩ (by decide) rfl st)
       ·skip
        refine RL.ldSx (i := ((0 : Int)).toNat) (e' := y2208) 4 Ex.ik Try_ln3 rfl rfl rfl rfl SlOf.own (idx_some e2209).2.2 Part.self ?_
        refine RL.fin ?_
        refine RA.next ?_
        refine RA.negI 11 rfl (by kernel_rfl) rfl rfl rfl ?_
        refine RA.relist 11 #[true, true, true, true, true, true, true, false, true, true, true, true, false, false, true, true, true, true, true, true, false, false, false, false, false, false, false, false] rfl (by kernel_rfl) ?_
        exact fun a w st => h2261 () a w (St.cut [0, 1, 2, 3, 4] ⟨rfl, rfl, rfl, rfl, rfl, rfl, rfl, rfl, rfl, rfl, rfl, rfl, rfl, rfl, rfl, rfl, rfl, trivial⟩ (by decide) rfl st)
       refine RL.ldSx (i := ((1 : Int)).toNat) (e' := y2212) 4 Ex.ik Try_ln3 rfl rfl rfl rfl SlOf.own (idx_some e2213).2.2 Part.self ?_
       refine RL.fin ?_
       refine RA.next ?_
       refine RA.negI 21 rfl (by kernel_rfl) rfl rfl rfl ?_
       refine RA.relist 11 #[true, true, true, true, true, true, true, false, true, true, false, false, false, false, true, true, true, true, true, true, true, true, false, false, false, false, false, false] rfl (by kernel_rfl) ?_
       exact fun a w st => h2263 () a w (St.cut [0, 1, 2, 3, 4] ⟨rfl, rfl, rfl, rfl, rfl, rfl, rfl, rfl, rfl, rfl, rfl, rfl, rfl, rfl, rfl, rfl, rfl, trivial⟩ (by decide) rfl st)
      refine RA.meet (ι := Unit) (fun (p : Unit) => [(0, v0), (6, v46), (9, v107), (10, v106), (11, .int .i64 (i1575 : Int)), (68, .int .i64 ((x0).length : Int)), (69, .int .i64 (i1575 : Int)), (73, .int .i64 ((x0).length : Int)), (74, .int .i64 (i2065 : Int)), (92, v107), (93, .int .i64 (i1575 : Int)), (94, v106), (95, .int .i64 (i1575 : Int)), (99, rowv V1822 i1575), (101, adr v2086 (((0 : Int)).toNat * 1)), (108, adr v106 (i1575 * 1)), (111, adr v2086 (((1 : Int)).toNat * 1))]) (fun (p : Unit) => [imm (TR.sl (TR.rec1 (TR.sl TR.int))) v0 x0, own 3 TR.int v46 y44.1, own2 22 3 TR.int v107 V1822 l1821, own2 22 3 TR.int v106 V1824 l1823, own 3 TR.int v2086 y2084.1]) 13 #[true, true, true, true, true, true, true, true, true, true, false, false, false, false, true, true, true, false, true, true, false, false, false, false, false, false, false, false] (fun h2271 => ?_) ?_
      rotate_left
      ·rintro ⟨⟩
       refine RA.weak (env' := [(0, v0), (6, v46), (9, v107), (10, v106), (11, .int .i64 (i1575 : Int)), (68, .int .i64 ((x0).length : Int)), (69, .int .i64 (i1575 : Int)), (73, .int .i64 ((x0).length : Int)), (74, .int .i64 (i2065 : Int)), (92, v107), (93, .int .i64 (i1575 : Int)), (94, v106), (95, .int .i64 (i1575 : Int)), (99, rowv V1822 i1575), (101, adr v2086 (((0 : Int)).toNat * 1)), (108, adr v106 (i1575 * 1)), (111, adr v2086 (((1 : Int)).toNat * 1))]) (L' := [imm (TR.sl (TR.rec1 (TR.sl TR.int))) v0 x0, own 3 TR.int v46 y44.1, own2 22 3 TR.int v107 V1822 l1821, own2 22 3 TR.int v106 V1824 l1823, own 3 TR.int v2086 y2084.1]) (fun _ _ st => st) ?_
       refine RA.many [10, 17, 20] (by kernel_rfl) ⟨⟨_, rfl, ?_⟩, ⟨_, rfl, ?_⟩, ⟨_, rfl, ?_⟩, trivial⟩
       ·skip
        refine RL.ldSx (i := ((0 : Int)).toNat) (e' := y2208) 4 Ex.ik Try_ln3 rfl rfl rfl rfl SlOf.own (idx_some e2209).2.2 Part.self ?_
        refine RL.fin ?_
        refine RA.next ?_
        refine RA.negI 11 rfl (by kernel_rfl) rfl rfl rfl ?_
        refine RA.relist 11 #[true, true, true, true, true, true, true, true, true, true, true, true, false, false, true, true, true, false, true, true, false, false, false, false, false, false, false, false] rfl (by kernel_rfl) ?_
        exact fun a w st => h2265 () a w (St.cut [0, 1, 2, 3, 4] ⟨rfl, rfl, rfl, rfl, rfl, rfl, rfl, rfl, rfl, rfl, rfl, rfl, rfl, rfl, rfl, rfl, rfl, trivial⟩ (by decide) rfl st)
       ·skip
        refine RL.ldR (i := i1575) (r := y2210) 3 Try_ln22 rfl rfl rfl rfl (idx_some e2211).2.2 ?_
        refine RL.fin ?_
        refine RA.next ?_
        refine RA.relist 12 #[true, true, true, true, true, true, true, true, true, true, false, false, false, false, true, true, true, true, true, true, false, false, false, false, false, false, false, false] rfl (by kernel_rfl) ?_
        exact fun a w st => h2268 () a w (St.cut [0, 1, 2, 3, 4] ⟨rfl, rfl, rfl, rfl, rfl, rfl, rfl, rfl, rfl, rfl, rfl, rfl, rfl, rfl, rfl, rfl, rfl, trivial⟩ (by decide) rfl st)
       refine RL.ldSx (i := ((1 : Int)).toNat) (e' := y2212) 4 Ex.ik Try_ln3 rfl rfl rfl rfl SlOf.own (idx_some e2213).2.2 Part.self ?_
       refine RL.fin ?_
       refine RA.next ?_
       refine RA.negI 21 rfl (by kernel_rfl) rfl rfl rfl ?_
       refine RA.relist 11 #[true, true, true, true, true, true, true, true, true, true, false, false, false, false, true, true, true, false, true, true, true, true, false, false, false, false, false, false] rfl (by kernel_rfl) ?_
       exact fun a w st => h2266 () a w (St.cut [0, 1, 2, 3, 4] ⟨rfl, rfl, rfl, rfl, rfl, rfl, rfl, rfl, rfl, rfl, rfl, rfl, rfl, rfl, rfl, rfl, rfl, trivial⟩ (by decide) rfl st)
      refine RA.many [7, 10, 17, 20] (by kernel_rfl) ⟨⟨_, rfl, ?_⟩, ⟨_, rfl, ?_⟩, ⟨_, rfl, ?_⟩, ⟨_, rfl, ?_⟩, trivial⟩
      ·skip
       refine RL.ldR (i := i1575) (r := y2206) 2 Try_ln22 rfl rfl rfl rfl (idx_some e2207).2.2 ?_
       refine RL.fin ?_
       refine RA.next ?_
       refine RA.relist 13 #[true, true, true, true, true, true, true, true, true, true, false, false, false, false, true, true, true, false, true, true, false, false, false, false, false, false, false, false] rfl (by kernel_rfl) ?_
       exact fun a w st => h2271 () a w (St.cut [0, 1, 2, 3, 4] ⟨rfl, rfl, rfl, rfl, rfl, rfl, rfl, rfl, rfl, rfl, rfl, rfl, rfl, rfl, rfl, rfl, rfl, trivial⟩ (by decide) rfl st)
      ·skip
       refine RL.ldSx (i := ((0 : Int)).toNat) (e' := y2208) 4 Ex.ik Try_ln3 rfl rfl rfl rfl SlOf.own (idx_some e2209).2.2 Part.self ?_
       refine RL.fin ?_
       refine RA.next ?_
       refine RA.negI 11 rfl (by kernel_rfl) rfl rfl rfl ?_
       refine RA.relist 12 #[true, true, true, true, true, true, true, false, true, true, true, true, false, false, true, true, true, false, true, true, false, false, false, false, false, false, false, false] rfl (by kernel_rfl) ?_
       exact fun a w st => h2267 () a w (St.cut [0, 1, 2, 3, 4] ⟨rfl, rfl, rfl, rfl, rfl, rfl, rfl, rfl, rfl, rfl, rfl, rfl, rfl, rfl, rfl, rfl, rfl, trivial⟩ (by decide) rfl st)
      ·skip
       refine RL.ldR (i := i1575) (r := y2210) 3 Try_ln22 rfl rfl rfl rfl (idx_some e2211).2.2 ?_
       refine RL.fin ?_
       refine RA.next ?_
       refine RA.relist 13 #[true, true, true, true, true, true, true, false, true, true, false, false, false, false, true, true, true, true, true, true, false, false, false, false, false, false, false, false] rfl (by kernel_rfl) ?_
       exact fun a w st => h2270 () a w (St.cut [0, 1, 2, 3, 4] ⟨rfl, rfl, rfl, rfl, rfl, rfl, rfl, rfl, rfl, rfl, rfl, rfl, rfl, rfl, rfl, rfl, rfl, trivial⟩ (by decide) rfl st)
      refine RL.ldSx (i := ((1 : Int)).toNat) (e' := y2212) 4 Ex.ik Try_ln3 rfl rfl rfl rfl SlOf.own (idx_some e2213).2.2 Part.self ?_
      refine RL.fin ?_
      refine RA.next ?_
      refine RA.negI 21 rfl (by kernel_rfl) rfl rfl rfl ?_
      refine RA.relist 12 #[true, true, true, true, true, true, true, false, true, true, false, false, false, false, true, true, true, false, true, true, true, true, false, false, false, false, false, false] rfl (by kernel_rfl) ?_
      exact fun a w st => h2269 () a w (St.cut [0, 1, 2, 3, 4] ⟨rfl, rfl, rfl, rfl, rfl, rfl, rfl, rfl, rfl, rfl, rfl, rfl, rfl, rfl, rfl, rfl, rfl, trivial⟩ (by decide) rfl st)
     rintro ⟨v2225, v2230⟩
     refine RA.weak (env' := [(0, v0), (6, v46), (9, v107), (10, v106), (11, .int .i64 (i1575 : Int)), (68, .int .i64 ((x0).length : Int)), (69, .int .i64 (i1575 : Int)), (73, .int .i64 ((x0).length : Int)), (74, .int .i64 (i2065 : Int)), (92, v107), (93, .int .i64 (i1575 : Int)), (94, v106), (95, .int .i64 (i1575 : Int)), (105, v2225), (109, rowv V1824 i1575), (114, v2230)]) (L' := [imm (TR.sl (TR.rec1 (TR.sl TR.int))) v0 x0, own 3 TR.int v46 y44.1, own2x i1575 22 3 TR.int v107 V1822 l1821, own2 22 3 TR.int v106 V1824 l1823, own 3 TR.int v2225 (y2206 ++ ([wsub 0 y2208] : (List Int))), own 3 TR.int v2230 ([wsub 0 y2212] : (List Int))]) (fun _ _ st => st) ?_
     refine RA.seq 23 rfl (by kernel_rfl) ?_
     refine RL.weak (fun a w st => st.takeRow 3 rfl (idx_some e2211).2.2) ?_
     obtain ⟨y2304, e2305, h2099⟩ := bind_some h2099
     replace e2305 := chk_some e2305
     refine RL.app 6 5 Try.underlying22 Try_lo3 rfl rfl rfl rfl rfl rfl rfl SlOf.own e2305 ?_
     intro v2306
     refine RL.fin ?_
     refine RA.next ?_
     refine RA.seq 24 rfl (by kernel_rfl) ?_
     obtain ⟨y2307, e2308, h2099⟩ := bind_some h2099
     refine RL.idxRX 2 Try.underlying27 Try_ln22 rfl rfl rfl rfl rfl (idx_some e2308).1 (idx_some e2308).2.1 ?_
     refine RL.fin ?_
     refine RA.next ?_
     refine RA.seq 25 rfl (by kernel_rfl) ?_
     refine RL.stSpX (i := i1575) (r0 := y2307) 2 4 (by decide) Try_ln22 rfl rfl rfl rfl rfl rfl (idx_some e2308).2.2 ?_
     refine RL.fin ?_
     refine RA.next ?_
     refine RA.seq 26 rfl (by kernel_rfl) ?_
     obtain ⟨y2309, e2310, h2099⟩ := bind_some h2099
     refine RL.idxRX 3 Try.underlying27 Try_ln22 rfl rfl rfl rfl rfl (idx_some e2310).1 (idx_some e2310).2.1 ?_
     refine RL.fin ?_
     refine RA.next ?_
     refine RA.seq 27 rfl (by kernel_rfl) ?_
     refine RL.stSpX (i := i1575) (r0 := y2309) 3 6 (by decide) Try_ln22 rfl rfl rfl rfl rfl rfl (idx_some e2310).2.2 ?_
     refine RL.fin ?_
     refine RA.next ?_
     refine RA.doneG (by kernel_rfl) ?_
     refine GL.weak (env' := [(0, v0), (6, v46), (9, v107), (10, v106), (11, .int .i64 (i1575 : Int)), (68, .int .i64 ((x0).length : Int)), (69, .int .i64 (i1575 : Int)), (73, .int .i64 ((x0).length : Int)), (74, .int .i64 (i2065 : Int))]) (L' := [imm (TR.sl (TR.rec1 (TR.sl TR.int))) v0 x0, own 3 TR.int v46 y44.1, own2 22 3 TR.int v107 (List.set V1822 i1575 v2225) (List.set l1821 i1575 (y2206 ++ ([wsub 0 y2208] : (List Int)))), own2 22 3 TR.int v106 (List.set V1824 i1575 v2306) (List.set l1823 i1575 (y2210 ++ ([wsub 0 y2212] : (List Int))))]) (fun a w st => St.cut [0, 1, 2, 3] ⟨rfl, rfl, rfl, rfl, rfl, rfl, rfl, rfl, rfl, trivial⟩ (by decide) rfl st) ?_
     refine GL.nilB ?_
     refine GL.region ?_
     refine RL.binI (v := .int .i64 ((i2065 + 1 : Nat) : Int)) rfl rfl rfl rfl (binI_succ i2065 (by omega)) ?_
     refine RL.mv rfl rfl rfl ?_
     refine RL.fin ?_
     cases h2099
     exact fun a w st => lop_intro (i2065 + 1, r2077, (List.set l1821 i1575 (y2206 ++ ([wsub 0 y2208] : (List Int)))), (List.set l1823 i1575 (y2210 ++ ([wsub 0 y2212] : (List Int)))), (List.set V1822 i1575 v2225), (List.set V1824 i1575 v2306)) ⟨by show i2065 + 1 + r2077.length = (x0).length; simp only [List.length_cons] at h2071; omega, h2078, h2069⟩ (by simp) (St.cut [0, 1, 2, 3] ⟨rfl, rfl, rfl, rfl, rfl, rfl, rfl, rfl, rfl, trivial⟩ (by decide) rfl st)
    have h2074 : ¬ i2065 < (x0).length := by have := of_decide_eq_false b2073; omega
    obtain rfl : r2066 = [] := by rw [← h2072]; exact List.drop_of_length_le (by omega)
    replace h2070 : some (Fl.nx _) = some y2058 := h2070
    cases h2070
    exact GL.exit (fun a w st => mid_intro (l1821, l1823, V1822, V1824) h2061 (St.cut [0, 1, 2, 3] ⟨rfl, rfl, rfl, rfl, rfl, rfl, trivial⟩ (by decide) rfl st))
   rintro ⟨l1821, l1823, V1822, V1824⟩ h2311
   have h2312 := h2062 _ h2311
   try dsimp only at h2312
   refine GL.weak (env' := [(0, v0), (6, v46), (9, v107), (10, v106), (68, .int .i64 ((x0).length : Int)), (69, .int .i64 (i1575 : Int))]) (L' := [imm (TR.sl (TR.rec1 (TR.sl TR.int))) v0 x0, own 3 TR.int v46 y44.1, own2 22 3 TR.int v107 V1822 l1821, own2 22 3 TR.int v106 V1824 l1823]) (fun _ _ st => st) ?_
   refine GL.nilB ?_
   refine GL.region ?_
   refine RL.binI (v := .int .i64 ((i1575 + 1 : Nat) : Int)) rfl rfl rfl rfl (binI_succ i1575 (by omega)) ?_
   refine RL.mv rfl rfl rfl ?_
   refine RL.fin ?_
   cases h2312
   exact fun a w st => lop_intro (i1575 + 1, r1587, l1821, l1823, V1822, V1824) ⟨by show i1575 + 1 + r1587.length = (x0).length; simp only [List.length_cons] at h1581; omega, h1588, h1579⟩ (by simp) (St.cut [0, 1, 2, 3] ⟨rfl, rfl, rfl, rfl, rfl, rfl, trivial⟩ (by decide) rfl st)
  have h1584 : ¬ i1575 < (x0).length := by have := of_decide_eq_false b1583; omega
  obtain rfl : r1576 = [] := by rw [← h1582]; exact List.drop_of_length_le (by omega)
  replace h1580 : some (Fl.nx _) = some y1568 := h1580
  cases h1580
  exact GL.exit (fun a w st => mid_intro (l839, l841, V840, V842) h1571 (St.cut [1, 2, 3] ⟨rfl, rfl, rfl, trivial⟩ (by decide) rfl st))
 rintro ⟨l839, l841, V840, V842⟩ h2313
 have h2314 := h1572 _ h2313
 try dsimp only at h2314
 refine GL.weak (env' := [(6, v46), (9, v107), (10, v106)]) (L' := [own 3 TR.int v46 y44.1, own2 22 3 TR.int v107 V840 l839, own2 22 3 TR.int v106 V842 l841]) (fun _ _ st => st) ?_
 refine GL.seq ?_
 refine GL.region ?_
 refine RL.mv rfl rfl rfl ?_
 refine RL.mv rfl rfl rfl ?_
 obtain ⟨y2318, e2319, h2314⟩ := bind_some h2314
 refine RL.callU (vs := [v107, v106]) (LR := fun (o : Value) => [own 37 (TR.arr 2 TR.int) o y2318.1]) (fun o => ⟨Loc.own (TR.flatT_arr TR.flatT_ik), trivial⟩) Try_fit14 rfl rfl rfl rfl rfl (fun U w hU hW hL => equil_Rest_c U w hU _ _ (hL 1 _ _ rfl Seen.own2) _ _ (hL 2 _ _ rfl Seen.own2) _ e2319) ?_
 intro v2320
 refine RL.mv rfl rfl rfl ?_
 refine RL.ext rfl rfl rfl rfl ?_
 refine RL.ext rfl rfl rfl rfl ?_
 refine RL.asg rfl rfl rfl ?_
 refine RL.asg rfl rfl rfl ?_
 refine RL.finG ?_
 refine GL.seq ?_
 obtain ⟨y2344, K2345, h2346, h2347, h2348, h2349, h2350⟩ := bindR_K h2314
 refine GL.join (ι := Bool) (fun (p : Bool) => [(4, .bool p)]) (fun (p : Bool) => []) (fun (p : Bool) => K2345 (.nx p)) ?_ ?_
 ·skip
  refine GL.regionQ rfl rfl (by kernel_rfl) ?_
  obtain ⟨y2351, e2352, h2346⟩ := bind_some h2346
  refine RL.callV (v := .bool y2351) (vs := []) Try_fit10 rfl (Or.inr ⟨_, rfl⟩) rfl rfl rfl rfl (fun U w hU hW hL => top_works_c U w hU  _ e2352) ?_
  refine RL.mv rfl rfl rfl ?_
  refine RL.split (t := 127) rfl (fun b2353 => ?_) (fun b2353 => ?_)
  ·replace h2346 := ite_t b2353 h2346
   refine RL.mv rfl rfl rfl ?_
   refine RL.binI (v := .bool (y2318.2 == (0 : Int))) rfl rfl rfl rfl rfl ?_
   refine RL.pickT rfl rfl rfl rfl ?_
   refine RL.mv rfl rfl rfl ?_
   refine RL.split (t := 131) rfl (fun b2354 => ?_) (fun b2354 => ?_)
   ·replace h2346 := ite_t b2354 h2346
    refine RL.mv rfl rfl rfl ?_
    refine RL.mv rfl rfl rfl ?_
    obtain ⟨y2355, e2356, h2346⟩ := bind_some h2346
    refine RL.idxS (sz := 1) 0 Try.underlying22 Try_ln3 rfl rfl rfl rfl rfl SlOf.own (idx_some e2356).1 (idx_some e2356).2.1 ?_
    refine RL.ldSx (i := ((0 : Int)).toNat) (e' := y2355) 0 Ex.ik Try_ln3 rfl rfl rfl rfl SlOf.own (idx_some e2356).2.2 Part.self ?_
    refine RL.mv rfl rfl rfl ?_
    obtain ⟨y2357, e2358, h2346⟩ := bind_some h2346
    refine RL.idxS (sz := 1) 0 Try.underlying22 Try_ln3 rfl rfl rfl rfl rfl SlOf.own (idx_some e2358).1 (idx_some e2358).2.1 ?_
    refine RL.ldSx (i := ((1 : Int)).toNat) (e' := y2357) 0 Ex.ik Try_ln3 rfl rfl rfl rfl SlOf.own (idx_some e2358).2.2 Part.self ?_
    refine RL.bldA (t := (TR.arr 2 TR.int)) (d0 := ([y2355, y2357] : (List Int))) (pv := [(0, .int .i64 y2355), (1, .int .i64 y2357)]) rfl Try_bld37 (by decide) rfl rfl rfl ⟨⟨_, _, TR.int, y2355, rfl, rfl, VR.int⟩, ⟨⟨_, _, TR.int, y2357, rfl, rfl, VR.int⟩, trivial⟩⟩ (fun S f hi => by
      obtain ⟨c0, e0, r0⟩ := cells_vrep (t := TR.int) (u := .int .i64 y2355) (e := y2355) (VR.int S f hi)
      obtain ⟨c1, e1, r1⟩ := cells_vrep (t := TR.int) (u := .int .i64 y2357) (e := y2357) (VR.int S f hi)
      show TR.rep (TR.arr 2 TR.int) S (List.flatten [(.int .i64 y2355 : Value).cells.toList, (.int .i64 y2357 : Value).cells.toList]) _
      simp only [e0, e1,  List.flatten_cons, List.flatten_nil, List.append_nil]
      exact ⟨rfl, ⟨_, _, rfl, r0, ⟨_, [], (List.append_nil _).symm, r1, rfl⟩⟩⟩) ?_
    intro v2359
    obtain ⟨y2360, e2361, h2346⟩ := bind_some h2346
    refine RL.callV (v := .bool y2360) (vs := [v2320, v2359]) Try_fit15 rfl (Or.inr ⟨_, rfl⟩) rfl rfl rfl rfl (fun U w hU hW hL => slices_Contains_pairs_c U w hU _ _ (hL 3 _ _ rfl Seen.own) _ _ (hL 4 _ _ rfl Seen.imm) _ e2361) ?_
    refine RL.pickT rfl rfl rfl rfl ?_
    refine RL.asg rfl rfl rfl ?_
    refine RL.finQ ?_
    cases h2346
    exact fun a w st => mid_intro y2360 h2347 (St.cut [] ⟨rfl, trivial⟩ (by decide) rfl st)
   replace h2346 := ite_f b2354 h2346
   refine RL.skip rfl rfl ?_
   refine RL.skip rfl rfl ?_
   refine RL.skip rfl rfl ?_
   refine RL.skip rfl rfl ?_
   refine RL.skip rfl rfl ?_
   refine RL.skip rfl rfl ?_
   refine RL.skip rfl rfl ?_
   refine RL.skip rfl rfl ?_
   refine RL.skip rfl rfl ?_
   refine RL.pickF rfl rfl rfl rfl ?_
   refine RL.asg rfl rfl rfl ?_
   refine RL.finQ ?_
   cases h2346
   exact fun a w st => mid_intro false h2347 (St.cut [] ⟨rfl, trivial⟩ (by decide) rfl st)
  replace h2346 := ite_f b2353 h2346
  refine RL.skip rfl rfl ?_
  refine RL.skip rfl rfl ?_
  refine RL.pickF rfl rfl rfl rfl ?_
  refine RL.mv rfl rfl rfl ?_
  refine RL.skip rfl rfl ?_
  refine RL.skip rfl rfl ?_
  refine RL.skip rfl rfl ?_
  refine RL.skip rfl rfl ?_
  refine RL.skip rfl rfl ?_
  refine RL.skip rfl rfl ?_
  refine RL.skip rfl rfl ?_
  refine RL.skip rfl rfl ?_
  refine RL.skip rfl rfl ?_
  refine RL.pickF rfl rfl rfl rfl ?_
  refine RL.asg rfl rfl rfl ?_
  refine RL.finQ ?_
  cases h2346
  exact fun a w st => mid_intro false h2347 (St.cut [] ⟨rfl, trivial⟩ (by decide) rfl st)
 rintro x2343 h2362
 have h2363 := h2348 _ h2362
 try dsimp only at h2363
 refine GL.weak (env' := [(4, .bool x2343)]) (L' := []) (fun _ _ st => st) ?_
 have h2363 := Option.some.inj h2363
 subst h2363
 exact GL.ret (Gx.ret (v := .bool x2343) (res1 rfl rfl) (fun a w st => st.toPostV))
end Go.Wk
