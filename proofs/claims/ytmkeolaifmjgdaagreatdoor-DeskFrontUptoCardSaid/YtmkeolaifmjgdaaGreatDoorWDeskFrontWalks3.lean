/- Each function comes to what its model says; printed by a program of this repository. -/
import Derived.Test.YtmkeolaifmjgdaaGreatDoorProg
import Derived.Test.YtmkeolaifmjgdaaGreatDoorWDeskFrontModels
import Derived.Test.YtmkeolaifmjgdaaGreatDoorWDeskFrontWalks2
namespace Go.Wk
open Go.Fw Go.Mo Go.Proofs Go.RowKit
set_option linter.all false
set_option maxRecDepth 100000
set_option maxHeartbeats 4000000

theorem house_House_build_c (B : World) (S X : Hp) (f : Nat → Hp) (w : World) (v0 : Value) (u0a : Value) (x0 : TyH) (hO : HeapOk B.heap.size S f [obox 45 TrH v0 (x0.1, (x0.2.1, u0a)), obox 55 TrL u0a x0.2.2, keep X].length w) (hB : Below B.heap.size B w) (hI : Its [obox 45 TrH v0 (x0.1, (x0.2.1, u0a)), obox 55 TrL u0a x0.2.2, keep X] S f) (hT : Tab Tryz.prog (Tryz.lays146_ren.g 1) S) (v1 : Value) (x1 : TyE) (k1 : (TrE).vrep S v1 x1) (res : (Int × Int) × Int × TyH) (hm : house_House_build_m x0 x1 = some res) : Calls Tryz.prog 44 #[v0, v1] w (PostM B S (fun (o : Value) => .tuple #[o, .int .i64 res.2.1]) (fun (o : Value) => [obox 45 TrH v0 (res.2.2.1, (res.2.2.2.1, u0a)), obox 55 TrL u0a res.2.2.2.2, imm (TR.pair TR.int TR.int) o res.1, keep X])) := by
 refine calls_enterM 125 Tryz.func44 Tryz.ntmps44 rfl B S f [(0, v0), (1, v1)] [obox 45 TrH v0 (x0.1, (x0.2.1, u0a)), obox 55 TrL u0a x0.2.2, keep X] [imm TrE v1 x1] rfl ⟨rfl, ⟨rfl, trivial⟩⟩ hB hO hI ⟨k1, trivial⟩ ?_
 unfold house_House_build_m at hm
 refine GL.seq ?_
 refine GL.region ?_
 refine RL.box (t := TrE) (e := x1) rfl rfl rfl rfl (VR.item 3 rfl) ?_
 intro v5
 refine RL.alloc (t := (TR.pair TR.int TR.int)) (z := ((0 : Int), (0 : Int))) Tryz_lo64 (fun S => ⟨[.int .i64 0], _, rfl, rfl, rfl⟩) rfl rfl rfl ?_
 intro v6
 refine RL.reL (L' := [obox 45 TrH v0 (x0.1, (x0.2.1, u0a)), obox 55 TrL u0a x0.2.2, keep X, imm TrE v1 x1, obox 59 TrE v5 x1, obox 64 (TR.pair TR.int TR.int) v6 ((0 : Int), (0 : Int))]) rfl ?_
 refine RL.asg rfl rfl rfl ?_
 refine RL.finG ?_
 refine GL.seq ?_
 refine GL.seq ?_
 refine GL.region ?_
 refine RL.mv rfl rfl rfl ?_
 refine RL.fadr (off := 0) (fo := 2) 4 Tryz_fld59_2 rfl rfl rfl PtOf.obox (Or.inr ⟨rfl, rfl⟩) ?_
 refine RL.ldPx (off := (0 + 2)) (e' := x1.2.2.1) 4 Ex.str Tryz_ln9 rfl rfl (Or.inl rfl) rfl PtOf.obox (Part.snd (Part.snd (Part.fst Part.self))) ?_
 obtain ⟨y9, e10, hm⟩ := bind_some hm
 refine RL.callV (v := .int .i64 y9) (vs := [v0, (sv x1.2.2.1)]) Tryz_fit48 rfl (Or.inl rfl) rfl rfl rfl rfl (fun U w hU hW hL => house_House_find_c U w hU _ _ (ptr_held (Helded.snd (Helded.snd (Helded.raw rfl))) (hL 0 _ _ rfl Seen.obox) (hL 1 _ _ rfl Seen.obox)) x1.2.2.1 _ e10) ?_
 refine RL.binI (v := .bool (decide (y9 < (0 : Int)))) rfl rfl rfl rfl rfl ?_
 refine RL.finG ?_
 refine GL.cond rfl (fun b11 => ?_) (fun b11 => ?_)
 ·replace hm := ite_t b11 hm
  refine GL.seq ?_
  refine GL.region ?_
  refine RL.bld (t := (TR.pair TR.int TR.int)) (d0 := (((0 : Int), (0 : Int)) : (Int × Int))) (pv := []) rfl Tryz_bld64 rfl rfl rfl trivial (fun S f hi => by
    show TR.rep (TR.pair TR.int TR.int) S (List.flatten [[.int .i64 0], [.int .i64 0]]) _
    simp only [ List.flatten_cons, List.flatten_nil, List.append_nil]
    exact ⟨_, _, rfl, rfl, rfl⟩) ?_
  intro v13
  refine RL.stP (off := 0) (e' := (((0 : Int), (0 : Int)) : (Int × Int))) (d1 := (((0 : Int), (0 : Int)) : (Int × Int))) (r := (TR.pair TR.int TR.int)) 5 Tryz_ln64 rfl rfl (Or.inr ⟨rfl, rfl⟩) rfl (VR.item 6 rfl) rfl Upd.self ?_
  refine RL.reL (L' := [obox 45 TrH v0 (x0.1, (x0.2.1, u0a)), obox 55 TrL u0a x0.2.2, keep X, imm TrE v1 x1, obox 59 TrE v5 x1, obox 64 (TR.pair TR.int TR.int) v6 (((0 : Int), (0 : Int)) : (Int × Int)), imm (TR.pair TR.int TR.int) v13 (((0 : Int), (0 : Int)) : (Int × Int))]) rfl ?_
  refine RL.asg rfl rfl rfl ?_
  refine RL.finG ?_
  have hm := Option.some.inj hm
  subst hm
  exact GL.ret (Gx.retX [.cell 4 64, .tmp 5] rfl (fun a w st => by
    have st0 := st
    obtain ⟨u14, hu14, st⟩ := st.cellRes (p := 4) (T := 64) 5 Tryz_ln64 rfl rfl rfl
    exact ⟨[u14, .int .i64 (4 : Int)], ⟨hu14, ⟨(ResTmp st0.env rfl), trivial⟩⟩, (st.pick [0, 1, 7, 2] (by decide) rfl).toPostM (V := fun (o : Value) => .tuple #[o, .int .i64 (((((0 : Int), (0 : Int)) : (Int × Int)), (4 : Int), x0).2.1)]) (LR := fun (o : Value) => [obox 45 TrH v0 ((((((0 : Int), (0 : Int)) : (Int × Int)), (4 : Int), x0).2.2).1, ((((((0 : Int), (0 : Int)) : (Int × Int)), (4 : Int), x0).2.2).2.1, u0a)), obox 55 TrL u0a ((((((0 : Int), (0 : Int)) : (Int × Int)), (4 : Int), x0).2.2).2.2), imm (TR.pair TR.int TR.int) o (((((0 : Int), (0 : Int)) : (Int × Int)), (4 : Int), x0).1), keep X]) u14⟩))
 replace hm := ite_f b11 hm
 refine GL.skip ?_
 refine GL.seq ?_
 refine GL.regionA rfl rfl ?_
 refine RA.mv 0 rfl (by kernel_rfl) rfl rfl rfl ?_
 refine RA.mv 4 rfl (by kernel_rfl) rfl rfl rfl ?_
 refine RA.still (le := q_89) (f := 8) [1, 2, 3, 5, 6, 7, 8, 9, 10, 11] 12 rfl (by kernel_rfl) ?_
 simp only [pickOps, List.getElem?_toArray, List.getElem?_cons_succ, List.getElem?_cons_zero]
 refine RL.nilk 0 rfl rfl rfl rfl PtOf.obox ?_
 refine RL.fadr (off := 0) (fo := 1) 0 Tryz_fld45_1 rfl rfl rfl PtOf.obox (Or.inr ⟨rfl, rfl⟩) ?_
 refine RL.ldP (off := (0 + 1)) (r := (TR.sl TrD)) (e' := x0.2.1) 0 Tryz_ln43 rfl rfl (Or.inl rfl) rfl PtOf.obox (Part.snd (Part.fst Part.self)) ?_
 intro v21
 refine RL.nilk 0 rfl rfl rfl rfl PtOf.obox ?_
 refine RL.fadr (off := 0) (fo := 0) 0 Tryz_fld45_0 rfl rfl rfl PtOf.obox (Or.inr ⟨rfl, rfl⟩) ?_
 refine RL.ldP (off := (0 + 0)) (r := (TR.sl TrA)) (e' := x0.1) 0 Tryz_ln42 rfl rfl (Or.inl rfl) rfl PtOf.obox (Part.fst Part.self) ?_
 intro v22
 refine RL.fadr (off := 0) (fo := 2) 4 Tryz_fld59_2 rfl rfl rfl PtOf.obox (Or.inr ⟨rfl, rfl⟩) ?_
 refine RL.ldPx (off := (0 + 2)) (e' := x1.2.2.1) 4 Ex.str Tryz_ln9 rfl rfl (Or.inl rfl) rfl PtOf.obox (Part.snd (Part.snd (Part.fst Part.self))) ?_
 refine RL.fadr (off := 0) (fo := 1) 4 Tryz_fld59_1 rfl rfl rfl PtOf.obox (Or.inr ⟨rfl, rfl⟩) ?_
 refine RL.ldPx (off := (0 + 1)) (e' := x1.2.1) 4 Ex.ik Tryz_ln3 rfl rfl (Or.inl rfl) rfl PtOf.obox (Part.snd (Part.fst Part.self)) ?_
 refine RL.finH ?_
 refine RL.fin ?_
 refine RA.next ?_
 refine RA.seq 12 rfl (by kernel_rfl) ?_
 obtain ⟨y23, e24, hm⟩ := bind_some hm
 refine RL.call (vs := [v21, v22, (sv x1.2.2.1), .int .i64 x1.2.1]) Tryz_fit70 rfl rfl rfl rfl rfl (fun S f w hS hW hi => pick_Build_c S w hS _ _ (hi 6 _ rfl) _ _ (hi 7 _ rfl) x1.2.2.1 x1.2.1 _ e24) ?_
 intro ⟨v25, v26⟩
 refine RL.fin ?_
 refine RA.next ?_
 refine RA.quiet 13 rfl rfl (by kernel_rfl) ?_
 simp only [List.drop_succ_cons, List.drop_zero]
 refine RL.mv rfl rfl rfl ?_
 refine RL.ext rfl rfl rfl rfl ?_
 refine RL.ext rfl rfl rfl rfl ?_
 refine RL.ext rfl rfl rfl rfl ?_
 refine RL.asg rfl rfl rfl ?_
 refine RL.asg rfl rfl rfl ?_
 refine RL.asg rfl rfl rfl ?_
 refine RL.finQ ?_
 refine RA.outQ ?_
 refine GL.weak (env' := [(0, v0), (3, v5), (4, v6), (6, v25), (7, v26), (8, .int .i64 y23.2.2)]) (L' := [obox 45 TrH v0 (x0.1, (x0.2.1, u0a)), obox 55 TrL u0a x0.2.2, keep X, obox 59 TrE v5 x1, obox 64 (TR.pair TR.int TR.int) v6 ((0 : Int), (0 : Int)), own 3 TR.int v25 y23.1, own 86 TrA v26 y23.2.1]) (fun a w st => St.cut [0, 1, 2, 4, 5, 8, 9] ⟨rfl, rfl, rfl, rfl, rfl, rfl, trivial⟩ (by decide) rfl st) ?_
 refine GL.seq ?_
 refine GL.seq ?_
 refine GL.region ?_
 refine RL.mv rfl rfl rfl ?_
 refine RL.binI (v := .bool (y23.2.2 != (0 : Int))) rfl rfl rfl rfl rfl ?_
 refine RL.finG ?_
 refine GL.cond rfl (fun b27 => ?_) (fun b27 => ?_)
 ·replace hm := ite_t b27 hm
  refine GL.seq ?_
  refine GL.region ?_
  refine RL.bld (t := (TR.pair TR.int TR.int)) (d0 := (((0 : Int), (0 : Int)) : (Int × Int))) (pv := []) rfl Tryz_bld64 rfl rfl rfl trivial (fun S f hi => by
    show TR.rep (TR.pair TR.int TR.int) S (List.flatten [[.int .i64 0], [.int .i64 0]]) _
    simp only [ List.flatten_cons, List.flatten_nil, List.append_nil]
    exact ⟨_, _, rfl, rfl, rfl⟩) ?_
  intro v29
  refine RL.mv rfl rfl rfl ?_
  refine RL.stP (off := 0) (e' := (((0 : Int), (0 : Int)) : (Int × Int))) (d1 := (((0 : Int), (0 : Int)) : (Int × Int))) (r := (TR.pair TR.int TR.int)) 4 Tryz_ln64 rfl rfl (Or.inr ⟨rfl, rfl⟩) rfl (VR.item 7 rfl) rfl Upd.self ?_
  refine RL.reL (L' := [obox 45 TrH v0 (x0.1, (x0.2.1, u0a)), obox 55 TrL u0a x0.2.2, keep X, obox 59 TrE v5 x1, obox 64 (TR.pair TR.int TR.int) v6 (((0 : Int), (0 : Int)) : (Int × Int)), own 3 TR.int v25 y23.1, own 86 TrA v26 y23.2.1, imm (TR.pair TR.int TR.int) v29 (((0 : Int), (0 : Int)) : (Int × Int))]) rfl ?_
  refine RL.asg rfl rfl rfl ?_
  refine RL.finG ?_
  have hm := Option.some.inj hm
  subst hm
  exact GL.ret (Gx.retX [.cell 4 64, .tmp 5] rfl (fun a w st => by
    have st0 := st
    obtain ⟨u30, hu30, st⟩ := st.cellRes (p := 4) (T := 64) 4 Tryz_ln64 rfl rfl rfl
    exact ⟨[u30, .int .i64 y23.2.2], ⟨hu30, ⟨(ResTmp st0.env rfl), trivial⟩⟩, (st.pick [0, 1, 8, 2] (by decide) rfl).toPostM (V := fun (o : Value) => .tuple #[o, .int .i64 (((((0 : Int), (0 : Int)) : (Int × Int)), y23.2.2, x0).2.1)]) (LR := fun (o : Value) => [obox 45 TrH v0 ((((((0 : Int), (0 : Int)) : (Int × Int)), y23.2.2, x0).2.2).1, ((((((0 : Int), (0 : Int)) : (Int × Int)), y23.2.2, x0).2.2).2.1, u0a)), obox 55 TrL u0a ((((((0 : Int), (0 : Int)) : (Int × Int)), y23.2.2, x0).2.2).2.2), imm (TR.pair TR.int TR.int) o (((((0 : Int), (0 : Int)) : (Int × Int)), y23.2.2, x0).1), keep X]) u30⟩))
 replace hm := ite_f b27 hm
 refine GL.skip ?_
 refine GL.seq ?_
 refine GL.region ?_
 refine RL.asg rfl rfl rfl ?_
 refine RL.finG ?_
 refine GL.seq ?_
 refine GL.region ?_
 refine RL.mv rfl rfl rfl ?_
 refine RL.nilk 0 rfl rfl rfl rfl PtOf.obox ?_
 refine RL.fadr (off := 0) (fo := 2) 0 Tryz_fld45_2 rfl rfl rfl PtOf.obox (Or.inr ⟨rfl, rfl⟩) ?_
 refine RL.ldPx (off := (0 + 2)) (e' := u0a) 0 Ex.raw Tryz_ln40 rfl rfl (Or.inl rfl) rfl PtOf.obox (Part.snd (Part.snd Part.self)) ?_
 obtain ⟨y33, e34, hm⟩ := bind_some hm
 refine RL.callV (v := .tuple #[.int .i64 y33.1, .int .i64 y33.2]) (vs := [u0a]) Tryz_fit71 rfl (Or.inl rfl) rfl rfl rfl rfl (fun U w hU hW hL => log_Log_Size_c U w hU _ _ (hL 1 _ _ rfl Seen.obox) _ e34) ?_
 refine RL.mv rfl rfl rfl ?_
 refine RL.ext rfl rfl rfl rfl ?_
 refine RL.ext rfl rfl rfl rfl ?_
 refine RL.asg rfl rfl rfl ?_
 refine RL.asg rfl rfl rfl ?_
 refine RL.finG ?_
 refine GL.seq ?_
 refine GL.region ?_
 refine RL.asg rfl rfl rfl ?_
 refine RL.finG ?_
 refine GL.seq ?_
 refine GL.seq ?_
 refine GL.region ?_
 refine RL.mv rfl rfl rfl ?_
 refine RL.lenS 5 Tryz.underlying61 rfl rfl rfl rfl SlOf.own ?_
 refine RL.mv rfl rfl rfl ?_
 refine RL.finG ?_
 refine GL.weak (fun a w st => st.nilOwn 9 TR.str) ?_
 refine GL.lenOwn 5 rfl (fun n69 => ?_)
 obtain ⟨y70, K71, h72, h73, h74, h75, h76⟩ := bindR_K hm
 refine GL.join (ι := (List B8) × Int × Int × Value) (fun (p : (List B8) × Int × Int × Value) => [(0, v0), (4, v6), (6, v25), (7, v26), (9, p.2.2.2), (10, .int .i64 p.2.1), (12, .int .i64 p.2.2.1)]) (fun (p : (List B8) × Int × Int × Value) => [obox 45 TrH v0 (x0.1, (x0.2.1, u0a)), obox 55 TrL u0a x0.2.2, keep X, obox 64 (TR.pair TR.int TR.int) v6 ((0 : Int), (0 : Int)), own 3 TR.int v25 y23.1, own 86 TrA v26 y23.2.1, own 9 TR.str p.2.2.2 p.1]) (fun (p : (List B8) × Int × Int × Value) => K71 (.nx (p.1, p.2.1, p.2.2.1))) ?_ ?_
 ·refine GL.block ?_
  refine GL.loop (ι := Nat × Nat × (List B8) × Int × Int × Value) (fun (p : Nat × Nat × (List B8) × Int × Int × Value) => [(0, v0), (3, v5), (4, v6), (6, v25), (7, v26), (9, p.2.2.2.2.2), (10, .int .i64 p.2.2.2.1), (12, .int .i64 p.2.2.2.2.1), (53, v25), (54, .int .i64 ((y23.1).length : Int)), (55, .int .i64 (p.1 : Int))]) (fun (p : Nat × Nat × (List B8) × Int × Int × Value) => [obox 45 TrH v0 (x0.1, (x0.2.1, u0a)), obox 55 TrL u0a x0.2.2, obox 59 TrE v5 x1, obox 64 (TR.pair TR.int TR.int) v6 ((0 : Int), (0 : Int)), own 3 TR.int v25 y23.1, own 86 TrA v26 y23.2.1, own 9 TR.str p.2.2.2.2.2 p.2.2.1, keep X]) (fun (p : Nat × Nat × (List B8) × Int × Int × Value) => p.1 + p.2.1 = (y23.1).length ∧ rangeN (house_House_build_b1 y23 x0 x1) p.2.1 p.1 (p.2.2.1, p.2.2.2.1, p.2.2.2.2.1) = some y70) (fun (p : Nat × Nat × (List B8) × Int × Int × Value) => p.2.1) (0, (y23.1).length, [], y33.1, (0 : Int), Value.slice none 0 0) ⟨by simp, h72⟩ (fun a w st => St.cut [0, 1, 3, 4, 5, 6, 7, 2] ⟨rfl, rfl, rfl, rfl, rfl, rfl, rfl, rfl, rfl, rfl, rfl, trivial⟩ (by decide) rfl st) ?_
  rintro ⟨i77, r78, l35, x37, x38, v36⟩ ⟨h83, h82⟩
  try dsimp only at h83 h82
  refine GL.weak (env' := [(0, v0), (3, v5), (4, v6), (6, v25), (7, v26), (9, v36), (10, .int .i64 x37), (12, .int .i64 x38), (53, v25), (54, .int .i64 ((y23.1).length : Int)), (55, .int .i64 (i77 : Int))]) (L' := [obox 45 TrH v0 (x0.1, (x0.2.1, u0a)), obox 55 TrL u0a x0.2.2, obox 59 TrE v5 x1, obox 64 (TR.pair TR.int TR.int) v6 ((0 : Int), (0 : Int)), own 3 TR.int v25 y23.1, own 86 TrA v26 y23.2.1, own 9 TR.str v36 l35, keep X]) (fun _ _ st => st) ?_
  refine GL.seq ?_
  refine GL.region ?_
  refine RL.binI (v := .bool (decide ((i77 : Int) < ((y23.1).length : Int)))) rfl rfl rfl rfl rfl ?_
  refine RL.finG ?_
  refine GL.seq ?_
  refine GL.cond rfl (fun b85 => ?_) (fun b85 => ?_)
  ·have h86 : i77 < (y23.1).length := by have := of_decide_eq_true b85; omega
   obtain ⟨r87, hr⟩ : ∃ m, r78 = m + 1 := ⟨r78 - 1, by omega⟩
   subst hr
   obtain ⟨z79, h80, h81⟩ := rangeN_some h82
   unfold house_House_build_b1 at h80
   try dsimp only at h80
   refine GL.skip ?_
   refine GL.seq ?_
   refine GL.block ?_
   refine GL.seq ?_
   refine GL.region ?_
   obtain ⟨y90, e91, h80⟩ := bind_some h80
   refine RL.idxS (sz := 1) 4 Tryz.underlying61 Tryz_ln3 rfl rfl rfl rfl rfl SlOf.own (idx_some e91).1 (idx_some e91).2.1 ?_
   refine RL.ldSx (i := i77) (e' := y90) 4 Ex.ik Tryz_ln3 rfl rfl rfl rfl SlOf.own (idx_some e91).2.2 Part.self ?_
   refine RL.asg rfl rfl rfl ?_
   refine RL.finG ?_
   refine GL.seq ?_
   refine GL.regionQ rfl rfl (by kernel_rfl) ?_
   refine RL.mv rfl rfl rfl ?_
   refine RL.nilk 0 rfl rfl rfl rfl PtOf.obox ?_
   refine RL.fadr (off := 0) (fo := 1) 0 Tryz_fld45_1 rfl rfl rfl PtOf.obox (Or.inr ⟨rfl, rfl⟩) ?_
   refine RL.ldP (off := (0 + 1)) (r := (TR.sl TrD)) (e' := x0.2.1) 0 Tryz_ln43 rfl rfl (Or.inl rfl) rfl PtOf.obox (Part.snd (Part.fst Part.self)) ?_
   intro v98
   refine RL.mv rfl rfl rfl ?_
   obtain ⟨y99, e100, h80⟩ := bind_some h80
   refine RL.idxS (sz := 6) 8 Tryz.underlying43 Tryz_ln57 rfl rfl rfl rfl rfl SlOf.imm (idx_some e100).1 (idx_some e100).2.1 ?_
   refine RL.ldS (i := (y90).toNat) (r := TrD) (e' := y99) 8 Tryz_ln57 rfl rfl rfl rfl SlOf.imm (idx_some e100).2.2 Part.self ?_
   intro v101
   refine RL.reL (L' := [obox 45 TrH v0 (x0.1, (x0.2.1, u0a)), obox 55 TrL u0a x0.2.2, obox 59 TrE v5 x1, obox 64 (TR.pair TR.int TR.int) v6 ((0 : Int), (0 : Int)), own 3 TR.int v25 y23.1, own 86 TrA v26 y23.2.1, own 9 TR.str v36 l35, keep X, imm (TR.sl TrD) v98 x0.2.1, imm TrD v101 y99]) rfl ?_
   refine RL.fadr (off := 0) (fo := 2) 2 Tryz_fld59_2 rfl rfl rfl PtOf.obox (Or.inr ⟨rfl, rfl⟩) ?_
   refine RL.ldPx (off := (0 + 2)) (e' := x1.2.2.1) 2 Ex.str Tryz_ln9 rfl rfl (Or.inl rfl) rfl PtOf.obox (Part.snd (Part.snd (Part.fst Part.self))) ?_
   obtain ⟨y102, e103, h80⟩ := bind_some h80
   refine RL.callV (v := (sv y102)) (vs := [v101, (sv x1.2.2.1)]) Tryz_fit72 rfl (Or.inr ⟨_, rfl⟩) rfl rfl rfl rfl (fun U w hU hW hL => house_deal_c U w hU (hT.mono hW) _ _ (hL 9 _ _ rfl Seen.imm) x1.2.2.1 _ e103) ?_
   refine RL.asg rfl rfl rfl ?_
   refine RL.finQG ?_
   refine GL.seq ?_
   refine GL.region ?_
   refine RL.mv rfl rfl rfl ?_
   refine RL.mv rfl rfl rfl ?_
   refine RL.bS (t := TR.str) (vs := [(sv y102)]) ([y102] : (List B8)) Tryz.underlying22 Tryz_lo9 rfl rfl rfl rfl ⟨VR.str, trivial⟩ rfl (by decide) ?_
   intro v108
   obtain ⟨y109, e110, h80⟩ := bind_some h80
   replace e110 := chk_some e110
   refine RL.app 6 10 Tryz.underlying22 Tryz_lo9 rfl rfl rfl rfl rfl rfl rfl SlOf.own e110 ?_
   intro v111
   refine RL.reL (L' := [obox 45 TrH v0 (x0.1, (x0.2.1, u0a)), obox 55 TrL u0a x0.2.2, obox 59 TrE v5 x1, obox 64 (TR.pair TR.int TR.int) v6 ((0 : Int), (0 : Int)), own 3 TR.int v25 y23.1, own 86 TrA v26 y23.2.1, own 9 TR.str v111 (l35 ++ ([y102] : (List B8))), keep X, imm (TR.sl TrD) v98 x0.2.1, imm TrD v101 y99, own 9 TR.str v108 ([y102] : (List B8))]) rfl ?_
   refine RL.asg rfl rfl rfl ?_
   refine RL.finG ?_
   refine GL.seq ?_
   refine GL.region ?_
   refine RL.mv rfl rfl rfl ?_
   refine RL.mv rfl rfl rfl ?_
   refine RL.lenT Tryz.underlying9 rfl rfl rfl ?_
   refine RL.binI (v := .int .i64 (wadd ((y102).length : Int) (3 : Int))) rfl rfl rfl rfl rfl ?_
   refine RL.binI (v := .int .i64 (wadd x37 (wadd ((y102).length : Int) (3 : Int)))) rfl rfl rfl rfl rfl ?_
   refine RL.asg rfl rfl rfl ?_
   refine RL.finG ?_
   refine GL.region ?_
   refine RL.mv rfl rfl rfl ?_
   refine RL.mv rfl rfl rfl ?_
   refine RL.nilk 0 rfl rfl rfl rfl PtOf.obox ?_
   refine RL.fadr (off := 0) (fo := 1) 0 Tryz_fld45_1 rfl rfl rfl PtOf.obox (Or.inr ⟨rfl, rfl⟩) ?_
   refine RL.ldP (off := (0 + 1)) (r := (TR.sl TrD)) (e' := x0.2.1) 0 Tryz_ln43 rfl rfl (Or.inl rfl) rfl PtOf.obox (Part.snd (Part.fst Part.self)) ?_
   intro v115
   refine RL.mv rfl rfl rfl ?_
   obtain ⟨y116, e117, h80⟩ := bind_some h80
   refine RL.idxS (sz := 6) 11 Tryz.underlying43 Tryz_ln57 rfl rfl rfl rfl rfl SlOf.imm (idx_some e117).1 (idx_some e117).2.1 ?_
   refine RL.fadrS (off := ((y90).toNat * 6)) (fo := 4) 11 Tryz_fld57_4 rfl rfl rfl SlOf.imm (by have := (List.getElem?_eq_some_iff.1 (idx_some e117).2.2).1; (try dsimp only at this ⊢); omega) rfl ?_
   refine RL.ldSx (i := (y90).toNat) (e' := y116.2.2.2.2.1) 11 Ex.ik Tryz_ln3 rfl rfl rfl rfl SlOf.imm (idx_some e117).2.2 (Part.snd (Part.snd (Part.snd (Part.snd (Part.fst Part.self))))) ?_
   refine RL.binI (v := .int .i64 (wadd x38 y116.2.2.2.2.1)) rfl rfl rfl rfl rfl ?_
   refine RL.asg rfl rfl rfl ?_
   refine RL.finG ?_
   refine GL.nilB ?_
   refine GL.region ?_
   refine RL.binI (v := .int .i64 ((i77 + 1 : Nat) : Int)) rfl rfl rfl rfl (binI_succ i77 (by omega)) ?_
   refine RL.mv rfl rfl rfl ?_
   refine RL.fin ?_
   cases h80
   exact fun a w st => lop_intro (i77 + 1, r87, (l35 ++ ([y102] : (List B8))), wadd x37 (wadd ((y102).length : Int) (3 : Int)), wadd x38 y116.2.2.2.2.1, v111) ⟨by show i77 + 1 + r87 = (y23.1).length; omega, h81⟩ (by simp) (St.cut [0, 1, 2, 3, 4, 5, 6, 7] ⟨rfl, rfl, rfl, rfl, rfl, rfl, rfl, rfl, rfl, rfl, rfl, trivial⟩ (by decide) rfl st)
  have h86 : ¬ i77 < (y23.1).length := by have := of_decide_eq_false b85; omega
  obtain rfl : r78 = 0 := by omega
  replace h82 : some (Fl.nx _) = some y70 := h82
  cases h82
  exact GL.exit (fun a w st => mid_intro (l35, x37, x38, v36) h73 (St.cut [0, 1, 7, 3, 4, 5, 6] ⟨rfl, rfl, rfl, rfl, rfl, rfl, rfl, trivial⟩ (by decide) rfl st))
 rintro ⟨l35, x37, x38, v36⟩ h118
 have h119 := h74 _ h118
 try dsimp only at h119
 refine GL.weak (env' := [(0, v0), (4, v6), (6, v25), (7, v26), (9, v36), (10, .int .i64 x37), (12, .int .i64 x38)]) (L' := [obox 45 TrH v0 (x0.1, (x0.2.1, u0a)), obox 55 TrL u0a x0.2.2, keep X, obox 64 (TR.pair TR.int TR.int) v6 ((0 : Int), (0 : Int)), own 3 TR.int v25 y23.1, own 86 TrA v26 y23.2.1, own 9 TR.str v36 l35]) (fun _ _ st => st) ?_
 refine GL.seq ?_
 refine GL.seq ?_
 refine GL.region ?_
 refine RL.mv rfl rfl rfl ?_
 refine RL.binI (v := .bool (decide (x37 > (4000 : Int)))) rfl rfl rfl rfl rfl ?_
 refine RL.finG ?_
 refine GL.cond rfl (fun b120 => ?_) (fun b120 => ?_)
 ·replace h119 := ite_t b120 h119
  refine GL.seq ?_
  refine GL.region ?_
  refine RL.bld (t := (TR.pair TR.int TR.int)) (d0 := (((0 : Int), (0 : Int)) : (Int × Int))) (pv := []) rfl Tryz_bld64 rfl rfl rfl trivial (fun S f hi => by
    show TR.rep (TR.pair TR.int TR.int) S (List.flatten [[.int .i64 0], [.int .i64 0]]) _
    simp only [ List.flatten_cons, List.flatten_nil, List.append_nil]
    exact ⟨_, _, rfl, rfl, rfl⟩) ?_
  intro v122
  refine RL.stP (off := 0) (e' := (((0 : Int), (0 : Int)) : (Int × Int))) (d1 := (((0 : Int), (0 : Int)) : (Int × Int))) (r := (TR.pair TR.int TR.int)) 3 Tryz_ln64 rfl rfl (Or.inr ⟨rfl, rfl⟩) rfl (VR.item 7 rfl) rfl Upd.self ?_
  refine RL.reL (L' := [obox 45 TrH v0 (x0.1, (x0.2.1, u0a)), obox 55 TrL u0a x0.2.2, keep X, obox 64 (TR.pair TR.int TR.int) v6 (((0 : Int), (0 : Int)) : (Int × Int)), own 3 TR.int v25 y23.1, own 86 TrA v26 y23.2.1, own 9 TR.str v36 l35, imm (TR.pair TR.int TR.int) v122 (((0 : Int), (0 : Int)) : (Int × Int))]) rfl ?_
  refine RL.asg rfl rfl rfl ?_
  refine RL.finG ?_
  have h119 := Option.some.inj h119
  subst h119
  exact GL.ret (Gx.retX [.cell 4 64, .tmp 5] rfl (fun a w st => by
    have st0 := st
    obtain ⟨u123, hu123, st⟩ := st.cellRes (p := 4) (T := 64) 3 Tryz_ln64 rfl rfl rfl
    exact ⟨[u123, .int .i64 (8 : Int)], ⟨hu123, ⟨(ResTmp st0.env rfl), trivial⟩⟩, (st.pick [0, 1, 8, 2] (by decide) rfl).toPostM (V := fun (o : Value) => .tuple #[o, .int .i64 (((((0 : Int), (0 : Int)) : (Int × Int)), (8 : Int), x0).2.1)]) (LR := fun (o : Value) => [obox 45 TrH v0 ((((((0 : Int), (0 : Int)) : (Int × Int)), (8 : Int), x0).2.2).1, ((((((0 : Int), (0 : Int)) : (Int × Int)), (8 : Int), x0).2.2).2.1, u0a)), obox 55 TrL u0a ((((((0 : Int), (0 : Int)) : (Int × Int)), (8 : Int), x0).2.2).2.2), imm (TR.pair TR.int TR.int) o (((((0 : Int), (0 : Int)) : (Int × Int)), (8 : Int), x0).1), keep X]) u123⟩))
 replace h119 := ite_f b120 h119
 refine GL.skip ?_
 refine GL.seq ?_
 refine GL.seq ?_
 refine GL.region ?_
 refine RL.mv rfl rfl rfl ?_
 refine RL.lenS 6 Tryz.underlying22 rfl rfl rfl rfl SlOf.own ?_
 refine RL.mv rfl rfl rfl ?_
 refine RL.finG ?_
 refine GL.lenOwn 6 rfl (fun n141 => ?_)
 obtain ⟨y142, K143, h144, h145, h146, h147, h148⟩ := bindR_K h119
 refine GL.join (ι := TyH) (fun (p : TyH) => [(0, v0), (4, v6), (6, v25), (7, v26), (12, .int .i64 x38)]) (fun (p : TyH) => [obox 45 TrH v0 (p.1, (p.2.1, u0a)), obox 55 TrL u0a p.2.2, keep X, obox 64 (TR.pair TR.int TR.int) v6 ((0 : Int), (0 : Int)), own 3 TR.int v25 y23.1, own 86 TrA v26 y23.2.1]) (fun (p : TyH) => K143 (.nx p)) ?_ ?_
 ·refine GL.block ?_
  refine GL.loop (ι := Nat × Nat × TyH) (fun (p : Nat × Nat × TyH) => [(0, v0), (4, v6), (6, v25), (7, v26), (12, .int .i64 x38), (92, v36), (93, .int .i64 ((l35).length : Int)), (94, .int .i64 (p.1 : Int))]) (fun (p : Nat × Nat × TyH) => [obox 45 TrH v0 (p.2.2.1, (p.2.2.2.1, u0a)), obox 55 TrL u0a p.2.2.2.2, obox 64 (TR.pair TR.int TR.int) v6 ((0 : Int), (0 : Int)), own 3 TR.int v25 y23.1, own 86 TrA v26 y23.2.1, own 9 TR.str v36 l35, keep X]) (fun (p : Nat × Nat × TyH) => p.1 + p.2.1 = (l35).length ∧ rangeN (house_House_build_b2 l35) p.2.1 p.1 p.2.2 = some y142) (fun (p : Nat × Nat × TyH) => p.2.1) (0, (l35).length, x0) ⟨by simp, h144⟩ (fun a w st => St.cut [0, 1, 3, 4, 5, 6, 2] ⟨rfl, rfl, rfl, rfl, rfl, rfl, rfl, rfl, trivial⟩ (by decide) rfl st) ?_
  rintro ⟨i149, r150, l132⟩ ⟨h155, h154⟩
  try dsimp only at h155 h154
  refine GL.weak (env' := [(0, v0), (4, v6), (6, v25), (7, v26), (12, .int .i64 x38), (92, v36), (93, .int .i64 ((l35).length : Int)), (94, .int .i64 (i149 : Int))]) (L' := [obox 45 TrH v0 (l132.1, (l132.2.1, u0a)), obox 55 TrL u0a l132.2.2, obox 64 (TR.pair TR.int TR.int) v6 ((0 : Int), (0 : Int)), own 3 TR.int v25 y23.1, own 86 TrA v26 y23.2.1, own 9 TR.str v36 l35, keep X]) (fun _ _ st => st) ?_
  refine GL.seq ?_
  refine GL.region ?_
  refine RL.binI (v := .bool (decide ((i149 : Int) < ((l35).length : Int)))) rfl rfl rfl rfl rfl ?_
  refine RL.finG ?_
  refine GL.seq ?_
  refine GL.cond rfl (fun b157 => ?_) (fun b157 => ?_)
  ·have h158 : i149 < (l35).length := by have := of_decide_eq_true b157; omega
   obtain ⟨r159, hr⟩ : ∃ m, r150 = m + 1 := ⟨r150 - 1, by omega⟩
   subst hr
   obtain ⟨z151, h152, h153⟩ := rangeN_some h154
   unfold house_House_build_b2 at h152
   try dsimp only at h152
   refine GL.skip ?_
   refine GL.seq ?_
   refine GL.block ?_
   refine GL.seq ?_
   refine GL.region ?_
   obtain ⟨y162, e163, h152⟩ := bind_some h152
   refine RL.idxS (sz := 1) 5 Tryz.underlying22 Tryz_ln9 rfl rfl rfl rfl rfl SlOf.own (idx_some e163).1 (idx_some e163).2.1 ?_
   refine RL.ldSx (i := i149) (e' := y162) 5 Ex.str Tryz_ln9 rfl rfl rfl rfl SlOf.own (idx_some e163).2.2 Part.self ?_
   refine RL.asg rfl rfl rfl ?_
   refine RL.finG ?_
   refine GL.region ?_
   refine RL.mv rfl rfl rfl ?_
   refine RL.nilk 0 rfl rfl rfl rfl PtOf.obox ?_
   refine RL.fadr (off := 0) (fo := 2) 0 Tryz_fld45_2 rfl rfl rfl PtOf.obox (Or.inr ⟨rfl, rfl⟩) ?_
   refine RL.ldPx (off := (0 + 2)) (e' := u0a) 0 Ex.raw Tryz_ln40 rfl rfl (Or.inl rfl) rfl PtOf.obox (Part.snd (Part.snd Part.self)) ?_
   refine RL.mv rfl rfl rfl ?_
   obtain ⟨y166, e167, h152⟩ := bind_some h152
   refine RL.callK (vs := [u0a, (sv y162)]) (V := fun (o : Unit) => .int .i64 y166.1) (LR := fun (o : Unit) => [obox 55 TrL u0a y166.2]) (Ls := [obox 55 TrL u0a l132.2.2]) [1] (by decide) Tryz_fit65 rfl rfl rfl rfl rfl rfl (fun S f X w hO hB hW hI hL => log_Log_Append_c _ S X f w _ _  hO hB hI y162 _ e167) ?_
   intro _
   refine RL.reL (L' := [obox 45 TrH v0 (l132.1, (l132.2.1, u0a)), gone, obox 64 (TR.pair TR.int TR.int) v6 ((0 : Int), (0 : Int)), own 3 TR.int v25 y23.1, own 86 TrA v26 y23.2.1, own 9 TR.str v36 l35, keep X, obox 55 TrL u0a y166.2]) rfl ?_
   refine RL.finG ?_
   refine GL.nilB ?_
   refine GL.region ?_
   refine RL.binI (v := .int .i64 ((i149 + 1 : Nat) : Int)) rfl rfl rfl rfl (binI_succ i149 (by omega)) ?_
   refine RL.mv rfl rfl rfl ?_
   refine RL.fin ?_
   cases h152
   exact fun a w st => lop_intro (i149 + 1, r159, (l132.1, (l132.2.1, y166.2))) ⟨by show i149 + 1 + r159 = (l35).length; omega, h153⟩ (by simp) (St.cut [0, 7, 2, 3, 4, 5, 6] ⟨rfl, rfl, rfl, rfl, rfl, rfl, rfl, rfl, trivial⟩ (by decide) rfl st)
  have h158 : ¬ i149 < (l35).length := by have := of_decide_eq_false b157; omega
  obtain rfl : r150 = 0 := by omega
  replace h154 : some (Fl.nx _) = some y142 := h154
  cases h154
  exact GL.exit (fun a w st => mid_intro l132 h145 (St.cut [0, 1, 6, 2, 3, 4] ⟨rfl, rfl, rfl, rfl, rfl, trivial⟩ (by decide) rfl st))
 rintro l132 h168
 have h169 := h146 _ h168
 try dsimp only at h169
 refine GL.weak (env' := [(0, v0), (4, v6), (6, v25), (7, v26), (12, .int .i64 x38)]) (L' := [obox 45 TrH v0 (l132.1, (l132.2.1, u0a)), obox 55 TrL u0a l132.2.2, keep X, obox 64 (TR.pair TR.int TR.int) v6 ((0 : Int), (0 : Int)), own 3 TR.int v25 y23.1, own 86 TrA v26 y23.2.1]) (fun _ _ st => st) ?_
 refine GL.seq ?_
 refine GL.region ?_
 refine RL.mv rfl rfl rfl ?_
 refine RL.mv rfl rfl rfl ?_
 refine RL.nilk 0 rfl rfl rfl rfl PtOf.obox ?_
 refine RL.fadr (off := 0) (fo := 0) 0 Tryz_fld45_0 rfl rfl rfl PtOf.obox (Or.inr ⟨rfl, rfl⟩) ?_
 refine RL.weak (fun a w st => st.freeze 5 rfl) ?_
 refine RL.stP (off := (0 + 0)) (e' := y23.2.1) (d1 := ((y23.2.1, l132.2).1, ((y23.2.1, l132.2).2.1, u0a))) (r := (TR.sl TrA)) 0 Tryz_ln42 rfl rfl (Or.inl rfl) rfl (VR.item 5 rfl) rfl (Upd.fst Upd.self) ?_
 refine RL.reL (L' := [obox 45 TrH v0 ((y23.2.1, l132.2).1, ((y23.2.1, l132.2).2.1, u0a)), obox 55 TrL u0a l132.2.2, keep X, obox 64 (TR.pair TR.int TR.int) v6 ((0 : Int), (0 : Int)), own 3 TR.int v25 y23.1, imm (TR.sl TrA) v26 y23.2.1]) rfl ?_
 refine RL.finG ?_
 refine GL.seq ?_
 refine GL.region ?_
 refine RL.mv rfl rfl rfl ?_
 refine RL.mv rfl rfl rfl ?_
 refine RL.nilk 0 rfl rfl rfl rfl PtOf.obox ?_
 refine RL.fadr (off := 0) (fo := 1) 0 Tryz_fld45_1 rfl rfl rfl PtOf.obox (Or.inr ⟨rfl, rfl⟩) ?_
 refine RL.ldP (off := (0 + 1)) (r := (TR.sl TrD)) (e' := (y23.2.1, l132.2).2.1) 0 Tryz_ln43 rfl rfl (Or.inl rfl) rfl PtOf.obox (Part.snd (Part.fst Part.self)) ?_
 intro v174
 refine RL.mv rfl rfl rfl ?_
 obtain ⟨y175, e176, h169⟩ := bind_some h169
 refine RL.call (vs := [v174, v26]) Tryz_fit73 rfl rfl rfl rfl rfl (fun S f w hS hW hi => queue_Clean_c S w hS _ _ (hi 6 _ rfl) _ _ (hi 5 _ rfl) _ e176) ?_
 intro v177
 refine RL.reL (L' := [obox 45 TrH v0 ((y23.2.1, l132.2).1, ((y23.2.1, l132.2).2.1, u0a)), obox 55 TrL u0a l132.2.2, keep X, obox 64 (TR.pair TR.int TR.int) v6 ((0 : Int), (0 : Int)), own 3 TR.int v25 y23.1, imm (TR.sl TrA) v26 y23.2.1, imm (TR.sl TrD) v174 ((y23.2.1, l132.2).2.1), own 57 TrD v177 y175.1]) rfl ?_
 refine RL.mv rfl rfl rfl ?_
 refine RL.ext rfl rfl rfl rfl ?_
 refine RL.ext rfl rfl rfl rfl ?_
 refine RL.nilk 0 rfl rfl rfl rfl PtOf.obox ?_
 refine RL.fadr (off := 0) (fo := 1) 0 Tryz_fld45_1 rfl rfl rfl PtOf.obox (Or.inr ⟨rfl, rfl⟩) ?_
 refine RL.weak (fun a w st => st.freeze 7 rfl) ?_
 refine RL.stP (off := (0 + 1)) (e' := y175.1) (d1 := (((y23.2.1, l132.2).1, (y175.1, (y23.2.1, l132.2).2.2)).1, (((y23.2.1, l132.2).1, (y175.1, (y23.2.1, l132.2).2.2)).2.1, u0a))) (r := (TR.sl TrD)) 0 Tryz_ln43 rfl rfl (Or.inl rfl) rfl (VR.item 7 rfl) rfl (Upd.snd (Upd.fst Upd.self)) ?_
 refine RL.reL (L' := [obox 45 TrH v0 (((y23.2.1, l132.2).1, (y175.1, (y23.2.1, l132.2).2.2)).1, (((y23.2.1, l132.2).1, (y175.1, (y23.2.1, l132.2).2.2)).2.1, u0a)), obox 55 TrL u0a l132.2.2, keep X, obox 64 (TR.pair TR.int TR.int) v6 ((0 : Int), (0 : Int)), own 3 TR.int v25 y23.1, imm (TR.sl TrA) v26 y23.2.1, imm (TR.sl TrD) v174 ((y23.2.1, l132.2).2.1), imm (TR.sl TrD) v177 y175.1]) rfl ?_
 refine RL.finG ?_
 refine GL.seq ?_
 refine GL.region ?_
 refine RL.mv rfl rfl rfl ?_
 refine RL.lenS 4 Tryz.underlying61 rfl rfl rfl rfl SlOf.own ?_
 refine RL.mv rfl rfl rfl ?_
 refine RL.bld (t := (TR.pair TR.int TR.int)) (d0 := ((((y23.1).length : Int), x38) : (Int × Int))) (pv := [(0, .int .i64 ((y23.1).length : Int)), (1, .int .i64 x38)]) rfl Tryz_bld64 rfl rfl rfl ⟨⟨_, _, TR.int, ((y23.1).length : Int), rfl, rfl, VR.int⟩, ⟨⟨_, _, TR.int, x38, rfl, rfl, VR.int⟩, trivial⟩⟩ (fun S f hi => by
   obtain ⟨c0, e0, r0⟩ := cells_vrep (t := TR.int) (u := .int .i64 ((y23.1).length : Int)) (e := ((y23.1).length : Int)) (VR.int S f hi)
   obtain ⟨c1, e1, r1⟩ := cells_vrep (t := TR.int) (u := .int .i64 x38) (e := x38) (VR.int S f hi)
   show TR.rep (TR.pair TR.int TR.int) S (List.flatten [(.int .i64 ((y23.1).length : Int) : Value).cells.toList, (.int .i64 x38 : Value).cells.toList]) _
   simp only [e0, e1,  List.flatten_cons, List.flatten_nil, List.append_nil]
   exact ⟨_, _, rfl, r0, r1⟩) ?_
 intro v179
 refine RL.stP (off := 0) (e' := ((((y23.1).length : Int), x38) : (Int × Int))) (d1 := ((((y23.1).length : Int), x38) : (Int × Int))) (r := (TR.pair TR.int TR.int)) 3 Tryz_ln64 rfl rfl (Or.inr ⟨rfl, rfl⟩) rfl (VR.item 8 rfl) rfl Upd.self ?_
 refine RL.reL (L' := [obox 45 TrH v0 (((y23.2.1, l132.2).1, (y175.1, (y23.2.1, l132.2).2.2)).1, (((y23.2.1, l132.2).1, (y175.1, (y23.2.1, l132.2).2.2)).2.1, u0a)), obox 55 TrL u0a l132.2.2, keep X, obox 64 (TR.pair TR.int TR.int) v6 ((((y23.1).length : Int), x38) : (Int × Int)), own 3 TR.int v25 y23.1, imm (TR.sl TrA) v26 y23.2.1, imm (TR.sl TrD) v174 ((y23.2.1, l132.2).2.1), imm (TR.sl TrD) v177 y175.1, imm (TR.pair TR.int TR.int) v179 ((((y23.1).length : Int), x38) : (Int × Int))]) rfl ?_
 refine RL.asg rfl rfl rfl ?_
 refine RL.finG ?_
 have h169 := Option.some.inj h169
 subst h169
 exact GL.ret (Gx.retX [.cell 4 64, .tmp 5] rfl (fun a w st => by
   have st0 := st
   obtain ⟨u180, hu180, st⟩ := st.cellRes (p := 4) (T := 64) 3 Tryz_ln64 rfl rfl rfl
   exact ⟨[u180, .int .i64 (0 : Int)], ⟨hu180, ⟨(ResTmp st0.env rfl), trivial⟩⟩, (st.pick [0, 1, 9, 2] (by decide) rfl).toPostM (V := fun (o : Value) => .tuple #[o, .int .i64 ((((((y23.1).length : Int), x38) : (Int × Int)), (0 : Int), (y23.2.1, (y175.1, l132.2.2))).2.1)]) (LR := fun (o : Value) => [obox 45 TrH v0 (((((((y23.1).length : Int), x38) : (Int × Int)), (0 : Int), (y23.2.1, (y175.1, l132.2.2))).2.2).1, (((((((y23.1).length : Int), x38) : (Int × Int)), (0 : Int), (y23.2.1, (y175.1, l132.2.2))).2.2).2.1, u0a)), obox 55 TrL u0a (((((((y23.1).length : Int), x38) : (Int × Int)), (0 : Int), (y23.2.1, (y175.1, l132.2.2))).2.2).2.2), imm (TR.pair TR.int TR.int) o ((((((y23.1).length : Int), x38) : (Int × Int)), (0 : Int), (y23.2.1, (y175.1, l132.2.2))).1), keep X]) u180⟩))

theorem log_Log_Sync_c (B : World) (S X : Hp) (f : Nat → Hp) (w : World) (v0 : Value) (x0 : (B8 × Int)) (hO : HeapOk B.heap.size S f [obox 55 TrL v0 x0, keep X].length w) (hB : Below B.heap.size B w) (hI : Its [obox 55 TrL v0 x0, keep X] S f)  (res : (B8 × Int)) (hm : log_Log_Sync_m x0 = some res) : Calls Tryz.prog 45 #[v0] w (PostM B S (fun (o : Unit) => .tuple #[]) (fun (o : Unit) => [obox 55 TrL v0 res, keep X])) := by
 refine calls_enterM 10 Tryz.func45 Tryz.ntmps45 rfl B S f [(0, v0)] [obox 55 TrL v0 x0, keep X] [] rfl ⟨rfl, trivial⟩ hB hO hI trivial ?_
 unfold log_Log_Sync_m at hm
 refine GL.region ?_
 refine RL.mv rfl rfl rfl ?_
 refine RL.mv rfl rfl rfl ?_
 refine RL.nilk 0 rfl rfl rfl rfl PtOf.obox ?_
 refine RL.fadr (off := 0) (fo := 0) 0 Tryz_fld55_0 rfl rfl rfl PtOf.obox (Or.inr ⟨rfl, rfl⟩) ?_
 refine RL.ldPx (off := (0 + 0)) (e' := x0.1) 0 Ex.str Tryz_ln9 rfl rfl (Or.inl rfl) rfl PtOf.obox (Part.fst Part.self) ?_
 refine RL.lenT Tryz.underlying9 rfl rfl rfl ?_
 refine RL.nilk 0 rfl rfl rfl rfl PtOf.obox ?_
 refine RL.fadr (off := 0) (fo := 1) 0 Tryz_fld55_1 rfl rfl rfl PtOf.obox (Or.inr ⟨rfl, rfl⟩) ?_
 refine RL.stP (off := (0 + 1)) (e' := ((x0.1).length : Int)) (d1 := (x0.1, ((x0.1).length : Int))) (r := TR.int) 0 Tryz_ln3 rfl rfl (Or.inl rfl) rfl VR.int rfl (Upd.snd Upd.self) ?_
 refine RL.finG ?_
 have hm := Option.some.inj hm
 subst hm
 exact GL.nil (Gx.retN (v := .tuple #[]) (res0 rfl) (fun a w st => (st.pick [0, 1] (by decide) rfl).toPostM (V := fun (o : Unit) => .tuple #[]) (LR := fun (o : Unit) => [obox 55 TrL v0 (x0.1, ((x0.1).length : Int)), keep X]) ()))

theorem log_Scan_c (S : Hp) (w : World) (hS : S.sub w) (x0 : B8) (res : (List B8) × Int) (hm : log_Scan_m x0 = some res) : Calls Tryz.prog 74 #[(sv x0)] w (Post w S (fun (o : Value) => .tuple #[o, .int .i64 res.2]) (fun (o : Value) => [own 9 TR.str o res.1])) := by
 refine calls_enter 73 Tryz.func74 Tryz.ntmps74 rfl S false [(0, (sv x0))] [] rfl ⟨rfl, trivial⟩ hS trivial ?_
 unfold log_Scan_m at hm
 refine GL.seq ?_
 refine GL.region ?_
 refine RL.asg rfl rfl rfl ?_
 refine RL.asg rfl rfl rfl ?_
 refine RL.finG ?_
 refine GL.seq ?_
 refine GL.region ?_
 refine RL.asg rfl rfl rfl ?_
 refine RL.finG ?_
 refine GL.seq ?_
 refine GL.region ?_
 refine RL.asg rfl rfl rfl ?_
 refine RL.finG ?_
 refine GL.seq ?_
 refine GL.weak (fun a w st => st.nilOwn 9 TR.str) ?_
 obtain ⟨y76, K77, h78, h79, h80, h81, h82⟩ := bindR_K hm
 refine GL.join (ι := (List B8) × Int × Value) (fun (p : (List B8) × Int × Value) => [(4, p.2.2), (5, .int .i64 p.2.1)]) (fun (p : (List B8) × Int × Value) => [own 9 TR.str p.2.2 p.1]) (fun (p : (List B8) × Int × Value) => K77 (.nx (p.1, p.2.1))) ?_ ?_
 ·refine GL.block ?_
  refine GL.loop (ι := Nat × (List B8) × Int × Value) (fun (p : Nat × (List B8) × Int × Value) => [(0, (sv x0)), (4, p.2.2.2), (5, .int .i64 p.2.2.1)]) (fun (p : Nat × (List B8) × Int × Value) => [own 9 TR.str p.2.2.2 p.2.1]) (fun (p : Nat × (List B8) × Int × Value) => loopM (log_Scan_b1 x0) p.1 (p.2.1, p.2.2.1) = some y76) (fun (p : Nat × (List B8) × Int × Value) => p.1) (4194304, [], (0 : Int), Value.slice none 0 0) h78 (fun a w st => St.cut [0] ⟨rfl, rfl, rfl, trivial⟩ (by decide) rfl st) ?_
  rintro ⟨r84, l2, x4, v3⟩ h88
  try dsimp only at h88
  refine GL.weak (env' := [(0, (sv x0)), (4, v3), (5, .int .i64 x4)]) (L' := [own 9 TR.str v3 l2]) (fun _ _ st => st) ?_
  obtain ⟨r91, z85, hr, h86, h87⟩ := loopM_some h88
  subst hr
  unfold log_Scan_b1 at h86
  try dsimp only at h86
  refine GL.seq ?_
  refine GL.seq ?_
  refine GL.region ?_
  refine RL.mv rfl rfl rfl ?_
  refine RL.mv rfl rfl rfl ?_
  refine RL.lenT Tryz.underlying9 rfl rfl rfl ?_
  refine RL.binI (v := .bool (decide (x4 < ((x0).length : Int)))) rfl rfl rfl rfl rfl ?_
  refine RL.finG ?_
  refine GL.cond rfl (fun b92 => ?_) (fun b92 => ?_)
  ·replace h86 := ite_t b92 h86
   refine GL.skip ?_
   refine GL.block ?_
   refine GL.seq ?_
   refine GL.region ?_
   refine RL.mv rfl rfl rfl ?_
   refine RL.mv rfl rfl rfl ?_
   obtain ⟨y95, e96, h86⟩ := bind_some h86
   refine RL.idxT Tryz.underlying9 rfl rfl rfl rfl (idx_some e96).1 (idx_some e96).2.2 ?_
   refine RL.cvI Tryz.underlying5 Tryz.underlying3 rfl rfl rfl ?_
   refine RL.asg rfl rfl rfl ?_
   refine RL.finG ?_
   refine GL.seq ?_
   refine GL.seq ?_
   obtain ⟨y100, K101, h102, h103, h104, h105, h106⟩ := bindF_K h86
   refine GL.join (ι := Bool) (fun (p : Bool) => [(0, (sv x0)), (4, v3), (5, .int .i64 x4), (6, .int .i64 (IntKind.wrap .i64 (y95.toNat : Int))), (26, .bool p)]) (fun (p : Bool) => [own 9 TR.str v3 l2]) (fun (p : Bool) => K101 (.nx p)) ?_ ?_
   ·skip
    refine GL.region ?_
    refine RL.mv rfl rfl rfl ?_
    refine RL.binI (v := .bool (decide ((IntKind.wrap .i64 (y95.toNat : Int)) > (64 : Int)))) rfl rfl rfl rfl rfl ?_
    refine RL.mv rfl rfl rfl ?_
    refine RL.split (t := 18) rfl (fun b107 => ?_) (fun b107 => ?_)
    ·replace h102 := ite_t b107 h102
     refine RL.skip rfl rfl ?_
     refine RL.skip rfl rfl ?_
     refine RL.skip rfl rfl ?_
     refine RL.skip rfl rfl ?_
     refine RL.skip rfl rfl ?_
     refine RL.skip rfl rfl ?_
     refine RL.skip rfl rfl ?_
     refine RL.pickT rfl rfl rfl rfl ?_
     refine RL.fin ?_
     cases h102
     exact fun a w st => mid_intro true h103 (St.cut [0] ⟨rfl, rfl, rfl, rfl, rfl, trivial⟩ (by decide) rfl st)
    replace h102 := ite_f b107 h102
    refine RL.mv rfl rfl rfl ?_
    refine RL.lenT Tryz.underlying9 rfl rfl rfl ?_
    refine RL.mv rfl rfl rfl ?_
    refine RL.binI (v := .int .i64 (wsub ((x0).length : Int) x4)) rfl rfl rfl rfl rfl ?_
    refine RL.mv rfl rfl rfl ?_
    refine RL.binI (v := .int .i64 (wadd (IntKind.wrap .i64 (y95.toNat : Int)) (3 : Int))) rfl rfl rfl rfl rfl ?_
    refine RL.binI (v := .bool (decide ((wsub ((x0).length : Int) x4) < (wadd (IntKind.wrap .i64 (y95.toNat : Int)) (3 : Int))))) rfl rfl rfl rfl rfl ?_
    refine RL.pickF rfl rfl rfl rfl ?_
    refine RL.fin ?_
    cases h102
    exact fun a w st => mid_intro (decide ((wsub ((x0).length : Int) x4) < (wadd (IntKind.wrap .i64 (y95.toNat : Int)) (3 : Int)))) h103 (St.cut [0] ⟨rfl, rfl, rfl, rfl, rfl, trivial⟩ (by decide) rfl st)
   rintro x99 h108
   have h109 := h104 _ h108
   try dsimp only at h109
   refine GL.weak (env' := [(0, (sv x0)), (4, v3), (5, .int .i64 x4), (6, .int .i64 (IntKind.wrap .i64 (y95.toNat : Int))), (26, .bool x99)]) (L' := [own 9 TR.str v3 l2]) (fun _ _ st => st) ?_
   refine GL.cond rfl (fun b110 => ?_) (fun b110 => ?_)
   ·replace h109 := ite_t b110 h109
    cases h109
    replace h87 : some (Fl.nx _) = some y76 := h87
    cases h87
    exact GL.exit (fun a w st => mid_intro (l2, x4, v3) h79 (St.cut [0] ⟨rfl, rfl, trivial⟩ (by decide) rfl st))
   replace h109 := ite_f b110 h109
   refine GL.skip ?_
   refine GL.seq ?_
   refine GL.region ?_
   refine RL.mv rfl rfl rfl ?_
   refine RL.mv rfl rfl rfl ?_
   refine RL.mv rfl rfl rfl ?_
   refine RL.mv rfl rfl rfl ?_
   refine RL.binI (v := .int .i64 (wadd x4 (IntKind.wrap .i64 (y95.toNat : Int)))) rfl rfl rfl rfl rfl ?_
   refine RL.binI (v := .int .i64 (wadd (wadd x4 (IntKind.wrap .i64 (y95.toNat : Int))) (1 : Int))) rfl rfl rfl rfl rfl ?_
   obtain ⟨y115, e116, h109⟩ := bind_some h109
   replace e116 := chk_some e116
   refine RL.cutT (i := (x4).toNat) (j := (wadd (wadd x4 (IntKind.wrap .i64 (y95.toNat : Int))) (1 : Int)).toNat) Tryz.underlying9 rfl rfl rfl (Or.inr ⟨_, _, rfl, by rw [Int.toNat_of_nonneg (by omega)]; rfl⟩) (Or.inr ⟨_, _, rfl, by rw [Int.toNat_of_nonneg (by omega)]; rfl⟩) (by omega) (by omega) ?_
   obtain ⟨y117, e118, h109⟩ := bind_some h109
   refine RL.callV (v := .int .u16 y117) (vs := [(sv ((List.take ((wadd (wadd x4 (IntKind.wrap .i64 (y95.toNat : Int))) (1 : Int)).toNat) x0).drop ((x4).toNat)))]) Tryz_fit100 rfl (Or.inl rfl) rfl rfl rfl rfl (fun U w hU hW hL => log_Sum_c U w hU ((List.take ((wadd (wadd x4 (IntKind.wrap .i64 (y95.toNat : Int))) (1 : Int)).toNat) x0).drop ((x4).toNat)) _ e118) ?_
   refine RL.asg rfl rfl rfl ?_
   refine RL.finG ?_
   refine GL.seq ?_
   refine GL.seq ?_
   obtain ⟨y134, K135, h136, h137, h138, h139, h140⟩ := bindF_K h109
   refine GL.join (ι := Bool) (fun (p : Bool) => [(0, (sv x0)), (4, v3), (5, .int .i64 x4), (6, .int .i64 (IntKind.wrap .i64 (y95.toNat : Int))), (55, .bool p)]) (fun (p : Bool) => [own 9 TR.str v3 l2]) (fun (p : Bool) => K135 (.nx p)) ?_ ?_
   ·skip
    refine GL.region ?_
    refine RL.mv rfl rfl rfl ?_
    refine RL.mv rfl rfl rfl ?_
    refine RL.mv rfl rfl rfl ?_
    refine RL.binI (v := .int .i64 (wadd x4 (IntKind.wrap .i64 (y95.toNat : Int)))) rfl rfl rfl rfl rfl ?_
    refine RL.binI (v := .int .i64 (wadd (wadd x4 (IntKind.wrap .i64 (y95.toNat : Int))) (1 : Int))) rfl rfl rfl rfl rfl ?_
    obtain ⟨y141, e142, h136⟩ := bind_some h136
    refine RL.idxT Tryz.underlying9 rfl rfl rfl rfl (idx_some e142).1 (idx_some e142).2.2 ?_
    refine RL.mv rfl rfl rfl ?_
    obtain ⟨y143, e144, h136⟩ := bind_some h136
    replace e144 := chk_some e144
    refine RL.sh (by simp) rfl rfl rfl rfl e144 ?_
    refine RL.cvI Tryz.underlying149 Tryz.underlying5 rfl rfl rfl ?_
    refine RL.binI (v := .bool ((y141.toNat : Int) != (IntKind.wrap .u8 (Int.fdiv y117 (2 ^ (min (8 : Int).toNat (IntKind.bits .u16))))))) rfl rfl rfl rfl rfl ?_
    refine RL.mv rfl rfl rfl ?_
    refine RL.split (t := 45) rfl (fun b145 => ?_) (fun b145 => ?_)
    ·replace h136 := ite_t b145 h136
     refine RL.skip rfl rfl ?_
     refine RL.skip rfl rfl ?_
     refine RL.skip rfl rfl ?_
     refine RL.skip rfl rfl ?_
     refine RL.skip rfl rfl ?_
     refine RL.skip rfl rfl ?_
     refine RL.skip rfl rfl ?_
     refine RL.skip rfl rfl ?_
     refine RL.skip rfl rfl ?_
     refine RL.pickT rfl rfl rfl rfl ?_
     refine RL.fin ?_
     cases h136
     exact fun a w st => mid_intro true h137 (St.cut [0] ⟨rfl, rfl, rfl, rfl, rfl, trivial⟩ (by decide) rfl st)
    replace h136 := ite_f b145 h136
    refine RL.mv rfl rfl rfl ?_
    refine RL.mv rfl rfl rfl ?_
    refine RL.mv rfl rfl rfl ?_
    refine RL.binI (v := .int .i64 (wadd x4 (IntKind.wrap .i64 (y95.toNat : Int)))) rfl rfl rfl rfl rfl ?_
    refine RL.binI (v := .int .i64 (wadd (wadd x4 (IntKind.wrap .i64 (y95.toNat : Int))) (2 : Int))) rfl rfl rfl rfl rfl ?_
    obtain ⟨y146, e147, h136⟩ := bind_some h136
    refine RL.idxT Tryz.underlying9 rfl rfl rfl rfl (idx_some e147).1 (idx_some e147).2.2 ?_
    refine RL.mv rfl rfl rfl ?_
    refine RL.cvI Tryz.underlying149 Tryz.underlying5 rfl rfl rfl ?_
    refine RL.binI (v := .bool ((y146.toNat : Int) != (IntKind.wrap .u8 y117))) rfl rfl rfl rfl rfl ?_
    refine RL.pickF rfl rfl rfl rfl ?_
    refine RL.fin ?_
    cases h136
    exact fun a w st => mid_intro ((y146.toNat : Int) != (IntKind.wrap .u8 y117)) h137 (St.cut [0] ⟨rfl, rfl, rfl, rfl, rfl, trivial⟩ (by decide) rfl st)
   rintro x133 h148
   have h149 := h138 _ h148
   try dsimp only at h149
   refine GL.weak (env' := [(0, (sv x0)), (4, v3), (5, .int .i64 x4), (6, .int .i64 (IntKind.wrap .i64 (y95.toNat : Int))), (55, .bool x133)]) (L' := [own 9 TR.str v3 l2]) (fun _ _ st => st) ?_
   refine GL.cond rfl (fun b150 => ?_) (fun b150 => ?_)
   ·replace h149 := ite_t b150 h149
    cases h149
    replace h87 : some (Fl.nx _) = some y76 := h87
    cases h87
    exact GL.exit (fun a w st => mid_intro (l2, x4, v3) h79 (St.cut [0] ⟨rfl, rfl, trivial⟩ (by decide) rfl st))
   replace h149 := ite_f b150 h149
   refine GL.skip ?_
   refine GL.seq ?_
   refine GL.region ?_
   refine RL.mv rfl rfl rfl ?_
   refine RL.mv rfl rfl rfl ?_
   refine RL.mv rfl rfl rfl ?_
   refine RL.binI (v := .int .i64 (wadd x4 (1 : Int))) rfl rfl rfl rfl rfl ?_
   refine RL.mv rfl rfl rfl ?_
   refine RL.binI (v := .int .i64 (wadd x4 (1 : Int))) rfl rfl rfl rfl rfl ?_
   refine RL.mv rfl rfl rfl ?_
   refine RL.binI (v := .int .i64 (wadd (wadd x4 (1 : Int)) (IntKind.wrap .i64 (y95.toNat : Int)))) rfl rfl rfl rfl rfl ?_
   obtain ⟨y157, e158, h149⟩ := bind_some h149
   replace e158 := chk_some e158
   refine RL.cutT (i := (wadd x4 (1 : Int)).toNat) (j := (wadd (wadd x4 (1 : Int)) (IntKind.wrap .i64 (y95.toNat : Int))).toNat) Tryz.underlying9 rfl rfl rfl (Or.inr ⟨_, _, rfl, by rw [Int.toNat_of_nonneg (by omega)]; rfl⟩) (Or.inr ⟨_, _, rfl, by rw [Int.toNat_of_nonneg (by omega)]; rfl⟩) (by omega) (by omega) ?_
   refine RL.bS (t := TR.str) (vs := [(sv ((List.take ((wadd (wadd x4 (1 : Int)) (IntKind.wrap .i64 (y95.toNat : Int))).toNat) x0).drop ((wadd x4 (1 : Int)).toNat)))]) ([(List.take ((wadd (wadd x4 (1 : Int)) (IntKind.wrap .i64 (y95.toNat : Int))).toNat) x0).drop ((wadd x4 (1 : Int)).toNat)] : (List B8)) Tryz.underlying22 Tryz_lo9 rfl rfl rfl rfl ⟨VR.str, trivial⟩ rfl (by decide) ?_
   intro v159
   obtain ⟨y160, e161, h149⟩ := bind_some h149
   replace e161 := chk_some e161
   refine RL.app 0 1 Tryz.underlying22 Tryz_lo9 rfl rfl rfl rfl rfl rfl rfl SlOf.own e161 ?_
   intro v162
   refine RL.reL (L' := [own 9 TR.str v162 (l2 ++ ([(List.take ((wadd (wadd x4 (1 : Int)) (IntKind.wrap .i64 (y95.toNat : Int))).toNat) x0).drop ((wadd x4 (1 : Int)).toNat)] : (List B8))), own 9 TR.str v159 ([(List.take ((wadd (wadd x4 (1 : Int)) (IntKind.wrap .i64 (y95.toNat : Int))).toNat) x0).drop ((wadd x4 (1 : Int)).toNat)] : (List B8))]) rfl ?_
   refine RL.asg rfl rfl rfl ?_
   refine RL.finG ?_
   refine GL.region ?_
   refine RL.mv rfl rfl rfl ?_
   refine RL.mv rfl rfl rfl ?_
   refine RL.binI (v := .int .i64 (wadd (IntKind.wrap .i64 (y95.toNat : Int)) (3 : Int))) rfl rfl rfl rfl rfl ?_
   refine RL.binI (v := .int .i64 (wadd x4 (wadd (IntKind.wrap .i64 (y95.toNat : Int)) (3 : Int)))) rfl rfl rfl rfl rfl ?_
   refine RL.asg rfl rfl rfl ?_
   refine RL.finG ?_
   refine GL.nilB ?_
   cases h149
   exact fun a w st => lop_intro (r91, (l2 ++ ([(List.take ((wadd (wadd x4 (1 : Int)) (IntKind.wrap .i64 (y95.toNat : Int))).toNat) x0).drop ((wadd x4 (1 : Int)).toNat)] : (List B8))), wadd x4 (wadd (IntKind.wrap .i64 (y95.toNat : Int)) (3 : Int)), v162) (by exact h87) (by simp) (St.cut [0] ⟨rfl, rfl, rfl, trivial⟩ (by decide) rfl st)
  replace h86 := ite_f b92 h86
  cases h86
  replace h87 : some (Fl.nx _) = some y76 := h87
  cases h87
  exact GL.exit (fun a w st => mid_intro (l2, x4, v3) h79 (St.cut [0] ⟨rfl, rfl, trivial⟩ (by decide) rfl st))
 rintro ⟨l2, x4, v3⟩ h163
 have h164 := h80 _ h163
 try dsimp only at h164
 refine GL.weak (env' := [(4, v3), (5, .int .i64 x4)]) (L' := [own 9 TR.str v3 l2]) (fun _ _ st => st) ?_
 refine GL.seq ?_
 refine GL.region ?_
 refine RL.mv rfl rfl rfl ?_
 refine RL.mv rfl rfl rfl ?_
 refine RL.asg rfl rfl rfl ?_
 refine RL.asg rfl rfl rfl ?_
 refine RL.finG ?_
 have h164 := Option.some.inj h164
 subst h164
 exact GL.ret (Gx.ret (v := .tuple #[v3, .int .i64 x4]) (res2 rfl rfl rfl) (fun a w st => (st.pick [0] (by decide) rfl).toPost v3))

theorem log_Log_Crash_c (B : World) (S X : Hp) (f : Nat → Hp) (w : World) (v0 : Value) (x0 : (B8 × Int)) (hO : HeapOk B.heap.size S f [obox 55 TrL v0 x0, keep X].length w) (hB : Below B.heap.size B w) (hI : Its [obox 55 TrL v0 x0, keep X] S f) (x1 : Int) (res : Int × (B8 × Int)) (hm : log_Log_Crash_m x0 x1 = some res) : Calls Tryz.prog 46 #[v0, .int .i64 x1] w (PostM B S (fun (o : Unit) => .int .i64 res.1) (fun (o : Unit) => [obox 55 TrL v0 res.2, keep X])) := by
 refine calls_enterM 50 Tryz.func46 Tryz.ntmps46 rfl B S f [(0, v0), (1, .int .i64 x1)] [obox 55 TrL v0 x0, keep X] [] rfl ⟨rfl, ⟨rfl, trivial⟩⟩ hB hO hI trivial ?_
 unfold log_Log_Crash_m at hm
 refine GL.seq ?_
 refine GL.region ?_
 refine RL.asg rfl rfl rfl ?_
 refine RL.finG ?_
 refine GL.seq ?_
 refine GL.seq ?_
 obtain ⟨y6, K7, h8, h9, h10, h11, h12⟩ := bindR_K hm
 refine GL.join (ι := Bool) (fun (p : Bool) => [(0, v0), (1, .int .i64 x1), (23, .bool p)]) (fun (p : Bool) => [obox 55 TrL v0 x0, keep X]) (fun (p : Bool) => K7 (.nx p)) ?_ ?_
 ·skip
  refine GL.regionQ rfl rfl (by kernel_rfl) ?_
  refine RL.mv rfl rfl rfl ?_
  refine RL.binI (v := .bool (decide (x1 < (0 : Int)))) rfl rfl rfl rfl rfl ?_
  refine RL.mv rfl rfl rfl ?_
  refine RL.split (t := 10) rfl (fun b13 => ?_) (fun b13 => ?_)
  ·replace h8 := ite_t b13 h8
   refine RL.skip rfl rfl ?_
   refine RL.skip rfl rfl ?_
   refine RL.skip rfl rfl ?_
   refine RL.skip rfl rfl ?_
   refine RL.skip rfl rfl ?_
   refine RL.skip rfl rfl ?_
   refine RL.skip rfl rfl ?_
   refine RL.skip rfl rfl ?_
   refine RL.skip rfl rfl ?_
   refine RL.skip rfl rfl ?_
   refine RL.skip rfl rfl ?_
   refine RL.skip rfl rfl ?_
   refine RL.pickT rfl rfl rfl rfl ?_
   refine RL.finQ ?_
   cases h8
   exact fun a w st => mid_intro true h9 (St.cut [0, 1] ⟨rfl, rfl, rfl, trivial⟩ (by decide) rfl st)
  replace h8 := ite_f b13 h8
  refine RL.mv rfl rfl rfl ?_
  refine RL.mv rfl rfl rfl ?_
  refine RL.nilk 0 rfl rfl rfl rfl PtOf.obox ?_
  refine RL.fadr (off := 0) (fo := 0) 0 Tryz_fld55_0 rfl rfl rfl PtOf.obox (Or.inr ⟨rfl, rfl⟩) ?_
  refine RL.ldPx (off := (0 + 0)) (e' := x0.1) 0 Ex.str Tryz_ln9 rfl rfl (Or.inl rfl) rfl PtOf.obox (Part.fst Part.self) ?_
  refine RL.lenT Tryz.underlying9 rfl rfl rfl ?_
  refine RL.mv rfl rfl rfl ?_
  refine RL.nilk 0 rfl rfl rfl rfl PtOf.obox ?_
  refine RL.fadr (off := 0) (fo := 1) 0 Tryz_fld55_1 rfl rfl rfl PtOf.obox (Or.inr ⟨rfl, rfl⟩) ?_
  refine RL.ldPx (off := (0 + 1)) (e' := x0.2) 0 Ex.ik Tryz_ln3 rfl rfl (Or.inl rfl) rfl PtOf.obox (Part.snd Part.self) ?_
  refine RL.binI (v := .int .i64 (wsub ((x0.1).length : Int) x0.2)) rfl rfl rfl rfl rfl ?_
  refine RL.binI (v := .bool (decide (x1 > (wsub ((x0.1).length : Int) x0.2)))) rfl rfl rfl rfl rfl ?_
  refine RL.pickF rfl rfl rfl rfl ?_
  refine RL.finQ ?_
  cases h8
  exact fun a w st => mid_intro (decide (x1 > (wsub ((x0.1).length : Int) x0.2))) h9 (St.cut [0, 1] ⟨rfl, rfl, rfl, trivial⟩ (by decide) rfl st)
 rintro x5 h14
 have h15 := h10 _ h14
 try dsimp only at h15
 refine GL.weak (env' := [(0, v0), (1, .int .i64 x1), (23, .bool x5)]) (L' := [obox 55 TrL v0 x0, keep X]) (fun _ _ st => st) ?_
 refine GL.cond rfl (fun b16 => ?_) (fun b16 => ?_)
 ·replace h15 := ite_t b16 h15
  refine GL.seq ?_
  refine GL.region ?_
  refine RL.asg rfl rfl rfl ?_
  refine RL.finG ?_
  have h15 := Option.some.inj h15
  subst h15
  exact GL.ret (Gx.ret (v := .int .i64 (1 : Int)) (res1 rfl rfl) (fun a w st => (st.pick [0, 1] (by decide) rfl).toPostM (V := fun (o : Unit) => .int .i64 (((1 : Int), x0).1)) (LR := fun (o : Unit) => [obox 55 TrL v0 (((1 : Int), x0).2), keep X]) ()))
 replace h15 := ite_f b16 h15
 refine GL.skip ?_
 refine GL.seq ?_
 refine GL.regionQ rfl rfl (by kernel_rfl) ?_
 refine RL.mv rfl rfl rfl ?_
 refine RL.nilk 0 rfl rfl rfl rfl PtOf.obox ?_
 refine RL.fadr (off := 0) (fo := 0) 0 Tryz_fld55_0 rfl rfl rfl PtOf.obox (Or.inr ⟨rfl, rfl⟩) ?_
 refine RL.ldPx (off := (0 + 0)) (e' := x0.1) 0 Ex.str Tryz_ln9 rfl rfl (Or.inl rfl) rfl PtOf.obox (Part.fst Part.self) ?_
 refine RL.mv rfl rfl rfl ?_
 refine RL.nilk 0 rfl rfl rfl rfl PtOf.obox ?_
 refine RL.fadr (off := 0) (fo := 1) 0 Tryz_fld55_1 rfl rfl rfl PtOf.obox (Or.inr ⟨rfl, rfl⟩) ?_
 refine RL.ldPx (off := (0 + 1)) (e' := x0.2) 0 Ex.ik Tryz_ln3 rfl rfl (Or.inl rfl) rfl PtOf.obox (Part.snd Part.self) ?_
 refine RL.mv rfl rfl rfl ?_
 refine RL.binI (v := .int .i64 (wadd x0.2 x1)) rfl rfl rfl rfl rfl ?_
 obtain ⟨y19, e20, h15⟩ := bind_some h15
 replace e20 := chk_some e20
 refine RL.cutT (i := 0) (j := (wadd x0.2 x1).toNat) Tryz.underlying9 rfl rfl rfl (Or.inl ⟨rfl, rfl⟩) (Or.inr ⟨_, _, rfl, by rw [Int.toNat_of_nonneg (by omega)]; rfl⟩) (by omega) (by omega) ?_
 refine RL.asg rfl rfl rfl ?_
 refine RL.finQG ?_
 refine GL.seq ?_
 refine GL.region ?_
 refine RL.mv rfl rfl rfl ?_
 obtain ⟨y24, e25, h15⟩ := bind_some h15
 refine RL.call (vs := [(sv ((List.take ((wadd x0.2 x1).toNat) x0.1).drop 0))]) Tryz_fit74 rfl rfl rfl rfl rfl (fun S f w hS hW hi => log_Scan_c S w hS ((List.take ((wadd x0.2 x1).toNat) x0.1).drop 0) _ e25) ?_
 intro v26
 refine RL.mv rfl rfl rfl ?_
 refine RL.ext rfl rfl rfl rfl ?_
 refine RL.ext rfl rfl rfl rfl ?_
 refine RL.asg rfl rfl rfl ?_
 refine RL.asg rfl rfl rfl ?_
 refine RL.finG ?_
 refine GL.seq ?_
 refine GL.region ?_
 refine RL.mv rfl rfl rfl ?_
 refine RL.mv rfl rfl rfl ?_
 refine RL.mv rfl rfl rfl ?_
 refine RL.mv rfl rfl rfl ?_
 obtain ⟨y29, e30, h15⟩ := bind_some h15
 replace e30 := chk_some e30
 refine RL.cutT (i := 0) (j := (y24.2).toNat) Tryz.underlying9 rfl rfl rfl (Or.inl ⟨rfl, rfl⟩) (Or.inr ⟨_, _, rfl, by rw [Int.toNat_of_nonneg (by omega)]; rfl⟩) (by omega) (by omega) ?_
 refine RL.mv rfl rfl rfl ?_
 refine RL.nilk 0 rfl rfl rfl rfl PtOf.obox ?_
 refine RL.fadr (off := 0) (fo := 0) 0 Tryz_fld55_0 rfl rfl rfl PtOf.obox (Or.inr ⟨rfl, rfl⟩) ?_
 refine RL.stP (off := (0 + 0)) (e' := (List.take ((y24.2).toNat) ((List.take ((wadd x0.2 x1).toNat) x0.1).drop 0)).drop 0) (d1 := ((List.take ((y24.2).toNat) ((List.take ((wadd x0.2 x1).toNat) x0.1).drop 0)).drop 0, x0.2)) (r := TR.str) 0 Tryz_ln9 rfl rfl (Or.inl rfl) rfl VR.str rfl (Upd.fst Upd.self) ?_
 refine RL.reL (L' := [obox 55 TrL v0 ((List.take ((y24.2).toNat) ((List.take ((wadd x0.2 x1).toNat) x0.1).drop 0)).drop 0, x0.2), keep X, own 9 TR.str v26 y24.1]) rfl ?_
 refine RL.nilk 0 rfl rfl rfl rfl PtOf.obox ?_
 refine RL.fadr (off := 0) (fo := 1) 0 Tryz_fld55_1 rfl rfl rfl PtOf.obox (Or.inr ⟨rfl, rfl⟩) ?_
 refine RL.stP (off := (0 + 1)) (e' := y24.2) (d1 := (((List.take ((y24.2).toNat) ((List.take ((wadd x0.2 x1).toNat) x0.1).drop 0)).drop 0, x0.2).1, y24.2)) (r := TR.int) 0 Tryz_ln3 rfl rfl (Or.inl rfl) rfl VR.int rfl (Upd.snd Upd.self) ?_
 refine RL.finG ?_
 refine GL.seq ?_
 refine GL.region ?_
 refine RL.asg rfl rfl rfl ?_
 refine RL.finG ?_
 have h15 := Option.some.inj h15
 subst h15
 exact GL.ret (Gx.ret (v := .int .i64 (0 : Int)) (res1 rfl rfl) (fun a w st => (st.pick [0, 1] (by decide) rfl).toPostM (V := fun (o : Unit) => .int .i64 (((0 : Int), (((List.take ((y24.2).toNat) ((List.take ((wadd x0.2 x1).toNat) x0.1).drop 0)).drop 0, x0.2).1, y24.2)).1)) (LR := fun (o : Unit) => [obox 55 TrL v0 (((0 : Int), (((List.take ((y24.2).toNat) ((List.take ((wadd x0.2 x1).toNat) x0.1).drop 0)).drop 0, x0.2).1, y24.2)).2), keep X]) ()))

theorem log_Log_All_c (S : Hp) (w : World) (hS : S.sub w) (v0 : Value) (x0 : (B8 × Int)) (k0 : ((TR.ptr TrL)).vrep S v0 x0) (res : (List B8)) (hm : log_Log_All_m x0 = some res) : Calls Tryz.prog 75 #[v0] w (Post w S (fun (o : Value) => o) (fun (o : Value) => [own 9 TR.str o res])) := by
 refine calls_enter 14 Tryz.func75 Tryz.ntmps75 rfl S false [(0, v0)] [imm (TR.ptr TrL) v0 x0] rfl ⟨rfl, trivial⟩ hS ⟨k0, trivial⟩ ?_
 unfold log_Log_All_m at hm
 refine GL.seq ?_
 refine GL.region ?_
 refine RL.asg rfl rfl rfl ?_
 refine RL.finG ?_
 refine GL.seq ?_
 refine GL.region ?_
 refine RL.mv rfl rfl rfl ?_
 refine RL.nilk 0 rfl rfl rfl rfl PtOf.imm ?_
 refine RL.fadr (off := 0) (fo := 0) 0 Tryz_fld55_0 rfl rfl rfl PtOf.imm (Or.inr ⟨rfl, rfl⟩) ?_
 refine RL.ldPx (off := (0 + 0)) (e' := x0.1) 0 Ex.str Tryz_ln9 rfl rfl (Or.inl rfl) rfl PtOf.imm (Part.fst Part.self) ?_
 obtain ⟨y5, e6, hm⟩ := bind_some hm
 refine RL.call (vs := [(sv x0.1)]) Tryz_fit74 rfl rfl rfl rfl rfl (fun S f w hS hW hi => log_Scan_c S w hS x0.1 _ e6) ?_
 intro v7
 refine RL.mv rfl rfl rfl ?_
 refine RL.ext rfl rfl rfl rfl ?_
 refine RL.ext rfl rfl rfl rfl ?_
 refine RL.asg rfl rfl rfl ?_
 refine RL.asg rfl rfl rfl ?_
 refine RL.finG ?_
 refine GL.seq ?_
 refine GL.region ?_
 refine RL.mv rfl rfl rfl ?_
 refine RL.asg rfl rfl rfl ?_
 refine RL.finG ?_
 have hm := Option.some.inj hm
 subst hm
 exact GL.ret (Gx.ret (v := v7) (res1 rfl rfl) (fun a w st => (st.pick [1] (by decide) rfl).toPost v7))

theorem strconv_Atoi_c (S : Hp) (w : World) (hS : S.sub w) (x0 : B8) (res : Int) (hm : strconv_Atoi_m x0 = some res) : Calls Tryz.prog 76 #[(sv x0)] w (PostV w (.tuple #[.int .i64 res, Value.nilIface])) := by
  unfold strconv_Atoi_m at hm
  obtain ⟨_, hc, hm⟩ := bind_some hm
  replace hc := chk_some hc
  refine (Any.strconv_Atoi Tryz.lays172 ⟨x0.toArray⟩ res (by simpa [ByteArray.size] using hc) (by simpa using hm) w).mono ?_
  rintro e w' ⟨rfl, t, rfl⟩
  exact ⟨rfl, below_bytes _ _ _⟩

theorem house_House_read_c (B : World) (S X : Hp) (f : Nat → Hp) (w : World) (v0 : Value) (u0a : Value) (x0 : TyH) (hO : HeapOk B.heap.size S f [obox 45 TrH v0 (x0.1, (x0.2.1, u0a)), obox 55 TrL u0a x0.2.2, keep X].length w) (hB : Below B.heap.size B w) (hI : Its [obox 45 TrH v0 (x0.1, (x0.2.1, u0a)), obox 55 TrL u0a x0.2.2, keep X] S f) (hT : Tab Tryz.prog (Tryz.lays146_ren.g 1) S)  (res : TyH) (hm : house_House_read_m x0 = some res) : Calls Tryz.prog 47 #[v0] w (PostM B S (fun (o : Unit) => .tuple #[]) (fun (o : Unit) => [obox 45 TrH v0 (res.1, (res.2.1, u0a)), obox 55 TrL u0a res.2.2, keep X])) := by
 refine calls_enterM 88 Tryz.func47 Tryz.ntmps47 rfl B S f [(0, v0)] [obox 45 TrH v0 (x0.1, (x0.2.1, u0a)), obox 55 TrL u0a x0.2.2, keep X] [] rfl ⟨rfl, trivial⟩ hB hO hI trivial ?_
 unfold house_House_read_m at hm
 refine GL.seq ?_
 refine GL.region ?_
 refine RL.asg rfl rfl rfl ?_
 refine RL.finG ?_
 refine GL.seq ?_
 refine GL.seq ?_
 refine GL.region ?_
 refine RL.mv rfl rfl rfl ?_
 refine RL.nilk 0 rfl rfl rfl rfl PtOf.obox ?_
 refine RL.fadr (off := 0) (fo := 2) 0 Tryz_fld45_2 rfl rfl rfl PtOf.obox (Or.inr ⟨rfl, rfl⟩) ?_
 refine RL.ldPx (off := (0 + 2)) (e' := u0a) 0 Ex.raw Tryz_ln40 rfl rfl (Or.inl rfl) rfl PtOf.obox (Part.snd (Part.snd Part.self)) ?_
 obtain ⟨y5, e6, hm⟩ := bind_some hm
 refine RL.callU (vs := [u0a]) (LR := fun (o : Value) => [own 9 TR.str o y5]) (fun o => ⟨Loc.own TR.flatT_str, trivial⟩) Tryz_fit75 rfl rfl rfl rfl rfl (fun U w hU hW hL => log_Log_All_c U w hU _ _ (hL 1 _ _ rfl Seen.obox) _ e6) ?_
 intro v7
 refine RL.lenS 3 Tryz.underlying22 rfl rfl rfl rfl SlOf.own ?_
 refine RL.mv rfl rfl rfl ?_
 refine RL.finG ?_
 refine GL.weak (fun a w st => st.nilOwn 86 TrA) ?_
 refine GL.lenOwn 3 rfl (fun n141 => ?_)
 obtain ⟨y142, K143, h144, h145, h146, h147, h148⟩ := bindR_K hm
 refine GL.join (ι := (List TyA) × Value) (fun (p : (List TyA) × Value) => [(0, v0), (2, p.2)]) (fun (p : (List TyA) × Value) => [obox 45 TrH v0 (x0.1, (x0.2.1, u0a)), obox 55 TrL u0a x0.2.2, keep X, own 86 TrA p.2 p.1]) (fun (p : (List TyA) × Value) => K143 (.nx p.1)) ?_ ?_
 ·refine GL.block ?_
  refine GL.loop (ι := Nat × Nat × (List TyA) × Value) (fun (p : Nat × Nat × (List TyA) × Value) => [(0, v0), (2, p.2.2.2), (14, v7), (15, .int .i64 ((y5).length : Int)), (16, .int .i64 (p.1 : Int))]) (fun (p : Nat × Nat × (List TyA) × Value) => [obox 45 TrH v0 (x0.1, (x0.2.1, u0a)), obox 55 TrL u0a x0.2.2, own 86 TrA p.2.2.2 p.2.2.1, own 9 TR.str v7 y5, keep X]) (fun (p : Nat × Nat × (List TyA) × Value) => p.1 + p.2.1 = (y5).length ∧ rangeN (house_House_read_b1 y5) p.2.1 p.1 p.2.2.1 = some y142) (fun (p : Nat × Nat × (List TyA) × Value) => p.2.1) (0, (y5).length, [], Value.slice none 0 0) ⟨by simp, h144⟩ (fun a w st => St.cut [0, 1, 4, 3, 2] ⟨rfl, rfl, rfl, rfl, rfl, trivial⟩ (by decide) rfl st) ?_
  rintro ⟨i149, r150, l8, v9⟩ ⟨h155, h154⟩
  try dsimp only at h155 h154
  refine GL.weak (env' := [(0, v0), (2, v9), (14, v7), (15, .int .i64 ((y5).length : Int)), (16, .int .i64 (i149 : Int))]) (L' := [obox 45 TrH v0 (x0.1, (x0.2.1, u0a)), obox 55 TrL u0a x0.2.2, own 86 TrA v9 l8, own 9 TR.str v7 y5, keep X]) (fun _ _ st => st) ?_
  refine GL.seq ?_
  refine GL.region ?_
  refine RL.binI (v := .bool (decide ((i149 : Int) < ((y5).length : Int)))) rfl rfl rfl rfl rfl ?_
  refine RL.finG ?_
  refine GL.seq ?_
  refine GL.cond rfl (fun b157 => ?_) (fun b157 => ?_)
  ·have h158 : i149 < (y5).length := by have := of_decide_eq_true b157; omega
   obtain ⟨r159, hr⟩ : ∃ m, r150 = m + 1 := ⟨r150 - 1, by omega⟩
   subst hr
   obtain ⟨z151, h152, h153⟩ := rangeN_some h154
   unfold house_House_read_b1 at h152
   try dsimp only at h152
   refine GL.skip ?_
   refine GL.seq ?_
   refine GL.block ?_
   refine GL.seq ?_
   refine GL.region ?_
   obtain ⟨y162, e163, h152⟩ := bind_some h152
   refine RL.idxS (sz := 1) 3 Tryz.underlying22 Tryz_ln9 rfl rfl rfl rfl rfl SlOf.own (idx_some e163).1 (idx_some e163).2.1 ?_
   refine RL.ldSx (i := i149) (e' := y162) 3 Ex.str Tryz_ln9 rfl rfl rfl rfl SlOf.own (idx_some e163).2.2 Part.self ?_
   refine RL.asg rfl rfl rfl ?_
   refine RL.finG ?_
   refine GL.seq ?_
   refine GL.region ?_
   refine RL.mv rfl rfl rfl ?_
   obtain ⟨y167, e168, h152⟩ := bind_some h152
   refine RL.call (vs := [(sv y162), (sv (([32] : B8)))]) Tryz_fit7 rfl rfl rfl rfl rfl (fun S f w hS hW hi => strings_Split_c S w hS (hT.mono hW) y162 ([32] : B8) _ e168) ?_
   intro v169
   refine RL.asg rfl rfl rfl ?_
   refine RL.finG ?_
   refine GL.seq ?_
   refine GL.seq ?_
   refine GL.region ?_
   refine RL.mv rfl rfl rfl ?_
   obtain ⟨y172, e173, h152⟩ := bind_some h152
   refine RL.idxS (sz := 1) 5 Tryz.underlying22 Tryz_ln9 rfl rfl rfl rfl rfl SlOf.own (idx_some e173).1 (idx_some e173).2.1 ?_
   refine RL.ldSx (i := ((0 : Int)).toNat) (e' := y172) 5 Ex.str Tryz_ln9 rfl rfl rfl rfl SlOf.own (idx_some e173).2.2 Part.self ?_
   refine RL.binS (v := .bool (y172 == ([111] : B8))) rfl rfl rfl rfl rfl ?_
   refine RL.finG ?_
   refine GL.cond rfl (fun b174 => ?_) (fun b174 => ?_)
   ·replace h152 := ite_t b174 h152
    refine GL.seq ?_
    refine GL.region ?_
    refine RL.mv rfl rfl rfl ?_
    obtain ⟨y179, e180, h152⟩ := bind_some h152
    refine RL.idxS (sz := 1) 5 Tryz.underlying22 Tryz_ln9 rfl rfl rfl rfl rfl SlOf.own (idx_some e180).1 (idx_some e180).2.1 ?_
    refine RL.ldSx (i := ((2 : Int)).toNat) (e' := y179) 5 Ex.str Tryz_ln9 rfl rfl rfl rfl SlOf.own (idx_some e180).2.2 Part.self ?_
    obtain ⟨y181, e182, h152⟩ := bind_some h152
    refine RL.callV (v := .tuple #[.int .i64 y181, Value.nilIface]) (vs := [(sv y179)]) Tryz_fit76 rfl (Or.inl rfl) rfl rfl rfl rfl (fun U w hU hW hL => strconv_Atoi_c U w hU y179 _ e182) ?_
    refine RL.mv rfl rfl rfl ?_
    refine RL.ext rfl rfl rfl rfl ?_
    refine RL.ext rfl rfl rfl rfl ?_
    refine RL.asg rfl rfl rfl ?_
    refine RL.asg rfl rfl rfl ?_
    refine RL.finG ?_
    refine GL.seq ?_
    refine GL.region ?_
    refine RL.mv rfl rfl rfl ?_
    refine RL.mv rfl rfl rfl ?_
    obtain ⟨y188, e189, h152⟩ := bind_some h152
    refine RL.idxS (sz := 1) 5 Tryz.underlying22 Tryz_ln9 rfl rfl rfl rfl rfl SlOf.own (idx_some e189).1 (idx_some e189).2.1 ?_
    refine RL.ldSx (i := ((1 : Int)).toNat) (e' := y188) 5 Ex.str Tryz_ln9 rfl rfl rfl rfl SlOf.own (idx_some e189).2.2 Part.self ?_
    refine RL.mv rfl rfl rfl ?_
    obtain ⟨y190, e191, h152⟩ := bind_some h152
    refine RL.callU (vs := [v9, (sv y188), .int .i64 y181]) (LR := fun (o : Value) => [own 86 TrA o y190.1]) (fun o => ⟨Loc.own (TR.flatT_pair TR.flatT_str (TR.flatT_pair TR.flatT_ik TR.flatT_ik)), trivial⟩) Tryz_fit64 rfl rfl rfl rfl rfl (fun U w hU hW hL => ledger_Open_c U w hU _ _ (hL 2 _ _ rfl Seen.own) y188 y181 _ e191) ?_
    intro v192
    refine RL.mv rfl rfl rfl ?_
    refine RL.ext rfl rfl rfl rfl ?_
    refine RL.ext rfl rfl rfl rfl ?_
    refine RL.asg rfl rfl rfl ?_
    refine RL.finG ?_
    refine GL.exit ?_
    refine Gx.here ?_
    refine GL.region ?_
    refine RL.binI (v := .int .i64 ((i149 + 1 : Nat) : Int)) rfl rfl rfl rfl (binI_succ i149 (by omega)) ?_
    refine RL.mv rfl rfl rfl ?_
    refine RL.fin ?_
    cases h152
    exact fun a w st => lop_intro (i149 + 1, r159, y190.1, v192) ⟨by show i149 + 1 + r159 = (y5).length; omega, h153⟩ (by simp) (St.cut [0, 1, 6, 3, 4] ⟨rfl, rfl, rfl, rfl, rfl, trivial⟩ (by decide) rfl st)
   replace h152 := ite_f b174 h152
   refine GL.skip ?_
   refine GL.seq ?_
   refine GL.region ?_
   refine RL.alloc (t := (TR.arr 4 TR.int)) (z := (List.replicate 4 (0 : Int))) Tryz_lo122 (fun S => ⟨rfl, ⟨_, _, rfl, rfl, ⟨_, _, rfl, rfl, ⟨_, _, rfl, rfl, ⟨_, _, rfl, rfl, rfl⟩⟩⟩⟩⟩) rfl rfl rfl ?_
   intro v194
   refine RL.reL (L' := [obox 45 TrH v0 (x0.1, (x0.2.1, u0a)), obox 55 TrL u0a x0.2.2, own 86 TrA v9 l8, own 9 TR.str v7 y5, keep X, own 9 TR.str v169 y167, obox 122 (TR.arr 4 TR.int) v194 (List.replicate 4 (0 : Int))]) rfl ?_
   refine RL.finG ?_
   refine GL.seq ?_
   refine GL.seq ?_
   refine GL.region ?_
   refine RL.mv rfl rfl rfl ?_
   refine RL.finG ?_
   obtain ⟨y224, K225, h226, h227, h228, h229, h230⟩ := bindF_K h152
   refine GL.join (ι := (List Int) × Int) (fun (p : (List Int) × Int) => [(0, v0), (2, v9), (5, v169), (8, v194), (14, v7), (15, .int .i64 ((y5).length : Int)), (16, .int .i64 (i149 : Int))]) (fun (p : (List Int) × Int) => [obox 45 TrH v0 (x0.1, (x0.2.1, u0a)), obox 55 TrL u0a x0.2.2, keep X, own 86 TrA v9 l8, own 9 TR.str v169 y167, obox 122 (TR.arr 4 TR.int) v194 p.1, own 9 TR.str v7 y5]) (fun (p : (List Int) × Int) => K225 (.nx (p.1, p.2))) ?_ ?_
   ·refine GL.block ?_
    refine GL.loop (ι := Nat × (List Int) × Int) (fun (p : Nat × (List Int) × Int) => [(0, v0), (2, v9), (5, v169), (8, v194), (14, v7), (15, .int .i64 ((y5).length : Int)), (16, .int .i64 (i149 : Int)), (42, .int .i64 p.2.2)]) (fun (p : Nat × (List Int) × Int) => [obox 45 TrH v0 (x0.1, (x0.2.1, u0a)), obox 55 TrL u0a x0.2.2, own 86 TrA v9 l8, own 9 TR.str v169 y167, obox 122 (TR.arr 4 TR.int) v194 p.2.1, own 9 TR.str v7 y5, keep X]) (fun (p : Nat × (List Int) × Int) => loopM (house_House_read_b2 y167) p.1 (p.2.1, p.2.2) = some y224) (fun (p : Nat × (List Int) × Int) => p.1) (1048576, (List.replicate 4 (0 : Int)), (0 : Int)) h226 (fun a w st => St.cut [0, 1, 2, 5, 6, 3, 4] ⟨rfl, rfl, rfl, rfl, rfl, rfl, rfl, rfl, trivial⟩ (by decide) rfl st) ?_
    rintro ⟨r232, l209, x210⟩ h236
    try dsimp only at h236
    refine GL.weak (env' := [(0, v0), (2, v9), (5, v169), (8, v194), (14, v7), (15, .int .i64 ((y5).length : Int)), (16, .int .i64 (i149 : Int)), (42, .int .i64 x210)]) (L' := [obox 45 TrH v0 (x0.1, (x0.2.1, u0a)), obox 55 TrL u0a x0.2.2, own 86 TrA v9 l8, own 9 TR.str v169 y167, obox 122 (TR.arr 4 TR.int) v194 l209, own 9 TR.str v7 y5, keep X]) (fun _ _ st => st) ?_
    obtain ⟨r239, z233, hr, h234, h235⟩ := loopM_some h236
    subst hr
    unfold house_House_read_b2 at h234
    try dsimp only at h234
    refine GL.seq ?_
    refine GL.region ?_
    refine RL.binI (v := .bool (decide (x210 < (4 : Int)))) rfl rfl rfl rfl rfl ?_
    refine RL.finG ?_
    refine GL.seq ?_
    refine GL.cond rfl (fun b240 => ?_) (fun b240 => ?_)
    ·replace h234 := ite_t b240 h234
     refine GL.skip ?_
     refine GL.seq ?_
     refine GL.block ?_
     refine GL.seq ?_
     refine GL.region ?_
     refine RL.mv rfl rfl rfl ?_
     refine RL.asg rfl rfl rfl ?_
     refine RL.finG ?_
     refine GL.region ?_
     refine RL.mv rfl rfl rfl ?_
     refine RL.mv rfl rfl rfl ?_
     refine RL.mv rfl rfl rfl ?_
     refine RL.binI (v := .int .i64 (wadd (3 : Int) x210)) rfl rfl rfl rfl rfl ?_
     obtain ⟨y247, e248, h234⟩ := bind_some h234
     refine RL.idxS (sz := 1) 3 Tryz.underlying22 Tryz_ln9 rfl rfl rfl rfl rfl SlOf.own (idx_some e248).1 (idx_some e248).2.1 ?_
     refine RL.ldSx (i := (wadd (3 : Int) x210).toNat) (e' := y247) 3 Ex.str Tryz_ln9 rfl rfl rfl rfl SlOf.own (idx_some e248).2.2 Part.self ?_
     obtain ⟨y249, e250, h234⟩ := bind_some h234
     refine RL.callV (v := .tuple #[.int .i64 y249, Value.nilIface]) (vs := [(sv y247)]) Tryz_fit76 rfl (Or.inl rfl) rfl rfl rfl rfl (fun U w hU hW hL => strconv_Atoi_c U w hU y247 _ e250) ?_
     refine RL.mv rfl rfl rfl ?_
     refine RL.ext rfl rfl rfl rfl ?_
     refine RL.ext rfl rfl rfl rfl ?_
     obtain ⟨y251, e252, h234⟩ := bind_some h234
     refine RL.idxA0 (sz := 1) (t' := TR.int) 4 Tryz.underlying122 Tryz_ln3 rfl rfl rfl PtOf.obox rfl rfl Part.self (idx_some e252).1 (idx_some e252).2.1 ?_
     refine RL.stP (off := ((x210).toNat * 1)) (e' := y249) (d1 := (List.set l209 ((x210).toNat) y249)) (r := TR.int) 4 Tryz_ln3 rfl rfl (Or.inl rfl) rfl VR.int rfl (Upd.arr (idx_some e252).2.2 Upd.self) ?_
     refine RL.finG ?_
     refine GL.nilB ?_
     refine GL.region ?_
     refine RL.binI (v := .int .i64 (wadd x210 (1 : Int))) rfl rfl rfl rfl rfl ?_
     refine RL.mv rfl rfl rfl ?_
     refine RL.finG ?_
     cases h234
     exact fun a w st => lop_intro (r239, (List.set l209 ((x210).toNat) y249), wadd x210 (1 : Int)) (by exact h235) (by simp) (St.cut [0, 1, 2, 3, 4, 5, 6] ⟨rfl, rfl, rfl, rfl, rfl, rfl, rfl, rfl, trivial⟩ (by decide) rfl st)
    replace h234 := ite_f b240 h234
    cases h234
    replace h235 : some (Fl.nx _) = some y224 := h235
    cases h235
    exact GL.exit (fun a w st => mid_intro (l209, x210) h227 (St.cut [0, 1, 6, 2, 3, 4, 5] ⟨rfl, rfl, rfl, rfl, rfl, rfl, rfl, trivial⟩ (by decide) rfl st))
   rintro ⟨l209, x210⟩ h253
   have h254 := h228 _ h253
   try dsimp only at h254
   refine GL.weak (env' := [(0, v0), (2, v9), (5, v169), (8, v194), (14, v7), (15, .int .i64 ((y5).length : Int)), (16, .int .i64 (i149 : Int))]) (L' := [obox 45 TrH v0 (x0.1, (x0.2.1, u0a)), obox 55 TrL u0a x0.2.2, keep X, own 86 TrA v9 l8, own 9 TR.str v169 y167, obox 122 (TR.arr 4 TR.int) v194 l209, own 9 TR.str v7 y5]) (fun _ _ st => st) ?_
   refine GL.regionA rfl rfl ?_
   refine RA.mv 0 rfl (by kernel_rfl) rfl rfl rfl ?_
   refine RA.mv 1 rfl (by kernel_rfl) rfl rfl rfl ?_
   obtain ⟨y273, e274, h254⟩ := bind_some h254
   refine RA.idxS (sz := 1) 4 Tryz.underlying22 Tryz_ln9 2 rfl (by kernel_rfl) rfl rfl rfl rfl rfl SlOf.own (idx_some e274).1 (idx_some e274).2.1 ?_
   refine RA.mv 4 rfl (by kernel_rfl) rfl rfl rfl ?_
   obtain ⟨y275, e276, h254⟩ := bind_some h254
   refine RA.idxS (sz := 1) 4 Tryz.underlying22 Tryz_ln9 5 rfl (by kernel_rfl) rfl rfl rfl rfl rfl SlOf.own (idx_some e276).1 (idx_some e276).2.1 ?_
   refine RA.mv 16 rfl (by kernel_rfl) rfl rfl rfl ?_
   obtain ⟨y277, e278, h254⟩ := bind_some h254
   refine RA.idxS (sz := 1) 4 Tryz.underlying22 Tryz_ln9 17 rfl (by kernel_rfl) rfl rfl rfl rfl rfl SlOf.own (idx_some e278).1 (idx_some e278).2.1 ?_
   refine RA.still (le := q_90) (f := 5) [3, 6, 7, 8, 9, 10, 11, 12, 13, 14, 15, 18] 19 rfl (by kernel_rfl) ?_
   simp only [pickOps, List.getElem?_toArray, List.getElem?_cons_succ, List.getElem?_cons_zero]
   refine RL.ldSx (i := ((1 : Int)).toNat) (e' := y273) 4 Ex.str Tryz_ln9 rfl rfl rfl rfl SlOf.own (idx_some e274).2.2 Part.self ?_
   refine RL.ldSx (i := ((2 : Int)).toNat) (e' := y275) 4 Ex.str Tryz_ln9 rfl rfl rfl rfl SlOf.own (idx_some e276).2.2 Part.self ?_
   obtain ⟨y279, e280, h254⟩ := bind_some h254
   refine RL.idxA0 (sz := 1) (t' := TR.int) 5 Tryz.underlying122 Tryz_ln3 rfl rfl rfl PtOf.obox rfl rfl Part.self (idx_some e280).1 (idx_some e280).2.1 ?_
   refine RL.ldPx (off := (((0 : Int)).toNat * 1)) (e' := y279) 5 Ex.ik Tryz_ln3 rfl rfl (Or.inl rfl) rfl PtOf.obox (Part.arr (idx_some e280).2.2 Part.self) ?_
   obtain ⟨y281, e282, h254⟩ := bind_some h254
   refine RL.idxA0 (sz := 1) (t' := TR.int) 5 Tryz.underlying122 Tryz_ln3 rfl rfl rfl PtOf.obox rfl rfl Part.self (idx_some e282).1 (idx_some e282).2.1 ?_
   refine RL.ldPx (off := (((1 : Int)).toNat * 1)) (e' := y281) 5 Ex.ik Tryz_ln3 rfl rfl (Or.inl rfl) rfl PtOf.obox (Part.arr (idx_some e282).2.2 Part.self) ?_
   obtain ⟨y283, e284, h254⟩ := bind_some h254
   refine RL.idxA0 (sz := 1) (t' := TR.int) 5 Tryz.underlying122 Tryz_ln3 rfl rfl rfl PtOf.obox rfl rfl Part.self (idx_some e284).1 (idx_some e284).2.1 ?_
   refine RL.ldPx (off := (((2 : Int)).toNat * 1)) (e' := y283) 5 Ex.ik Tryz_ln3 rfl rfl (Or.inl rfl) rfl PtOf.obox (Part.arr (idx_some e284).2.2 Part.self) ?_
   obtain ⟨y285, e286, h254⟩ := bind_some h254
   refine RL.idxA0 (sz := 1) (t' := TR.int) 5 Tryz.underlying122 Tryz_ln3 rfl rfl rfl PtOf.obox rfl rfl Part.self (idx_some e286).1 (idx_some e286).2.1 ?_
   refine RL.ldPx (off := (((3 : Int)).toNat * 1)) (e' := y285) 5 Ex.ik Tryz_ln3 rfl rfl (Or.inl rfl) rfl PtOf.obox (Part.arr (idx_some e286).2.2 Part.self) ?_
   refine RL.bld (t := TrD) (d0 := ((y273, y275, y279, y281, y283, y285) : TyD)) (pv := [(0, (sv y273)), (1, (sv y275)), (2, .int .i64 y279), (3, .int .i64 y281), (4, .int .i64 y283), (5, .int .i64 y285)]) rfl Tryz_bld57 rfl rfl rfl ⟨⟨_, _, TR.str, y273, rfl, rfl, VR.str⟩, ⟨⟨_, _, TR.str, y275, rfl, rfl, VR.str⟩, ⟨⟨_, _, TR.int, y279, rfl, rfl, VR.int⟩, ⟨⟨_, _, TR.int, y281, rfl, rfl, VR.int⟩, ⟨⟨_, _, TR.int, y283, rfl, rfl, VR.int⟩, ⟨⟨_, _, TR.int, y285, rfl, rfl, VR.int⟩, trivial⟩⟩⟩⟩⟩⟩ (fun S f hi => by
     obtain ⟨c0, e0, r0⟩ := cells_vrep (t := TR.str) (u := (sv y273)) (e := y273) (VR.str S f hi)
     obtain ⟨c1, e1, r1⟩ := cells_vrep (t := TR.str) (u := (sv y275)) (e := y275) (VR.str S f hi)
     obtain ⟨c2, e2, r2⟩ := cells_vrep (t := TR.int) (u := .int .i64 y279) (e := y279) (VR.int S f hi)
     obtain ⟨c3, e3, r3⟩ := cells_vrep (t := TR.int) (u := .int .i64 y281) (e := y281) (VR.int S f hi)
     obtain ⟨c4, e4, r4⟩ := cells_vrep (t := TR.int) (u := .int .i64 y283) (e := y283) (VR.int S f hi)
     obtain ⟨c5, e5, r5⟩ := cells_vrep (t := TR.int) (u := .int .i64 y285) (e := y285) (VR.int S f hi)
     show TR.rep TrD S (List.flatten [((sv y273) : Value).cells.toList, ((sv y275) : Value).cells.toList, (.int .i64 y279 : Value).cells.toList, (.int .i64 y281 : Value).cells.toList, (.int .i64 y283 : Value).cells.toList, (.int .i64 y285 : Value).cells.toList]) _
     simp only [e0, e1, e2, e3, e4, e5,  List.flatten_cons, List.flatten_nil, List.append_nil]
     exact ⟨_, _, rfl, r0, ⟨_, _, rfl, r1, ⟨_, _, rfl, r2, ⟨_, _, rfl, r3, ⟨_, _, rfl, r4, r5⟩⟩⟩⟩⟩) ?_
   intro v287
   refine RL.ldSx (i := ((7 : Int)).toNat) (e' := y277) 4 Ex.str Tryz_ln9 rfl rfl rfl rfl SlOf.own (idx_some e278).2.2 Part.self ?_
   refine RL.finH ?_
   refine RL.fin ?_
   refine RA.next ?_
   refine RA.seq 19 rfl (by kernel_rfl) ?_
   obtain ⟨y288, e289, h254⟩ := bind_some h254
   refine RL.callU (vs := [v9, v287, (sv y277)]) (LR := fun (o : Value) => [own 86 TrA o y288.1]) (fun o => ⟨Loc.own (TR.flatT_pair TR.flatT_str (TR.flatT_pair TR.flatT_ik TR.flatT_ik)), trivial⟩) Tryz_fit77 rfl rfl rfl rfl rfl (fun U w hU hW hL => ledger_Take_c U w hU _ _ (hL 3 _ _ rfl Seen.own) _ _ (hL 7 _ _ rfl Seen.imm) y277 _ e289) ?_
   intro v290
   refine RL.fin ?_
   refine RA.next ?_
   refine RA.quiet 20 rfl rfl (by kernel_rfl) ?_
   simp only [List.drop_succ_cons, List.drop_zero]
   refine RL.mv rfl rfl rfl ?_
   refine RL.ext rfl rfl rfl rfl ?_
   refine RL.ext rfl rfl rfl rfl ?_
   refine RL.asg rfl rfl rfl ?_
   refine RL.finQ ?_
   refine RA.outQ ?_
   refine GL.weak (env' := [(0, v0), (2, v290), (14, v7), (15, .int .i64 ((y5).length : Int)), (16, .int .i64 (i149 : Int))]) (L' := [obox 45 TrH v0 (x0.1, (x0.2.1, u0a)), obox 55 TrL u0a x0.2.2, keep X, own 86 TrA v290 y288.1, own 9 TR.str v7 y5]) (fun a w st => St.cut [0, 1, 2, 8, 6] ⟨rfl, rfl, rfl, rfl, rfl, trivial⟩ (by decide) rfl st) ?_
   refine GL.nilB ?_
   refine GL.region ?_
   refine RL.binI (v := .int .i64 ((i149 + 1 : Nat) : Int)) rfl rfl rfl rfl (binI_succ i149 (by omega)) ?_
   refine RL.mv rfl rfl rfl ?_
   refine RL.fin ?_
   cases h254
   exact fun a w st => lop_intro (i149 + 1, r159, y288.1, v290) ⟨by show i149 + 1 + r159 = (y5).length; omega, h153⟩ (by simp) (St.cut [0, 1, 3, 4, 2] ⟨rfl, rfl, rfl, rfl, rfl, trivial⟩ (by decide) rfl st)
  have h158 : ¬ i149 < (y5).length := by have := of_decide_eq_false b157; omega
  obtain rfl : r150 = 0 := by omega
  replace h154 : some (Fl.nx _) = some y142 := h154
  cases h154
  exact GL.exit (fun a w st => mid_intro (l8, v9) h145 (St.cut [0, 1, 4, 2] ⟨rfl, rfl, trivial⟩ (by decide) rfl st))
 rintro ⟨l8, v9⟩ h291
 have h292 := h146 _ h291
 try dsimp only at h292
 refine GL.weak (env' := [(0, v0), (2, v9)]) (L' := [obox 45 TrH v0 (x0.1, (x0.2.1, u0a)), obox 55 TrL u0a x0.2.2, keep X, own 86 TrA v9 l8]) (fun _ _ st => st) ?_
 refine GL.region ?_
 refine RL.mv rfl rfl rfl ?_
 refine RL.mv rfl rfl rfl ?_
 refine RL.mv rfl rfl rfl ?_
 refine RL.nilk 0 rfl rfl rfl rfl PtOf.obox ?_
 refine RL.fadr (off := 0) (fo := 0) 0 Tryz_fld45_0 rfl rfl rfl PtOf.obox (Or.inr ⟨rfl, rfl⟩) ?_
 refine RL.weak (fun a w st => st.freeze 3 rfl) ?_
 refine RL.stP (off := (0 + 0)) (e' := l8) (d1 := ((l8, x0.2).1, ((l8, x0.2).2.1, u0a))) (r := (TR.sl TrA)) 0 Tryz_ln42 rfl rfl (Or.inl rfl) rfl (VR.item 3 rfl) rfl (Upd.fst Upd.self) ?_
 refine RL.reL (L' := [obox 45 TrH v0 ((l8, x0.2).1, ((l8, x0.2).2.1, u0a)), obox 55 TrL u0a x0.2.2, keep X, imm (TR.sl TrA) v9 l8]) rfl ?_
 refine RL.nilk 0 rfl rfl rfl rfl PtOf.obox ?_
 refine RL.fadr (off := 0) (fo := 1) 0 Tryz_fld45_1 rfl rfl rfl PtOf.obox (Or.inr ⟨rfl, rfl⟩) ?_
 refine RL.stP (off := (0 + 1)) (e' := ([] : (List TyD))) (d1 := (((l8, x0.2).1, (([] : (List TyD)), (l8, x0.2).2.2)).1, (((l8, x0.2).1, (([] : (List TyD)), (l8, x0.2).2.2)).2.1, u0a))) (r := (TR.sl TrD)) 0 Tryz_ln43 rfl rfl (Or.inl rfl) rfl VR.nil rfl (Upd.snd (Upd.fst Upd.self)) ?_
 refine RL.reL (L' := [obox 45 TrH v0 (((l8, x0.2).1, (([] : (List TyD)), (l8, x0.2).2.2)).1, (((l8, x0.2).1, (([] : (List TyD)), (l8, x0.2).2.2)).2.1, u0a)), obox 55 TrL u0a x0.2.2, keep X, imm (TR.sl TrA) v9 l8]) rfl ?_
 refine RL.finG ?_
 have h292 := Option.some.inj h292
 subst h292
 exact GL.nil (Gx.retN (v := .tuple #[]) (res0 rfl) (fun a w st => (st.pick [0, 1, 2] (by decide) rfl).toPostM (V := fun (o : Unit) => .tuple #[]) (LR := fun (o : Unit) => [obox 45 TrH v0 ((l8, (([] : (List TyD)), x0.2.2)).1, ((l8, (([] : (List TyD)), x0.2.2)).2.1, u0a)), obox 55 TrL u0a ((l8, (([] : (List TyD)), x0.2.2)).2.2), keep X]) ()))

theorem slices_Delete_api_Deal_api_Deal_c (B : World) (S X : Hp) (f : Nat → Hp) (w : World) (v0 : Value) (x0 : List TyD) (hO : HeapOk B.heap.size S f [own 57 TrD v0 x0, keep X].length w) (hB : Below B.heap.size B w) (hI : Its [own 57 TrD v0 x0, keep X] S f) (x1 x2 : Int) (res : List TyD) (hm : slices_Delete_api_Deal_api_Deal_m x0 x1 x2 = some res) : Calls Tryz.prog 80 #[v0, .int .i64 x1, .int .i64 x2] w (PostM B S (fun (o : Value) => o) (fun (o : Value) => [own 57 TrD o res, keep X])) := by
  refine calls_enterM 33 Tryz.func80 Tryz.ntmps80 rfl B S f [(0, v0), (1, .int .i64 x1), (2, .int .i64 x2)] [own 57 TrD v0 x0, keep X] [] rfl ⟨rfl, rfl, rfl, trivial⟩ hB hO hI trivial ?_
  unfold slices_Delete_api_Deal_api_Deal_m at hm
  obtain ⟨_, hc, hm⟩ := bind_some hm
  replace hc := chk_some hc
  have hm := Option.some.inj hm
  subst hm
  obtain ⟨i, rfl⟩ : ∃ i : Nat, x1 = (i : Int) := ⟨x1.toNat, by omega⟩
  obtain ⟨j, rfl⟩ : ∃ j : Nat, x2 = (j : Int) := ⟨x2.toNat, by omega⟩
  simp only [Int.toNat_natCast]
  refine GL.capO 0 rfl (fun hcap hmax hrl hcr => ?_)
  repeat refine GL.seq ?_
  refine GL.region ?_
  refine RL.asg rfl rfl rfl ?_
  refine RL.finG ?_
  repeat refine GL.seq ?_
  refine GL.region ?_
  refine RL.mv rfl rfl rfl ?_
  refine RL.mv rfl rfl rfl ?_
  refine RL.mv rfl rfl rfl ?_
  refine RL.mv rfl rfl rfl ?_
  refine RL.lenS 0 Tryz.underlying43 rfl rfl rfl rfl SlOf.own ?_
  refine RL.cut3 (i := i) (j := j) (m := x0.length) 0 Tryz.underlying43 Tryz_ln57 rfl rfl rfl rfl rfl rfl rfl (by omega) (by omega) (by omega) ?_
  intro u
  refine RL.finG ?_
  repeat refine GL.seq ?_
  refine GL.region ?_
  refine RL.mv rfl rfl rfl ?_
  refine RL.mv rfl rfl rfl ?_
  refine RL.binI (v := .bool ((i : Int) == (j : Int))) rfl rfl rfl rfl rfl ?_
  refine RL.finG ?_
  repeat refine GL.seq ?_
  refine GL.cond rfl (fun h => ?_) (fun h => ?_)
  · have hij : i = j := by have := of_decide_eq_true (p := (i : Int) = (j : Int)) (by simpa using h); omega
    subst hij
    repeat refine GL.seq ?_
    refine GL.region ?_
    refine RL.mv rfl rfl rfl ?_
    refine RL.asg rfl rfl rfl ?_
    refine RL.finG ?_
    have hx : x0.take i ++ x0.drop i = x0 := List.take_append_drop _ _
    rw [hx]
    exact GL.ret (Gx.ret (v := v0) (res1 rfl rfl) (fun a w st => (st.pick [0, 1] (by decide) rfl).toPostM (LR := fun (o : Value) => [own 57 TrD o x0, keep X]) v0))
  · have hij : i ≠ j := fun e => by subst e; simp at h
    have hll : (x0.take i ++ x0.drop j).length = i + (x0.length - j) := by rw [List.length_append, List.length_take, List.length_drop]; omega
    refine GL.skip ?_
    repeat refine GL.seq ?_
    refine GL.region ?_
    refine RL.mv rfl rfl rfl ?_
    refine RL.lenS 0 Tryz.underlying43 rfl rfl rfl rfl SlOf.own ?_
    refine RL.asg rfl rfl rfl ?_
    refine RL.finG ?_
    repeat refine GL.seq ?_
    refine GL.regionH 6 rfl rfl (by kernel_rfl) ?_
    simp only [List.take_succ_cons, List.take_zero, List.drop_succ_cons, List.drop_zero]
    refine RL.mv rfl rfl rfl ?_
    refine RL.mv rfl rfl rfl ?_
    refine RL.cutO (i := 0) (j := i) 0 Tryz.underlying43 Tryz_ln57 rfl rfl rfl (Or.inl ⟨rfl, rfl⟩) (Or.inr ⟨_, _, rfl, rfl⟩) rfl (by omega) (by show i ≤ capv v0; omega) ?_
    refine RL.mv rfl rfl rfl ?_
    refine RL.mv rfl rfl rfl ?_
    refine RL.cutO (i := j) (j := x0.length) 0 Tryz.underlying43 Tryz_ln57 rfl rfl rfl (Or.inr ⟨_, _, rfl, rfl⟩) (Or.inl ⟨rfl, rfl⟩) rfl (by omega) hcap ?_
    refine RL.finH ?_
    refine RL.del (i := i) (j := j) 0 Tryz.underlying43 Tryz_lo57 rfl rfl rfl rfl rfl rfl (by omega) (by omega) ?_
    refine RL.asg rfl rfl rfl ?_
    refine RL.finG ?_
    repeat refine GL.seq ?_
    refine GL.region ?_
    refine RL.mv rfl rfl rfl ?_
    refine RL.mv rfl rfl rfl ?_
    refine RL.lenS 0 Tryz.underlying43 rfl rfl rfl rfl SlOf.own ?_
    refine RL.mv rfl rfl rfl ?_
    refine RL.cutO (i := (x0.take i ++ x0.drop j).length) (j := x0.length) 0 Tryz.underlying43 Tryz_ln57 rfl rfl rfl (Or.inr ⟨_, _, rfl, rfl⟩) (Or.inr ⟨_, _, rfl, rfl⟩) rfl (by omega) (by rw [hcr]; exact hcap) ?_
    refine RL.clr (j := x0.length) 0 Tryz.underlying43 Tryz_lo57 (by decide) rfl rfl rfl rfl (by omega) (by rw [hcr]; exact hcap) ?_
    refine RL.finG ?_
    repeat refine GL.seq ?_
    refine GL.region ?_
    refine RL.mv rfl rfl rfl ?_
    refine RL.asg rfl rfl rfl ?_
    refine RL.finG ?_
    exact GL.ret (Gx.ret (v := relen v0 (i + (x0.length - j))) (res1 rfl rfl) (fun a w st => (st.pick [0, 1] (by decide) rfl).toPostM (LR := fun (o : Value) => [own 57 TrD o (x0.take i ++ x0.drop j), keep X]) (relen v0 (i + (x0.length - j)))))

theorem queue_Drop_c (S : Hp) (w : World) (hS : S.sub w) (v0 : Value) (x0 : (List TyD)) (k0 : ((TR.sl TrD)).vrep S v0 x0) (x1 : B8) (x2 : Int) (res : (List TyD) × Int) (hm : queue_Drop_m x0 x1 x2 = some res) : Calls Tryz.prog 49 #[v0, (sv x1), .int .i64 x2] w (Post w S (fun (o : Value) => .tuple #[o, .int .i64 res.2]) (fun (o : Value) => [own 57 TrD o res.1])) := by
 refine calls_enter 27 Tryz.func49 Tryz.ntmps49 rfl S false [(0, v0), (1, (sv x1)), (2, .int .i64 x2)] [imm (TR.sl TrD) v0 x0] rfl ⟨rfl, ⟨rfl, ⟨rfl, trivial⟩⟩⟩ hS ⟨k0, trivial⟩ ?_
 unfold queue_Drop_m at hm
 refine GL.seq ?_
 refine GL.region ?_
 refine RL.asg rfl rfl rfl ?_
 refine RL.asg rfl rfl rfl ?_
 refine RL.finG ?_
 refine GL.seq ?_
 refine GL.seq ?_
 refine GL.region ?_
 refine RL.mv rfl rfl rfl ?_
 obtain ⟨y6, e7, hm⟩ := bind_some hm
 refine RL.callV (v := .int .i64 y6) (vs := [v0]) Tryz_fit66 rfl (Or.inl rfl) rfl rfl rfl rfl (fun U w hU hW hL => queue_Check_c U w hU _ _ (hL 0 _ _ rfl Seen.imm) _ e7) ?_
 refine RL.asg rfl rfl rfl ?_
 refine RL.finG ?_
 refine GL.seq ?_
 refine GL.region ?_
 refine RL.mv rfl rfl rfl ?_
 refine RL.binI (v := .bool (y6 != (0 : Int))) rfl rfl rfl rfl rfl ?_
 refine RL.finG ?_
 refine GL.cond rfl (fun b8 => ?_) (fun b8 => ?_)
 ·replace hm := ite_t b8 hm
  refine GL.seq ?_
  refine GL.region ?_
  refine RL.mv rfl rfl rfl ?_
  refine RL.asg rfl rfl rfl ?_
  refine RL.asg rfl rfl rfl ?_
  refine RL.finG ?_
  refine GL.weak (fun a w st => st.nilOwn 57 TrD) ?_
  have hm := Option.some.inj hm
  subst hm
  exact GL.ret (Gx.ret (v := .tuple #[Value.slice none 0 0, .int .i64 y6]) (res2 rfl rfl rfl) (fun a w st => (st.pick [1] (by decide) rfl).toPost (Value.slice none 0 0)))
 replace hm := ite_f b8 hm
 refine GL.skip ?_
 refine GL.seq ?_
 refine GL.region ?_
 refine RL.mv rfl rfl rfl ?_
 refine RL.mv rfl rfl rfl ?_
 refine RL.mv rfl rfl rfl ?_
 obtain ⟨y11, e12, hm⟩ := bind_some hm
 refine RL.callV (v := .int .i64 y11) (vs := [v0, (sv x1), .int .i64 x2]) Tryz_fit68 rfl (Or.inl rfl) rfl rfl rfl rfl (fun U w hU hW hL => queue_find_c U w hU _ _ (hL 0 _ _ rfl Seen.imm) x1 x2 _ e12) ?_
 refine RL.asg rfl rfl rfl ?_
 refine RL.finG ?_
 refine GL.seq ?_
 refine GL.seq ?_
 refine GL.region ?_
 refine RL.mv rfl rfl rfl ?_
 refine RL.binI (v := .bool (decide (y11 < (0 : Int)))) rfl rfl rfl rfl rfl ?_
 refine RL.finG ?_
 refine GL.cond rfl (fun b13 => ?_) (fun b13 => ?_)
 ·replace hm := ite_t b13 hm
  refine GL.seq ?_
  refine GL.region ?_
  refine RL.asg rfl rfl rfl ?_
  refine RL.asg rfl rfl rfl ?_
  refine RL.finG ?_
  refine GL.weak (fun a w st => st.nilOwn 57 TrD) ?_
  have hm := Option.some.inj hm
  subst hm
  exact GL.ret (Gx.ret (v := .tuple #[Value.slice none 0 0, .int .i64 (4 : Int)]) (res2 rfl rfl rfl) (fun a w st => (st.pick [1] (by decide) rfl).toPost (Value.slice none 0 0)))
 replace hm := ite_f b13 hm
 refine GL.skip ?_
 refine GL.seq ?_
 refine GL.region ?_
 refine RL.mv rfl rfl rfl ?_
 obtain ⟨y20, e21, hm⟩ := bind_some hm
 refine RL.call (vs := [v0]) Tryz_fit69 rfl rfl rfl rfl rfl (fun S f w hS hW hi => slices_Clone_api_Deal_api_Deal_c S w hS _ _ (hi 0 _ rfl) _ e21) ?_
 intro v22
 refine RL.mv rfl rfl rfl ?_
 refine RL.mv rfl rfl rfl ?_
 refine RL.binI (v := .int .i64 (wadd y11 (1 : Int))) rfl rfl rfl rfl rfl ?_
 obtain ⟨y23, e24, hm⟩ := bind_some hm
 refine RL.callK (vs := [v22, .int .i64 y11, .int .i64 (wadd y11 (1 : Int))]) (V := fun (o : Value) => o) (LR := fun (o : Value) => [own 57 TrD o y23]) (Ls := [own 57 TrD v22 y20]) [1] (by decide) Tryz_fit80 rfl rfl rfl rfl rfl rfl (fun S f X w hO hB hW hI hL => slices_Delete_api_Deal_api_Deal_c _ S X f w _ _  hO hB hI y11 (wadd y11 (1 : Int)) _ e24) ?_
 intro v25
 refine RL.reL (L' := [imm (TR.sl TrD) v0 x0, gone, own 57 TrD v25 y23]) rfl ?_
 refine RL.asg rfl rfl rfl ?_
 refine RL.asg rfl rfl rfl ?_
 refine RL.finG ?_
 have hm := Option.some.inj hm
 subst hm
 exact GL.ret (Gx.ret (v := .tuple #[v25, .int .i64 (0 : Int)]) (res2 rfl rfl rfl) (fun a w st => (st.pick [2] (by decide) rfl).toPost v25))

theorem house_House_Do_c (B : World) (S X : Hp) (f : Nat → Hp) (w : World) (v0 : Value) (u0a : Value) (x0 : TyH) (hO : HeapOk B.heap.size S f [obox 45 TrH v0 (x0.1, (x0.2.1, u0a)), obox 55 TrL u0a x0.2.2, keep X].length w) (hB : Below B.heap.size B w) (hI : Its [obox 45 TrH v0 (x0.1, (x0.2.1, u0a)), obox 55 TrL u0a x0.2.2, keep X] S f) (hT : Tab Tryz.prog (Tryz.lays146_ren.g 1) S) (v1 : Value) (x1 : TyE) (k1 : (TrE).vrep S v1 x1) (res : (Int × Int) × Int × TyH) (hm : house_House_Do_m x0 x1 = some res) : Calls Tryz.prog 28 #[v0, v1] w (PostM B S (fun (o : Value) => .tuple #[o, .int .i64 res.2.1]) (fun (o : Value) => [obox 45 TrH v0 (res.2.2.1, (res.2.2.2.1, u0a)), obox 55 TrL u0a res.2.2.2.2, imm (TR.pair TR.int TR.int) o res.1, keep X])) := by
 refine calls_enterM 124 Tryz.func28 Tryz.ntmps28 rfl B S f [(0, v0), (1, v1)] [obox 45 TrH v0 (x0.1, (x0.2.1, u0a)), obox 55 TrL u0a x0.2.2, keep X] [imm TrE v1 x1] rfl ⟨rfl, ⟨rfl, trivial⟩⟩ hB hO hI ⟨k1, trivial⟩ ?_
 unfold house_House_Do_m at hm
 refine GL.seq ?_
 refine GL.region ?_
 refine RL.box (t := TrE) (e := x1) rfl rfl rfl rfl (VR.item 3 rfl) ?_
 intro v5
 refine RL.alloc (t := (TR.pair TR.int TR.int)) (z := ((0 : Int), (0 : Int))) Tryz_lo64 (fun S => ⟨[.int .i64 0], _, rfl, rfl, rfl⟩) rfl rfl rfl ?_
 intro v6
 refine RL.reL (L' := [obox 45 TrH v0 (x0.1, (x0.2.1, u0a)), obox 55 TrL u0a x0.2.2, keep X, imm TrE v1 x1, obox 59 TrE v5 x1, obox 64 (TR.pair TR.int TR.int) v6 ((0 : Int), (0 : Int))]) rfl ?_
 refine RL.asg rfl rfl rfl ?_
 refine RL.finG ?_
 refine GL.seq ?_
 refine GL.region ?_
 refine RL.bld (t := (TR.pair TR.int TR.int)) (d0 := (((0 : Int), (0 : Int)) : (Int × Int))) (pv := []) rfl Tryz_bld64 rfl rfl rfl trivial (fun S f hi => by
   show TR.rep (TR.pair TR.int TR.int) S (List.flatten [[.int .i64 0], [.int .i64 0]]) _
   simp only [ List.flatten_cons, List.flatten_nil, List.append_nil]
   exact ⟨_, _, rfl, rfl, rfl⟩) ?_
 intro v9
 refine RL.alloc (t := (TR.pair TR.int TR.int)) (z := ((0 : Int), (0 : Int))) Tryz_lo64 (fun S => ⟨[.int .i64 0], _, rfl, rfl, rfl⟩) rfl rfl rfl ?_
 intro v10
 refine RL.reL (L' := [obox 45 TrH v0 (x0.1, (x0.2.1, u0a)), obox 55 TrL u0a x0.2.2, keep X, imm TrE v1 x1, obox 59 TrE v5 x1, obox 64 (TR.pair TR.int TR.int) v6 ((0 : Int), (0 : Int)), imm (TR.pair TR.int TR.int) v9 (((0 : Int), (0 : Int)) : (Int × Int)), obox 64 (TR.pair TR.int TR.int) v10 ((0 : Int), (0 : Int))]) rfl ?_
 refine RL.stP (off := 0) (e' := (((0 : Int), (0 : Int)) : (Int × Int))) (d1 := (((0 : Int), (0 : Int)) : (Int × Int))) (r := (TR.pair TR.int TR.int)) 7 Tryz_ln64 rfl rfl (Or.inr ⟨rfl, rfl⟩) rfl (VR.item 6 rfl) rfl Upd.self ?_
 refine RL.finG ?_
 refine GL.seq ?_
 refine GL.seq ?_
 refine GL.region ?_
 refine RL.fadr (off := 0) (fo := 0) 4 Tryz_fld59_0 rfl rfl rfl PtOf.obox (Or.inr ⟨rfl, rfl⟩) ?_
 refine RL.ldPx (off := (0 + 0)) (e' := x1.1) 4 Ex.ik Tryz_ln3 rfl rfl (Or.inl rfl) rfl PtOf.obox (Part.fst Part.self) ?_
 refine RL.finG ?_
 refine GL.block ?_
 refine GL.seq ?_
 refine GL.region ?_
 refine RL.binI (v := .bool (x1.1 == (1 : Int))) rfl rfl rfl rfl rfl ?_
 refine RL.asg rfl rfl rfl ?_
 refine RL.finG ?_
 refine GL.cond rfl (fun b11 => ?_) (fun b11 => ?_)
 ·replace hm := ite_t b11 hm
  refine GL.seq ?_
  refine GL.regionA rfl rfl ?_
  refine RA.mv 1 rfl (by kernel_rfl) rfl rfl rfl ?_
  obtain ⟨y31, e32, hm⟩ := bind_some hm
  refine RA.meet (ι := Value) (fun (p : Value) => [(4, v6), (18, p), (21, .int .i64 y31.1)]) (fun (p : Value) => [keep X, obox 45 TrH v0 (y31.2.1, (y31.2.2.1, u0a)), obox 55 TrL u0a y31.2.2.2, obox 64 (TR.pair TR.int TR.int) v6 ((0 : Int), (0 : Int)), imm (TR.pair TR.int TR.int) p (((0 : Int), (0 : Int)) : (Int × Int))]) 2 q_91 (fun h36 => ?_) ?_
  ·skip
   refine RA.meet (ι := Value × Value) (fun (p : Value × Value) => [(4, v6), (18, p.1), (19, v0), (20, p.2)]) (fun (p : Value × Value) => [obox 45 TrH v0 (x0.1, (x0.2.1, u0a)), obox 55 TrL u0a x0.2.2, keep X, obox 64 (TR.pair TR.int TR.int) v6 ((0 : Int), (0 : Int)), imm (TR.pair TR.int TR.int) p.1 (((0 : Int), (0 : Int)) : (Int × Int)), imm TrE p.2 x1]) 3 q_92 (fun h37 => ?_) ?_
   rotate_left
   ·rintro ⟨v35, v34⟩
    refine RA.weak (env' := [(4, v6), (18, v35), (19, v0), (20, v34)]) (L' := [obox 45 TrH v0 (x0.1, (x0.2.1, u0a)), obox 55 TrL u0a x0.2.2, keep X, obox 64 (TR.pair TR.int TR.int) v6 ((0 : Int), (0 : Int)), imm (TR.pair TR.int TR.int) v35 (((0 : Int), (0 : Int)) : (Int × Int)), imm TrE v34 x1]) (fun _ _ st => st) ?_
    refine RA.seq 3 rfl (by kernel_rfl) ?_
    refine RL.callK (vs := [v0, v34]) (V := fun (o : Unit) => .int .i64 y31.1) (LR := fun (o : Unit) => [obox 45 TrH v0 (y31.2.1, (y31.2.2.1, u0a)), obox 55 TrL u0a y31.2.2.2]) (Ls := [obox 45 TrH v0 (x0.1, (x0.2.1, u0a)), obox 55 TrL u0a x0.2.2]) [0, 1] (by decide) Tryz_fit42 rfl rfl rfl rfl rfl rfl (fun S f X w hO hB hW hI hL => house_House_open_c _ S X f w _ _ x0  hO hB hI (hT.mono hW) _ _ (hL 5 _ _ rfl Sure.imm) _ e32) ?_
    intro _
    refine RL.fin ?_
    refine RA.next ?_
    refine RA.relist 2 q_91 rfl (by kernel_rfl) ?_
    exact fun a w st => h36 v35 a w (St.cut [2, 6, 7, 3, 4] ⟨rfl, rfl, rfl, trivial⟩ (by decide) rfl st)
   refine RA.meet (ι := Unit) (fun (p : Unit) => [(4, v6), (6, v10), (21, .int .i64 y31.1)]) (fun (p : Unit) => [keep X, obox 45 TrH v0 (y31.2.1, (y31.2.2.1, u0a)), obox 55 TrL u0a y31.2.2.2, obox 64 (TR.pair TR.int TR.int) v6 ((0 : Int), (0 : Int)), obox 64 (TR.pair TR.int TR.int) v10 (((0 : Int), (0 : Int)) : (Int × Int))]) 3 q_93 (fun h38 => ?_) ?_
   rotate_left
   ·rintro ⟨⟩
    refine RA.weak (env' := [(4, v6), (6, v10), (21, .int .i64 y31.1)]) (L' := [keep X, obox 45 TrH v0 (y31.2.1, (y31.2.2.1, u0a)), obox 55 TrL u0a y31.2.2.2, obox 64 (TR.pair TR.int TR.int) v6 ((0 : Int), (0 : Int)), obox 64 (TR.pair TR.int TR.int) v10 (((0 : Int), (0 : Int)) : (Int × Int))]) (fun _ _ st => st) ?_
    refine RA.seq 0 rfl (by kernel_rfl) ?_
    refine RL.ldP (off := 0) (r := (TR.pair TR.int TR.int)) (e' := (((0 : Int), (0 : Int)) : (Int × Int))) 4 Tryz_ln64 rfl rfl (Or.inr ⟨rfl, rfl⟩) rfl PtOf.obox Part.self ?_
    intro v45
    refine RL.fin ?_
    refine RA.next ?_
    refine RA.relist 2 q_91 rfl (by kernel_rfl) ?_
    exact fun a w st => h36 v45 a w (St.cut [0, 1, 2, 3, 5] ⟨rfl, rfl, rfl, trivial⟩ (by decide) rfl st)
   refine RA.meet (ι := Value) (fun (p : Value) => [(4, v6), (6, v10), (19, v0), (20, p)]) (fun (p : Value) => [obox 45 TrH v0 (x0.1, (x0.2.1, u0a)), obox 55 TrL u0a x0.2.2, keep X, obox 64 (TR.pair TR.int TR.int) v6 ((0 : Int), (0 : Int)), obox 64 (TR.pair TR.int TR.int) v10 (((0 : Int), (0 : Int)) : (Int × Int)), imm TrE p x1]) 4 q_94 (fun h39 => ?_) ?_
   rotate_left
   ·rintro v34
    refine RA.weak (env' := [(4, v6), (6, v10), (19, v0), (20, v34)]) (L' := [obox 45 TrH v0 (x0.1, (x0.2.1, u0a)), obox 55 TrL u0a x0.2.2, keep X, obox 64 (TR.pair TR.int TR.int) v6 ((0 : Int), (0 : Int)), obox 64 (TR.pair TR.int TR.int) v10 (((0 : Int), (0 : Int)) : (Int × Int)), imm TrE v34 x1]) (fun _ _ st => st) ?_
    refine RA.many [0, 3] (by kernel_rfl) ⟨⟨_, rfl, ?_⟩, ⟨_, rfl, ?_⟩, trivial⟩
    ·skip
     refine RL.ldP (off := 0) (r := (TR.pair TR.int TR.int)) (e' := (((0 : Int), (0 : Int)) : (Int × Int))) 4 Tryz_ln64 rfl rfl (Or.inr ⟨rfl, rfl⟩) rfl PtOf.obox Part.self ?_
     intro v44
     refine RL.fin ?_
     refine RA.next ?_
     refine RA.relist 3 q_92 rfl (by kernel_rfl) ?_
     exact fun a w st => h37 (v44, v34) a w (St.cut [0, 1, 2, 3, 6, 5] ⟨rfl, rfl, rfl, rfl, trivial⟩ (by decide) rfl st)
    refine RL.callK (vs := [v0, v34]) (V := fun (o : Unit) => .int .i64 y31.1) (LR := fun (o : Unit) => [obox 45 TrH v0 (y31.2.1, (y31.2.2.1, u0a)), obox 55 TrL u0a y31.2.2.2]) (Ls := [obox 45 TrH v0 (x0.1, (x0.2.1, u0a)), obox 55 TrL u0a x0.2.2]) [0, 1] (by decide) Tryz_fit42 rfl rfl rfl rfl rfl rfl (fun S f X w hO hB hW hI hL => house_House_open_c _ S X f w _ _ x0  hO hB hI (hT.mono hW) _ _ (hL 5 _ _ rfl Sure.imm) _ e32) ?_
    intro _
    refine RL.fin ?_
    refine RA.next ?_
    refine RA.relist 3 q_93 rfl (by kernel_rfl) ?_
    exact fun a w st => h38 () a w (St.cut [2, 6, 7, 3, 4] ⟨rfl, rfl, rfl, trivial⟩ (by decide) rfl st)
   refine RA.meet (ι := Value) (fun (p : Value) => [(3, v5), (4, v6), (18, p), (19, v0)]) (fun (p : Value) => [obox 45 TrH v0 (x0.1, (x0.2.1, u0a)), obox 55 TrL u0a x0.2.2, keep X, obox 59 TrE v5 x1, obox 64 (TR.pair TR.int TR.int) v6 ((0 : Int), (0 : Int)), imm (TR.pair TR.int TR.int) p (((0 : Int), (0 : Int)) : (Int × Int))]) 4 q_95 (fun h40 => ?_) ?_
   rotate_left
   ·rintro v33
    refine RA.weak (env' := [(3, v5), (4, v6), (18, v33), (19, v0)]) (L' := [obox 45 TrH v0 (x0.1, (x0.2.1, u0a)), obox 55 TrL u0a x0.2.2, keep X, obox 59 TrE v5 x1, obox 64 (TR.pair TR.int TR.int) v6 ((0 : Int), (0 : Int)), imm (TR.pair TR.int TR.int) v33 (((0 : Int), (0 : Int)) : (Int × Int))]) (fun _ _ st => st) ?_
    refine RA.seq 2 rfl (by kernel_rfl) ?_
    refine RL.ldP (off := 0) (r := TrE) (e' := x1) 3 Tryz_ln59 rfl rfl (Or.inr ⟨rfl, rfl⟩) rfl PtOf.obox Part.self ?_
    intro v43
    refine RL.fin ?_
    refine RA.next ?_
    refine RA.relist 3 q_92 rfl (by kernel_rfl) ?_
    exact fun a w st => h37 (v33, v43) a w (St.cut [0, 1, 2, 4, 5, 6] ⟨rfl, rfl, rfl, rfl, trivial⟩ (by decide) rfl st)
   refine RA.many [0, 2] (by kernel_rfl) ⟨⟨_, rfl, ?_⟩, ⟨_, rfl, ?_⟩, trivial⟩
   ·skip
    refine RL.ldP (off := 0) (r := (TR.pair TR.int TR.int)) (e' := (((0 : Int), (0 : Int)) : (Int × Int))) 7 Tryz_ln64 rfl rfl (Or.inr ⟨rfl, rfl⟩) rfl PtOf.obox Part.self ?_
    intro v41
    refine RL.fin ?_
    refine RA.next ?_
    refine RA.relist 4 q_95 rfl (by kernel_rfl) ?_
    exact fun a w st => h40 v41 a w (St.cut [0, 1, 2, 4, 5, 8] ⟨rfl, rfl, rfl, rfl, trivial⟩ (by decide) rfl st)
   refine RL.ldP (off := 0) (r := TrE) (e' := x1) 4 Tryz_ln59 rfl rfl (Or.inr ⟨rfl, rfl⟩) rfl PtOf.obox Part.self ?_
   intro v42
   refine RL.fin ?_
   refine RA.next ?_
   refine RA.relist 4 q_94 rfl (by kernel_rfl) ?_
   exact fun a w st => h39 v42 a w (St.cut [0, 1, 2, 5, 7, 8] ⟨rfl, rfl, rfl, rfl, trivial⟩ (by decide) rfl st)
  rintro v35
  refine RA.weak (env' := [(4, v6), (18, v35), (21, .int .i64 y31.1)]) (L' := [keep X, obox 45 TrH v0 (y31.2.1, (y31.2.2.1, u0a)), obox 55 TrL u0a y31.2.2.2, obox 64 (TR.pair TR.int TR.int) v6 ((0 : Int), (0 : Int)), imm (TR.pair TR.int TR.int) v35 (((0 : Int), (0 : Int)) : (Int × Int))]) (fun _ _ st => st) ?_
  refine RA.seq 4 rfl (by kernel_rfl) ?_
  refine RL.stP (off := 0) (e' := (((0 : Int), (0 : Int)) : (Int × Int))) (d1 := (((0 : Int), (0 : Int)) : (Int × Int))) (r := (TR.pair TR.int TR.int)) 3 Tryz_ln64 rfl rfl (Or.inr ⟨rfl, rfl⟩) rfl (VR.item 4 rfl) rfl Upd.self ?_
  refine RL.fin ?_
  refine RA.next ?_
  refine RA.quiet 5 rfl rfl (by kernel_rfl) ?_
  simp only [List.drop_succ_cons, List.drop_zero]
  refine RL.asg rfl rfl rfl ?_
  refine RL.finQ ?_
  refine RA.outQ ?_
  refine GL.weak (env' := [(4, v6), (5, .int .i64 y31.1)]) (L' := [keep X, obox 45 TrH v0 (y31.2.1, (y31.2.2.1, u0a)), obox 55 TrL u0a y31.2.2.2, obox 64 (TR.pair TR.int TR.int) v6 (((0 : Int), (0 : Int)) : (Int × Int))]) (fun a w st => St.cut [0, 1, 2, 3] ⟨rfl, rfl, trivial⟩ (by decide) rfl st) ?_
  have hm := Option.some.inj hm
  subst hm
  exact GL.ret (Gx.retX [.cell 4 64, .tmp 5] rfl (fun a w st => by
    have st0 := st
    obtain ⟨u46, hu46, st⟩ := st.cellRes (p := 4) (T := 64) 3 Tryz_ln64 rfl rfl rfl
    exact ⟨[u46, .int .i64 y31.1], ⟨hu46, ⟨(ResTmp st0.env rfl), trivial⟩⟩, (st.pick [1, 2, 4, 0] (by decide) rfl).toPostM (V := fun (o : Value) => .tuple #[o, .int .i64 (((((0 : Int), (0 : Int)) : (Int × Int)), y31.1, y31.2).2.1)]) (LR := fun (o : Value) => [obox 45 TrH v0 ((((((0 : Int), (0 : Int)) : (Int × Int)), y31.1, y31.2).2.2).1, ((((((0 : Int), (0 : Int)) : (Int × Int)), y31.1, y31.2).2.2).2.1, u0a)), obox 55 TrL u0a ((((((0 : Int), (0 : Int)) : (Int × Int)), y31.1, y31.2).2.2).2.2), imm (TR.pair TR.int TR.int) o (((((0 : Int), (0 : Int)) : (Int × Int)), y31.1, y31.2).1), keep X]) u46⟩))
 replace hm := ite_f b11 hm
 refine GL.seq ?_
 refine GL.region ?_
 refine RL.binI (v := .bool (x1.1 == (2 : Int))) rfl rfl rfl rfl rfl ?_
 refine RL.asg rfl rfl rfl ?_
 refine RL.finG ?_
 refine GL.cond rfl (fun b47 => ?_) (fun b47 => ?_)
 ·replace hm := ite_t b47 hm
  refine GL.seq ?_
  refine GL.regionA rfl rfl ?_
  refine RA.mv 0 rfl (by kernel_rfl) rfl rfl rfl ?_
  refine RA.still (le := q_96) (f := 6) [1, 2, 3, 4, 5] 6 rfl (by kernel_rfl) ?_
  simp only [pickOps, List.getElem?_toArray, List.getElem?_cons_succ, List.getElem?_cons_zero]
  refine RL.nilk 0 rfl rfl rfl rfl PtOf.obox ?_
  refine RL.fadr (off := 0) (fo := 1) 0 Tryz_fld45_1 rfl rfl rfl PtOf.obox (Or.inr ⟨rfl, rfl⟩) ?_
  refine RL.ldP (off := (0 + 1)) (r := (TR.sl TrD)) (e' := x0.2.1) 0 Tryz_ln43 rfl rfl (Or.inl rfl) rfl PtOf.obox (Part.snd (Part.fst Part.self)) ?_
  intro v53
  refine RL.fadr (off := 0) (fo := 3) 4 Tryz_fld59_3 rfl rfl rfl PtOf.obox (Or.inr ⟨rfl, rfl⟩) ?_
  refine RL.ldP (off := (0 + 3)) (r := TrD) (e' := x1.2.2.2) 4 Tryz_ln57 rfl rfl (Or.inl rfl) rfl PtOf.obox (Part.snd (Part.snd (Part.snd Part.self))) ?_
  intro v54
  refine RL.finH ?_
  refine RL.fin ?_
  refine RA.next ?_
  refine RA.seq 6 rfl (by kernel_rfl) ?_
  obtain ⟨y55, e56, hm⟩ := bind_some hm
  refine RL.call (vs := [v53, v54]) Tryz_fit43 rfl rfl rfl rfl rfl (fun S f w hS hW hi => queue_Add_c S w hS _ _ (hi 8 _ rfl) _ _ (hi 9 _ rfl) _ e56) ?_
  intro v57
  refine RL.fin ?_
  refine RA.next ?_
  refine RA.quiet 7 rfl rfl (by kernel_rfl) ?_
  simp only [List.drop_succ_cons, List.drop_zero]
  refine RL.mv rfl rfl rfl ?_
  refine RL.ext rfl rfl rfl rfl ?_
  refine RL.ext rfl rfl rfl rfl ?_
  refine RL.asg rfl rfl rfl ?_
  refine RL.asg rfl rfl rfl ?_
  refine RL.finQ ?_
  refine RA.outQ ?_
  refine GL.weak (env' := [(0, v0), (4, v6), (6, v10), (7, v57), (8, .int .i64 y55.2)]) (L' := [obox 45 TrH v0 (x0.1, (x0.2.1, u0a)), obox 55 TrL u0a x0.2.2, keep X, obox 64 (TR.pair TR.int TR.int) v6 ((0 : Int), (0 : Int)), obox 64 (TR.pair TR.int TR.int) v10 (((0 : Int), (0 : Int)) : (Int × Int)), own 57 TrD v57 y55.1]) (fun a w st => St.cut [0, 1, 2, 5, 7, 10] ⟨rfl, rfl, rfl, rfl, rfl, trivial⟩ (by decide) rfl st) ?_
  refine GL.seq ?_
  refine GL.seq ?_
  refine GL.region ?_
  refine RL.mv rfl rfl rfl ?_
  refine RL.binI (v := .bool (y55.2 != (0 : Int))) rfl rfl rfl rfl rfl ?_
  refine RL.finG ?_
  refine GL.cond rfl (fun b58 => ?_) (fun b58 => ?_)
  ·replace hm := ite_t b58 hm
   refine GL.seq ?_
   refine GL.region ?_
   refine RL.ldP (off := 0) (r := (TR.pair TR.int TR.int)) (e' := (((0 : Int), (0 : Int)) : (Int × Int))) 4 Tryz_ln64 rfl rfl (Or.inr ⟨rfl, rfl⟩) rfl PtOf.obox Part.self ?_
   intro v60
   refine RL.mv rfl rfl rfl ?_
   refine RL.stP (off := 0) (e' := (((0 : Int), (0 : Int)) : (Int × Int))) (d1 := (((0 : Int), (0 : Int)) : (Int × Int))) (r := (TR.pair TR.int TR.int)) 3 Tryz_ln64 rfl rfl (Or.inr ⟨rfl, rfl⟩) rfl (VR.item 6 rfl) rfl Upd.self ?_
   refine RL.reL (L' := [obox 45 TrH v0 (x0.1, (x0.2.1, u0a)), obox 55 TrL u0a x0.2.2, keep X, obox 64 (TR.pair TR.int TR.int) v6 (((0 : Int), (0 : Int)) : (Int × Int)), obox 64 (TR.pair TR.int TR.int) v10 (((0 : Int), (0 : Int)) : (Int × Int)), own 57 TrD v57 y55.1, imm (TR.pair TR.int TR.int) v60 (((0 : Int), (0 : Int)) : (Int × Int))]) rfl ?_
   refine RL.asg rfl rfl rfl ?_
   refine RL.finG ?_
   have hm := Option.some.inj hm
   subst hm
   exact GL.ret (Gx.retX [.cell 4 64, .tmp 5] rfl (fun a w st => by
     have st0 := st
     obtain ⟨u61, hu61, st⟩ := st.cellRes (p := 4) (T := 64) 3 Tryz_ln64 rfl rfl rfl
     exact ⟨[u61, .int .i64 y55.2], ⟨hu61, ⟨(ResTmp st0.env rfl), trivial⟩⟩, (st.pick [0, 1, 7, 2] (by decide) rfl).toPostM (V := fun (o : Value) => .tuple #[o, .int .i64 (((((0 : Int), (0 : Int)) : (Int × Int)), y55.2, x0).2.1)]) (LR := fun (o : Value) => [obox 45 TrH v0 ((((((0 : Int), (0 : Int)) : (Int × Int)), y55.2, x0).2.2).1, ((((((0 : Int), (0 : Int)) : (Int × Int)), y55.2, x0).2.2).2.1, u0a)), obox 55 TrL u0a ((((((0 : Int), (0 : Int)) : (Int × Int)), y55.2, x0).2.2).2.2), imm (TR.pair TR.int TR.int) o (((((0 : Int), (0 : Int)) : (Int × Int)), y55.2, x0).1), keep X]) u61⟩))
  replace hm := ite_f b58 hm
  refine GL.skip ?_
  refine GL.seq ?_
  refine GL.region ?_
  refine RL.mv rfl rfl rfl ?_
  refine RL.mv rfl rfl rfl ?_
  refine RL.nilk 0 rfl rfl rfl rfl PtOf.obox ?_
  refine RL.fadr (off := 0) (fo := 1) 0 Tryz_fld45_1 rfl rfl rfl PtOf.obox (Or.inr ⟨rfl, rfl⟩) ?_
  refine RL.weak (fun a w st => st.freeze 5 rfl) ?_
  refine RL.stP (off := (0 + 1)) (e' := y55.1) (d1 := ((x0.1, (y55.1, x0.2.2)).1, ((x0.1, (y55.1, x0.2.2)).2.1, u0a))) (r := (TR.sl TrD)) 0 Tryz_ln43 rfl rfl (Or.inl rfl) rfl (VR.item 5 rfl) rfl (Upd.snd (Upd.fst Upd.self)) ?_
  refine RL.reL (L' := [obox 45 TrH v0 ((x0.1, (y55.1, x0.2.2)).1, ((x0.1, (y55.1, x0.2.2)).2.1, u0a)), obox 55 TrL u0a x0.2.2, keep X, obox 64 (TR.pair TR.int TR.int) v6 ((0 : Int), (0 : Int)), obox 64 (TR.pair TR.int TR.int) v10 (((0 : Int), (0 : Int)) : (Int × Int)), imm (TR.sl TrD) v57 y55.1]) rfl ?_
  refine RL.finG ?_
  refine GL.seq ?_
  refine GL.region ?_
  refine RL.ldP (off := 0) (r := (TR.pair TR.int TR.int)) (e' := (((0 : Int), (0 : Int)) : (Int × Int))) 4 Tryz_ln64 rfl rfl (Or.inr ⟨rfl, rfl⟩) rfl PtOf.obox Part.self ?_
  intro v63
  refine RL.stP (off := 0) (e' := (((0 : Int), (0 : Int)) : (Int × Int))) (d1 := (((0 : Int), (0 : Int)) : (Int × Int))) (r := (TR.pair TR.int TR.int)) 3 Tryz_ln64 rfl rfl (Or.inr ⟨rfl, rfl⟩) rfl (VR.item 6 rfl) rfl Upd.self ?_
  refine RL.reL (L' := [obox 45 TrH v0 ((x0.1, (y55.1, x0.2.2)).1, ((x0.1, (y55.1, x0.2.2)).2.1, u0a)), obox 55 TrL u0a x0.2.2, keep X, obox 64 (TR.pair TR.int TR.int) v6 (((0 : Int), (0 : Int)) : (Int × Int)), obox 64 (TR.pair TR.int TR.int) v10 (((0 : Int), (0 : Int)) : (Int × Int)), imm (TR.sl TrD) v57 y55.1, imm (TR.pair TR.int TR.int) v63 (((0 : Int), (0 : Int)) : (Int × Int))]) rfl ?_
  refine RL.asg rfl rfl rfl ?_
  refine RL.finG ?_
  have hm := Option.some.inj hm
  subst hm
  exact GL.ret (Gx.retX [.cell 4 64, .tmp 5] rfl (fun a w st => by
    have st0 := st
    obtain ⟨u65, hu65, st⟩ := st.cellRes (p := 4) (T := 64) 3 Tryz_ln64 rfl rfl rfl
    exact ⟨[u65, .int .i64 (0 : Int)], ⟨hu65, ⟨(ResTmp st0.env rfl), trivial⟩⟩, (st.pick [0, 1, 7, 2] (by decide) rfl).toPostM (V := fun (o : Value) => .tuple #[o, .int .i64 (((((0 : Int), (0 : Int)) : (Int × Int)), (0 : Int), (x0.1, (y55.1, x0.2.2))).2.1)]) (LR := fun (o : Value) => [obox 45 TrH v0 ((((((0 : Int), (0 : Int)) : (Int × Int)), (0 : Int), (x0.1, (y55.1, x0.2.2))).2.2).1, ((((((0 : Int), (0 : Int)) : (Int × Int)), (0 : Int), (x0.1, (y55.1, x0.2.2))).2.2).2.1, u0a)), obox 55 TrL u0a ((((((0 : Int), (0 : Int)) : (Int × Int)), (0 : Int), (x0.1, (y55.1, x0.2.2))).2.2).2.2), imm (TR.pair TR.int TR.int) o (((((0 : Int), (0 : Int)) : (Int × Int)), (0 : Int), (x0.1, (y55.1, x0.2.2))).1), keep X]) u65⟩))
 replace hm := ite_f b47 hm
 refine GL.seq ?_
 refine GL.region ?_
 refine RL.binI (v := .bool (x1.1 == (3 : Int))) rfl rfl rfl rfl rfl ?_
 refine RL.asg rfl rfl rfl ?_
 refine RL.finG ?_
 refine GL.cond rfl (fun b66 => ?_) (fun b66 => ?_)
 ·replace hm := ite_t b66 hm
  refine GL.seq ?_
  refine GL.region ?_
  refine RL.mv rfl rfl rfl ?_
  refine RL.ldP (off := 0) (r := TrE) (e' := x1) 4 Tryz_ln59 rfl rfl (Or.inr ⟨rfl, rfl⟩) rfl PtOf.obox Part.self ?_
  intro v71
  refine RL.reL (L' := [obox 45 TrH v0 (x0.1, (x0.2.1, u0a)), obox 55 TrL u0a x0.2.2, keep X, imm TrE v1 x1, obox 59 TrE v5 x1, obox 64 (TR.pair TR.int TR.int) v6 ((0 : Int), (0 : Int)), imm (TR.pair TR.int TR.int) v9 (((0 : Int), (0 : Int)) : (Int × Int)), obox 64 (TR.pair TR.int TR.int) v10 (((0 : Int), (0 : Int)) : (Int × Int)), imm TrE v71 x1]) rfl ?_
  obtain ⟨y72, e73, hm⟩ := bind_some hm
  refine RL.callK (vs := [v0, v71]) (V := fun (o : Value) => .tuple #[o, .int .i64 y72.2.1]) (LR := fun (o : Value) => [obox 45 TrH v0 (y72.2.2.1, (y72.2.2.2.1, u0a)), obox 55 TrL u0a y72.2.2.2.2, imm (TR.pair TR.int TR.int) o y72.1]) (Ls := [obox 45 TrH v0 (x0.1, (x0.2.1, u0a)), obox 55 TrL u0a x0.2.2]) [0, 1] (by decide) Tryz_fit44 rfl rfl rfl rfl rfl rfl (fun S f X w hO hB hW hI hL => house_House_build_c _ S X f w _ _ x0  hO hB hI (hT.mono hW) _ _ (hL 8 _ _ rfl Sure.imm) _ e73) ?_
  intro v74
  refine RL.reL (L' := [gone, gone, keep X, imm TrE v1 x1, obox 59 TrE v5 x1, obox 64 (TR.pair TR.int TR.int) v6 ((0 : Int), (0 : Int)), imm (TR.pair TR.int TR.int) v9 (((0 : Int), (0 : Int)) : (Int × Int)), obox 64 (TR.pair TR.int TR.int) v10 (((0 : Int), (0 : Int)) : (Int × Int)), imm TrE v71 x1, obox 45 TrH v0 (y72.2.2.1, (y72.2.2.2.1, u0a)), obox 55 TrL u0a y72.2.2.2.2, imm (TR.pair TR.int TR.int) v74 y72.1]) rfl ?_
  refine RL.ext rfl rfl rfl rfl ?_
  refine RL.ext rfl rfl rfl rfl ?_
  refine RL.stP (off := 0) (e' := y72.1) (d1 := y72.1) (r := (TR.pair TR.int TR.int)) 5 Tryz_ln64 rfl rfl (Or.inr ⟨rfl, rfl⟩) rfl (VR.item 11 rfl) rfl Upd.self ?_
  refine RL.asg rfl rfl rfl ?_
  refine RL.finG ?_
  have hm := Option.some.inj hm
  subst hm
  exact GL.ret (Gx.retX [.cell 4 64, .tmp 5] rfl (fun a w st => by
    have st0 := st
    obtain ⟨u75, hu75, st⟩ := st.cellRes (p := 4) (T := 64) 5 Tryz_ln64 rfl rfl rfl
    exact ⟨[u75, .int .i64 y72.2.1], ⟨hu75, ⟨(ResTmp st0.env rfl), trivial⟩⟩, (st.pick [9, 10, 12, 2] (by decide) rfl).toPostM (V := fun (o : Value) => .tuple #[o, .int .i64 ((y72.1, y72.2.1, y72.2.2).2.1)]) (LR := fun (o : Value) => [obox 45 TrH v0 (((y72.1, y72.2.1, y72.2.2).2.2).1, (((y72.1, y72.2.1, y72.2.2).2.2).2.1, u0a)), obox 55 TrL u0a (((y72.1, y72.2.1, y72.2.2).2.2).2.2), imm (TR.pair TR.int TR.int) o ((y72.1, y72.2.1, y72.2.2).1), keep X]) u75⟩))
 replace hm := ite_f b66 hm
 refine GL.seq ?_
 refine GL.region ?_
 refine RL.binI (v := .bool (x1.1 == (4 : Int))) rfl rfl rfl rfl rfl ?_
 refine RL.asg rfl rfl rfl ?_
 refine RL.finG ?_
 refine GL.cond rfl (fun b76 => ?_) (fun b76 => ?_)
 ·replace hm := ite_t b76 hm
  refine GL.seq ?_
  refine GL.region ?_
  refine RL.mv rfl rfl rfl ?_
  refine RL.nilk 0 rfl rfl rfl rfl PtOf.obox ?_
  refine RL.fadr (off := 0) (fo := 2) 0 Tryz_fld45_2 rfl rfl rfl PtOf.obox (Or.inr ⟨rfl, rfl⟩) ?_
  refine RL.ldPx (off := (0 + 2)) (e' := u0a) 0 Ex.raw Tryz_ln40 rfl rfl (Or.inl rfl) rfl PtOf.obox (Part.snd (Part.snd Part.self)) ?_
  obtain ⟨y79, e80, hm⟩ := bind_some hm
  refine RL.callK (vs := [u0a]) (V := fun (o : Unit) => .tuple #[]) (LR := fun (o : Unit) => [obox 55 TrL u0a y79]) (Ls := [obox 55 TrL u0a x0.2.2]) [1] (by decide) Tryz_fit45 rfl rfl rfl rfl rfl rfl (fun S f X w hO hB hW hI hL => log_Log_Sync_c _ S X f w _ _  hO hB hI  _ e80) ?_
  intro _
  refine RL.reL (L' := [obox 45 TrH v0 (x0.1, (x0.2.1, u0a)), gone, keep X, imm TrE v1 x1, obox 59 TrE v5 x1, obox 64 (TR.pair TR.int TR.int) v6 ((0 : Int), (0 : Int)), imm (TR.pair TR.int TR.int) v9 (((0 : Int), (0 : Int)) : (Int × Int)), obox 64 (TR.pair TR.int TR.int) v10 (((0 : Int), (0 : Int)) : (Int × Int)), obox 55 TrL u0a y79]) rfl ?_
  refine RL.finG ?_
  refine GL.seq ?_
  refine GL.region ?_
  refine RL.ldP (off := 0) (r := (TR.pair TR.int TR.int)) (e' := (((0 : Int), (0 : Int)) : (Int × Int))) 7 Tryz_ln64 rfl rfl (Or.inr ⟨rfl, rfl⟩) rfl PtOf.obox Part.self ?_
  intro v82
  refine RL.stP (off := 0) (e' := (((0 : Int), (0 : Int)) : (Int × Int))) (d1 := (((0 : Int), (0 : Int)) : (Int × Int))) (r := (TR.pair TR.int TR.int)) 5 Tryz_ln64 rfl rfl (Or.inr ⟨rfl, rfl⟩) rfl (VR.item 9 rfl) rfl Upd.self ?_
  refine RL.reL (L' := [obox 45 TrH v0 (x0.1, (x0.2.1, u0a)), gone, keep X, imm TrE v1 x1, obox 59 TrE v5 x1, obox 64 (TR.pair TR.int TR.int) v6 (((0 : Int), (0 : Int)) : (Int × Int)), imm (TR.pair TR.int TR.int) v9 (((0 : Int), (0 : Int)) : (Int × Int)), obox 64 (TR.pair TR.int TR.int) v10 (((0 : Int), (0 : Int)) : (Int × Int)), obox 55 TrL u0a y79, imm (TR.pair TR.int TR.int) v82 (((0 : Int), (0 : Int)) : (Int × Int))]) rfl ?_
  refine RL.asg rfl rfl rfl ?_
  refine RL.finG ?_
  have hm := Option.some.inj hm
  subst hm
  exact GL.ret (Gx.retX [.cell 4 64, .tmp 5] rfl (fun a w st => by
    have st0 := st
    obtain ⟨u83, hu83, st⟩ := st.cellRes (p := 4) (T := 64) 5 Tryz_ln64 rfl rfl rfl
    exact ⟨[u83, .int .i64 (0 : Int)], ⟨hu83, ⟨(ResTmp st0.env rfl), trivial⟩⟩, (st.pick [0, 8, 10, 2] (by decide) rfl).toPostM (V := fun (o : Value) => .tuple #[o, .int .i64 (((((0 : Int), (0 : Int)) : (Int × Int)), (0 : Int), (x0.1, (x0.2.1, y79))).2.1)]) (LR := fun (o : Value) => [obox 45 TrH v0 ((((((0 : Int), (0 : Int)) : (Int × Int)), (0 : Int), (x0.1, (x0.2.1, y79))).2.2).1, ((((((0 : Int), (0 : Int)) : (Int × Int)), (0 : Int), (x0.1, (x0.2.1, y79))).2.2).2.1, u0a)), obox 55 TrL u0a ((((((0 : Int), (0 : Int)) : (Int × Int)), (0 : Int), (x0.1, (x0.2.1, y79))).2.2).2.2), imm (TR.pair TR.int TR.int) o (((((0 : Int), (0 : Int)) : (Int × Int)), (0 : Int), (x0.1, (x0.2.1, y79))).1), keep X]) u83⟩))
 replace hm := ite_f b76 hm
 refine GL.seq ?_
 refine GL.region ?_
 refine RL.binI (v := .bool (x1.1 == (5 : Int))) rfl rfl rfl rfl rfl ?_
 refine RL.asg rfl rfl rfl ?_
 refine RL.finG ?_
 refine GL.cond rfl (fun b84 => ?_) (fun b84 => ?_)
 ·replace hm := ite_t b84 hm
  refine GL.seq ?_
  refine GL.seq ?_
  refine GL.regionA rfl rfl ?_
  refine RA.mv 0 rfl (by kernel_rfl) rfl rfl rfl ?_
  refine RA.still (le := q_97) (f := 2) [1, 2, 3, 4, 5] 6 rfl (by kernel_rfl) ?_
  simp only [pickOps, List.getElem?_toArray, List.getElem?_cons_succ, List.getElem?_cons_zero]
  refine RL.nilk 0 rfl rfl rfl rfl PtOf.obox ?_
  refine RL.fadr (off := 0) (fo := 2) 0 Tryz_fld45_2 rfl rfl rfl PtOf.obox (Or.inr ⟨rfl, rfl⟩) ?_
  refine RL.ldPx (off := (0 + 2)) (e' := u0a) 0 Ex.raw Tryz_ln40 rfl rfl (Or.inl rfl) rfl PtOf.obox (Part.snd (Part.snd Part.self)) ?_
  refine RL.fadr (off := 0) (fo := 1) 4 Tryz_fld59_1 rfl rfl rfl PtOf.obox (Or.inr ⟨rfl, rfl⟩) ?_
  refine RL.ldPx (off := (0 + 1)) (e' := x1.2.1) 4 Ex.ik Tryz_ln3 rfl rfl (Or.inl rfl) rfl PtOf.obox (Part.snd (Part.fst Part.self)) ?_
  refine RL.finH ?_
  refine RL.fin ?_
  refine RA.next ?_
  refine RA.seq 6 rfl (by kernel_rfl) ?_
  obtain ⟨y87, e88, hm⟩ := bind_some hm
  refine RL.callK (vs := [u0a, .int .i64 x1.2.1]) (V := fun (o : Unit) => .int .i64 y87.1) (LR := fun (o : Unit) => [obox 55 TrL u0a y87.2]) (Ls := [obox 55 TrL u0a x0.2.2]) [1] (by decide) Tryz_fit46 rfl rfl rfl rfl rfl rfl (fun S f X w hO hB hW hI hL => log_Log_Crash_c _ S X f w _ _  hO hB hI x1.2.1 _ e88) ?_
  intro _
  refine RL.fin ?_
  refine RA.next ?_
  refine RA.quiet 7 rfl rfl (by kernel_rfl) ?_
  simp only [List.drop_succ_cons, List.drop_zero]
  refine RL.asg rfl rfl rfl ?_
  refine RL.reL (L' := [obox 45 TrH v0 (x0.1, (x0.2.1, u0a)), gone, keep X, imm TrE v1 x1, obox 59 TrE v5 x1, obox 64 (TR.pair TR.int TR.int) v6 ((0 : Int), (0 : Int)), imm (TR.pair TR.int TR.int) v9 (((0 : Int), (0 : Int)) : (Int × Int)), obox 64 (TR.pair TR.int TR.int) v10 (((0 : Int), (0 : Int)) : (Int × Int)), obox 55 TrL u0a y87.2]) rfl ?_
  refine RL.finQ ?_
  refine RA.outQ ?_
  refine GL.weak (env' := [(0, v0), (4, v6), (6, v10), (9, .int .i64 y87.1)]) (L' := [obox 45 TrH v0 (x0.1, (x0.2.1, u0a)), keep X, obox 55 TrL u0a y87.2, obox 64 (TR.pair TR.int TR.int) v6 ((0 : Int), (0 : Int)), obox 64 (TR.pair TR.int TR.int) v10 (((0 : Int), (0 : Int)) : (Int × Int))]) (fun a w st => St.cut [0, 2, 8, 5, 7] ⟨rfl, rfl, rfl, rfl, trivial⟩ (by decide) rfl st) ?_
  refine GL.seq ?_
  refine GL.region ?_
  refine RL.mv rfl rfl rfl ?_
  refine RL.binI (v := .bool (y87.1 != (0 : Int))) rfl rfl rfl rfl rfl ?_
  refine RL.finG ?_
  refine GL.cond rfl (fun b89 => ?_) (fun b89 => ?_)
  ·replace hm := ite_t b89 hm
   refine GL.seq ?_
   refine GL.region ?_
   refine RL.ldP (off := 0) (r := (TR.pair TR.int TR.int)) (e' := (((0 : Int), (0 : Int)) : (Int × Int))) 4 Tryz_ln64 rfl rfl (Or.inr ⟨rfl, rfl⟩) rfl PtOf.obox Part.self ?_
   intro v91
   refine RL.mv rfl rfl rfl ?_
   refine RL.stP (off := 0) (e' := (((0 : Int), (0 : Int)) : (Int × Int))) (d1 := (((0 : Int), (0 : Int)) : (Int × Int))) (r := (TR.pair TR.int TR.int)) 3 Tryz_ln64 rfl rfl (Or.inr ⟨rfl, rfl⟩) rfl (VR.item 5 rfl) rfl Upd.self ?_
   refine RL.reL (L' := [obox 45 TrH v0 (x0.1, (x0.2.1, u0a)), keep X, obox 55 TrL u0a y87.2, obox 64 (TR.pair TR.int TR.int) v6 (((0 : Int), (0 : Int)) : (Int × Int)), obox 64 (TR.pair TR.int TR.int) v10 (((0 : Int), (0 : Int)) : (Int × Int)), imm (TR.pair TR.int TR.int) v91 (((0 : Int), (0 : Int)) : (Int × Int))]) rfl ?_
   refine RL.asg rfl rfl rfl ?_
   refine RL.finG ?_
   have hm := Option.some.inj hm
   subst hm
   exact GL.ret (Gx.retX [.cell 4 64, .tmp 5] rfl (fun a w st => by
     have st0 := st
     obtain ⟨u92, hu92, st⟩ := st.cellRes (p := 4) (T := 64) 3 Tryz_ln64 rfl rfl rfl
     exact ⟨[u92, .int .i64 y87.1], ⟨hu92, ⟨(ResTmp st0.env rfl), trivial⟩⟩, (st.pick [0, 2, 6, 1] (by decide) rfl).toPostM (V := fun (o : Value) => .tuple #[o, .int .i64 (((((0 : Int), (0 : Int)) : (Int × Int)), y87.1, (x0.1, (x0.2.1, y87.2))).2.1)]) (LR := fun (o : Value) => [obox 45 TrH v0 ((((((0 : Int), (0 : Int)) : (Int × Int)), y87.1, (x0.1, (x0.2.1, y87.2))).2.2).1, ((((((0 : Int), (0 : Int)) : (Int × Int)), y87.1, (x0.1, (x0.2.1, y87.2))).2.2).2.1, u0a)), obox 55 TrL u0a ((((((0 : Int), (0 : Int)) : (Int × Int)), y87.1, (x0.1, (x0.2.1, y87.2))).2.2).2.2), imm (TR.pair TR.int TR.int) o (((((0 : Int), (0 : Int)) : (Int × Int)), y87.1, (x0.1, (x0.2.1, y87.2))).1), keep X]) u92⟩))
  replace hm := ite_f b89 hm
  refine GL.skip ?_
  refine GL.seq ?_
  refine GL.region ?_
  refine RL.mv rfl rfl rfl ?_
  obtain ⟨y95, e96, hm⟩ := bind_some hm
  refine RL.callK (vs := [v0]) (V := fun (o : Unit) => .tuple #[]) (LR := fun (o : Unit) => [obox 45 TrH v0 (y95.1, (y95.2.1, u0a)), obox 55 TrL u0a y95.2.2]) (Ls := [obox 45 TrH v0 (x0.1, (x0.2.1, u0a)), obox 55 TrL u0a y87.2]) [0, 2] (by decide) Tryz_fit47 rfl rfl rfl rfl rfl rfl (fun S f X w hO hB hW hI hL => house_House_read_c _ S X f w _ _ (x0.1, (x0.2.1, y87.2))  hO hB hI (hT.mono hW)  _ e96) ?_
  intro _
  refine RL.reL (L' := [gone, keep X, gone, obox 64 (TR.pair TR.int TR.int) v6 ((0 : Int), (0 : Int)), obox 64 (TR.pair TR.int TR.int) v10 (((0 : Int), (0 : Int)) : (Int × Int)), obox 45 TrH v0 (y95.1, (y95.2.1, u0a)), obox 55 TrL u0a y95.2.2]) rfl ?_
  refine RL.finG ?_
  refine GL.seq ?_
  refine GL.region ?_
  refine RL.ldP (off := 0) (r := (TR.pair TR.int TR.int)) (e' := (((0 : Int), (0 : Int)) : (Int × Int))) 4 Tryz_ln64 rfl rfl (Or.inr ⟨rfl, rfl⟩) rfl PtOf.obox Part.self ?_
  intro v98
  refine RL.stP (off := 0) (e' := (((0 : Int), (0 : Int)) : (Int × Int))) (d1 := (((0 : Int), (0 : Int)) : (Int × Int))) (r := (TR.pair TR.int TR.int)) 3 Tryz_ln64 rfl rfl (Or.inr ⟨rfl, rfl⟩) rfl (VR.item 7 rfl) rfl Upd.self ?_
  refine RL.reL (L' := [gone, keep X, gone, obox 64 (TR.pair TR.int TR.int) v6 (((0 : Int), (0 : Int)) : (Int × Int)), obox 64 (TR.pair TR.int TR.int) v10 (((0 : Int), (0 : Int)) : (Int × Int)), obox 45 TrH v0 (y95.1, (y95.2.1, u0a)), obox 55 TrL u0a y95.2.2, imm (TR.pair TR.int TR.int) v98 (((0 : Int), (0 : Int)) : (Int × Int))]) rfl ?_
  refine RL.asg rfl rfl rfl ?_
  refine RL.finG ?_
  have hm := Option.some.inj hm
  subst hm
  exact GL.ret (Gx.retX [.cell 4 64, .tmp 5] rfl (fun a w st => by
    have st0 := st
    obtain ⟨u99, hu99, st⟩ := st.cellRes (p := 4) (T := 64) 3 Tryz_ln64 rfl rfl rfl
    exact ⟨[u99, .int .i64 (0 : Int)], ⟨hu99, ⟨(ResTmp st0.env rfl), trivial⟩⟩, (st.pick [5, 6, 8, 1] (by decide) rfl).toPostM (V := fun (o : Value) => .tuple #[o, .int .i64 (((((0 : Int), (0 : Int)) : (Int × Int)), (0 : Int), y95).2.1)]) (LR := fun (o : Value) => [obox 45 TrH v0 ((((((0 : Int), (0 : Int)) : (Int × Int)), (0 : Int), y95).2.2).1, ((((((0 : Int), (0 : Int)) : (Int × Int)), (0 : Int), y95).2.2).2.1, u0a)), obox 55 TrL u0a ((((((0 : Int), (0 : Int)) : (Int × Int)), (0 : Int), y95).2.2).2.2), imm (TR.pair TR.int TR.int) o (((((0 : Int), (0 : Int)) : (Int × Int)), (0 : Int), y95).1), keep X]) u99⟩))
 replace hm := ite_f b84 hm
 refine GL.seq ?_
 refine GL.region ?_
 refine RL.binI (v := .bool (x1.1 == (6 : Int))) rfl rfl rfl rfl rfl ?_
 refine RL.asg rfl rfl rfl ?_
 refine RL.finG ?_
 refine GL.cond rfl (fun b100 => ?_) (fun b100 => ?_)
 ·replace hm := ite_t b100 hm
  refine GL.seq ?_
  refine GL.region ?_
  refine RL.mv rfl rfl rfl ?_
  refine RL.fadr (off := 0) (fo := 2) 4 Tryz_fld59_2 rfl rfl rfl PtOf.obox (Or.inr ⟨rfl, rfl⟩) ?_
  refine RL.ldPx (off := (0 + 2)) (e' := x1.2.2.1) 4 Ex.str Tryz_ln9 rfl rfl (Or.inl rfl) rfl PtOf.obox (Part.snd (Part.snd (Part.fst Part.self))) ?_
  obtain ⟨y103, e104, hm⟩ := bind_some hm
  refine RL.callV (v := .int .i64 y103) (vs := [v0, (sv x1.2.2.1)]) Tryz_fit48 rfl (Or.inl rfl) rfl rfl rfl rfl (fun U w hU hW hL => house_House_find_c U w hU _ _ (ptr_held (Helded.snd (Helded.snd (Helded.raw rfl))) (hL 0 _ _ rfl Seen.obox) (hL 1 _ _ rfl Seen.obox)) x1.2.2.1 _ e104) ?_
  refine RL.asg rfl rfl rfl ?_
  refine RL.finG ?_
  refine GL.seq ?_
  refine GL.seq ?_
  refine GL.region ?_
  refine RL.mv rfl rfl rfl ?_
  refine RL.binI (v := .bool (decide (y103 < (0 : Int)))) rfl rfl rfl rfl rfl ?_
  refine RL.finG ?_
  refine GL.cond rfl (fun b105 => ?_) (fun b105 => ?_)
  ·replace hm := ite_t b105 hm
   refine GL.seq ?_
   refine GL.region ?_
   refine RL.ldP (off := 0) (r := (TR.pair TR.int TR.int)) (e' := (((0 : Int), (0 : Int)) : (Int × Int))) 7 Tryz_ln64 rfl rfl (Or.inr ⟨rfl, rfl⟩) rfl PtOf.obox Part.self ?_
   intro v107
   refine RL.reL (L' := [obox 45 TrH v0 (x0.1, (x0.2.1, u0a)), obox 55 TrL u0a x0.2.2, keep X, imm TrE v1 x1, obox 59 TrE v5 x1, obox 64 (TR.pair TR.int TR.int) v6 ((0 : Int), (0 : Int)), imm (TR.pair TR.int TR.int) v9 (((0 : Int), (0 : Int)) : (Int × Int)), obox 64 (TR.pair TR.int TR.int) v10 (((0 : Int), (0 : Int)) : (Int × Int)), imm (TR.pair TR.int TR.int) v107 (((0 : Int), (0 : Int)) : (Int × Int))]) rfl ?_
   refine RL.stP (off := 0) (e' := (((0 : Int), (0 : Int)) : (Int × Int))) (d1 := (((0 : Int), (0 : Int)) : (Int × Int))) (r := (TR.pair TR.int TR.int)) 5 Tryz_ln64 rfl rfl (Or.inr ⟨rfl, rfl⟩) rfl (VR.item 8 rfl) rfl Upd.self ?_
   refine RL.asg rfl rfl rfl ?_
   refine RL.finG ?_
   have hm := Option.some.inj hm
   subst hm
   exact GL.ret (Gx.retX [.cell 4 64, .tmp 5] rfl (fun a w st => by
     have st0 := st
     obtain ⟨u108, hu108, st⟩ := st.cellRes (p := 4) (T := 64) 5 Tryz_ln64 rfl rfl rfl
     exact ⟨[u108, .int .i64 (4 : Int)], ⟨hu108, ⟨(ResTmp st0.env rfl), trivial⟩⟩, (st.pick [0, 1, 9, 2] (by decide) rfl).toPostM (V := fun (o : Value) => .tuple #[o, .int .i64 (((((0 : Int), (0 : Int)) : (Int × Int)), (4 : Int), x0).2.1)]) (LR := fun (o : Value) => [obox 45 TrH v0 ((((((0 : Int), (0 : Int)) : (Int × Int)), (4 : Int), x0).2.2).1, ((((((0 : Int), (0 : Int)) : (Int × Int)), (4 : Int), x0).2.2).2.1, u0a)), obox 55 TrL u0a ((((((0 : Int), (0 : Int)) : (Int × Int)), (4 : Int), x0).2.2).2.2), imm (TR.pair TR.int TR.int) o (((((0 : Int), (0 : Int)) : (Int × Int)), (4 : Int), x0).1), keep X]) u108⟩))
  replace hm := ite_f b105 hm
  refine GL.skip ?_
  refine GL.seq ?_
  refine GL.regionH 17 rfl rfl (by kernel_rfl) ?_
  simp only [List.take_succ_cons, List.take_zero, List.drop_succ_cons, List.drop_zero]
  refine RL.mv rfl rfl rfl ?_
  refine RL.nilk 0 rfl rfl rfl rfl PtOf.obox ?_
  refine RL.fadr (off := 0) (fo := 0) 0 Tryz_fld45_0 rfl rfl rfl PtOf.obox (Or.inr ⟨rfl, rfl⟩) ?_
  refine RL.ldP (off := (0 + 0)) (r := (TR.sl TrA)) (e' := x0.1) 0 Tryz_ln42 rfl rfl (Or.inl rfl) rfl PtOf.obox (Part.fst Part.self) ?_
  intro v116
  refine RL.reL (L' := [obox 45 TrH v0 (x0.1, (x0.2.1, u0a)), obox 55 TrL u0a x0.2.2, keep X, imm TrE v1 x1, obox 59 TrE v5 x1, obox 64 (TR.pair TR.int TR.int) v6 ((0 : Int), (0 : Int)), imm (TR.pair TR.int TR.int) v9 (((0 : Int), (0 : Int)) : (Int × Int)), obox 64 (TR.pair TR.int TR.int) v10 (((0 : Int), (0 : Int)) : (Int × Int)), imm (TR.sl TrA) v116 x0.1]) rfl ?_
  refine RL.mv rfl rfl rfl ?_
  obtain ⟨y117, e118, hm⟩ := bind_some hm
  refine RL.idxS (sz := 3) 8 Tryz.underlying42 Tryz_ln86 rfl rfl rfl rfl rfl SlOf.imm (idx_some e118).1 (idx_some e118).2.1 ?_
  refine RL.fadrS (off := ((y103).toNat * 3)) (fo := 1) 8 Tryz_fld86_1 rfl rfl rfl SlOf.imm (by have := (List.getElem?_eq_some_iff.1 (idx_some e118).2.2).1; (try dsimp only at this ⊢); omega) rfl ?_
  refine RL.ldSx (i := (y103).toNat) (e' := y117.2.1) 8 Ex.ik Tryz_ln3 rfl rfl rfl rfl SlOf.imm (idx_some e118).2.2 (Part.snd (Part.fst Part.self)) ?_
  refine RL.mv rfl rfl rfl ?_
  refine RL.nilk 0 rfl rfl rfl rfl PtOf.obox ?_
  refine RL.fadr (off := 0) (fo := 0) 0 Tryz_fld45_0 rfl rfl rfl PtOf.obox (Or.inr ⟨rfl, rfl⟩) ?_
  refine RL.ldP (off := (0 + 0)) (r := (TR.sl TrA)) (e' := x0.1) 0 Tryz_ln42 rfl rfl (Or.inl rfl) rfl PtOf.obox (Part.fst Part.self) ?_
  intro v119
  refine RL.mv rfl rfl rfl ?_
  obtain ⟨y120, e121, hm⟩ := bind_some hm
  refine RL.idxS (sz := 3) 9 Tryz.underlying42 Tryz_ln86 rfl rfl rfl rfl rfl SlOf.imm (idx_some e121).1 (idx_some e121).2.1 ?_
  refine RL.fadrS (off := ((y103).toNat * 3)) (fo := 2) 9 Tryz_fld86_2 rfl rfl rfl SlOf.imm (by have := (List.getElem?_eq_some_iff.1 (idx_some e121).2.2).1; (try dsimp only at this ⊢); omega) rfl ?_
  refine RL.ldSx (i := (y103).toNat) (e' := y120.2.2) 9 Ex.ik Tryz_ln3 rfl rfl rfl rfl SlOf.imm (idx_some e121).2.2 (Part.snd (Part.snd Part.self)) ?_
  refine RL.bld (t := (TR.pair TR.int TR.int)) (d0 := ((y117.2.1, y120.2.2) : (Int × Int))) (pv := [(0, .int .i64 y117.2.1), (1, .int .i64 y120.2.2)]) rfl Tryz_bld64 rfl rfl rfl ⟨⟨_, _, TR.int, y117.2.1, rfl, rfl, VR.int⟩, ⟨⟨_, _, TR.int, y120.2.2, rfl, rfl, VR.int⟩, trivial⟩⟩ (fun S f hi => by
    obtain ⟨c0, e0, r0⟩ := cells_vrep (t := TR.int) (u := .int .i64 y117.2.1) (e := y117.2.1) (VR.int S f hi)
    obtain ⟨c1, e1, r1⟩ := cells_vrep (t := TR.int) (u := .int .i64 y120.2.2) (e := y120.2.2) (VR.int S f hi)
    show TR.rep (TR.pair TR.int TR.int) S (List.flatten [(.int .i64 y117.2.1 : Value).cells.toList, (.int .i64 y120.2.2 : Value).cells.toList]) _
    simp only [e0, e1,  List.flatten_cons, List.flatten_nil, List.append_nil]
    exact ⟨_, _, rfl, r0, r1⟩) ?_
  intro v122
  refine RL.reL (L' := [obox 45 TrH v0 (x0.1, (x0.2.1, u0a)), obox 55 TrL u0a x0.2.2, keep X, imm TrE v1 x1, obox 59 TrE v5 x1, obox 64 (TR.pair TR.int TR.int) v6 ((0 : Int), (0 : Int)), imm (TR.pair TR.int TR.int) v9 (((0 : Int), (0 : Int)) : (Int × Int)), obox 64 (TR.pair TR.int TR.int) v10 (((0 : Int), (0 : Int)) : (Int × Int)), imm (TR.sl TrA) v116 x0.1, imm (TR.sl TrA) v119 x0.1, imm (TR.pair TR.int TR.int) v122 ((y117.2.1, y120.2.2) : (Int × Int))]) rfl ?_
  refine RL.finH ?_
  refine RL.stP (off := 0) (e' := ((y117.2.1, y120.2.2) : (Int × Int))) (d1 := ((y117.2.1, y120.2.2) : (Int × Int))) (r := (TR.pair TR.int TR.int)) 5 Tryz_ln64 rfl rfl (Or.inr ⟨rfl, rfl⟩) rfl (VR.item 10 rfl) rfl Upd.self ?_
  refine RL.asg rfl rfl rfl ?_
  refine RL.finG ?_
  refine GL.weak (env' := [(4, v6), (5, .int .i64 (0 : Int))]) (L' := [obox 45 TrH v0 (x0.1, (x0.2.1, u0a)), obox 55 TrL u0a x0.2.2, keep X, obox 64 (TR.pair TR.int TR.int) v6 ((y117.2.1, y120.2.2) : (Int × Int))]) (fun a w st => St.cut [0, 1, 2, 5] ⟨rfl, rfl, trivial⟩ (by decide) rfl st) ?_
  have hm := Option.some.inj hm
  subst hm
  exact GL.ret (Gx.retX [.cell 4 64, .tmp 5] rfl (fun a w st => by
    have st0 := st
    obtain ⟨u123, hu123, st⟩ := st.cellRes (p := 4) (T := 64) 3 Tryz_ln64 rfl rfl rfl
    exact ⟨[u123, .int .i64 (0 : Int)], ⟨hu123, ⟨(ResTmp st0.env rfl), trivial⟩⟩, (st.pick [0, 1, 4, 2] (by decide) rfl).toPostM (V := fun (o : Value) => .tuple #[o, .int .i64 ((((y117.2.1, y120.2.2) : (Int × Int)), (0 : Int), x0).2.1)]) (LR := fun (o : Value) => [obox 45 TrH v0 (((((y117.2.1, y120.2.2) : (Int × Int)), (0 : Int), x0).2.2).1, (((((y117.2.1, y120.2.2) : (Int × Int)), (0 : Int), x0).2.2).2.1, u0a)), obox 55 TrL u0a (((((y117.2.1, y120.2.2) : (Int × Int)), (0 : Int), x0).2.2).2.2), imm (TR.pair TR.int TR.int) o ((((y117.2.1, y120.2.2) : (Int × Int)), (0 : Int), x0).1), keep X]) u123⟩))
 replace hm := ite_f b100 hm
 refine GL.seq ?_
 refine GL.region ?_
 refine RL.binI (v := .bool (x1.1 == (7 : Int))) rfl rfl rfl rfl rfl ?_
 refine RL.asg rfl rfl rfl ?_
 refine RL.finG ?_
 refine GL.cond rfl (fun b124 => ?_) (fun b124 => ?_)
 ·replace hm := ite_t b124 hm
  refine GL.seq ?_
  refine GL.regionA rfl rfl ?_
  refine RA.mv 0 rfl (by kernel_rfl) rfl rfl rfl ?_
  refine RA.still (le := q_1) (f := 6) [1, 2, 3, 4, 5, 6, 7] 8 rfl (by kernel_rfl) ?_
  simp only [pickOps, List.getElem?_toArray, List.getElem?_cons_succ, List.getElem?_cons_zero]
  refine RL.nilk 0 rfl rfl rfl rfl PtOf.obox ?_
  refine RL.fadr (off := 0) (fo := 1) 0 Tryz_fld45_1 rfl rfl rfl PtOf.obox (Or.inr ⟨rfl, rfl⟩) ?_
  refine RL.ldP (off := (0 + 1)) (r := (TR.sl TrD)) (e' := x0.2.1) 0 Tryz_ln43 rfl rfl (Or.inl rfl) rfl PtOf.obox (Part.snd (Part.fst Part.self)) ?_
  intro v129
  refine RL.fadr (off := 0) (fo := 2) 4 Tryz_fld59_2 rfl rfl rfl PtOf.obox (Or.inr ⟨rfl, rfl⟩) ?_
  refine RL.ldPx (off := (0 + 2)) (e' := x1.2.2.1) 4 Ex.str Tryz_ln9 rfl rfl (Or.inl rfl) rfl PtOf.obox (Part.snd (Part.snd (Part.fst Part.self))) ?_
  refine RL.fadr (off := 0) (fo := 1) 4 Tryz_fld59_1 rfl rfl rfl PtOf.obox (Or.inr ⟨rfl, rfl⟩) ?_
  refine RL.ldPx (off := (0 + 1)) (e' := x1.2.1) 4 Ex.ik Tryz_ln3 rfl rfl (Or.inl rfl) rfl PtOf.obox (Part.snd (Part.fst Part.self)) ?_
  refine RL.finH ?_
  refine RL.fin ?_
  refine RA.next ?_
  refine RA.seq 8 rfl (by kernel_rfl) ?_
  obtain ⟨y130, e131, hm⟩ := bind_some hm
  refine RL.call (vs := [v129, (sv x1.2.2.1), .int .i64 x1.2.1]) Tryz_fit49 rfl rfl rfl rfl rfl (fun S f w hS hW hi => queue_Drop_c S w hS _ _ (hi 8 _ rfl) x1.2.2.1 x1.2.1 _ e131) ?_
  intro v132
  refine RL.fin ?_
  refine RA.next ?_
  refine RA.quiet 9 rfl rfl (by kernel_rfl) ?_
  simp only [List.drop_succ_cons, List.drop_zero]
  refine RL.mv rfl rfl rfl ?_
  refine RL.ext rfl rfl rfl rfl ?_
  refine RL.ext rfl rfl rfl rfl ?_
  refine RL.asg rfl rfl rfl ?_
  refine RL.asg rfl rfl rfl ?_
  refine RL.finQ ?_
  refine RA.outQ ?_
  refine GL.weak (env' := [(0, v0), (4, v6), (6, v10), (11, v132), (12, .int .i64 y130.2)]) (L' := [obox 45 TrH v0 (x0.1, (x0.2.1, u0a)), obox 55 TrL u0a x0.2.2, keep X, obox 64 (TR.pair TR.int TR.int) v6 ((0 : Int), (0 : Int)), obox 64 (TR.pair TR.int TR.int) v10 (((0 : Int), (0 : Int)) : (Int × Int)), own 57 TrD v132 y130.1]) (fun a w st => St.cut [0, 1, 2, 5, 7, 9] ⟨rfl, rfl, rfl, rfl, rfl, trivial⟩ (by decide) rfl st) ?_
  refine GL.seq ?_
  refine GL.seq ?_
  refine GL.region ?_
  refine RL.mv rfl rfl rfl ?_
  refine RL.binI (v := .bool (y130.2 != (0 : Int))) rfl rfl rfl rfl rfl ?_
  refine RL.finG ?_
  refine GL.cond rfl (fun b133 => ?_) (fun b133 => ?_)
  ·replace hm := ite_t b133 hm
   refine GL.seq ?_
   refine GL.region ?_
   refine RL.ldP (off := 0) (r := (TR.pair TR.int TR.int)) (e' := (((0 : Int), (0 : Int)) : (Int × Int))) 4 Tryz_ln64 rfl rfl (Or.inr ⟨rfl, rfl⟩) rfl PtOf.obox Part.self ?_
   intro v135
   refine RL.mv rfl rfl rfl ?_
   refine RL.stP (off := 0) (e' := (((0 : Int), (0 : Int)) : (Int × Int))) (d1 := (((0 : Int), (0 : Int)) : (Int × Int))) (r := (TR.pair TR.int TR.int)) 3 Tryz_ln64 rfl rfl (Or.inr ⟨rfl, rfl⟩) rfl (VR.item 6 rfl) rfl Upd.self ?_
   refine RL.reL (L' := [obox 45 TrH v0 (x0.1, (x0.2.1, u0a)), obox 55 TrL u0a x0.2.2, keep X, obox 64 (TR.pair TR.int TR.int) v6 (((0 : Int), (0 : Int)) : (Int × Int)), obox 64 (TR.pair TR.int TR.int) v10 (((0 : Int), (0 : Int)) : (Int × Int)), own 57 TrD v132 y130.1, imm (TR.pair TR.int TR.int) v135 (((0 : Int), (0 : Int)) : (Int × Int))]) rfl ?_
   refine RL.asg rfl rfl rfl ?_
   refine RL.finG ?_
   have hm := Option.some.inj hm
   subst hm
   exact GL.ret (Gx.retX [.cell 4 64, .tmp 5] rfl (fun a w st => by
     have st0 := st
     obtain ⟨u136, hu136, st⟩ := st.cellRes (p := 4) (T := 64) 3 Tryz_ln64 rfl rfl rfl
     exact ⟨[u136, .int .i64 y130.2], ⟨hu136, ⟨(ResTmp st0.env rfl), trivial⟩⟩, (st.pick [0, 1, 7, 2] (by decide) rfl).toPostM (V := fun (o : Value) => .tuple #[o, .int .i64 (((((0 : Int), (0 : Int)) : (Int × Int)), y130.2, x0).2.1)]) (LR := fun (o : Value) => [obox 45 TrH v0 ((((((0 : Int), (0 : Int)) : (Int × Int)), y130.2, x0).2.2).1, ((((((0 : Int), (0 : Int)) : (Int × Int)), y130.2, x0).2.2).2.1, u0a)), obox 55 TrL u0a ((((((0 : Int), (0 : Int)) : (Int × Int)), y130.2, x0).2.2).2.2), imm (TR.pair TR.int TR.int) o (((((0 : Int), (0 : Int)) : (Int × Int)), y130.2, x0).1), keep X]) u136⟩))
  replace hm := ite_f b133 hm
  refine GL.skip ?_
  refine GL.seq ?_
  refine GL.region ?_
  refine RL.mv rfl rfl rfl ?_
  refine RL.mv rfl rfl rfl ?_
  refine RL.nilk 0 rfl rfl rfl rfl PtOf.obox ?_
  refine RL.fadr (off := 0) (fo := 1) 0 Tryz_fld45_1 rfl rfl rfl PtOf.obox (Or.inr ⟨rfl, rfl⟩) ?_
  refine RL.weak (fun a w st => st.freeze 5 rfl) ?_
  refine RL.stP (off := (0 + 1)) (e' := y130.1) (d1 := ((x0.1, (y130.1, x0.2.2)).1, ((x0.1, (y130.1, x0.2.2)).2.1, u0a))) (r := (TR.sl TrD)) 0 Tryz_ln43 rfl rfl (Or.inl rfl) rfl (VR.item 5 rfl) rfl (Upd.snd (Upd.fst Upd.self)) ?_
  refine RL.reL (L' := [obox 45 TrH v0 ((x0.1, (y130.1, x0.2.2)).1, ((x0.1, (y130.1, x0.2.2)).2.1, u0a)), obox 55 TrL u0a x0.2.2, keep X, obox 64 (TR.pair TR.int TR.int) v6 ((0 : Int), (0 : Int)), obox 64 (TR.pair TR.int TR.int) v10 (((0 : Int), (0 : Int)) : (Int × Int)), imm (TR.sl TrD) v132 y130.1]) rfl ?_
  refine RL.finG ?_
  refine GL.seq ?_
  refine GL.region ?_
  refine RL.ldP (off := 0) (r := (TR.pair TR.int TR.int)) (e' := (((0 : Int), (0 : Int)) : (Int × Int))) 4 Tryz_ln64 rfl rfl (Or.inr ⟨rfl, rfl⟩) rfl PtOf.obox Part.self ?_
  intro v138
  refine RL.stP (off := 0) (e' := (((0 : Int), (0 : Int)) : (Int × Int))) (d1 := (((0 : Int), (0 : Int)) : (Int × Int))) (r := (TR.pair TR.int TR.int)) 3 Tryz_ln64 rfl rfl (Or.inr ⟨rfl, rfl⟩) rfl (VR.item 6 rfl) rfl Upd.self ?_
  refine RL.reL (L' := [obox 45 TrH v0 ((x0.1, (y130.1, x0.2.2)).1, ((x0.1, (y130.1, x0.2.2)).2.1, u0a)), obox 55 TrL u0a x0.2.2, keep X, obox 64 (TR.pair TR.int TR.int) v6 (((0 : Int), (0 : Int)) : (Int × Int)), obox 64 (TR.pair TR.int TR.int) v10 (((0 : Int), (0 : Int)) : (Int × Int)), imm (TR.sl TrD) v132 y130.1, imm (TR.pair TR.int TR.int) v138 (((0 : Int), (0 : Int)) : (Int × Int))]) rfl ?_
  refine RL.asg rfl rfl rfl ?_
  refine RL.finG ?_
  have hm := Option.some.inj hm
  subst hm
  exact GL.ret (Gx.retX [.cell 4 64, .tmp 5] rfl (fun a w st => by
    have st0 := st
    obtain ⟨u139, hu139, st⟩ := st.cellRes (p := 4) (T := 64) 3 Tryz_ln64 rfl rfl rfl
    exact ⟨[u139, .int .i64 (0 : Int)], ⟨hu139, ⟨(ResTmp st0.env rfl), trivial⟩⟩, (st.pick [0, 1, 7, 2] (by decide) rfl).toPostM (V := fun (o : Value) => .tuple #[o, .int .i64 (((((0 : Int), (0 : Int)) : (Int × Int)), (0 : Int), (x0.1, (y130.1, x0.2.2))).2.1)]) (LR := fun (o : Value) => [obox 45 TrH v0 ((((((0 : Int), (0 : Int)) : (Int × Int)), (0 : Int), (x0.1, (y130.1, x0.2.2))).2.2).1, ((((((0 : Int), (0 : Int)) : (Int × Int)), (0 : Int), (x0.1, (y130.1, x0.2.2))).2.2).2.1, u0a)), obox 55 TrL u0a ((((((0 : Int), (0 : Int)) : (Int × Int)), (0 : Int), (x0.1, (y130.1, x0.2.2))).2.2).2.2), imm (TR.pair TR.int TR.int) o (((((0 : Int), (0 : Int)) : (Int × Int)), (0 : Int), (x0.1, (y130.1, x0.2.2))).1), keep X]) u139⟩))
 replace hm := ite_f b124 hm
 refine GL.skip ?_
 refine GL.nilB ?_
 refine GL.seq ?_
 refine GL.region ?_
 refine RL.ldP (off := 0) (r := (TR.pair TR.int TR.int)) (e' := (((0 : Int), (0 : Int)) : (Int × Int))) 7 Tryz_ln64 rfl rfl (Or.inr ⟨rfl, rfl⟩) rfl PtOf.obox Part.self ?_
 intro v141
 refine RL.reL (L' := [obox 45 TrH v0 (x0.1, (x0.2.1, u0a)), obox 55 TrL u0a x0.2.2, keep X, imm TrE v1 x1, obox 59 TrE v5 x1, obox 64 (TR.pair TR.int TR.int) v6 ((0 : Int), (0 : Int)), imm (TR.pair TR.int TR.int) v9 (((0 : Int), (0 : Int)) : (Int × Int)), obox 64 (TR.pair TR.int TR.int) v10 (((0 : Int), (0 : Int)) : (Int × Int)), imm (TR.pair TR.int TR.int) v141 (((0 : Int), (0 : Int)) : (Int × Int))]) rfl ?_
 refine RL.stP (off := 0) (e' := (((0 : Int), (0 : Int)) : (Int × Int))) (d1 := (((0 : Int), (0 : Int)) : (Int × Int))) (r := (TR.pair TR.int TR.int)) 5 Tryz_ln64 rfl rfl (Or.inr ⟨rfl, rfl⟩) rfl (VR.item 8 rfl) rfl Upd.self ?_
 refine RL.asg rfl rfl rfl ?_
 refine RL.finG ?_
 have hm := Option.some.inj hm
 subst hm
 exact GL.ret (Gx.retX [.cell 4 64, .tmp 5] rfl (fun a w st => by
   have st0 := st
   obtain ⟨u142, hu142, st⟩ := st.cellRes (p := 4) (T := 64) 5 Tryz_ln64 rfl rfl rfl
   exact ⟨[u142, .int .i64 (1 : Int)], ⟨hu142, ⟨(ResTmp st0.env rfl), trivial⟩⟩, (st.pick [0, 1, 9, 2] (by decide) rfl).toPostM (V := fun (o : Value) => .tuple #[o, .int .i64 (((((0 : Int), (0 : Int)) : (Int × Int)), (1 : Int), x0).2.1)]) (LR := fun (o : Value) => [obox 45 TrH v0 ((((((0 : Int), (0 : Int)) : (Int × Int)), (1 : Int), x0).2.2).1, ((((((0 : Int), (0 : Int)) : (Int × Int)), (1 : Int), x0).2.2).2.1, u0a)), obox 55 TrL u0a ((((((0 : Int), (0 : Int)) : (Int × Int)), (1 : Int), x0).2.2).2.2), imm (TR.pair TR.int TR.int) o (((((0 : Int), (0 : Int)) : (Int × Int)), (1 : Int), x0).1), keep X]) u142⟩))

theorem desk_listed_c (S : Hp) (w : World) (hS : S.sub w) (hT : Tab Tryz.prog (Tryz.lays146_ren.g 1) S) (v0 : Value) (x0 : (List Int)) (k0 : ((TR.sl TR.int)).vrep S v0 x0) (res : B8) (hm : desk_listed_m x0 = some res) : Calls Tryz.prog 29 #[v0] w (PostV w ((sv res))) := by
 refine calls_enter 20 Tryz.func29 Tryz.ntmps29 rfl S false [(0, v0)] [imm (TR.sl TR.int) v0 x0] rfl ⟨rfl, trivial⟩ hS ⟨k0, trivial⟩ ?_
 unfold desk_listed_m at hm
 refine GL.seq ?_
 refine GL.region ?_
 refine RL.asg rfl rfl rfl ?_
 refine RL.finG ?_
 refine GL.seq ?_
 refine GL.region ?_
 refine RL.asg rfl rfl rfl ?_
 refine RL.finG ?_
 refine GL.seq ?_
 refine GL.seq ?_
 refine GL.region ?_
 refine RL.mv rfl rfl rfl ?_
 refine RL.lenS 0 Tryz.underlying61 rfl rfl rfl rfl SlOf.imm ?_
 refine RL.mv rfl rfl rfl ?_
 refine RL.finG ?_
 refine GL.open_ 0 rfl (fun S h => len_imm S h) (fun n19 => ?_)
 obtain ⟨y20, K21, h22, h23, h24, h25, h26⟩ := bindR_K hm
 refine GL.join (ι := B8) (fun (p : B8) => [(3, (sv p))]) (fun (p : B8) => []) (fun (p : B8) => K21 (.nx p)) ?_ ?_
 ·refine GL.block ?_
  refine GL.loop (ι := Nat × (List Int) × B8) (fun (p : Nat × (List Int) × B8) => [(3, (sv p.2.2)), (6, v0), (7, .int .i64 ((x0).length : Int)), (8, .int .i64 (p.1 : Int))]) (fun (p : Nat × (List Int) × B8) => [imm (TR.sl TR.int) v0 x0]) (fun (p : Nat × (List Int) × B8) => p.1 + p.2.1.length = (x0).length ∧ List.drop p.1 x0 = p.2.1 ∧ rangeL desk_listed_b1 p.2.1 p.1 p.2.2 = some y20) (fun (p : Nat × (List Int) × B8) => p.2.1.length) (0, x0, ([] : B8)) ⟨by simp, by simp, h22⟩ (fun a w st => St.cut [0] ⟨rfl, rfl, rfl, rfl, trivial⟩ (by decide) rfl st) ?_
  rintro ⟨i27, r28, x2⟩ ⟨h33, h34, h32⟩
  try dsimp only at h33 h34 h32
  refine GL.weak (env' := [(3, (sv x2)), (6, v0), (7, .int .i64 ((x0).length : Int)), (8, .int .i64 (i27 : Int))]) (L' := [imm (TR.sl TR.int) v0 x0]) (fun _ _ st => st) ?_
  refine GL.seq ?_
  refine GL.region ?_
  refine RL.binI (v := .bool (decide ((i27 : Int) < ((x0).length : Int)))) rfl rfl rfl rfl rfl ?_
  refine RL.finG ?_
  refine GL.seq ?_
  refine GL.cond rfl (fun b35 => ?_) (fun b35 => ?_)
  ·have h36 : i27 < (x0).length := by have := of_decide_eq_true b35; omega
   obtain ⟨y37, r39, hr, e38, h40⟩ := drop_cons h34 rfl h36
   subst hr
   obtain ⟨z29, h30, h31⟩ := rangeL_some h32
   unfold desk_listed_b1 at h30
   try dsimp only at h30
   refine GL.skip ?_
   refine GL.seq ?_
   refine GL.block ?_
   refine GL.seq ?_
   refine GL.region ?_
   refine RL.idxS (sz := 1) 0 Tryz.underlying61 Tryz_ln3 rfl rfl rfl rfl rfl SlOf.imm (by omega) (by omega) ?_
   refine RL.ldSx (i := i27) (e' := y37) 0 Ex.ik Tryz_ln3 rfl rfl rfl rfl SlOf.imm e38 Part.self ?_
   refine RL.asg rfl rfl rfl ?_
   refine RL.finG ?_
   refine GL.region ?_
   refine RL.mv rfl rfl rfl ?_
   refine RL.mv rfl rfl rfl ?_
   obtain ⟨y47, e48, h30⟩ := bind_some h30
   refine RL.callV (v := (sv y47)) (vs := [.int .i64 y37]) Tryz_fit18 rfl (Or.inl rfl) rfl rfl rfl rfl (fun U w hU hW hL => strconv_Itoa_c U w hU (hT.mono hW) y37 _ e48) ?_
   obtain ⟨y49, e50, h30⟩ := bind_some h30
   replace e50 := chk_some e50
   refine RL.cat rfl rfl rfl rfl e50 ?_
   obtain ⟨y51, e52, h30⟩ := bind_some h30
   replace e52 := chk_some e52
   refine RL.cat rfl rfl rfl rfl e52 ?_
   refine RL.asg rfl rfl rfl ?_
   refine RL.finG ?_
   refine GL.nilB ?_
   refine GL.region ?_
   refine RL.binI (v := .int .i64 ((i27 + 1 : Nat) : Int)) rfl rfl rfl rfl (binI_succ i27 (by omega)) ?_
   refine RL.mv rfl rfl rfl ?_
   refine RL.fin ?_
   cases h30
   exact fun a w st => lop_intro (i27 + 1, r39, x2 ++ (y47 ++ ([32] : B8))) ⟨by show i27 + 1 + r39.length = (x0).length; simp only [List.length_cons] at h33; omega, h40, h31⟩ (by simp) (St.cut [0] ⟨rfl, rfl, rfl, rfl, trivial⟩ (by decide) rfl st)
  have h36 : ¬ i27 < (x0).length := by have := of_decide_eq_false b35; omega
  obtain rfl : r28 = [] := by rw [← h34]; exact List.drop_of_length_le (by omega)
  replace h32 : some (Fl.nx _) = some y20 := h32
  cases h32
  exact GL.exit (fun a w st => mid_intro x2 h23 (St.cut [] ⟨rfl, trivial⟩ (by decide) rfl st))
 rintro x2 h53
 have h54 := h24 _ h53
 try dsimp only at h54
 refine GL.weak (env' := [(3, (sv x2))]) (L' := []) (fun _ _ st => st) ?_
 refine GL.seq ?_
 refine GL.region ?_
 refine RL.mv rfl rfl rfl ?_
 obtain ⟨y57, e58, h54⟩ := bind_some h54
 replace e58 := chk_some e58
 refine RL.cat rfl rfl rfl rfl e58 ?_
 refine RL.asg rfl rfl rfl ?_
 refine RL.finG ?_
 have h54 := Option.some.inj h54
 subst h54
 exact GL.ret (Gx.ret (v := (sv (x2 ++ ([46] : B8)))) (res1 rfl rfl) (fun a w st => st.toPostV))

theorem desk_desk_deed_c (B : World) (S X : Hp) (f : Nat → Hp) (w : World) (v0 : Value) (u0a : Value) (u0b : Value) (x0 : TyH) (hO : HeapOk B.heap.size S f [obox 35 (TR.rec1 TR.raw) v0 u0a, obox 45 TrH u0a (x0.1, (x0.2.1, u0b)), obox 55 TrL u0b x0.2.2, keep X].length w) (hB : Below B.heap.size B w) (hI : Its [obox 35 (TR.rec1 TR.raw) v0 u0a, obox 45 TrH u0a (x0.1, (x0.2.1, u0b)), obox 55 TrL u0b x0.2.2, keep X] S f) (hT : Tab Tryz.prog (Tryz.lays146_ren.g 1) S) (x1 : B8) (v2 : Value) (x2 : (List B8)) (k2 : ((TR.sl TR.str)).vrep S v2 x2) (res : Except Int (B8 × Bool) × TyH) (hm : desk_desk_deed_m x0 x1 x2 = some res) : Calls Tryz.prog 20 #[v0, (sv x1), v2] w (thrP (fun x => PostMX B S (fun (_ : Unit) => .panicked (refuse 48 x)) (fun (o : Unit) => [obox 35 (TR.rec1 TR.raw) v0 u0a, obox 45 TrH u0a (res.2.1, (res.2.2.1, u0b)), obox 55 TrL u0b res.2.2.2, keep X])) (fun (r : B8 × Bool) => PostM B S (fun (o : Unit) => .tuple #[(sv r.1), .bool r.2]) (fun (o : Unit) => [obox 35 (TR.rec1 TR.raw) v0 u0a, obox 45 TrH u0a (res.2.1, (res.2.2.1, u0b)), obox 55 TrL u0b res.2.2.2, keep X])) res.1) := by
 refine calls_enterM 151 Tryz.func20 Tryz.ntmps20 rfl B S f [(0, v0), (1, (sv x1)), (2, v2)] [obox 35 (TR.rec1 TR.raw) v0 u0a, obox 45 TrH u0a (x0.1, (x0.2.1, u0b)), obox 55 TrL u0b x0.2.2, keep X] [imm (TR.sl TR.str) v2 x2] rfl ⟨rfl, ⟨rfl, ⟨rfl, trivial⟩⟩⟩ hB hO hI ⟨k2, trivial⟩ ?_
 unfold desk_desk_deed_m at hm
 refine GL.seq ?_
 refine GL.region ?_
 refine RL.asg rfl rfl rfl ?_
 refine RL.asg rfl rfl rfl ?_
 refine RL.finG ?_
 refine GL.seq ?_
 refine GL.region ?_
 refine RL.bld (t := TrE) (d0 := (((0 : Int), (0 : Int), ([] : B8), (([] : B8), ([] : B8), (0 : Int), (0 : Int), (0 : Int), (0 : Int))) : TyE)) (pv := []) rfl Tryz_bld59 rfl rfl rfl trivial (fun S f hi => by
   show TR.rep TrE S (List.flatten [[.int .i64 0], [.int .i64 0], [.string ⟨#[]⟩], [.string ⟨#[]⟩, .string ⟨#[]⟩, .int .i64 0, .int .i64 0, .int .i64 0, .int .i64 0]]) _
   simp only [ List.flatten_cons, List.flatten_nil, List.append_nil]
   exact ⟨_, _, rfl, rfl, ⟨_, _, rfl, rfl, ⟨_, _, rfl, rfl, ⟨[.string ⟨#[]⟩], _, rfl, rfl, ⟨[.string ⟨#[]⟩], _, rfl, rfl, ⟨[.int .i64 0], _, rfl, rfl, ⟨[.int .i64 0], _, rfl, rfl, ⟨[.int .i64 0], _, rfl, rfl, rfl⟩⟩⟩⟩⟩⟩⟩⟩) ?_
 intro v6
 refine RL.alloc (t := TrE) (z := ((0 : Int), (0 : Int), ([] : B8), (([] : B8), ([] : B8), (0 : Int), (0 : Int), (0 : Int), (0 : Int)))) Tryz_lo59 (fun S => ⟨[.int .i64 0], _, rfl, rfl, ⟨[.int .i64 0], _, rfl, rfl, ⟨[.string ⟨#[]⟩], _, rfl, rfl, ⟨[.string ⟨#[]⟩], _, rfl, rfl, ⟨[.string ⟨#[]⟩], _, rfl, rfl, ⟨[.int .i64 0], _, rfl, rfl, ⟨[.int .i64 0], _, rfl, rfl, ⟨[.int .i64 0], _, rfl, rfl, rfl⟩⟩⟩⟩⟩⟩⟩⟩) rfl rfl rfl ?_
 intro v7
 refine RL.reL (L' := [obox 35 (TR.rec1 TR.raw) v0 u0a, obox 45 TrH u0a (x0.1, (x0.2.1, u0b)), obox 55 TrL u0b x0.2.2, keep X, imm (TR.sl TR.str) v2 x2, imm TrE v6 (((0 : Int), (0 : Int), ([] : B8), (([] : B8), ([] : B8), (0 : Int), (0 : Int), (0 : Int), (0 : Int))) : TyE), obox 59 TrE v7 ((0 : Int), (0 : Int), ([] : B8), (([] : B8), ([] : B8), (0 : Int), (0 : Int), (0 : Int), (0 : Int)))]) rfl ?_
 refine RL.stP (off := 0) (e' := (((0 : Int), (0 : Int), ([] : B8), (([] : B8), ([] : B8), (0 : Int), (0 : Int), (0 : Int), (0 : Int))) : TyE)) (d1 := (((0 : Int), (0 : Int), ([] : B8), (([] : B8), ([] : B8), (0 : Int), (0 : Int), (0 : Int), (0 : Int))) : TyE)) (r := TrE) 6 Tryz_ln59 rfl rfl (Or.inr ⟨rfl, rfl⟩) rfl (VR.item 5 rfl) rfl Upd.self ?_
 refine RL.finG ?_
 refine GL.seq ?_
 obtain ⟨y257, K258, h259, h260, h261, h262, h263⟩ := bindR_K hm
 refine GL.join (ι := TyE) (fun (p : TyE) => [(0, v0), (8, v7)]) (fun (p : TyE) => [obox 35 (TR.rec1 TR.raw) v0 u0a, obox 45 TrH u0a (x0.1, (x0.2.1, u0b)), obox 55 TrL u0b x0.2.2, obox 59 TrE v7 p, keep X]) (fun (p : TyE) => K258 (.nx p)) ?_ ?_
 ·skip
  refine GL.block ?_
  refine GL.seq ?_
  obtain ⟨y267, K268, h269, h270, h271, h272, h273⟩ := bindF_K h259
  refine GL.join (ι := Bool) (fun (p : Bool) => [(0, v0), (1, (sv x1)), (2, v2), (8, v7), (13, .bool p)]) (fun (p : Bool) => [obox 35 (TR.rec1 TR.raw) v0 u0a, obox 45 TrH u0a (x0.1, (x0.2.1, u0b)), obox 55 TrL u0b x0.2.2, imm (TR.sl TR.str) v2 x2, obox 59 TrE v7 (((0 : Int), (0 : Int), ([] : B8), (([] : B8), ([] : B8), (0 : Int), (0 : Int), (0 : Int), (0 : Int))) : TyE), keep X]) (fun (p : Bool) => K268 (.nx p)) ?_ ?_
  ·skip
   refine GL.region ?_
   refine RL.mv rfl rfl rfl ?_
   refine RL.binS (v := .bool (x1 == ([111, 112, 101, 110] : B8))) rfl rfl rfl rfl rfl ?_
   refine RL.mv rfl rfl rfl ?_
   refine RL.split (t := 16) rfl (fun b274 => ?_) (fun b274 => ?_)
   ·replace h269 := ite_t b274 h269
    refine RL.mv rfl rfl rfl ?_
    refine RL.lenS 4 Tryz.underlying22 rfl rfl rfl rfl SlOf.imm ?_
    refine RL.binI (v := .bool (((x2).length : Int) == (2 : Int))) rfl rfl rfl rfl rfl ?_
    refine RL.pickT rfl rfl rfl rfl ?_
    refine RL.asg rfl rfl rfl ?_
    refine RL.fin ?_
    cases h269
    exact fun a w st => mid_intro (((x2).length : Int) == (2 : Int)) h270 (St.cut [0, 1, 2, 4, 6, 3] ⟨rfl, rfl, rfl, rfl, rfl, trivial⟩ (by decide) rfl st)
   replace h269 := ite_f b274 h269
   refine RL.skip rfl rfl ?_
   refine RL.skip rfl rfl ?_
   refine RL.skip rfl rfl ?_
   refine RL.pickF rfl rfl rfl rfl ?_
   refine RL.asg rfl rfl rfl ?_
   refine RL.fin ?_
   cases h269
   exact fun a w st => mid_intro false h270 (St.cut [0, 1, 2, 4, 6, 3] ⟨rfl, rfl, rfl, rfl, rfl, trivial⟩ (by decide) rfl st)
  rintro x266 h275
  have h276 := h271 _ h275
  try dsimp only at h276
  refine GL.weak (env' := [(0, v0), (1, (sv x1)), (2, v2), (8, v7), (13, .bool x266)]) (L' := [obox 35 (TR.rec1 TR.raw) v0 u0a, obox 45 TrH u0a (x0.1, (x0.2.1, u0b)), obox 55 TrL u0b x0.2.2, imm (TR.sl TR.str) v2 x2, obox 59 TrE v7 (((0 : Int), (0 : Int), ([] : B8), (([] : B8), ([] : B8), (0 : Int), (0 : Int), (0 : Int), (0 : Int))) : TyE), keep X]) (fun _ _ st => st) ?_
  refine GL.cond rfl (fun b277 => ?_) (fun b277 => ?_)
  ·replace h276 := ite_t b277 h276
   refine GL.regionA rfl rfl ?_
   refine RA.mv 0 rfl (by kernel_rfl) rfl rfl rfl ?_
   obtain ⟨y292, e293, h276⟩ := bind_some h276
   refine RA.idxS (sz := 1) 3 Tryz.underlying22 Tryz_ln9 1 rfl (by kernel_rfl) rfl rfl rfl rfl rfl SlOf.imm (idx_some e293).1 (idx_some e293).2.1 ?_
   refine RA.mv 3 rfl (by kernel_rfl) rfl rfl rfl ?_
   obtain ⟨y294, e295, h276⟩ := bind_some h276
   refine RA.idxS (sz := 1) 3 Tryz.underlying22 Tryz_ln9 4 rfl (by kernel_rfl) rfl rfl rfl rfl rfl SlOf.imm (idx_some e295).1 (idx_some e295).2.1 ?_
   obtain ⟨y296, e297, h276⟩ := bind_some h276
   rcases y296 with x298 | z299
   ·replace h276 := thr_e h276
    refine RA.many [2, 5] (by kernel_rfl) ⟨⟨_, rfl, ?_⟩, ⟨_, rfl, ?_⟩, trivial⟩
    ·skip
     refine RL.ldSx (i := ((0 : Int)).toNat) (e' := y292) 3 Ex.str Tryz_ln9 rfl rfl rfl rfl SlOf.imm (idx_some e293).2.2 Part.self ?_
     refine RL.fin ?_
     refine RA.next ?_
     refine RA.seq 5 rfl (by kernel_rfl) ?_
     refine RL.ldSx (i := ((1 : Int)).toNat) (e' := y294) 3 Ex.str Tryz_ln9 rfl rfl rfl rfl SlOf.imm (idx_some e295).2.2 Part.self ?_
     refine RL.fin ?_
     refine RA.next ?_
     refine RA.seq 6 rfl (by kernel_rfl) ?_
     refine RL.callE (T := 48) (n := x298) (vs := [(sv y294)]) Tryz_fit26 rfl rfl rfl rfl (fun U w hU hW hL => desk_number_c U w hU y294 _ e297) ?_
     cases h276
     have hh := h262 _ h260
     subst hh
     first | exact fun a w st => And.intro st.defers (thrP_err ((st.pick [0, 1, 2, 5] (by decide) rfl).toPostMX (E := fun (_ : Unit) => .panicked (refuse 48 x298)) (LR := fun (o : Unit) => [obox 35 (TR.rec1 TR.raw) v0 u0a, obox 45 TrH u0a (x0.1, (x0.2.1, u0b)), obox 55 TrL u0b x0.2.2, keep X]) ())) | exact fun a w st _ _ => And.intro st.defers (thrP_err ((st.pick [0, 1, 2, 5] (by decide) rfl).toPostMX (E := fun (_ : Unit) => .panicked (refuse 48 x298)) (LR := fun (o : Unit) => [obox 35 (TR.rec1 TR.raw) v0 u0a, obox 45 TrH u0a (x0.1, (x0.2.1, u0b)), obox 55 TrL u0b x0.2.2, keep X]) ()))
    refine RL.ldSx (i := ((1 : Int)).toNat) (e' := y294) 3 Ex.str Tryz_ln9 rfl rfl rfl rfl SlOf.imm (idx_some e295).2.2 Part.self ?_
    refine RL.fin ?_
    refine RA.next ?_
    refine RA.many [2, 6] (by kernel_rfl) ⟨⟨_, rfl, ?_⟩, ⟨_, rfl, ?_⟩, trivial⟩
    ·skip
     refine RL.ldSx (i := ((0 : Int)).toNat) (e' := y292) 3 Ex.str Tryz_ln9 rfl rfl rfl rfl SlOf.imm (idx_some e293).2.2 Part.self ?_
     refine RL.fin ?_
     refine RA.next ?_
     refine RA.seq 6 rfl (by kernel_rfl) ?_
     refine RL.callE (T := 48) (n := x298) (vs := [(sv y294)]) Tryz_fit26 rfl rfl rfl rfl (fun U w hU hW hL => desk_number_c U w hU y294 _ e297) ?_
     cases h276
     have hh := h262 _ h260
     subst hh
     first | exact fun a w st => And.intro st.defers (thrP_err ((st.pick [0, 1, 2, 5] (by decide) rfl).toPostMX (E := fun (_ : Unit) => .panicked (refuse 48 x298)) (LR := fun (o : Unit) => [obox 35 (TR.rec1 TR.raw) v0 u0a, obox 45 TrH u0a (x0.1, (x0.2.1, u0b)), obox 55 TrL u0b x0.2.2, keep X]) ())) | exact fun a w st _ _ => And.intro st.defers (thrP_err ((st.pick [0, 1, 2, 5] (by decide) rfl).toPostMX (E := fun (_ : Unit) => .panicked (refuse 48 x298)) (LR := fun (o : Unit) => [obox 35 (TR.rec1 TR.raw) v0 u0a, obox 45 TrH u0a (x0.1, (x0.2.1, u0b)), obox 55 TrL u0b x0.2.2, keep X]) ()))
    refine RL.callE (T := 48) (n := x298) (vs := [(sv y294)]) Tryz_fit26 rfl rfl rfl rfl (fun U w hU hW hL => desk_number_c U w hU y294 _ e297) ?_
    cases h276
    have hh := h262 _ h260
    subst hh
    first | exact fun a w st => And.intro st.defers (thrP_err ((st.pick [0, 1, 2, 5] (by decide) rfl).toPostMX (E := fun (_ : Unit) => .panicked (refuse 48 x298)) (LR := fun (o : Unit) => [obox 35 (TR.rec1 TR.raw) v0 u0a, obox 45 TrH u0a (x0.1, (x0.2.1, u0b)), obox 55 TrL u0b x0.2.2, keep X]) ())) | exact fun a w st _ _ => And.intro st.defers (thrP_err ((st.pick [0, 1, 2, 5] (by decide) rfl).toPostMX (E := fun (_ : Unit) => .panicked (refuse 48 x298)) (LR := fun (o : Unit) => [obox 35 (TR.rec1 TR.raw) v0 u0a, obox 45 TrH u0a (x0.1, (x0.2.1, u0b)), obox 55 TrL u0b x0.2.2, keep X]) ()))
   replace h276 := thr_o h276
   refine RA.meet (ι := Unit) (fun (p : Unit) => [(0, v0), (8, v7), (23, (sv y292)), (27, .int .i64 z299)]) (fun (p : Unit) => [obox 35 (TR.rec1 TR.raw) v0 u0a, obox 45 TrH u0a (x0.1, (x0.2.1, u0b)), obox 55 TrL u0b x0.2.2, keep X, obox 59 TrE v7 (((0 : Int), (0 : Int), ([] : B8), (([] : B8), ([] : B8), (0 : Int), (0 : Int), (0 : Int), (0 : Int))) : TyE)]) 2 q_98 (fun h300 => ?_) ?_
   ·skip
    refine RA.meet (ι := Unit) (fun (p : Unit) => [(0, v0), (8, v7), (23, (sv y292)), (26, (sv y294))]) (fun (p : Unit) => [obox 35 (TR.rec1 TR.raw) v0 u0a, obox 45 TrH u0a (x0.1, (x0.2.1, u0b)), obox 55 TrL u0b x0.2.2, keep X, obox 59 TrE v7 (((0 : Int), (0 : Int), ([] : B8), (([] : B8), ([] : B8), (0 : Int), (0 : Int), (0 : Int), (0 : Int))) : TyE)]) 3 q_99 (fun h301 => ?_) ?_
    rotate_left
    ·rintro ⟨⟩
     refine RA.weak (env' := [(0, v0), (8, v7), (23, (sv y292)), (26, (sv y294))]) (L' := [obox 35 (TR.rec1 TR.raw) v0 u0a, obox 45 TrH u0a (x0.1, (x0.2.1, u0b)), obox 55 TrL u0b x0.2.2, keep X, obox 59 TrE v7 (((0 : Int), (0 : Int), ([] : B8), (([] : B8), ([] : B8), (0 : Int), (0 : Int), (0 : Int), (0 : Int))) : TyE)]) (fun _ _ st => st) ?_
     refine RA.seq 6 rfl (by kernel_rfl) ?_
     refine RL.callV (v := .int .i64 z299) (vs := [(sv y294)]) Tryz_fit26 rfl (Or.inl rfl) rfl rfl rfl rfl (fun U w hU hW hL => desk_number_c U w hU y294 _ e297) ?_
     refine RL.fin ?_
     refine RA.next ?_
     refine RA.relist 2 q_98 rfl (by kernel_rfl) ?_
     exact fun a w st => h300 () a w (St.cut [0, 1, 2, 3, 4] ⟨rfl, rfl, rfl, rfl, trivial⟩ (by decide) rfl st)
    refine RA.meet (ι := Unit) (fun (p : Unit) => [(0, v0), (8, v7), (22, adr v2 (((0 : Int)).toNat * 1)), (27, .int .i64 z299)]) (fun (p : Unit) => [obox 35 (TR.rec1 TR.raw) v0 u0a, obox 45 TrH u0a (x0.1, (x0.2.1, u0b)), obox 55 TrL u0b x0.2.2, keep X, obox 59 TrE v7 (((0 : Int), (0 : Int), ([] : B8), (([] : B8), ([] : B8), (0 : Int), (0 : Int), (0 : Int), (0 : Int))) : TyE), imm (TR.sl TR.str) v2 x2]) 3 q_100 (fun h302 => ?_) ?_
    rotate_left
    ·rintro ⟨⟩
     refine RA.weak (env' := [(0, v0), (8, v7), (22, adr v2 (((0 : Int)).toNat * 1)), (27, .int .i64 z299)]) (L' := [obox 35 (TR.rec1 TR.raw) v0 u0a, obox 45 TrH u0a (x0.1, (x0.2.1, u0b)), obox 55 TrL u0b x0.2.2, keep X, obox 59 TrE v7 (((0 : Int), (0 : Int), ([] : B8), (([] : B8), ([] : B8), (0 : Int), (0 : Int), (0 : Int), (0 : Int))) : TyE), imm (TR.sl TR.str) v2 x2]) (fun _ _ st => st) ?_
     refine RA.seq 2 rfl (by kernel_rfl) ?_
     refine RL.ldSx (i := ((0 : Int)).toNat) (e' := y292) 5 Ex.str Tryz_ln9 rfl rfl rfl rfl SlOf.imm (idx_some e293).2.2 Part.self ?_
     refine RL.fin ?_
     refine RA.next ?_
     refine RA.relist 2 q_98 rfl (by kernel_rfl) ?_
     exact fun a w st => h300 () a w (St.cut [0, 1, 2, 3, 4] ⟨rfl, rfl, rfl, rfl, trivial⟩ (by decide) rfl st)
    refine RA.meet (ι := Unit) (fun (p : Unit) => [(0, v0), (8, v7), (23, (sv y292)), (25, adr v2 (((1 : Int)).toNat * 1))]) (fun (p : Unit) => [obox 35 (TR.rec1 TR.raw) v0 u0a, obox 45 TrH u0a (x0.1, (x0.2.1, u0b)), obox 55 TrL u0b x0.2.2, keep X, obox 59 TrE v7 (((0 : Int), (0 : Int), ([] : B8), (([] : B8), ([] : B8), (0 : Int), (0 : Int), (0 : Int), (0 : Int))) : TyE), imm (TR.sl TR.str) v2 x2]) 4 q_101 (fun h303 => ?_) ?_
    rotate_left
    ·rintro ⟨⟩
     refine RA.weak (env' := [(0, v0), (8, v7), (23, (sv y292)), (25, adr v2 (((1 : Int)).toNat * 1))]) (L' := [obox 35 (TR.rec1 TR.raw) v0 u0a, obox 45 TrH u0a (x0.1, (x0.2.1, u0b)), obox 55 TrL u0b x0.2.2, keep X, obox 59 TrE v7 (((0 : Int), (0 : Int), ([] : B8), (([] : B8), ([] : B8), (0 : Int), (0 : Int), (0 : Int), (0 : Int))) : TyE), imm (TR.sl TR.str) v2 x2]) (fun _ _ st => st) ?_
     refine RA.seq 5 rfl (by kernel_rfl) ?_
     refine RL.ldSx (i := ((1 : Int)).toNat) (e' := y294) 5 Ex.str Tryz_ln9 rfl rfl rfl rfl SlOf.imm (idx_some e295).2.2 Part.self ?_
     refine RL.fin ?_
     refine RA.next ?_
     refine RA.relist 3 q_99 rfl (by kernel_rfl) ?_
     exact fun a w st => h301 () a w (St.cut [0, 1, 2, 3, 4] ⟨rfl, rfl, rfl, rfl, trivial⟩ (by decide) rfl st)
    refine RA.meet (ι := Unit) (fun (p : Unit) => [(0, v0), (8, v7), (22, adr v2 (((0 : Int)).toNat * 1)), (26, (sv y294))]) (fun (p : Unit) => [obox 35 (TR.rec1 TR.raw) v0 u0a, obox 45 TrH u0a (x0.1, (x0.2.1, u0b)), obox 55 TrL u0b x0.2.2, keep X, obox 59 TrE v7 (((0 : Int), (0 : Int), ([] : B8), (([] : B8), ([] : B8), (0 : Int), (0 : Int), (0 : Int), (0 : Int))) : TyE), imm (TR.sl TR.str) v2 x2]) 4 q_102 (fun h304 => ?_) ?_
    rotate_left
    ·rintro ⟨⟩
     refine RA.weak (env' := [(0, v0), (8, v7), (22, adr v2 (((0 : Int)).toNat * 1)), (26, (sv y294))]) (L' := [obox 35 (TR.rec1 TR.raw) v0 u0a, obox 45 TrH u0a (x0.1, (x0.2.1, u0b)), obox 55 TrL u0b x0.2.2, keep X, obox 59 TrE v7 (((0 : Int), (0 : Int), ([] : B8), (([] : B8), ([] : B8), (0 : Int), (0 : Int), (0 : Int), (0 : Int))) : TyE), imm (TR.sl TR.str) v2 x2]) (fun _ _ st => st) ?_
     refine RA.many [2, 6] (by kernel_rfl) ⟨⟨_, rfl, ?_⟩, ⟨_, rfl, ?_⟩, trivial⟩
     ·skip
      refine RL.ldSx (i := ((0 : Int)).toNat) (e' := y292) 5 Ex.str Tryz_ln9 rfl rfl rfl rfl SlOf.imm (idx_some e293).2.2 Part.self ?_
      refine RL.fin ?_
      refine RA.next ?_
      refine RA.relist 3 q_99 rfl (by kernel_rfl) ?_
      exact fun a w st => h301 () a w (St.cut [0, 1, 2, 3, 4] ⟨rfl, rfl, rfl, rfl, trivial⟩ (by decide) rfl st)
     refine RL.callV (v := .int .i64 z299) (vs := [(sv y294)]) Tryz_fit26 rfl (Or.inl rfl) rfl rfl rfl rfl (fun U w hU hW hL => desk_number_c U w hU y294 _ e297) ?_
     refine RL.fin ?_
     refine RA.next ?_
     refine RA.relist 3 q_100 rfl (by kernel_rfl) ?_
     exact fun a w st => h302 () a w (St.cut [0, 1, 2, 3, 4, 5] ⟨rfl, rfl, rfl, rfl, trivial⟩ (by decide) rfl st)
    refine RA.many [2, 5] (by kernel_rfl) ⟨⟨_, rfl, ?_⟩, ⟨_, rfl, ?_⟩, trivial⟩
    ·skip
     refine RL.ldSx (i := ((0 : Int)).toNat) (e' := y292) 3 Ex.str Tryz_ln9 rfl rfl rfl rfl SlOf.imm (idx_some e293).2.2 Part.self ?_
     refine RL.fin ?_
     refine RA.next ?_
     refine RA.relist 4 q_101 rfl (by kernel_rfl) ?_
     exact fun a w st => h303 () a w (St.cut [0, 1, 2, 5, 4, 3] ⟨rfl, rfl, rfl, rfl, trivial⟩ (by decide) rfl st)
    refine RL.ldSx (i := ((1 : Int)).toNat) (e' := y294) 3 Ex.str Tryz_ln9 rfl rfl rfl rfl SlOf.imm (idx_some e295).2.2 Part.self ?_
    refine RL.fin ?_
    refine RA.next ?_
    refine RA.relist 4 q_102 rfl (by kernel_rfl) ?_
    exact fun a w st => h304 () a w (St.cut [0, 1, 2, 5, 4, 3] ⟨rfl, rfl, rfl, rfl, trivial⟩ (by decide) rfl st)
   rintro ⟨⟩
   refine RA.weak (env' := [(0, v0), (8, v7), (23, (sv y292)), (27, .int .i64 z299)]) (L' := [obox 35 (TR.rec1 TR.raw) v0 u0a, obox 45 TrH u0a (x0.1, (x0.2.1, u0b)), obox 55 TrL u0b x0.2.2, keep X, obox 59 TrE v7 (((0 : Int), (0 : Int), ([] : B8), (([] : B8), ([] : B8), (0 : Int), (0 : Int), (0 : Int), (0 : Int))) : TyE)]) (fun _ _ st => st) ?_
   refine RA.seq 7 rfl (by kernel_rfl) ?_
   refine RL.bld (t := TrE) (d0 := (((1 : Int), z299, y292, (([] : B8), ([] : B8), (0 : Int), (0 : Int), (0 : Int), (0 : Int))) : TyE)) (pv := [(0, .int .i64 (1 : Int)), (2, (sv y292)), (1, .int .i64 z299)]) rfl Tryz_bld59 rfl rfl rfl ⟨⟨_, _, TR.int, (1 : Int), rfl, rfl, VR.int⟩, ⟨⟨_, _, TR.str, y292, rfl, rfl, VR.str⟩, ⟨⟨_, _, TR.int, z299, rfl, rfl, VR.int⟩, trivial⟩⟩⟩ (fun S f hi => by
     obtain ⟨c0, e0, r0⟩ := cells_vrep (t := TR.int) (u := .int .i64 (1 : Int)) (e := (1 : Int)) (VR.int S f hi)
     obtain ⟨c1, e1, r1⟩ := cells_vrep (t := TR.int) (u := .int .i64 z299) (e := z299) (VR.int S f hi)
     obtain ⟨c2, e2, r2⟩ := cells_vrep (t := TR.str) (u := (sv y292)) (e := y292) (VR.str S f hi)
     show TR.rep TrE S (List.flatten [(.int .i64 (1 : Int) : Value).cells.toList, (.int .i64 z299 : Value).cells.toList, ((sv y292) : Value).cells.toList, [.string ⟨#[]⟩, .string ⟨#[]⟩, .int .i64 0, .int .i64 0, .int .i64 0, .int .i64 0]]) _
     simp only [e0, e1, e2,  List.flatten_cons, List.flatten_nil, List.append_nil]
     exact ⟨_, _, rfl, r0, ⟨_, _, rfl, r1, ⟨_, _, rfl, r2, ⟨[.string ⟨#[]⟩], _, rfl, rfl, ⟨[.string ⟨#[]⟩], _, rfl, rfl, ⟨[.int .i64 0], _, rfl, rfl, ⟨[.int .i64 0], _, rfl, rfl, ⟨[.int .i64 0], _, rfl, rfl, rfl⟩⟩⟩⟩⟩⟩⟩⟩) ?_
   intro v305
   refine RL.fin ?_
   refine RA.next ?_
   refine RA.seq 8 rfl (by kernel_rfl) ?_
   refine RL.stP (off := 0) (e' := (((1 : Int), z299, y292, (([] : B8), ([] : B8), (0 : Int), (0 : Int), (0 : Int), (0 : Int))) : TyE)) (d1 := (((1 : Int), z299, y292, (([] : B8), ([] : B8), (0 : Int), (0 : Int), (0 : Int), (0 : Int))) : TyE)) (r := TrE) 4 Tryz_ln59 rfl rfl (Or.inr ⟨rfl, rfl⟩) rfl (VR.item 5 rfl) rfl Upd.self ?_
   refine RL.fin ?_
   refine RA.next ?_
   refine RA.doneG (by kernel_rfl) ?_
   refine GL.weak (env' := [(0, v0), (8, v7)]) (L' := [obox 35 (TR.rec1 TR.raw) v0 u0a, obox 45 TrH u0a (x0.1, (x0.2.1, u0b)), obox 55 TrL u0b x0.2.2, keep X, obox 59 TrE v7 (((1 : Int), z299, y292, (([] : B8), ([] : B8), (0 : Int), (0 : Int), (0 : Int), (0 : Int))) : TyE)]) (fun a w st => St.cut [0, 1, 2, 3, 4] ⟨rfl, rfl, trivial⟩ (by decide) rfl st) ?_
   cases h276
   exact fun a w st => mid_intro (((1 : Int), z299, y292, (([] : B8), ([] : B8), (0 : Int), (0 : Int), (0 : Int), (0 : Int))) : TyE) h260 (St.cut [0, 1, 2, 4, 3] ⟨rfl, rfl, trivial⟩ (by decide) rfl st)
  replace h276 := ite_f b277 h276
  refine GL.seq ?_
  obtain ⟨y309, K310, h311, h312, h313, h314, h315⟩ := bindF_K h276
  refine GL.join (ι := Bool) (fun (p : Bool) => [(0, v0), (1, (sv x1)), (2, v2), (8, v7), (29, .bool p)]) (fun (p : Bool) => [obox 35 (TR.rec1 TR.raw) v0 u0a, obox 45 TrH u0a (x0.1, (x0.2.1, u0b)), obox 55 TrL u0b x0.2.2, imm (TR.sl TR.str) v2 x2, obox 59 TrE v7 (((0 : Int), (0 : Int), ([] : B8), (([] : B8), ([] : B8), (0 : Int), (0 : Int), (0 : Int), (0 : Int))) : TyE), keep X]) (fun (p : Bool) => K310 (.nx p)) ?_ ?_
  ·skip
   refine GL.region ?_
   refine RL.mv rfl rfl rfl ?_
   refine RL.binS (v := .bool (x1 == ([111, 102, 102, 101, 114] : B8))) rfl rfl rfl rfl rfl ?_
   refine RL.mv rfl rfl rfl ?_
   refine RL.split (t := 32) rfl (fun b316 => ?_) (fun b316 => ?_)
   ·replace h311 := ite_t b316 h311
    refine RL.mv rfl rfl rfl ?_
    refine RL.lenS 3 Tryz.underlying22 rfl rfl rfl rfl SlOf.imm ?_
    refine RL.binI (v := .bool (((x2).length : Int) == (6 : Int))) rfl rfl rfl rfl rfl ?_
    refine RL.pickT rfl rfl rfl rfl ?_
    refine RL.asg rfl rfl rfl ?_
    refine RL.fin ?_
    cases h311
    exact fun a w st => mid_intro (((x2).length : Int) == (6 : Int)) h312 (St.cut [0, 1, 2, 3, 4, 5] ⟨rfl, rfl, rfl, rfl, rfl, trivial⟩ (by decide) rfl st)
   replace h311 := ite_f b316 h311
   refine RL.skip rfl rfl ?_
   refine RL.skip rfl rfl ?_
   refine RL.skip rfl rfl ?_
   refine RL.pickF rfl rfl rfl rfl ?_
   refine RL.asg rfl rfl rfl ?_
   refine RL.fin ?_
   cases h311
   exact fun a w st => mid_intro false h312 (St.cut [0, 1, 2, 3, 4, 5] ⟨rfl, rfl, rfl, rfl, rfl, trivial⟩ (by decide) rfl st)
  rintro x308 h317
  have h318 := h313 _ h317
  try dsimp only at h318
  refine GL.weak (env' := [(0, v0), (1, (sv x1)), (2, v2), (8, v7), (29, .bool x308)]) (L' := [obox 35 (TR.rec1 TR.raw) v0 u0a, obox 45 TrH u0a (x0.1, (x0.2.1, u0b)), obox 55 TrL u0b x0.2.2, imm (TR.sl TR.str) v2 x2, obox 59 TrE v7 (((0 : Int), (0 : Int), ([] : B8), (([] : B8), ([] : B8), (0 : Int), (0 : Int), (0 : Int), (0 : Int))) : TyE), keep X]) (fun _ _ st => st) ?_
  refine GL.cond rfl (fun b319 => ?_) (fun b319 => ?_)
  ·replace h318 := ite_t b319 h318
   refine GL.seq ?_
   refine GL.region ?_
   refine RL.mv rfl rfl rfl ?_
   obtain ⟨y328, e329, h318⟩ := bind_some h318
   replace e329 := chk_some e329
   refine RL.slc (t := TR.str) (i := ((2 : Int)).toNat) (j := (x2).length) (sz := 1) 3 Tryz.underlying22 Tryz_ln9 rfl rfl rfl rfl (Or.inr ⟨_, _, rfl, by rw [Int.toNat_of_nonneg (by omega)]; rfl⟩) (Or.inl ⟨rfl, rfl⟩) rfl (by omega) (by omega) ?_
   intro v330
   obtain ⟨y331, e332, h318⟩ := bind_some h318
   rcases y331 with x333 | z334
   ·replace h318 := thr_e h318
    refine RL.callE (T := 48) (n := x333) (vs := [v330]) Tryz_fit27 rfl rfl rfl rfl (fun U w hU hW hL => desk_numbers_c U w hU _ _ (hL 6 _ _ rfl Seen.imm) _ e332) ?_
    cases h318
    have hh := h262 _ h260
    subst hh
    first | exact fun a w st => And.intro st.defers (thrP_err ((st.pick [0, 1, 2, 5] (by decide) rfl).toPostMX (E := fun (_ : Unit) => .panicked (refuse 48 x333)) (LR := fun (o : Unit) => [obox 35 (TR.rec1 TR.raw) v0 u0a, obox 45 TrH u0a (x0.1, (x0.2.1, u0b)), obox 55 TrL u0b x0.2.2, keep X]) ())) | exact fun a w st _ _ => And.intro st.defers (thrP_err ((st.pick [0, 1, 2, 5] (by decide) rfl).toPostMX (E := fun (_ : Unit) => .panicked (refuse 48 x333)) (LR := fun (o : Unit) => [obox 35 (TR.rec1 TR.raw) v0 u0a, obox 45 TrH u0a (x0.1, (x0.2.1, u0b)), obox 55 TrL u0b x0.2.2, keep X]) ()))
   replace h318 := thr_o h318
   refine RL.call (vs := [v330]) Tryz_fit27 rfl rfl rfl rfl rfl (fun S f w hS hW hi => desk_numbers_c S w hS _ _ (hi 6 _ rfl) _ e332) ?_
   intro v335
   refine RL.reL (L' := [obox 35 (TR.rec1 TR.raw) v0 u0a, obox 45 TrH u0a (x0.1, (x0.2.1, u0b)), obox 55 TrL u0b x0.2.2, imm (TR.sl TR.str) v2 x2, obox 59 TrE v7 (((0 : Int), (0 : Int), ([] : B8), (([] : B8), ([] : B8), (0 : Int), (0 : Int), (0 : Int), (0 : Int))) : TyE), keep X, imm (TR.sl TR.str) v330 ((List.take ((x2).length) x2).drop (((2 : Int)).toNat)), own 3 TR.int v335 z334]) rfl ?_
   refine RL.asg rfl rfl rfl ?_
   refine RL.finG ?_
   refine GL.regionH 20 rfl rfl (by kernel_rfl) ?_
   simp only [List.take_succ_cons, List.take_zero, List.drop_succ_cons, List.drop_zero]
   refine RL.mv rfl rfl rfl ?_
   obtain ⟨y350, e351, h318⟩ := bind_some h318
   refine RL.idxS (sz := 1) 3 Tryz.underlying22 Tryz_ln9 rfl rfl rfl rfl rfl SlOf.imm (idx_some e351).1 (idx_some e351).2.1 ?_
   refine RL.ldSx (i := ((0 : Int)).toNat) (e' := y350) 3 Ex.str Tryz_ln9 rfl rfl rfl rfl SlOf.imm (idx_some e351).2.2 Part.self ?_
   refine RL.mv rfl rfl rfl ?_
   obtain ⟨y352, e353, h318⟩ := bind_some h318
   refine RL.idxS (sz := 1) 3 Tryz.underlying22 Tryz_ln9 rfl rfl rfl rfl rfl SlOf.imm (idx_some e353).1 (idx_some e353).2.1 ?_
   refine RL.ldSx (i := ((1 : Int)).toNat) (e' := y352) 3 Ex.str Tryz_ln9 rfl rfl rfl rfl SlOf.imm (idx_some e353).2.2 Part.self ?_
   refine RL.mv rfl rfl rfl ?_
   obtain ⟨y354, e355, h318⟩ := bind_some h318
   refine RL.idxS (sz := 1) 7 Tryz.underlying61 Tryz_ln3 rfl rfl rfl rfl rfl SlOf.own (idx_some e355).1 (idx_some e355).2.1 ?_
   refine RL.ldSx (i := ((0 : Int)).toNat) (e' := y354) 7 Ex.ik Tryz_ln3 rfl rfl rfl rfl SlOf.own (idx_some e355).2.2 Part.self ?_
   refine RL.mv rfl rfl rfl ?_
   obtain ⟨y356, e357, h318⟩ := bind_some h318
   refine RL.idxS (sz := 1) 7 Tryz.underlying61 Tryz_ln3 rfl rfl rfl rfl rfl SlOf.own (idx_some e357).1 (idx_some e357).2.1 ?_
   refine RL.ldSx (i := ((1 : Int)).toNat) (e' := y356) 7 Ex.ik Tryz_ln3 rfl rfl rfl rfl SlOf.own (idx_some e357).2.2 Part.self ?_
   refine RL.mv rfl rfl rfl ?_
   obtain ⟨y358, e359, h318⟩ := bind_some h318
   refine RL.idxS (sz := 1) 7 Tryz.underlying61 Tryz_ln3 rfl rfl rfl rfl rfl SlOf.own (idx_some e359).1 (idx_some e359).2.1 ?_
   refine RL.ldSx (i := ((2 : Int)).toNat) (e' := y358) 7 Ex.ik Tryz_ln3 rfl rfl rfl rfl SlOf.own (idx_some e359).2.2 Part.self ?_
   refine RL.mv rfl rfl rfl ?_
   obtain ⟨y360, e361, h318⟩ := bind_some h318
   refine RL.idxS (sz := 1) 7 Tryz.underlying61 Tryz_ln3 rfl rfl rfl rfl rfl SlOf.own (idx_some e361).1 (idx_some e361).2.1 ?_
   refine RL.ldSx (i := ((3 : Int)).toNat) (e' := y360) 7 Ex.ik Tryz_ln3 rfl rfl rfl rfl SlOf.own (idx_some e361).2.2 Part.self ?_
   refine RL.bld (t := TrD) (d0 := ((y350, y352, y354, y356, y358, y360) : TyD)) (pv := [(0, (sv y350)), (1, (sv y352)), (2, .int .i64 y354), (3, .int .i64 y356), (4, .int .i64 y358), (5, .int .i64 y360)]) rfl Tryz_bld57 rfl rfl rfl ⟨⟨_, _, TR.str, y350, rfl, rfl, VR.str⟩, ⟨⟨_, _, TR.str, y352, rfl, rfl, VR.str⟩, ⟨⟨_, _, TR.int, y354, rfl, rfl, VR.int⟩, ⟨⟨_, _, TR.int, y356, rfl, rfl, VR.int⟩, ⟨⟨_, _, TR.int, y358, rfl, rfl, VR.int⟩, ⟨⟨_, _, TR.int, y360, rfl, rfl, VR.int⟩, trivial⟩⟩⟩⟩⟩⟩ (fun S f hi => by
     obtain ⟨c0, e0, r0⟩ := cells_vrep (t := TR.str) (u := (sv y350)) (e := y350) (VR.str S f hi)
     obtain ⟨c1, e1, r1⟩ := cells_vrep (t := TR.str) (u := (sv y352)) (e := y352) (VR.str S f hi)
     obtain ⟨c2, e2, r2⟩ := cells_vrep (t := TR.int) (u := .int .i64 y354) (e := y354) (VR.int S f hi)
     obtain ⟨c3, e3, r3⟩ := cells_vrep (t := TR.int) (u := .int .i64 y356) (e := y356) (VR.int S f hi)
     obtain ⟨c4, e4, r4⟩ := cells_vrep (t := TR.int) (u := .int .i64 y358) (e := y358) (VR.int S f hi)
     obtain ⟨c5, e5, r5⟩ := cells_vrep (t := TR.int) (u := .int .i64 y360) (e := y360) (VR.int S f hi)
     show TR.rep TrD S (List.flatten [((sv y350) : Value).cells.toList, ((sv y352) : Value).cells.toList, (.int .i64 y354 : Value).cells.toList, (.int .i64 y356 : Value).cells.toList, (.int .i64 y358 : Value).cells.toList, (.int .i64 y360 : Value).cells.toList]) _
     simp only [e0, e1, e2, e3, e4, e5,  List.flatten_cons, List.flatten_nil, List.append_nil]
     exact ⟨_, _, rfl, r0, ⟨_, _, rfl, r1, ⟨_, _, rfl, r2, ⟨_, _, rfl, r3, ⟨_, _, rfl, r4, r5⟩⟩⟩⟩⟩) ?_
   intro v362
   refine RL.bld (t := TrE) (d0 := (((2 : Int), (0 : Int), ([] : B8), ((y350, y352, y354, y356, y358, y360) : TyD)) : TyE)) (pv := [(0, .int .i64 (2 : Int)), (3, v362)]) rfl Tryz_bld59 rfl rfl rfl ⟨⟨_, _, TR.int, (2 : Int), rfl, rfl, VR.int⟩, ⟨⟨_, _, TrD, ((y350, y352, y354, y356, y358, y360) : TyD), rfl, rfl, (VR.item 8 rfl)⟩, trivial⟩⟩ (fun S f hi => by
     obtain ⟨c0, e0, r0⟩ := cells_vrep (t := TR.int) (u := .int .i64 (2 : Int)) (e := (2 : Int)) (VR.int S f hi)
     obtain ⟨c3, e3, r3⟩ := cells_vrep (t := TrD) (u := v362) (e := ((y350, y352, y354, y356, y358, y360) : TyD)) ((VR.item 8 rfl) S f hi)
     show TR.rep TrE S (List.flatten [(.int .i64 (2 : Int) : Value).cells.toList, [.int .i64 0], [.string ⟨#[]⟩], (v362 : Value).cells.toList]) _
     simp only [e0, e3,  List.flatten_cons, List.flatten_nil, List.append_nil]
     exact ⟨_, _, rfl, r0, ⟨_, _, rfl, rfl, ⟨_, _, rfl, rfl, r3⟩⟩⟩) ?_
   intro v363
   refine RL.reL (L' := [obox 35 (TR.rec1 TR.raw) v0 u0a, obox 45 TrH u0a (x0.1, (x0.2.1, u0b)), obox 55 TrL u0b x0.2.2, imm (TR.sl TR.str) v2 x2, obox 59 TrE v7 (((0 : Int), (0 : Int), ([] : B8), (([] : B8), ([] : B8), (0 : Int), (0 : Int), (0 : Int), (0 : Int))) : TyE), keep X, imm (TR.sl TR.str) v330 ((List.take ((x2).length) x2).drop (((2 : Int)).toNat)), own 3 TR.int v335 z334, imm TrD v362 ((y350, y352, y354, y356, y358, y360) : TyD), imm TrE v363 (((2 : Int), (0 : Int), ([] : B8), ((y350, y352, y354, y356, y358, y360) : TyD)) : TyE)]) rfl ?_
   refine RL.finH ?_
   refine RL.stP (off := 0) (e' := (((2 : Int), (0 : Int), ([] : B8), ((y350, y352, y354, y356, y358, y360) : TyD)) : TyE)) (d1 := (((2 : Int), (0 : Int), ([] : B8), ((y350, y352, y354, y356, y358, y360) : TyD)) : TyE)) (r := TrE) 4 Tryz_ln59 rfl rfl (Or.inr ⟨rfl, rfl⟩) rfl (VR.item 9 rfl) rfl Upd.self ?_
   refine RL.finG ?_
   refine GL.weak (env' := [(0, v0), (8, v7)]) (L' := [obox 35 (TR.rec1 TR.raw) v0 u0a, obox 45 TrH u0a (x0.1, (x0.2.1, u0b)), obox 55 TrL u0b x0.2.2, keep X, obox 59 TrE v7 (((2 : Int), (0 : Int), ([] : B8), ((y350, y352, y354, y356, y358, y360) : TyD)) : TyE)]) (fun a w st => St.cut [0, 1, 2, 5, 4] ⟨rfl, rfl, trivial⟩ (by decide) rfl st) ?_
   cases h318
   exact fun a w st => mid_intro (((2 : Int), (0 : Int), ([] : B8), ((y350, y352, y354, y356, y358, y360) : TyD)) : TyE) h260 (St.cut [0, 1, 2, 4, 3] ⟨rfl, rfl, trivial⟩ (by decide) rfl st)
  replace h318 := ite_f b319 h318
  refine GL.seq ?_
  obtain ⟨y367, K368, h369, h370, h371, h372, h373⟩ := bindF_K h318
  refine GL.join (ι := Bool) (fun (p : Bool) => [(0, v0), (1, (sv x1)), (2, v2), (8, v7), (60, .bool p)]) (fun (p : Bool) => [obox 35 (TR.rec1 TR.raw) v0 u0a, obox 45 TrH u0a (x0.1, (x0.2.1, u0b)), obox 55 TrL u0b x0.2.2, imm (TR.sl TR.str) v2 x2, obox 59 TrE v7 (((0 : Int), (0 : Int), ([] : B8), (([] : B8), ([] : B8), (0 : Int), (0 : Int), (0 : Int), (0 : Int))) : TyE), keep X]) (fun (p : Bool) => K368 (.nx p)) ?_ ?_
  ·skip
   refine GL.region ?_
   refine RL.mv rfl rfl rfl ?_
   refine RL.binS (v := .bool (x1 == ([98, 117, 105, 108, 100] : B8))) rfl rfl rfl rfl rfl ?_
   refine RL.mv rfl rfl rfl ?_
   refine RL.split (t := 63) rfl (fun b374 => ?_) (fun b374 => ?_)
   ·replace h369 := ite_t b374 h369
    refine RL.mv rfl rfl rfl ?_
    refine RL.lenS 3 Tryz.underlying22 rfl rfl rfl rfl SlOf.imm ?_
    refine RL.binI (v := .bool (((x2).length : Int) == (2 : Int))) rfl rfl rfl rfl rfl ?_
    refine RL.pickT rfl rfl rfl rfl ?_
    refine RL.asg rfl rfl rfl ?_
    refine RL.fin ?_
    cases h369
    exact fun a w st => mid_intro (((x2).length : Int) == (2 : Int)) h370 (St.cut [0, 1, 2, 3, 4, 5] ⟨rfl, rfl, rfl, rfl, rfl, trivial⟩ (by decide) rfl st)
   replace h369 := ite_f b374 h369
   refine RL.skip rfl rfl ?_
   refine RL.skip rfl rfl ?_
   refine RL.skip rfl rfl ?_
   refine RL.pickF rfl rfl rfl rfl ?_
   refine RL.asg rfl rfl rfl ?_
   refine RL.fin ?_
   cases h369
   exact fun a w st => mid_intro false h370 (St.cut [0, 1, 2, 3, 4, 5] ⟨rfl, rfl, rfl, rfl, rfl, trivial⟩ (by decide) rfl st)
  rintro x366 h375
  have h376 := h371 _ h375
  try dsimp only at h376
  refine GL.weak (env' := [(0, v0), (1, (sv x1)), (2, v2), (8, v7), (60, .bool x366)]) (L' := [obox 35 (TR.rec1 TR.raw) v0 u0a, obox 45 TrH u0a (x0.1, (x0.2.1, u0b)), obox 55 TrL u0b x0.2.2, imm (TR.sl TR.str) v2 x2, obox 59 TrE v7 (((0 : Int), (0 : Int), ([] : B8), (([] : B8), ([] : B8), (0 : Int), (0 : Int), (0 : Int), (0 : Int))) : TyE), keep X]) (fun _ _ st => st) ?_
  refine GL.cond rfl (fun b377 => ?_) (fun b377 => ?_)
  ·replace h376 := ite_t b377 h376
   refine GL.regionA rfl rfl ?_
   refine RA.mv 0 rfl (by kernel_rfl) rfl rfl rfl ?_
   obtain ⟨y392, e393, h376⟩ := bind_some h376
   refine RA.idxS (sz := 1) 3 Tryz.underlying22 Tryz_ln9 1 rfl (by kernel_rfl) rfl rfl rfl rfl rfl SlOf.imm (idx_some e393).1 (idx_some e393).2.1 ?_
   refine RA.mv 3 rfl (by kernel_rfl) rfl rfl rfl ?_
   obtain ⟨y394, e395, h376⟩ := bind_some h376
   refine RA.idxS (sz := 1) 3 Tryz.underlying22 Tryz_ln9 4 rfl (by kernel_rfl) rfl rfl rfl rfl rfl SlOf.imm (idx_some e395).1 (idx_some e395).2.1 ?_
   obtain ⟨y396, e397, h376⟩ := bind_some h376
   rcases y396 with x398 | z399
   ·replace h376 := thr_e h376
    refine RA.many [2, 5] (by kernel_rfl) ⟨⟨_, rfl, ?_⟩, ⟨_, rfl, ?_⟩, trivial⟩
    ·skip
     refine RL.ldSx (i := ((0 : Int)).toNat) (e' := y392) 3 Ex.str Tryz_ln9 rfl rfl rfl rfl SlOf.imm (idx_some e393).2.2 Part.self ?_
     refine RL.fin ?_
     refine RA.next ?_
     refine RA.seq 5 rfl (by kernel_rfl) ?_
     refine RL.ldSx (i := ((1 : Int)).toNat) (e' := y394) 3 Ex.str Tryz_ln9 rfl rfl rfl rfl SlOf.imm (idx_some e395).2.2 Part.self ?_
     refine RL.fin ?_
     refine RA.next ?_
     refine RA.seq 6 rfl (by kernel_rfl) ?_
     refine RL.callE (T := 48) (n := x398) (vs := [(sv y394)]) Tryz_fit26 rfl rfl rfl rfl (fun U w hU hW hL => desk_number_c U w hU y394 _ e397) ?_
     cases h376
     have hh := h262 _ h260
     subst hh
     first | exact fun a w st => And.intro st.defers (thrP_err ((st.pick [0, 1, 2, 5] (by decide) rfl).toPostMX (E := fun (_ : Unit) => .panicked (refuse 48 x398)) (LR := fun (o : Unit) => [obox 35 (TR.rec1 TR.raw) v0 u0a, obox 45 TrH u0a (x0.1, (x0.2.1, u0b)), obox 55 TrL u0b x0.2.2, keep X]) ())) | exact fun a w st _ _ => And.intro st.defers (thrP_err ((st.pick [0, 1, 2, 5] (by decide) rfl).toPostMX (E := fun (_ : Unit) => .panicked (refuse 48 x398)) (LR := fun (o : Unit) => [obox 35 (TR.rec1 TR.raw) v0 u0a, obox 45 TrH u0a (x0.1, (x0.2.1, u0b)), obox 55 TrL u0b x0.2.2, keep X]) ()))
    refine RL.ldSx (i := ((1 : Int)).toNat) (e' := y394) 3 Ex.str Tryz_ln9 rfl rfl rfl rfl SlOf.imm (idx_some e395).2.2 Part.self ?_
    refine RL.fin ?_
    refine RA.next ?_
    refine RA.many [2, 6] (by kernel_rfl) ⟨⟨_, rfl, ?_⟩, ⟨_, rfl, ?_⟩, trivial⟩
    ·skip
     refine RL.ldSx (i := ((0 : Int)).toNat) (e' := y392) 3 Ex.str Tryz_ln9 rfl rfl rfl rfl SlOf.imm (idx_some e393).2.2 Part.self ?_
     refine RL.fin ?_
     refine RA.next ?_
     refine RA.seq 6 rfl (by kernel_rfl) ?_
     refine RL.callE (T := 48) (n := x398) (vs := [(sv y394)]) Tryz_fit26 rfl rfl rfl rfl (fun U w hU hW hL => desk_number_c U w hU y394 _ e397) ?_
     cases h376
     have hh := h262 _ h260
     subst hh
     first | exact fun a w st => And.intro st.defers (thrP_err ((st.pick [0, 1, 2, 5] (by decide) rfl).toPostMX (E := fun (_ : Unit) => .panicked (refuse 48 x398)) (LR := fun (o : Unit) => [obox 35 (TR.rec1 TR.raw) v0 u0a, obox 45 TrH u0a (x0.1, (x0.2.1, u0b)), obox 55 TrL u0b x0.2.2, keep X]) ())) | exact fun a w st _ _ => And.intro st.defers (thrP_err ((st.pick [0, 1, 2, 5] (by decide) rfl).toPostMX (E := fun (_ : Unit) => .panicked (refuse 48 x398)) (LR := fun (o : Unit) => [obox 35 (TR.rec1 TR.raw) v0 u0a, obox 45 TrH u0a (x0.1, (x0.2.1, u0b)), obox 55 TrL u0b x0.2.2, keep X]) ()))
    refine RL.callE (T := 48) (n := x398) (vs := [(sv y394)]) Tryz_fit26 rfl rfl rfl rfl (fun U w hU hW hL => desk_number_c U w hU y394 _ e397) ?_
    cases h376
    have hh := h262 _ h260
    subst hh
    first | exact fun a w st => And.intro st.defers (thrP_err ((st.pick [0, 1, 2, 5] (by decide) rfl).toPostMX (E := fun (_ : Unit) => .panicked (refuse 48 x398)) (LR := fun (o : Unit) => [obox 35 (TR.rec1 TR.raw) v0 u0a, obox 45 TrH u0a (x0.1, (x0.2.1, u0b)), obox 55 TrL u0b x0.2.2, keep X]) ())) | exact fun a w st _ _ => And.intro st.defers (thrP_err ((st.pick [0, 1, 2, 5] (by decide) rfl).toPostMX (E := fun (_ : Unit) => .panicked (refuse 48 x398)) (LR := fun (o : Unit) => [obox 35 (TR.rec1 TR.raw) v0 u0a, obox 45 TrH u0a (x0.1, (x0.2.1, u0b)), obox 55 TrL u0b x0.2.2, keep X]) ()))
   replace h376 := thr_o h376
   refine RA.meet (ι := Unit) (fun (p : Unit) => [(0, v0), (8, v7), (70, (sv y392)), (74, .int .i64 z399)]) (fun (p : Unit) => [obox 35 (TR.rec1 TR.raw) v0 u0a, obox 45 TrH u0a (x0.1, (x0.2.1, u0b)), obox 55 TrL u0b x0.2.2, keep X, obox 59 TrE v7 (((0 : Int), (0 : Int), ([] : B8), (([] : B8), ([] : B8), (0 : Int), (0 : Int), (0 : Int), (0 : Int))) : TyE)]) 2 q_98 (fun h400 => ?_) ?_
   ·skip
    refine RA.meet (ι := Unit) (fun (p : Unit) => [(0, v0), (8, v7), (70, (sv y392)), (73, (sv y394))]) (fun (p : Unit) => [obox 35 (TR.rec1 TR.raw) v0 u0a, obox 45 TrH u0a (x0.1, (x0.2.1, u0b)), obox 55 TrL u0b x0.2.2, keep X, obox 59 TrE v7 (((0 : Int), (0 : Int), ([] : B8), (([] : B8), ([] : B8), (0 : Int), (0 : Int), (0 : Int), (0 : Int))) : TyE)]) 3 q_99 (fun h401 => ?_) ?_
    rotate_left
    ·rintro ⟨⟩
     refine RA.weak (env' := [(0, v0), (8, v7), (70, (sv y392)), (73, (sv y394))]) (L' := [obox 35 (TR.rec1 TR.raw) v0 u0a, obox 45 TrH u0a (x0.1, (x0.2.1, u0b)), obox 55 TrL u0b x0.2.2, keep X, obox 59 TrE v7 (((0 : Int), (0 : Int), ([] : B8), (([] : B8), ([] : B8), (0 : Int), (0 : Int), (0 : Int), (0 : Int))) : TyE)]) (fun _ _ st => st) ?_
     refine RA.seq 6 rfl (by kernel_rfl) ?_
     refine RL.callV (v := .int .i64 z399) (vs := [(sv y394)]) Tryz_fit26 rfl (Or.inl rfl) rfl rfl rfl rfl (fun U w hU hW hL => desk_number_c U w hU y394 _ e397) ?_
     refine RL.fin ?_
     refine RA.next ?_
     refine RA.relist 2 q_98 rfl (by kernel_rfl) ?_
     exact fun a w st => h400 () a w (St.cut [0, 1, 2, 3, 4] ⟨rfl, rfl, rfl, rfl, trivial⟩ (by decide) rfl st)
    refine RA.meet (ι := Unit) (fun (p : Unit) => [(0, v0), (8, v7), (69, adr v2 (((0 : Int)).toNat * 1)), (74, .int .i64 z399)]) (fun (p : Unit) => [obox 35 (TR.rec1 TR.raw) v0 u0a, obox 45 TrH u0a (x0.1, (x0.2.1, u0b)), obox 55 TrL u0b x0.2.2, keep X, obox 59 TrE v7 (((0 : Int), (0 : Int), ([] : B8), (([] : B8), ([] : B8), (0 : Int), (0 : Int), (0 : Int), (0 : Int))) : TyE), imm (TR.sl TR.str) v2 x2]) 3 q_100 (fun h402 => ?_) ?_
    rotate_left
    ·rintro ⟨⟩
     refine RA.weak (env' := [(0, v0), (8, v7), (69, adr v2 (((0 : Int)).toNat * 1)), (74, .int .i64 z399)]) (L' := [obox 35 (TR.rec1 TR.raw) v0 u0a, obox 45 TrH u0a (x0.1, (x0.2.1, u0b)), obox 55 TrL u0b x0.2.2, keep X, obox 59 TrE v7 (((0 : Int), (0 : Int), ([] : B8), (([] : B8), ([] : B8), (0 : Int), (0 : Int), (0 : Int), (0 : Int))) : TyE), imm (TR.sl TR.str) v2 x2]) (fun _ _ st => st) ?_
     refine RA.seq 2 rfl (by kernel_rfl) ?_
     refine RL.ldSx (i := ((0 : Int)).toNat) (e' := y392) 5 Ex.str Tryz_ln9 rfl rfl rfl rfl SlOf.imm (idx_some e393).2.2 Part.self ?_
     refine RL.fin ?_
     refine RA.next ?_
     refine RA.relist 2 q_98 rfl (by kernel_rfl) ?_
     exact fun a w st => h400 () a w (St.cut [0, 1, 2, 3, 4] ⟨rfl, rfl, rfl, rfl, trivial⟩ (by decide) rfl st)
    refine RA.meet (ι := Unit) (fun (p : Unit) => [(0, v0), (8, v7), (70, (sv y392)), (72, adr v2 (((1 : Int)).toNat * 1))]) (fun (p : Unit) => [obox 35 (TR.rec1 TR.raw) v0 u0a, obox 45 TrH u0a (x0.1, (x0.2.1, u0b)), obox 55 TrL u0b x0.2.2, keep X, obox 59 TrE v7 (((0 : Int), (0 : Int), ([] : B8), (([] : B8), ([] : B8), (0 : Int), (0 : Int), (0 : Int), (0 : Int))) : TyE), imm (TR.sl TR.str) v2 x2]) 4 q_101 (fun h403 => ?_) ?_
    rotate_left
    ·rintro ⟨⟩
     refine RA.weak (env' := [(0, v0), (8, v7), (70, (sv y392)), (72, adr v2 (((1 : Int)).toNat * 1))]) (L' := [obox 35 (TR.rec1 TR.raw) v0 u0a, obox 45 TrH u0a (x0.1, (x0.2.1, u0b)), obox 55 TrL u0b x0.2.2, keep X, obox 59 TrE v7 (((0 : Int), (0 : Int), ([] : B8), (([] : B8), ([] : B8), (0 : Int), (0 : Int), (0 : Int), (0 : Int))) : TyE), imm (TR.sl TR.str) v2 x2]) (fun _ _ st => st) ?_
     refine RA.seq 5 rfl (by kernel_rfl) ?_
     refine RL.ldSx (i := ((1 : Int)).toNat) (e' := y394) 5 Ex.str Tryz_ln9 rfl rfl rfl rfl SlOf.imm (idx_some e395).2.2 Part.self ?_
     refine RL.fin ?_
     refine RA.next ?_
     refine RA.relist 3 q_99 rfl (by kernel_rfl) ?_
     exact fun a w st => h401 () a w (St.cut [0, 1, 2, 3, 4] ⟨rfl, rfl, rfl, rfl, trivial⟩ (by decide) rfl st)
    refine RA.meet (ι := Unit) (fun (p : Unit) => [(0, v0), (8, v7), (69, adr v2 (((0 : Int)).toNat * 1)), (73, (sv y394))]) (fun (p : Unit) => [obox 35 (TR.rec1 TR.raw) v0 u0a, obox 45 TrH u0a (x0.1, (x0.2.1, u0b)), obox 55 TrL u0b x0.2.2, keep X, obox 59 TrE v7 (((0 : Int), (0 : Int), ([] : B8), (([] : B8), ([] : B8), (0 : Int), (0 : Int), (0 : Int), (0 : Int))) : TyE), imm (TR.sl TR.str) v2 x2]) 4 q_102 (fun h404 => ?_) ?_
    rotate_left
    ·rintro ⟨⟩
     refine RA.weak (env' := [(0, v0), (8, v7), (69, adr v2 (((0 : Int)).toNat * 1)), (73, (sv y394))]) (L' := [obox 35 (TR.rec1 TR.raw) v0 u0a, obox 45 TrH u0a (x0.1, (x0.2.1, u0b)), obox 55 TrL u0b x0.2.2, keep X, obox 59 TrE v7 (((0 : Int), (0 : Int), ([] : B8), (([] : B8), ([] : B8), (0 : Int), (0 : Int), (0 : Int), (0 : Int))) : TyE), imm (TR.sl TR.str) v2 x2]) (fun _ _ st => st) ?_
     refine RA.many [2, 6] (by kernel_rfl) ⟨⟨_, rfl, ?_⟩, ⟨_, rfl, ?_⟩, trivial⟩
     ·skip
      refine RL.ldSx (i := ((0 : Int)).toNat) (e' := y392) 5 Ex.str Tryz_ln9 rfl rfl rfl rfl SlOf.imm (idx_some e393).2.2 Part.self ?_
      refine RL.fin ?_
      refine RA.next ?_
      refine RA.relist 3 q_99 rfl (by kernel_rfl) ?_
      exact fun a w st => h401 () a w (St.cut [0, 1, 2, 3, 4] ⟨rfl, rfl, rfl, rfl, trivial⟩ (by decide) rfl st)
     refine RL.callV (v := .int .i64 z399) (vs := [(sv y394)]) Tryz_fit26 rfl (Or.inl rfl) rfl rfl rfl rfl (fun U w hU hW hL => desk_number_c U w hU y394 _ e397) ?_
     refine RL.fin ?_
     refine RA.next ?_
     refine RA.relist 3 q_100 rfl (by kernel_rfl) ?_
     exact fun a w st => h402 () a w (St.cut [0, 1, 2, 3, 4, 5] ⟨rfl, rfl, rfl, rfl, trivial⟩ (by decide) rfl st)
    refine RA.many [2, 5] (by kernel_rfl) ⟨⟨_, rfl, ?_⟩, ⟨_, rfl, ?_⟩, trivial⟩
    ·skip
     refine RL.ldSx (i := ((0 : Int)).toNat) (e' := y392) 3 Ex.str Tryz_ln9 rfl rfl rfl rfl SlOf.imm (idx_some e393).2.2 Part.self ?_
     refine RL.fin ?_
     refine RA.next ?_
     refine RA.relist 4 q_101 rfl (by kernel_rfl) ?_
     exact fun a w st => h403 () a w (St.cut [0, 1, 2, 5, 4, 3] ⟨rfl, rfl, rfl, rfl, trivial⟩ (by decide) rfl st)
    refine RL.ldSx (i := ((1 : Int)).toNat) (e' := y394) 3 Ex.str Tryz_ln9 rfl rfl rfl rfl SlOf.imm (idx_some e395).2.2 Part.self ?_
    refine RL.fin ?_
    refine RA.next ?_
    refine RA.relist 4 q_102 rfl (by kernel_rfl) ?_
    exact fun a w st => h404 () a w (St.cut [0, 1, 2, 5, 4, 3] ⟨rfl, rfl, rfl, rfl, trivial⟩ (by decide) rfl st)
   rintro ⟨⟩
   refine RA.weak (env' := [(0, v0), (8, v7), (70, (sv y392)), (74, .int .i64 z399)]) (L' := [obox 35 (TR.rec1 TR.raw) v0 u0a, obox 45 TrH u0a (x0.1, (x0.2.1, u0b)), obox 55 TrL u0b x0.2.2, keep X, obox 59 TrE v7 (((0 : Int), (0 : Int), ([] : B8), (([] : B8), ([] : B8), (0 : Int), (0 : Int), (0 : Int), (0 : Int))) : TyE)]) (fun _ _ st => st) ?_
   refine RA.seq 7 rfl (by kernel_rfl) ?_
   refine RL.bld (t := TrE) (d0 := (((3 : Int), z399, y392, (([] : B8), ([] : B8), (0 : Int), (0 : Int), (0 : Int), (0 : Int))) : TyE)) (pv := [(0, .int .i64 (3 : Int)), (2, (sv y392)), (1, .int .i64 z399)]) rfl Tryz_bld59 rfl rfl rfl ⟨⟨_, _, TR.int, (3 : Int), rfl, rfl, VR.int⟩, ⟨⟨_, _, TR.str, y392, rfl, rfl, VR.str⟩, ⟨⟨_, _, TR.int, z399, rfl, rfl, VR.int⟩, trivial⟩⟩⟩ (fun S f hi => by
     obtain ⟨c0, e0, r0⟩ := cells_vrep (t := TR.int) (u := .int .i64 (3 : Int)) (e := (3 : Int)) (VR.int S f hi)
     obtain ⟨c1, e1, r1⟩ := cells_vrep (t := TR.int) (u := .int .i64 z399) (e := z399) (VR.int S f hi)
     obtain ⟨c2, e2, r2⟩ := cells_vrep (t := TR.str) (u := (sv y392)) (e := y392) (VR.str S f hi)
     show TR.rep TrE S (List.flatten [(.int .i64 (3 : Int) : Value).cells.toList, (.int .i64 z399 : Value).cells.toList, ((sv y392) : Value).cells.toList, [.string ⟨#[]⟩, .string ⟨#[]⟩, .int .i64 0, .int .i64 0, .int .i64 0, .int .i64 0]]) _
     simp only [e0, e1, e2,  List.flatten_cons, List.flatten_nil, List.append_nil]
     exact ⟨_, _, rfl, r0, ⟨_, _, rfl, r1, ⟨_, _, rfl, r2, ⟨[.string ⟨#[]⟩], _, rfl, rfl, ⟨[.string ⟨#[]⟩], _, rfl, rfl, ⟨[.int .i64 0], _, rfl, rfl, ⟨[.int .i64 0], _, rfl, rfl, ⟨[.int .i64 0], _, rfl, rfl, rfl⟩⟩⟩⟩⟩⟩⟩⟩) ?_
   intro v405
   refine RL.fin ?_
   refine RA.next ?_
   refine RA.seq 8 rfl (by kernel_rfl) ?_
   refine RL.stP (off := 0) (e' := (((3 : Int), z399, y392, (([] : B8), ([] : B8), (0 : Int), (0 : Int), (0 : Int), (0 : Int))) : TyE)) (d1 := (((3 : Int), z399, y392, (([] : B8), ([] : B8), (0 : Int), (0 : Int), (0 : Int), (0 : Int))) : TyE)) (r := TrE) 4 Tryz_ln59 rfl rfl (Or.inr ⟨rfl, rfl⟩) rfl (VR.item 5 rfl) rfl Upd.self ?_
   refine RL.fin ?_
   refine RA.next ?_
   refine RA.doneG (by kernel_rfl) ?_
   refine GL.weak (env' := [(0, v0), (8, v7)]) (L' := [obox 35 (TR.rec1 TR.raw) v0 u0a, obox 45 TrH u0a (x0.1, (x0.2.1, u0b)), obox 55 TrL u0b x0.2.2, keep X, obox 59 TrE v7 (((3 : Int), z399, y392, (([] : B8), ([] : B8), (0 : Int), (0 : Int), (0 : Int), (0 : Int))) : TyE)]) (fun a w st => St.cut [0, 1, 2, 3, 4] ⟨rfl, rfl, trivial⟩ (by decide) rfl st) ?_
   cases h376
   exact fun a w st => mid_intro (((3 : Int), z399, y392, (([] : B8), ([] : B8), (0 : Int), (0 : Int), (0 : Int), (0 : Int))) : TyE) h260 (St.cut [0, 1, 2, 4, 3] ⟨rfl, rfl, trivial⟩ (by decide) rfl st)
  replace h376 := ite_f b377 h376
  refine GL.seq ?_
  obtain ⟨y409, K410, h411, h412, h413, h414, h415⟩ := bindF_K h376
  refine GL.join (ι := Bool) (fun (p : Bool) => [(0, v0), (1, (sv x1)), (2, v2), (8, v7), (76, .bool p)]) (fun (p : Bool) => [obox 35 (TR.rec1 TR.raw) v0 u0a, obox 45 TrH u0a (x0.1, (x0.2.1, u0b)), obox 55 TrL u0b x0.2.2, imm (TR.sl TR.str) v2 x2, obox 59 TrE v7 (((0 : Int), (0 : Int), ([] : B8), (([] : B8), ([] : B8), (0 : Int), (0 : Int), (0 : Int), (0 : Int))) : TyE), keep X]) (fun (p : Bool) => K410 (.nx p)) ?_ ?_
  ·skip
   refine GL.region ?_
   refine RL.mv rfl rfl rfl ?_
   refine RL.binS (v := .bool (x1 == ([100, 114, 111, 112] : B8))) rfl rfl rfl rfl rfl ?_
   refine RL.mv rfl rfl rfl ?_
   refine RL.split (t := 79) rfl (fun b416 => ?_) (fun b416 => ?_)
   ·replace h411 := ite_t b416 h411
    refine RL.mv rfl rfl rfl ?_
    refine RL.lenS 3 Tryz.underlying22 rfl rfl rfl rfl SlOf.imm ?_
    refine RL.binI (v := .bool (((x2).length : Int) == (2 : Int))) rfl rfl rfl rfl rfl ?_
    refine RL.pickT rfl rfl rfl rfl ?_
    refine RL.asg rfl rfl rfl ?_
    refine RL.fin ?_
    cases h411
    exact fun a w st => mid_intro (((x2).length : Int) == (2 : Int)) h412 (St.cut [0, 1, 2, 3, 4, 5] ⟨rfl, rfl, rfl, rfl, rfl, trivial⟩ (by decide) rfl st)
   replace h411 := ite_f b416 h411
   refine RL.skip rfl rfl ?_
   refine RL.skip rfl rfl ?_
   refine RL.skip rfl rfl ?_
   refine RL.pickF rfl rfl rfl rfl ?_
   refine RL.asg rfl rfl rfl ?_
   refine RL.fin ?_
   cases h411
   exact fun a w st => mid_intro false h412 (St.cut [0, 1, 2, 3, 4, 5] ⟨rfl, rfl, rfl, rfl, rfl, trivial⟩ (by decide) rfl st)
  rintro x408 h417
  have h418 := h413 _ h417
  try dsimp only at h418
  refine GL.weak (env' := [(0, v0), (1, (sv x1)), (2, v2), (8, v7), (76, .bool x408)]) (L' := [obox 35 (TR.rec1 TR.raw) v0 u0a, obox 45 TrH u0a (x0.1, (x0.2.1, u0b)), obox 55 TrL u0b x0.2.2, imm (TR.sl TR.str) v2 x2, obox 59 TrE v7 (((0 : Int), (0 : Int), ([] : B8), (([] : B8), ([] : B8), (0 : Int), (0 : Int), (0 : Int), (0 : Int))) : TyE), keep X]) (fun _ _ st => st) ?_
  refine GL.cond rfl (fun b419 => ?_) (fun b419 => ?_)
  ·replace h418 := ite_t b419 h418
   refine GL.regionA rfl rfl ?_
   refine RA.mv 0 rfl (by kernel_rfl) rfl rfl rfl ?_
   obtain ⟨y434, e435, h418⟩ := bind_some h418
   refine RA.idxS (sz := 1) 3 Tryz.underlying22 Tryz_ln9 1 rfl (by kernel_rfl) rfl rfl rfl rfl rfl SlOf.imm (idx_some e435).1 (idx_some e435).2.1 ?_
   refine RA.mv 3 rfl (by kernel_rfl) rfl rfl rfl ?_
   obtain ⟨y436, e437, h418⟩ := bind_some h418
   refine RA.idxS (sz := 1) 3 Tryz.underlying22 Tryz_ln9 4 rfl (by kernel_rfl) rfl rfl rfl rfl rfl SlOf.imm (idx_some e437).1 (idx_some e437).2.1 ?_
   obtain ⟨y438, e439, h418⟩ := bind_some h418
   rcases y438 with x440 | z441
   ·replace h418 := thr_e h418
    refine RA.many [2, 5] (by kernel_rfl) ⟨⟨_, rfl, ?_⟩, ⟨_, rfl, ?_⟩, trivial⟩
    ·skip
     refine RL.ldSx (i := ((0 : Int)).toNat) (e' := y434) 3 Ex.str Tryz_ln9 rfl rfl rfl rfl SlOf.imm (idx_some e435).2.2 Part.self ?_
     refine RL.fin ?_
     refine RA.next ?_
     refine RA.seq 5 rfl (by kernel_rfl) ?_
     refine RL.ldSx (i := ((1 : Int)).toNat) (e' := y436) 3 Ex.str Tryz_ln9 rfl rfl rfl rfl SlOf.imm (idx_some e437).2.2 Part.self ?_
     refine RL.fin ?_
     refine RA.next ?_
     refine RA.seq 6 rfl (by kernel_rfl) ?_
     refine RL.callE (T := 48) (n := x440) (vs := [(sv y436)]) Tryz_fit26 rfl rfl rfl rfl (fun U w hU hW hL => desk_number_c U w hU y436 _ e439) ?_
     cases h418
     have hh := h262 _ h260
     subst hh
     first | exact fun a w st => And.intro st.defers (thrP_err ((st.pick [0, 1, 2, 5] (by decide) rfl).toPostMX (E := fun (_ : Unit) => .panicked (refuse 48 x440)) (LR := fun (o : Unit) => [obox 35 (TR.rec1 TR.raw) v0 u0a, obox 45 TrH u0a (x0.1, (x0.2.1, u0b)), obox 55 TrL u0b x0.2.2, keep X]) ())) | exact fun a w st _ _ => And.intro st.defers (thrP_err ((st.pick [0, 1, 2, 5] (by decide) rfl).toPostMX (E := fun (_ : Unit) => .panicked (refuse 48 x440)) (LR := fun (o : Unit) => [obox 35 (TR.rec1 TR.raw) v0 u0a, obox 45 TrH u0a (x0.1, (x0.2.1, u0b)), obox 55 TrL u0b x0.2.2, keep X]) ()))
    refine RL.ldSx (i := ((1 : Int)).toNat) (e' := y436) 3 Ex.str Tryz_ln9 rfl rfl rfl rfl SlOf.imm (idx_some e437).2.2 Part.self ?_
    refine RL.fin ?_
    refine RA.next ?_
    refine RA.many [2, 6] (by kernel_rfl) ⟨⟨_, rfl, ?_⟩, ⟨_, rfl, ?_⟩, trivial⟩
    ·skip
     refine RL.ldSx (i := ((0 : Int)).toNat) (e' := y434) 3 Ex.str Tryz_ln9 rfl rfl rfl rfl SlOf.imm (idx_some e435).2.2 Part.self ?_
     refine RL.fin ?_
     refine RA.next ?_
     refine RA.seq 6 rfl (by kernel_rfl) ?_
     refine RL.callE (T := 48) (n := x440) (vs := [(sv y436)]) Tryz_fit26 rfl rfl rfl rfl (fun U w hU hW hL => desk_number_c U w hU y436 _ e439) ?_
     cases h418
     have hh := h262 _ h260
     subst hh
     first | exact fun a w st => And.intro st.defers (thrP_err ((st.pick [0, 1, 2, 5] (by decide) rfl).toPostMX (E := fun (_ : Unit) => .panicked (refuse 48 x440)) (LR := fun (o : Unit) => [obox 35 (TR.rec1 TR.raw) v0 u0a, obox 45 TrH u0a (x0.1, (x0.2.1, u0b)), obox 55 TrL u0b x0.2.2, keep X]) ())) | exact fun a w st _ _ => And.intro st.defers (thrP_err ((st.pick [0, 1, 2, 5] (by decide) rfl).toPostMX (E := fun (_ : Unit) => .panicked (refuse 48 x440)) (LR := fun (o : Unit) => [obox 35 (TR.rec1 TR.raw) v0 u0a, obox 45 TrH u0a (x0.1, (x0.2.1, u0b)), obox 55 TrL u0b x0.2.2, keep X]) ()))
    refine RL.callE (T := 48) (n := x440) (vs := [(sv y436)]) Tryz_fit26 rfl rfl rfl rfl (fun U w hU hW hL => desk_number_c U w hU y436 _ e439) ?_
    cases h418
    have hh := h262 _ h260
    subst hh
    first | exact fun a w st => And.intro st.defers (thrP_err ((st.pick [0, 1, 2, 5] (by decide) rfl).toPostMX (E := fun (_ : Unit) => .panicked (refuse 48 x440)) (LR := fun (o : Unit) => [obox 35 (TR.rec1 TR.raw) v0 u0a, obox 45 TrH u0a (x0.1, (x0.2.1, u0b)), obox 55 TrL u0b x0.2.2, keep X]) ())) | exact fun a w st _ _ => And.intro st.defers (thrP_err ((st.pick [0, 1, 2, 5] (by decide) rfl).toPostMX (E := fun (_ : Unit) => .panicked (refuse 48 x440)) (LR := fun (o : Unit) => [obox 35 (TR.rec1 TR.raw) v0 u0a, obox 45 TrH u0a (x0.1, (x0.2.1, u0b)), obox 55 TrL u0b x0.2.2, keep X]) ()))
   replace h418 := thr_o h418
   refine RA.meet (ι := Unit) (fun (p : Unit) => [(0, v0), (8, v7), (86, (sv y434)), (90, .int .i64 z441)]) (fun (p : Unit) => [obox 35 (TR.rec1 TR.raw) v0 u0a, obox 45 TrH u0a (x0.1, (x0.2.1, u0b)), obox 55 TrL u0b x0.2.2, keep X, obox 59 TrE v7 (((0 : Int), (0 : Int), ([] : B8), (([] : B8), ([] : B8), (0 : Int), (0 : Int), (0 : Int), (0 : Int))) : TyE)]) 2 q_98 (fun h442 => ?_) ?_
   ·skip
    refine RA.meet (ι := Unit) (fun (p : Unit) => [(0, v0), (8, v7), (86, (sv y434)), (89, (sv y436))]) (fun (p : Unit) => [obox 35 (TR.rec1 TR.raw) v0 u0a, obox 45 TrH u0a (x0.1, (x0.2.1, u0b)), obox 55 TrL u0b x0.2.2, keep X, obox 59 TrE v7 (((0 : Int), (0 : Int), ([] : B8), (([] : B8), ([] : B8), (0 : Int), (0 : Int), (0 : Int), (0 : Int))) : TyE)]) 3 q_99 (fun h443 => ?_) ?_
    rotate_left
    ·rintro ⟨⟩
     refine RA.weak (env' := [(0, v0), (8, v7), (86, (sv y434)), (89, (sv y436))]) (L' := [obox 35 (TR.rec1 TR.raw) v0 u0a, obox 45 TrH u0a (x0.1, (x0.2.1, u0b)), obox 55 TrL u0b x0.2.2, keep X, obox 59 TrE v7 (((0 : Int), (0 : Int), ([] : B8), (([] : B8), ([] : B8), (0 : Int), (0 : Int), (0 : Int), (0 : Int))) : TyE)]) (fun _ _ st => st) ?_
     refine RA.seq 6 rfl (by kernel_rfl) ?_
     refine RL.callV (v := .int .i64 z441) (vs := [(sv y436)]) Tryz_fit26 rfl (Or.inl rfl) rfl rfl rfl rfl (fun U w hU hW hL => desk_number_c U w hU y436 _ e439) ?_
     refine RL.fin ?_
     refine RA.next ?_
     refine RA.relist 2 q_98 rfl (by kernel_rfl) ?_
     exact fun a w st => h442 () a w (St.cut [0, 1, 2, 3, 4] ⟨rfl, rfl, rfl, rfl, trivial⟩ (by decide) rfl st)
    refine RA.meet (ι := Unit) (fun (p : Unit) => [(0, v0), (8, v7), (85, adr v2 (((0 : Int)).toNat * 1)), (90, .int .i64 z441)]) (fun (p : Unit) => [obox 35 (TR.rec1 TR.raw) v0 u0a, obox 45 TrH u0a (x0.1, (x0.2.1, u0b)), obox 55 TrL u0b x0.2.2, keep X, obox 59 TrE v7 (((0 : Int), (0 : Int), ([] : B8), (([] : B8), ([] : B8), (0 : Int), (0 : Int), (0 : Int), (0 : Int))) : TyE), imm (TR.sl TR.str) v2 x2]) 3 q_100 (fun h444 => ?_) ?_
    rotate_left
    ·rintro ⟨⟩
     refine RA.weak (env' := [(0, v0), (8, v7), (85, adr v2 (((0 : Int)).toNat * 1)), (90, .int .i64 z441)]) (L' := [obox 35 (TR.rec1 TR.raw) v0 u0a, obox 45 TrH u0a (x0.1, (x0.2.1, u0b)), obox 55 TrL u0b x0.2.2, keep X, obox 59 TrE v7 (((0 : Int), (0 : Int), ([] : B8), (([] : B8), ([] : B8), (0 : Int), (0 : Int), (0 : Int), (0 : Int))) : TyE), imm (TR.sl TR.str) v2 x2]) (fun _ _ st => st) ?_
     refine RA.seq 2 rfl (by kernel_rfl) ?_
     refine RL.ldSx (i := ((0 : Int)).toNat) (e' := y434) 5 Ex.str Tryz_ln9 rfl rfl rfl rfl SlOf.imm (idx_some e435).2.2 Part.self ?_
     refine RL.fin ?_
     refine RA.next ?_
     refine RA.relist 2 q_98 rfl (by kernel_rfl) ?_
     exact fun a w st => h442 () a w (St.cut [0, 1, 2, 3, 4] ⟨rfl, rfl, rfl, rfl, trivial⟩ (by decide) rfl st)
    refine RA.meet (ι := Unit) (fun (p : Unit) => [(0, v0), (8, v7), (86, (sv y434)), (88, adr v2 (((1 : Int)).toNat * 1))]) (fun (p : Unit) => [obox 35 (TR.rec1 TR.raw) v0 u0a, obox 45 TrH u0a (x0.1, (x0.2.1, u0b)), obox 55 TrL u0b x0.2.2, keep X, obox 59 TrE v7 (((0 : Int), (0 : Int), ([] : B8), (([] : B8), ([] : B8), (0 : Int), (0 : Int), (0 : Int), (0 : Int))) : TyE), imm (TR.sl TR.str) v2 x2]) 4 q_101 (fun h445 => ?_) ?_
    rotate_left
    ·rintro ⟨⟩
     refine RA.weak (env' := [(0, v0), (8, v7), (86, (sv y434)), (88, adr v2 (((1 : Int)).toNat * 1))]) (L' := [obox 35 (TR.rec1 TR.raw) v0 u0a, obox 45 TrH u0a (x0.1, (x0.2.1, u0b)), obox 55 TrL u0b x0.2.2, keep X, obox 59 TrE v7 (((0 : Int), (0 : Int), ([] : B8), (([] : B8), ([] : B8), (0 : Int), (0 : Int), (0 : Int), (0 : Int))) : TyE), imm (TR.sl TR.str) v2 x2]) (fun _ _ st => st) ?_
     refine RA.seq 5 rfl (by kernel_rfl) ?_
     refine RL.ldSx (i := ((1 : Int)).toNat) (e' := y436) 5 Ex.str Tryz_ln9 rfl rfl rfl rfl SlOf.imm (idx_some e437).2.2 Part.self ?_
     refine RL.fin ?_
     refine RA.next ?_
     refine RA.relist 3 q_99 rfl (by kernel_rfl) ?_
     exact fun a w st => h443 () a w (St.cut [0, 1, 2, 3, 4] ⟨rfl, rfl, rfl, rfl, trivial⟩ (by decide) rfl st)
    refine RA.meet (ι := Unit) (fun (p : Unit) => [(0, v0), (8, v7), (85, adr v2 (((0 : Int)).toNat * 1)), (89, (sv y436))]) (fun (p : Unit) => [obox 35 (TR.rec1 TR.raw) v0 u0a, obox 45 TrH u0a (x0.1, (x0.2.1, u0b)), obox 55 TrL u0b x0.2.2, keep X, obox 59 TrE v7 (((0 : Int), (0 : Int), ([] : B8), (([] : B8), ([] : B8), (0 : Int), (0 : Int), (0 : Int), (0 : Int))) : TyE), imm (TR.sl TR.str) v2 x2]) 4 q_102 (fun h446 => ?_) ?_
    rotate_left
    ·rintro ⟨⟩
     refine RA.weak (env' := [(0, v0), (8, v7), (85, adr v2 (((0 : Int)).toNat * 1)), (89, (sv y436))]) (L' := [obox 35 (TR.rec1 TR.raw) v0 u0a, obox 45 TrH u0a (x0.1, (x0.2.1, u0b)), obox 55 TrL u0b x0.2.2, keep X, obox 59 TrE v7 (((0 : Int), (0 : Int), ([] : B8), (([] : B8), ([] : B8), (0 : Int), (0 : Int), (0 : Int), (0 : Int))) : TyE), imm (TR.sl TR.str) v2 x2]) (fun _ _ st => st) ?_
     refine RA.many [2, 6] (by kernel_rfl) ⟨⟨_, rfl, ?_⟩, ⟨_, rfl, ?_⟩, trivial⟩
     ·skip
      refine RL.ldSx (i := ((0 : Int)).toNat) (e' := y434) 5 Ex.str Tryz_ln9 rfl rfl rfl rfl SlOf.imm (idx_some e435).2.2 Part.self ?_
      refine RL.fin ?_
      refine RA.next ?_
      refine RA.relist 3 q_99 rfl (by kernel_rfl) ?_
      exact fun a w st => h443 () a w (St.cut [0, 1, 2, 3, 4] ⟨rfl, rfl, rfl, rfl, trivial⟩ (by decide) rfl st)
     refine RL.callV (v := .int .i64 z441) (vs := [(sv y436)]) Tryz_fit26 rfl (Or.inl rfl) rfl rfl rfl rfl (fun U w hU hW hL => desk_number_c U w hU y436 _ e439) ?_
     refine RL.fin ?_
     refine RA.next ?_
     refine RA.relist 3 q_100 rfl (by kernel_rfl) ?_
     exact fun a w st => h444 () a w (St.cut [0, 1, 2, 3, 4, 5] ⟨rfl, rfl, rfl, rfl, trivial⟩ (by decide) rfl st)
    refine RA.many [2, 5] (by kernel_rfl) ⟨⟨_, rfl, ?_⟩, ⟨_, rfl, ?_⟩, trivial⟩
    ·skip
     refine RL.ldSx (i := ((0 : Int)).toNat) (e' := y434) 3 Ex.str Tryz_ln9 rfl rfl rfl rfl SlOf.imm (idx_some e435).2.2 Part.self ?_
     refine RL.fin ?_
     refine RA.next ?_
     refine RA.relist 4 q_101 rfl (by kernel_rfl) ?_
     exact fun a w st => h445 () a w (St.cut [0, 1, 2, 5, 4, 3] ⟨rfl, rfl, rfl, rfl, trivial⟩ (by decide) rfl st)
    refine RL.ldSx (i := ((1 : Int)).toNat) (e' := y436) 3 Ex.str Tryz_ln9 rfl rfl rfl rfl SlOf.imm (idx_some e437).2.2 Part.self ?_
    refine RL.fin ?_
    refine RA.next ?_
    refine RA.relist 4 q_102 rfl (by kernel_rfl) ?_
    exact fun a w st => h446 () a w (St.cut [0, 1, 2, 5, 4, 3] ⟨rfl, rfl, rfl, rfl, trivial⟩ (by decide) rfl st)
   rintro ⟨⟩
   refine RA.weak (env' := [(0, v0), (8, v7), (86, (sv y434)), (90, .int .i64 z441)]) (L' := [obox 35 (TR.rec1 TR.raw) v0 u0a, obox 45 TrH u0a (x0.1, (x0.2.1, u0b)), obox 55 TrL u0b x0.2.2, keep X, obox 59 TrE v7 (((0 : Int), (0 : Int), ([] : B8), (([] : B8), ([] : B8), (0 : Int), (0 : Int), (0 : Int), (0 : Int))) : TyE)]) (fun _ _ st => st) ?_
   refine RA.seq 7 rfl (by kernel_rfl) ?_
   refine RL.bld (t := TrE) (d0 := (((7 : Int), z441, y434, (([] : B8), ([] : B8), (0 : Int), (0 : Int), (0 : Int), (0 : Int))) : TyE)) (pv := [(0, .int .i64 (7 : Int)), (2, (sv y434)), (1, .int .i64 z441)]) rfl Tryz_bld59 rfl rfl rfl ⟨⟨_, _, TR.int, (7 : Int), rfl, rfl, VR.int⟩, ⟨⟨_, _, TR.str, y434, rfl, rfl, VR.str⟩, ⟨⟨_, _, TR.int, z441, rfl, rfl, VR.int⟩, trivial⟩⟩⟩ (fun S f hi => by
     obtain ⟨c0, e0, r0⟩ := cells_vrep (t := TR.int) (u := .int .i64 (7 : Int)) (e := (7 : Int)) (VR.int S f hi)
     obtain ⟨c1, e1, r1⟩ := cells_vrep (t := TR.int) (u := .int .i64 z441) (e := z441) (VR.int S f hi)
     obtain ⟨c2, e2, r2⟩ := cells_vrep (t := TR.str) (u := (sv y434)) (e := y434) (VR.str S f hi)
     show TR.rep TrE S (List.flatten [(.int .i64 (7 : Int) : Value).cells.toList, (.int .i64 z441 : Value).cells.toList, ((sv y434) : Value).cells.toList, [.string ⟨#[]⟩, .string ⟨#[]⟩, .int .i64 0, .int .i64 0, .int .i64 0, .int .i64 0]]) _
     simp only [e0, e1, e2,  List.flatten_cons, List.flatten_nil, List.append_nil]
     exact ⟨_, _, rfl, r0, ⟨_, _, rfl, r1, ⟨_, _, rfl, r2, ⟨[.string ⟨#[]⟩], _, rfl, rfl, ⟨[.string ⟨#[]⟩], _, rfl, rfl, ⟨[.int .i64 0], _, rfl, rfl, ⟨[.int .i64 0], _, rfl, rfl, ⟨[.int .i64 0], _, rfl, rfl, rfl⟩⟩⟩⟩⟩⟩⟩⟩) ?_
   intro v447
   refine RL.fin ?_
   refine RA.next ?_
   refine RA.seq 8 rfl (by kernel_rfl) ?_
   refine RL.stP (off := 0) (e' := (((7 : Int), z441, y434, (([] : B8), ([] : B8), (0 : Int), (0 : Int), (0 : Int), (0 : Int))) : TyE)) (d1 := (((7 : Int), z441, y434, (([] : B8), ([] : B8), (0 : Int), (0 : Int), (0 : Int), (0 : Int))) : TyE)) (r := TrE) 4 Tryz_ln59 rfl rfl (Or.inr ⟨rfl, rfl⟩) rfl (VR.item 5 rfl) rfl Upd.self ?_
   refine RL.fin ?_
   refine RA.next ?_
   refine RA.doneG (by kernel_rfl) ?_
   refine GL.weak (env' := [(0, v0), (8, v7)]) (L' := [obox 35 (TR.rec1 TR.raw) v0 u0a, obox 45 TrH u0a (x0.1, (x0.2.1, u0b)), obox 55 TrL u0b x0.2.2, keep X, obox 59 TrE v7 (((7 : Int), z441, y434, (([] : B8), ([] : B8), (0 : Int), (0 : Int), (0 : Int), (0 : Int))) : TyE)]) (fun a w st => St.cut [0, 1, 2, 3, 4] ⟨rfl, rfl, trivial⟩ (by decide) rfl st) ?_
   cases h418
   exact fun a w st => mid_intro (((7 : Int), z441, y434, (([] : B8), ([] : B8), (0 : Int), (0 : Int), (0 : Int), (0 : Int))) : TyE) h260 (St.cut [0, 1, 2, 4, 3] ⟨rfl, rfl, trivial⟩ (by decide) rfl st)
  replace h418 := ite_f b419 h418
  refine GL.seq ?_
  obtain ⟨y451, K452, h453, h454, h455, h456, h457⟩ := bindF_K h418
  refine GL.join (ι := Bool) (fun (p : Bool) => [(0, v0), (1, (sv x1)), (2, v2), (8, v7), (92, .bool p)]) (fun (p : Bool) => [obox 35 (TR.rec1 TR.raw) v0 u0a, obox 45 TrH u0a (x0.1, (x0.2.1, u0b)), obox 55 TrL u0b x0.2.2, imm (TR.sl TR.str) v2 x2, obox 59 TrE v7 (((0 : Int), (0 : Int), ([] : B8), (([] : B8), ([] : B8), (0 : Int), (0 : Int), (0 : Int), (0 : Int))) : TyE), keep X]) (fun (p : Bool) => K452 (.nx p)) ?_ ?_
  ·skip
   refine GL.region ?_
   refine RL.mv rfl rfl rfl ?_
   refine RL.binS (v := .bool (x1 == ([109, 111, 110, 101, 121] : B8))) rfl rfl rfl rfl rfl ?_
   refine RL.mv rfl rfl rfl ?_
   refine RL.split (t := 95) rfl (fun b458 => ?_) (fun b458 => ?_)
   ·replace h453 := ite_t b458 h453
    refine RL.mv rfl rfl rfl ?_
    refine RL.lenS 3 Tryz.underlying22 rfl rfl rfl rfl SlOf.imm ?_
    refine RL.binI (v := .bool (((x2).length : Int) == (1 : Int))) rfl rfl rfl rfl rfl ?_
    refine RL.pickT rfl rfl rfl rfl ?_
    refine RL.asg rfl rfl rfl ?_
    refine RL.fin ?_
    cases h453
    exact fun a w st => mid_intro (((x2).length : Int) == (1 : Int)) h454 (St.cut [0, 1, 2, 3, 4, 5] ⟨rfl, rfl, rfl, rfl, rfl, trivial⟩ (by decide) rfl st)
   replace h453 := ite_f b458 h453
   refine RL.skip rfl rfl ?_
   refine RL.skip rfl rfl ?_
   refine RL.skip rfl rfl ?_
   refine RL.pickF rfl rfl rfl rfl ?_
   refine RL.asg rfl rfl rfl ?_
   refine RL.fin ?_
   cases h453
   exact fun a w st => mid_intro false h454 (St.cut [0, 1, 2, 3, 4, 5] ⟨rfl, rfl, rfl, rfl, rfl, trivial⟩ (by decide) rfl st)
  rintro x450 h459
  have h460 := h455 _ h459
  try dsimp only at h460
  refine GL.weak (env' := [(0, v0), (1, (sv x1)), (2, v2), (8, v7), (92, .bool x450)]) (L' := [obox 35 (TR.rec1 TR.raw) v0 u0a, obox 45 TrH u0a (x0.1, (x0.2.1, u0b)), obox 55 TrL u0b x0.2.2, imm (TR.sl TR.str) v2 x2, obox 59 TrE v7 (((0 : Int), (0 : Int), ([] : B8), (([] : B8), ([] : B8), (0 : Int), (0 : Int), (0 : Int), (0 : Int))) : TyE), keep X]) (fun _ _ st => st) ?_
  refine GL.cond rfl (fun b461 => ?_) (fun b461 => ?_)
  ·replace h460 := ite_t b461 h460
   refine GL.region ?_
   refine RL.mv rfl rfl rfl ?_
   obtain ⟨y465, e466, h460⟩ := bind_some h460
   refine RL.idxS (sz := 1) 3 Tryz.underlying22 Tryz_ln9 rfl rfl rfl rfl rfl SlOf.imm (idx_some e466).1 (idx_some e466).2.1 ?_
   refine RL.ldSx (i := ((0 : Int)).toNat) (e' := y465) 3 Ex.str Tryz_ln9 rfl rfl rfl rfl SlOf.imm (idx_some e466).2.2 Part.self ?_
   refine RL.bld (t := TrE) (d0 := (((6 : Int), (0 : Int), y465, (([] : B8), ([] : B8), (0 : Int), (0 : Int), (0 : Int), (0 : Int))) : TyE)) (pv := [(0, .int .i64 (6 : Int)), (2, (sv y465))]) rfl Tryz_bld59 rfl rfl rfl ⟨⟨_, _, TR.int, (6 : Int), rfl, rfl, VR.int⟩, ⟨⟨_, _, TR.str, y465, rfl, rfl, VR.str⟩, trivial⟩⟩ (fun S f hi => by
     obtain ⟨c0, e0, r0⟩ := cells_vrep (t := TR.int) (u := .int .i64 (6 : Int)) (e := (6 : Int)) (VR.int S f hi)
     obtain ⟨c2, e2, r2⟩ := cells_vrep (t := TR.str) (u := (sv y465)) (e := y465) (VR.str S f hi)
     show TR.rep TrE S (List.flatten [(.int .i64 (6 : Int) : Value).cells.toList, [.int .i64 0], ((sv y465) : Value).cells.toList, [.string ⟨#[]⟩, .string ⟨#[]⟩, .int .i64 0, .int .i64 0, .int .i64 0, .int .i64 0]]) _
     simp only [e0, e2,  List.flatten_cons, List.flatten_nil, List.append_nil]
     exact ⟨_, _, rfl, r0, ⟨_, _, rfl, rfl, ⟨_, _, rfl, r2, ⟨[.string ⟨#[]⟩], _, rfl, rfl, ⟨[.string ⟨#[]⟩], _, rfl, rfl, ⟨[.int .i64 0], _, rfl, rfl, ⟨[.int .i64 0], _, rfl, rfl, ⟨[.int .i64 0], _, rfl, rfl, rfl⟩⟩⟩⟩⟩⟩⟩⟩) ?_
   intro v467
   refine RL.stP (off := 0) (e' := (((6 : Int), (0 : Int), y465, (([] : B8), ([] : B8), (0 : Int), (0 : Int), (0 : Int), (0 : Int))) : TyE)) (d1 := (((6 : Int), (0 : Int), y465, (([] : B8), ([] : B8), (0 : Int), (0 : Int), (0 : Int), (0 : Int))) : TyE)) (r := TrE) 4 Tryz_ln59 rfl rfl (Or.inr ⟨rfl, rfl⟩) rfl (VR.item 6 rfl) rfl Upd.self ?_
   refine RL.reL (L' := [obox 35 (TR.rec1 TR.raw) v0 u0a, obox 45 TrH u0a (x0.1, (x0.2.1, u0b)), obox 55 TrL u0b x0.2.2, imm (TR.sl TR.str) v2 x2, obox 59 TrE v7 (((6 : Int), (0 : Int), y465, (([] : B8), ([] : B8), (0 : Int), (0 : Int), (0 : Int), (0 : Int))) : TyE), keep X, imm TrE v467 (((6 : Int), (0 : Int), y465, (([] : B8), ([] : B8), (0 : Int), (0 : Int), (0 : Int), (0 : Int))) : TyE)]) rfl ?_
   refine RL.finG ?_
   cases h460
   exact fun a w st => mid_intro (((6 : Int), (0 : Int), y465, (([] : B8), ([] : B8), (0 : Int), (0 : Int), (0 : Int), (0 : Int))) : TyE) h260 (St.cut [0, 1, 2, 4, 5] ⟨rfl, rfl, trivial⟩ (by decide) rfl st)
  replace h460 := ite_f b461 h460
  refine GL.seq ?_
  obtain ⟨y471, K472, h473, h474, h475, h476, h477⟩ := bindF_K h460
  refine GL.join (ι := Bool) (fun (p : Bool) => [(0, v0), (1, (sv x1)), (2, v2), (8, v7), (104, .bool p)]) (fun (p : Bool) => [obox 35 (TR.rec1 TR.raw) v0 u0a, obox 45 TrH u0a (x0.1, (x0.2.1, u0b)), obox 55 TrL u0b x0.2.2, imm (TR.sl TR.str) v2 x2, obox 59 TrE v7 (((0 : Int), (0 : Int), ([] : B8), (([] : B8), ([] : B8), (0 : Int), (0 : Int), (0 : Int), (0 : Int))) : TyE), keep X]) (fun (p : Bool) => K472 (.nx p)) ?_ ?_
  ·skip
   refine GL.region ?_
   refine RL.mv rfl rfl rfl ?_
   refine RL.binS (v := .bool (x1 == ([115, 121, 110, 99] : B8))) rfl rfl rfl rfl rfl ?_
   refine RL.mv rfl rfl rfl ?_
   refine RL.split (t := 107) rfl (fun b478 => ?_) (fun b478 => ?_)
   ·replace h473 := ite_t b478 h473
    refine RL.mv rfl rfl rfl ?_
    refine RL.lenS 3 Tryz.underlying22 rfl rfl rfl rfl SlOf.imm ?_
    refine RL.binI (v := .bool (((x2).length : Int) == (0 : Int))) rfl rfl rfl rfl rfl ?_
    refine RL.pickT rfl rfl rfl rfl ?_
    refine RL.asg rfl rfl rfl ?_
    refine RL.fin ?_
    cases h473
    exact fun a w st => mid_intro (((x2).length : Int) == (0 : Int)) h474 (St.cut [0, 1, 2, 3, 4, 5] ⟨rfl, rfl, rfl, rfl, rfl, trivial⟩ (by decide) rfl st)
   replace h473 := ite_f b478 h473
   refine RL.skip rfl rfl ?_
   refine RL.skip rfl rfl ?_
   refine RL.skip rfl rfl ?_
   refine RL.pickF rfl rfl rfl rfl ?_
   refine RL.asg rfl rfl rfl ?_
   refine RL.fin ?_
   cases h473
   exact fun a w st => mid_intro false h474 (St.cut [0, 1, 2, 3, 4, 5] ⟨rfl, rfl, rfl, rfl, rfl, trivial⟩ (by decide) rfl st)
  rintro x470 h479
  have h480 := h475 _ h479
  try dsimp only at h480
  refine GL.weak (env' := [(0, v0), (1, (sv x1)), (2, v2), (8, v7), (104, .bool x470)]) (L' := [obox 35 (TR.rec1 TR.raw) v0 u0a, obox 45 TrH u0a (x0.1, (x0.2.1, u0b)), obox 55 TrL u0b x0.2.2, imm (TR.sl TR.str) v2 x2, obox 59 TrE v7 (((0 : Int), (0 : Int), ([] : B8), (([] : B8), ([] : B8), (0 : Int), (0 : Int), (0 : Int), (0 : Int))) : TyE), keep X]) (fun _ _ st => st) ?_
  refine GL.cond rfl (fun b481 => ?_) (fun b481 => ?_)
  ·replace h480 := ite_t b481 h480
   refine GL.region ?_
   refine RL.bld (t := TrE) (d0 := (((4 : Int), (0 : Int), ([] : B8), (([] : B8), ([] : B8), (0 : Int), (0 : Int), (0 : Int), (0 : Int))) : TyE)) (pv := [(0, .int .i64 (4 : Int))]) rfl Tryz_bld59 rfl rfl rfl ⟨⟨_, _, TR.int, (4 : Int), rfl, rfl, VR.int⟩, trivial⟩ (fun S f hi => by
     obtain ⟨c0, e0, r0⟩ := cells_vrep (t := TR.int) (u := .int .i64 (4 : Int)) (e := (4 : Int)) (VR.int S f hi)
     show TR.rep TrE S (List.flatten [(.int .i64 (4 : Int) : Value).cells.toList, [.int .i64 0], [.string ⟨#[]⟩], [.string ⟨#[]⟩, .string ⟨#[]⟩, .int .i64 0, .int .i64 0, .int .i64 0, .int .i64 0]]) _
     simp only [e0,  List.flatten_cons, List.flatten_nil, List.append_nil]
     exact ⟨_, _, rfl, r0, ⟨_, _, rfl, rfl, ⟨_, _, rfl, rfl, ⟨[.string ⟨#[]⟩], _, rfl, rfl, ⟨[.string ⟨#[]⟩], _, rfl, rfl, ⟨[.int .i64 0], _, rfl, rfl, ⟨[.int .i64 0], _, rfl, rfl, ⟨[.int .i64 0], _, rfl, rfl, rfl⟩⟩⟩⟩⟩⟩⟩⟩) ?_
   intro v483
   refine RL.stP (off := 0) (e' := (((4 : Int), (0 : Int), ([] : B8), (([] : B8), ([] : B8), (0 : Int), (0 : Int), (0 : Int), (0 : Int))) : TyE)) (d1 := (((4 : Int), (0 : Int), ([] : B8), (([] : B8), ([] : B8), (0 : Int), (0 : Int), (0 : Int), (0 : Int))) : TyE)) (r := TrE) 4 Tryz_ln59 rfl rfl (Or.inr ⟨rfl, rfl⟩) rfl (VR.item 6 rfl) rfl Upd.self ?_
   refine RL.reL (L' := [obox 35 (TR.rec1 TR.raw) v0 u0a, obox 45 TrH u0a (x0.1, (x0.2.1, u0b)), obox 55 TrL u0b x0.2.2, imm (TR.sl TR.str) v2 x2, obox 59 TrE v7 (((4 : Int), (0 : Int), ([] : B8), (([] : B8), ([] : B8), (0 : Int), (0 : Int), (0 : Int), (0 : Int))) : TyE), keep X, imm TrE v483 (((4 : Int), (0 : Int), ([] : B8), (([] : B8), ([] : B8), (0 : Int), (0 : Int), (0 : Int), (0 : Int))) : TyE)]) rfl ?_
   refine RL.finG ?_
   cases h480
   exact fun a w st => mid_intro (((4 : Int), (0 : Int), ([] : B8), (([] : B8), ([] : B8), (0 : Int), (0 : Int), (0 : Int), (0 : Int))) : TyE) h260 (St.cut [0, 1, 2, 4, 5] ⟨rfl, rfl, trivial⟩ (by decide) rfl st)
  replace h480 := ite_f b481 h480
  refine GL.seq ?_
  obtain ⟨y487, K488, h489, h490, h491, h492, h493⟩ := bindF_K h480
  refine GL.join (ι := Bool) (fun (p : Bool) => [(0, v0), (2, v2), (8, v7), (113, .bool p)]) (fun (p : Bool) => [obox 35 (TR.rec1 TR.raw) v0 u0a, obox 45 TrH u0a (x0.1, (x0.2.1, u0b)), obox 55 TrL u0b x0.2.2, imm (TR.sl TR.str) v2 x2, obox 59 TrE v7 (((0 : Int), (0 : Int), ([] : B8), (([] : B8), ([] : B8), (0 : Int), (0 : Int), (0 : Int), (0 : Int))) : TyE), keep X]) (fun (p : Bool) => K488 (.nx p)) ?_ ?_
  ·skip
   refine GL.region ?_
   refine RL.mv rfl rfl rfl ?_
   refine RL.binS (v := .bool (x1 == ([99, 114, 97, 115, 104] : B8))) rfl rfl rfl rfl rfl ?_
   refine RL.mv rfl rfl rfl ?_
   refine RL.split (t := 116) rfl (fun b494 => ?_) (fun b494 => ?_)
   ·replace h489 := ite_t b494 h489
    refine RL.mv rfl rfl rfl ?_
    refine RL.lenS 3 Tryz.underlying22 rfl rfl rfl rfl SlOf.imm ?_
    refine RL.binI (v := .bool (((x2).length : Int) == (1 : Int))) rfl rfl rfl rfl rfl ?_
    refine RL.pickT rfl rfl rfl rfl ?_
    refine RL.asg rfl rfl rfl ?_
    refine RL.fin ?_
    cases h489
    exact fun a w st => mid_intro (((x2).length : Int) == (1 : Int)) h490 (St.cut [0, 1, 2, 3, 4, 5] ⟨rfl, rfl, rfl, rfl, trivial⟩ (by decide) rfl st)
   replace h489 := ite_f b494 h489
   refine RL.skip rfl rfl ?_
   refine RL.skip rfl rfl ?_
   refine RL.skip rfl rfl ?_
   refine RL.pickF rfl rfl rfl rfl ?_
   refine RL.asg rfl rfl rfl ?_
   refine RL.fin ?_
   cases h489
   exact fun a w st => mid_intro false h490 (St.cut [0, 1, 2, 3, 4, 5] ⟨rfl, rfl, rfl, rfl, trivial⟩ (by decide) rfl st)
  rintro x486 h495
  have h496 := h491 _ h495
  try dsimp only at h496
  refine GL.weak (env' := [(0, v0), (2, v2), (8, v7), (113, .bool x486)]) (L' := [obox 35 (TR.rec1 TR.raw) v0 u0a, obox 45 TrH u0a (x0.1, (x0.2.1, u0b)), obox 55 TrL u0b x0.2.2, imm (TR.sl TR.str) v2 x2, obox 59 TrE v7 (((0 : Int), (0 : Int), ([] : B8), (([] : B8), ([] : B8), (0 : Int), (0 : Int), (0 : Int), (0 : Int))) : TyE), keep X]) (fun _ _ st => st) ?_
  refine GL.cond rfl (fun b497 => ?_) (fun b497 => ?_)
  ·replace h496 := ite_t b497 h496
   refine GL.region ?_
   refine RL.mv rfl rfl rfl ?_
   obtain ⟨y505, e506, h496⟩ := bind_some h496
   refine RL.idxS (sz := 1) 3 Tryz.underlying22 Tryz_ln9 rfl rfl rfl rfl rfl SlOf.imm (idx_some e506).1 (idx_some e506).2.1 ?_
   refine RL.ldSx (i := ((0 : Int)).toNat) (e' := y505) 3 Ex.str Tryz_ln9 rfl rfl rfl rfl SlOf.imm (idx_some e506).2.2 Part.self ?_
   obtain ⟨y507, e508, h496⟩ := bind_some h496
   rcases y507 with x509 | z510
   ·replace h496 := thr_e h496
    refine RL.callE (T := 48) (n := x509) (vs := [(sv y505)]) Tryz_fit26 rfl rfl rfl rfl (fun U w hU hW hL => desk_number_c U w hU y505 _ e508) ?_
    cases h496
    have hh := h262 _ h260
    subst hh
    first | exact fun a w st => And.intro st.defers (thrP_err ((st.pick [0, 1, 2, 5] (by decide) rfl).toPostMX (E := fun (_ : Unit) => .panicked (refuse 48 x509)) (LR := fun (o : Unit) => [obox 35 (TR.rec1 TR.raw) v0 u0a, obox 45 TrH u0a (x0.1, (x0.2.1, u0b)), obox 55 TrL u0b x0.2.2, keep X]) ())) | exact fun a w st _ _ => And.intro st.defers (thrP_err ((st.pick [0, 1, 2, 5] (by decide) rfl).toPostMX (E := fun (_ : Unit) => .panicked (refuse 48 x509)) (LR := fun (o : Unit) => [obox 35 (TR.rec1 TR.raw) v0 u0a, obox 45 TrH u0a (x0.1, (x0.2.1, u0b)), obox 55 TrL u0b x0.2.2, keep X]) ()))
   replace h496 := thr_o h496
   refine RL.callV (v := .int .i64 z510) (vs := [(sv y505)]) Tryz_fit26 rfl (Or.inl rfl) rfl rfl rfl rfl (fun U w hU hW hL => desk_number_c U w hU y505 _ e508) ?_
   refine RL.bld (t := TrE) (d0 := (((5 : Int), z510, ([] : B8), (([] : B8), ([] : B8), (0 : Int), (0 : Int), (0 : Int), (0 : Int))) : TyE)) (pv := [(0, .int .i64 (5 : Int)), (1, .int .i64 z510)]) rfl Tryz_bld59 rfl rfl rfl ⟨⟨_, _, TR.int, (5 : Int), rfl, rfl, VR.int⟩, ⟨⟨_, _, TR.int, z510, rfl, rfl, VR.int⟩, trivial⟩⟩ (fun S f hi => by
     obtain ⟨c0, e0, r0⟩ := cells_vrep (t := TR.int) (u := .int .i64 (5 : Int)) (e := (5 : Int)) (VR.int S f hi)
     obtain ⟨c1, e1, r1⟩ := cells_vrep (t := TR.int) (u := .int .i64 z510) (e := z510) (VR.int S f hi)
     show TR.rep TrE S (List.flatten [(.int .i64 (5 : Int) : Value).cells.toList, (.int .i64 z510 : Value).cells.toList, [.string ⟨#[]⟩], [.string ⟨#[]⟩, .string ⟨#[]⟩, .int .i64 0, .int .i64 0, .int .i64 0, .int .i64 0]]) _
     simp only [e0, e1,  List.flatten_cons, List.flatten_nil, List.append_nil]
     exact ⟨_, _, rfl, r0, ⟨_, _, rfl, r1, ⟨_, _, rfl, rfl, ⟨[.string ⟨#[]⟩], _, rfl, rfl, ⟨[.string ⟨#[]⟩], _, rfl, rfl, ⟨[.int .i64 0], _, rfl, rfl, ⟨[.int .i64 0], _, rfl, rfl, ⟨[.int .i64 0], _, rfl, rfl, rfl⟩⟩⟩⟩⟩⟩⟩⟩) ?_
   intro v511
   refine RL.stP (off := 0) (e' := (((5 : Int), z510, ([] : B8), (([] : B8), ([] : B8), (0 : Int), (0 : Int), (0 : Int), (0 : Int))) : TyE)) (d1 := (((5 : Int), z510, ([] : B8), (([] : B8), ([] : B8), (0 : Int), (0 : Int), (0 : Int), (0 : Int))) : TyE)) (r := TrE) 4 Tryz_ln59 rfl rfl (Or.inr ⟨rfl, rfl⟩) rfl (VR.item 6 rfl) rfl Upd.self ?_
   refine RL.reL (L' := [obox 35 (TR.rec1 TR.raw) v0 u0a, obox 45 TrH u0a (x0.1, (x0.2.1, u0b)), obox 55 TrL u0b x0.2.2, imm (TR.sl TR.str) v2 x2, obox 59 TrE v7 (((5 : Int), z510, ([] : B8), (([] : B8), ([] : B8), (0 : Int), (0 : Int), (0 : Int), (0 : Int))) : TyE), keep X, imm TrE v511 (((5 : Int), z510, ([] : B8), (([] : B8), ([] : B8), (0 : Int), (0 : Int), (0 : Int), (0 : Int))) : TyE)]) rfl ?_
   refine RL.finG ?_
   cases h496
   exact fun a w st => mid_intro (((5 : Int), z510, ([] : B8), (([] : B8), ([] : B8), (0 : Int), (0 : Int), (0 : Int), (0 : Int))) : TyE) h260 (St.cut [0, 1, 2, 4, 5] ⟨rfl, rfl, trivial⟩ (by decide) rfl st)
  replace h496 := ite_f b497 h496
  refine GL.seq ?_
  refine GL.region ?_
  refine RL.asg rfl rfl rfl ?_
  refine RL.asg rfl rfl rfl ?_
  refine RL.finG ?_
  cases h496
  have hh := h262 _ h260
  subst hh
  exact GL.ret (Gx.ret (v := .tuple #[(sv (([] : B8))), .bool false]) (res2 rfl rfl rfl) (fun a w st => thrP_ok ((st.pick [0, 1, 2, 5] (by decide) rfl).toPostM (V := fun (o : Unit) => .tuple #[(sv ((([] : B8), false).1)), .bool ((([] : B8), false).2)]) (LR := fun (o : Unit) => [obox 35 (TR.rec1 TR.raw) v0 u0a, obox 45 TrH u0a (x0.1, (x0.2.1, u0b)), obox 55 TrL u0b x0.2.2, keep X]) ())))
 rintro l256 h512
 have h513 := h261 _ h512
 try dsimp only at h513
 refine GL.weak (env' := [(0, v0), (8, v7)]) (L' := [obox 35 (TR.rec1 TR.raw) v0 u0a, obox 45 TrH u0a (x0.1, (x0.2.1, u0b)), obox 55 TrL u0b x0.2.2, obox 59 TrE v7 l256, keep X]) (fun _ _ st => st) ?_
 refine GL.seq ?_
 refine GL.regionA rfl rfl ?_
 refine RA.mv 0 rfl (by kernel_rfl) rfl rfl rfl ?_
 obtain ⟨y567, e568, h513⟩ := bind_some h513
 refine RA.meet (ι := Value × Value) (fun (p : Value × Value) => [(8, v7), (10, p.1), (133, p.2), (134, .int .i64 y567.2.1)]) (fun (p : Value × Value) => [obox 35 (TR.rec1 TR.raw) v0 u0a, keep X, obox 45 TrH u0a (y567.2.2.1, (y567.2.2.2.1, u0b)), obox 55 TrL u0b y567.2.2.2.2, obox 59 TrE v7 l256, obox 64 (TR.pair TR.int TR.int) p.1 ((0 : Int), (0 : Int)), imm (TR.pair TR.int TR.int) p.2 y567.1]) 2 q_103 (fun h582 => ?_) ?_
 ·skip
  refine RA.meet (ι := Value) (fun (p : Value) => [(8, v7), (133, p), (134, .int .i64 y567.2.1)]) (fun (p : Value) => [obox 35 (TR.rec1 TR.raw) v0 u0a, keep X, obox 45 TrH u0a (y567.2.2.1, (y567.2.2.2.1, u0b)), obox 55 TrL u0b y567.2.2.2.2, obox 59 TrE v7 l256, imm (TR.pair TR.int TR.int) p y567.1]) 3 q_104 (fun h583 => ?_) ?_
  rotate_left
  ·rintro v579
   refine RA.weak (env' := [(8, v7), (133, v579), (134, .int .i64 y567.2.1)]) (L' := [obox 35 (TR.rec1 TR.raw) v0 u0a, keep X, obox 45 TrH u0a (y567.2.2.1, (y567.2.2.2.1, u0b)), obox 55 TrL u0b y567.2.2.2.2, obox 59 TrE v7 l256, imm (TR.pair TR.int TR.int) v579 y567.1]) (fun _ _ st => st) ?_
   refine RA.seq 9 rfl (by kernel_rfl) ?_
   refine RL.alloc (t := (TR.pair TR.int TR.int)) (z := ((0 : Int), (0 : Int))) Tryz_lo64 (fun S => ⟨[.int .i64 0], _, rfl, rfl, rfl⟩) rfl rfl rfl ?_
   intro v617
   refine RL.fin ?_
   refine RA.next ?_
   refine RA.relist 2 q_103 rfl (by kernel_rfl) ?_
   exact fun a w st => h582 (v617, v579) a w (St.cut [0, 1, 2, 3, 4, 6, 5] ⟨rfl, rfl, rfl, rfl, trivial⟩ (by decide) rfl st)
  refine RA.meet (ι := Value × Value) (fun (p : Value × Value) => [(8, v7), (10, p.1), (130, u0a), (131, p.2)]) (fun (p : Value × Value) => [obox 35 (TR.rec1 TR.raw) v0 u0a, obox 45 TrH u0a (x0.1, (x0.2.1, u0b)), obox 55 TrL u0b x0.2.2, keep X, obox 59 TrE v7 l256, obox 64 (TR.pair TR.int TR.int) p.1 ((0 : Int), (0 : Int)), imm TrE p.2 l256]) 6 q_105 (fun h584 => ?_) ?_
  rotate_left
  ·rintro ⟨v580, v578⟩
   refine RA.weak (env' := [(8, v7), (10, v580), (130, u0a), (131, v578)]) (L' := [obox 35 (TR.rec1 TR.raw) v0 u0a, obox 45 TrH u0a (x0.1, (x0.2.1, u0b)), obox 55 TrL u0b x0.2.2, keep X, obox 59 TrE v7 l256, obox 64 (TR.pair TR.int TR.int) v580 ((0 : Int), (0 : Int)), imm TrE v578 l256]) (fun _ _ st => st) ?_
   refine RA.seq 5 rfl (by kernel_rfl) ?_
   refine RL.callK (vs := [u0a, v578]) (V := fun (o : Value) => .tuple #[o, .int .i64 y567.2.1]) (LR := fun (o : Value) => [obox 45 TrH u0a (y567.2.2.1, (y567.2.2.2.1, u0b)), obox 55 TrL u0b y567.2.2.2.2, imm (TR.pair TR.int TR.int) o y567.1]) (Ls := [obox 45 TrH u0a (x0.1, (x0.2.1, u0b)), obox 55 TrL u0b x0.2.2]) [1, 2] (by decide) Tryz_fit28 rfl rfl rfl rfl rfl rfl (fun S f X w hO hB hW hI hL => house_House_Do_c _ S X f w _ _ x0  hO hB hI (hT.mono hW) _ _ (hL 6 _ _ rfl Sure.imm) _ e568) ?_
   intro v616
   refine RL.fin ?_
   refine RA.next ?_
   refine RA.mv 6 rfl (by kernel_rfl) rfl rfl rfl ?_
   refine RA.ext 7 rfl (by kernel_rfl) rfl rfl rfl rfl ?_
   refine RA.ext 8 rfl (by kernel_rfl) rfl rfl rfl rfl ?_
   refine RA.relist 2 q_103 rfl (by kernel_rfl) ?_
   exact fun a w st => h582 (v580, v616) a w (St.cut [0, 3, 7, 8, 4, 5, 9] ⟨rfl, rfl, rfl, rfl, trivial⟩ (by decide) rfl st)
  refine RA.meet (ι := Value) (fun (p : Value) => [(8, v7), (130, u0a), (131, p)]) (fun (p : Value) => [obox 35 (TR.rec1 TR.raw) v0 u0a, obox 45 TrH u0a (x0.1, (x0.2.1, u0b)), obox 55 TrL u0b x0.2.2, keep X, obox 59 TrE v7 l256, imm TrE p l256]) 7 q_106 (fun h585 => ?_) ?_
  rotate_left
  ·rintro v578
   refine RA.weak (env' := [(8, v7), (130, u0a), (131, v578)]) (L' := [obox 35 (TR.rec1 TR.raw) v0 u0a, obox 45 TrH u0a (x0.1, (x0.2.1, u0b)), obox 55 TrL u0b x0.2.2, keep X, obox 59 TrE v7 l256, imm TrE v578 l256]) (fun _ _ st => st) ?_
   refine RA.many [5, 9] (by kernel_rfl) ⟨⟨_, rfl, ?_⟩, ⟨_, rfl, ?_⟩, trivial⟩
   ·skip
    refine RL.callK (vs := [u0a, v578]) (V := fun (o : Value) => .tuple #[o, .int .i64 y567.2.1]) (LR := fun (o : Value) => [obox 45 TrH u0a (y567.2.2.1, (y567.2.2.2.1, u0b)), obox 55 TrL u0b y567.2.2.2.2, imm (TR.pair TR.int TR.int) o y567.1]) (Ls := [obox 45 TrH u0a (x0.1, (x0.2.1, u0b)), obox 55 TrL u0b x0.2.2]) [1, 2] (by decide) Tryz_fit28 rfl rfl rfl rfl rfl rfl (fun S f X w hO hB hW hI hL => house_House_Do_c _ S X f w _ _ x0  hO hB hI (hT.mono hW) _ _ (hL 5 _ _ rfl Sure.imm) _ e568) ?_
    intro v614
    refine RL.fin ?_
    refine RA.next ?_
    refine RA.mv 6 rfl (by kernel_rfl) rfl rfl rfl ?_
    refine RA.ext 7 rfl (by kernel_rfl) rfl rfl rfl rfl ?_
    refine RA.ext 8 rfl (by kernel_rfl) rfl rfl rfl rfl ?_
    refine RA.relist 3 q_104 rfl (by kernel_rfl) ?_
    exact fun a w st => h583 v614 a w (St.cut [0, 3, 6, 7, 4, 8] ⟨rfl, rfl, rfl, trivial⟩ (by decide) rfl st)
   refine RL.alloc (t := (TR.pair TR.int TR.int)) (z := ((0 : Int), (0 : Int))) Tryz_lo64 (fun S => ⟨[.int .i64 0], _, rfl, rfl, rfl⟩) rfl rfl rfl ?_
   intro v615
   refine RL.fin ?_
   refine RA.next ?_
   refine RA.relist 6 q_105 rfl (by kernel_rfl) ?_
   exact fun a w st => h584 (v615, v578) a w (St.cut [0, 1, 2, 3, 4, 6, 5] ⟨rfl, rfl, rfl, rfl, trivial⟩ (by decide) rfl st)
  refine RA.meet (ι := Value) (fun (p : Value) => [(8, v7), (10, p), (130, u0a)]) (fun (p : Value) => [obox 35 (TR.rec1 TR.raw) v0 u0a, obox 45 TrH u0a (x0.1, (x0.2.1, u0b)), obox 55 TrL u0b x0.2.2, keep X, obox 59 TrE v7 l256, obox 64 (TR.pair TR.int TR.int) p ((0 : Int), (0 : Int))]) 7 q_107 (fun h586 => ?_) ?_
  rotate_left
  ·rintro v574
   refine RA.weak (env' := [(8, v7), (10, v574), (130, u0a)]) (L' := [obox 35 (TR.rec1 TR.raw) v0 u0a, obox 45 TrH u0a (x0.1, (x0.2.1, u0b)), obox 55 TrL u0b x0.2.2, keep X, obox 59 TrE v7 l256, obox 64 (TR.pair TR.int TR.int) v574 ((0 : Int), (0 : Int))]) (fun _ _ st => st) ?_
   refine RA.seq 4 rfl (by kernel_rfl) ?_
   refine RL.ldP (off := 0) (r := TrE) (e' := l256) 4 Tryz_ln59 rfl rfl (Or.inr ⟨rfl, rfl⟩) rfl PtOf.obox Part.self ?_
   intro v613
   refine RL.fin ?_
   refine RA.next ?_
   refine RA.relist 6 q_105 rfl (by kernel_rfl) ?_
   exact fun a w st => h584 (v574, v613) a w (St.cut [0, 1, 2, 3, 4, 5, 6] ⟨rfl, rfl, rfl, rfl, trivial⟩ (by decide) rfl st)
  refine RA.meet (ι := Value × Value) (fun (p : Value × Value) => [(8, v7), (10, p.1), (129, adr v0 (0 + 0)), (131, p.2)]) (fun (p : Value × Value) => [obox 35 (TR.rec1 TR.raw) v0 u0a, obox 45 TrH u0a (x0.1, (x0.2.1, u0b)), obox 55 TrL u0b x0.2.2, keep X, obox 59 TrE v7 l256, obox 64 (TR.pair TR.int TR.int) p.1 ((0 : Int), (0 : Int)), imm TrE p.2 l256]) 7 q_108 (fun h587 => ?_) ?_
  rotate_left
  ·rintro ⟨v574, v577⟩
   refine RA.weak (env' := [(8, v7), (10, v574), (129, adr v0 (0 + 0)), (131, v577)]) (L' := [obox 35 (TR.rec1 TR.raw) v0 u0a, obox 45 TrH u0a (x0.1, (x0.2.1, u0b)), obox 55 TrL u0b x0.2.2, keep X, obox 59 TrE v7 l256, obox 64 (TR.pair TR.int TR.int) v574 ((0 : Int), (0 : Int)), imm TrE v577 l256]) (fun _ _ st => st) ?_
   refine RA.seq 3 rfl (by kernel_rfl) ?_
   refine RL.ldPx (off := (0 + 0)) (e' := u0a) 0 Ex.raw Tryz_ln32 rfl rfl (Or.inl rfl) rfl PtOf.obox (Part.rec1 Part.self) ?_
   refine RL.fin ?_
   refine RA.next ?_
   refine RA.relist 6 q_105 rfl (by kernel_rfl) ?_
   exact fun a w st => h584 (v574, v577) a w (St.cut [0, 1, 2, 3, 4, 5, 6] ⟨rfl, rfl, rfl, rfl, trivial⟩ (by decide) rfl st)
  refine RA.meet (ι := Value) (fun (p : Value) => [(8, v7), (10, p), (129, adr v0 (0 + 0))]) (fun (p : Value) => [obox 35 (TR.rec1 TR.raw) v0 u0a, obox 45 TrH u0a (x0.1, (x0.2.1, u0b)), obox 55 TrL u0b x0.2.2, keep X, obox 59 TrE v7 l256, obox 64 (TR.pair TR.int TR.int) p ((0 : Int), (0 : Int))]) 8 q_109 (fun h588 => ?_) ?_
  rotate_left
  ·rintro v574
   refine RA.weak (env' := [(8, v7), (10, v574), (129, adr v0 (0 + 0))]) (L' := [obox 35 (TR.rec1 TR.raw) v0 u0a, obox 45 TrH u0a (x0.1, (x0.2.1, u0b)), obox 55 TrL u0b x0.2.2, keep X, obox 59 TrE v7 l256, obox 64 (TR.pair TR.int TR.int) v574 ((0 : Int), (0 : Int))]) (fun _ _ st => st) ?_
   refine RA.many [3, 4] (by kernel_rfl) ⟨⟨_, rfl, ?_⟩, ⟨_, rfl, ?_⟩, trivial⟩
   ·skip
    refine RL.ldPx (off := (0 + 0)) (e' := u0a) 0 Ex.raw Tryz_ln32 rfl rfl (Or.inl rfl) rfl PtOf.obox (Part.rec1 Part.self) ?_
    refine RL.fin ?_
    refine RA.next ?_
    refine RA.relist 7 q_107 rfl (by kernel_rfl) ?_
    exact fun a w st => h586 v574 a w (St.cut [0, 1, 2, 3, 4, 5] ⟨rfl, rfl, rfl, trivial⟩ (by decide) rfl st)
   refine RL.ldP (off := 0) (r := TrE) (e' := l256) 4 Tryz_ln59 rfl rfl (Or.inr ⟨rfl, rfl⟩) rfl PtOf.obox Part.self ?_
   intro v612
   refine RL.fin ?_
   refine RA.next ?_
   refine RA.relist 7 q_108 rfl (by kernel_rfl) ?_
   exact fun a w st => h587 (v574, v612) a w (St.cut [0, 1, 2, 3, 4, 5, 6] ⟨rfl, rfl, rfl, rfl, trivial⟩ (by decide) rfl st)
  refine RA.meet (ι := Value × Value) (fun (p : Value × Value) => [(8, v7), (10, p.1), (128, v0), (131, p.2)]) (fun (p : Value × Value) => [obox 35 (TR.rec1 TR.raw) v0 u0a, obox 45 TrH u0a (x0.1, (x0.2.1, u0b)), obox 55 TrL u0b x0.2.2, keep X, obox 59 TrE v7 l256, obox 64 (TR.pair TR.int TR.int) p.1 ((0 : Int), (0 : Int)), imm TrE p.2 l256]) 8 q_110 (fun h589 => ?_) ?_
  rotate_left
  ·rintro ⟨v576, v573⟩
   refine RA.weak (env' := [(8, v7), (10, v576), (128, v0), (131, v573)]) (L' := [obox 35 (TR.rec1 TR.raw) v0 u0a, obox 45 TrH u0a (x0.1, (x0.2.1, u0b)), obox 55 TrL u0b x0.2.2, keep X, obox 59 TrE v7 l256, obox 64 (TR.pair TR.int TR.int) v576 ((0 : Int), (0 : Int)), imm TrE v573 l256]) (fun _ _ st => st) ?_
   refine RA.seq 2 rfl (by kernel_rfl) ?_
   refine RL.fadr (off := 0) (fo := 0) 0 Tryz_fld35_0 rfl rfl rfl PtOf.obox (Or.inr ⟨rfl, rfl⟩) ?_
   refine RL.fin ?_
   refine RA.next ?_
   refine RA.relist 7 q_108 rfl (by kernel_rfl) ?_
   exact fun a w st => h587 (v576, v573) a w (St.cut [0, 1, 2, 3, 4, 5, 6] ⟨rfl, rfl, rfl, rfl, trivial⟩ (by decide) rfl st)
  refine RA.meet (ι := Unit) (fun (p : Unit) => [(8, v7), (130, u0a)]) (fun (p : Unit) => [obox 35 (TR.rec1 TR.raw) v0 u0a, obox 45 TrH u0a (x0.1, (x0.2.1, u0b)), obox 55 TrL u0b x0.2.2, keep X, obox 59 TrE v7 l256]) 8 q_111 (fun h590 => ?_) ?_
  rotate_left
  ·rintro ⟨⟩
   refine RA.weak (env' := [(8, v7), (130, u0a)]) (L' := [obox 35 (TR.rec1 TR.raw) v0 u0a, obox 45 TrH u0a (x0.1, (x0.2.1, u0b)), obox 55 TrL u0b x0.2.2, keep X, obox 59 TrE v7 l256]) (fun _ _ st => st) ?_
   refine RA.many [4, 9] (by kernel_rfl) ⟨⟨_, rfl, ?_⟩, ⟨_, rfl, ?_⟩, trivial⟩
   ·skip
    refine RL.ldP (off := 0) (r := TrE) (e' := l256) 4 Tryz_ln59 rfl rfl (Or.inr ⟨rfl, rfl⟩) rfl PtOf.obox Part.self ?_
    intro v610
    refine RL.fin ?_
    refine RA.next ?_
    refine RA.relist 7 q_106 rfl (by kernel_rfl) ?_
    exact fun a w st => h585 v610 a w (St.cut [0, 1, 2, 3, 4, 5] ⟨rfl, rfl, rfl, trivial⟩ (by decide) rfl st)
   refine RL.alloc (t := (TR.pair TR.int TR.int)) (z := ((0 : Int), (0 : Int))) Tryz_lo64 (fun S => ⟨[.int .i64 0], _, rfl, rfl, rfl⟩) rfl rfl rfl ?_
   intro v611
   refine RL.fin ?_
   refine RA.next ?_
   refine RA.relist 7 q_107 rfl (by kernel_rfl) ?_
   exact fun a w st => h586 v611 a w (St.cut [0, 1, 2, 3, 4, 5] ⟨rfl, rfl, rfl, trivial⟩ (by decide) rfl st)
  refine RA.meet (ι := Value) (fun (p : Value) => [(8, v7), (129, adr v0 (0 + 0)), (131, p)]) (fun (p : Value) => [obox 35 (TR.rec1 TR.raw) v0 u0a, obox 45 TrH u0a (x0.1, (x0.2.1, u0b)), obox 55 TrL u0b x0.2.2, keep X, obox 59 TrE v7 l256, imm TrE p l256]) 8 q_112 (fun h591 => ?_) ?_
  rotate_left
  ·rintro v573
   refine RA.weak (env' := [(8, v7), (129, adr v0 (0 + 0)), (131, v573)]) (L' := [obox 35 (TR.rec1 TR.raw) v0 u0a, obox 45 TrH u0a (x0.1, (x0.2.1, u0b)), obox 55 TrL u0b x0.2.2, keep X, obox 59 TrE v7 l256, imm TrE v573 l256]) (fun _ _ st => st) ?_
   refine RA.many [3, 9] (by kernel_rfl) ⟨⟨_, rfl, ?_⟩, ⟨_, rfl, ?_⟩, trivial⟩
   ·skip
    refine RL.ldPx (off := (0 + 0)) (e' := u0a) 0 Ex.raw Tryz_ln32 rfl rfl (Or.inl rfl) rfl PtOf.obox (Part.rec1 Part.self) ?_
    refine RL.fin ?_
    refine RA.next ?_
    refine RA.relist 7 q_106 rfl (by kernel_rfl) ?_
    exact fun a w st => h585 v573 a w (St.cut [0, 1, 2, 3, 4, 5] ⟨rfl, rfl, rfl, trivial⟩ (by decide) rfl st)
   refine RL.alloc (t := (TR.pair TR.int TR.int)) (z := ((0 : Int), (0 : Int))) Tryz_lo64 (fun S => ⟨[.int .i64 0], _, rfl, rfl, rfl⟩) rfl rfl rfl ?_
   intro v609
   refine RL.fin ?_
   refine RA.next ?_
   refine RA.relist 7 q_108 rfl (by kernel_rfl) ?_
   exact fun a w st => h587 (v609, v573) a w (St.cut [0, 1, 2, 3, 4, 6, 5] ⟨rfl, rfl, rfl, rfl, trivial⟩ (by decide) rfl st)
  refine RA.meet (ι := Value) (fun (p : Value) => [(8, v7), (128, v0), (131, p)]) (fun (p : Value) => [obox 35 (TR.rec1 TR.raw) v0 u0a, obox 45 TrH u0a (x0.1, (x0.2.1, u0b)), obox 55 TrL u0b x0.2.2, keep X, obox 59 TrE v7 l256, imm TrE p l256]) 9 q_113 (fun h592 => ?_) ?_
  rotate_left
  ·rintro v573
   refine RA.weak (env' := [(8, v7), (128, v0), (131, v573)]) (L' := [obox 35 (TR.rec1 TR.raw) v0 u0a, obox 45 TrH u0a (x0.1, (x0.2.1, u0b)), obox 55 TrL u0b x0.2.2, keep X, obox 59 TrE v7 l256, imm TrE v573 l256]) (fun _ _ st => st) ?_
   refine RA.many [2, 9] (by kernel_rfl) ⟨⟨_, rfl, ?_⟩, ⟨_, rfl, ?_⟩, trivial⟩
   ·skip
    refine RL.fadr (off := 0) (fo := 0) 0 Tryz_fld35_0 rfl rfl rfl PtOf.obox (Or.inr ⟨rfl, rfl⟩) ?_
    refine RL.fin ?_
    refine RA.next ?_
    refine RA.relist 8 q_112 rfl (by kernel_rfl) ?_
    exact fun a w st => h591 v573 a w (St.cut [0, 1, 2, 3, 4, 5] ⟨rfl, rfl, rfl, trivial⟩ (by decide) rfl st)
   refine RL.alloc (t := (TR.pair TR.int TR.int)) (z := ((0 : Int), (0 : Int))) Tryz_lo64 (fun S => ⟨[.int .i64 0], _, rfl, rfl, rfl⟩) rfl rfl rfl ?_
   intro v608
   refine RL.fin ?_
   refine RA.next ?_
   refine RA.relist 8 q_110 rfl (by kernel_rfl) ?_
   exact fun a w st => h589 (v608, v573) a w (St.cut [0, 1, 2, 3, 4, 6, 5] ⟨rfl, rfl, rfl, rfl, trivial⟩ (by decide) rfl st)
  refine RA.meet (ι := Value) (fun (p : Value) => [(8, v7), (10, p), (128, v0)]) (fun (p : Value) => [obox 35 (TR.rec1 TR.raw) v0 u0a, obox 45 TrH u0a (x0.1, (x0.2.1, u0b)), obox 55 TrL u0b x0.2.2, keep X, obox 59 TrE v7 l256, obox 64 (TR.pair TR.int TR.int) p ((0 : Int), (0 : Int))]) 9 q_114 (fun h593 => ?_) ?_
  rotate_left
  ·rintro v574
   refine RA.weak (env' := [(8, v7), (10, v574), (128, v0)]) (L' := [obox 35 (TR.rec1 TR.raw) v0 u0a, obox 45 TrH u0a (x0.1, (x0.2.1, u0b)), obox 55 TrL u0b x0.2.2, keep X, obox 59 TrE v7 l256, obox 64 (TR.pair TR.int TR.int) v574 ((0 : Int), (0 : Int))]) (fun _ _ st => st) ?_
   refine RA.many [2, 4] (by kernel_rfl) ⟨⟨_, rfl, ?_⟩, ⟨_, rfl, ?_⟩, trivial⟩
   ·skip
    refine RL.fadr (off := 0) (fo := 0) 0 Tryz_fld35_0 rfl rfl rfl PtOf.obox (Or.inr ⟨rfl, rfl⟩) ?_
    refine RL.fin ?_
    refine RA.next ?_
    refine RA.relist 8 q_109 rfl (by kernel_rfl) ?_
    exact fun a w st => h588 v574 a w (St.cut [0, 1, 2, 3, 4, 5] ⟨rfl, rfl, rfl, trivial⟩ (by decide) rfl st)
   refine RL.ldP (off := 0) (r := TrE) (e' := l256) 4 Tryz_ln59 rfl rfl (Or.inr ⟨rfl, rfl⟩) rfl PtOf.obox Part.self ?_
   intro v607
   refine RL.fin ?_
   refine RA.next ?_
   refine RA.relist 8 q_110 rfl (by kernel_rfl) ?_
   exact fun a w st => h589 (v574, v607) a w (St.cut [0, 1, 2, 3, 4, 5, 6] ⟨rfl, rfl, rfl, rfl, trivial⟩ (by decide) rfl st)
  refine RA.meet (ι := Unit) (fun (p : Unit) => [(8, v7), (129, adr v0 (0 + 0))]) (fun (p : Unit) => [obox 35 (TR.rec1 TR.raw) v0 u0a, obox 45 TrH u0a (x0.1, (x0.2.1, u0b)), obox 55 TrL u0b x0.2.2, keep X, obox 59 TrE v7 l256]) 9 q_115 (fun h594 => ?_) ?_
  rotate_left
  ·rintro ⟨⟩
   refine RA.weak (env' := [(8, v7), (129, adr v0 (0 + 0))]) (L' := [obox 35 (TR.rec1 TR.raw) v0 u0a, obox 45 TrH u0a (x0.1, (x0.2.1, u0b)), obox 55 TrL u0b x0.2.2, keep X, obox 59 TrE v7 l256]) (fun _ _ st => st) ?_
   refine RA.many [3, 4, 9] (by kernel_rfl) ⟨⟨_, rfl, ?_⟩, ⟨_, rfl, ?_⟩, ⟨_, rfl, ?_⟩, trivial⟩
   ·skip
    refine RL.ldPx (off := (0 + 0)) (e' := u0a) 0 Ex.raw Tryz_ln32 rfl rfl (Or.inl rfl) rfl PtOf.obox (Part.rec1 Part.self) ?_
    refine RL.fin ?_
    refine RA.next ?_
    refine RA.relist 8 q_111 rfl (by kernel_rfl) ?_
    exact fun a w st => h590 () a w (St.cut [0, 1, 2, 3, 4] ⟨rfl, rfl, trivial⟩ (by decide) rfl st)
   ·skip
    refine RL.ldP (off := 0) (r := TrE) (e' := l256) 4 Tryz_ln59 rfl rfl (Or.inr ⟨rfl, rfl⟩) rfl PtOf.obox Part.self ?_
    intro v605
    refine RL.fin ?_
    refine RA.next ?_
    refine RA.relist 8 q_112 rfl (by kernel_rfl) ?_
    exact fun a w st => h591 v605 a w (St.cut [0, 1, 2, 3, 4, 5] ⟨rfl, rfl, rfl, trivial⟩ (by decide) rfl st)
   refine RL.alloc (t := (TR.pair TR.int TR.int)) (z := ((0 : Int), (0 : Int))) Tryz_lo64 (fun S => ⟨[.int .i64 0], _, rfl, rfl, rfl⟩) rfl rfl rfl ?_
   intro v606
   refine RL.fin ?_
   refine RA.next ?_
   refine RA.relist 8 q_109 rfl (by kernel_rfl) ?_
   exact fun a w st => h588 v606 a w (St.cut [0, 1, 2, 3, 4, 5] ⟨rfl, rfl, rfl, trivial⟩ (by decide) rfl st)
  refine RA.meet (ι := Value × Value) (fun (p : Value × Value) => [(8, v7), (10, p.1), (127, v0), (131, p.2)]) (fun (p : Value × Value) => [obox 35 (TR.rec1 TR.raw) v0 u0a, obox 45 TrH u0a (x0.1, (x0.2.1, u0b)), obox 55 TrL u0b x0.2.2, keep X, obox 59 TrE v7 l256, obox 64 (TR.pair TR.int TR.int) p.1 ((0 : Int), (0 : Int)), imm TrE p.2 l256]) 9 q_116 (fun h595 => ?_) ?_
  rotate_left
  ·rintro ⟨v575, v571⟩
   refine RA.weak (env' := [(8, v7), (10, v575), (127, v0), (131, v571)]) (L' := [obox 35 (TR.rec1 TR.raw) v0 u0a, obox 45 TrH u0a (x0.1, (x0.2.1, u0b)), obox 55 TrL u0b x0.2.2, keep X, obox 59 TrE v7 l256, obox 64 (TR.pair TR.int TR.int) v575 ((0 : Int), (0 : Int)), imm TrE v571 l256]) (fun _ _ st => st) ?_
   refine RA.seq 1 rfl (by kernel_rfl) ?_
   refine RL.nilk 0 rfl rfl rfl rfl PtOf.obox ?_
   refine RL.fin ?_
   refine RA.next ?_
   refine RA.relist 8 q_110 rfl (by kernel_rfl) ?_
   exact fun a w st => h589 (v575, v571) a w (St.cut [0, 1, 2, 3, 4, 5, 6] ⟨rfl, rfl, rfl, rfl, trivial⟩ (by decide) rfl st)
  refine RA.meet (ι := Unit) (fun (p : Unit) => [(8, v7), (128, v0)]) (fun (p : Unit) => [obox 35 (TR.rec1 TR.raw) v0 u0a, obox 45 TrH u0a (x0.1, (x0.2.1, u0b)), obox 55 TrL u0b x0.2.2, keep X, obox 59 TrE v7 l256]) 10 q_117 (fun h596 => ?_) ?_
  rotate_left
  ·rintro ⟨⟩
   refine RA.weak (env' := [(8, v7), (128, v0)]) (L' := [obox 35 (TR.rec1 TR.raw) v0 u0a, obox 45 TrH u0a (x0.1, (x0.2.1, u0b)), obox 55 TrL u0b x0.2.2, keep X, obox 59 TrE v7 l256]) (fun _ _ st => st) ?_
   refine RA.many [2, 4, 9] (by kernel_rfl) ⟨⟨_, rfl, ?_⟩, ⟨_, rfl, ?_⟩, ⟨_, rfl, ?_⟩, trivial⟩
   ·skip
    refine RL.fadr (off := 0) (fo := 0) 0 Tryz_fld35_0 rfl rfl rfl PtOf.obox (Or.inr ⟨rfl, rfl⟩) ?_
    refine RL.fin ?_
    refine RA.next ?_
    refine RA.relist 9 q_115 rfl (by kernel_rfl) ?_
    exact fun a w st => h594 () a w (St.cut [0, 1, 2, 3, 4] ⟨rfl, rfl, trivial⟩ (by decide) rfl st)
   ·skip
    refine RL.ldP (off := 0) (r := TrE) (e' := l256) 4 Tryz_ln59 rfl rfl (Or.inr ⟨rfl, rfl⟩) rfl PtOf.obox Part.self ?_
    intro v603
    refine RL.fin ?_
    refine RA.next ?_
    refine RA.relist 9 q_113 rfl (by kernel_rfl) ?_
    exact fun a w st => h592 v603 a w (St.cut [0, 1, 2, 3, 4, 5] ⟨rfl, rfl, rfl, trivial⟩ (by decide) rfl st)
   refine RL.alloc (t := (TR.pair TR.int TR.int)) (z := ((0 : Int), (0 : Int))) Tryz_lo64 (fun S => ⟨[.int .i64 0], _, rfl, rfl, rfl⟩) rfl rfl rfl ?_
   intro v604
   refine RL.fin ?_
   refine RA.next ?_
   refine RA.relist 9 q_114 rfl (by kernel_rfl) ?_
   exact fun a w st => h593 v604 a w (St.cut [0, 1, 2, 3, 4, 5] ⟨rfl, rfl, rfl, trivial⟩ (by decide) rfl st)
  refine RA.meet (ι := Value) (fun (p : Value) => [(8, v7), (127, v0), (131, p)]) (fun (p : Value) => [obox 35 (TR.rec1 TR.raw) v0 u0a, obox 45 TrH u0a (x0.1, (x0.2.1, u0b)), obox 55 TrL u0b x0.2.2, keep X, obox 59 TrE v7 l256, imm TrE p l256]) 10 q_118 (fun h597 => ?_) ?_
  rotate_left
  ·rintro v571
   refine RA.weak (env' := [(8, v7), (127, v0), (131, v571)]) (L' := [obox 35 (TR.rec1 TR.raw) v0 u0a, obox 45 TrH u0a (x0.1, (x0.2.1, u0b)), obox 55 TrL u0b x0.2.2, keep X, obox 59 TrE v7 l256, imm TrE v571 l256]) (fun _ _ st => st) ?_
   refine RA.many [1, 9] (by kernel_rfl) ⟨⟨_, rfl, ?_⟩, ⟨_, rfl, ?_⟩, trivial⟩
   ·skip
    refine RL.nilk 0 rfl rfl rfl rfl PtOf.obox ?_
    refine RL.fin ?_
    refine RA.next ?_
    refine RA.relist 9 q_113 rfl (by kernel_rfl) ?_
    exact fun a w st => h592 v571 a w (St.cut [0, 1, 2, 3, 4, 5] ⟨rfl, rfl, rfl, trivial⟩ (by decide) rfl st)
   refine RL.alloc (t := (TR.pair TR.int TR.int)) (z := ((0 : Int), (0 : Int))) Tryz_lo64 (fun S => ⟨[.int .i64 0], _, rfl, rfl, rfl⟩) rfl rfl rfl ?_
   intro v602
   refine RL.fin ?_
   refine RA.next ?_
   refine RA.relist 9 q_116 rfl (by kernel_rfl) ?_
   exact fun a w st => h595 (v602, v571) a w (St.cut [0, 1, 2, 3, 4, 6, 5] ⟨rfl, rfl, rfl, rfl, trivial⟩ (by decide) rfl st)
  refine RA.meet (ι := Value) (fun (p : Value) => [(8, v7), (10, p), (127, v0)]) (fun (p : Value) => [obox 35 (TR.rec1 TR.raw) v0 u0a, obox 45 TrH u0a (x0.1, (x0.2.1, u0b)), obox 55 TrL u0b x0.2.2, keep X, obox 59 TrE v7 l256, obox 64 (TR.pair TR.int TR.int) p ((0 : Int), (0 : Int))]) 10 q_119 (fun h598 => ?_) ?_
  rotate_left
  ·rintro v572
   refine RA.weak (env' := [(8, v7), (10, v572), (127, v0)]) (L' := [obox 35 (TR.rec1 TR.raw) v0 u0a, obox 45 TrH u0a (x0.1, (x0.2.1, u0b)), obox 55 TrL u0b x0.2.2, keep X, obox 59 TrE v7 l256, obox 64 (TR.pair TR.int TR.int) v572 ((0 : Int), (0 : Int))]) (fun _ _ st => st) ?_
   refine RA.many [1, 4] (by kernel_rfl) ⟨⟨_, rfl, ?_⟩, ⟨_, rfl, ?_⟩, trivial⟩
   ·skip
    refine RL.nilk 0 rfl rfl rfl rfl PtOf.obox ?_
    refine RL.fin ?_
    refine RA.next ?_
    refine RA.relist 9 q_114 rfl (by kernel_rfl) ?_
    exact fun a w st => h593 v572 a w (St.cut [0, 1, 2, 3, 4, 5] ⟨rfl, rfl, rfl, trivial⟩ (by decide) rfl st)
   refine RL.ldP (off := 0) (r := TrE) (e' := l256) 4 Tryz_ln59 rfl rfl (Or.inr ⟨rfl, rfl⟩) rfl PtOf.obox Part.self ?_
   intro v601
   refine RL.fin ?_
   refine RA.next ?_
   refine RA.relist 9 q_116 rfl (by kernel_rfl) ?_
   exact fun a w st => h595 (v572, v601) a w (St.cut [0, 1, 2, 3, 4, 5, 6] ⟨rfl, rfl, rfl, rfl, trivial⟩ (by decide) rfl st)
  refine RA.many [1, 4, 9] (by kernel_rfl) ⟨⟨_, rfl, ?_⟩, ⟨_, rfl, ?_⟩, ⟨_, rfl, ?_⟩, trivial⟩
  ·skip
   refine RL.nilk 0 rfl rfl rfl rfl PtOf.obox ?_
   refine RL.fin ?_
   refine RA.next ?_
   refine RA.relist 10 q_117 rfl (by kernel_rfl) ?_
   exact fun a w st => h596 () a w (St.cut [0, 1, 2, 4, 3] ⟨rfl, rfl, trivial⟩ (by decide) rfl st)
  ·skip
   refine RL.ldP (off := 0) (r := TrE) (e' := l256) 3 Tryz_ln59 rfl rfl (Or.inr ⟨rfl, rfl⟩) rfl PtOf.obox Part.self ?_
   intro v599
   refine RL.fin ?_
   refine RA.next ?_
   refine RA.relist 10 q_118 rfl (by kernel_rfl) ?_
   exact fun a w st => h597 v599 a w (St.cut [0, 1, 2, 4, 3, 5] ⟨rfl, rfl, rfl, trivial⟩ (by decide) rfl st)
  refine RL.alloc (t := (TR.pair TR.int TR.int)) (z := ((0 : Int), (0 : Int))) Tryz_lo64 (fun S => ⟨[.int .i64 0], _, rfl, rfl, rfl⟩) rfl rfl rfl ?_
  intro v600
  refine RL.fin ?_
  refine RA.next ?_
  refine RA.relist 10 q_119 rfl (by kernel_rfl) ?_
  exact fun a w st => h598 v600 a w (St.cut [0, 1, 2, 4, 3, 5] ⟨rfl, rfl, rfl, trivial⟩ (by decide) rfl st)
 rintro ⟨v580, v581⟩
 refine RA.weak (env' := [(8, v7), (10, v580), (133, v581), (134, .int .i64 y567.2.1)]) (L' := [obox 35 (TR.rec1 TR.raw) v0 u0a, keep X, obox 45 TrH u0a (y567.2.2.1, (y567.2.2.2.1, u0b)), obox 55 TrL u0b y567.2.2.2.2, obox 59 TrE v7 l256, obox 64 (TR.pair TR.int TR.int) v580 ((0 : Int), (0 : Int)), imm (TR.pair TR.int TR.int) v581 y567.1]) (fun _ _ st => st) ?_
 refine RA.seq 10 rfl (by kernel_rfl) ?_
 refine RL.stP (off := 0) (e' := y567.1) (d1 := y567.1) (r := (TR.pair TR.int TR.int)) 5 Tryz_ln64 rfl rfl (Or.inr ⟨rfl, rfl⟩) rfl (VR.item 6 rfl) rfl Upd.self ?_
 refine RL.fin ?_
 refine RA.next ?_
 refine RA.quiet 11 rfl rfl (by kernel_rfl) ?_
 simp only [List.drop_succ_cons, List.drop_zero]
 refine RL.asg rfl rfl rfl ?_
 refine RL.finQ ?_
 refine RA.outQ ?_
 refine GL.weak (env' := [(8, v7), (10, v580), (11, .int .i64 y567.2.1)]) (L' := [obox 35 (TR.rec1 TR.raw) v0 u0a, keep X, obox 45 TrH u0a (y567.2.2.1, (y567.2.2.2.1, u0b)), obox 55 TrL u0b y567.2.2.2.2, obox 59 TrE v7 l256, obox 64 (TR.pair TR.int TR.int) v580 y567.1]) (fun a w st => St.cut [0, 1, 2, 3, 4, 5] ⟨rfl, rfl, rfl, trivial⟩ (by decide) rfl st) ?_
 refine GL.seq ?_
 refine GL.region ?_
 refine RL.mv rfl rfl rfl ?_
 obtain ⟨y622, e623, h513⟩ := bind_some h513
 rcases y622 with x624 | z625
 ·replace h513 := thr_e h513
  refine RL.callE (T := 48) (n := x624) (vs := [.int .i64 y567.2.1]) Tryz_fit19 rfl rfl rfl rfl (fun U w hU hW hL => desk_must_c U w hU y567.2.1 _ e623) ?_
  have h513 := Option.some.inj h513
  subst h513
  first | exact fun a w st => And.intro st.defers (thrP_err ((st.pick [0, 2, 3, 1] (by decide) rfl).toPostMX (E := fun (_ : Unit) => .panicked (refuse 48 x624)) (LR := fun (o : Unit) => [obox 35 (TR.rec1 TR.raw) v0 u0a, obox 45 TrH u0a (y567.2.2.1, (y567.2.2.2.1, u0b)), obox 55 TrL u0b y567.2.2.2.2, keep X]) ())) | exact fun a w st _ _ => And.intro st.defers (thrP_err ((st.pick [0, 2, 3, 1] (by decide) rfl).toPostMX (E := fun (_ : Unit) => .panicked (refuse 48 x624)) (LR := fun (o : Unit) => [obox 35 (TR.rec1 TR.raw) v0 u0a, obox 45 TrH u0a (y567.2.2.1, (y567.2.2.2.1, u0b)), obox 55 TrL u0b y567.2.2.2.2, keep X]) ()))
 replace h513 := thr_o h513
 refine RL.callC (v := .tuple #[]) (vs := [.int .i64 y567.2.1]) Tryz_fit19 rfl rfl rfl rfl (fun U w hU hW hL => desk_must_c U w hU y567.2.1 _ e623) ?_
 refine RL.finG ?_
 refine GL.seq ?_
 refine GL.seq ?_
 obtain ⟨y629, K630, h631, h632, h633, h634, h635⟩ := bindR_K h513
 refine GL.join (ι := Bool) (fun (p : Bool) => [(10, v580), (144, .bool p)]) (fun (p : Bool) => [obox 64 (TR.pair TR.int TR.int) v580 y567.1, obox 35 (TR.rec1 TR.raw) v0 u0a, obox 45 TrH u0a (y567.2.2.1, (y567.2.2.2.1, u0b)), obox 55 TrL u0b y567.2.2.2.2, keep X]) (fun (p : Bool) => K630 (.nx p)) ?_ ?_
 ·skip
  refine GL.region ?_
  refine RL.fadr (off := 0) (fo := 0) 4 Tryz_fld59_0 rfl rfl rfl PtOf.obox (Or.inr ⟨rfl, rfl⟩) ?_
  refine RL.ldPx (off := (0 + 0)) (e' := l256.1) 4 Ex.ik Tryz_ln3 rfl rfl (Or.inl rfl) rfl PtOf.obox (Part.fst Part.self) ?_
  refine RL.binI (v := .bool (l256.1 == (3 : Int))) rfl rfl rfl rfl rfl ?_
  refine RL.mv rfl rfl rfl ?_
  refine RL.split (t := 140) rfl (fun b636 => ?_) (fun b636 => ?_)
  ·replace h631 := ite_t b636 h631
   refine RL.skip rfl rfl ?_
   refine RL.skip rfl rfl ?_
   refine RL.skip rfl rfl ?_
   refine RL.pickT rfl rfl rfl rfl ?_
   refine RL.fin ?_
   cases h631
   exact fun a w st => mid_intro true h632 (St.cut [5, 0, 2, 3, 1] ⟨rfl, rfl, trivial⟩ (by decide) rfl st)
  replace h631 := ite_f b636 h631
  refine RL.fadr (off := 0) (fo := 0) 4 Tryz_fld59_0 rfl rfl rfl PtOf.obox (Or.inr ⟨rfl, rfl⟩) ?_
  refine RL.ldPx (off := (0 + 0)) (e' := l256.1) 4 Ex.ik Tryz_ln3 rfl rfl (Or.inl rfl) rfl PtOf.obox (Part.fst Part.self) ?_
  refine RL.binI (v := .bool (l256.1 == (6 : Int))) rfl rfl rfl rfl rfl ?_
  refine RL.pickF rfl rfl rfl rfl ?_
  refine RL.fin ?_
  cases h631
  exact fun a w st => mid_intro (l256.1 == (6 : Int)) h632 (St.cut [5, 0, 2, 3, 1] ⟨rfl, rfl, trivial⟩ (by decide) rfl st)
 rintro x628 h637
 have h638 := h633 _ h637
 try dsimp only at h638
 refine GL.weak (env' := [(10, v580), (144, .bool x628)]) (L' := [obox 64 (TR.pair TR.int TR.int) v580 y567.1, obox 35 (TR.rec1 TR.raw) v0 u0a, obox 45 TrH u0a (y567.2.2.1, (y567.2.2.2.1, u0b)), obox 55 TrL u0b y567.2.2.2.2, keep X]) (fun _ _ st => st) ?_
 refine GL.cond rfl (fun b639 => ?_) (fun b639 => ?_)
 ·replace h638 := ite_t b639 h638
  refine GL.seq ?_
  refine GL.region ?_
  refine RL.fadr (off := 0) (fo := 0) 0 Tryz_fld64_0 rfl rfl rfl PtOf.obox (Or.inr ⟨rfl, rfl⟩) ?_
  refine RL.ldPx (off := (0 + 0)) (e' := y567.1.1) 0 Ex.ik Tryz_ln3 rfl rfl (Or.inl rfl) rfl PtOf.obox (Part.fst Part.self) ?_
  refine RL.fadr (off := 0) (fo := 1) 0 Tryz_fld64_1 rfl rfl rfl PtOf.obox (Or.inr ⟨rfl, rfl⟩) ?_
  refine RL.ldPx (off := (0 + 1)) (e' := y567.1.2) 0 Ex.ik Tryz_ln3 rfl rfl (Or.inl rfl) rfl PtOf.obox (Part.snd Part.self) ?_
  refine RL.bS (t := TR.int) (vs := [.int .i64 y567.1.1, .int .i64 y567.1.2]) ([y567.1.1, y567.1.2] : (List Int)) Tryz.underlying61 Tryz_lo3 rfl rfl rfl rfl ⟨VR.int, ⟨VR.int, trivial⟩⟩ rfl (by decide) ?_
  intro v643
  obtain ⟨y644, e645, h638⟩ := bind_some h638
  refine RL.callV (v := (sv y644)) (vs := [v643]) Tryz_fit29 rfl (Or.inl rfl) rfl rfl rfl rfl (fun U w hU hW hL => desk_listed_c U w hU (hT.mono hW) _ _ (hL 5 _ _ rfl Seen.own) _ e645) ?_
  refine RL.asg rfl rfl rfl ?_
  refine RL.asg rfl rfl rfl ?_
  refine RL.finG ?_
  have h638 := Option.some.inj h638
  subst h638
  exact GL.ret (Gx.ret (v := .tuple #[(sv y644), .bool true]) (res2 rfl rfl rfl) (fun a w st => thrP_ok ((st.pick [1, 2, 3, 4] (by decide) rfl).toPostM (V := fun (o : Unit) => .tuple #[(sv ((y644, true).1)), .bool ((y644, true).2)]) (LR := fun (o : Unit) => [obox 35 (TR.rec1 TR.raw) v0 u0a, obox 45 TrH u0a (y567.2.2.1, (y567.2.2.2.1, u0b)), obox 55 TrL u0b y567.2.2.2.2, keep X]) ())))
 replace h638 := ite_f b639 h638
 refine GL.skip ?_
 refine GL.seq ?_
 refine GL.region ?_
 refine RL.asg rfl rfl rfl ?_
 refine RL.asg rfl rfl rfl ?_
 refine RL.finG ?_
 have h638 := Option.some.inj h638
 subst h638
 exact GL.ret (Gx.ret (v := .tuple #[(sv (([111, 107] : B8))), .bool true]) (res2 rfl rfl rfl) (fun a w st => thrP_ok ((st.pick [1, 2, 3, 4] (by decide) rfl).toPostM (V := fun (o : Unit) => .tuple #[(sv ((([111, 107] : B8), true).1)), .bool ((([111, 107] : B8), true).2)]) (LR := fun (o : Unit) => [obox 35 (TR.rec1 TR.raw) v0 u0a, obox 45 TrH u0a (y567.2.2.1, (y567.2.2.2.1, u0b)), obox 55 TrL u0b y567.2.2.2.2, keep X]) ())))

theorem piles_Check_c (S : Hp) (w : World) (hS : S.sub w) (v0 : Value) (x0 : (List Int)) (k0 : ((TR.sl TR.int)).vrep S v0 x0) (res : Int) (hm : piles_Check_m x0 = some res) : Calls Tryz.prog 50 #[v0] w (PostC w (.int .i64 res)) := by
 refine calls_enter 21 Tryz.func50 Tryz.ntmps50 rfl S true [(0, v0)] [imm (TR.sl TR.int) v0 x0] rfl ⟨rfl, trivial⟩ hS ⟨k0, trivial⟩ ?_
 unfold piles_Check_m at hm
 refine GL.seq ?_
 refine GL.region ?_
 refine RL.asg rfl rfl rfl ?_
 refine RL.finG ?_
 refine GL.seq ?_
 refine GL.seq ?_
 refine GL.region ?_
 refine RL.mv rfl rfl rfl ?_
 refine RL.lenS 0 Tryz.underlying61 rfl rfl rfl rfl SlOf.imm ?_
 refine RL.binI (v := .bool (decide (((x0).length : Int) > (6 : Int)))) rfl rfl rfl rfl rfl ?_
 refine RL.finG ?_
 refine GL.cond rfl (fun b2 => ?_) (fun b2 => ?_)
 ·replace hm := ite_t b2 hm
  refine GL.seq ?_
  refine GL.region ?_
  refine RL.asg rfl rfl rfl ?_
  refine RL.finG ?_
  have hm := Option.some.inj hm
  subst hm
  exact GL.ret (Gx.ret (v := .int .i64 (2 : Int)) (res1 rfl rfl) (fun a w st => st.toPostC rfl))
 replace hm := ite_f b2 hm
 refine GL.skip ?_
 refine GL.seq ?_
 refine GL.seq ?_
 refine GL.region ?_
 refine RL.mv rfl rfl rfl ?_
 refine RL.lenS 0 Tryz.underlying61 rfl rfl rfl rfl SlOf.imm ?_
 refine RL.mv rfl rfl rfl ?_
 refine RL.finG ?_
 refine GL.open_ 0 rfl (fun S h => len_imm S h) (fun n21 => ?_)
 obtain ⟨y22, K23, h24, h25, h26, h27, h28⟩ := bindR_K hm
 refine GL.join (ι := Unit) (fun (p : Unit) => []) (fun (p : Unit) => []) (fun (p : Unit) => K23 (.nx ())) ?_ ?_
 ·refine GL.block ?_
  refine GL.loop (ι := Nat × (List Int)) (fun (p : Nat × (List Int)) => [(8, v0), (9, .int .i64 ((x0).length : Int)), (10, .int .i64 (p.1 : Int))]) (fun (p : Nat × (List Int)) => [imm (TR.sl TR.int) v0 x0]) (fun (p : Nat × (List Int)) => p.1 + p.2.length = (x0).length ∧ List.drop p.1 x0 = p.2 ∧ rangeL piles_Check_b1 p.2 p.1 () = some y22) (fun (p : Nat × (List Int)) => p.2.length) (0, x0) ⟨by simp, by simp, h24⟩ (fun a w st => St.cut [0] ⟨rfl, rfl, rfl, trivial⟩ (by decide) rfl st) ?_
  rintro ⟨i29, r30⟩ ⟨h35, h36, h34⟩
  try dsimp only at h35 h36 h34
  refine GL.weak (env' := [(8, v0), (9, .int .i64 ((x0).length : Int)), (10, .int .i64 (i29 : Int))]) (L' := [imm (TR.sl TR.int) v0 x0]) (fun _ _ st => st) ?_
  refine GL.seq ?_
  refine GL.region ?_
  refine RL.binI (v := .bool (decide ((i29 : Int) < ((x0).length : Int)))) rfl rfl rfl rfl rfl ?_
  refine RL.finG ?_
  refine GL.seq ?_
  refine GL.cond rfl (fun b37 => ?_) (fun b37 => ?_)
  ·have h38 : i29 < (x0).length := by have := of_decide_eq_true b37; omega
   obtain ⟨y39, r41, hr, e40, h42⟩ := drop_cons h36 rfl h38
   subst hr
   obtain ⟨z31, h32, h33⟩ := rangeL_some h34
   unfold piles_Check_b1 at h32
   try dsimp only at h32
   refine GL.skip ?_
   refine GL.seq ?_
   refine GL.block ?_
   refine GL.seq ?_
   refine GL.region ?_
   refine RL.idxS (sz := 1) 0 Tryz.underlying61 Tryz_ln3 rfl rfl rfl rfl rfl SlOf.imm (by omega) (by omega) ?_
   refine RL.ldSx (i := i29) (e' := y39) 0 Ex.ik Tryz_ln3 rfl rfl rfl rfl SlOf.imm e40 Part.self ?_
   refine RL.asg rfl rfl rfl ?_
   refine RL.finG ?_
   refine GL.seq ?_
   obtain ⟨y46, K47, h48, h49, h50, h51, h52⟩ := bindF_K h32
   refine GL.join (ι := Bool) (fun (p : Bool) => [(8, v0), (9, .int .i64 ((x0).length : Int)), (10, .int .i64 (i29 : Int)), (19, .bool p)]) (fun (p : Bool) => [imm (TR.sl TR.int) v0 x0]) (fun (p : Bool) => K47 (.nx p)) ?_ ?_
   ·skip
    refine GL.region ?_
    refine RL.mv rfl rfl rfl ?_
    refine RL.binI (v := .bool (decide (y39 < (0 : Int)))) rfl rfl rfl rfl rfl ?_
    refine RL.mv rfl rfl rfl ?_
    refine RL.split (t := 16) rfl (fun b53 => ?_) (fun b53 => ?_)
    ·replace h48 := ite_t b53 h48
     refine RL.skip rfl rfl ?_
     refine RL.skip rfl rfl ?_
     refine RL.pickT rfl rfl rfl rfl ?_
     refine RL.fin ?_
     cases h48
     exact fun a w st => mid_intro true h49 (St.cut [0] ⟨rfl, rfl, rfl, rfl, trivial⟩ (by decide) rfl st)
    replace h48 := ite_f b53 h48
    refine RL.mv rfl rfl rfl ?_
    refine RL.binI (v := .bool (decide (y39 > (40 : Int)))) rfl rfl rfl rfl rfl ?_
    refine RL.pickF rfl rfl rfl rfl ?_
    refine RL.fin ?_
    cases h48
    exact fun a w st => mid_intro (decide (y39 > (40 : Int))) h49 (St.cut [0] ⟨rfl, rfl, rfl, rfl, trivial⟩ (by decide) rfl st)
   rintro x45 h54
   have h55 := h50 _ h54
   try dsimp only at h55
   refine GL.weak (env' := [(8, v0), (9, .int .i64 ((x0).length : Int)), (10, .int .i64 (i29 : Int)), (19, .bool x45)]) (L' := [imm (TR.sl TR.int) v0 x0]) (fun _ _ st => st) ?_
   refine GL.cond rfl (fun b56 => ?_) (fun b56 => ?_)
   ·replace h55 := ite_t b56 h55
    refine GL.seq ?_
    refine GL.region ?_
    refine RL.asg rfl rfl rfl ?_
    refine RL.finG ?_
    cases h55
    replace h33 : some (Fl.rt _) = some y22 := h33
    cases h33
    have hh := h27 _ h25
    subst hh
    exact GL.ret (Gx.ret (v := .int .i64 (1 : Int)) (res1 rfl rfl) (fun a w st => st.toPostC rfl))
   replace h55 := ite_f b56 h55
   refine GL.skip ?_
   refine GL.nilB ?_
   refine GL.region ?_
   refine RL.binI (v := .int .i64 ((i29 + 1 : Nat) : Int)) rfl rfl rfl rfl (binI_succ i29 (by omega)) ?_
   refine RL.mv rfl rfl rfl ?_
   refine RL.fin ?_
   cases h55
   exact fun a w st => lop_intro (i29 + 1, r41) ⟨by show i29 + 1 + r41.length = (x0).length; simp only [List.length_cons] at h35; omega, h42, h33⟩ (by simp) (St.cut [0] ⟨rfl, rfl, rfl, trivial⟩ (by decide) rfl st)
  have h38 : ¬ i29 < (x0).length := by have := of_decide_eq_false b37; omega
  obtain rfl : r30 = [] := by rw [← h36]; exact List.drop_of_length_le (by omega)
  replace h34 : some (Fl.nx _) = some y22 := h34
  cases h34
  exact GL.exit (fun a w st => mid_intro () h25 (St.cut [] trivial (by decide) rfl st))
 rintro ⟨⟩ h57
 have h58 := h26 _ h57
 try dsimp only at h58
 refine GL.weak (env' := []) (L' := []) (fun _ _ st => st) ?_
 refine GL.seq ?_
 refine GL.region ?_
 refine RL.asg rfl rfl rfl ?_
 refine RL.finG ?_
 have h58 := Option.some.inj h58
 subst h58
 exact GL.ret (Gx.ret (v := .int .i64 (0 : Int)) (res1 rfl rfl) (fun a w st => st.toPostC rfl))

theorem piles_Move_c (S : Hp) (w : World) (hS : S.sub w) (v0 : Value) (x0 : (List Int)) (k0 : ((TR.sl TR.int)).vrep S v0 x0) (res : Int × Int × Int) (hm : piles_Move_m x0 = some res) : Calls Tryz.prog 30 #[v0] w (PostC w (.tuple #[.int .i64 res.1, .int .i64 res.2.1, .int .i64 res.2.2])) := by
 refine calls_enter 45 Tryz.func30 Tryz.ntmps30 rfl S true [(0, v0)] [imm (TR.sl TR.int) v0 x0] rfl ⟨rfl, trivial⟩ hS ⟨k0, trivial⟩ ?_
 unfold piles_Move_m at hm
 refine GL.seq ?_
 refine GL.region ?_
 refine RL.asg rfl rfl rfl ?_
 refine RL.asg rfl rfl rfl ?_
 refine RL.asg rfl rfl rfl ?_
 refine RL.finG ?_
 refine GL.seq ?_
 refine GL.seq ?_
 refine GL.region ?_
 refine RL.mv rfl rfl rfl ?_
 obtain ⟨y4, e5, hm⟩ := bind_some hm
 refine RL.callC (v := .int .i64 y4) (vs := [v0]) Tryz_fit50 rfl rfl rfl rfl (fun U w hU hW hL => piles_Check_c U w hU _ _ (hL 0 _ _ rfl Seen.imm) _ e5) ?_
 refine RL.asg rfl rfl rfl ?_
 refine RL.finG ?_
 refine GL.seq ?_
 refine GL.region ?_
 refine RL.mv rfl rfl rfl ?_
 refine RL.binI (v := .bool (y4 != (0 : Int))) rfl rfl rfl rfl rfl ?_
 refine RL.finG ?_
 refine GL.cond rfl (fun b6 => ?_) (fun b6 => ?_)
 ·replace hm := ite_t b6 hm
  refine GL.seq ?_
  refine GL.region ?_
  refine RL.mv rfl rfl rfl ?_
  refine RL.asg rfl rfl rfl ?_
  refine RL.asg rfl rfl rfl ?_
  refine RL.asg rfl rfl rfl ?_
  refine RL.finG ?_
  have hm := Option.some.inj hm
  subst hm
  exact GL.ret (Gx.ret (v := .tuple #[.int .i64 (0 : Int), .int .i64 (0 : Int), .int .i64 y4]) (res3 rfl rfl rfl rfl) (fun a w st => st.toPostC rfl))
 replace hm := ite_f b6 hm
 refine GL.skip ?_
 refine GL.seq ?_
 refine GL.region ?_
 refine RL.asg rfl rfl rfl ?_
 refine RL.finG ?_
 refine GL.seq ?_
 refine GL.seq ?_
 refine GL.region ?_
 refine RL.mv rfl rfl rfl ?_
 refine RL.lenS 0 Tryz.underlying61 rfl rfl rfl rfl SlOf.imm ?_
 refine RL.mv rfl rfl rfl ?_
 refine RL.finG ?_
 refine GL.open_ 0 rfl (fun S h => len_imm S h) (fun n12 => ?_)
 obtain ⟨y13, K14, h15, h16, h17, h18, h19⟩ := bindR_K hm
 refine GL.join (ι := Int) (fun (p : Int) => [(0, v0), (6, .int .i64 p)]) (fun (p : Int) => [imm (TR.sl TR.int) v0 x0]) (fun (p : Int) => K14 (.nx p)) ?_ ?_
 ·refine GL.block ?_
  refine GL.loop (ι := Nat × (List Int) × Int) (fun (p : Nat × (List Int) × Int) => [(0, v0), (6, .int .i64 p.2.2), (16, v0), (17, .int .i64 ((x0).length : Int)), (18, .int .i64 (p.1 : Int))]) (fun (p : Nat × (List Int) × Int) => [imm (TR.sl TR.int) v0 x0]) (fun (p : Nat × (List Int) × Int) => p.1 + p.2.1.length = (x0).length ∧ List.drop p.1 x0 = p.2.1 ∧ rangeL piles_Move_b1 p.2.1 p.1 p.2.2 = some y13) (fun (p : Nat × (List Int) × Int) => p.2.1.length) (0, x0, (0 : Int)) ⟨by simp, by simp, h15⟩ (fun a w st => St.cut [0] ⟨rfl, rfl, rfl, rfl, rfl, trivial⟩ (by decide) rfl st) ?_
  rintro ⟨i20, r21, x7⟩ ⟨h26, h27, h25⟩
  try dsimp only at h26 h27 h25
  refine GL.weak (env' := [(0, v0), (6, .int .i64 x7), (16, v0), (17, .int .i64 ((x0).length : Int)), (18, .int .i64 (i20 : Int))]) (L' := [imm (TR.sl TR.int) v0 x0]) (fun _ _ st => st) ?_
  refine GL.seq ?_
  refine GL.region ?_
  refine RL.binI (v := .bool (decide ((i20 : Int) < ((x0).length : Int)))) rfl rfl rfl rfl rfl ?_
  refine RL.finG ?_
  refine GL.seq ?_
  refine GL.cond rfl (fun b28 => ?_) (fun b28 => ?_)
  ·have h29 : i20 < (x0).length := by have := of_decide_eq_true b28; omega
   obtain ⟨y30, r32, hr, e31, h33⟩ := drop_cons h27 rfl h29
   subst hr
   obtain ⟨z22, h23, h24⟩ := rangeL_some h25
   unfold piles_Move_b1 at h23
   try dsimp only at h23
   refine GL.skip ?_
   refine GL.seq ?_
   refine GL.block ?_
   refine GL.seq ?_
   refine GL.region ?_
   refine RL.idxS (sz := 1) 0 Tryz.underlying61 Tryz_ln3 rfl rfl rfl rfl rfl SlOf.imm (by omega) (by omega) ?_
   refine RL.ldSx (i := i20) (e' := y30) 0 Ex.ik Tryz_ln3 rfl rfl rfl rfl SlOf.imm e31 Part.self ?_
   refine RL.asg rfl rfl rfl ?_
   refine RL.finG ?_
   refine GL.region ?_
   refine RL.mv rfl rfl rfl ?_
   refine RL.mv rfl rfl rfl ?_
   refine RL.binI (v := .int .i64 (bits .xor .i64 x7 y30)) rfl rfl rfl rfl rfl ?_
   refine RL.asg rfl rfl rfl ?_
   refine RL.finG ?_
   refine GL.nilB ?_
   refine GL.region ?_
   refine RL.binI (v := .int .i64 ((i20 + 1 : Nat) : Int)) rfl rfl rfl rfl (binI_succ i20 (by omega)) ?_
   refine RL.mv rfl rfl rfl ?_
   refine RL.fin ?_
   cases h23
   exact fun a w st => lop_intro (i20 + 1, r32, bits .xor .i64 x7 y30) ⟨by show i20 + 1 + r32.length = (x0).length; simp only [List.length_cons] at h26; omega, h33, h24⟩ (by simp) (St.cut [0] ⟨rfl, rfl, rfl, rfl, rfl, trivial⟩ (by decide) rfl st)
  have h29 : ¬ i20 < (x0).length := by have := of_decide_eq_false b28; omega
  obtain rfl : r21 = [] := by rw [← h27]; exact List.drop_of_length_le (by omega)
  replace h25 : some (Fl.nx _) = some y13 := h25
  cases h25
  exact GL.exit (fun a w st => mid_intro x7 h16 (St.cut [0] ⟨rfl, rfl, trivial⟩ (by decide) rfl st))
 rintro x7 h34
 have h35 := h17 _ h34
 try dsimp only at h35
 refine GL.weak (env' := [(0, v0), (6, .int .i64 x7)]) (L' := [imm (TR.sl TR.int) v0 x0]) (fun _ _ st => st) ?_
 refine GL.seq ?_
 refine GL.seq ?_
 refine GL.region ?_
 refine RL.mv rfl rfl rfl ?_
 refine RL.lenS 0 Tryz.underlying61 rfl rfl rfl rfl SlOf.imm ?_
 refine RL.mv rfl rfl rfl ?_
 refine RL.finG ?_
 refine GL.open_ 0 rfl (fun S h => len_imm S h) (fun n41 => ?_)
 obtain ⟨y42, K43, h44, h45, h46, h47, h48⟩ := bindR_K h35
 refine GL.join (ι := Unit) (fun (p : Unit) => []) (fun (p : Unit) => []) (fun (p : Unit) => K43 (.nx ())) ?_ ?_
 ·refine GL.block ?_
  refine GL.loop (ι := Nat × (List Int)) (fun (p : Nat × (List Int)) => [(6, .int .i64 x7), (26, v0), (27, .int .i64 ((x0).length : Int)), (28, .int .i64 (p.1 : Int))]) (fun (p : Nat × (List Int)) => [imm (TR.sl TR.int) v0 x0]) (fun (p : Nat × (List Int)) => p.1 + p.2.length = (x0).length ∧ List.drop p.1 x0 = p.2 ∧ rangeL (piles_Move_b2 x7) p.2 p.1 () = some y42) (fun (p : Nat × (List Int)) => p.2.length) (0, x0) ⟨by simp, by simp, h44⟩ (fun a w st => St.cut [0] ⟨rfl, rfl, rfl, rfl, trivial⟩ (by decide) rfl st) ?_
  rintro ⟨i49, r50⟩ ⟨h55, h56, h54⟩
  try dsimp only at h55 h56 h54
  refine GL.weak (env' := [(6, .int .i64 x7), (26, v0), (27, .int .i64 ((x0).length : Int)), (28, .int .i64 (i49 : Int))]) (L' := [imm (TR.sl TR.int) v0 x0]) (fun _ _ st => st) ?_
  refine GL.seq ?_
  refine GL.region ?_
  refine RL.binI (v := .bool (decide ((i49 : Int) < ((x0).length : Int)))) rfl rfl rfl rfl rfl ?_
  refine RL.finG ?_
  refine GL.seq ?_
  refine GL.cond rfl (fun b57 => ?_) (fun b57 => ?_)
  ·have h58 : i49 < (x0).length := by have := of_decide_eq_true b57; omega
   obtain ⟨y59, r61, hr, e60, h62⟩ := drop_cons h56 rfl h58
   subst hr
   obtain ⟨z51, h52, h53⟩ := rangeL_some h54
   unfold piles_Move_b2 at h52
   try dsimp only at h52
   refine GL.skip ?_
   refine GL.seq ?_
   refine GL.block ?_
   refine GL.seq ?_
   refine GL.region ?_
   refine RL.mv rfl rfl rfl ?_
   refine RL.idxS (sz := 1) 0 Tryz.underlying61 Tryz_ln3 rfl rfl rfl rfl rfl SlOf.imm (by omega) (by omega) ?_
   refine RL.ldSx (i := i49) (e' := y59) 0 Ex.ik Tryz_ln3 rfl rfl rfl rfl SlOf.imm e60 Part.self ?_
   refine RL.asg rfl rfl rfl ?_
   refine RL.asg rfl rfl rfl ?_
   refine RL.finG ?_
   refine GL.seq ?_
   refine GL.region ?_
   refine RL.mv rfl rfl rfl ?_
   refine RL.mv rfl rfl rfl ?_
   refine RL.binI (v := .int .i64 (bits .xor .i64 y59 x7)) rfl rfl rfl rfl rfl ?_
   refine RL.mv rfl rfl rfl ?_
   refine RL.binI (v := .bool (decide ((bits .xor .i64 y59 x7) < y59))) rfl rfl rfl rfl rfl ?_
   refine RL.finG ?_
   refine GL.cond rfl (fun b63 => ?_) (fun b63 => ?_)
   ·replace h52 := ite_t b63 h52
    refine GL.seq ?_
    refine GL.region ?_
    refine RL.mv rfl rfl rfl ?_
    refine RL.mv rfl rfl rfl ?_
    refine RL.mv rfl rfl rfl ?_
    refine RL.mv rfl rfl rfl ?_
    refine RL.binI (v := .int .i64 (bits .xor .i64 y59 x7)) rfl rfl rfl rfl rfl ?_
    refine RL.binI (v := .int .i64 (wsub y59 (bits .xor .i64 y59 x7))) rfl rfl rfl rfl rfl ?_
    refine RL.asg rfl rfl rfl ?_
    refine RL.asg rfl rfl rfl ?_
    refine RL.asg rfl rfl rfl ?_
    refine RL.finG ?_
    cases h52
    replace h53 : some (Fl.rt _) = some y42 := h53
    cases h53
    have hh := h47 _ h45
    subst hh
    exact GL.ret (Gx.ret (v := .tuple #[.int .i64 (i49 : Int), .int .i64 (wsub y59 (bits .xor .i64 y59 x7)), .int .i64 (0 : Int)]) (res3 rfl rfl rfl rfl) (fun a w st => st.toPostC rfl))
   replace h52 := ite_f b63 h52
   refine GL.skip ?_
   refine GL.nilB ?_
   refine GL.region ?_
   refine RL.binI (v := .int .i64 ((i49 + 1 : Nat) : Int)) rfl rfl rfl rfl (binI_succ i49 (by omega)) ?_
   refine RL.mv rfl rfl rfl ?_
   refine RL.fin ?_
   cases h52
   exact fun a w st => lop_intro (i49 + 1, r61) ⟨by show i49 + 1 + r61.length = (x0).length; simp only [List.length_cons] at h55; omega, h62, h53⟩ (by simp) (St.cut [0] ⟨rfl, rfl, rfl, rfl, trivial⟩ (by decide) rfl st)
  have h58 : ¬ i49 < (x0).length := by have := of_decide_eq_false b57; omega
  obtain rfl : r50 = [] := by rw [← h56]; exact List.drop_of_length_le (by omega)
  replace h54 : some (Fl.nx _) = some y42 := h54
  cases h54
  exact GL.exit (fun a w st => mid_intro () h45 (St.cut [] trivial (by decide) rfl st))
 rintro ⟨⟩ h64
 have h65 := h46 _ h64
 try dsimp only at h65
 refine GL.weak (env' := []) (L' := []) (fun _ _ st => st) ?_
 refine GL.seq ?_
 refine GL.region ?_
 refine RL.asg rfl rfl rfl ?_
 refine RL.asg rfl rfl rfl ?_
 refine RL.asg rfl rfl rfl ?_
 refine RL.finG ?_
 have h65 := Option.some.inj h65
 subst h65
 exact GL.ret (Gx.ret (v := .tuple #[.int .i64 (0 : Int), .int .i64 (0 : Int), .int .i64 (4 : Int)]) (res3 rfl rfl rfl rfl) (fun a w st => st.toPostC rfl))
end Go.Wk
