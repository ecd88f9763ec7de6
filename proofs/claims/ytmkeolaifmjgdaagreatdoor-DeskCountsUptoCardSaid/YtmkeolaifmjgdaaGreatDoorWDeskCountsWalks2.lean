/- Each function comes to what its model says; printed by a program of this repository. -/
import Derived.Test.YtmkeolaifmjgdaaGreatDoorProg
import Derived.Test.YtmkeolaifmjgdaaGreatDoorWDeskCountsModels
import Derived.Test.YtmkeolaifmjgdaaGreatDoorWDeskCountsWalks1
namespace Go.Wk
open Go.Fw Go.Mo Go.Proofs Go.RowKit
set_option linter.all false
set_option maxRecDepth 100000
set_option maxHeartbeats 4000000

theorem ledger_Right_c (S : Hp) (w : World) (hS : S.sub w) (v0 : Value) (x0 : TyD) (k0 : (TrD).vrep S v0 x0) (res : Int) (hm : ledger_Right_m x0 = some res) : Calls Tryz.prog 67 #[v0] w (PostV w (.int .i64 res)) := by
 refine calls_enter 58 Tryz.func67 Tryz.ntmps67 rfl S false [(0, v0)] [imm TrD v0 x0] rfl ⟨rfl, trivial⟩ hS ⟨k0, trivial⟩ ?_
 unfold ledger_Right_m at hm
 refine GL.seq ?_
 refine GL.region ?_
 refine RL.box (t := TrD) (e := x0) rfl rfl rfl rfl (VR.item 0 rfl) ?_
 intro v3
 refine RL.asg rfl rfl rfl ?_
 refine RL.finG ?_
 refine GL.seq ?_
 refine GL.seq ?_
 obtain ⟨y17, K18, h19, h20, h21, h22, h23⟩ := bindR_K hm
 refine GL.join (ι := Bool) (fun (p : Bool) => [(1, v3), (19, .bool p)]) (fun (p : Bool) => [obox 57 TrD v3 x0]) (fun (p : Bool) => K18 (.nx p)) ?_ ?_
 ·skip
  refine GL.region ?_
  refine RL.fadr (off := 0) (fo := 0) 1 Tryz_fld57_0 rfl rfl rfl PtOf.obox (Or.inr ⟨rfl, rfl⟩) ?_
  refine RL.ldPx (off := (0 + 0)) (e' := x0.1) 1 Ex.str Tryz_ln9 rfl rfl (Or.inl rfl) rfl PtOf.obox (Part.fst Part.self) ?_
  obtain ⟨y24, e25, h19⟩ := bind_some h19
  refine RL.callV (v := .bool y24) (vs := [(sv x0.1)]) Tryz_fit87 rfl (Or.inl rfl) rfl rfl rfl rfl (fun U w hU hW hL => ledger_named_c U w hU x0.1 _ e25) ?_
  refine RL.notB rfl rfl rfl ?_
  refine RL.mv rfl rfl rfl ?_
  refine RL.split (t := 7) rfl (fun b26 => ?_) (fun b26 => ?_)
  ·replace h19 := ite_t b26 h19
   refine RL.skip rfl rfl ?_
   refine RL.skip rfl rfl ?_
   refine RL.skip rfl rfl ?_
   refine RL.skip rfl rfl ?_
   refine RL.pickT rfl rfl rfl rfl ?_
   refine RL.mv rfl rfl rfl ?_
   refine RL.skip rfl rfl ?_
   refine RL.skip rfl rfl ?_
   refine RL.skip rfl rfl ?_
   refine RL.skip rfl rfl ?_
   refine RL.skip rfl rfl ?_
   refine RL.pickT rfl rfl rfl rfl ?_
   refine RL.fin ?_
   cases h19
   exact fun a w st => mid_intro true h20 (St.cut [1] ⟨rfl, rfl, trivial⟩ (by decide) rfl st)
  replace h19 := ite_f b26 h19
  refine RL.fadr (off := 0) (fo := 1) 1 Tryz_fld57_1 rfl rfl rfl PtOf.obox (Or.inr ⟨rfl, rfl⟩) ?_
  refine RL.ldPx (off := (0 + 1)) (e' := x0.2.1) 1 Ex.str Tryz_ln9 rfl rfl (Or.inl rfl) rfl PtOf.obox (Part.snd (Part.fst Part.self)) ?_
  obtain ⟨y27, e28, h19⟩ := bind_some h19
  refine RL.callV (v := .bool y27) (vs := [(sv x0.2.1)]) Tryz_fit87 rfl (Or.inl rfl) rfl rfl rfl rfl (fun U w hU hW hL => ledger_named_c U w hU x0.2.1 _ e28) ?_
  refine RL.notB rfl rfl rfl ?_
  refine RL.pickF rfl rfl rfl rfl ?_
  refine RL.mv rfl rfl rfl ?_
  refine RL.split (t := 13) rfl (fun b29 => ?_) (fun b29 => ?_)
  ·replace h19 := ite_t b29 h19
   refine RL.skip rfl rfl ?_
   refine RL.skip rfl rfl ?_
   refine RL.skip rfl rfl ?_
   refine RL.skip rfl rfl ?_
   refine RL.skip rfl rfl ?_
   refine RL.pickT rfl rfl rfl rfl ?_
   refine RL.fin ?_
   cases h19
   exact fun a w st => mid_intro true h20 (St.cut [1] ⟨rfl, rfl, trivial⟩ (by decide) rfl st)
  replace h19 := ite_f b29 h19
  refine RL.fadr (off := 0) (fo := 0) 1 Tryz_fld57_0 rfl rfl rfl PtOf.obox (Or.inr ⟨rfl, rfl⟩) ?_
  refine RL.ldPx (off := (0 + 0)) (e' := x0.1) 1 Ex.str Tryz_ln9 rfl rfl (Or.inl rfl) rfl PtOf.obox (Part.fst Part.self) ?_
  refine RL.fadr (off := 0) (fo := 1) 1 Tryz_fld57_1 rfl rfl rfl PtOf.obox (Or.inr ⟨rfl, rfl⟩) ?_
  refine RL.ldPx (off := (0 + 1)) (e' := x0.2.1) 1 Ex.str Tryz_ln9 rfl rfl (Or.inl rfl) rfl PtOf.obox (Part.snd (Part.fst Part.self)) ?_
  refine RL.binS (v := .bool (x0.1 == x0.2.1)) rfl rfl rfl rfl rfl ?_
  refine RL.pickF rfl rfl rfl rfl ?_
  refine RL.fin ?_
  cases h19
  exact fun a w st => mid_intro (x0.1 == x0.2.1) h20 (St.cut [1] ⟨rfl, rfl, trivial⟩ (by decide) rfl st)
 rintro x16 h30
 have h31 := h21 _ h30
 try dsimp only at h31
 refine GL.weak (env' := [(1, v3), (19, .bool x16)]) (L' := [obox 57 TrD v3 x0]) ss ?_
 refine GL.cond rfl (fun b32 => ?_) (fun b32 => ?_)
 ·replace h31 := ite_t b32 h31
  refine GL.seq ?_
  refine GL.region ?_
  refine RL.asg rfl rfl rfl ?_
  refine RL.finG ?_
  have h31 := Option.some.inj h31
  subst h31
  exact GL.ret (Gx.ret (v := .int .i64 (3 : Int)) (res1 rfl rfl) (fun a w st => st.toPostV))
 replace h31 := ite_f b32 h31
 refine GL.skip ?_
 refine GL.seq ?_
 refine GL.seq ?_
 obtain ⟨y48, K49, h50, h51, h52, h53, h54⟩ := bindR_K h31
 refine GL.join (ι := Bool) (fun (p : Bool) => [(57, .bool p)]) (fun (p : Bool) => []) (fun (p : Bool) => K49 (.nx p)) ?_ ?_
 ·skip
  refine GL.region ?_
  refine RL.fadr (off := 0) (fo := 2) 0 Tryz_fld57_2 rfl rfl rfl PtOf.obox (Or.inr ⟨rfl, rfl⟩) ?_
  refine RL.ldPx (off := (0 + 2)) (e' := x0.2.2.1) 0 Ex.ik Tryz_ln3 rfl rfl (Or.inl rfl) rfl PtOf.obox (Part.snd (Part.snd (Part.fst Part.self))) ?_
  refine RL.binI (v := .bool (decide (x0.2.2.1 < (0 : Int)))) rfl rfl rfl rfl rfl ?_
  refine RL.mv rfl rfl rfl ?_
  refine RL.split (t := 23) rfl (fun b55 => ?_) (fun b55 => ?_)
  ·replace h50 := ite_t b55 h50
   refine RL.skip rfl rfl ?_
   refine RL.skip rfl rfl ?_
   refine RL.skip rfl rfl ?_
   refine RL.pickT rfl rfl rfl rfl ?_
   refine RL.mv rfl rfl rfl ?_
   refine RL.skip rfl rfl ?_
   refine RL.skip rfl rfl ?_
   refine RL.skip rfl rfl ?_
   refine RL.pickT rfl rfl rfl rfl ?_
   refine RL.mv rfl rfl rfl ?_
   refine RL.skip rfl rfl ?_
   refine RL.skip rfl rfl ?_
   refine RL.skip rfl rfl ?_
   refine RL.pickT rfl rfl rfl rfl ?_
   refine RL.mv rfl rfl rfl ?_
   refine RL.skip rfl rfl ?_
   refine RL.skip rfl rfl ?_
   refine RL.skip rfl rfl ?_
   refine RL.pickT rfl rfl rfl rfl ?_
   refine RL.mv rfl rfl rfl ?_
   refine RL.skip rfl rfl ?_
   refine RL.skip rfl rfl ?_
   refine RL.skip rfl rfl ?_
   refine RL.pickT rfl rfl rfl rfl ?_
   refine RL.mv rfl rfl rfl ?_
   refine RL.skip rfl rfl ?_
   refine RL.skip rfl rfl ?_
   refine RL.skip rfl rfl ?_
   refine RL.pickT rfl rfl rfl rfl ?_
   refine RL.mv rfl rfl rfl ?_
   refine RL.skip rfl rfl ?_
   refine RL.skip rfl rfl ?_
   refine RL.skip rfl rfl ?_
   refine RL.pickT rfl rfl rfl rfl ?_
   refine RL.fin ?_
   cases h50
   exact fun a w st => mid_intro true h51 (St.cut [] ⟨rfl, trivial⟩ (by decide) rfl st)
  replace h50 := ite_f b55 h50
  refine RL.fadr (off := 0) (fo := 2) 0 Tryz_fld57_2 rfl rfl rfl PtOf.obox (Or.inr ⟨rfl, rfl⟩) ?_
  refine RL.ldPx (off := (0 + 2)) (e' := x0.2.2.1) 0 Ex.ik Tryz_ln3 rfl rfl (Or.inl rfl) rfl PtOf.obox (Part.snd (Part.snd (Part.fst Part.self))) ?_
  refine RL.binI (v := .bool (decide (x0.2.2.1 > (1000000 : Int)))) rfl rfl rfl rfl rfl ?_
  refine RL.pickF rfl rfl rfl rfl ?_
  refine RL.mv rfl rfl rfl ?_
  refine RL.split (t := 28) rfl (fun b56 => ?_) (fun b56 => ?_)
  ·replace h50 := ite_t b56 h50
   refine RL.skip rfl rfl ?_
   refine RL.skip rfl rfl ?_
   refine RL.skip rfl rfl ?_
   refine RL.pickT rfl rfl rfl rfl ?_
   refine RL.mv rfl rfl rfl ?_
   refine RL.skip rfl rfl ?_
   refine RL.skip rfl rfl ?_
   refine RL.skip rfl rfl ?_
   refine RL.pickT rfl rfl rfl rfl ?_
   refine RL.mv rfl rfl rfl ?_
   refine RL.skip rfl rfl ?_
   refine RL.skip rfl rfl ?_
   refine RL.skip rfl rfl ?_
   refine RL.pickT rfl rfl rfl rfl ?_
   refine RL.mv rfl rfl rfl ?_
   refine RL.skip rfl rfl ?_
   refine RL.skip rfl rfl ?_
   refine RL.skip rfl rfl ?_
   refine RL.pickT rfl rfl rfl rfl ?_
   refine RL.mv rfl rfl rfl ?_
   refine RL.skip rfl rfl ?_
   refine RL.skip rfl rfl ?_
   refine RL.skip rfl rfl ?_
   refine RL.pickT rfl rfl rfl rfl ?_
   refine RL.mv rfl rfl rfl ?_
   refine RL.skip rfl rfl ?_
   refine RL.skip rfl rfl ?_
   refine RL.skip rfl rfl ?_
   refine RL.pickT rfl rfl rfl rfl ?_
   refine RL.fin ?_
   cases h50
   exact fun a w st => mid_intro true h51 (St.cut [] ⟨rfl, trivial⟩ (by decide) rfl st)
  replace h50 := ite_f b56 h50
  refine RL.fadr (off := 0) (fo := 3) 0 Tryz_fld57_3 rfl rfl rfl PtOf.obox (Or.inr ⟨rfl, rfl⟩) ?_
  refine RL.ldPx (off := (0 + 3)) (e' := x0.2.2.2.1) 0 Ex.ik Tryz_ln3 rfl rfl (Or.inl rfl) rfl PtOf.obox (Part.snd (Part.snd (Part.snd (Part.fst Part.self)))) ?_
  refine RL.binI (v := .bool (decide (x0.2.2.2.1 < (0 : Int)))) rfl rfl rfl rfl rfl ?_
  refine RL.pickF rfl rfl rfl rfl ?_
  refine RL.mv rfl rfl rfl ?_
  refine RL.split (t := 33) rfl (fun b57 => ?_) (fun b57 => ?_)
  ·replace h50 := ite_t b57 h50
   refine RL.skip rfl rfl ?_
   refine RL.skip rfl rfl ?_
   refine RL.skip rfl rfl ?_
   refine RL.pickT rfl rfl rfl rfl ?_
   refine RL.mv rfl rfl rfl ?_
   refine RL.skip rfl rfl ?_
   refine RL.skip rfl rfl ?_
   refine RL.skip rfl rfl ?_
   refine RL.pickT rfl rfl rfl rfl ?_
   refine RL.mv rfl rfl rfl ?_
   refine RL.skip rfl rfl ?_
   refine RL.skip rfl rfl ?_
   refine RL.skip rfl rfl ?_
   refine RL.pickT rfl rfl rfl rfl ?_
   refine RL.mv rfl rfl rfl ?_
   refine RL.skip rfl rfl ?_
   refine RL.skip rfl rfl ?_
   refine RL.skip rfl rfl ?_
   refine RL.pickT rfl rfl rfl rfl ?_
   refine RL.mv rfl rfl rfl ?_
   refine RL.skip rfl rfl ?_
   refine RL.skip rfl rfl ?_
   refine RL.skip rfl rfl ?_
   refine RL.pickT rfl rfl rfl rfl ?_
   refine RL.fin ?_
   cases h50
   exact fun a w st => mid_intro true h51 (St.cut [] ⟨rfl, trivial⟩ (by decide) rfl st)
  replace h50 := ite_f b57 h50
  refine RL.fadr (off := 0) (fo := 3) 0 Tryz_fld57_3 rfl rfl rfl PtOf.obox (Or.inr ⟨rfl, rfl⟩) ?_
  refine RL.ldPx (off := (0 + 3)) (e' := x0.2.2.2.1) 0 Ex.ik Tryz_ln3 rfl rfl (Or.inl rfl) rfl PtOf.obox (Part.snd (Part.snd (Part.snd (Part.fst Part.self)))) ?_
  refine RL.binI (v := .bool (decide (x0.2.2.2.1 > (1000000 : Int)))) rfl rfl rfl rfl rfl ?_
  refine RL.pickF rfl rfl rfl rfl ?_
  refine RL.mv rfl rfl rfl ?_
  refine RL.split (t := 38) rfl (fun b58 => ?_) (fun b58 => ?_)
  ·replace h50 := ite_t b58 h50
   refine RL.skip rfl rfl ?_
   refine RL.skip rfl rfl ?_
   refine RL.skip rfl rfl ?_
   refine RL.pickT rfl rfl rfl rfl ?_
   refine RL.mv rfl rfl rfl ?_
   refine RL.skip rfl rfl ?_
   refine RL.skip rfl rfl ?_
   refine RL.skip rfl rfl ?_
   refine RL.pickT rfl rfl rfl rfl ?_
   refine RL.mv rfl rfl rfl ?_
   refine RL.skip rfl rfl ?_
   refine RL.skip rfl rfl ?_
   refine RL.skip rfl rfl ?_
   refine RL.pickT rfl rfl rfl rfl ?_
   refine RL.mv rfl rfl rfl ?_
   refine RL.skip rfl rfl ?_
   refine RL.skip rfl rfl ?_
   refine RL.skip rfl rfl ?_
   refine RL.pickT rfl rfl rfl rfl ?_
   refine RL.fin ?_
   cases h50
   exact fun a w st => mid_intro true h51 (St.cut [] ⟨rfl, trivial⟩ (by decide) rfl st)
  replace h50 := ite_f b58 h50
  refine RL.fadr (off := 0) (fo := 4) 0 Tryz_fld57_4 rfl rfl rfl PtOf.obox (Or.inr ⟨rfl, rfl⟩) ?_
  refine RL.ldPx (off := (0 + 4)) (e' := x0.2.2.2.2.1) 0 Ex.ik Tryz_ln3 rfl rfl (Or.inl rfl) rfl PtOf.obox (Part.snd (Part.snd (Part.snd (Part.snd (Part.fst Part.self))))) ?_
  refine RL.binI (v := .bool (decide (x0.2.2.2.2.1 < (0 : Int)))) rfl rfl rfl rfl rfl ?_
  refine RL.pickF rfl rfl rfl rfl ?_
  refine RL.mv rfl rfl rfl ?_
  refine RL.split (t := 43) rfl (fun b59 => ?_) (fun b59 => ?_)
  ·replace h50 := ite_t b59 h50
   refine RL.skip rfl rfl ?_
   refine RL.skip rfl rfl ?_
   refine RL.skip rfl rfl ?_
   refine RL.pickT rfl rfl rfl rfl ?_
   refine RL.mv rfl rfl rfl ?_
   refine RL.skip rfl rfl ?_
   refine RL.skip rfl rfl ?_
   refine RL.skip rfl rfl ?_
   refine RL.pickT rfl rfl rfl rfl ?_
   refine RL.mv rfl rfl rfl ?_
   refine RL.skip rfl rfl ?_
   refine RL.skip rfl rfl ?_
   refine RL.skip rfl rfl ?_
   refine RL.pickT rfl rfl rfl rfl ?_
   refine RL.fin ?_
   cases h50
   exact fun a w st => mid_intro true h51 (St.cut [] ⟨rfl, trivial⟩ (by decide) rfl st)
  replace h50 := ite_f b59 h50
  refine RL.fadr (off := 0) (fo := 4) 0 Tryz_fld57_4 rfl rfl rfl PtOf.obox (Or.inr ⟨rfl, rfl⟩) ?_
  refine RL.ldPx (off := (0 + 4)) (e' := x0.2.2.2.2.1) 0 Ex.ik Tryz_ln3 rfl rfl (Or.inl rfl) rfl PtOf.obox (Part.snd (Part.snd (Part.snd (Part.snd (Part.fst Part.self))))) ?_
  refine RL.binI (v := .bool (decide (x0.2.2.2.2.1 > (1000000 : Int)))) rfl rfl rfl rfl rfl ?_
  refine RL.pickF rfl rfl rfl rfl ?_
  refine RL.mv rfl rfl rfl ?_
  refine RL.split (t := 48) rfl (fun b60 => ?_) (fun b60 => ?_)
  ·replace h50 := ite_t b60 h50
   refine RL.skip rfl rfl ?_
   refine RL.skip rfl rfl ?_
   refine RL.skip rfl rfl ?_
   refine RL.pickT rfl rfl rfl rfl ?_
   refine RL.mv rfl rfl rfl ?_
   refine RL.skip rfl rfl ?_
   refine RL.skip rfl rfl ?_
   refine RL.skip rfl rfl ?_
   refine RL.pickT rfl rfl rfl rfl ?_
   refine RL.fin ?_
   cases h50
   exact fun a w st => mid_intro true h51 (St.cut [] ⟨rfl, trivial⟩ (by decide) rfl st)
  replace h50 := ite_f b60 h50
  refine RL.fadr (off := 0) (fo := 5) 0 Tryz_fld57_5 rfl rfl rfl PtOf.obox (Or.inr ⟨rfl, rfl⟩) ?_
  refine RL.ldPx (off := (0 + 5)) (e' := x0.2.2.2.2.2) 0 Ex.ik Tryz_ln3 rfl rfl (Or.inl rfl) rfl PtOf.obox (Part.snd (Part.snd (Part.snd (Part.snd (Part.snd Part.self))))) ?_
  refine RL.binI (v := .bool (decide (x0.2.2.2.2.2 < (1 : Int)))) rfl rfl rfl rfl rfl ?_
  refine RL.pickF rfl rfl rfl rfl ?_
  refine RL.mv rfl rfl rfl ?_
  refine RL.split (t := 53) rfl (fun b61 => ?_) (fun b61 => ?_)
  ·replace h50 := ite_t b61 h50
   refine RL.skip rfl rfl ?_
   refine RL.skip rfl rfl ?_
   refine RL.skip rfl rfl ?_
   refine RL.pickT rfl rfl rfl rfl ?_
   refine RL.fin ?_
   cases h50
   exact fun a w st => mid_intro true h51 (St.cut [] ⟨rfl, trivial⟩ (by decide) rfl st)
  replace h50 := ite_f b61 h50
  refine RL.fadr (off := 0) (fo := 5) 0 Tryz_fld57_5 rfl rfl rfl PtOf.obox (Or.inr ⟨rfl, rfl⟩) ?_
  refine RL.ldPx (off := (0 + 5)) (e' := x0.2.2.2.2.2) 0 Ex.ik Tryz_ln3 rfl rfl (Or.inl rfl) rfl PtOf.obox (Part.snd (Part.snd (Part.snd (Part.snd (Part.snd Part.self))))) ?_
  refine RL.binI (v := .bool (decide (x0.2.2.2.2.2 > (100 : Int)))) rfl rfl rfl rfl rfl ?_
  refine RL.pickF rfl rfl rfl rfl ?_
  refine RL.fin ?_
  cases h50
  exact fun a w st => mid_intro (decide (x0.2.2.2.2.2 > (100 : Int))) h51 (St.cut [] ⟨rfl, trivial⟩ (by decide) rfl st)
 rintro x47 h62
 have h63 := h52 _ h62
 try dsimp only at h63
 refine GL.weak (env' := [(57, .bool x47)]) (L' := []) ss ?_
 refine GL.cond rfl (fun b64 => ?_) (fun b64 => ?_)
 ·replace h63 := ite_t b64 h63
  refine GL.seq ?_
  refine GL.region ?_
  refine RL.asg rfl rfl rfl ?_
  refine RL.finG ?_
  have h63 := Option.some.inj h63
  subst h63
  exact GL.ret (Gx.ret (v := .int .i64 (1 : Int)) (res1 rfl rfl) (fun a w st => st.toPostV))
 replace h63 := ite_f b64 h63
 refine GL.skip ?_
 refine GL.seq ?_
 refine GL.region ?_
 refine RL.asg rfl rfl rfl ?_
 refine RL.finG ?_
 have h63 := Option.some.inj h63
 subst h63
 exact GL.ret (Gx.ret (v := .int .i64 (0 : Int)) (res1 rfl rfl) (fun a w st => st.toPostV))

theorem slices_IndexFunc_api_Deal_api_Deal_c (S : Hp) (w : World) (hS : S.sub w) (v0 : Value) (x0 : (List TyD)) (k0 : ((TR.sl TrD)).vrep S v0 x0) (f1 : FuncId) (c1 : Array Value) (t1 : Fit Tryz.prog f1) (g1 : TyD → Option Bool) (k1 : ∀ (U : Hp) (w' : World), Hp.le S U → U.sub w' → ∀ (u0 : Value) (a0 : TyD) (_ : (TrD).vrep U u0 a0) (rr : Bool), g1 a0 = some rr → Calls Tryz.prog f1 (#[u0] ++ c1) w' (PostV w' (.bool rr))) (res : Int) (hm : slices_IndexFunc_api_Deal_api_Deal_m x0 g1 = some res) : Calls Tryz.prog 93 #[v0, .func (.func f1) #[] c1] w (PostV w (.int .i64 res)) := by
 refine calls_enter 19 Tryz.func93 Tryz.ntmps93 rfl S false [(0, v0), (1, .func (.func f1) #[] c1)] [imm (TR.sl TrD) v0 x0] rfl ⟨rfl, ⟨rfl, trivial⟩⟩ hS ⟨k0, trivial⟩ ?_
 unfold slices_IndexFunc_api_Deal_api_Deal_m at hm
 refine GL.seq ?_
 refine GL.region ?_
 refine RL.asg rfl rfl rfl ?_
 refine RL.finG ?_
 refine GL.seq ?_
 refine GL.seq ?_
 refine GL.region ?_
 refine RL.mv rfl rfl rfl ?_
 refine RL.lenS 0 Tryz.underlying43 rfl rfl rfl rfl SlOf.imm ?_
 refine RL.mv rfl rfl rfl ?_
 refine RL.finG ?_
 refine GL.open_ 0 rfl (fun S h => len_imm S h) (fun n14 => ?_)
 obtain ⟨y15, K16, h17, h18, h19, h20, h21⟩ := bindR_K hm
 refine GL.join (ι := Unit) (fun (p : Unit) => []) (fun (p : Unit) => []) (fun (p : Unit) => K16 (.nx ())) ?_ ?_
 ·refine GL.block ?_
  refine GL.loop (ι := Nat × (List TyD)) (fun (p : Nat × (List TyD)) => [(0, v0), (1, .func (.func f1) #[] c1), (7, .int .i64 ((x0).length : Int)), (8, .int .i64 (p.1 : Int))]) (fun (p : Nat × (List TyD)) => [imm (TR.sl TrD) v0 x0]) (fun (p : Nat × (List TyD)) => p.1 + p.2.length = (x0).length ∧ List.drop p.1 x0 = p.2 ∧ rangeL (slices_IndexFunc_api_Deal_api_Deal_b1 g1) p.2 p.1 () = some y15) (fun (p : Nat × (List TyD)) => p.2.length) (0, x0) ⟨by simp, by simp, h17⟩ (fun a w st => St.cut [0] ⟨rfl, rfl, rfl, rfl, trivial⟩ (by decide) rfl st) ?_
  rintro ⟨i22, r23⟩ ⟨h28, h29, h27⟩
  try dsimp only at h28 h29 h27
  refine GL.weak (env' := [(0, v0), (1, .func (.func f1) #[] c1), (7, .int .i64 ((x0).length : Int)), (8, .int .i64 (i22 : Int))]) (L' := [imm (TR.sl TrD) v0 x0]) ss ?_
  refine GL.seq ?_
  refine GL.region ?_
  refine RL.binI (v := .bool (decide ((i22 : Int) < ((x0).length : Int)))) rfl rfl rfl rfl rfl ?_
  refine RL.finG ?_
  refine GL.seq ?_
  refine GL.cond rfl (fun b30 => ?_) (fun b30 => ?_)
  ·have h31 : i22 < (x0).length := by have := of_decide_eq_true b30; omega
   obtain ⟨y32, r34, hr, e33, h35⟩ := drop_cons h29 rfl h31
   subst hr
   obtain ⟨z24, h25, h26⟩ := rangeL_some h27
   unfold slices_IndexFunc_api_Deal_api_Deal_b1 at h25
   try dsimp only at h25
   refine GL.skip ?_
   refine GL.seq ?_
   refine GL.block ?_
   refine GL.seq ?_
   refine GL.region ?_
   refine RL.mv rfl rfl rfl ?_
   refine RL.asg rfl rfl rfl ?_
   refine RL.finG ?_
   refine GL.seq ?_
   refine GL.region ?_
   refine RL.mv rfl rfl rfl ?_
   refine RL.mv rfl rfl rfl ?_
   refine RL.mv rfl rfl rfl ?_
   refine RL.idxS (sz := 6) 0 Tryz.underlying43 Tryz_ln57 rfl rfl rfl rfl rfl SlOf.imm (by omega) (by omega) ?_
   refine RL.ldS (i := i22) (r := TrD) (e' := y32) 0 Tryz_ln57 rfl rfl rfl rfl SlOf.imm e33 Part.self ?_
   intro v39
   obtain ⟨y40, e41, h25⟩ := bind_some h25
   refine RL.callV (v := .bool y40) (vs := [v39]) t1 rfl (Or.inl rfl) rfl rfl rfl rfl (fun U w hU hW hL => k1 U w hW hU _ _ (hL 1 _ _ rfl Seen.imm) _ e41) ?_
   refine RL.finG ?_
   refine GL.cond rfl (fun b42 => ?_) (fun b42 => ?_)
   ·replace h25 := ite_t b42 h25
    refine GL.seq ?_
    refine GL.region ?_
    refine RL.mv rfl rfl rfl ?_
    refine RL.asg rfl rfl rfl ?_
    refine RL.finG ?_
    cases h25
    replace h26 : some (Fl.rt _) = some y15 := h26
    cases h26
    have hh := h20 _ h18
    subst hh
    exact GL.ret (Gx.ret (v := .int .i64 (i22 : Int)) (res1 rfl rfl) (fun a w st => st.toPostV))
   replace h25 := ite_f b42 h25
   refine GL.skip ?_
   refine GL.nilB ?_
   refine GL.region ?_
   refine RL.binI (v := .int .i64 ((i22 + 1 : Nat) : Int)) rfl rfl rfl rfl (binI_succ i22 (by omega)) ?_
   refine RL.mv rfl rfl rfl ?_
   refine RL.fin ?_
   cases h25
   exact fun a w st => lop_intro (i22 + 1, r34) ⟨by show i22 + 1 + r34.length = (x0).length; simp only [List.length_cons] at h28; omega, h35, h26⟩ (by simp) (St.cut [0] ⟨rfl, rfl, rfl, rfl, trivial⟩ (by decide) rfl st)
  have h31 : ¬ i22 < (x0).length := by have := of_decide_eq_false b30; omega
  obtain rfl : r23 = [] := by rw [← h29]; exact List.drop_of_length_le (by omega)
  replace h27 : some (Fl.nx _) = some y15 := h27
  cases h27
  exact GL.exit (fun a w st => mid_intro () h18 (St.cut [] trivial (by decide) rfl st))
 rintro ⟨⟩ h43
 have h44 := h19 _ h43
 try dsimp only at h44
 refine GL.weak (env' := []) (L' := []) ss ?_
 refine GL.seq ?_
 refine GL.region ?_
 refine RL.asg rfl rfl rfl ?_
 refine RL.finG ?_
 have h44 := Option.some.inj h44
 subst h44
 exact GL.ret (Gx.ret (v := .int .i64 (-1 : Int)) (res1 rfl rfl) (fun a w st => st.toPostV))

theorem queue_find_1_c (S : Hp) (w : World) (hS : S.sub w) (v0 : Value) (x0 : TyD) (k0 : (TrD).vrep S v0 x0) (v1 : Value) (x1 : B8) (k1 : ((TR.ptr TR.str)).vrep S v1 x1) (v2 : Value) (x2 : Int) (k2 : ((TR.ptr TR.int)).vrep S v2 x2) (res : Bool) (hm : queue_find_1_m x0 x1 x2 = some res) : Calls Tryz.prog 94 #[v0, v1, v2] w (PostV w (.bool res)) := by
 refine calls_enter 15 Tryz.func94 Tryz.ntmps94 rfl S false [(0, v0), (1, v1), (2, v2)] [imm TrD v0 x0, imm (TR.ptr TR.str) v1 x1, imm (TR.ptr TR.int) v2 x2] rfl ⟨rfl, ⟨rfl, ⟨rfl, trivial⟩⟩⟩ hS ⟨k0, ⟨k1, ⟨k2, trivial⟩⟩⟩ ?_
 unfold queue_find_1_m at hm
 refine GL.seq ?_
 refine GL.region ?_
 refine RL.box (t := TrD) (e := x0) rfl rfl rfl rfl (VR.item 0 rfl) ?_
 intro v5
 refine RL.asg rfl rfl rfl ?_
 refine RL.finG ?_
 refine GL.seq ?_
 obtain ⟨y9, K10, h11, h12, h13, h14, h15⟩ := bindR_K hm
 refine GL.join (ι := Bool) (fun (p : Bool) => [(4, .bool p)]) (fun (p : Bool) => []) (fun (p : Bool) => K10 (.nx p)) ?_ ?_
 ·skip
  refine GL.region ?_
  refine RL.fadr (off := 0) (fo := 0) 3 Tryz_fld57_0 rfl rfl rfl PtOf.obox (Or.inr ⟨rfl, rfl⟩) ?_
  refine RL.ldPx (off := (0 + 0)) (e' := x0.1) 3 Ex.str Tryz_ln9 rfl rfl (Or.inl rfl) rfl PtOf.obox (Part.fst Part.self) ?_
  refine RL.ldPx (off := 0) (e' := x1) 1 Ex.str Tryz_ln9 rfl rfl (Or.inr ⟨rfl, rfl⟩) rfl PtOf.imm Part.self ?_
  refine RL.binS (v := .bool (x0.1 == x1)) rfl rfl rfl rfl rfl ?_
  refine RL.mv rfl rfl rfl ?_
  refine RL.split (t := 9) rfl (fun b16 => ?_) (fun b16 => ?_)
  ·replace h11 := ite_t b16 h11
   refine RL.fadr (off := 0) (fo := 2) 3 Tryz_fld57_2 rfl rfl rfl PtOf.obox (Or.inr ⟨rfl, rfl⟩) ?_
   refine RL.ldPx (off := (0 + 2)) (e' := x0.2.2.1) 3 Ex.ik Tryz_ln3 rfl rfl (Or.inl rfl) rfl PtOf.obox (Part.snd (Part.snd (Part.fst Part.self))) ?_
   refine RL.ldPx (off := 0) (e' := x2) 2 Ex.ik Tryz_ln3 rfl rfl (Or.inr ⟨rfl, rfl⟩) rfl PtOf.imm Part.self ?_
   refine RL.binI (v := .bool (x0.2.2.1 == x2)) rfl rfl rfl rfl rfl ?_
   refine RL.pickT rfl rfl rfl rfl ?_
   refine RL.asg rfl rfl rfl ?_
   refine RL.fin ?_
   cases h11
   exact fun a w st => mid_intro (x0.2.2.1 == x2) h12 (St.cut [] ⟨rfl, trivial⟩ (by decide) rfl st)
  replace h11 := ite_f b16 h11
  refine RL.skip rfl rfl ?_
  refine RL.skip rfl rfl ?_
  refine RL.skip rfl rfl ?_
  refine RL.skip rfl rfl ?_
  refine RL.pickF rfl rfl rfl rfl ?_
  refine RL.asg rfl rfl rfl ?_
  refine RL.fin ?_
  cases h11
  exact fun a w st => mid_intro false h12 (St.cut [] ⟨rfl, trivial⟩ (by decide) rfl st)
 rintro x8 h17
 have h18 := h13 _ h17
 try dsimp only at h18
 refine GL.weak (env' := [(4, .bool x8)]) (L' := []) ss ?_
 have h18 := Option.some.inj h18
 subst h18
 exact GL.ret (Gx.ret (v := .bool x8) (res1 rfl rfl) (fun a w st => st.toPostV))

theorem queue_find_c (S : Hp) (w : World) (hS : S.sub w) (v0 : Value) (x0 : (List TyD)) (k0 : ((TR.sl TrD)).vrep S v0 x0) (x1 : B8) (x2 : Int) (res : Int) (hm : queue_find_m x0 x1 x2 = some res) : Calls Tryz.prog 68 #[v0, (sv x1), .int .i64 x2] w (PostV w (.int .i64 res)) := by
 refine calls_enter 10 Tryz.func68 Tryz.ntmps68 rfl S false [(0, v0), (1, (sv x1)), (2, .int .i64 x2)] [imm (TR.sl TrD) v0 x0] rfl ⟨rfl, ⟨rfl, ⟨rfl, trivial⟩⟩⟩ hS ⟨k0, trivial⟩ ?_
 unfold queue_find_m at hm
 refine GL.seq ?_
 refine GL.region ?_
 refine RL.box (t := TR.str) (e := x1) rfl rfl rfl rfl VR.str ?_
 intro v6
 refine RL.box (t := TR.int) (e := x2) rfl rfl rfl rfl VR.int ?_
 intro v7
 refine RL.reL (L' := [imm (TR.sl TrD) v0 x0, obox 9 TR.str v6 x1, obox 3 TR.int v7 x2]) rfl ?_
 refine RL.asg rfl rfl rfl ?_
 refine RL.finG ?_
 refine GL.seq ?_
 refine GL.region ?_
 refine RL.mv rfl rfl rfl ?_
 refine RL.mkF (vs := [v6, v7]) rfl rfl rfl ?_
 obtain ⟨y10, e11, hm⟩ := bind_some hm
 refine RL.callV (v := .int .i64 y10) (vs := [v0, .func (.func 94) #[] #[v6, v7]]) Tryz_fit93 rfl (Or.inl rfl) rfl rfl rfl rfl (fun U w hU hW hL => slices_IndexFunc_api_Deal_api_Deal_c U w hU _ _ (hL 0 _ _ rfl Seen.imm) 94 #[v6, v7] Tryz_fit94 (fun a0 => queue_find_1_m a0 x1 x2) (fun U' w' hle hU' u0 a0 q0 rr hr => (queue_find_1_c U' w' hU' u0 a0 q0 _ _ (TR.vrep_mono hle (hL 1 _ _ rfl Seen.obox)) _ _ (TR.vrep_mono hle (hL 2 _ _ rfl Seen.obox)) rr hr).mono (fun _ _ z => z)) _ e11) ?_
 refine RL.asg rfl rfl rfl ?_
 refine RL.finG ?_
 have hm := Option.some.inj hm
 subst hm
 exact GL.ret (Gx.ret (v := .int .i64 y10) (res1 rfl rfl) (fun a w st => st.toPostV))

theorem queue_Check_c (S : Hp) (w : World) (hS : S.sub w) (v0 : Value) (x0 : (List TyD)) (k0 : ((TR.sl TrD)).vrep S v0 x0) (res : Int) (hm : queue_Check_m x0 = some res) : Calls Tryz.prog 66 #[v0] w (PostV w (.int .i64 res)) := by
 refine calls_enter 31 Tryz.func66 Tryz.ntmps66 rfl S false [(0, v0)] [imm (TR.sl TrD) v0 x0] rfl ⟨rfl, trivial⟩ hS ⟨k0, trivial⟩ ?_
 unfold queue_Check_m at hm
 refine GL.seq ?_
 refine GL.region ?_
 refine RL.asg rfl rfl rfl ?_
 refine RL.finG ?_
 refine GL.seq ?_
 refine GL.seq ?_
 refine GL.region ?_
 refine RL.mv rfl rfl rfl ?_
 refine RL.lenS 0 Tryz.underlying43 rfl rfl rfl rfl SlOf.imm ?_
 refine RL.binI (v := .bool (decide (((x0).length : Int) > (20 : Int)))) rfl rfl rfl rfl rfl ?_
 refine RL.finG ?_
 refine GL.cond rfl (fun b2 => ?_) (fun b2 => ?_)
 ·replace hm := ite_t b2 hm
  refine GL.seq ?_
  refine GL.region ?_
  refine RL.asg rfl rfl rfl ?_
  refine RL.finG ?_
  have hm := Option.some.inj hm
  subst hm
  exact GL.ret (Gx.ret (v := .int .i64 (2 : Int)) (res1 rfl rfl) (fun a w st => st.toPostV))
 replace hm := ite_f b2 hm
 refine GL.skip ?_
 refine GL.seq ?_
 refine GL.seq ?_
 refine GL.region ?_
 refine RL.mv rfl rfl rfl ?_
 refine RL.lenS 0 Tryz.underlying43 rfl rfl rfl rfl SlOf.imm ?_
 refine RL.mv rfl rfl rfl ?_
 refine RL.finG ?_
 refine GL.open_ 0 rfl (fun S h => len_imm S h) (fun n29 => ?_)
 obtain ⟨y30, K31, h32, h33, h34, h35, h36⟩ := bindR_K hm
 refine GL.join (ι := Unit) (fun (p : Unit) => []) (fun (p : Unit) => []) (fun (p : Unit) => K31 (.nx ())) ?_ ?_
 ·refine GL.block ?_
  refine GL.loop (ι := Nat × (List TyD)) (fun (p : Nat × (List TyD)) => [(0, v0), (9, v0), (10, .int .i64 ((x0).length : Int)), (11, .int .i64 (p.1 : Int))]) (fun (p : Nat × (List TyD)) => [imm (TR.sl TrD) v0 x0]) (fun (p : Nat × (List TyD)) => p.1 + p.2.length = (x0).length ∧ List.drop p.1 x0 = p.2 ∧ rangeL (queue_Check_b1 x0) p.2 p.1 () = some y30) (fun (p : Nat × (List TyD)) => p.2.length) (0, x0) ⟨by simp, by simp, h32⟩ (fun a w st => St.cut [0] ⟨rfl, rfl, rfl, rfl, trivial⟩ (by decide) rfl st) ?_
  rintro ⟨i37, r38⟩ ⟨h43, h44, h42⟩
  try dsimp only at h43 h44 h42
  refine GL.weak (env' := [(0, v0), (9, v0), (10, .int .i64 ((x0).length : Int)), (11, .int .i64 (i37 : Int))]) (L' := [imm (TR.sl TrD) v0 x0]) ss ?_
  refine GL.seq ?_
  refine GL.region ?_
  refine RL.binI (v := .bool (decide ((i37 : Int) < ((x0).length : Int)))) rfl rfl rfl rfl rfl ?_
  refine RL.finG ?_
  refine GL.seq ?_
  refine GL.cond rfl (fun b45 => ?_) (fun b45 => ?_)
  ·have h46 : i37 < (x0).length := by have := of_decide_eq_true b45; omega
   obtain ⟨y47, r49, hr, e48, h50⟩ := drop_cons h44 rfl h46
   subst hr
   obtain ⟨z39, h40, h41⟩ := rangeL_some h42
   unfold queue_Check_b1 at h40
   try dsimp only at h40
   refine GL.skip ?_
   refine GL.seq ?_
   refine GL.block ?_
   refine GL.seq ?_
   refine GL.region ?_
   refine RL.mv rfl rfl rfl ?_
   refine RL.idxS (sz := 6) 0 Tryz.underlying43 Tryz_ln57 rfl rfl rfl rfl rfl SlOf.imm (by omega) (by omega) ?_
   refine RL.ldS (i := i37) (r := TrD) (e' := y47) 0 Tryz_ln57 rfl rfl rfl rfl SlOf.imm e48 Part.self ?_
   intro v53
   refine RL.alloc (t := TrD) (z := (([] : B8), ([] : B8), (0 : Int), (0 : Int), (0 : Int), (0 : Int))) Tryz_lo57 (fun S => ⟨[.string ⟨#[]⟩], _, rfl, rfl, ⟨[.string ⟨#[]⟩], _, rfl, rfl, ⟨[.int .i64 0], _, rfl, rfl, ⟨[.int .i64 0], _, rfl, rfl, ⟨[.int .i64 0], _, rfl, rfl, rfl⟩⟩⟩⟩⟩) rfl rfl rfl ?_
   intro v54
   refine RL.reL (L' := [imm (TR.sl TrD) v0 x0, imm TrD v53 y47, obox 57 TrD v54 (([] : B8), ([] : B8), (0 : Int), (0 : Int), (0 : Int), (0 : Int))]) rfl ?_
   refine RL.asg rfl rfl rfl ?_
   refine RL.stP (off := 0) (e' := y47) (d1 := y47) (r := TrD) 2 Tryz_ln57 rfl rfl (Or.inr ⟨rfl, rfl⟩) rfl (VR.item 1 rfl) rfl Upd.self ?_
   refine RL.finG ?_
   refine GL.seq ?_
   refine GL.seq ?_
   refine GL.region ?_
   refine RL.ldP (off := 0) (r := TrD) (e' := y47) 2 Tryz_ln57 rfl rfl (Or.inr ⟨rfl, rfl⟩) rfl PtOf.obox Part.self ?_
   intro v58
   refine RL.reL (L' := [imm (TR.sl TrD) v0 x0, imm TrD v53 y47, obox 57 TrD v54 y47, imm TrD v58 y47]) rfl ?_
   obtain ⟨y59, e60, h40⟩ := bind_some h40
   refine RL.callV (v := .int .i64 y59) (vs := [v58]) Tryz_fit67 rfl (Or.inl rfl) rfl rfl rfl rfl (fun U w hU hW hL => ledger_Right_c U w hU _ _ (hL 3 _ _ rfl Seen.imm) _ e60) ?_
   refine RL.asg rfl rfl rfl ?_
   refine RL.finG ?_
   refine GL.seq ?_
   refine GL.region ?_
   refine RL.mv rfl rfl rfl ?_
   refine RL.binI (v := .bool (y59 != (0 : Int))) rfl rfl rfl rfl rfl ?_
   refine RL.finG ?_
   refine GL.cond rfl (fun b61 => ?_) (fun b61 => ?_)
   ·replace h40 := ite_t b61 h40
    refine GL.seq ?_
    refine GL.region ?_
    refine RL.mv rfl rfl rfl ?_
    refine RL.asg rfl rfl rfl ?_
    refine RL.finG ?_
    cases h40
    replace h41 : some (Fl.rt _) = some y30 := h41
    cases h41
    have hh := h35 _ h33
    subst hh
    exact GL.ret (Gx.ret (v := .int .i64 y59) (res1 rfl rfl) (fun a w st => st.toPostV))
   replace h40 := ite_f b61 h40
   refine GL.skip ?_
   refine GL.seq ?_
   refine GL.regionQ rfl rfl (by kernel_rfl) ?_
   refine RL.mv rfl rfl rfl ?_
   refine RL.mv rfl rfl rfl ?_
   obtain ⟨y67, e68, h40⟩ := bind_some h40
   replace e68 := chk_some e68
   refine RL.slc (t := TrD) (i := 0) (j := ((i37 : Int)).toNat) (sz := 6) 0 Tryz.underlying43 Tryz_ln57 rfl rfl rfl rfl (Or.inl ⟨rfl, rfl⟩) (Or.inr ⟨_, _, rfl, by rw [Int.toNat_of_nonneg (by omega)]; rfl⟩) rfl (by omega) (by omega) ?_
   intro v69
   refine RL.fadr (off := 0) (fo := 0) 2 Tryz_fld57_0 rfl rfl rfl PtOf.obox (Or.inr ⟨rfl, rfl⟩) ?_
   refine RL.ldPx (off := (0 + 0)) (e' := y47.1) 2 Ex.str Tryz_ln9 rfl rfl (Or.inl rfl) rfl PtOf.obox (Part.fst Part.self) ?_
   refine RL.fadr (off := 0) (fo := 2) 2 Tryz_fld57_2 rfl rfl rfl PtOf.obox (Or.inr ⟨rfl, rfl⟩) ?_
   refine RL.ldPx (off := (0 + 2)) (e' := y47.2.2.1) 2 Ex.ik Tryz_ln3 rfl rfl (Or.inl rfl) rfl PtOf.obox (Part.snd (Part.snd (Part.fst Part.self))) ?_
   obtain ⟨y70, e71, h40⟩ := bind_some h40
   refine RL.callV (v := .int .i64 y70) (vs := [v69, (sv y47.1), .int .i64 y47.2.2.1]) Tryz_fit68 rfl (Or.inr ⟨_, rfl⟩) rfl rfl rfl rfl (fun U w hU hW hL => queue_find_c U w hU _ _ (hL 4 _ _ rfl Seen.imm) y47.1 y47.2.2.1 _ e71) ?_
   refine RL.binI (v := .bool (decide (y70 ≥ (0 : Int)))) rfl rfl rfl rfl rfl ?_
   refine RL.finQG ?_
   refine GL.cond rfl (fun b72 => ?_) (fun b72 => ?_)
   ·replace h40 := ite_t b72 h40
    refine GL.seq ?_
    refine GL.region ?_
    refine RL.asg rfl rfl rfl ?_
    refine RL.finG ?_
    cases h40
    replace h41 : some (Fl.rt _) = some y30 := h41
    cases h41
    have hh := h35 _ h33
    subst hh
    exact GL.ret (Gx.ret (v := .int .i64 (7 : Int)) (res1 rfl rfl) (fun a w st => st.toPostV))
   replace h40 := ite_f b72 h40
   refine GL.skip ?_
   refine GL.nilB ?_
   refine GL.region ?_
   refine RL.binI (v := .int .i64 ((i37 + 1 : Nat) : Int)) rfl rfl rfl rfl (binI_succ i37 (by omega)) ?_
   refine RL.mv rfl rfl rfl ?_
   refine RL.fin ?_
   cases h40
   exact fun a w st => lop_intro (i37 + 1, r49) ⟨by show i37 + 1 + r49.length = (x0).length; simp only [List.length_cons] at h43; omega, h50, h41⟩ (by simp) (St.cut [0] ⟨rfl, rfl, rfl, rfl, trivial⟩ (by decide) rfl st)
  have h46 : ¬ i37 < (x0).length := by have := of_decide_eq_false b45; omega
  obtain rfl : r38 = [] := by rw [← h44]; exact List.drop_of_length_le (by omega)
  replace h42 : some (Fl.nx _) = some y30 := h42
  cases h42
  exact GL.exit (fun a w st => mid_intro () h33 (St.cut [] trivial (by decide) rfl st))
 rintro ⟨⟩ h73
 have h74 := h34 _ h73
 try dsimp only at h74
 refine GL.weak (env' := []) (L' := []) ss ?_
 refine GL.seq ?_
 refine GL.region ?_
 refine RL.asg rfl rfl rfl ?_
 refine RL.finG ?_
 have h74 := Option.some.inj h74
 subst h74
 exact GL.ret (Gx.ret (v := .int .i64 (0 : Int)) (res1 rfl rfl) (fun a w st => st.toPostV))

theorem slices_Clone_api_Deal_api_Deal_c (S : Hp) (w : World) (hS : S.sub w) (v0 : Value) (x0 : List TyD) (k0 : (TR.sl TrD).vrep S v0 x0) (res : List TyD) (hm : slices_Clone_api_Deal_api_Deal_m x0 = some res) : Calls Tryz.prog 69 #[v0] w (Post w S (fun (o : Value) => o) (fun (o : Value) => [own 57 TrD o res])) := by
  refine calls_enter 8 Tryz.func69 Tryz.ntmps69 rfl S false [(0, v0)] [imm (TR.sl TrD) v0 x0] rfl ⟨rfl, trivial⟩ hS ⟨k0, trivial⟩ ?_
  unfold slices_Clone_api_Deal_api_Deal_m at hm
  obtain ⟨_, hc, hm⟩ := bind_some hm
  replace hc := chk_some hc
  have hm := Option.some.inj hm
  subst hm
  refine GL.seq (GL.region (RL.asg rfl rfl rfl (RL.finG (GL.seq (GL.seq (GL.region ?_))))))
  refine RL.mv rfl rfl rfl ?_
  refine RL.eqNil 0 Tryz.underlying43 rfl rfl rfl rfl rfl SlOf.imm (fun b hb => ?_)
  refine RL.finG (GL.cond rfl (fun h => ?_) (fun h => ?_))
  · have := hb h
    subst this
    refine GL.seq (GL.region (RL.asg rfl rfl rfl (RL.finG ?_)))
    refine GL.weak (fun a w st => st.nilOwn 57 TrD) ?_
    exact GL.ret (Gx.ret (v := Value.slice none 0 0) (res1 rfl rfl) (fun a w st => (st.pick [1] (by decide) rfl).toPost (Value.slice none 0 0)))
  · refine GL.skip (GL.seq (GL.region ?_))
    refine RL.bS (t := TrD) (vs := []) ([] : List TyD) Tryz.underlying43 Tryz_lo57 rfl rfl rfl rfl trivial rfl (by decide) ?_
    intro v1
    refine RL.mv rfl rfl rfl ?_
    refine RL.app 1 0 Tryz.underlying43 Tryz_lo57 rfl rfl rfl rfl rfl rfl rfl SlOf.imm (by simpa using hc) ?_
    intro v2
    refine RL.asg rfl rfl rfl (RL.finG ?_)
    exact GL.ret (Gx.ret (v := v2) (res1 rfl rfl) (fun a w st => (st.pick [1] (by decide) rfl).toPost v2))

theorem queue_Add_c (S : Hp) (w : World) (hS : S.sub w) (v0 : Value) (x0 : (List TyD)) (k0 : ((TR.sl TrD)).vrep S v0 x0) (v1 : Value) (x1 : TyD) (k1 : (TrD).vrep S v1 x1) (res : (List TyD) × Int) (hm : queue_Add_m x0 x1 = some res) : Calls Tryz.prog 43 #[v0, v1] w (Post w S (fun (o : Value) => .tuple #[o, .int .i64 res.2]) (fun (o : Value) => [own 57 TrD o res.1])) := by
 refine calls_enter 51 Tryz.func43 Tryz.ntmps43 rfl S false [(0, v0), (1, v1)] [imm (TR.sl TrD) v0 x0, imm TrD v1 x1] rfl ⟨rfl, ⟨rfl, trivial⟩⟩ hS ⟨k0, ⟨k1, trivial⟩⟩ ?_
 unfold queue_Add_m at hm
 refine GL.seq ?_
 refine GL.region ?_
 refine RL.box (t := TrD) (e := x1) rfl rfl rfl rfl (VR.item 1 rfl) ?_
 intro v4
 refine RL.asg rfl rfl rfl ?_
 refine RL.asg rfl rfl rfl ?_
 refine RL.finG ?_
 refine GL.seq ?_
 refine GL.seq ?_
 refine GL.region ?_
 refine RL.mv rfl rfl rfl ?_
 obtain ⟨y7, e8, hm⟩ := bind_some hm
 refine RL.callV (v := .int .i64 y7) (vs := [v0]) Tryz_fit66 rfl (Or.inl rfl) rfl rfl rfl rfl (fun U w hU hW hL => queue_Check_c U w hU _ _ (hL 0 _ _ rfl Seen.imm) _ e8) ?_
 refine RL.asg rfl rfl rfl ?_
 refine RL.finG ?_
 refine GL.seq ?_
 refine GL.region ?_
 refine RL.mv rfl rfl rfl ?_
 refine RL.binI (v := .bool (y7 != (0 : Int))) rfl rfl rfl rfl rfl ?_
 refine RL.finG ?_
 refine GL.cond rfl (fun b9 => ?_) (fun b9 => ?_)
 ·replace hm := ite_t b9 hm
  refine GL.seq ?_
  refine GL.region ?_
  refine RL.mv rfl rfl rfl ?_
  refine RL.asg rfl rfl rfl ?_
  refine RL.asg rfl rfl rfl ?_
  refine RL.finG ?_
  refine GL.weak (fun a w st => st.nilOwn 57 TrD) ?_
  have hm := Option.some.inj hm
  subst hm
  exact GL.ret (Gx.ret (v := .tuple #[Value.slice none 0 0, .int .i64 y7]) (res2 rfl rfl rfl) (fun a w st => (st.pick [3] (by decide) rfl).toPost (Value.slice none 0 0)))
 replace hm := ite_f b9 hm
 refine GL.skip ?_
 refine GL.seq ?_
 refine GL.seq ?_
 refine GL.region ?_
 refine RL.ldP (off := 0) (r := TrD) (e' := x1) 2 Tryz_ln57 rfl rfl (Or.inr ⟨rfl, rfl⟩) rfl PtOf.obox Part.self ?_
 intro v13
 refine RL.reL (L' := [imm (TR.sl TrD) v0 x0, imm TrD v1 x1, obox 57 TrD v4 x1, imm TrD v13 x1]) rfl ?_
 obtain ⟨y14, e15, hm⟩ := bind_some hm
 refine RL.callV (v := .int .i64 y14) (vs := [v13]) Tryz_fit67 rfl (Or.inl rfl) rfl rfl rfl rfl (fun U w hU hW hL => ledger_Right_c U w hU _ _ (hL 3 _ _ rfl Seen.imm) _ e15) ?_
 refine RL.asg rfl rfl rfl ?_
 refine RL.finG ?_
 refine GL.seq ?_
 refine GL.region ?_
 refine RL.mv rfl rfl rfl ?_
 refine RL.binI (v := .bool (y14 != (0 : Int))) rfl rfl rfl rfl rfl ?_
 refine RL.finG ?_
 refine GL.cond rfl (fun b16 => ?_) (fun b16 => ?_)
 ·replace hm := ite_t b16 hm
  refine GL.seq ?_
  refine GL.region ?_
  refine RL.mv rfl rfl rfl ?_
  refine RL.asg rfl rfl rfl ?_
  refine RL.asg rfl rfl rfl ?_
  refine RL.finG ?_
  refine GL.weak (fun a w st => st.nilOwn 57 TrD) ?_
  have hm := Option.some.inj hm
  subst hm
  exact GL.ret (Gx.ret (v := .tuple #[Value.slice none 0 0, .int .i64 y14]) (res2 rfl rfl rfl) (fun a w st => (st.pick [4] (by decide) rfl).toPost (Value.slice none 0 0)))
 replace hm := ite_f b16 hm
 refine GL.skip ?_
 refine GL.seq ?_
 refine GL.seq ?_
 refine GL.region ?_
 refine RL.mv rfl rfl rfl ?_
 refine RL.fadr (off := 0) (fo := 0) 2 Tryz_fld57_0 rfl rfl rfl PtOf.obox (Or.inr ⟨rfl, rfl⟩) ?_
 refine RL.ldPx (off := (0 + 0)) (e' := x1.1) 2 Ex.str Tryz_ln9 rfl rfl (Or.inl rfl) rfl PtOf.obox (Part.fst Part.self) ?_
 refine RL.fadr (off := 0) (fo := 2) 2 Tryz_fld57_2 rfl rfl rfl PtOf.obox (Or.inr ⟨rfl, rfl⟩) ?_
 refine RL.ldPx (off := (0 + 2)) (e' := x1.2.2.1) 2 Ex.ik Tryz_ln3 rfl rfl (Or.inl rfl) rfl PtOf.obox (Part.snd (Part.snd (Part.fst Part.self))) ?_
 obtain ⟨y19, e20, hm⟩ := bind_some hm
 refine RL.callV (v := .int .i64 y19) (vs := [v0, (sv x1.1), .int .i64 x1.2.2.1]) Tryz_fit68 rfl (Or.inl rfl) rfl rfl rfl rfl (fun U w hU hW hL => queue_find_c U w hU _ _ (hL 0 _ _ rfl Seen.imm) x1.1 x1.2.2.1 _ e20) ?_
 refine RL.asg rfl rfl rfl ?_
 refine RL.finG ?_
 refine GL.seq ?_
 refine GL.region ?_
 refine RL.mv rfl rfl rfl ?_
 refine RL.binI (v := .bool (decide (y19 ≥ (0 : Int)))) rfl rfl rfl rfl rfl ?_
 refine RL.finG ?_
 refine GL.cond rfl (fun b21 => ?_) (fun b21 => ?_)
 ·replace hm := ite_t b21 hm
  refine GL.seq ?_
  refine GL.seq ?_
  refine GL.regionQ rfl rfl (by kernel_rfl) ?_
  refine RL.fadr (off := 0) (fo := 4) 2 Tryz_fld57_4 rfl rfl rfl PtOf.obox (Or.inr ⟨rfl, rfl⟩) ?_
  refine RL.ldPx (off := (0 + 4)) (e' := x1.2.2.2.2.1) 2 Ex.ik Tryz_ln3 rfl rfl (Or.inl rfl) rfl PtOf.obox (Part.snd (Part.snd (Part.snd (Part.snd (Part.fst Part.self))))) ?_
  refine RL.mv rfl rfl rfl ?_
  refine RL.mv rfl rfl rfl ?_
  obtain ⟨y24, e25, hm⟩ := bind_some hm
  refine RL.idxS (sz := 6) 0 Tryz.underlying43 Tryz_ln57 rfl rfl rfl rfl rfl SlOf.imm (idx_some e25).1 (idx_some e25).2.1 ?_
  refine RL.fadrS (off := ((y19).toNat * 6)) (fo := 4) 0 Tryz_fld57_4 rfl rfl rfl SlOf.imm (by have := (List.getElem?_eq_some_iff.1 (idx_some e25).2.2).1; (try dsimp only at this ⊢); omega) rfl ?_
  refine RL.ldSx (i := (y19).toNat) (e' := y24.2.2.2.2.1) 0 Ex.ik Tryz_ln3 rfl rfl rfl rfl SlOf.imm (idx_some e25).2.2 (Part.snd (Part.snd (Part.snd (Part.snd (Part.fst Part.self))))) ?_
  refine RL.binI (v := .bool (decide (x1.2.2.2.2.1 ≤ y24.2.2.2.2.1))) rfl rfl rfl rfl rfl ?_
  refine RL.finQG ?_
  refine GL.cond rfl (fun b26 => ?_) (fun b26 => ?_)
  ·replace hm := ite_t b26 hm
   refine GL.seq ?_
   refine GL.region ?_
   refine RL.asg rfl rfl rfl ?_
   refine RL.asg rfl rfl rfl ?_
   refine RL.finG ?_
   refine GL.weak (fun a w st => st.nilOwn 57 TrD) ?_
   have hm := Option.some.inj hm
   subst hm
   exact GL.ret (Gx.ret (v := .tuple #[Value.slice none 0 0, .int .i64 (7 : Int)]) (res2 rfl rfl rfl) (fun a w st => (st.pick [4] (by decide) rfl).toPost (Value.slice none 0 0)))
  replace hm := ite_f b26 hm
  refine GL.skip ?_
  refine GL.seq ?_
  refine GL.region ?_
  refine RL.mv rfl rfl rfl ?_
  obtain ⟨y30, e31, hm⟩ := bind_some hm
  refine RL.call (vs := [v0]) Tryz_fit69 rfl rfl rfl rfl rfl (fun S f w hS hW hi => slices_Clone_api_Deal_api_Deal_c S w hS _ _ (hi 0 _ rfl) _ e31) ?_
  intro v32
  refine RL.asg rfl rfl rfl ?_
  refine RL.finG ?_
  refine GL.seq ?_
  refine GL.region ?_
  refine RL.mv rfl rfl rfl ?_
  refine RL.mv rfl rfl rfl ?_
  refine RL.ldP (off := 0) (r := TrD) (e' := x1) 2 Tryz_ln57 rfl rfl (Or.inr ⟨rfl, rfl⟩) rfl PtOf.obox Part.self ?_
  intro v36
  refine RL.reL (L' := [imm (TR.sl TrD) v0 x0, imm TrD v1 x1, obox 57 TrD v4 x1, imm TrD v13 x1, own 57 TrD v32 y30, imm TrD v36 x1]) rfl ?_
  obtain ⟨y37, e38, hm⟩ := bind_some hm
  refine RL.idxS (sz := 6) 4 Tryz.underlying43 Tryz_ln57 rfl rfl rfl rfl rfl SlOf.own (idx_some e38).1 (idx_some e38).2.1 ?_
  refine RL.stS (i := (y19).toNat) (e' := x1) (e1 := x1) (r := TrD) 4 Tryz_ln57 rfl rfl rfl rfl (VR.item 5 rfl) rfl (idx_some e38).2.2 Upd.self ?_
  refine RL.finG ?_
  refine GL.seq ?_
  refine GL.region ?_
  refine RL.mv rfl rfl rfl ?_
  refine RL.asg rfl rfl rfl ?_
  refine RL.asg rfl rfl rfl ?_
  refine RL.finG ?_
  have hm := Option.some.inj hm
  subst hm
  exact GL.ret (Gx.ret (v := .tuple #[v32, .int .i64 (0 : Int)]) (res2 rfl rfl rfl) (fun a w st => (st.pick [4] (by decide) rfl).toPost v32))
 replace hm := ite_f b21 hm
 refine GL.skip ?_
 refine GL.seq ?_
 refine GL.seq ?_
 refine GL.region ?_
 refine RL.mv rfl rfl rfl ?_
 refine RL.lenS 0 Tryz.underlying43 rfl rfl rfl rfl SlOf.imm ?_
 refine RL.binI (v := .bool (((x0).length : Int) == (20 : Int))) rfl rfl rfl rfl rfl ?_
 refine RL.finG ?_
 refine GL.cond rfl (fun b39 => ?_) (fun b39 => ?_)
 ·replace hm := ite_t b39 hm
  refine GL.seq ?_
  refine GL.region ?_
  refine RL.asg rfl rfl rfl ?_
  refine RL.asg rfl rfl rfl ?_
  refine RL.finG ?_
  refine GL.weak (fun a w st => st.nilOwn 57 TrD) ?_
  have hm := Option.some.inj hm
  subst hm
  exact GL.ret (Gx.ret (v := .tuple #[Value.slice none 0 0, .int .i64 (8 : Int)]) (res2 rfl rfl rfl) (fun a w st => (st.pick [4] (by decide) rfl).toPost (Value.slice none 0 0)))
 replace hm := ite_f b39 hm
 refine GL.skip ?_
 refine GL.seq ?_
 refine GL.regionA rfl rfl ?_
 refine RA.mv 0 rfl (by kernel_rfl) rfl rfl rfl ?_
 obtain ⟨y65, e66, hm⟩ := bind_some hm
 refine RA.meet (ι := Value × Value) (fun (p : Value × Value) => [(47, p.1), (49, p.2)]) (fun (p : Value × Value) => [own 57 TrD p.1 y65, own 57 TrD p.2 ([x1] : (List TyD))]) 3 q_84 (fun h75 => ?_) ?_
 ·skip
  refine RA.meet (ι := Value) (fun (p : Value) => [(46, v0), (49, p)]) (fun (p : Value) => [imm (TR.sl TrD) v0 x0, own 57 TrD p ([x1] : (List TyD))]) 4 q_85 (fun h76 => ?_) ?_
  rotate_left
  ·rintro v73
   refine RA.weak (env' := [(46, v0), (49, v73)]) (L' := [imm (TR.sl TrD) v0 x0, own 57 TrD v73 ([x1] : (List TyD))]) ss ?_
   refine RA.seq 1 rfl (by kernel_rfl) ?_
   refine RL.call (vs := [v0]) Tryz_fit69 rfl rfl rfl rfl rfl (fun S f w hS hW hi => slices_Clone_api_Deal_api_Deal_c S w hS _ _ (hi 0 _ rfl) _ e66) ?_
   intro v86
   refine RL.fin ?_
   refine RA.next ?_
   refine RA.relist 3 q_84 rfl (by kernel_rfl) ?_
   exact fun a w st => h75 (v86, v73) a w (St.cut [2, 1] ⟨rfl, rfl, trivial⟩ (by decide) rfl st)
  refine RA.meet (ι := Value × Value) (fun (p : Value × Value) => [(47, p.1), (48, p.2)]) (fun (p : Value × Value) => [own 57 TrD p.1 y65, imm TrD p.2 x1]) 4 q_86 (fun h77 => ?_) ?_
  rotate_left
  ·rintro ⟨v70, v72⟩
   refine RA.weak (env' := [(47, v70), (48, v72)]) (L' := [own 57 TrD v70 y65, imm TrD v72 x1]) ss ?_
   refine RA.seq 3 rfl (by kernel_rfl) ?_
   refine RL.bS (t := TrD) (vs := [v72]) ([x1] : (List TyD)) Tryz.underlying43 Tryz_lo57 rfl rfl rfl rfl ⟨(VR.item 1 rfl), trivial⟩ rfl (by decide) ?_
   intro v85
   refine RL.fin ?_
   refine RA.next ?_
   refine RA.relist 3 q_84 rfl (by kernel_rfl) ?_
   exact fun a w st => h75 (v70, v85) a w (St.cut [0, 2] ⟨rfl, rfl, trivial⟩ (by decide) rfl st)
  refine RA.meet (ι := Value) (fun (p : Value) => [(3, v4), (47, p)]) (fun (p : Value) => [obox 57 TrD v4 x1, own 57 TrD p y65]) 5 q_87 (fun h78 => ?_) ?_
  rotate_left
  ·rintro v70
   refine RA.weak (env' := [(3, v4), (47, v70)]) (L' := [obox 57 TrD v4 x1, own 57 TrD v70 y65]) ss ?_
   refine RA.seq 2 rfl (by kernel_rfl) ?_
   refine RL.ldP (off := 0) (r := TrD) (e' := x1) 0 Tryz_ln57 rfl rfl (Or.inr ⟨rfl, rfl⟩) rfl PtOf.obox Part.self ?_
   intro v84
   refine RL.fin ?_
   refine RA.next ?_
   refine RA.relist 4 q_86 rfl (by kernel_rfl) ?_
   exact fun a w st => h77 (v70, v84) a w (St.cut [1, 2] ⟨rfl, rfl, trivial⟩ (by decide) rfl st)
  refine RA.meet (ι := Value) (fun (p : Value) => [(46, v0), (48, p)]) (fun (p : Value) => [imm (TR.sl TrD) v0 x0, imm TrD p x1]) 5 q_88 (fun h79 => ?_) ?_
  rotate_left
  ·rintro v71
   refine RA.weak (env' := [(46, v0), (48, v71)]) (L' := [imm (TR.sl TrD) v0 x0, imm TrD v71 x1]) ss ?_
   refine RA.many [1, 3] (by kernel_rfl) ⟨⟨_, rfl, ?_⟩, ⟨_, rfl, ?_⟩, trivial⟩
   ·skip
    refine RL.call (vs := [v0]) Tryz_fit69 rfl rfl rfl rfl rfl (fun S f w hS hW hi => slices_Clone_api_Deal_api_Deal_c S w hS _ _ (hi 0 _ rfl) _ e66) ?_
    intro v82
    refine RL.fin ?_
    refine RA.next ?_
    refine RA.relist 4 q_86 rfl (by kernel_rfl) ?_
    exact fun a w st => h77 (v82, v71) a w (St.cut [2, 1] ⟨rfl, rfl, trivial⟩ (by decide) rfl st)
   refine RL.bS (t := TrD) (vs := [v71]) ([x1] : (List TyD)) Tryz.underlying43 Tryz_lo57 rfl rfl rfl rfl ⟨(VR.item 1 rfl), trivial⟩ rfl (by decide) ?_
   intro v83
   refine RL.fin ?_
   refine RA.next ?_
   refine RA.relist 4 q_85 rfl (by kernel_rfl) ?_
   exact fun a w st => h76 v83 a w (St.cut [0, 2] ⟨rfl, rfl, trivial⟩ (by decide) rfl st)
  refine RA.many [1, 2] (by kernel_rfl) ⟨⟨_, rfl, ?_⟩, ⟨_, rfl, ?_⟩, trivial⟩
  ·skip
   refine RL.call (vs := [v0]) Tryz_fit69 rfl rfl rfl rfl rfl (fun S f w hS hW hi => slices_Clone_api_Deal_api_Deal_c S w hS _ _ (hi 0 _ rfl) _ e66) ?_
   intro v80
   refine RL.fin ?_
   refine RA.next ?_
   refine RA.relist 5 q_87 rfl (by kernel_rfl) ?_
   exact fun a w st => h78 v80 a w (St.cut [2, 4] ⟨rfl, rfl, trivial⟩ (by decide) rfl st)
  refine RL.ldP (off := 0) (r := TrD) (e' := x1) 2 Tryz_ln57 rfl rfl (Or.inr ⟨rfl, rfl⟩) rfl PtOf.obox Part.self ?_
  intro v81
  refine RL.fin ?_
  refine RA.next ?_
  refine RA.relist 5 q_88 rfl (by kernel_rfl) ?_
  exact fun a w st => h79 v81 a w (St.cut [0, 4] ⟨rfl, rfl, trivial⟩ (by decide) rfl st)
 rintro ⟨v74, v73⟩
 refine RA.weak (env' := [(47, v74), (49, v73)]) (L' := [own 57 TrD v74 y65, own 57 TrD v73 ([x1] : (List TyD))]) ss ?_
 refine RA.seq 4 rfl (by kernel_rfl) ?_
 obtain ⟨y87, e88, hm⟩ := bind_some hm
 replace e88 := chk_some e88
 refine RL.app 0 1 Tryz.underlying43 Tryz_lo57 rfl rfl rfl rfl rfl rfl rfl SlOf.own e88 ?_
 intro v89
 refine RL.fin ?_
 refine RA.next ?_
 refine RA.quiet 5 rfl rfl (by kernel_rfl) ?_
 simp only [List.drop_succ_cons, List.drop_zero]
 refine RL.asg rfl rfl rfl ?_
 refine RL.asg rfl rfl rfl ?_
 refine RL.finQ ?_
 refine RA.outQ ?_
 refine GL.weak (env' := [(4, v89), (5, .int .i64 (0 : Int))]) (L' := [own 57 TrD v89 (y65 ++ ([x1] : (List TyD)))]) (fun a w st => St.cut [0] ⟨rfl, rfl, trivial⟩ (by decide) rfl st) ?_
 have hm := Option.some.inj hm
 subst hm
 exact GL.ret (Gx.ret (v := .tuple #[v89, .int .i64 (0 : Int)]) (res2 rfl rfl rfl) (fun a w st => (st.pick [0] (by decide) rfl).toPost v89))

theorem house_House_find_1_c (S : Hp) (w : World) (hS : S.sub w) (v0 : Value) (x0 : TyA) (k0 : (TrA).vrep S v0 x0) (v1 : Value) (x1 : B8) (k1 : ((TR.ptr TR.str)).vrep S v1 x1) (res : Bool) (hm : house_House_find_1_m x0 x1 = some res) : Calls Tryz.prog 79 #[v0, v1] w (PostV w (.bool res)) := by
 refine calls_enter 8 Tryz.func79 Tryz.ntmps79 rfl S false [(0, v0), (1, v1)] [imm TrA v0 x0, imm (TR.ptr TR.str) v1 x1] rfl ⟨rfl, ⟨rfl, trivial⟩⟩ hS ⟨k0, ⟨k1, trivial⟩⟩ ?_
 unfold house_House_find_1_m at hm
 refine GL.seq ?_
 refine GL.region ?_
 refine RL.box (t := TrA) (e := x0) rfl rfl rfl rfl (VR.item 0 rfl) ?_
 intro v4
 refine RL.asg rfl rfl rfl ?_
 refine RL.finG ?_
 refine GL.seq ?_
 refine GL.region ?_
 refine RL.fadr (off := 0) (fo := 0) 2 Tryz_fld86_0 rfl rfl rfl PtOf.obox (Or.inr ⟨rfl, rfl⟩) ?_
 refine RL.ldPx (off := (0 + 0)) (e' := x0.1) 2 Ex.str Tryz_ln9 rfl rfl (Or.inl rfl) rfl PtOf.obox (Part.fst Part.self) ?_
 refine RL.ldPx (off := 0) (e' := x1) 1 Ex.str Tryz_ln9 rfl rfl (Or.inr ⟨rfl, rfl⟩) rfl PtOf.imm Part.self ?_
 refine RL.binS (v := .bool (x0.1 == x1)) rfl rfl rfl rfl rfl ?_
 refine RL.asg rfl rfl rfl ?_
 refine RL.finG ?_
 have hm := Option.some.inj hm
 subst hm
 exact GL.ret (Gx.ret (v := .bool (x0.1 == x1)) (res1 rfl rfl) (fun a w st => st.toPostV))

theorem house_House_find_c (S : Hp) (w : World) (hS : S.sub w) (v0 : Value) (x0 : TyH) (k0 : ((TR.ptr (TR.pair (TR.sl TrA) (TR.pair (TR.sl TrD) (TR.ptr TrL))))).vrep S v0 x0) (x1 : B8) (res : Int) (hm : house_House_find_m x0 x1 = some res) : Calls Tryz.prog 48 #[v0, (sv x1)] w (PostV w (.int .i64 res)) := by
 refine calls_enter 11 Tryz.func48 Tryz.ntmps48 rfl S false [(0, v0), (1, (sv x1))] [imm (TR.ptr (TR.pair (TR.sl TrA) (TR.pair (TR.sl TrD) (TR.ptr TrL)))) v0 x0] rfl ⟨rfl, ⟨rfl, trivial⟩⟩ hS ⟨k0, trivial⟩ ?_
 unfold house_House_find_m at hm
 refine GL.seq ?_
 refine GL.region ?_
 refine RL.box (t := TR.str) (e := x1) rfl rfl rfl rfl VR.str ?_
 intro v4
 refine RL.asg rfl rfl rfl ?_
 refine RL.finG ?_
 refine GL.seq ?_
 refine GL.region ?_
 refine RL.mv rfl rfl rfl ?_
 refine RL.nilk 0 rfl rfl rfl rfl PtOf.imm ?_
 refine RL.fadr (off := 0) (fo := 0) 0 Tryz_fld45_0 rfl rfl rfl PtOf.imm (Or.inr ⟨rfl, rfl⟩) ?_
 refine RL.ldP (off := (0 + 0)) (r := (TR.sl TrA)) (e' := x0.1) 0 Tryz_ln42 rfl rfl (Or.inl rfl) rfl PtOf.imm (Part.fst Part.self) ?_
 intro v8
 refine RL.reL (L' := [imm (TR.ptr (TR.pair (TR.sl TrA) (TR.pair (TR.sl TrD) (TR.ptr TrL)))) v0 x0, obox 9 TR.str v4 x1, imm (TR.sl TrA) v8 x0.1]) rfl ?_
 refine RL.mkF (vs := [v4]) rfl rfl rfl ?_
 obtain ⟨y9, e10, hm⟩ := bind_some hm
 refine RL.callV (v := .int .i64 y9) (vs := [v8, .func (.func 79) #[] #[v4]]) Tryz_fit78 rfl (Or.inl rfl) rfl rfl rfl rfl (fun U w hU hW hL => slices_IndexFunc_api_Account_api_Account_c U w hU _ _ (hL 2 _ _ rfl Seen.imm) 79 #[v4] Tryz_fit79 (fun a0 => house_House_find_1_m a0 x1) (fun U' w' hle hU' u0 a0 q0 rr hr => (house_House_find_1_c U' w' hU' u0 a0 q0 _ _ (TR.vrep_mono hle (hL 1 _ _ rfl Seen.obox)) rr hr).mono (fun _ _ z => z)) _ e10) ?_
 refine RL.asg rfl rfl rfl ?_
 refine RL.finG ?_
 have hm := Option.some.inj hm
 subst hm
 exact GL.ret (Gx.ret (v := .int .i64 y9) (res1 rfl rfl) (fun a w st => st.toPostV))

theorem ledger_Take_c (S : Hp) (w : World) (hS : S.sub w) (v0 : Value) (x0 : (List TyA)) (k0 : ((TR.sl TrA)).vrep S v0 x0) (v1 : Value) (x1 : TyD) (k1 : (TrD).vrep S v1 x1) (x2 : B8) (res : (List TyA) × Int) (hm : ledger_Take_m x0 x1 x2 = some res) : Calls Tryz.prog 77 #[v0, v1, (sv x2)] w (Post w S (fun (o : Value) => .tuple #[o, .int .i64 res.2]) (fun (o : Value) => [own 86 TrA o res.1])) := by
 refine calls_enter 111 Tryz.func77 Tryz.ntmps77 rfl S false [(0, v0), (1, v1), (2, (sv x2))] [imm (TR.sl TrA) v0 x0, imm TrD v1 x1] rfl ⟨rfl, ⟨rfl, ⟨rfl, trivial⟩⟩⟩ hS ⟨k0, ⟨k1, trivial⟩⟩ ?_
 unfold ledger_Take_m at hm
 refine GL.seq ?_
 refine GL.region ?_
 refine RL.box (t := TrD) (e := x1) rfl rfl rfl rfl (VR.item 1 rfl) ?_
 intro v5
 refine RL.asg rfl rfl rfl ?_
 refine RL.asg rfl rfl rfl ?_
 refine RL.finG ?_
 refine GL.seq ?_
 refine GL.seq ?_
 refine GL.region ?_
 refine RL.mv rfl rfl rfl ?_
 obtain ⟨y8, e9, hm⟩ := bind_some hm
 refine RL.callV (v := .int .i64 y8) (vs := [v0]) Tryz_fit86 rfl (Or.inl rfl) rfl rfl rfl rfl (fun U w hU hW hL => ledger_Check_c U w hU _ _ (hL 0 _ _ rfl Seen.imm) _ e9) ?_
 refine RL.asg rfl rfl rfl ?_
 refine RL.finG ?_
 refine GL.seq ?_
 refine GL.region ?_
 refine RL.mv rfl rfl rfl ?_
 refine RL.binI (v := .bool (y8 != (0 : Int))) rfl rfl rfl rfl rfl ?_
 refine RL.finG ?_
 refine GL.cond rfl (fun b10 => ?_) (fun b10 => ?_)
 ·replace hm := ite_t b10 hm
  refine GL.seq ?_
  refine GL.region ?_
  refine RL.mv rfl rfl rfl ?_
  refine RL.asg rfl rfl rfl ?_
  refine RL.asg rfl rfl rfl ?_
  refine RL.finG ?_
  refine GL.weak (fun a w st => st.nilOwn 86 TrA) ?_
  have hm := Option.some.inj hm
  subst hm
  exact GL.ret (Gx.ret (v := .tuple #[Value.slice none 0 0, .int .i64 y8]) (res2 rfl rfl rfl) (fun a w st => (st.pick [3] (by decide) rfl).toPost (Value.slice none 0 0)))
 replace hm := ite_f b10 hm
 refine GL.skip ?_
 refine GL.seq ?_
 refine GL.seq ?_
 refine GL.region ?_
 refine RL.ldP (off := 0) (r := TrD) (e' := x1) 2 Tryz_ln57 rfl rfl (Or.inr ⟨rfl, rfl⟩) rfl PtOf.obox Part.self ?_
 intro v14
 refine RL.reL (L' := [imm (TR.sl TrA) v0 x0, imm TrD v1 x1, obox 57 TrD v5 x1, imm TrD v14 x1]) rfl ?_
 obtain ⟨y15, e16, hm⟩ := bind_some hm
 refine RL.callV (v := .int .i64 y15) (vs := [v14]) Tryz_fit67 rfl (Or.inl rfl) rfl rfl rfl rfl (fun U w hU hW hL => ledger_Right_c U w hU _ _ (hL 3 _ _ rfl Seen.imm) _ e16) ?_
 refine RL.asg rfl rfl rfl ?_
 refine RL.finG ?_
 refine GL.seq ?_
 refine GL.region ?_
 refine RL.mv rfl rfl rfl ?_
 refine RL.binI (v := .bool (y15 != (0 : Int))) rfl rfl rfl rfl rfl ?_
 refine RL.finG ?_
 refine GL.cond rfl (fun b17 => ?_) (fun b17 => ?_)
 ·replace hm := ite_t b17 hm
  refine GL.seq ?_
  refine GL.region ?_
  refine RL.mv rfl rfl rfl ?_
  refine RL.asg rfl rfl rfl ?_
  refine RL.asg rfl rfl rfl ?_
  refine RL.finG ?_
  refine GL.weak (fun a w st => st.nilOwn 86 TrA) ?_
  have hm := Option.some.inj hm
  subst hm
  exact GL.ret (Gx.ret (v := .tuple #[Value.slice none 0 0, .int .i64 y15]) (res2 rfl rfl rfl) (fun a w st => (st.pick [4] (by decide) rfl).toPost (Value.slice none 0 0)))
 replace hm := ite_f b17 hm
 refine GL.skip ?_
 refine GL.seq ?_
 refine GL.regionQ rfl rfl (by kernel_rfl) ?_
 refine RL.mv rfl rfl rfl ?_
 refine RL.fadr (off := 0) (fo := 0) 2 Tryz_fld57_0 rfl rfl rfl PtOf.obox (Or.inr ⟨rfl, rfl⟩) ?_
 refine RL.ldPx (off := (0 + 0)) (e' := x1.1) 2 Ex.str Tryz_ln9 rfl rfl (Or.inl rfl) rfl PtOf.obox (Part.fst Part.self) ?_
 obtain ⟨y24, e25, hm⟩ := bind_some hm
 refine RL.callV (v := .int .i64 y24) (vs := [v0, (sv x1.1)]) Tryz_fit88 rfl (Or.inr ⟨_, rfl⟩) rfl rfl rfl rfl (fun U w hU hW hL => ledger_find_c U w hU _ _ (hL 0 _ _ rfl Seen.imm) x1.1 _ e25) ?_
 refine RL.mv rfl rfl rfl ?_
 refine RL.fadr (off := 0) (fo := 1) 2 Tryz_fld57_1 rfl rfl rfl PtOf.obox (Or.inr ⟨rfl, rfl⟩) ?_
 refine RL.ldPx (off := (0 + 1)) (e' := x1.2.1) 2 Ex.str Tryz_ln9 rfl rfl (Or.inl rfl) rfl PtOf.obox (Part.snd (Part.fst Part.self)) ?_
 obtain ⟨y26, e27, hm⟩ := bind_some hm
 refine RL.callV (v := .int .i64 y26) (vs := [v0, (sv x1.2.1)]) Tryz_fit88 rfl (Or.inr ⟨_, rfl⟩) rfl rfl rfl rfl (fun U w hU hW hL => ledger_find_c U w hU _ _ (hL 0 _ _ rfl Seen.imm) x1.2.1 _ e27) ?_
 refine RL.mv rfl rfl rfl ?_
 refine RL.mv rfl rfl rfl ?_
 obtain ⟨y28, e29, hm⟩ := bind_some hm
 refine RL.callV (v := .int .i64 y28) (vs := [v0, (sv x2)]) Tryz_fit88 rfl (Or.inr ⟨_, rfl⟩) rfl rfl rfl rfl (fun U w hU hW hL => ledger_find_c U w hU _ _ (hL 0 _ _ rfl Seen.imm) x2 _ e29) ?_
 refine RL.asg rfl rfl rfl ?_
 refine RL.asg rfl rfl rfl ?_
 refine RL.asg rfl rfl rfl ?_
 refine RL.finQG ?_
 refine GL.seq ?_
 refine GL.seq ?_
 obtain ⟨y35, K36, h37, h38, h39, h40, h41⟩ := bindR_K hm
 refine GL.join (ι := Bool) (fun (p : Bool) => [(0, v0), (4, v5), (10, .int .i64 y24), (11, .int .i64 y26), (12, .int .i64 y28), (44, .bool p)]) (fun (p : Bool) => [imm (TR.sl TrA) v0 x0, obox 57 TrD v5 x1]) (fun (p : Bool) => K36 (.nx p)) ?_ ?_
 ·skip
  refine GL.region ?_
  refine RL.mv rfl rfl rfl ?_
  refine RL.binI (v := .bool (decide (y24 < (0 : Int)))) rfl rfl rfl rfl rfl ?_
  refine RL.mv rfl rfl rfl ?_
  refine RL.split (t := 37) rfl (fun b42 => ?_) (fun b42 => ?_)
  ·replace h37 := ite_t b42 h37
   refine RL.skip rfl rfl ?_
   refine RL.skip rfl rfl ?_
   refine RL.pickT rfl rfl rfl rfl ?_
   refine RL.mv rfl rfl rfl ?_
   refine RL.skip rfl rfl ?_
   refine RL.skip rfl rfl ?_
   refine RL.pickT rfl rfl rfl rfl ?_
   refine RL.fin ?_
   cases h37
   exact fun a w st => mid_intro true h38 (St.cut [0, 2] ⟨rfl, rfl, rfl, rfl, rfl, rfl, trivial⟩ (by decide) rfl st)
  replace h37 := ite_f b42 h37
  refine RL.mv rfl rfl rfl ?_
  refine RL.binI (v := .bool (decide (y26 < (0 : Int)))) rfl rfl rfl rfl rfl ?_
  refine RL.pickF rfl rfl rfl rfl ?_
  refine RL.mv rfl rfl rfl ?_
  refine RL.split (t := 41) rfl (fun b43 => ?_) (fun b43 => ?_)
  ·replace h37 := ite_t b43 h37
   refine RL.skip rfl rfl ?_
   refine RL.skip rfl rfl ?_
   refine RL.pickT rfl rfl rfl rfl ?_
   refine RL.fin ?_
   cases h37
   exact fun a w st => mid_intro true h38 (St.cut [0, 2] ⟨rfl, rfl, rfl, rfl, rfl, rfl, trivial⟩ (by decide) rfl st)
  replace h37 := ite_f b43 h37
  refine RL.mv rfl rfl rfl ?_
  refine RL.binI (v := .bool (decide (y28 < (0 : Int)))) rfl rfl rfl rfl rfl ?_
  refine RL.pickF rfl rfl rfl rfl ?_
  refine RL.fin ?_
  cases h37
  exact fun a w st => mid_intro (decide (y28 < (0 : Int))) h38 (St.cut [0, 2] ⟨rfl, rfl, rfl, rfl, rfl, rfl, trivial⟩ (by decide) rfl st)
 rintro x34 h44
 have h45 := h39 _ h44
 try dsimp only at h45
 refine GL.weak (env' := [(0, v0), (4, v5), (10, .int .i64 y24), (11, .int .i64 y26), (12, .int .i64 y28), (44, .bool x34)]) (L' := [imm (TR.sl TrA) v0 x0, obox 57 TrD v5 x1]) ss ?_
 refine GL.cond rfl (fun b46 => ?_) (fun b46 => ?_)
 ·replace h45 := ite_t b46 h45
  refine GL.seq ?_
  refine GL.region ?_
  refine RL.asg rfl rfl rfl ?_
  refine RL.asg rfl rfl rfl ?_
  refine RL.finG ?_
  refine GL.weak (fun a w st => st.nilOwn 86 TrA) ?_
  have h45 := Option.some.inj h45
  subst h45
  exact GL.ret (Gx.ret (v := .tuple #[Value.slice none 0 0, .int .i64 (4 : Int)]) (res2 rfl rfl rfl) (fun a w st => (st.pick [2] (by decide) rfl).toPost (Value.slice none 0 0)))
 replace h45 := ite_f b46 h45
 refine GL.skip ?_
 refine GL.seq ?_
 refine GL.seq ?_
 refine GL.regionQ rfl rfl (by kernel_rfl) ?_
 refine RL.fadr (off := 0) (fo := 2) 1 Tryz_fld57_2 rfl rfl rfl PtOf.obox (Or.inr ⟨rfl, rfl⟩) ?_
 refine RL.ldPx (off := (0 + 2)) (e' := x1.2.2.1) 1 Ex.ik Tryz_ln3 rfl rfl (Or.inl rfl) rfl PtOf.obox (Part.snd (Part.snd (Part.fst Part.self))) ?_
 refine RL.mv rfl rfl rfl ?_
 refine RL.mv rfl rfl rfl ?_
 obtain ⟨y49, e50, h45⟩ := bind_some h45
 refine RL.idxS (sz := 3) 0 Tryz.underlying42 Tryz_ln86 rfl rfl rfl rfl rfl SlOf.imm (idx_some e50).1 (idx_some e50).2.1 ?_
 refine RL.fadrS (off := ((y24).toNat * 3)) (fo := 2) 0 Tryz_fld86_2 rfl rfl rfl SlOf.imm (by have := (List.getElem?_eq_some_iff.1 (idx_some e50).2.2).1; (try dsimp only at this ⊢); omega) rfl ?_
 refine RL.ldSx (i := (y24).toNat) (e' := y49.2.2) 0 Ex.ik Tryz_ln3 rfl rfl rfl rfl SlOf.imm (idx_some e50).2.2 (Part.snd (Part.snd Part.self)) ?_
 refine RL.binI (v := .bool (x1.2.2.1 != y49.2.2)) rfl rfl rfl rfl rfl ?_
 refine RL.finQG ?_
 refine GL.cond rfl (fun b51 => ?_) (fun b51 => ?_)
 ·replace h45 := ite_t b51 h45
  refine GL.seq ?_
  refine GL.region ?_
  refine RL.asg rfl rfl rfl ?_
  refine RL.asg rfl rfl rfl ?_
  refine RL.finG ?_
  refine GL.weak (fun a w st => st.nilOwn 86 TrA) ?_
  have h45 := Option.some.inj h45
  subst h45
  exact GL.ret (Gx.ret (v := .tuple #[Value.slice none 0 0, .int .i64 (6 : Int)]) (res2 rfl rfl rfl) (fun a w st => (st.pick [2] (by decide) rfl).toPost (Value.slice none 0 0)))
 replace h45 := ite_f b51 h45
 refine GL.skip ?_
 refine GL.seq ?_
 refine GL.seq ?_
 refine GL.regionQ rfl rfl (by kernel_rfl) ?_
 refine RL.mv rfl rfl rfl ?_
 refine RL.mv rfl rfl rfl ?_
 obtain ⟨y54, e55, h45⟩ := bind_some h45
 refine RL.idxS (sz := 3) 0 Tryz.underlying42 Tryz_ln86 rfl rfl rfl rfl rfl SlOf.imm (idx_some e55).1 (idx_some e55).2.1 ?_
 refine RL.fadrS (off := ((y24).toNat * 3)) (fo := 1) 0 Tryz_fld86_1 rfl rfl rfl SlOf.imm (by have := (List.getElem?_eq_some_iff.1 (idx_some e55).2.2).1; (try dsimp only at this ⊢); omega) rfl ?_
 refine RL.ldSx (i := (y24).toNat) (e' := y54.2.1) 0 Ex.ik Tryz_ln3 rfl rfl rfl rfl SlOf.imm (idx_some e55).2.2 (Part.snd (Part.fst Part.self)) ?_
 refine RL.fadr (off := 0) (fo := 3) 1 Tryz_fld57_3 rfl rfl rfl PtOf.obox (Or.inr ⟨rfl, rfl⟩) ?_
 refine RL.ldPx (off := (0 + 3)) (e' := x1.2.2.2.1) 1 Ex.ik Tryz_ln3 rfl rfl (Or.inl rfl) rfl PtOf.obox (Part.snd (Part.snd (Part.snd (Part.fst Part.self)))) ?_
 refine RL.fadr (off := 0) (fo := 4) 1 Tryz_fld57_4 rfl rfl rfl PtOf.obox (Or.inr ⟨rfl, rfl⟩) ?_
 refine RL.ldPx (off := (0 + 4)) (e' := x1.2.2.2.2.1) 1 Ex.ik Tryz_ln3 rfl rfl (Or.inl rfl) rfl PtOf.obox (Part.snd (Part.snd (Part.snd (Part.snd (Part.fst Part.self))))) ?_
 refine RL.binI (v := .int .i64 (wadd x1.2.2.2.1 x1.2.2.2.2.1)) rfl rfl rfl rfl rfl ?_
 refine RL.binI (v := .bool (decide (y54.2.1 < (wadd x1.2.2.2.1 x1.2.2.2.2.1)))) rfl rfl rfl rfl rfl ?_
 refine RL.finQG ?_
 refine GL.cond rfl (fun b56 => ?_) (fun b56 => ?_)
 ·replace h45 := ite_t b56 h45
  refine GL.seq ?_
  refine GL.region ?_
  refine RL.asg rfl rfl rfl ?_
  refine RL.asg rfl rfl rfl ?_
  refine RL.finG ?_
  refine GL.weak (fun a w st => st.nilOwn 86 TrA) ?_
  have h45 := Option.some.inj h45
  subst h45
  exact GL.ret (Gx.ret (v := .tuple #[Value.slice none 0 0, .int .i64 (11 : Int)]) (res2 rfl rfl rfl) (fun a w st => (st.pick [2] (by decide) rfl).toPost (Value.slice none 0 0)))
 replace h45 := ite_f b56 h45
 refine GL.skip ?_
 refine GL.seq ?_
 refine GL.region ?_
 refine RL.mv rfl rfl rfl ?_
 obtain ⟨y60, e61, h45⟩ := bind_some h45
 refine RL.call (vs := [v0]) Tryz_fit89 rfl rfl rfl rfl rfl (fun S f w hS hW hi => slices_Clone_api_Account_api_Account_c S w hS _ _ (hi 0 _ rfl) _ e61) ?_
 intro v62
 refine RL.asg rfl rfl rfl ?_
 refine RL.finG ?_
 refine GL.seq ?_
 refine GL.regionH 13 rfl rfl (by kernel_rfl) ?_
 simp only [List.take_succ_cons, List.take_zero, List.drop_succ_cons, List.drop_zero]
 refine RL.mv rfl rfl rfl ?_
 refine RL.mv rfl rfl rfl ?_
 obtain ⟨y67, e68, h45⟩ := bind_some h45
 refine RL.idxS (sz := 3) 2 Tryz.underlying42 Tryz_ln86 rfl rfl rfl rfl rfl SlOf.own (idx_some e68).1 (idx_some e68).2.1 ?_
 refine RL.fadrS (off := ((y24).toNat * 3)) (fo := 1) 2 Tryz_fld86_1 rfl rfl rfl SlOf.own (by have := (List.getElem?_eq_some_iff.1 (idx_some e68).2.2).1; (try dsimp only at this ⊢); omega) rfl ?_
 refine RL.ldSx (i := (y24).toNat) (e' := y67.2.1) 2 Ex.ik Tryz_ln3 rfl rfl rfl rfl SlOf.own (idx_some e68).2.2 (Part.snd (Part.fst Part.self)) ?_
 refine RL.fadr (off := 0) (fo := 3) 1 Tryz_fld57_3 rfl rfl rfl PtOf.obox (Or.inr ⟨rfl, rfl⟩) ?_
 refine RL.ldPx (off := (0 + 3)) (e' := x1.2.2.2.1) 1 Ex.ik Tryz_ln3 rfl rfl (Or.inl rfl) rfl PtOf.obox (Part.snd (Part.snd (Part.snd (Part.fst Part.self)))) ?_
 refine RL.fadr (off := 0) (fo := 4) 1 Tryz_fld57_4 rfl rfl rfl PtOf.obox (Or.inr ⟨rfl, rfl⟩) ?_
 refine RL.ldPx (off := (0 + 4)) (e' := x1.2.2.2.2.1) 1 Ex.ik Tryz_ln3 rfl rfl (Or.inl rfl) rfl PtOf.obox (Part.snd (Part.snd (Part.snd (Part.snd (Part.fst Part.self))))) ?_
 refine RL.binI (v := .int .i64 (wadd x1.2.2.2.1 x1.2.2.2.2.1)) rfl rfl rfl rfl rfl ?_
 refine RL.binI (v := .int .i64 (wsub y67.2.1 (wadd x1.2.2.2.1 x1.2.2.2.2.1))) rfl rfl rfl rfl rfl ?_
 obtain ⟨y69, e70, h45⟩ := bind_some h45
 refine RL.idxS (sz := 3) 2 Tryz.underlying42 Tryz_ln86 rfl rfl rfl rfl rfl SlOf.own (idx_some e70).1 (idx_some e70).2.1 ?_
 refine RL.fadrS (off := ((y24).toNat * 3)) (fo := 1) 2 Tryz_fld86_1 rfl rfl rfl SlOf.own (by have := (List.getElem?_eq_some_iff.1 (idx_some e70).2.2).1; (try dsimp only at this ⊢); omega) rfl ?_
 refine RL.finH ?_
 refine RL.stS (i := (y24).toNat) (e' := wsub y67.2.1 (wadd x1.2.2.2.1 x1.2.2.2.2.1)) (e1 := (y69.1, (wsub y67.2.1 (wadd x1.2.2.2.1 x1.2.2.2.2.1), y69.2.2))) (r := TR.int) 2 Tryz_ln3 rfl rfl rfl rfl VR.int rfl (idx_some e70).2.2 (Upd.snd (Upd.fst Upd.self)) ?_
 refine RL.reL (L' := [imm (TR.sl TrA) v0 x0, obox 57 TrD v5 x1, own 86 TrA v62 (List.set y60 ((y24).toNat) (y69.1, (wsub y67.2.1 (wadd x1.2.2.2.1 x1.2.2.2.2.1), y69.2.2)))]) rfl ?_
 refine RL.finG ?_
 refine GL.seq ?_
 refine GL.region ?_
 refine RL.mv rfl rfl rfl ?_
 refine RL.mv rfl rfl rfl ?_
 obtain ⟨y75, e76, h45⟩ := bind_some h45
 refine RL.idxS (sz := 3) 2 Tryz.underlying42 Tryz_ln86 rfl rfl rfl rfl rfl SlOf.own (idx_some e76).1 (idx_some e76).2.1 ?_
 refine RL.fadrS (off := ((y24).toNat * 3)) (fo := 2) 2 Tryz_fld86_2 rfl rfl rfl SlOf.own (by have := (List.getElem?_eq_some_iff.1 (idx_some e76).2.2).1; (try dsimp only at this ⊢); omega) rfl ?_
 refine RL.ldSx (i := (y24).toNat) (e' := y75.2.2) 2 Ex.ik Tryz_ln3 rfl rfl rfl rfl SlOf.own (idx_some e76).2.2 (Part.snd (Part.snd Part.self)) ?_
 refine RL.binI (v := .int .i64 (wadd y75.2.2 (1 : Int))) rfl rfl rfl rfl rfl ?_
 obtain ⟨y77, e78, h45⟩ := bind_some h45
 refine RL.idxS (sz := 3) 2 Tryz.underlying42 Tryz_ln86 rfl rfl rfl rfl rfl SlOf.own (idx_some e78).1 (idx_some e78).2.1 ?_
 refine RL.fadrS (off := ((y24).toNat * 3)) (fo := 2) 2 Tryz_fld86_2 rfl rfl rfl SlOf.own (by have := (List.getElem?_eq_some_iff.1 (idx_some e78).2.2).1; (try dsimp only at this ⊢); omega) rfl ?_
 refine RL.stS (i := (y24).toNat) (e' := wadd y75.2.2 (1 : Int)) (e1 := (y77.1, (y77.2.1, wadd y75.2.2 (1 : Int)))) (r := TR.int) 2 Tryz_ln3 rfl rfl rfl rfl VR.int rfl (idx_some e78).2.2 (Upd.snd (Upd.snd Upd.self)) ?_
 refine RL.finG ?_
 refine GL.seq ?_
 refine GL.regionH 10 rfl rfl (by kernel_rfl) ?_
 simp only [List.take_succ_cons, List.take_zero, List.drop_succ_cons, List.drop_zero]
 refine RL.mv rfl rfl rfl ?_
 refine RL.mv rfl rfl rfl ?_
 obtain ⟨y83, e84, h45⟩ := bind_some h45
 refine RL.idxS (sz := 3) 2 Tryz.underlying42 Tryz_ln86 rfl rfl rfl rfl rfl SlOf.own (idx_some e84).1 (idx_some e84).2.1 ?_
 refine RL.fadrS (off := ((y26).toNat * 3)) (fo := 1) 2 Tryz_fld86_1 rfl rfl rfl SlOf.own (by have := (List.getElem?_eq_some_iff.1 (idx_some e84).2.2).1; (try dsimp only at this ⊢); omega) rfl ?_
 refine RL.ldSx (i := (y26).toNat) (e' := y83.2.1) 2 Ex.ik Tryz_ln3 rfl rfl rfl rfl SlOf.own (idx_some e84).2.2 (Part.snd (Part.fst Part.self)) ?_
 refine RL.fadr (off := 0) (fo := 3) 1 Tryz_fld57_3 rfl rfl rfl PtOf.obox (Or.inr ⟨rfl, rfl⟩) ?_
 refine RL.ldPx (off := (0 + 3)) (e' := x1.2.2.2.1) 1 Ex.ik Tryz_ln3 rfl rfl (Or.inl rfl) rfl PtOf.obox (Part.snd (Part.snd (Part.snd (Part.fst Part.self)))) ?_
 refine RL.binI (v := .int .i64 (wadd y83.2.1 x1.2.2.2.1)) rfl rfl rfl rfl rfl ?_
 obtain ⟨y85, e86, h45⟩ := bind_some h45
 refine RL.idxS (sz := 3) 2 Tryz.underlying42 Tryz_ln86 rfl rfl rfl rfl rfl SlOf.own (idx_some e86).1 (idx_some e86).2.1 ?_
 refine RL.fadrS (off := ((y26).toNat * 3)) (fo := 1) 2 Tryz_fld86_1 rfl rfl rfl SlOf.own (by have := (List.getElem?_eq_some_iff.1 (idx_some e86).2.2).1; (try dsimp only at this ⊢); omega) rfl ?_
 refine RL.finH ?_
 refine RL.stS (i := (y26).toNat) (e' := wadd y83.2.1 x1.2.2.2.1) (e1 := (y85.1, (wadd y83.2.1 x1.2.2.2.1, y85.2.2))) (r := TR.int) 2 Tryz_ln3 rfl rfl rfl rfl VR.int rfl (idx_some e86).2.2 (Upd.snd (Upd.fst Upd.self)) ?_
 refine RL.reL (L' := [imm (TR.sl TrA) v0 x0, obox 57 TrD v5 x1, own 86 TrA v62 (List.set (List.set (List.set y60 ((y24).toNat) (y69.1, (wsub y67.2.1 (wadd x1.2.2.2.1 x1.2.2.2.2.1), y69.2.2))) ((y24).toNat) (y77.1, (y77.2.1, wadd y75.2.2 (1 : Int)))) ((y26).toNat) (y85.1, (wadd y83.2.1 x1.2.2.2.1, y85.2.2)))]) rfl ?_
 refine RL.finG ?_
 refine GL.seq ?_
 refine GL.regionH 10 rfl rfl (by kernel_rfl) ?_
 simp only [List.take_succ_cons, List.take_zero, List.drop_succ_cons, List.drop_zero]
 refine RL.mv rfl rfl rfl ?_
 refine RL.mv rfl rfl rfl ?_
 obtain ⟨y91, e92, h45⟩ := bind_some h45
 refine RL.idxS (sz := 3) 2 Tryz.underlying42 Tryz_ln86 rfl rfl rfl rfl rfl SlOf.own (idx_some e92).1 (idx_some e92).2.1 ?_
 refine RL.fadrS (off := ((y28).toNat * 3)) (fo := 1) 2 Tryz_fld86_1 rfl rfl rfl SlOf.own (by have := (List.getElem?_eq_some_iff.1 (idx_some e92).2.2).1; (try dsimp only at this ⊢); omega) rfl ?_
 refine RL.ldSx (i := (y28).toNat) (e' := y91.2.1) 2 Ex.ik Tryz_ln3 rfl rfl rfl rfl SlOf.own (idx_some e92).2.2 (Part.snd (Part.fst Part.self)) ?_
 refine RL.fadr (off := 0) (fo := 4) 1 Tryz_fld57_4 rfl rfl rfl PtOf.obox (Or.inr ⟨rfl, rfl⟩) ?_
 refine RL.ldPx (off := (0 + 4)) (e' := x1.2.2.2.2.1) 1 Ex.ik Tryz_ln3 rfl rfl (Or.inl rfl) rfl PtOf.obox (Part.snd (Part.snd (Part.snd (Part.snd (Part.fst Part.self))))) ?_
 refine RL.binI (v := .int .i64 (wadd y91.2.1 x1.2.2.2.2.1)) rfl rfl rfl rfl rfl ?_
 obtain ⟨y93, e94, h45⟩ := bind_some h45
 refine RL.idxS (sz := 3) 2 Tryz.underlying42 Tryz_ln86 rfl rfl rfl rfl rfl SlOf.own (idx_some e94).1 (idx_some e94).2.1 ?_
 refine RL.fadrS (off := ((y28).toNat * 3)) (fo := 1) 2 Tryz_fld86_1 rfl rfl rfl SlOf.own (by have := (List.getElem?_eq_some_iff.1 (idx_some e94).2.2).1; (try dsimp only at this ⊢); omega) rfl ?_
 refine RL.finH ?_
 refine RL.stS (i := (y28).toNat) (e' := wadd y91.2.1 x1.2.2.2.2.1) (e1 := (y93.1, (wadd y91.2.1 x1.2.2.2.2.1, y93.2.2))) (r := TR.int) 2 Tryz_ln3 rfl rfl rfl rfl VR.int rfl (idx_some e94).2.2 (Upd.snd (Upd.fst Upd.self)) ?_
 refine RL.finG ?_
 refine GL.seq ?_
 refine GL.seq ?_
 refine GL.region ?_
 refine RL.mv rfl rfl rfl ?_
 obtain ⟨y97, e98, h45⟩ := bind_some h45
 refine RL.callV (v := .int .i64 y97) (vs := [v62]) Tryz_fit86 rfl (Or.inl rfl) rfl rfl rfl rfl (fun U w hU hW hL => ledger_Check_c U w hU _ _ (hL 2 _ _ rfl Seen.own) _ e98) ?_
 refine RL.binI (v := .bool (y97 != (0 : Int))) rfl rfl rfl rfl rfl ?_
 refine RL.finG ?_
 refine GL.cond rfl (fun b99 => ?_) (fun b99 => ?_)
 ·replace h45 := ite_t b99 h45
  refine GL.seq ?_
  refine GL.region ?_
  refine RL.asg rfl rfl rfl ?_
  refine RL.asg rfl rfl rfl ?_
  refine RL.finG ?_
  refine GL.weak (fun a w st => st.nilOwn 86 TrA) ?_
  have h45 := Option.some.inj h45
  subst h45
  exact GL.ret (Gx.ret (v := .tuple #[Value.slice none 0 0, .int .i64 (8 : Int)]) (res2 rfl rfl rfl) (fun a w st => (st.pick [3] (by decide) rfl).toPost (Value.slice none 0 0)))
 replace h45 := ite_f b99 h45
 refine GL.skip ?_
 refine GL.seq ?_
 refine GL.region ?_
 refine RL.mv rfl rfl rfl ?_
 refine RL.asg rfl rfl rfl ?_
 refine RL.asg rfl rfl rfl ?_
 refine RL.finG ?_
 have h45 := Option.some.inj h45
 subst h45
 exact GL.ret (Gx.ret (v := .tuple #[v62, .int .i64 (0 : Int)]) (res2 rfl rfl rfl) (fun a w st => (st.pick [2] (by decide) rfl).toPost v62))

theorem pick_Next_c (S : Hp) (w : World) (hS : S.sub w) (v0 : Value) (x0 : (List TyD)) (k0 : ((TR.sl TrD)).vrep S v0 x0) (v1 : Value) (x1 : (List TyA)) (k1 : ((TR.sl TrA)).vrep S v1 x1) (x2 : B8) (x3 : Int) (res : Int × Int) (hm : pick_Next_m x0 x1 x2 x3 = some res) : Calls Tryz.prog 95 #[v0, v1, (sv x2), .int .i64 x3] w (PostV w (.tuple #[.int .i64 res.1, .int .i64 res.2])) := by
 refine calls_enter 79 Tryz.func95 Tryz.ntmps95 rfl S false [(0, v0), (1, v1), (2, (sv x2)), (3, .int .i64 x3)] [imm (TR.sl TrD) v0 x0, imm (TR.sl TrA) v1 x1] rfl ⟨rfl, ⟨rfl, ⟨rfl, ⟨rfl, trivial⟩⟩⟩⟩ hS ⟨k0, ⟨k1, trivial⟩⟩ ?_
 unfold pick_Next_m at hm
 refine GL.seq ?_
 refine GL.region ?_
 refine RL.asg rfl rfl rfl ?_
 refine RL.asg rfl rfl rfl ?_
 refine RL.finG ?_
 refine GL.seq ?_
 refine GL.seq ?_
 refine GL.region ?_
 refine RL.mv rfl rfl rfl ?_
 obtain ⟨y7, e8, hm⟩ := bind_some hm
 refine RL.callV (v := .int .i64 y7) (vs := [v0]) Tryz_fit66 rfl (Or.inl rfl) rfl rfl rfl rfl (fun U w hU hW hL => queue_Check_c U w hU _ _ (hL 0 _ _ rfl Seen.imm) _ e8) ?_
 refine RL.asg rfl rfl rfl ?_
 refine RL.finG ?_
 refine GL.seq ?_
 refine GL.region ?_
 refine RL.mv rfl rfl rfl ?_
 refine RL.binI (v := .bool (y7 != (0 : Int))) rfl rfl rfl rfl rfl ?_
 refine RL.finG ?_
 refine GL.cond rfl (fun b9 => ?_) (fun b9 => ?_)
 ·replace hm := ite_t b9 hm
  refine GL.seq ?_
  refine GL.region ?_
  refine RL.mv rfl rfl rfl ?_
  refine RL.asg rfl rfl rfl ?_
  refine RL.asg rfl rfl rfl ?_
  refine RL.finG ?_
  have hm := Option.some.inj hm
  subst hm
  exact GL.ret (Gx.ret (v := .tuple #[.int .i64 (0 : Int), .int .i64 y7]) (res2 rfl rfl rfl) (fun a w st => st.toPostV))
 replace hm := ite_f b9 hm
 refine GL.skip ?_
 refine GL.seq ?_
 refine GL.seq ?_
 refine GL.region ?_
 refine RL.mv rfl rfl rfl ?_
 obtain ⟨y12, e13, hm⟩ := bind_some hm
 refine RL.callV (v := .int .i64 y12) (vs := [v1]) Tryz_fit86 rfl (Or.inl rfl) rfl rfl rfl rfl (fun U w hU hW hL => ledger_Check_c U w hU _ _ (hL 1 _ _ rfl Seen.imm) _ e13) ?_
 refine RL.asg rfl rfl rfl ?_
 refine RL.finG ?_
 refine GL.seq ?_
 refine GL.region ?_
 refine RL.mv rfl rfl rfl ?_
 refine RL.binI (v := .bool (y12 != (0 : Int))) rfl rfl rfl rfl rfl ?_
 refine RL.finG ?_
 refine GL.cond rfl (fun b14 => ?_) (fun b14 => ?_)
 ·replace hm := ite_t b14 hm
  refine GL.seq ?_
  refine GL.region ?_
  refine RL.mv rfl rfl rfl ?_
  refine RL.asg rfl rfl rfl ?_
  refine RL.asg rfl rfl rfl ?_
  refine RL.finG ?_
  have hm := Option.some.inj hm
  subst hm
  exact GL.ret (Gx.ret (v := .tuple #[.int .i64 (0 : Int), .int .i64 y12]) (res2 rfl rfl rfl) (fun a w st => st.toPostV))
 replace hm := ite_f b14 hm
 refine GL.skip ?_
 refine GL.seq ?_
 refine GL.seq ?_
 obtain ⟨y18, K19, h20, h21, h22, h23, h24⟩ := bindR_K hm
 refine GL.join (ι := Bool) (fun (p : Bool) => [(0, v0), (1, v1), (2, (sv x2)), (3, .int .i64 x3), (32, .bool p)]) (fun (p : Bool) => [imm (TR.sl TrD) v0 x0, imm (TR.sl TrA) v1 x1]) (fun (p : Bool) => K19 (.nx p)) ?_ ?_
 ·skip
  refine GL.region ?_
  refine RL.mv rfl rfl rfl ?_
  refine RL.binI (v := .bool (decide (x3 < (0 : Int)))) rfl rfl rfl rfl rfl ?_
  refine RL.mv rfl rfl rfl ?_
  refine RL.split (t := 29) rfl (fun b25 => ?_) (fun b25 => ?_)
  ·replace h20 := ite_t b25 h20
   refine RL.skip rfl rfl ?_
   refine RL.skip rfl rfl ?_
   refine RL.pickT rfl rfl rfl rfl ?_
   refine RL.fin ?_
   cases h20
   exact fun a w st => mid_intro true h21 (St.cut [0, 1] ⟨rfl, rfl, rfl, rfl, rfl, trivial⟩ (by decide) rfl st)
  replace h20 := ite_f b25 h20
  refine RL.mv rfl rfl rfl ?_
  refine RL.binI (v := .bool (decide (x3 > (1000 : Int)))) rfl rfl rfl rfl rfl ?_
  refine RL.pickF rfl rfl rfl rfl ?_
  refine RL.fin ?_
  cases h20
  exact fun a w st => mid_intro (decide (x3 > (1000 : Int))) h21 (St.cut [0, 1] ⟨rfl, rfl, rfl, rfl, rfl, trivial⟩ (by decide) rfl st)
 rintro x17 h26
 have h27 := h22 _ h26
 try dsimp only at h27
 refine GL.weak (env' := [(0, v0), (1, v1), (2, (sv x2)), (3, .int .i64 x3), (32, .bool x17)]) (L' := [imm (TR.sl TrD) v0 x0, imm (TR.sl TrA) v1 x1]) ss ?_
 refine GL.cond rfl (fun b28 => ?_) (fun b28 => ?_)
 ·replace h27 := ite_t b28 h27
  refine GL.seq ?_
  refine GL.region ?_
  refine RL.asg rfl rfl rfl ?_
  refine RL.asg rfl rfl rfl ?_
  refine RL.finG ?_
  have h27 := Option.some.inj h27
  subst h27
  exact GL.ret (Gx.ret (v := .tuple #[.int .i64 (0 : Int), .int .i64 (1 : Int)]) (res2 rfl rfl rfl) (fun a w st => st.toPostV))
 replace h27 := ite_f b28 h27
 refine GL.skip ?_
 refine GL.seq ?_
 refine GL.region ?_
 refine RL.asg rfl rfl rfl ?_
 refine RL.finG ?_
 refine GL.seq ?_
 refine GL.seq ?_
 refine GL.region ?_
 refine RL.mv rfl rfl rfl ?_
 refine RL.lenS 0 Tryz.underlying43 rfl rfl rfl rfl SlOf.imm ?_
 refine RL.mv rfl rfl rfl ?_
 refine RL.finG ?_
 refine GL.open_ 0 rfl (fun S h => len_imm S h) (fun n74 => ?_)
 obtain ⟨y75, K76, h77, h78, h79, h80, h81⟩ := bindR_K h27
 refine GL.join (ι := Int) (fun (p : Int) => [(12, .int .i64 p)]) (fun (p : Int) => []) (fun (p : Int) => K76 (.nx p)) ?_ ?_
 ·refine GL.block ?_
  refine GL.loop (ι := Nat × (List TyD) × Int) (fun (p : Nat × (List TyD) × Int) => [(0, v0), (1, v1), (2, (sv x2)), (3, .int .i64 x3), (12, .int .i64 p.2.2), (33, v0), (34, .int .i64 ((x0).length : Int)), (35, .int .i64 (p.1 : Int))]) (fun (p : Nat × (List TyD) × Int) => [imm (TR.sl TrD) v0 x0, imm (TR.sl TrA) v1 x1]) (fun (p : Nat × (List TyD) × Int) => p.1 + p.2.1.length = (x0).length ∧ List.drop p.1 x0 = p.2.1 ∧ rangeL (pick_Next_b1 x3 x1 x2 x0) p.2.1 p.1 p.2.2 = some y75) (fun (p : Nat × (List TyD) × Int) => p.2.1.length) (0, x0, (-1 : Int)) ⟨by simp, by simp, h77⟩ (fun a w st => St.cut [0, 1] ⟨rfl, rfl, rfl, rfl, rfl, rfl, rfl, rfl, trivial⟩ (by decide) rfl st) ?_
  rintro ⟨i82, r83, x29⟩ ⟨h88, h89, h87⟩
  try dsimp only at h88 h89 h87
  refine GL.weak (env' := [(0, v0), (1, v1), (2, (sv x2)), (3, .int .i64 x3), (12, .int .i64 x29), (33, v0), (34, .int .i64 ((x0).length : Int)), (35, .int .i64 (i82 : Int))]) (L' := [imm (TR.sl TrD) v0 x0, imm (TR.sl TrA) v1 x1]) ss ?_
  refine GL.seq ?_
  refine GL.region ?_
  refine RL.binI (v := .bool (decide ((i82 : Int) < ((x0).length : Int)))) rfl rfl rfl rfl rfl ?_
  refine RL.finG ?_
  refine GL.seq ?_
  refine GL.cond rfl (fun b90 => ?_) (fun b90 => ?_)
  ·have h91 : i82 < (x0).length := by have := of_decide_eq_true b90; omega
   obtain ⟨y92, r94, hr, e93, h95⟩ := drop_cons h89 rfl h91
   subst hr
   obtain ⟨z84, h85, h86⟩ := rangeL_some h87
   unfold pick_Next_b1 at h85
   try dsimp only at h85
   refine GL.skip ?_
   refine GL.seq ?_
   refine GL.block ?_
   refine GL.seq ?_
   refine GL.region ?_
   refine RL.mv rfl rfl rfl ?_
   refine RL.idxS (sz := 6) 0 Tryz.underlying43 Tryz_ln57 rfl rfl rfl rfl rfl SlOf.imm (by omega) (by omega) ?_
   refine RL.ldS (i := i82) (r := TrD) (e' := y92) 0 Tryz_ln57 rfl rfl rfl rfl SlOf.imm e93 Part.self ?_
   intro v98
   refine RL.alloc (t := TrD) (z := (([] : B8), ([] : B8), (0 : Int), (0 : Int), (0 : Int), (0 : Int))) Tryz_lo57 (fun S => ⟨[.string ⟨#[]⟩], _, rfl, rfl, ⟨[.string ⟨#[]⟩], _, rfl, rfl, ⟨[.int .i64 0], _, rfl, rfl, ⟨[.int .i64 0], _, rfl, rfl, ⟨[.int .i64 0], _, rfl, rfl, rfl⟩⟩⟩⟩⟩) rfl rfl rfl ?_
   intro v99
   refine RL.reL (L' := [imm (TR.sl TrD) v0 x0, imm (TR.sl TrA) v1 x1, imm TrD v98 y92, obox 57 TrD v99 (([] : B8), ([] : B8), (0 : Int), (0 : Int), (0 : Int), (0 : Int))]) rfl ?_
   refine RL.asg rfl rfl rfl ?_
   refine RL.stP (off := 0) (e' := y92) (d1 := y92) (r := TrD) 3 Tryz_ln57 rfl rfl (Or.inr ⟨rfl, rfl⟩) rfl (VR.item 2 rfl) rfl Upd.self ?_
   refine RL.finG ?_
   refine GL.seq ?_
   refine GL.seq ?_
   refine GL.region ?_
   refine RL.fadr (off := 0) (fo := 5) 3 Tryz_fld57_5 rfl rfl rfl PtOf.obox (Or.inr ⟨rfl, rfl⟩) ?_
   refine RL.ldPx (off := (0 + 5)) (e' := y92.2.2.2.2.2) 3 Ex.ik Tryz_ln3 rfl rfl (Or.inl rfl) rfl PtOf.obox (Part.snd (Part.snd (Part.snd (Part.snd (Part.snd Part.self))))) ?_
   refine RL.mv rfl rfl rfl ?_
   refine RL.binI (v := .bool (decide (y92.2.2.2.2.2 > x3))) rfl rfl rfl rfl rfl ?_
   refine RL.finG ?_
   refine GL.cond rfl (fun b100 => ?_) (fun b100 => ?_)
   ·replace h85 := ite_t b100 h85
    refine GL.exit ?_
    refine Gx.here ?_
    refine GL.region ?_
    refine RL.binI (v := .int .i64 ((i82 + 1 : Nat) : Int)) rfl rfl rfl rfl (binI_succ i82 (by omega)) ?_
    refine RL.mv rfl rfl rfl ?_
    refine RL.fin ?_
    cases h85
    exact fun a w st => lop_intro (i82 + 1, r94, x29) ⟨by show i82 + 1 + r94.length = (x0).length; simp only [List.length_cons] at h88; omega, h95, h86⟩ (by simp) (St.cut [0, 1] ⟨rfl, rfl, rfl, rfl, rfl, rfl, rfl, rfl, trivial⟩ (by decide) rfl st)
   replace h85 := ite_f b100 h85
   refine GL.skip ?_
   refine GL.seq ?_
   refine GL.seq ?_
   refine GL.region ?_
   refine RL.mv rfl rfl rfl ?_
   refine RL.ldP (off := 0) (r := TrD) (e' := y92) 3 Tryz_ln57 rfl rfl (Or.inr ⟨rfl, rfl⟩) rfl PtOf.obox Part.self ?_
   intro v105
   refine RL.reL (L' := [imm (TR.sl TrD) v0 x0, imm (TR.sl TrA) v1 x1, imm TrD v98 y92, obox 57 TrD v99 y92, imm TrD v105 y92]) rfl ?_
   refine RL.mv rfl rfl rfl ?_
   obtain ⟨y106, e107, h85⟩ := bind_some h85
   refine RL.call (vs := [v1, v105, (sv x2)]) Tryz_fit77 rfl rfl rfl rfl rfl (fun S f w hS hW hi => ledger_Take_c S w hS _ _ (hi 1 _ rfl) _ _ (hi 4 _ rfl) x2 _ e107) ?_
   intro v108
   refine RL.mv rfl rfl rfl ?_
   refine RL.ext rfl rfl rfl rfl ?_
   refine RL.ext rfl rfl rfl rfl ?_
   refine RL.asg rfl rfl rfl ?_
   refine RL.asg rfl rfl rfl ?_
   refine RL.finG ?_
   refine GL.seq ?_
   refine GL.region ?_
   refine RL.mv rfl rfl rfl ?_
   refine RL.binI (v := .bool (y106.2 != (0 : Int))) rfl rfl rfl rfl rfl ?_
   refine RL.finG ?_
   refine GL.cond rfl (fun b109 => ?_) (fun b109 => ?_)
   ·replace h85 := ite_t b109 h85
    refine GL.exit ?_
    refine Gx.here ?_
    refine GL.region ?_
    refine RL.binI (v := .int .i64 ((i82 + 1 : Nat) : Int)) rfl rfl rfl rfl (binI_succ i82 (by omega)) ?_
    refine RL.mv rfl rfl rfl ?_
    refine RL.fin ?_
    cases h85
    exact fun a w st => lop_intro (i82 + 1, r94, x29) ⟨by show i82 + 1 + r94.length = (x0).length; simp only [List.length_cons] at h88; omega, h95, h86⟩ (by simp) (St.cut [0, 1] ⟨rfl, rfl, rfl, rfl, rfl, rfl, rfl, rfl, trivial⟩ (by decide) rfl st)
   replace h85 := ite_f b109 h85
   refine GL.skip ?_
   refine GL.seq ?_
   obtain ⟨y121, K122, h123, h124, h125, h126, h127⟩ := bindF_K h85
   refine GL.join (ι := Bool) (fun (p : Bool) => [(0, v0), (1, v1), (2, (sv x2)), (3, .int .i64 x3), (12, .int .i64 x29), (13, .int .i64 (i82 : Int)), (33, v0), (34, .int .i64 ((x0).length : Int)), (35, .int .i64 (i82 : Int)), (73, .bool p)]) (fun (p : Bool) => [imm (TR.sl TrD) v0 x0, imm (TR.sl TrA) v1 x1]) (fun (p : Bool) => K122 (.nx p)) ?_ ?_
   ·skip
    refine GL.regionQ rfl rfl (by kernel_rfl) ?_
    refine RL.mv rfl rfl rfl ?_
    refine RL.binI (v := .bool (decide (x29 < (0 : Int)))) rfl rfl rfl rfl rfl ?_
    refine RL.mv rfl rfl rfl ?_
    refine RL.split (t := 55) rfl (fun b128 => ?_) (fun b128 => ?_)
    ·replace h123 := ite_t b128 h123
     refine RL.skip rfl rfl ?_
     refine RL.skip rfl rfl ?_
     refine RL.skip rfl rfl ?_
     refine RL.skip rfl rfl ?_
     refine RL.skip rfl rfl ?_
     refine RL.skip rfl rfl ?_
     refine RL.skip rfl rfl ?_
     refine RL.skip rfl rfl ?_
     refine RL.skip rfl rfl ?_
     refine RL.skip rfl rfl ?_
     refine RL.skip rfl rfl ?_
     refine RL.skip rfl rfl ?_
     refine RL.skip rfl rfl ?_
     refine RL.skip rfl rfl ?_
     refine RL.skip rfl rfl ?_
     refine RL.skip rfl rfl ?_
     refine RL.skip rfl rfl ?_
     refine RL.pickT rfl rfl rfl rfl ?_
     refine RL.finQ ?_
     cases h123
     exact fun a w st => mid_intro true h124 (St.cut [0, 1] ⟨rfl, rfl, rfl, rfl, rfl, rfl, rfl, rfl, rfl, rfl, trivial⟩ (by decide) rfl st)
    replace h123 := ite_f b128 h123
    refine RL.fadr (off := 0) (fo := 4) 3 Tryz_fld57_4 rfl rfl rfl PtOf.obox (Or.inr ⟨rfl, rfl⟩) ?_
    refine RL.ldPx (off := (0 + 4)) (e' := y92.2.2.2.2.1) 3 Ex.ik Tryz_ln3 rfl rfl (Or.inl rfl) rfl PtOf.obox (Part.snd (Part.snd (Part.snd (Part.snd (Part.fst Part.self))))) ?_
    refine RL.mv rfl rfl rfl ?_
    refine RL.mv rfl rfl rfl ?_
    obtain ⟨y129, e130, h123⟩ := bind_some h123
    refine RL.idxS (sz := 6) 0 Tryz.underlying43 Tryz_ln57 rfl rfl rfl rfl rfl SlOf.imm (idx_some e130).1 (idx_some e130).2.1 ?_
    refine RL.fadrS (off := ((x29).toNat * 6)) (fo := 5) 0 Tryz_fld57_5 rfl rfl rfl SlOf.imm (by have := (List.getElem?_eq_some_iff.1 (idx_some e130).2.2).1; (try dsimp only at this ⊢); omega) rfl ?_
    refine RL.ldSx (i := (x29).toNat) (e' := y129.2.2.2.2.2) 0 Ex.ik Tryz_ln3 rfl rfl rfl rfl SlOf.imm (idx_some e130).2.2 (Part.snd (Part.snd (Part.snd (Part.snd (Part.snd Part.self))))) ?_
    refine RL.binI (v := .int .i64 (wmul y92.2.2.2.2.1 y129.2.2.2.2.2)) rfl rfl rfl rfl rfl ?_
    refine RL.mv rfl rfl rfl ?_
    refine RL.mv rfl rfl rfl ?_
    obtain ⟨y131, e132, h123⟩ := bind_some h123
    refine RL.idxS (sz := 6) 0 Tryz.underlying43 Tryz_ln57 rfl rfl rfl rfl rfl SlOf.imm (idx_some e132).1 (idx_some e132).2.1 ?_
    refine RL.fadrS (off := ((x29).toNat * 6)) (fo := 4) 0 Tryz_fld57_4 rfl rfl rfl SlOf.imm (by have := (List.getElem?_eq_some_iff.1 (idx_some e132).2.2).1; (try dsimp only at this ⊢); omega) rfl ?_
    refine RL.ldSx (i := (x29).toNat) (e' := y131.2.2.2.2.1) 0 Ex.ik Tryz_ln3 rfl rfl rfl rfl SlOf.imm (idx_some e132).2.2 (Part.snd (Part.snd (Part.snd (Part.snd (Part.fst Part.self))))) ?_
    refine RL.fadr (off := 0) (fo := 5) 3 Tryz_fld57_5 rfl rfl rfl PtOf.obox (Or.inr ⟨rfl, rfl⟩) ?_
    refine RL.ldPx (off := (0 + 5)) (e' := y92.2.2.2.2.2) 3 Ex.ik Tryz_ln3 rfl rfl (Or.inl rfl) rfl PtOf.obox (Part.snd (Part.snd (Part.snd (Part.snd (Part.snd Part.self))))) ?_
    refine RL.binI (v := .int .i64 (wmul y131.2.2.2.2.1 y92.2.2.2.2.2)) rfl rfl rfl rfl rfl ?_
    refine RL.binI (v := .bool (decide ((wmul y92.2.2.2.2.1 y129.2.2.2.2.2) > (wmul y131.2.2.2.2.1 y92.2.2.2.2.2)))) rfl rfl rfl rfl rfl ?_
    refine RL.pickF rfl rfl rfl rfl ?_
    refine RL.finQ ?_
    cases h123
    exact fun a w st => mid_intro (decide ((wmul y92.2.2.2.2.1 y129.2.2.2.2.2) > (wmul y131.2.2.2.2.1 y92.2.2.2.2.2))) h124 (St.cut [0, 1] ⟨rfl, rfl, rfl, rfl, rfl, rfl, rfl, rfl, rfl, rfl, trivial⟩ (by decide) rfl st)
   rintro x120 h133
   have h134 := h125 _ h133
   try dsimp only at h134
   refine GL.weak (env' := [(0, v0), (1, v1), (2, (sv x2)), (3, .int .i64 x3), (12, .int .i64 x29), (13, .int .i64 (i82 : Int)), (33, v0), (34, .int .i64 ((x0).length : Int)), (35, .int .i64 (i82 : Int)), (73, .bool x120)]) (L' := [imm (TR.sl TrD) v0 x0, imm (TR.sl TrA) v1 x1]) ss ?_
   refine GL.cond rfl (fun b135 => ?_) (fun b135 => ?_)
   ·replace h134 := ite_t b135 h134
    refine GL.region ?_
    refine RL.mv rfl rfl rfl ?_
    refine RL.asg rfl rfl rfl ?_
    refine RL.finG ?_
    refine GL.nilB ?_
    refine GL.region ?_
    refine RL.binI (v := .int .i64 ((i82 + 1 : Nat) : Int)) rfl rfl rfl rfl (binI_succ i82 (by omega)) ?_
    refine RL.mv rfl rfl rfl ?_
    refine RL.fin ?_
    cases h134
    exact fun a w st => lop_intro (i82 + 1, r94, (i82 : Int)) ⟨by show i82 + 1 + r94.length = (x0).length; simp only [List.length_cons] at h88; omega, h95, h86⟩ (by simp) (St.cut [0, 1] ⟨rfl, rfl, rfl, rfl, rfl, rfl, rfl, rfl, trivial⟩ (by decide) rfl st)
   replace h134 := ite_f b135 h134
   refine GL.skip ?_
   refine GL.nilB ?_
   refine GL.region ?_
   refine RL.binI (v := .int .i64 ((i82 + 1 : Nat) : Int)) rfl rfl rfl rfl (binI_succ i82 (by omega)) ?_
   refine RL.mv rfl rfl rfl ?_
   refine RL.fin ?_
   cases h134
   exact fun a w st => lop_intro (i82 + 1, r94, x29) ⟨by show i82 + 1 + r94.length = (x0).length; simp only [List.length_cons] at h88; omega, h95, h86⟩ (by simp) (St.cut [0, 1] ⟨rfl, rfl, rfl, rfl, rfl, rfl, rfl, rfl, trivial⟩ (by decide) rfl st)
  have h91 : ¬ i82 < (x0).length := by have := of_decide_eq_false b90; omega
  obtain rfl : r83 = [] := by rw [← h89]; exact List.drop_of_length_le (by omega)
  replace h87 : some (Fl.nx _) = some y75 := h87
  cases h87
  exact GL.exit (fun a w st => mid_intro x29 h78 (St.cut [] ⟨rfl, trivial⟩ (by decide) rfl st))
 rintro x29 h136
 have h137 := h79 _ h136
 try dsimp only at h137
 refine GL.weak (env' := [(12, .int .i64 x29)]) (L' := []) ss ?_
 refine GL.seq ?_
 refine GL.seq ?_
 refine GL.region ?_
 refine RL.mv rfl rfl rfl ?_
 refine RL.binI (v := .bool (decide (x29 < (0 : Int)))) rfl rfl rfl rfl rfl ?_
 refine RL.finG ?_
 refine GL.cond rfl (fun b138 => ?_) (fun b138 => ?_)
 ·replace h137 := ite_t b138 h137
  refine GL.seq ?_
  refine GL.region ?_
  refine RL.asg rfl rfl rfl ?_
  refine RL.asg rfl rfl rfl ?_
  refine RL.finG ?_
  have h137 := Option.some.inj h137
  subst h137
  exact GL.ret (Gx.ret (v := .tuple #[.int .i64 (0 : Int), .int .i64 (4 : Int)]) (res2 rfl rfl rfl) (fun a w st => st.toPostV))
 replace h137 := ite_f b138 h137
 refine GL.skip ?_
 refine GL.seq ?_
 refine GL.region ?_
 refine RL.mv rfl rfl rfl ?_
 refine RL.asg rfl rfl rfl ?_
 refine RL.asg rfl rfl rfl ?_
 refine RL.finG ?_
 have h137 := Option.some.inj h137
 subst h137
 exact GL.ret (Gx.ret (v := .tuple #[.int .i64 x29, .int .i64 (0 : Int)]) (res2 rfl rfl rfl) (fun a w st => st.toPostV))

theorem pick_Build_c (S : Hp) (w : World) (hS : S.sub w) (v0 : Value) (x0 : (List TyD)) (k0 : ((TR.sl TrD)).vrep S v0 x0) (v1 : Value) (x1 : (List TyA)) (k1 : ((TR.sl TrA)).vrep S v1 x1) (x2 : B8) (x3 : Int) (res : (List Int) × (List TyA) × Int) (hm : pick_Build_m x0 x1 x2 x3 = some res) : Calls Tryz.prog 70 #[v0, v1, (sv x2), .int .i64 x3] w (Post w S (fun (o : Value × Value) => .tuple #[o.1, o.2, .int .i64 res.2.2]) (fun (o : Value × Value) => [own 3 TR.int o.1 res.1, own 86 TrA o.2 res.2.1])) := by
 refine calls_enter 66 Tryz.func70 Tryz.ntmps70 rfl S false [(0, v0), (1, v1), (2, (sv x2)), (3, .int .i64 x3)] [imm (TR.sl TrD) v0 x0, imm (TR.sl TrA) v1 x1] rfl ⟨rfl, ⟨rfl, ⟨rfl, ⟨rfl, trivial⟩⟩⟩⟩ hS ⟨k0, ⟨k1, trivial⟩⟩ ?_
 unfold pick_Build_m at hm
 refine GL.seq ?_
 refine GL.region ?_
 refine RL.asg rfl rfl rfl ?_
 refine RL.asg rfl rfl rfl ?_
 refine RL.asg rfl rfl rfl ?_
 refine RL.finG ?_
 refine GL.seq ?_
 refine GL.region ?_
 refine RL.mv rfl rfl rfl ?_
 refine RL.mv rfl rfl rfl ?_
 refine RL.mv rfl rfl rfl ?_
 refine RL.mv rfl rfl rfl ?_
 obtain ⟨y7, e8, hm⟩ := bind_some hm
 refine RL.callV (v := .tuple #[.int .i64 y7.1, .int .i64 y7.2]) (vs := [v0, v1, (sv x2), .int .i64 x3]) Tryz_fit95 rfl (Or.inl rfl) rfl rfl rfl rfl (fun U w hU hW hL => pick_Next_c U w hU _ _ (hL 0 _ _ rfl Seen.imm) _ _ (hL 1 _ _ rfl Seen.imm) x2 x3 _ e8) ?_
 refine RL.mv rfl rfl rfl ?_
 refine RL.ext rfl rfl rfl rfl ?_
 refine RL.ext rfl rfl rfl rfl ?_
 refine RL.asg rfl rfl rfl ?_
 refine RL.asg rfl rfl rfl ?_
 refine RL.finG ?_
 refine GL.seq ?_
 refine GL.seq ?_
 obtain ⟨y12, K13, h14, h15, h16, h17, h18⟩ := bindR_K hm
 refine GL.join (ι := Bool) (fun (p : Bool) => [(0, v0), (1, v1), (2, (sv x2)), (3, .int .i64 x3), (11, .int .i64 y7.1), (12, .int .i64 y7.2), (28, .bool p)]) (fun (p : Bool) => [imm (TR.sl TrD) v0 x0, imm (TR.sl TrA) v1 x1]) (fun (p : Bool) => K13 (.nx p)) ?_ ?_
 ·skip
  refine GL.region ?_
  refine RL.mv rfl rfl rfl ?_
  refine RL.binI (v := .bool (y7.2 != (0 : Int))) rfl rfl rfl rfl rfl ?_
  refine RL.mv rfl rfl rfl ?_
  refine RL.split (t := 25) rfl (fun b19 => ?_) (fun b19 => ?_)
  ·replace h14 := ite_t b19 h14
   refine RL.mv rfl rfl rfl ?_
   refine RL.binI (v := .bool (y7.2 != (4 : Int))) rfl rfl rfl rfl rfl ?_
   refine RL.pickT rfl rfl rfl rfl ?_
   refine RL.fin ?_
   cases h14
   exact fun a w st => mid_intro (y7.2 != (4 : Int)) h15 (St.cut [0, 1] ⟨rfl, rfl, rfl, rfl, rfl, rfl, rfl, trivial⟩ (by decide) rfl st)
  replace h14 := ite_f b19 h14
  refine RL.skip rfl rfl ?_
  refine RL.skip rfl rfl ?_
  refine RL.pickF rfl rfl rfl rfl ?_
  refine RL.fin ?_
  cases h14
  exact fun a w st => mid_intro false h15 (St.cut [0, 1] ⟨rfl, rfl, rfl, rfl, rfl, rfl, rfl, trivial⟩ (by decide) rfl st)
 rintro x11 h20
 have h21 := h16 _ h20
 try dsimp only at h21
 refine GL.weak (env' := [(0, v0), (1, v1), (2, (sv x2)), (3, .int .i64 x3), (11, .int .i64 y7.1), (12, .int .i64 y7.2), (28, .bool x11)]) (L' := [imm (TR.sl TrD) v0 x0, imm (TR.sl TrA) v1 x1]) ss ?_
 refine GL.cond rfl (fun b22 => ?_) (fun b22 => ?_)
 ·replace h21 := ite_t b22 h21
  refine GL.seq ?_
  refine GL.region ?_
  refine RL.mv rfl rfl rfl ?_
  refine RL.asg rfl rfl rfl ?_
  refine RL.asg rfl rfl rfl ?_
  refine RL.asg rfl rfl rfl ?_
  refine RL.finG ?_
  refine GL.weak (fun a w st => st.nilOwn 3 TR.int) ?_
  refine GL.weak (fun a w st => st.nilOwn 86 TrA) ?_
  have h21 := Option.some.inj h21
  subst h21
  exact GL.ret (Gx.ret (v := .tuple #[Value.slice none 0 0, Value.slice none 0 0, .int .i64 y7.2]) (res3 rfl rfl rfl rfl) (fun a w st => (st.pick [2, 3] (by decide) rfl).toPost (Value.slice none 0 0, Value.slice none 0 0)))
 replace h21 := ite_f b22 h21
 refine GL.skip ?_
 refine GL.seq ?_
 refine GL.region ?_
 refine RL.bS (t := TrA) (vs := []) ([] : (List TyA)) Tryz.underlying42 Tryz_lo86 rfl rfl rfl rfl trivial rfl (by decide) ?_
 intro v27
 refine RL.mv rfl rfl rfl ?_
 obtain ⟨y28, e29, h21⟩ := bind_some h21
 replace e29 := chk_some e29
 refine RL.app 2 1 Tryz.underlying42 Tryz_lo86 rfl rfl rfl rfl rfl rfl rfl SlOf.imm e29 ?_
 intro v30
 refine RL.reL (L' := [imm (TR.sl TrD) v0 x0, imm (TR.sl TrA) v1 x1, own 86 TrA v30 (([] : (List TyA)) ++ x1)]) rfl ?_
 refine RL.asg rfl rfl rfl ?_
 refine RL.finG ?_
 refine GL.seq ?_
 refine GL.region ?_
 refine RL.asg rfl rfl rfl ?_
 refine RL.finG ?_
 refine GL.seq ?_
 refine GL.weak (fun a w st => st.nilOwn 3 TR.int) ?_
 obtain ⟨y67, K68, h69, h70, h71, h72, h73⟩ := bindR_K h21
 refine GL.join (ι := Int × Int × Int × (List TyA) × (List Int) × Value × Value) (fun (p : Int × Int × Int × (List TyA) × (List Int) × Value × Value) => [(13, p.2.2.2.2.2.1), (14, p.2.2.2.2.2.2)]) (fun (p : Int × Int × Int × (List TyA) × (List Int) × Value × Value) => [own 86 TrA p.2.2.2.2.2.1 p.2.2.2.1, own 3 TR.int p.2.2.2.2.2.2 p.2.2.2.2.1]) (fun (p : Int × Int × Int × (List TyA) × (List Int) × Value × Value) => K68 (.nx (p.1, p.2.1, p.2.2.1, p.2.2.2.1, p.2.2.2.2.1))) ?_ ?_
 ·refine GL.block ?_
  refine GL.loop (ι := Nat × Int × Int × Int × (List TyA) × (List Int) × Value × Value) (fun (p : Nat × Int × Int × Int × (List TyA) × (List Int) × Value × Value) => [(0, v0), (2, (sv x2)), (3, .int .i64 p.2.1), (11, .int .i64 p.2.2.1), (12, .int .i64 p.2.2.2.1), (13, p.2.2.2.2.2.2.1), (14, p.2.2.2.2.2.2.2)]) (fun (p : Nat × Int × Int × Int × (List TyA) × (List Int) × Value × Value) => [imm (TR.sl TrD) v0 x0, own 86 TrA p.2.2.2.2.2.2.1 p.2.2.2.2.1, own 3 TR.int p.2.2.2.2.2.2.2 p.2.2.2.2.2.1]) (fun (p : Nat × Int × Int × Int × (List TyA) × (List Int) × Value × Value) => loopM (pick_Build_b1 x0 x2) p.1 (p.2.1, p.2.2.1, p.2.2.2.1, p.2.2.2.2.1, p.2.2.2.2.2.1) = some y67) (fun (p : Nat × Int × Int × Int × (List TyA) × (List Int) × Value × Value) => p.1) (1048576, x3, y7.1, y7.2, (([] : (List TyA)) ++ x1), [], v30, Value.slice none 0 0) h69 (fun a w st => St.cut [0, 2, 3] ⟨rfl, rfl, rfl, rfl, rfl, rfl, rfl, trivial⟩ (by decide) rfl st) ?_
  rintro ⟨r75, x31, x32, x33, l34, l36, v35, v37⟩ h79
  try dsimp only at h79
  refine GL.weak (env' := [(0, v0), (2, (sv x2)), (3, .int .i64 x31), (11, .int .i64 x32), (12, .int .i64 x33), (13, v35), (14, v37)]) (L' := [imm (TR.sl TrD) v0 x0, own 86 TrA v35 l34, own 3 TR.int v37 l36]) ss ?_
  obtain ⟨r82, z76, hr, h77, h78⟩ := loopM_some h79
  subst hr
  unfold pick_Build_b1 at h77
  try dsimp only at h77
  refine GL.seq ?_
  refine GL.seq ?_
  refine GL.region ?_
  refine RL.mv rfl rfl rfl ?_
  refine RL.binI (v := .bool (x33 == (0 : Int))) rfl rfl rfl rfl rfl ?_
  refine RL.finG ?_
  refine GL.cond rfl (fun b83 => ?_) (fun b83 => ?_)
  ·replace h77 := ite_t b83 h77
   refine GL.skip ?_
   refine GL.block ?_
   refine GL.seq ?_
   refine GL.region ?_
   refine RL.mv rfl rfl rfl ?_
   refine RL.mv rfl rfl rfl ?_
   refine RL.mv rfl rfl rfl ?_
   obtain ⟨y90, e91, h77⟩ := bind_some h77
   refine RL.idxS (sz := 6) 0 Tryz.underlying43 Tryz_ln57 rfl rfl rfl rfl rfl SlOf.imm (idx_some e91).1 (idx_some e91).2.1 ?_
   refine RL.ldS (i := (x32).toNat) (r := TrD) (e' := y90) 0 Tryz_ln57 rfl rfl rfl rfl SlOf.imm (idx_some e91).2.2 Part.self ?_
   intro v92
   refine RL.mv rfl rfl rfl ?_
   obtain ⟨y93, e94, h77⟩ := bind_some h77
   refine RL.callU (vs := [v35, v92, (sv x2)]) (LR := fun (o : Value) => [own 86 TrA o y93.1]) (fun o => ⟨Loc.own (TR.flatT_pair TR.flatT_str (TR.flatT_pair TR.flatT_ik TR.flatT_ik)), trivial⟩) Tryz_fit77 rfl rfl rfl rfl rfl (fun U w hU hW hL => ledger_Take_c U w hU _ _ (hL 1 _ _ rfl Seen.own) _ _ (hL 3 _ _ rfl Seen.imm) x2 _ e94) ?_
   intro v95
   refine RL.mv rfl rfl rfl ?_
   refine RL.ext rfl rfl rfl rfl ?_
   refine RL.ext rfl rfl rfl rfl ?_
   refine RL.asg rfl rfl rfl ?_
   refine RL.finG ?_
   refine GL.seq ?_
   refine GL.region ?_
   refine RL.mv rfl rfl rfl ?_
   refine RL.mv rfl rfl rfl ?_
   refine RL.mv rfl rfl rfl ?_
   obtain ⟨y98, e99, h77⟩ := bind_some h77
   refine RL.idxS (sz := 6) 0 Tryz.underlying43 Tryz_ln57 rfl rfl rfl rfl rfl SlOf.imm (idx_some e99).1 (idx_some e99).2.1 ?_
   refine RL.fadrS (off := ((x32).toNat * 6)) (fo := 5) 0 Tryz_fld57_5 rfl rfl rfl SlOf.imm (by have := (List.getElem?_eq_some_iff.1 (idx_some e99).2.2).1; (try dsimp only at this ⊢); omega) rfl ?_
   refine RL.ldSx (i := (x32).toNat) (e' := y98.2.2.2.2.2) 0 Ex.ik Tryz_ln3 rfl rfl rfl rfl SlOf.imm (idx_some e99).2.2 (Part.snd (Part.snd (Part.snd (Part.snd (Part.snd Part.self))))) ?_
   refine RL.binI (v := .int .i64 (wsub x31 y98.2.2.2.2.2)) rfl rfl rfl rfl rfl ?_
   refine RL.asg rfl rfl rfl ?_
   refine RL.finG ?_
   refine GL.seq ?_
   refine GL.region ?_
   refine RL.mv rfl rfl rfl ?_
   refine RL.mv rfl rfl rfl ?_
   refine RL.bS (t := TR.int) (vs := [.int .i64 x32]) ([x32] : (List Int)) Tryz.underlying61 Tryz_lo3 rfl rfl rfl rfl ⟨VR.int, trivial⟩ rfl (by decide) ?_
   intro v104
   refine RL.reL (L' := [imm (TR.sl TrD) v0 x0, own 86 TrA v35 l34, own 3 TR.int v37 l36, imm TrD v92 y90, own 86 TrA v95 y93.1, own 3 TR.int v104 ([x32] : (List Int))]) rfl ?_
   obtain ⟨y105, e106, h77⟩ := bind_some h77
   replace e106 := chk_some e106
   refine RL.app 2 5 Tryz.underlying61 Tryz_lo3 rfl rfl rfl rfl rfl rfl rfl SlOf.own e106 ?_
   intro v107
   refine RL.asg rfl rfl rfl ?_
   refine RL.finG ?_
   refine GL.region ?_
   refine RL.mv rfl rfl rfl ?_
   refine RL.mv rfl rfl rfl ?_
   refine RL.mv rfl rfl rfl ?_
   refine RL.mv rfl rfl rfl ?_
   obtain ⟨y110, e111, h77⟩ := bind_some h77
   refine RL.callV (v := .tuple #[.int .i64 y110.1, .int .i64 y110.2]) (vs := [v0, v95, (sv x2), .int .i64 (wsub x31 y98.2.2.2.2.2)]) Tryz_fit95 rfl (Or.inl rfl) rfl rfl rfl rfl (fun U w hU hW hL => pick_Next_c U w hU _ _ (hL 0 _ _ rfl Seen.imm) _ _ (hL 4 _ _ rfl Seen.own) x2 (wsub x31 y98.2.2.2.2.2) _ e111) ?_
   refine RL.mv rfl rfl rfl ?_
   refine RL.ext rfl rfl rfl rfl ?_
   refine RL.ext rfl rfl rfl rfl ?_
   refine RL.asg rfl rfl rfl ?_
   refine RL.asg rfl rfl rfl ?_
   refine RL.finG ?_
   refine GL.nilB ?_
   cases h77
   exact fun a w st => lop_intro (r82, wsub x31 y98.2.2.2.2.2, y110.1, y110.2, y93.1, (l36 ++ ([x32] : (List Int))), v95, v107) (by exact h78) (by simp) (St.cut [0, 4, 2] ⟨rfl, rfl, rfl, rfl, rfl, rfl, rfl, trivial⟩ (by decide) rfl st)
  replace h77 := ite_f b83 h77
  cases h77
  replace h78 : some (Fl.nx _) = some y67 := h78
  cases h78
  exact GL.exit (fun a w st => mid_intro (x31, x32, x33, l34, l36, v35, v37) h70 (St.cut [1, 2] ⟨rfl, rfl, trivial⟩ (by decide) rfl st))
 rintro ⟨x31, x32, x33, l34, l36, v35, v37⟩ h112
 have h113 := h71 _ h112
 try dsimp only at h113
 refine GL.weak (env' := [(13, v35), (14, v37)]) (L' := [own 86 TrA v35 l34, own 3 TR.int v37 l36]) ss ?_
 refine GL.seq ?_
 refine GL.region ?_
 refine RL.mv rfl rfl rfl ?_
 refine RL.mv rfl rfl rfl ?_
 refine RL.asg rfl rfl rfl ?_
 refine RL.asg rfl rfl rfl ?_
 refine RL.asg rfl rfl rfl ?_
 refine RL.finG ?_
 have h113 := Option.some.inj h113
 subst h113
 exact GL.ret (Gx.ret (v := .tuple #[v37, v35, .int .i64 (0 : Int)]) (res3 rfl rfl rfl rfl) (fun a w st => (st.pick [1, 0] (by decide) rfl).toPost (v37, v35)))

theorem log_Log_Size_c (S : Hp) (w : World) (hS : S.sub w) (v0 : Value) (x0 : (B8 × Int)) (k0 : ((TR.ptr TrL)).vrep S v0 x0) (res : Int × Int) (hm : log_Log_Size_m x0 = some res) : Calls Tryz.prog 71 #[v0] w (PostV w (.tuple #[.int .i64 res.1, .int .i64 res.2])) := by
 refine calls_enter 13 Tryz.func71 Tryz.ntmps71 rfl S false [(0, v0)] [imm (TR.ptr TrL) v0 x0] rfl ⟨rfl, trivial⟩ hS ⟨k0, trivial⟩ ?_
 unfold log_Log_Size_m at hm
 refine GL.seq ?_
 refine GL.region ?_
 refine RL.asg rfl rfl rfl ?_
 refine RL.asg rfl rfl rfl ?_
 refine RL.finG ?_
 refine GL.seq ?_
 refine GL.regionQ rfl rfl (by kernel_rfl) ?_
 refine RL.mv rfl rfl rfl ?_
 refine RL.nilk 0 rfl rfl rfl rfl PtOf.imm ?_
 refine RL.fadr (off := 0) (fo := 0) 0 Tryz_fld55_0 rfl rfl rfl PtOf.imm (Or.inr ⟨rfl, rfl⟩) ?_
 refine RL.ldPx (off := (0 + 0)) (e' := x0.1) 0 Ex.str Tryz_ln9 rfl rfl (Or.inl rfl) rfl PtOf.imm (Part.fst Part.self) ?_
 refine RL.lenT Tryz.underlying9 rfl rfl rfl ?_
 refine RL.mv rfl rfl rfl ?_
 refine RL.nilk 0 rfl rfl rfl rfl PtOf.imm ?_
 refine RL.fadr (off := 0) (fo := 1) 0 Tryz_fld55_1 rfl rfl rfl PtOf.imm (Or.inr ⟨rfl, rfl⟩) ?_
 refine RL.ldPx (off := (0 + 1)) (e' := x0.2) 0 Ex.ik Tryz_ln3 rfl rfl (Or.inl rfl) rfl PtOf.imm (Part.snd Part.self) ?_
 refine RL.asg rfl rfl rfl ?_
 refine RL.asg rfl rfl rfl ?_
 refine RL.finQG ?_
 have hm := Option.some.inj hm
 subst hm
 exact GL.ret (Gx.ret (v := .tuple #[.int .i64 ((x0.1).length : Int), .int .i64 x0.2]) (res2 rfl rfl rfl) (fun a w st => st.toPostV))

theorem house_deal_c (S : Hp) (w : World) (hS : S.sub w) (hT : Tab Tryz.prog (Tryz.lays146_ren.g 1) S) (v0 : Value) (x0 : TyD) (k0 : (TrD).vrep S v0 x0) (x1 : B8) (res : B8) (hm : house_deal_m x0 x1 = some res) : Calls Tryz.prog 72 #[v0, (sv x1)] w (PostV w ((sv res))) := by
 refine calls_enter 39 Tryz.func72 Tryz.ntmps72 rfl S false [(0, v0), (1, (sv x1))] [imm TrD v0 x0] rfl ⟨rfl, ⟨rfl, trivial⟩⟩ hS ⟨k0, trivial⟩ ?_
 unfold house_deal_m at hm
 refine GL.seq ?_
 refine GL.region ?_
 refine RL.box (t := TrD) (e := x0) rfl rfl rfl rfl (VR.item 0 rfl) ?_
 intro v4
 refine RL.asg rfl rfl rfl ?_
 refine RL.finG ?_
 refine GL.seq ?_
 refine GL.region ?_
 refine RL.fadr (off := 0) (fo := 0) 1 Tryz_fld57_0 rfl rfl rfl PtOf.obox (Or.inr ⟨rfl, rfl⟩) ?_
 refine RL.ldPx (off := (0 + 0)) (e' := x0.1) 1 Ex.str Tryz_ln9 rfl rfl (Or.inl rfl) rfl PtOf.obox (Part.fst Part.self) ?_
 obtain ⟨y11, e12, hm⟩ := bind_some hm
 replace e12 := chk_some e12
 refine RL.cat rfl rfl rfl rfl e12 ?_
 obtain ⟨y13, e14, hm⟩ := bind_some hm
 replace e14 := chk_some e14
 refine RL.cat rfl rfl rfl rfl e14 ?_
 refine RL.fadr (off := 0) (fo := 1) 1 Tryz_fld57_1 rfl rfl rfl PtOf.obox (Or.inr ⟨rfl, rfl⟩) ?_
 refine RL.ldPx (off := (0 + 1)) (e' := x0.2.1) 1 Ex.str Tryz_ln9 rfl rfl (Or.inl rfl) rfl PtOf.obox (Part.snd (Part.fst Part.self)) ?_
 obtain ⟨y15, e16, hm⟩ := bind_some hm
 replace e16 := chk_some e16
 refine RL.cat rfl rfl rfl rfl e16 ?_
 refine RL.asg rfl rfl rfl ?_
 refine RL.finG ?_
 refine GL.seq ?_
 refine GL.seq ?_
 refine GL.region ?_
 refine RL.fadr (off := 0) (fo := 2) 1 Tryz_fld57_2 rfl rfl rfl PtOf.obox (Or.inr ⟨rfl, rfl⟩) ?_
 refine RL.ldPx (off := (0 + 2)) (e' := x0.2.2.1) 1 Ex.ik Tryz_ln3 rfl rfl (Or.inl rfl) rfl PtOf.obox (Part.snd (Part.snd (Part.fst Part.self))) ?_
 refine RL.fadr (off := 0) (fo := 3) 1 Tryz_fld57_3 rfl rfl rfl PtOf.obox (Or.inr ⟨rfl, rfl⟩) ?_
 refine RL.ldPx (off := (0 + 3)) (e' := x0.2.2.2.1) 1 Ex.ik Tryz_ln3 rfl rfl (Or.inl rfl) rfl PtOf.obox (Part.snd (Part.snd (Part.snd (Part.fst Part.self)))) ?_
 refine RL.fadr (off := 0) (fo := 4) 1 Tryz_fld57_4 rfl rfl rfl PtOf.obox (Or.inr ⟨rfl, rfl⟩) ?_
 refine RL.ldPx (off := (0 + 4)) (e' := x0.2.2.2.2.1) 1 Ex.ik Tryz_ln3 rfl rfl (Or.inl rfl) rfl PtOf.obox (Part.snd (Part.snd (Part.snd (Part.snd (Part.fst Part.self))))) ?_
 refine RL.fadr (off := 0) (fo := 5) 1 Tryz_fld57_5 rfl rfl rfl PtOf.obox (Or.inr ⟨rfl, rfl⟩) ?_
 refine RL.ldPx (off := (0 + 5)) (e' := x0.2.2.2.2.2) 1 Ex.ik Tryz_ln3 rfl rfl (Or.inl rfl) rfl PtOf.obox (Part.snd (Part.snd (Part.snd (Part.snd (Part.snd Part.self))))) ?_
 refine RL.bS (t := TR.int) (vs := [.int .i64 x0.2.2.1, .int .i64 x0.2.2.2.1, .int .i64 x0.2.2.2.2.1, .int .i64 x0.2.2.2.2.2]) ([x0.2.2.1, x0.2.2.2.1, x0.2.2.2.2.1, x0.2.2.2.2.2] : (List Int)) Tryz.underlying61 Tryz_lo3 rfl rfl rfl rfl ⟨VR.int, ⟨VR.int, ⟨VR.int, ⟨VR.int, trivial⟩⟩⟩⟩ rfl (by decide) ?_
 intro v18
 refine RL.reL (L' := [imm TrD v0 x0, obox 57 TrD v4 x0, own 3 TR.int v18 ([x0.2.2.1, x0.2.2.2.1, x0.2.2.2.2.1, x0.2.2.2.2.2] : (List Int))]) rfl ?_
 refine RL.lenS 2 Tryz.underlying61 rfl rfl rfl rfl SlOf.own ?_
 refine RL.mv rfl rfl rfl ?_
 refine RL.finG ?_
 refine GL.lenOwn 2 rfl (fun n36 => ?_)
 obtain ⟨y37, K38, h39, h40, h41, h42, h43⟩ := bindR_K hm
 refine GL.join (ι := B8) (fun (p : B8) => [(1, (sv x1)), (5, (sv p))]) (fun (p : B8) => []) (fun (p : B8) => K38 (.nx p)) ?_ ?_
 ·refine GL.block ?_
  refine GL.loop (ι := Nat × Nat × B8) (fun (p : Nat × Nat × B8) => [(1, (sv x1)), (5, (sv p.2.2)), (23, v18), (24, .int .i64 ((([x0.2.2.1, x0.2.2.2.1, x0.2.2.2.2.1, x0.2.2.2.2.2] : (List Int))).length : Int)), (25, .int .i64 (p.1 : Int))]) (fun (p : Nat × Nat × B8) => [own 3 TR.int v18 ([x0.2.2.1, x0.2.2.2.1, x0.2.2.2.2.1, x0.2.2.2.2.2] : (List Int))]) (fun (p : Nat × Nat × B8) => p.1 + p.2.1 = (([x0.2.2.1, x0.2.2.2.1, x0.2.2.2.2.1, x0.2.2.2.2.2] : (List Int))).length ∧ rangeN (house_deal_b1 x0) p.2.1 p.1 p.2.2 = some y37) (fun (p : Nat × Nat × B8) => p.2.1) (0, (([x0.2.2.1, x0.2.2.2.1, x0.2.2.2.2.1, x0.2.2.2.2.2] : (List Int))).length, ((([100, 32] : B8) ++ x0.1) ++ ([32] : B8)) ++ x0.2.1) ⟨by simp, h39⟩ (fun a w st => St.cut [2] ⟨rfl, rfl, rfl, rfl, rfl, trivial⟩ (by decide) rfl st) ?_
  rintro ⟨i44, r45, x19⟩ ⟨h50, h49⟩
  try dsimp only at h50 h49
  refine GL.weak (env' := [(1, (sv x1)), (5, (sv x19)), (23, v18), (24, .int .i64 ((([x0.2.2.1, x0.2.2.2.1, x0.2.2.2.2.1, x0.2.2.2.2.2] : (List Int))).length : Int)), (25, .int .i64 (i44 : Int))]) (L' := [own 3 TR.int v18 ([x0.2.2.1, x0.2.2.2.1, x0.2.2.2.2.1, x0.2.2.2.2.2] : (List Int))]) ss ?_
  refine GL.seq ?_
  refine GL.region ?_
  refine RL.binI (v := .bool (decide ((i44 : Int) < ((([x0.2.2.1, x0.2.2.2.1, x0.2.2.2.2.1, x0.2.2.2.2.2] : (List Int))).length : Int)))) rfl rfl rfl rfl rfl ?_
  refine RL.finG ?_
  refine GL.seq ?_
  refine GL.cond rfl (fun b52 => ?_) (fun b52 => ?_)
  ·have h53 : i44 < (([x0.2.2.1, x0.2.2.2.1, x0.2.2.2.2.1, x0.2.2.2.2.2] : (List Int))).length := by have := of_decide_eq_true b52; omega
   obtain ⟨r54, hr⟩ : ∃ m, r45 = m + 1 := ⟨r45 - 1, by omega⟩
   subst hr
   obtain ⟨z46, h47, h48⟩ := rangeN_some h49
   unfold house_deal_b1 at h47
   try dsimp only at h47
   refine GL.skip ?_
   refine GL.seq ?_
   refine GL.block ?_
   refine GL.seq ?_
   refine GL.region ?_
   obtain ⟨y57, e58, h47⟩ := bind_some h47
   refine RL.idxS (sz := 1) 0 Tryz.underlying61 Tryz_ln3 rfl rfl rfl rfl rfl SlOf.own (idx_some e58).1 (idx_some e58).2.1 ?_
   refine RL.ldSx (i := i44) (e' := y57) 0 Ex.ik Tryz_ln3 rfl rfl rfl rfl SlOf.own (idx_some e58).2.2 Part.self ?_
   refine RL.asg rfl rfl rfl ?_
   refine RL.finG ?_
   refine GL.region ?_
   refine RL.mv rfl rfl rfl ?_
   refine RL.mv rfl rfl rfl ?_
   obtain ⟨y65, e66, h47⟩ := bind_some h47
   refine RL.callV (v := (sv y65)) (vs := [.int .i64 y57]) Tryz_fit18 rfl (Or.inl rfl) rfl rfl rfl rfl (fun U w hU hW hL => strconv_Itoa_c U w hU (hT.mono hW) y57 _ e66) ?_
   obtain ⟨y67, e68, h47⟩ := bind_some h47
   replace e68 := chk_some e68
   refine RL.cat rfl rfl rfl rfl e68 ?_
   obtain ⟨y69, e70, h47⟩ := bind_some h47
   replace e70 := chk_some e70
   refine RL.cat rfl rfl rfl rfl e70 ?_
   refine RL.asg rfl rfl rfl ?_
   refine RL.finG ?_
   refine GL.nilB ?_
   refine GL.region ?_
   refine RL.binI (v := .int .i64 ((i44 + 1 : Nat) : Int)) rfl rfl rfl rfl (binI_succ i44 (by omega)) ?_
   refine RL.mv rfl rfl rfl ?_
   refine RL.fin ?_
   cases h47
   exact fun a w st => lop_intro (i44 + 1, r54, x19 ++ (([32] : B8) ++ y65)) ⟨by show i44 + 1 + r54 = (([x0.2.2.1, x0.2.2.2.1, x0.2.2.2.2.1, x0.2.2.2.2.2] : (List Int))).length; omega, h48⟩ (by simp) (St.cut [0] ⟨rfl, rfl, rfl, rfl, rfl, trivial⟩ (by decide) rfl st)
  have h53 : ¬ i44 < (([x0.2.2.1, x0.2.2.2.1, x0.2.2.2.2.1, x0.2.2.2.2.2] : (List Int))).length := by have := of_decide_eq_false b52; omega
  obtain rfl : r45 = 0 := by omega
  replace h49 : some (Fl.nx _) = some y37 := h49
  cases h49
  exact GL.exit (fun a w st => mid_intro x19 h40 (St.cut [] ⟨rfl, rfl, trivial⟩ (by decide) rfl st))
 rintro x19 h71
 have h72 := h41 _ h71
 try dsimp only at h72
 refine GL.weak (env' := [(1, (sv x1)), (5, (sv x19))]) (L' := []) ss ?_
 refine GL.seq ?_
 refine GL.region ?_
 refine RL.mv rfl rfl rfl ?_
 obtain ⟨y77, e78, h72⟩ := bind_some h72
 replace e78 := chk_some e78
 refine RL.cat rfl rfl rfl rfl e78 ?_
 refine RL.mv rfl rfl rfl ?_
 obtain ⟨y79, e80, h72⟩ := bind_some h72
 replace e80 := chk_some e80
 refine RL.cat rfl rfl rfl rfl e80 ?_
 refine RL.asg rfl rfl rfl ?_
 refine RL.finG ?_
 have h72 := Option.some.inj h72
 subst h72
 exact GL.ret (Gx.ret (v := (sv ((x19 ++ ([32] : B8)) ++ x1))) (res1 rfl rfl) (fun a w st => st.toPostV))

theorem slices_DeleteFunc_api_Deal_api_Deal_c (B : World) (S X : Hp) (f : Nat → Hp) (w : World) (v0 : Value) (x0 : (List TyD)) (hO : HeapOk B.heap.size S f [own 57 TrD v0 x0, keep X].length w) (hB : Below B.heap.size B w) (hI : Its [own 57 TrD v0 x0, keep X] S f) (f1 : FuncId) (c1 : Array Value) (t1 : Fit Tryz.prog f1) (g1 : TyD → Option Bool) (k1 : ∀ (U : Hp) (w' : World), Hp.le S U → U.sub w' → ∀ (u0 : Value) (a0 : TyD) (_ : (TrD).vrep U u0 a0) (rr : Bool), g1 a0 = some rr → Calls Tryz.prog f1 (#[u0] ++ c1) w' (PostV w' (.bool rr))) (res : (List TyD)) (hm : slices_DeleteFunc_api_Deal_api_Deal_m x0 g1 = some res) : Calls Tryz.prog 96 #[v0, .func (.func f1) #[] c1] w (PostM B S (fun (o : Value) => o) (fun (o : Value) => [own 57 TrD o res, keep X])) := by
 refine calls_enterM 42 Tryz.func96 Tryz.ntmps96 rfl B S f [(0, v0), (1, .func (.func f1) #[] c1)] [own 57 TrD v0 x0, keep X] [] rfl ⟨rfl, ⟨rfl, trivial⟩⟩ hB hO hI trivial ?_
 unfold slices_DeleteFunc_api_Deal_api_Deal_m at hm
 refine GL.seq ?_
 refine GL.region ?_
 refine RL.asg rfl rfl rfl ?_
 refine RL.finG ?_
 refine GL.seq ?_
 refine GL.region ?_
 refine RL.mv rfl rfl rfl ?_
 refine RL.mv rfl rfl rfl ?_
 obtain ⟨y5, e6, hm⟩ := bind_some hm
 refine RL.callV (v := .int .i64 y5) (vs := [v0, .func (.func f1) #[] c1]) Tryz_fit93 rfl (Or.inl rfl) rfl rfl rfl rfl (fun U w hU hW hL => slices_IndexFunc_api_Deal_api_Deal_c U w hU _ _ (hL 0 _ _ rfl Seen.own) f1 c1 t1 g1 (fun U' w' hle => k1 U' w' (Hp.le_trans hW hle)) _ e6) ?_
 refine RL.asg rfl rfl rfl ?_
 refine RL.finG ?_
 refine GL.seq ?_
 refine GL.seq ?_
 refine GL.region ?_
 refine RL.mv rfl rfl rfl ?_
 refine RL.binI (v := .bool (y5 == (-1 : Int))) rfl rfl rfl rfl rfl ?_
 refine RL.finG ?_
 refine GL.cond rfl (fun b7 => ?_) (fun b7 => ?_)
 ·replace hm := ite_t b7 hm
  refine GL.seq ?_
  refine GL.region ?_
  refine RL.mv rfl rfl rfl ?_
  refine RL.asg rfl rfl rfl ?_
  refine RL.finG ?_
  have hm := Option.some.inj hm
  subst hm
  exact GL.ret (Gx.ret (v := v0) (res1 rfl rfl) (fun a w st => (st.pick [0, 1] (by decide) rfl).toPostM (V := fun (o : Value) => o) (LR := fun (o : Value) => [own 57 TrD o x0, keep X]) v0))
 replace hm := ite_f b7 hm
 refine GL.skip ?_
 refine GL.seq ?_
 refine GL.seq ?_
 refine GL.region ?_
 refine RL.mv rfl rfl rfl ?_
 refine RL.binI (v := .int .i64 (wadd y5 (1 : Int))) rfl rfl rfl rfl rfl ?_
 refine RL.asg rfl rfl rfl ?_
 refine RL.finG ?_
 obtain ⟨y57, K58, h59, h60, h61, h62, h63⟩ := bindR_K hm
 refine GL.join (ι := (List TyD) × Int × Int) (fun (p : (List TyD) × Int × Int) => [(0, v0), (5, .int .i64 p.2.1)]) (fun (p : (List TyD) × Int × Int) => [own 57 TrD v0 p.1, keep X]) (fun (p : (List TyD) × Int × Int) => K58 (.nx (p.1, p.2.1, p.2.2))) ?_ ?_
 ·refine GL.block ?_
  refine GL.loop (ι := Nat × (List TyD) × Int × Int) (fun (p : Nat × (List TyD) × Int × Int) => [(0, v0), (1, .func (.func f1) #[] c1), (5, .int .i64 p.2.2.1), (6, .int .i64 p.2.2.2)]) (fun (p : Nat × (List TyD) × Int × Int) => [own 57 TrD v0 p.2.1, keep X]) (fun (p : Nat × (List TyD) × Int × Int) => loopM (slices_DeleteFunc_api_Deal_api_Deal_b1 g1) p.1 (p.2.1, p.2.2.1, p.2.2.2) = some y57) (fun (p : Nat × (List TyD) × Int × Int) => p.1) (1048576, x0, y5, wadd y5 (1 : Int)) h59 (fun a w st => St.cut [0, 1] ⟨rfl, rfl, rfl, rfl, trivial⟩ (by decide) rfl st) ?_
  rintro ⟨r66, l32, x33, x34⟩ h70
  try dsimp only at h70
  refine GL.weak (env' := [(0, v0), (1, .func (.func f1) #[] c1), (5, .int .i64 x33), (6, .int .i64 x34)]) (L' := [own 57 TrD v0 l32, keep X]) ss ?_
  obtain ⟨r73, z67, hr, h68, h69⟩ := loopM_some h70
  subst hr
  unfold slices_DeleteFunc_api_Deal_api_Deal_b1 at h68
  try dsimp only at h68
  refine GL.seq ?_
  refine GL.seq ?_
  refine GL.region ?_
  refine RL.mv rfl rfl rfl ?_
  refine RL.mv rfl rfl rfl ?_
  refine RL.lenS 0 Tryz.underlying43 rfl rfl rfl rfl SlOf.own ?_
  refine RL.binI (v := .bool (decide (x34 < ((l32).length : Int)))) rfl rfl rfl rfl rfl ?_
  refine RL.finG ?_
  refine GL.cond rfl (fun b74 => ?_) (fun b74 => ?_)
  ·replace h68 := ite_t b74 h68
   refine GL.skip ?_
   refine GL.seq ?_
   refine GL.block ?_
   refine GL.seq ?_
   refine GL.region ?_
   refine RL.mv rfl rfl rfl ?_
   refine RL.mv rfl rfl rfl ?_
   obtain ⟨y79, e80, h68⟩ := bind_some h68
   refine RL.idxS (sz := 6) 0 Tryz.underlying43 Tryz_ln57 rfl rfl rfl rfl rfl SlOf.own (idx_some e80).1 (idx_some e80).2.1 ?_
   refine RL.ldS (i := (x34).toNat) (r := TrD) (e' := y79) 0 Tryz_ln57 rfl rfl rfl rfl SlOf.own (idx_some e80).2.2 Part.self ?_
   intro v81
   refine RL.alloc (t := TrD) (z := (([] : B8), ([] : B8), (0 : Int), (0 : Int), (0 : Int), (0 : Int))) Tryz_lo57 (fun S => ⟨[.string ⟨#[]⟩], _, rfl, rfl, ⟨[.string ⟨#[]⟩], _, rfl, rfl, ⟨[.int .i64 0], _, rfl, rfl, ⟨[.int .i64 0], _, rfl, rfl, ⟨[.int .i64 0], _, rfl, rfl, rfl⟩⟩⟩⟩⟩) rfl rfl rfl ?_
   intro v82
   refine RL.reL (L' := [own 57 TrD v0 l32, keep X, imm TrD v81 y79, obox 57 TrD v82 (([] : B8), ([] : B8), (0 : Int), (0 : Int), (0 : Int), (0 : Int))]) rfl ?_
   refine RL.stP (off := 0) (e' := y79) (d1 := y79) (r := TrD) 3 Tryz_ln57 rfl rfl (Or.inr ⟨rfl, rfl⟩) rfl (VR.item 2 rfl) rfl Upd.self ?_
   refine RL.finG ?_
   refine GL.seq ?_
   refine GL.region ?_
   refine RL.mv rfl rfl rfl ?_
   refine RL.ldP (off := 0) (r := TrD) (e' := y79) 3 Tryz_ln57 rfl rfl (Or.inr ⟨rfl, rfl⟩) rfl PtOf.obox Part.self ?_
   intro v86
   refine RL.reL (L' := [own 57 TrD v0 l32, keep X, imm TrD v81 y79, obox 57 TrD v82 y79, imm TrD v86 y79]) rfl ?_
   obtain ⟨y87, e88, h68⟩ := bind_some h68
   refine RL.callV (v := .bool y87) (vs := [v86]) t1 rfl (Or.inl rfl) rfl rfl rfl rfl (fun U w hU hW hL => k1 U w hW hU _ _ (hL 4 _ _ rfl Seen.imm) _ e88) ?_
   refine RL.notB rfl rfl rfl ?_
   refine RL.finG ?_
   refine GL.cond rfl (fun b89 => ?_) (fun b89 => ?_)
   ·replace h68 := ite_t b89 h68
    refine GL.seq ?_
    refine GL.region ?_
    refine RL.mv rfl rfl rfl ?_
    refine RL.mv rfl rfl rfl ?_
    refine RL.ldP (off := 0) (r := TrD) (e' := y79) 3 Tryz_ln57 rfl rfl (Or.inr ⟨rfl, rfl⟩) rfl PtOf.obox Part.self ?_
    intro v93
    obtain ⟨y94, e95, h68⟩ := bind_some h68
    refine RL.idxS (sz := 6) 0 Tryz.underlying43 Tryz_ln57 rfl rfl rfl rfl rfl SlOf.own (idx_some e95).1 (idx_some e95).2.1 ?_
    refine RL.stS (i := (x33).toNat) (e' := y79) (e1 := y79) (r := TrD) 0 Tryz_ln57 rfl rfl rfl rfl (VR.item 5 rfl) rfl (idx_some e95).2.2 Upd.self ?_
    refine RL.reL (L' := [own 57 TrD v0 (List.set l32 ((x33).toNat) y79), keep X, imm TrD v81 y79, obox 57 TrD v82 y79, imm TrD v86 y79, imm TrD v93 y79]) rfl ?_
    refine RL.finG ?_
    refine GL.region ?_
    refine RL.mv rfl rfl rfl ?_
    refine RL.binI (v := .int .i64 (wadd x33 (1 : Int))) rfl rfl rfl rfl rfl ?_
    refine RL.asg rfl rfl rfl ?_
    refine RL.finG ?_
    refine GL.nilB ?_
    refine GL.region ?_
    refine RL.mv rfl rfl rfl ?_
    refine RL.binI (v := .int .i64 (wadd x34 (1 : Int))) rfl rfl rfl rfl rfl ?_
    refine RL.asg rfl rfl rfl ?_
    refine RL.finG ?_
    cases h68
    exact fun a w st => lop_intro (r73, (List.set l32 ((x33).toNat) y79), wadd x33 (1 : Int), wadd x34 (1 : Int)) (by exact h69) (by simp) (St.cut [0, 1] ⟨rfl, rfl, rfl, rfl, trivial⟩ (by decide) rfl st)
   replace h68 := ite_f b89 h68
   refine GL.skip ?_
   refine GL.nilB ?_
   refine GL.region ?_
   refine RL.mv rfl rfl rfl ?_
   refine RL.binI (v := .int .i64 (wadd x34 (1 : Int))) rfl rfl rfl rfl rfl ?_
   refine RL.asg rfl rfl rfl ?_
   refine RL.finG ?_
   cases h68
   exact fun a w st => lop_intro (r73, l32, x33, wadd x34 (1 : Int)) (by exact h69) (by simp) (St.cut [0, 1] ⟨rfl, rfl, rfl, rfl, trivial⟩ (by decide) rfl st)
  replace h68 := ite_f b74 h68
  cases h68
  replace h69 : some (Fl.nx _) = some y57 := h69
  cases h69
  exact GL.exit (fun a w st => mid_intro (l32, x33, x34) h60 (St.cut [0, 1] ⟨rfl, rfl, trivial⟩ (by decide) rfl st))
 rintro ⟨l32, x33, x34⟩ h96
 have h97 := h61 _ h96
 try dsimp only at h97
 refine GL.weak (env' := [(0, v0), (5, .int .i64 x33)]) (L' := [own 57 TrD v0 l32, keep X]) ss ?_
 refine GL.seq ?_
 refine GL.region ?_
 refine RL.mv rfl rfl rfl ?_
 refine RL.mv rfl rfl rfl ?_
 obtain ⟨y100, e101, h97⟩ := bind_some h97
 replace e101 := chk_some e101
 refine RL.cutL (t := TrD) (i := (x33).toNat) (kd := .i64) 0 Tryz.underlying43 Tryz_ln57 rfl rfl rfl (by rw [Int.toNat_of_nonneg (by omega)]; rfl) rfl (by omega) ?_
 refine RL.clrL (t := TrD) (i := (x33).toNat) 0 Tryz.underlying43 Tryz_lo57 (by decide) rfl rfl rfl rfl (by omega) ?_
 refine RL.reL (L' := [own 57 TrD (relen v0 ((x33).toNat)) (List.take ((x33).toNat) l32), keep X]) rfl ?_
 refine RL.finG ?_
 refine GL.seq ?_
 refine GL.region ?_
 refine RL.mv rfl rfl rfl ?_
 refine RL.mv rfl rfl rfl ?_
 obtain ⟨y104, e105, h97⟩ := bind_some h97
 replace e105 := chk_some e105
 refine RL.cutP (t := TrD) (i := (x33).toNat) (kd := .i64) 0 Tryz.underlying43 Tryz_ln57 rfl rfl rfl (by rw [Int.toNat_of_nonneg (by omega)]; rfl) rfl (by rw [List.length_take]; omega) ?_
 refine RL.asg rfl rfl rfl ?_
 refine RL.finG ?_
 have h97 := Option.some.inj h97
 subst h97
 exact GL.ret (Gx.ret (v := relen v0 ((x33).toNat)) (res1 rfl rfl) (fun a w st => (st.pick [0, 1] (by decide) rfl).toPostM (V := fun (o : Value) => o) (LR := fun (o : Value) => [own 57 TrD o (List.take ((x33).toNat) l32), keep X]) (relen v0 ((x33).toNat))))

theorem slices_ContainsFunc_api_Account_api_Account_c (S : Hp) (w : World) (hS : S.sub w) (v0 : Value) (x0 : (List TyA)) (k0 : ((TR.sl TrA)).vrep S v0 x0) (f1 : FuncId) (c1 : Array Value) (t1 : Fit Tryz.prog f1) (g1 : TyA → Option Bool) (k1 : ∀ (U : Hp) (w' : World), Hp.le S U → U.sub w' → ∀ (u0 : Value) (a0 : TyA) (_ : (TrA).vrep U u0 a0) (rr : Bool), g1 a0 = some rr → Calls Tryz.prog f1 (#[u0] ++ c1) w' (PostV w' (.bool rr))) (res : Bool) (hm : slices_ContainsFunc_api_Account_api_Account_m x0 g1 = some res) : Calls Tryz.prog 98 #[v0, .func (.func f1) #[] c1] w (PostV w (.bool res)) := by
 refine calls_enter 9 Tryz.func98 Tryz.ntmps98 rfl S false [(0, v0), (1, .func (.func f1) #[] c1)] [imm (TR.sl TrA) v0 x0] rfl ⟨rfl, ⟨rfl, trivial⟩⟩ hS ⟨k0, trivial⟩ ?_
 unfold slices_ContainsFunc_api_Account_api_Account_m at hm
 refine GL.seq ?_
 refine GL.region ?_
 refine RL.asg rfl rfl rfl ?_
 refine RL.finG ?_
 refine GL.seq ?_
 refine GL.region ?_
 refine RL.mv rfl rfl rfl ?_
 refine RL.mv rfl rfl rfl ?_
 obtain ⟨y5, e6, hm⟩ := bind_some hm
 refine RL.callV (v := .int .i64 y5) (vs := [v0, .func (.func f1) #[] c1]) Tryz_fit78 rfl (Or.inl rfl) rfl rfl rfl rfl (fun U w hU hW hL => slices_IndexFunc_api_Account_api_Account_c U w hU _ _ (hL 0 _ _ rfl Seen.imm) f1 c1 t1 g1 (fun U' w' hle => k1 U' w' (Hp.le_trans hW hle)) _ e6) ?_
 refine RL.binI (v := .bool (decide (y5 ≥ (0 : Int)))) rfl rfl rfl rfl rfl ?_
 refine RL.asg rfl rfl rfl ?_
 refine RL.finG ?_
 have hm := Option.some.inj hm
 subst hm
 exact GL.ret (Gx.ret (v := .bool (decide (y5 ≥ (0 : Int)))) (res1 rfl rfl) (fun a w st => st.toPostV))

theorem queue_Clean_1_1_c (S : Hp) (w : World) (hS : S.sub w) (v0 : Value) (x0 : TyA) (k0 : (TrA).vrep S v0 x0) (v1 : Value) (x1 : TyD) (k1 : ((TR.ptr TrD)).vrep S v1 x1) (res : Bool) (hm : queue_Clean_1_1_m x0 x1 = some res) : Calls Tryz.prog 99 #[v0, v1] w (PostV w (.bool res)) := by
 refine calls_enter 16 Tryz.func99 Tryz.ntmps99 rfl S false [(0, v0), (1, v1)] [imm TrA v0 x0, imm (TR.ptr TrD) v1 x1] rfl ⟨rfl, ⟨rfl, trivial⟩⟩ hS ⟨k0, ⟨k1, trivial⟩⟩ ?_
 unfold queue_Clean_1_1_m at hm
 refine GL.seq ?_
 refine GL.region ?_
 refine RL.box (t := TrA) (e := x0) rfl rfl rfl rfl (VR.item 0 rfl) ?_
 intro v4
 refine RL.asg rfl rfl rfl ?_
 refine RL.finG ?_
 refine GL.seq ?_
 obtain ⟨y8, K9, h10, h11, h12, h13, h14⟩ := bindR_K hm
 refine GL.join (ι := Bool) (fun (p : Bool) => [(3, .bool p)]) (fun (p : Bool) => []) (fun (p : Bool) => K9 (.nx p)) ?_ ?_
 ·skip
  refine GL.region ?_
  refine RL.fadr (off := 0) (fo := 0) 2 Tryz_fld86_0 rfl rfl rfl PtOf.obox (Or.inr ⟨rfl, rfl⟩) ?_
  refine RL.ldPx (off := (0 + 0)) (e' := x0.1) 2 Ex.str Tryz_ln9 rfl rfl (Or.inl rfl) rfl PtOf.obox (Part.fst Part.self) ?_
  refine RL.fadr (off := 0) (fo := 0) 1 Tryz_fld57_0 rfl rfl rfl PtOf.imm (Or.inr ⟨rfl, rfl⟩) ?_
  refine RL.ldPx (off := (0 + 0)) (e' := x1.1) 1 Ex.str Tryz_ln9 rfl rfl (Or.inl rfl) rfl PtOf.imm (Part.fst Part.self) ?_
  refine RL.binS (v := .bool (x0.1 == x1.1)) rfl rfl rfl rfl rfl ?_
  refine RL.mv rfl rfl rfl ?_
  refine RL.split (t := 9) rfl (fun b15 => ?_) (fun b15 => ?_)
  ·replace h10 := ite_t b15 h10
   refine RL.fadr (off := 0) (fo := 2) 1 Tryz_fld57_2 rfl rfl rfl PtOf.imm (Or.inr ⟨rfl, rfl⟩) ?_
   refine RL.ldPx (off := (0 + 2)) (e' := x1.2.2.1) 1 Ex.ik Tryz_ln3 rfl rfl (Or.inl rfl) rfl PtOf.imm (Part.snd (Part.snd (Part.fst Part.self))) ?_
   refine RL.fadr (off := 0) (fo := 2) 2 Tryz_fld86_2 rfl rfl rfl PtOf.obox (Or.inr ⟨rfl, rfl⟩) ?_
   refine RL.ldPx (off := (0 + 2)) (e' := x0.2.2) 2 Ex.ik Tryz_ln3 rfl rfl (Or.inl rfl) rfl PtOf.obox (Part.snd (Part.snd Part.self)) ?_
   refine RL.binI (v := .bool (decide (x1.2.2.1 < x0.2.2))) rfl rfl rfl rfl rfl ?_
   refine RL.pickT rfl rfl rfl rfl ?_
   refine RL.asg rfl rfl rfl ?_
   refine RL.fin ?_
   cases h10
   exact fun a w st => mid_intro (decide (x1.2.2.1 < x0.2.2)) h11 (St.cut [] ⟨rfl, trivial⟩ (by decide) rfl st)
  replace h10 := ite_f b15 h10
  refine RL.skip rfl rfl ?_
  refine RL.skip rfl rfl ?_
  refine RL.skip rfl rfl ?_
  refine RL.skip rfl rfl ?_
  refine RL.skip rfl rfl ?_
  refine RL.pickF rfl rfl rfl rfl ?_
  refine RL.asg rfl rfl rfl ?_
  refine RL.fin ?_
  cases h10
  exact fun a w st => mid_intro false h11 (St.cut [] ⟨rfl, trivial⟩ (by decide) rfl st)
 rintro x7 h16
 have h17 := h12 _ h16
 try dsimp only at h17
 refine GL.weak (env' := [(3, .bool x7)]) (L' := []) ss ?_
 have h17 := Option.some.inj h17
 subst h17
 exact GL.ret (Gx.ret (v := .bool x7) (res1 rfl rfl) (fun a w st => st.toPostV))

theorem queue_Clean_1_c (S : Hp) (w : World) (hS : S.sub w) (v0 : Value) (x0 : TyD) (k0 : (TrD).vrep S v0 x0) (v1 : Value) (x1 : (List TyA)) (k1 : ((TR.ptr (TR.sl TrA))).vrep S v1 x1) (res : Bool) (hm : queue_Clean_1_m x0 x1 = some res) : Calls Tryz.prog 97 #[v0, v1] w (PostV w (.bool res)) := by
 refine calls_enter 7 Tryz.func97 Tryz.ntmps97 rfl S false [(0, v0), (1, v1)] [imm TrD v0 x0, imm (TR.ptr (TR.sl TrA)) v1 x1] rfl ⟨rfl, ⟨rfl, trivial⟩⟩ hS ⟨k0, ⟨k1, trivial⟩⟩ ?_
 unfold queue_Clean_1_m at hm
 refine GL.seq ?_
 refine GL.region ?_
 refine RL.box (t := TrD) (e := x0) rfl rfl rfl rfl (VR.item 0 rfl) ?_
 intro v4
 refine RL.asg rfl rfl rfl ?_
 refine RL.finG ?_
 refine GL.seq ?_
 refine GL.region ?_
 refine RL.ldP (off := 0) (r := (TR.sl TrA)) (e' := x1) 1 Tryz_ln42 rfl rfl (Or.inr ⟨rfl, rfl⟩) rfl PtOf.imm Part.self ?_
 intro v8
 refine RL.reL (L' := [imm TrD v0 x0, imm (TR.ptr (TR.sl TrA)) v1 x1, obox 57 TrD v4 x0, imm (TR.sl TrA) v8 x1]) rfl ?_
 refine RL.mkF (vs := [v4]) rfl rfl rfl ?_
 obtain ⟨y9, e10, hm⟩ := bind_some hm
 refine RL.callV (v := .bool y9) (vs := [v8, .func (.func 99) #[] #[v4]]) Tryz_fit98 rfl (Or.inl rfl) rfl rfl rfl rfl (fun U w hU hW hL => slices_ContainsFunc_api_Account_api_Account_c U w hU _ _ (hL 3 _ _ rfl Seen.imm) 99 #[v4] Tryz_fit99 (fun a0 => queue_Clean_1_1_m a0 x0) (fun U' w' hle hU' u0 a0 q0 rr hr => (queue_Clean_1_1_c U' w' hU' u0 a0 q0 _ _ (TR.vrep_mono hle (hL 2 _ _ rfl Seen.obox)) rr hr).mono (fun _ _ z => z)) _ e10) ?_
 refine RL.asg rfl rfl rfl ?_
 refine RL.finG ?_
 have hm := Option.some.inj hm
 subst hm
 exact GL.ret (Gx.ret (v := .bool y9) (res1 rfl rfl) (fun a w st => st.toPostV))

theorem queue_Clean_c (S : Hp) (w : World) (hS : S.sub w) (v0 : Value) (x0 : (List TyD)) (k0 : ((TR.sl TrD)).vrep S v0 x0) (v1 : Value) (x1 : (List TyA)) (k1 : ((TR.sl TrA)).vrep S v1 x1) (res : (List TyD) × Int) (hm : queue_Clean_m x0 x1 = some res) : Calls Tryz.prog 73 #[v0, v1] w (Post w S (fun (o : Value) => .tuple #[o, .int .i64 res.2]) (fun (o : Value) => [own 57 TrD o res.1])) := by
 refine calls_enter 22 Tryz.func73 Tryz.ntmps73 rfl S false [(0, v0), (1, v1)] [imm (TR.sl TrD) v0 x0, imm (TR.sl TrA) v1 x1] rfl ⟨rfl, ⟨rfl, trivial⟩⟩ hS ⟨k0, ⟨k1, trivial⟩⟩ ?_
 unfold queue_Clean_m at hm
 refine GL.seq ?_
 refine GL.region ?_
 refine RL.box (t := (TR.sl TrA)) (e := x1) rfl rfl rfl rfl (VR.item 1 rfl) ?_
 intro v4
 refine RL.asg rfl rfl rfl ?_
 refine RL.asg rfl rfl rfl ?_
 refine RL.finG ?_
 refine GL.seq ?_
 refine GL.seq ?_
 refine GL.region ?_
 refine RL.mv rfl rfl rfl ?_
 obtain ⟨y7, e8, hm⟩ := bind_some hm
 refine RL.callV (v := .int .i64 y7) (vs := [v0]) Tryz_fit66 rfl (Or.inl rfl) rfl rfl rfl rfl (fun U w hU hW hL => queue_Check_c U w hU _ _ (hL 0 _ _ rfl Seen.imm) _ e8) ?_
 refine RL.asg rfl rfl rfl ?_
 refine RL.finG ?_
 refine GL.seq ?_
 refine GL.region ?_
 refine RL.mv rfl rfl rfl ?_
 refine RL.binI (v := .bool (y7 != (0 : Int))) rfl rfl rfl rfl rfl ?_
 refine RL.finG ?_
 refine GL.cond rfl (fun b9 => ?_) (fun b9 => ?_)
 ·replace hm := ite_t b9 hm
  refine GL.seq ?_
  refine GL.region ?_
  refine RL.mv rfl rfl rfl ?_
  refine RL.asg rfl rfl rfl ?_
  refine RL.asg rfl rfl rfl ?_
  refine RL.finG ?_
  refine GL.weak (fun a w st => st.nilOwn 57 TrD) ?_
  have hm := Option.some.inj hm
  subst hm
  exact GL.ret (Gx.ret (v := .tuple #[Value.slice none 0 0, .int .i64 y7]) (res2 rfl rfl rfl) (fun a w st => (st.pick [3] (by decide) rfl).toPost (Value.slice none 0 0)))
 replace hm := ite_f b9 hm
 refine GL.skip ?_
 refine GL.seq ?_
 refine GL.seq ?_
 refine GL.region ?_
 refine RL.ldP (off := 0) (r := (TR.sl TrA)) (e' := x1) 2 Tryz_ln42 rfl rfl (Or.inr ⟨rfl, rfl⟩) rfl PtOf.obox Part.self ?_
 intro v13
 refine RL.reL (L' := [imm (TR.sl TrD) v0 x0, imm (TR.sl TrA) v1 x1, obox 42 (TR.sl TrA) v4 x1, imm (TR.sl TrA) v13 x1]) rfl ?_
 obtain ⟨y14, e15, hm⟩ := bind_some hm
 refine RL.callV (v := .int .i64 y14) (vs := [v13]) Tryz_fit86 rfl (Or.inl rfl) rfl rfl rfl rfl (fun U w hU hW hL => ledger_Check_c U w hU _ _ (hL 3 _ _ rfl Seen.imm) _ e15) ?_
 refine RL.asg rfl rfl rfl ?_
 refine RL.finG ?_
 refine GL.seq ?_
 refine GL.region ?_
 refine RL.mv rfl rfl rfl ?_
 refine RL.binI (v := .bool (y14 != (0 : Int))) rfl rfl rfl rfl rfl ?_
 refine RL.finG ?_
 refine GL.cond rfl (fun b16 => ?_) (fun b16 => ?_)
 ·replace hm := ite_t b16 hm
  refine GL.seq ?_
  refine GL.region ?_
  refine RL.mv rfl rfl rfl ?_
  refine RL.asg rfl rfl rfl ?_
  refine RL.asg rfl rfl rfl ?_
  refine RL.finG ?_
  refine GL.weak (fun a w st => st.nilOwn 57 TrD) ?_
  have hm := Option.some.inj hm
  subst hm
  exact GL.ret (Gx.ret (v := .tuple #[Value.slice none 0 0, .int .i64 y14]) (res2 rfl rfl rfl) (fun a w st => (st.pick [4] (by decide) rfl).toPost (Value.slice none 0 0)))
 replace hm := ite_f b16 hm
 refine GL.skip ?_
 refine GL.seq ?_
 refine GL.region ?_
 refine RL.mv rfl rfl rfl ?_
 obtain ⟨y23, e24, hm⟩ := bind_some hm
 refine RL.call (vs := [v0]) Tryz_fit69 rfl rfl rfl rfl rfl (fun S f w hS hW hi => slices_Clone_api_Deal_api_Deal_c S w hS _ _ (hi 0 _ rfl) _ e24) ?_
 intro v25
 refine RL.mkF (vs := [v4]) rfl rfl rfl ?_
 refine RL.weak (fun a w st => st.freezeB 2 rfl) ?_
 obtain ⟨y26, e27, hm⟩ := bind_some hm
 refine RL.callK (vs := [v25, .func (.func 97) #[] #[v4]]) (V := fun (o : Value) => o) (LR := fun (o : Value) => [own 57 TrD o y26]) (Ls := [own 57 TrD v25 y23]) [4] (by decide) Tryz_fit96 rfl rfl rfl rfl rfl rfl (fun S f X w hO hB hW hI hL => slices_DeleteFunc_api_Deal_api_Deal_c _ S X f w _ _  hO hB hI 97 #[v4] Tryz_fit97 (fun a0 => queue_Clean_1_m a0 x1) (fun U' w' hle hU' u0 a0 q0 rr hr => (queue_Clean_1_c U' w' hU' u0 a0 q0 _ _ (TR.vrep_mono hle (hL 2 _ _ rfl Sure.imm)) rr hr).mono (fun _ _ z => z)) _ e27) ?_
 intro v28
 refine RL.reL (L' := [imm (TR.sl TrD) v0 x0, imm (TR.sl TrA) v1 x1, imm (TR.ptr (TR.sl TrA)) v4 x1, imm (TR.sl TrA) v13 x1, gone, own 57 TrD v28 y26]) rfl ?_
 refine RL.asg rfl rfl rfl ?_
 refine RL.asg rfl rfl rfl ?_
 refine RL.finG ?_
 have hm := Option.some.inj hm
 subst hm
 exact GL.ret (Gx.ret (v := .tuple #[v28, .int .i64 (0 : Int)]) (res2 rfl rfl rfl) (fun a w st => (st.pick [5] (by decide) rfl).toPost v28))

theorem house_House_build_c (B : World) (S X : Hp) (f : Nat → Hp) (w : World) (v0 : Value) (u0a : Value) (x0 : TyH) (hO : HeapOk B.heap.size S f [obox 45 TrH v0 (x0.1, (x0.2.1, u0a)), obox 55 TrL u0a x0.2.2, keep X].length w) (hB : Below B.heap.size B w) (hI : Its [obox 45 TrH v0 (x0.1, (x0.2.1, u0a)), obox 55 TrL u0a x0.2.2, keep X] S f) (hT : Tab Tryz.prog (Tryz.lays146_ren.g 1) S) (v1 : Value) (x1 : TyE) (k1 : (TrE).vrep S v1 x1) (res : (Int × Int) × Int × TyH) (hm : house_House_build_m x0 x1 = some res) : Calls Tryz.prog 44 #[v0, v1] w (PostM B S (fun (o : Value) => .tuple #[o, .int .i64 res.2.1]) (fun (o : Value) => [obox 45 TrH v0 (res.2.2.1, (res.2.2.2.1, u0a)), obox 55 TrL u0a res.2.2.2.2, imm (TR.pair TR.int TR.int) o res.1, keep X])) := by
 refine calls_enterM 125 Tryz.func44 Tryz.ntmps44 rfl B S f [(0, v0), (1, v1)] [obox 45 TrH v0 (x0.1, (x0.2.1, u0a)), obox 55 TrL u0a x0.2.2, keep X] [imm TrE v1 x1] rfl ⟨rfl, ⟨rfl, trivial⟩⟩ hB hO hI ⟨k1, trivial⟩ ?_
 unfold house_House_build_m at hm
 refine GL.seq ?_
 refine GL.region ?_
 refine RL.box (t := TrE) (e := x1) rfl rfl rfl rfl (VR.item 3 rfl) ?_
 intro v5
 refine RL.alloc (t := (TR.pair TR.int TR.int)) (z := ((0 : Int), (0 : Int))) Tryz_lo64 (fun S => ⟨[.int .i64 0], _, rfl, rfl, rfl⟩) rfl rfl rfl ?_
 intro v6
 refine RL.reL (L' := [obox 45 TrH v0 (x0.1, (x0.2.1, u0a)), obox 55 TrL u0a x0.2.2, keep X, imm TrE v1 x1, obox 59 TrE v5 x1, obox 64 (TR.pair TR.int TR.int) v6 ((0 : Int), (0 : Int))]) rfl ?_
 refine RL.asg rfl rfl rfl ?_
 refine RL.finG ?_
 refine GL.seq ?_
 refine GL.seq ?_
 refine GL.region ?_
 refine RL.mv rfl rfl rfl ?_
 refine RL.fadr (off := 0) (fo := 2) 4 Tryz_fld59_2 rfl rfl rfl PtOf.obox (Or.inr ⟨rfl, rfl⟩) ?_
 refine RL.ldPx (off := (0 + 2)) (e' := x1.2.2.1) 4 Ex.str Tryz_ln9 rfl rfl (Or.inl rfl) rfl PtOf.obox (Part.snd (Part.snd (Part.fst Part.self))) ?_
 obtain ⟨y9, e10, hm⟩ := bind_some hm
 refine RL.callV (v := .int .i64 y9) (vs := [v0, (sv x1.2.2.1)]) Tryz_fit48 rfl (Or.inl rfl) rfl rfl rfl rfl (fun U w hU hW hL => house_House_find_c U w hU _ _ (ptr_held (Helded.snd (Helded.snd (Helded.raw rfl))) (hL 0 _ _ rfl Seen.obox) (hL 1 _ _ rfl Seen.obox)) x1.2.2.1 _ e10) ?_
 refine RL.binI (v := .bool (decide (y9 < (0 : Int)))) rfl rfl rfl rfl rfl ?_
 refine RL.finG ?_
 refine GL.cond rfl (fun b11 => ?_) (fun b11 => ?_)
 ·replace hm := ite_t b11 hm
  refine GL.seq ?_
  refine GL.region ?_
  refine RL.bld (t := (TR.pair TR.int TR.int)) (d0 := (((0 : Int), (0 : Int)) : (Int × Int))) (pv := []) rfl Tryz_bld64 rfl rfl rfl trivial (fun S f hi => by
    show TR.rep (TR.pair TR.int TR.int) S (List.flatten [[.int .i64 0], [.int .i64 0]]) _
    simp only [ List.flatten_cons, List.flatten_nil, List.append_nil]
    exact ⟨_, _, rfl, rfl, rfl⟩) ?_
  intro v13
  refine RL.stP (off := 0) (e' := (((0 : Int), (0 : Int)) : (Int × Int))) (d1 := (((0 : Int), (0 : Int)) : (Int × Int))) (r := (TR.pair TR.int TR.int)) 5 Tryz_ln64 rfl rfl (Or.inr ⟨rfl, rfl⟩) rfl (VR.item 6 rfl) rfl Upd.self ?_
  refine RL.reL (L' := [obox 45 TrH v0 (x0.1, (x0.2.1, u0a)), obox 55 TrL u0a x0.2.2, keep X, imm TrE v1 x1, obox 59 TrE v5 x1, obox 64 (TR.pair TR.int TR.int) v6 (((0 : Int), (0 : Int)) : (Int × Int)), imm (TR.pair TR.int TR.int) v13 (((0 : Int), (0 : Int)) : (Int × Int))]) rfl ?_
  refine RL.asg rfl rfl rfl ?_
  refine RL.finG ?_
  have hm := Option.some.inj hm
  subst hm
  exact GL.ret (Gx.retX [.cell 4 64, .tmp 5] rfl (fun a w st => by
    have st0 := st
    obtain ⟨u14, hu14, st⟩ := st.cellRes (p := 4) (T := 64) 5 Tryz_ln64 rfl rfl rfl
    exact ⟨[u14, .int .i64 (4 : Int)], ⟨hu14, ⟨(ResTmp st0.env rfl), trivial⟩⟩, (st.pick [0, 1, 7, 2] (by decide) rfl).toPostM (V := fun (o : Value) => .tuple #[o, .int .i64 (((((0 : Int), (0 : Int)) : (Int × Int)), (4 : Int), x0).2.1)]) (LR := fun (o : Value) => [obox 45 TrH v0 ((((((0 : Int), (0 : Int)) : (Int × Int)), (4 : Int), x0).2.2).1, ((((((0 : Int), (0 : Int)) : (Int × Int)), (4 : Int), x0).2.2).2.1, u0a)), obox 55 TrL u0a ((((((0 : Int), (0 : Int)) : (Int × Int)), (4 : Int), x0).2.2).2.2), imm (TR.pair TR.int TR.int) o (((((0 : Int), (0 : Int)) : (Int × Int)), (4 : Int), x0).1), keep X]) u14⟩))
 replace hm := ite_f b11 hm
 refine GL.skip ?_
 refine GL.seq ?_
 refine GL.regionA rfl rfl ?_
 refine RA.mv 0 rfl (by kernel_rfl) rfl rfl rfl ?_
 refine RA.mv 4 rfl (by kernel_rfl) rfl rfl rfl ?_
 refine RA.still (le := q_89) (f := 8) [1, 2, 3, 5, 6, 7, 8, 9, 10, 11] 12 rfl (by kernel_rfl) ?_
 simp only [pickOps, List.getElem?_toArray, List.getElem?_cons_succ, List.getElem?_cons_zero]
 refine RL.nilk 0 rfl rfl rfl rfl PtOf.obox ?_
 refine RL.fadr (off := 0) (fo := 1) 0 Tryz_fld45_1 rfl rfl rfl PtOf.obox (Or.inr ⟨rfl, rfl⟩) ?_
 refine RL.ldP (off := (0 + 1)) (r := (TR.sl TrD)) (e' := x0.2.1) 0 Tryz_ln43 rfl rfl (Or.inl rfl) rfl PtOf.obox (Part.snd (Part.fst Part.self)) ?_
 intro v21
 refine RL.nilk 0 rfl rfl rfl rfl PtOf.obox ?_
 refine RL.fadr (off := 0) (fo := 0) 0 Tryz_fld45_0 rfl rfl rfl PtOf.obox (Or.inr ⟨rfl, rfl⟩) ?_
 refine RL.ldP (off := (0 + 0)) (r := (TR.sl TrA)) (e' := x0.1) 0 Tryz_ln42 rfl rfl (Or.inl rfl) rfl PtOf.obox (Part.fst Part.self) ?_
 intro v22
 refine RL.fadr (off := 0) (fo := 2) 4 Tryz_fld59_2 rfl rfl rfl PtOf.obox (Or.inr ⟨rfl, rfl⟩) ?_
 refine RL.ldPx (off := (0 + 2)) (e' := x1.2.2.1) 4 Ex.str Tryz_ln9 rfl rfl (Or.inl rfl) rfl PtOf.obox (Part.snd (Part.snd (Part.fst Part.self))) ?_
 refine RL.fadr (off := 0) (fo := 1) 4 Tryz_fld59_1 rfl rfl rfl PtOf.obox (Or.inr ⟨rfl, rfl⟩) ?_
 refine RL.ldPx (off := (0 + 1)) (e' := x1.2.1) 4 Ex.ik Tryz_ln3 rfl rfl (Or.inl rfl) rfl PtOf.obox (Part.snd (Part.fst Part.self)) ?_
 refine RL.finH ?_
 refine RL.fin ?_
 refine RA.next ?_
 refine RA.seq 12 rfl (by kernel_rfl) ?_
 obtain ⟨y23, e24, hm⟩ := bind_some hm
 refine RL.call (vs := [v21, v22, (sv x1.2.2.1), .int .i64 x1.2.1]) Tryz_fit70 rfl rfl rfl rfl rfl (fun S f w hS hW hi => pick_Build_c S w hS _ _ (hi 6 _ rfl) _ _ (hi 7 _ rfl) x1.2.2.1 x1.2.1 _ e24) ?_
 intro ⟨v25, v26⟩
 refine RL.fin ?_
 refine RA.next ?_
 refine RA.quiet 13 rfl rfl (by kernel_rfl) ?_
 simp only [List.drop_succ_cons, List.drop_zero]
 refine RL.mv rfl rfl rfl ?_
 refine RL.ext rfl rfl rfl rfl ?_
 refine RL.ext rfl rfl rfl rfl ?_
 refine RL.ext rfl rfl rfl rfl ?_
 refine RL.asg rfl rfl rfl ?_
 refine RL.asg rfl rfl rfl ?_
 refine RL.asg rfl rfl rfl ?_
 refine RL.finQ ?_
 refine RA.outQ ?_
 refine GL.weak (env' := [(0, v0), (3, v5), (4, v6), (6, v25), (7, v26), (8, .int .i64 y23.2.2)]) (L' := [obox 45 TrH v0 (x0.1, (x0.2.1, u0a)), obox 55 TrL u0a x0.2.2, keep X, obox 59 TrE v5 x1, obox 64 (TR.pair TR.int TR.int) v6 ((0 : Int), (0 : Int)), own 3 TR.int v25 y23.1, own 86 TrA v26 y23.2.1]) (fun a w st => St.cut [0, 1, 2, 4, 5, 8, 9] ⟨rfl, rfl, rfl, rfl, rfl, rfl, trivial⟩ (by decide) rfl st) ?_
 refine GL.seq ?_
 refine GL.seq ?_
 refine GL.region ?_
 refine RL.mv rfl rfl rfl ?_
 refine RL.binI (v := .bool (y23.2.2 != (0 : Int))) rfl rfl rfl rfl rfl ?_
 refine RL.finG ?_
 refine GL.cond rfl (fun b27 => ?_) (fun b27 => ?_)
 ·replace hm := ite_t b27 hm
  refine GL.seq ?_
  refine GL.region ?_
  refine RL.bld (t := (TR.pair TR.int TR.int)) (d0 := (((0 : Int), (0 : Int)) : (Int × Int))) (pv := []) rfl Tryz_bld64 rfl rfl rfl trivial (fun S f hi => by
    show TR.rep (TR.pair TR.int TR.int) S (List.flatten [[.int .i64 0], [.int .i64 0]]) _
    simp only [ List.flatten_cons, List.flatten_nil, List.append_nil]
    exact ⟨_, _, rfl, rfl, rfl⟩) ?_
  intro v29
  refine RL.mv rfl rfl rfl ?_
  refine RL.stP (off := 0) (e' := (((0 : Int), (0 : Int)) : (Int × Int))) (d1 := (((0 : Int), (0 : Int)) : (Int × Int))) (r := (TR.pair TR.int TR.int)) 4 Tryz_ln64 rfl rfl (Or.inr ⟨rfl, rfl⟩) rfl (VR.item 7 rfl) rfl Upd.self ?_
  refine RL.reL (L' := [obox 45 TrH v0 (x0.1, (x0.2.1, u0a)), obox 55 TrL u0a x0.2.2, keep X, obox 59 TrE v5 x1, obox 64 (TR.pair TR.int TR.int) v6 (((0 : Int), (0 : Int)) : (Int × Int)), own 3 TR.int v25 y23.1, own 86 TrA v26 y23.2.1, imm (TR.pair TR.int TR.int) v29 (((0 : Int), (0 : Int)) : (Int × Int))]) rfl ?_
  refine RL.asg rfl rfl rfl ?_
  refine RL.finG ?_
  have hm := Option.some.inj hm
  subst hm
  exact GL.ret (Gx.retX [.cell 4 64, .tmp 5] rfl (fun a w st => by
    have st0 := st
    obtain ⟨u30, hu30, st⟩ := st.cellRes (p := 4) (T := 64) 4 Tryz_ln64 rfl rfl rfl
    exact ⟨[u30, .int .i64 y23.2.2], ⟨hu30, ⟨(ResTmp st0.env rfl), trivial⟩⟩, (st.pick [0, 1, 8, 2] (by decide) rfl).toPostM (V := fun (o : Value) => .tuple #[o, .int .i64 (((((0 : Int), (0 : Int)) : (Int × Int)), y23.2.2, x0).2.1)]) (LR := fun (o : Value) => [obox 45 TrH v0 ((((((0 : Int), (0 : Int)) : (Int × Int)), y23.2.2, x0).2.2).1, ((((((0 : Int), (0 : Int)) : (Int × Int)), y23.2.2, x0).2.2).2.1, u0a)), obox 55 TrL u0a ((((((0 : Int), (0 : Int)) : (Int × Int)), y23.2.2, x0).2.2).2.2), imm (TR.pair TR.int TR.int) o (((((0 : Int), (0 : Int)) : (Int × Int)), y23.2.2, x0).1), keep X]) u30⟩))
 replace hm := ite_f b27 hm
 refine GL.skip ?_
 refine GL.seq ?_
 refine GL.region ?_
 refine RL.asg rfl rfl rfl ?_
 refine RL.finG ?_
 refine GL.seq ?_
 refine GL.region ?_
 refine RL.mv rfl rfl rfl ?_
 refine RL.nilk 0 rfl rfl rfl rfl PtOf.obox ?_
 refine RL.fadr (off := 0) (fo := 2) 0 Tryz_fld45_2 rfl rfl rfl PtOf.obox (Or.inr ⟨rfl, rfl⟩) ?_
 refine RL.ldPx (off := (0 + 2)) (e' := u0a) 0 Ex.raw Tryz_ln40 rfl rfl (Or.inl rfl) rfl PtOf.obox (Part.snd (Part.snd Part.self)) ?_
 obtain ⟨y33, e34, hm⟩ := bind_some hm
 refine RL.callV (v := .tuple #[.int .i64 y33.1, .int .i64 y33.2]) (vs := [u0a]) Tryz_fit71 rfl (Or.inl rfl) rfl rfl rfl rfl (fun U w hU hW hL => log_Log_Size_c U w hU _ _ (hL 1 _ _ rfl Seen.obox) _ e34) ?_
 refine RL.mv rfl rfl rfl ?_
 refine RL.ext rfl rfl rfl rfl ?_
 refine RL.ext rfl rfl rfl rfl ?_
 refine RL.asg rfl rfl rfl ?_
 refine RL.asg rfl rfl rfl ?_
 refine RL.finG ?_
 refine GL.seq ?_
 refine GL.region ?_
 refine RL.asg rfl rfl rfl ?_
 refine RL.finG ?_
 refine GL.seq ?_
 refine GL.seq ?_
 refine GL.region ?_
 refine RL.mv rfl rfl rfl ?_
 refine RL.lenS 5 Tryz.underlying61 rfl rfl rfl rfl SlOf.own ?_
 refine RL.mv rfl rfl rfl ?_
 refine RL.finG ?_
 refine GL.weak (fun a w st => st.nilOwn 9 TR.str) ?_
 refine GL.lenOwn 5 rfl (fun n69 => ?_)
 obtain ⟨y70, K71, h72, h73, h74, h75, h76⟩ := bindR_K hm
 refine GL.join (ι := (List B8) × Int × Int × Value) (fun (p : (List B8) × Int × Int × Value) => [(0, v0), (4, v6), (6, v25), (7, v26), (9, p.2.2.2), (10, .int .i64 p.2.1), (12, .int .i64 p.2.2.1)]) (fun (p : (List B8) × Int × Int × Value) => [obox 45 TrH v0 (x0.1, (x0.2.1, u0a)), obox 55 TrL u0a x0.2.2, keep X, obox 64 (TR.pair TR.int TR.int) v6 ((0 : Int), (0 : Int)), own 3 TR.int v25 y23.1, own 86 TrA v26 y23.2.1, own 9 TR.str p.2.2.2 p.1]) (fun (p : (List B8) × Int × Int × Value) => K71 (.nx (p.1, p.2.1, p.2.2.1))) ?_ ?_
 ·refine GL.block ?_
  refine GL.loop (ι := Nat × Nat × (List B8) × Int × Int × Value) (fun (p : Nat × Nat × (List B8) × Int × Int × Value) => [(0, v0), (3, v5), (4, v6), (6, v25), (7, v26), (9, p.2.2.2.2.2), (10, .int .i64 p.2.2.2.1), (12, .int .i64 p.2.2.2.2.1), (53, v25), (54, .int .i64 ((y23.1).length : Int)), (55, .int .i64 (p.1 : Int))]) (fun (p : Nat × Nat × (List B8) × Int × Int × Value) => [obox 45 TrH v0 (x0.1, (x0.2.1, u0a)), obox 55 TrL u0a x0.2.2, obox 59 TrE v5 x1, obox 64 (TR.pair TR.int TR.int) v6 ((0 : Int), (0 : Int)), own 3 TR.int v25 y23.1, own 86 TrA v26 y23.2.1, own 9 TR.str p.2.2.2.2.2 p.2.2.1, keep X]) (fun (p : Nat × Nat × (List B8) × Int × Int × Value) => p.1 + p.2.1 = (y23.1).length ∧ rangeN (house_House_build_b1 y23 x0 x1) p.2.1 p.1 (p.2.2.1, p.2.2.2.1, p.2.2.2.2.1) = some y70) (fun (p : Nat × Nat × (List B8) × Int × Int × Value) => p.2.1) (0, (y23.1).length, [], y33.1, (0 : Int), Value.slice none 0 0) ⟨by simp, h72⟩ (fun a w st => St.cut [0, 1, 3, 4, 5, 6, 7, 2] ⟨rfl, rfl, rfl, rfl, rfl, rfl, rfl, rfl, rfl, rfl, rfl, trivial⟩ (by decide) rfl st) ?_
  rintro ⟨i77, r78, l35, x37, x38, v36⟩ ⟨h83, h82⟩
  try dsimp only at h83 h82
  refine GL.weak (env' := [(0, v0), (3, v5), (4, v6), (6, v25), (7, v26), (9, v36), (10, .int .i64 x37), (12, .int .i64 x38), (53, v25), (54, .int .i64 ((y23.1).length : Int)), (55, .int .i64 (i77 : Int))]) (L' := [obox 45 TrH v0 (x0.1, (x0.2.1, u0a)), obox 55 TrL u0a x0.2.2, obox 59 TrE v5 x1, obox 64 (TR.pair TR.int TR.int) v6 ((0 : Int), (0 : Int)), own 3 TR.int v25 y23.1, own 86 TrA v26 y23.2.1, own 9 TR.str v36 l35, keep X]) ss ?_
  refine GL.seq ?_
  refine GL.region ?_
  refine RL.binI (v := .bool (decide ((i77 : Int) < ((y23.1).length : Int)))) rfl rfl rfl rfl rfl ?_
  refine RL.finG ?_
  refine GL.seq ?_
  refine GL.cond rfl (fun b85 => ?_) (fun b85 => ?_)
  ·have h86 : i77 < (y23.1).length := by have := of_decide_eq_true b85; omega
   obtain ⟨r87, hr⟩ : ∃ m, r78 = m + 1 := ⟨r78 - 1, by omega⟩
   subst hr
   obtain ⟨z79, h80, h81⟩ := rangeN_some h82
   unfold house_House_build_b1 at h80
   try dsimp only at h80
   refine GL.skip ?_
   refine GL.seq ?_
   refine GL.block ?_
   refine GL.seq ?_
   refine GL.region ?_
   obtain ⟨y90, e91, h80⟩ := bind_some h80
   refine RL.idxS (sz := 1) 4 Tryz.underlying61 Tryz_ln3 rfl rfl rfl rfl rfl SlOf.own (idx_some e91).1 (idx_some e91).2.1 ?_
   refine RL.ldSx (i := i77) (e' := y90) 4 Ex.ik Tryz_ln3 rfl rfl rfl rfl SlOf.own (idx_some e91).2.2 Part.self ?_
   refine RL.asg rfl rfl rfl ?_
   refine RL.finG ?_
   refine GL.seq ?_
   refine GL.regionQ rfl rfl (by kernel_rfl) ?_
   refine RL.mv rfl rfl rfl ?_
   refine RL.nilk 0 rfl rfl rfl rfl PtOf.obox ?_
   refine RL.fadr (off := 0) (fo := 1) 0 Tryz_fld45_1 rfl rfl rfl PtOf.obox (Or.inr ⟨rfl, rfl⟩) ?_
   refine RL.ldP (off := (0 + 1)) (r := (TR.sl TrD)) (e' := x0.2.1) 0 Tryz_ln43 rfl rfl (Or.inl rfl) rfl PtOf.obox (Part.snd (Part.fst Part.self)) ?_
   intro v98
   refine RL.mv rfl rfl rfl ?_
   obtain ⟨y99, e100, h80⟩ := bind_some h80
   refine RL.idxS (sz := 6) 8 Tryz.underlying43 Tryz_ln57 rfl rfl rfl rfl rfl SlOf.imm (idx_some e100).1 (idx_some e100).2.1 ?_
   refine RL.ldS (i := (y90).toNat) (r := TrD) (e' := y99) 8 Tryz_ln57 rfl rfl rfl rfl SlOf.imm (idx_some e100).2.2 Part.self ?_
   intro v101
   refine RL.reL (L' := [obox 45 TrH v0 (x0.1, (x0.2.1, u0a)), obox 55 TrL u0a x0.2.2, obox 59 TrE v5 x1, obox 64 (TR.pair TR.int TR.int) v6 ((0 : Int), (0 : Int)), own 3 TR.int v25 y23.1, own 86 TrA v26 y23.2.1, own 9 TR.str v36 l35, keep X, imm (TR.sl TrD) v98 x0.2.1, imm TrD v101 y99]) rfl ?_
   refine RL.fadr (off := 0) (fo := 2) 2 Tryz_fld59_2 rfl rfl rfl PtOf.obox (Or.inr ⟨rfl, rfl⟩) ?_
   refine RL.ldPx (off := (0 + 2)) (e' := x1.2.2.1) 2 Ex.str Tryz_ln9 rfl rfl (Or.inl rfl) rfl PtOf.obox (Part.snd (Part.snd (Part.fst Part.self))) ?_
   obtain ⟨y102, e103, h80⟩ := bind_some h80
   refine RL.callV (v := (sv y102)) (vs := [v101, (sv x1.2.2.1)]) Tryz_fit72 rfl (Or.inr ⟨_, rfl⟩) rfl rfl rfl rfl (fun U w hU hW hL => house_deal_c U w hU (hT.mono hW) _ _ (hL 9 _ _ rfl Seen.imm) x1.2.2.1 _ e103) ?_
   refine RL.asg rfl rfl rfl ?_
   refine RL.finQG ?_
   refine GL.seq ?_
   refine GL.region ?_
   refine RL.mv rfl rfl rfl ?_
   refine RL.mv rfl rfl rfl ?_
   refine RL.bS (t := TR.str) (vs := [(sv y102)]) ([y102] : (List B8)) Tryz.underlying22 Tryz_lo9 rfl rfl rfl rfl ⟨VR.str, trivial⟩ rfl (by decide) ?_
   intro v108
   obtain ⟨y109, e110, h80⟩ := bind_some h80
   replace e110 := chk_some e110
   refine RL.app 6 10 Tryz.underlying22 Tryz_lo9 rfl rfl rfl rfl rfl rfl rfl SlOf.own e110 ?_
   intro v111
   refine RL.reL (L' := [obox 45 TrH v0 (x0.1, (x0.2.1, u0a)), obox 55 TrL u0a x0.2.2, obox 59 TrE v5 x1, obox 64 (TR.pair TR.int TR.int) v6 ((0 : Int), (0 : Int)), own 3 TR.int v25 y23.1, own 86 TrA v26 y23.2.1, own 9 TR.str v111 (l35 ++ ([y102] : (List B8))), keep X, imm (TR.sl TrD) v98 x0.2.1, imm TrD v101 y99, own 9 TR.str v108 ([y102] : (List B8))]) rfl ?_
   refine RL.asg rfl rfl rfl ?_
   refine RL.finG ?_
   refine GL.seq ?_
   refine GL.region ?_
   refine RL.mv rfl rfl rfl ?_
   refine RL.mv rfl rfl rfl ?_
   refine RL.lenT Tryz.underlying9 rfl rfl rfl ?_
   refine RL.binI (v := .int .i64 (wadd ((y102).length : Int) (3 : Int))) rfl rfl rfl rfl rfl ?_
   refine RL.binI (v := .int .i64 (wadd x37 (wadd ((y102).length : Int) (3 : Int)))) rfl rfl rfl rfl rfl ?_
   refine RL.asg rfl rfl rfl ?_
   refine RL.finG ?_
   refine GL.region ?_
   refine RL.mv rfl rfl rfl ?_
   refine RL.mv rfl rfl rfl ?_
   refine RL.nilk 0 rfl rfl rfl rfl PtOf.obox ?_
   refine RL.fadr (off := 0) (fo := 1) 0 Tryz_fld45_1 rfl rfl rfl PtOf.obox (Or.inr ⟨rfl, rfl⟩) ?_
   refine RL.ldP (off := (0 + 1)) (r := (TR.sl TrD)) (e' := x0.2.1) 0 Tryz_ln43 rfl rfl (Or.inl rfl) rfl PtOf.obox (Part.snd (Part.fst Part.self)) ?_
   intro v115
   refine RL.mv rfl rfl rfl ?_
   obtain ⟨y116, e117, h80⟩ := bind_some h80
   refine RL.idxS (sz := 6) 11 Tryz.underlying43 Tryz_ln57 rfl rfl rfl rfl rfl SlOf.imm (idx_some e117).1 (idx_some e117).2.1 ?_
   refine RL.fadrS (off := ((y90).toNat * 6)) (fo := 4) 11 Tryz_fld57_4 rfl rfl rfl SlOf.imm (by have := (List.getElem?_eq_some_iff.1 (idx_some e117).2.2).1; (try dsimp only at this ⊢); omega) rfl ?_
   refine RL.ldSx (i := (y90).toNat) (e' := y116.2.2.2.2.1) 11 Ex.ik Tryz_ln3 rfl rfl rfl rfl SlOf.imm (idx_some e117).2.2 (Part.snd (Part.snd (Part.snd (Part.snd (Part.fst Part.self))))) ?_
   refine RL.binI (v := .int .i64 (wadd x38 y116.2.2.2.2.1)) rfl rfl rfl rfl rfl ?_
   refine RL.asg rfl rfl rfl ?_
   refine RL.finG ?_
   refine GL.nilB ?_
   refine GL.region ?_
   refine RL.binI (v := .int .i64 ((i77 + 1 : Nat) : Int)) rfl rfl rfl rfl (binI_succ i77 (by omega)) ?_
   refine RL.mv rfl rfl rfl ?_
   refine RL.fin ?_
   cases h80
   exact fun a w st => lop_intro (i77 + 1, r87, (l35 ++ ([y102] : (List B8))), wadd x37 (wadd ((y102).length : Int) (3 : Int)), wadd x38 y116.2.2.2.2.1, v111) ⟨by show i77 + 1 + r87 = (y23.1).length; omega, h81⟩ (by simp) (St.cut [0, 1, 2, 3, 4, 5, 6, 7] ⟨rfl, rfl, rfl, rfl, rfl, rfl, rfl, rfl, rfl, rfl, rfl, trivial⟩ (by decide) rfl st)
  have h86 : ¬ i77 < (y23.1).length := by have := of_decide_eq_false b85; omega
  obtain rfl : r78 = 0 := by omega
  replace h82 : some (Fl.nx _) = some y70 := h82
  cases h82
  exact GL.exit (fun a w st => mid_intro (l35, x37, x38, v36) h73 (St.cut [0, 1, 7, 3, 4, 5, 6] ⟨rfl, rfl, rfl, rfl, rfl, rfl, rfl, trivial⟩ (by decide) rfl st))
 rintro ⟨l35, x37, x38, v36⟩ h118
 have h119 := h74 _ h118
 try dsimp only at h119
 refine GL.weak (env' := [(0, v0), (4, v6), (6, v25), (7, v26), (9, v36), (10, .int .i64 x37), (12, .int .i64 x38)]) (L' := [obox 45 TrH v0 (x0.1, (x0.2.1, u0a)), obox 55 TrL u0a x0.2.2, keep X, obox 64 (TR.pair TR.int TR.int) v6 ((0 : Int), (0 : Int)), own 3 TR.int v25 y23.1, own 86 TrA v26 y23.2.1, own 9 TR.str v36 l35]) ss ?_
 refine GL.seq ?_
 refine GL.seq ?_
 refine GL.region ?_
 refine RL.mv rfl rfl rfl ?_
 refine RL.binI (v := .bool (decide (x37 > (4000 : Int)))) rfl rfl rfl rfl rfl ?_
 refine RL.finG ?_
 refine GL.cond rfl (fun b120 => ?_) (fun b120 => ?_)
 ·replace h119 := ite_t b120 h119
  refine GL.seq ?_
  refine GL.region ?_
  refine RL.bld (t := (TR.pair TR.int TR.int)) (d0 := (((0 : Int), (0 : Int)) : (Int × Int))) (pv := []) rfl Tryz_bld64 rfl rfl rfl trivial (fun S f hi => by
    show TR.rep (TR.pair TR.int TR.int) S (List.flatten [[.int .i64 0], [.int .i64 0]]) _
    simp only [ List.flatten_cons, List.flatten_nil, List.append_nil]
    exact ⟨_, _, rfl, rfl, rfl⟩) ?_
  intro v122
  refine RL.stP (off := 0) (e' := (((0 : Int), (0 : Int)) : (Int × Int))) (d1 := (((0 : Int), (0 : Int)) : (Int × Int))) (r := (TR.pair TR.int TR.int)) 3 Tryz_ln64 rfl rfl (Or.inr ⟨rfl, rfl⟩) rfl (VR.item 7 rfl) rfl Upd.self ?_
  refine RL.reL (L' := [obox 45 TrH v0 (x0.1, (x0.2.1, u0a)), obox 55 TrL u0a x0.2.2, keep X, obox 64 (TR.pair TR.int TR.int) v6 (((0 : Int), (0 : Int)) : (Int × Int)), own 3 TR.int v25 y23.1, own 86 TrA v26 y23.2.1, own 9 TR.str v36 l35, imm (TR.pair TR.int TR.int) v122 (((0 : Int), (0 : Int)) : (Int × Int))]) rfl ?_
  refine RL.asg rfl rfl rfl ?_
  refine RL.finG ?_
  have h119 := Option.some.inj h119
  subst h119
  exact GL.ret (Gx.retX [.cell 4 64, .tmp 5] rfl (fun a w st => by
    have st0 := st
    obtain ⟨u123, hu123, st⟩ := st.cellRes (p := 4) (T := 64) 3 Tryz_ln64 rfl rfl rfl
    exact ⟨[u123, .int .i64 (8 : Int)], ⟨hu123, ⟨(ResTmp st0.env rfl), trivial⟩⟩, (st.pick [0, 1, 8, 2] (by decide) rfl).toPostM (V := fun (o : Value) => .tuple #[o, .int .i64 (((((0 : Int), (0 : Int)) : (Int × Int)), (8 : Int), x0).2.1)]) (LR := fun (o : Value) => [obox 45 TrH v0 ((((((0 : Int), (0 : Int)) : (Int × Int)), (8 : Int), x0).2.2).1, ((((((0 : Int), (0 : Int)) : (Int × Int)), (8 : Int), x0).2.2).2.1, u0a)), obox 55 TrL u0a ((((((0 : Int), (0 : Int)) : (Int × Int)), (8 : Int), x0).2.2).2.2), imm (TR.pair TR.int TR.int) o (((((0 : Int), (0 : Int)) : (Int × Int)), (8 : Int), x0).1), keep X]) u123⟩))
 replace h119 := ite_f b120 h119
 refine GL.skip ?_
 refine GL.seq ?_
 refine GL.seq ?_
 refine GL.region ?_
 refine RL.mv rfl rfl rfl ?_
 refine RL.lenS 6 Tryz.underlying22 rfl rfl rfl rfl SlOf.own ?_
 refine RL.mv rfl rfl rfl ?_
 refine RL.finG ?_
 refine GL.lenOwn 6 rfl (fun n141 => ?_)
 obtain ⟨y142, K143, h144, h145, h146, h147, h148⟩ := bindR_K h119
 refine GL.join (ι := TyH) (fun (p : TyH) => [(0, v0), (4, v6), (6, v25), (7, v26), (12, .int .i64 x38)]) (fun (p : TyH) => [obox 45 TrH v0 (p.1, (p.2.1, u0a)), obox 55 TrL u0a p.2.2, keep X, obox 64 (TR.pair TR.int TR.int) v6 ((0 : Int), (0 : Int)), own 3 TR.int v25 y23.1, own 86 TrA v26 y23.2.1]) (fun (p : TyH) => K143 (.nx p)) ?_ ?_
 ·refine GL.block ?_
  refine GL.loop (ι := Nat × Nat × TyH) (fun (p : Nat × Nat × TyH) => [(0, v0), (4, v6), (6, v25), (7, v26), (12, .int .i64 x38), (92, v36), (93, .int .i64 ((l35).length : Int)), (94, .int .i64 (p.1 : Int))]) (fun (p : Nat × Nat × TyH) => [obox 45 TrH v0 (p.2.2.1, (p.2.2.2.1, u0a)), obox 55 TrL u0a p.2.2.2.2, obox 64 (TR.pair TR.int TR.int) v6 ((0 : Int), (0 : Int)), own 3 TR.int v25 y23.1, own 86 TrA v26 y23.2.1, own 9 TR.str v36 l35, keep X]) (fun (p : Nat × Nat × TyH) => p.1 + p.2.1 = (l35).length ∧ rangeN (house_House_build_b2 l35) p.2.1 p.1 p.2.2 = some y142) (fun (p : Nat × Nat × TyH) => p.2.1) (0, (l35).length, x0) ⟨by simp, h144⟩ (fun a w st => St.cut [0, 1, 3, 4, 5, 6, 2] ⟨rfl, rfl, rfl, rfl, rfl, rfl, rfl, rfl, trivial⟩ (by decide) rfl st) ?_
  rintro ⟨i149, r150, l132⟩ ⟨h155, h154⟩
  try dsimp only at h155 h154
  refine GL.weak (env' := [(0, v0), (4, v6), (6, v25), (7, v26), (12, .int .i64 x38), (92, v36), (93, .int .i64 ((l35).length : Int)), (94, .int .i64 (i149 : Int))]) (L' := [obox 45 TrH v0 (l132.1, (l132.2.1, u0a)), obox 55 TrL u0a l132.2.2, obox 64 (TR.pair TR.int TR.int) v6 ((0 : Int), (0 : Int)), own 3 TR.int v25 y23.1, own 86 TrA v26 y23.2.1, own 9 TR.str v36 l35, keep X]) ss ?_
  refine GL.seq ?_
  refine GL.region ?_
  refine RL.binI (v := .bool (decide ((i149 : Int) < ((l35).length : Int)))) rfl rfl rfl rfl rfl ?_
  refine RL.finG ?_
  refine GL.seq ?_
  refine GL.cond rfl (fun b157 => ?_) (fun b157 => ?_)
  ·have h158 : i149 < (l35).length := by have := of_decide_eq_true b157; omega
   obtain ⟨r159, hr⟩ : ∃ m, r150 = m + 1 := ⟨r150 - 1, by omega⟩
   subst hr
   obtain ⟨z151, h152, h153⟩ := rangeN_some h154
   unfold house_House_build_b2 at h152
   try dsimp only at h152
   refine GL.skip ?_
   refine GL.seq ?_
   refine GL.block ?_
   refine GL.seq ?_
   refine GL.region ?_
   obtain ⟨y162, e163, h152⟩ := bind_some h152
   refine RL.idxS (sz := 1) 5 Tryz.underlying22 Tryz_ln9 rfl rfl rfl rfl rfl SlOf.own (idx_some e163).1 (idx_some e163).2.1 ?_
   refine RL.ldSx (i := i149) (e' := y162) 5 Ex.str Tryz_ln9 rfl rfl rfl rfl SlOf.own (idx_some e163).2.2 Part.self ?_
   refine RL.asg rfl rfl rfl ?_
   refine RL.finG ?_
   refine GL.region ?_
   refine RL.mv rfl rfl rfl ?_
   refine RL.nilk 0 rfl rfl rfl rfl PtOf.obox ?_
   refine RL.fadr (off := 0) (fo := 2) 0 Tryz_fld45_2 rfl rfl rfl PtOf.obox (Or.inr ⟨rfl, rfl⟩) ?_
   refine RL.ldPx (off := (0 + 2)) (e' := u0a) 0 Ex.raw Tryz_ln40 rfl rfl (Or.inl rfl) rfl PtOf.obox (Part.snd (Part.snd Part.self)) ?_
   refine RL.mv rfl rfl rfl ?_
   obtain ⟨y166, e167, h152⟩ := bind_some h152
   refine RL.callK (vs := [u0a, (sv y162)]) (V := fun (o : Unit) => .int .i64 y166.1) (LR := fun (o : Unit) => [obox 55 TrL u0a y166.2]) (Ls := [obox 55 TrL u0a l132.2.2]) [1] (by decide) Tryz_fit65 rfl rfl rfl rfl rfl rfl (fun S f X w hO hB hW hI hL => log_Log_Append_c _ S X f w _ _  hO hB hI y162 _ e167) ?_
   intro _
   refine RL.reL (L' := [obox 45 TrH v0 (l132.1, (l132.2.1, u0a)), gone, obox 64 (TR.pair TR.int TR.int) v6 ((0 : Int), (0 : Int)), own 3 TR.int v25 y23.1, own 86 TrA v26 y23.2.1, own 9 TR.str v36 l35, keep X, obox 55 TrL u0a y166.2]) rfl ?_
   refine RL.finG ?_
   refine GL.nilB ?_
   refine GL.region ?_
   refine RL.binI (v := .int .i64 ((i149 + 1 : Nat) : Int)) rfl rfl rfl rfl (binI_succ i149 (by omega)) ?_
   refine RL.mv rfl rfl rfl ?_
   refine RL.fin ?_
   cases h152
   exact fun a w st => lop_intro (i149 + 1, r159, (l132.1, (l132.2.1, y166.2))) ⟨by show i149 + 1 + r159 = (l35).length; omega, h153⟩ (by simp) (St.cut [0, 7, 2, 3, 4, 5, 6] ⟨rfl, rfl, rfl, rfl, rfl, rfl, rfl, rfl, trivial⟩ (by decide) rfl st)
  have h158 : ¬ i149 < (l35).length := by have := of_decide_eq_false b157; omega
  obtain rfl : r150 = 0 := by omega
  replace h154 : some (Fl.nx _) = some y142 := h154
  cases h154
  exact GL.exit (fun a w st => mid_intro l132 h145 (St.cut [0, 1, 6, 2, 3, 4] ⟨rfl, rfl, rfl, rfl, rfl, trivial⟩ (by decide) rfl st))
 rintro l132 h168
 have h169 := h146 _ h168
 try dsimp only at h169
 refine GL.weak (env' := [(0, v0), (4, v6), (6, v25), (7, v26), (12, .int .i64 x38)]) (L' := [obox 45 TrH v0 (l132.1, (l132.2.1, u0a)), obox 55 TrL u0a l132.2.2, keep X, obox 64 (TR.pair TR.int TR.int) v6 ((0 : Int), (0 : Int)), own 3 TR.int v25 y23.1, own 86 TrA v26 y23.2.1]) ss ?_
 refine GL.seq ?_
 refine GL.region ?_
 refine RL.mv rfl rfl rfl ?_
 refine RL.mv rfl rfl rfl ?_
 refine RL.nilk 0 rfl rfl rfl rfl PtOf.obox ?_
 refine RL.fadr (off := 0) (fo := 0) 0 Tryz_fld45_0 rfl rfl rfl PtOf.obox (Or.inr ⟨rfl, rfl⟩) ?_
 refine RL.weak (fun a w st => st.freeze 5 rfl) ?_
 refine RL.stP (off := (0 + 0)) (e' := y23.2.1) (d1 := ((y23.2.1, l132.2).1, ((y23.2.1, l132.2).2.1, u0a))) (r := (TR.sl TrA)) 0 Tryz_ln42 rfl rfl (Or.inl rfl) rfl (VR.item 5 rfl) rfl (Upd.fst Upd.self) ?_
 refine RL.reL (L' := [obox 45 TrH v0 ((y23.2.1, l132.2).1, ((y23.2.1, l132.2).2.1, u0a)), obox 55 TrL u0a l132.2.2, keep X, obox 64 (TR.pair TR.int TR.int) v6 ((0 : Int), (0 : Int)), own 3 TR.int v25 y23.1, imm (TR.sl TrA) v26 y23.2.1]) rfl ?_
 refine RL.finG ?_
 refine GL.seq ?_
 refine GL.region ?_
 refine RL.mv rfl rfl rfl ?_
 refine RL.mv rfl rfl rfl ?_
 refine RL.nilk 0 rfl rfl rfl rfl PtOf.obox ?_
 refine RL.fadr (off := 0) (fo := 1) 0 Tryz_fld45_1 rfl rfl rfl PtOf.obox (Or.inr ⟨rfl, rfl⟩) ?_
 refine RL.ldP (off := (0 + 1)) (r := (TR.sl TrD)) (e' := (y23.2.1, l132.2).2.1) 0 Tryz_ln43 rfl rfl (Or.inl rfl) rfl PtOf.obox (Part.snd (Part.fst Part.self)) ?_
 intro v174
 refine RL.mv rfl rfl rfl ?_
 obtain ⟨y175, e176, h169⟩ := bind_some h169
 refine RL.call (vs := [v174, v26]) Tryz_fit73 rfl rfl rfl rfl rfl (fun S f w hS hW hi => queue_Clean_c S w hS _ _ (hi 6 _ rfl) _ _ (hi 5 _ rfl) _ e176) ?_
 intro v177
 refine RL.reL (L' := [obox 45 TrH v0 ((y23.2.1, l132.2).1, ((y23.2.1, l132.2).2.1, u0a)), obox 55 TrL u0a l132.2.2, keep X, obox 64 (TR.pair TR.int TR.int) v6 ((0 : Int), (0 : Int)), own 3 TR.int v25 y23.1, imm (TR.sl TrA) v26 y23.2.1, imm (TR.sl TrD) v174 ((y23.2.1, l132.2).2.1), own 57 TrD v177 y175.1]) rfl ?_
 refine RL.mv rfl rfl rfl ?_
 refine RL.ext rfl rfl rfl rfl ?_
 refine RL.ext rfl rfl rfl rfl ?_
 refine RL.nilk 0 rfl rfl rfl rfl PtOf.obox ?_
 refine RL.fadr (off := 0) (fo := 1) 0 Tryz_fld45_1 rfl rfl rfl PtOf.obox (Or.inr ⟨rfl, rfl⟩) ?_
 refine RL.weak (fun a w st => st.freeze 7 rfl) ?_
 refine RL.stP (off := (0 + 1)) (e' := y175.1) (d1 := (((y23.2.1, l132.2).1, (y175.1, (y23.2.1, l132.2).2.2)).1, (((y23.2.1, l132.2).1, (y175.1, (y23.2.1, l132.2).2.2)).2.1, u0a))) (r := (TR.sl TrD)) 0 Tryz_ln43 rfl rfl (Or.inl rfl) rfl (VR.item 7 rfl) rfl (Upd.snd (Upd.fst Upd.self)) ?_
 refine RL.reL (L' := [obox 45 TrH v0 (((y23.2.1, l132.2).1, (y175.1, (y23.2.1, l132.2).2.2)).1, (((y23.2.1, l132.2).1, (y175.1, (y23.2.1, l132.2).2.2)).2.1, u0a)), obox 55 TrL u0a l132.2.2, keep X, obox 64 (TR.pair TR.int TR.int) v6 ((0 : Int), (0 : Int)), own 3 TR.int v25 y23.1, imm (TR.sl TrA) v26 y23.2.1, imm (TR.sl TrD) v174 ((y23.2.1, l132.2).2.1), imm (TR.sl TrD) v177 y175.1]) rfl ?_
 refine RL.finG ?_
 refine GL.seq ?_
 refine GL.region ?_
 refine RL.mv rfl rfl rfl ?_
 refine RL.lenS 4 Tryz.underlying61 rfl rfl rfl rfl SlOf.own ?_
 refine RL.mv rfl rfl rfl ?_
 refine RL.bld (t := (TR.pair TR.int TR.int)) (d0 := ((((y23.1).length : Int), x38) : (Int × Int))) (pv := [(0, .int .i64 ((y23.1).length : Int)), (1, .int .i64 x38)]) rfl Tryz_bld64 rfl rfl rfl ⟨⟨_, _, TR.int, ((y23.1).length : Int), rfl, rfl, VR.int⟩, ⟨⟨_, _, TR.int, x38, rfl, rfl, VR.int⟩, trivial⟩⟩ (fun S f hi => by
   obtain ⟨c0, e0, r0⟩ := cells_vrep (t := TR.int) (u := .int .i64 ((y23.1).length : Int)) (e := ((y23.1).length : Int)) (VR.int S f hi)
   obtain ⟨c1, e1, r1⟩ := cells_vrep (t := TR.int) (u := .int .i64 x38) (e := x38) (VR.int S f hi)
   show TR.rep (TR.pair TR.int TR.int) S (List.flatten [(.int .i64 ((y23.1).length : Int) : Value).cells.toList, (.int .i64 x38 : Value).cells.toList]) _
   simp only [e0, e1,  List.flatten_cons, List.flatten_nil, List.append_nil]
   exact ⟨_, _, rfl, r0, r1⟩) ?_
 intro v179
 refine RL.stP (off := 0) (e' := ((((y23.1).length : Int), x38) : (Int × Int))) (d1 := ((((y23.1).length : Int), x38) : (Int × Int))) (r := (TR.pair TR.int TR.int)) 3 Tryz_ln64 rfl rfl (Or.inr ⟨rfl, rfl⟩) rfl (VR.item 8 rfl) rfl Upd.self ?_
 refine RL.reL (L' := [obox 45 TrH v0 (((y23.2.1, l132.2).1, (y175.1, (y23.2.1, l132.2).2.2)).1, (((y23.2.1, l132.2).1, (y175.1, (y23.2.1, l132.2).2.2)).2.1, u0a)), obox 55 TrL u0a l132.2.2, keep X, obox 64 (TR.pair TR.int TR.int) v6 ((((y23.1).length : Int), x38) : (Int × Int)), own 3 TR.int v25 y23.1, imm (TR.sl TrA) v26 y23.2.1, imm (TR.sl TrD) v174 ((y23.2.1, l132.2).2.1), imm (TR.sl TrD) v177 y175.1, imm (TR.pair TR.int TR.int) v179 ((((y23.1).length : Int), x38) : (Int × Int))]) rfl ?_
 refine RL.asg rfl rfl rfl ?_
 refine RL.finG ?_
 have h169 := Option.some.inj h169
 subst h169
 exact GL.ret (Gx.retX [.cell 4 64, .tmp 5] rfl (fun a w st => by
   have st0 := st
   obtain ⟨u180, hu180, st⟩ := st.cellRes (p := 4) (T := 64) 3 Tryz_ln64 rfl rfl rfl
   exact ⟨[u180, .int .i64 (0 : Int)], ⟨hu180, ⟨(ResTmp st0.env rfl), trivial⟩⟩, (st.pick [0, 1, 9, 2] (by decide) rfl).toPostM (V := fun (o : Value) => .tuple #[o, .int .i64 ((((((y23.1).length : Int), x38) : (Int × Int)), (0 : Int), (y23.2.1, (y175.1, l132.2.2))).2.1)]) (LR := fun (o : Value) => [obox 45 TrH v0 (((((((y23.1).length : Int), x38) : (Int × Int)), (0 : Int), (y23.2.1, (y175.1, l132.2.2))).2.2).1, (((((((y23.1).length : Int), x38) : (Int × Int)), (0 : Int), (y23.2.1, (y175.1, l132.2.2))).2.2).2.1, u0a)), obox 55 TrL u0a (((((((y23.1).length : Int), x38) : (Int × Int)), (0 : Int), (y23.2.1, (y175.1, l132.2.2))).2.2).2.2), imm (TR.pair TR.int TR.int) o ((((((y23.1).length : Int), x38) : (Int × Int)), (0 : Int), (y23.2.1, (y175.1, l132.2.2))).1), keep X]) u180⟩))

theorem log_Log_Sync_c (B : World) (S X : Hp) (f : Nat → Hp) (w : World) (v0 : Value) (x0 : (B8 × Int)) (hO : HeapOk B.heap.size S f [obox 55 TrL v0 x0, keep X].length w) (hB : Below B.heap.size B w) (hI : Its [obox 55 TrL v0 x0, keep X] S f)  (res : (B8 × Int)) (hm : log_Log_Sync_m x0 = some res) : Calls Tryz.prog 45 #[v0] w (PostM B S (fun (o : Unit) => .tuple #[]) (fun (o : Unit) => [obox 55 TrL v0 res, keep X])) := by
 refine calls_enterM 10 Tryz.func45 Tryz.ntmps45 rfl B S f [(0, v0)] [obox 55 TrL v0 x0, keep X] [] rfl ⟨rfl, trivial⟩ hB hO hI trivial ?_
 unfold log_Log_Sync_m at hm
 refine GL.region ?_
 refine RL.mv rfl rfl rfl ?_
 refine RL.mv rfl rfl rfl ?_
 refine RL.nilk 0 rfl rfl rfl rfl PtOf.obox ?_
 refine RL.fadr (off := 0) (fo := 0) 0 Tryz_fld55_0 rfl rfl rfl PtOf.obox (Or.inr ⟨rfl, rfl⟩) ?_
 refine RL.ldPx (off := (0 + 0)) (e' := x0.1) 0 Ex.str Tryz_ln9 rfl rfl (Or.inl rfl) rfl PtOf.obox (Part.fst Part.self) ?_
 refine RL.lenT Tryz.underlying9 rfl rfl rfl ?_
 refine RL.nilk 0 rfl rfl rfl rfl PtOf.obox ?_
 refine RL.fadr (off := 0) (fo := 1) 0 Tryz_fld55_1 rfl rfl rfl PtOf.obox (Or.inr ⟨rfl, rfl⟩) ?_
 refine RL.stP (off := (0 + 1)) (e' := ((x0.1).length : Int)) (d1 := (x0.1, ((x0.1).length : Int))) (r := TR.int) 0 Tryz_ln3 rfl rfl (Or.inl rfl) rfl VR.int rfl (Upd.snd Upd.self) ?_
 refine RL.finG ?_
 have hm := Option.some.inj hm
 subst hm
 exact GL.nil (Gx.retN (v := .tuple #[]) (res0 rfl) (fun a w st => (st.pick [0, 1] (by decide) rfl).toPostM (V := fun (o : Unit) => .tuple #[]) (LR := fun (o : Unit) => [obox 55 TrL v0 (x0.1, ((x0.1).length : Int)), keep X]) ()))

theorem log_Scan_c (S : Hp) (w : World) (hS : S.sub w) (x0 : B8) (res : (List B8) × Int) (hm : log_Scan_m x0 = some res) : Calls Tryz.prog 74 #[(sv x0)] w (Post w S (fun (o : Value) => .tuple #[o, .int .i64 res.2]) (fun (o : Value) => [own 9 TR.str o res.1])) := by
 refine calls_enter 73 Tryz.func74 Tryz.ntmps74 rfl S false [(0, (sv x0))] [] rfl ⟨rfl, trivial⟩ hS trivial ?_
 unfold log_Scan_m at hm
 refine GL.seq ?_
 refine GL.region ?_
 refine RL.asg rfl rfl rfl ?_
 refine RL.asg rfl rfl rfl ?_
 refine RL.finG ?_
 refine GL.seq ?_
 refine GL.region ?_
 refine RL.asg rfl rfl rfl ?_
 refine RL.finG ?_
 refine GL.seq ?_
 refine GL.region ?_
 refine RL.asg rfl rfl rfl ?_
 refine RL.finG ?_
 refine GL.seq ?_
 refine GL.weak (fun a w st => st.nilOwn 9 TR.str) ?_
 obtain ⟨y76, K77, h78, h79, h80, h81, h82⟩ := bindR_K hm
 refine GL.join (ι := (List B8) × Int × Value) (fun (p : (List B8) × Int × Value) => [(4, p.2.2), (5, .int .i64 p.2.1)]) (fun (p : (List B8) × Int × Value) => [own 9 TR.str p.2.2 p.1]) (fun (p : (List B8) × Int × Value) => K77 (.nx (p.1, p.2.1))) ?_ ?_
 ·refine GL.block ?_
  refine GL.loop (ι := Nat × (List B8) × Int × Value) (fun (p : Nat × (List B8) × Int × Value) => [(0, (sv x0)), (4, p.2.2.2), (5, .int .i64 p.2.2.1)]) (fun (p : Nat × (List B8) × Int × Value) => [own 9 TR.str p.2.2.2 p.2.1]) (fun (p : Nat × (List B8) × Int × Value) => loopM (log_Scan_b1 x0) p.1 (p.2.1, p.2.2.1) = some y76) (fun (p : Nat × (List B8) × Int × Value) => p.1) (4194304, [], (0 : Int), Value.slice none 0 0) h78 (fun a w st => St.cut [0] ⟨rfl, rfl, rfl, trivial⟩ (by decide) rfl st) ?_
  rintro ⟨r84, l2, x4, v3⟩ h88
  try dsimp only at h88
  refine GL.weak (env' := [(0, (sv x0)), (4, v3), (5, .int .i64 x4)]) (L' := [own 9 TR.str v3 l2]) ss ?_
  obtain ⟨r91, z85, hr, h86, h87⟩ := loopM_some h88
  subst hr
  unfold log_Scan_b1 at h86
  try dsimp only at h86
  refine GL.seq ?_
  refine GL.seq ?_
  refine GL.region ?_
  refine RL.mv rfl rfl rfl ?_
  refine RL.mv rfl rfl rfl ?_
  refine RL.lenT Tryz.underlying9 rfl rfl rfl ?_
  refine RL.binI (v := .bool (decide (x4 < ((x0).length : Int)))) rfl rfl rfl rfl rfl ?_
  refine RL.finG ?_
  refine GL.cond rfl (fun b92 => ?_) (fun b92 => ?_)
  ·replace h86 := ite_t b92 h86
   refine GL.skip ?_
   refine GL.block ?_
   refine GL.seq ?_
   refine GL.region ?_
   refine RL.mv rfl rfl rfl ?_
   refine RL.mv rfl rfl rfl ?_
   obtain ⟨y95, e96, h86⟩ := bind_some h86
   refine RL.idxT Tryz.underlying9 rfl rfl rfl rfl (idx_some e96).1 (idx_some e96).2.2 ?_
   refine RL.cvI Tryz.underlying5 Tryz.underlying3 rfl rfl rfl ?_
   refine RL.asg rfl rfl rfl ?_
   refine RL.finG ?_
   refine GL.seq ?_
   refine GL.seq ?_
   obtain ⟨y100, K101, h102, h103, h104, h105, h106⟩ := bindF_K h86
   refine GL.join (ι := Bool) (fun (p : Bool) => [(0, (sv x0)), (4, v3), (5, .int .i64 x4), (6, .int .i64 (IntKind.wrap .i64 (y95.toNat : Int))), (26, .bool p)]) (fun (p : Bool) => [own 9 TR.str v3 l2]) (fun (p : Bool) => K101 (.nx p)) ?_ ?_
   ·skip
    refine GL.region ?_
    refine RL.mv rfl rfl rfl ?_
    refine RL.binI (v := .bool (decide ((IntKind.wrap .i64 (y95.toNat : Int)) > (64 : Int)))) rfl rfl rfl rfl rfl ?_
    refine RL.mv rfl rfl rfl ?_
    refine RL.split (t := 18) rfl (fun b107 => ?_) (fun b107 => ?_)
    ·replace h102 := ite_t b107 h102
     refine RL.skip rfl rfl ?_
     refine RL.skip rfl rfl ?_
     refine RL.skip rfl rfl ?_
     refine RL.skip rfl rfl ?_
     refine RL.skip rfl rfl ?_
     refine RL.skip rfl rfl ?_
     refine RL.skip rfl rfl ?_
     refine RL.pickT rfl rfl rfl rfl ?_
     refine RL.fin ?_
     cases h102
     exact fun a w st => mid_intro true h103 (St.cut [0] ⟨rfl, rfl, rfl, rfl, rfl, trivial⟩ (by decide) rfl st)
    replace h102 := ite_f b107 h102
    refine RL.mv rfl rfl rfl ?_
    refine RL.lenT Tryz.underlying9 rfl rfl rfl ?_
    refine RL.mv rfl rfl rfl ?_
    refine RL.binI (v := .int .i64 (wsub ((x0).length : Int) x4)) rfl rfl rfl rfl rfl ?_
    refine RL.mv rfl rfl rfl ?_
    refine RL.binI (v := .int .i64 (wadd (IntKind.wrap .i64 (y95.toNat : Int)) (3 : Int))) rfl rfl rfl rfl rfl ?_
    refine RL.binI (v := .bool (decide ((wsub ((x0).length : Int) x4) < (wadd (IntKind.wrap .i64 (y95.toNat : Int)) (3 : Int))))) rfl rfl rfl rfl rfl ?_
    refine RL.pickF rfl rfl rfl rfl ?_
    refine RL.fin ?_
    cases h102
    exact fun a w st => mid_intro (decide ((wsub ((x0).length : Int) x4) < (wadd (IntKind.wrap .i64 (y95.toNat : Int)) (3 : Int)))) h103 (St.cut [0] ⟨rfl, rfl, rfl, rfl, rfl, trivial⟩ (by decide) rfl st)
   rintro x99 h108
   have h109 := h104 _ h108
   try dsimp only at h109
   refine GL.weak (env' := [(0, (sv x0)), (4, v3), (5, .int .i64 x4), (6, .int .i64 (IntKind.wrap .i64 (y95.toNat : Int))), (26, .bool x99)]) (L' := [own 9 TR.str v3 l2]) ss ?_
   refine GL.cond rfl (fun b110 => ?_) (fun b110 => ?_)
   ·replace h109 := ite_t b110 h109
    cases h109
    replace h87 : some (Fl.nx _) = some y76 := h87
    cases h87
    exact GL.exit (fun a w st => mid_intro (l2, x4, v3) h79 (St.cut [0] ⟨rfl, rfl, trivial⟩ (by decide) rfl st))
   replace h109 := ite_f b110 h109
   refine GL.skip ?_
   refine GL.seq ?_
   refine GL.region ?_
   refine RL.mv rfl rfl rfl ?_
   refine RL.mv rfl rfl rfl ?_
   refine RL.mv rfl rfl rfl ?_
   refine RL.mv rfl rfl rfl ?_
   refine RL.binI (v := .int .i64 (wadd x4 (IntKind.wrap .i64 (y95.toNat : Int)))) rfl rfl rfl rfl rfl ?_
   refine RL.binI (v := .int .i64 (wadd (wadd x4 (IntKind.wrap .i64 (y95.toNat : Int))) (1 : Int))) rfl rfl rfl rfl rfl ?_
   obtain ⟨y115, e116, h109⟩ := bind_some h109
   replace e116 := chk_some e116
   refine RL.cutT (i := (x4).toNat) (j := (wadd (wadd x4 (IntKind.wrap .i64 (y95.toNat : Int))) (1 : Int)).toNat) Tryz.underlying9 rfl rfl rfl (Or.inr ⟨_, _, rfl, by rw [Int.toNat_of_nonneg (by omega)]; rfl⟩) (Or.inr ⟨_, _, rfl, by rw [Int.toNat_of_nonneg (by omega)]; rfl⟩) (by omega) (by omega) ?_
   obtain ⟨y117, e118, h109⟩ := bind_some h109
   refine RL.callV (v := .int .u16 y117) (vs := [(sv ((List.take ((wadd (wadd x4 (IntKind.wrap .i64 (y95.toNat : Int))) (1 : Int)).toNat) x0).drop ((x4).toNat)))]) Tryz_fit100 rfl (Or.inl rfl) rfl rfl rfl rfl (fun U w hU hW hL => log_Sum_c U w hU ((List.take ((wadd (wadd x4 (IntKind.wrap .i64 (y95.toNat : Int))) (1 : Int)).toNat) x0).drop ((x4).toNat)) _ e118) ?_
   refine RL.asg rfl rfl rfl ?_
   refine RL.finG ?_
   refine GL.seq ?_
   refine GL.seq ?_
   obtain ⟨y134, K135, h136, h137, h138, h139, h140⟩ := bindF_K h109
   refine GL.join (ι := Bool) (fun (p : Bool) => [(0, (sv x0)), (4, v3), (5, .int .i64 x4), (6, .int .i64 (IntKind.wrap .i64 (y95.toNat : Int))), (55, .bool p)]) (fun (p : Bool) => [own 9 TR.str v3 l2]) (fun (p : Bool) => K135 (.nx p)) ?_ ?_
   ·skip
    refine GL.region ?_
    refine RL.mv rfl rfl rfl ?_
    refine RL.mv rfl rfl rfl ?_
    refine RL.mv rfl rfl rfl ?_
    refine RL.binI (v := .int .i64 (wadd x4 (IntKind.wrap .i64 (y95.toNat : Int)))) rfl rfl rfl rfl rfl ?_
    refine RL.binI (v := .int .i64 (wadd (wadd x4 (IntKind.wrap .i64 (y95.toNat : Int))) (1 : Int))) rfl rfl rfl rfl rfl ?_
    obtain ⟨y141, e142, h136⟩ := bind_some h136
    refine RL.idxT Tryz.underlying9 rfl rfl rfl rfl (idx_some e142).1 (idx_some e142).2.2 ?_
    refine RL.mv rfl rfl rfl ?_
    obtain ⟨y143, e144, h136⟩ := bind_some h136
    replace e144 := chk_some e144
    refine RL.sh (by simp) rfl rfl rfl rfl e144 ?_
    refine RL.cvI Tryz.underlying149 Tryz.underlying5 rfl rfl rfl ?_
    refine RL.binI (v := .bool ((y141.toNat : Int) != (IntKind.wrap .u8 (Int.fdiv y117 (2 ^ (min (8 : Int).toNat (IntKind.bits .u16))))))) rfl rfl rfl rfl rfl ?_
    refine RL.mv rfl rfl rfl ?_
    refine RL.split (t := 45) rfl (fun b145 => ?_) (fun b145 => ?_)
    ·replace h136 := ite_t b145 h136
     refine RL.skip rfl rfl ?_
     refine RL.skip rfl rfl ?_
     refine RL.skip rfl rfl ?_
     refine RL.skip rfl rfl ?_
     refine RL.skip rfl rfl ?_
     refine RL.skip rfl rfl ?_
     refine RL.skip rfl rfl ?_
     refine RL.skip rfl rfl ?_
     refine RL.skip rfl rfl ?_
     refine RL.pickT rfl rfl rfl rfl ?_
     refine RL.fin ?_
     cases h136
     exact fun a w st => mid_intro true h137 (St.cut [0] ⟨rfl, rfl, rfl, rfl, rfl, trivial⟩ (by decide) rfl st)
    replace h136 := ite_f b145 h136
    refine RL.mv rfl rfl rfl ?_
    refine RL.mv rfl rfl rfl ?_
    refine RL.mv rfl rfl rfl ?_
    refine RL.binI (v := .int .i64 (wadd x4 (IntKind.wrap .i64 (y95.toNat : Int)))) rfl rfl rfl rfl rfl ?_
    refine RL.binI (v := .int .i64 (wadd (wadd x4 (IntKind.wrap .i64 (y95.toNat : Int))) (2 : Int))) rfl rfl rfl rfl rfl ?_
    obtain ⟨y146, e147, h136⟩ := bind_some h136
    refine RL.idxT Tryz.underlying9 rfl rfl rfl rfl (idx_some e147).1 (idx_some e147).2.2 ?_
    refine RL.mv rfl rfl rfl ?_
    refine RL.cvI Tryz.underlying149 Tryz.underlying5 rfl rfl rfl ?_
    refine RL.binI (v := .bool ((y146.toNat : Int) != (IntKind.wrap .u8 y117))) rfl rfl rfl rfl rfl ?_
    refine RL.pickF rfl rfl rfl rfl ?_
    refine RL.fin ?_
    cases h136
    exact fun a w st => mid_intro ((y146.toNat : Int) != (IntKind.wrap .u8 y117)) h137 (St.cut [0] ⟨rfl, rfl, rfl, rfl, rfl, trivial⟩ (by decide) rfl st)
   rintro x133 h148
   have h149 := h138 _ h148
   try dsimp only at h149
   refine GL.weak (env' := [(0, (sv x0)), (4, v3), (5, .int .i64 x4), (6, .int .i64 (IntKind.wrap .i64 (y95.toNat : Int))), (55, .bool x133)]) (L' := [own 9 TR.str v3 l2]) ss ?_
   refine GL.cond rfl (fun b150 => ?_) (fun b150 => ?_)
   ·replace h149 := ite_t b150 h149
    cases h149
    replace h87 : some (Fl.nx _) = some y76 := h87
    cases h87
    exact GL.exit (fun a w st => mid_intro (l2, x4, v3) h79 (St.cut [0] ⟨rfl, rfl, trivial⟩ (by decide) rfl st))
   replace h149 := ite_f b150 h149
   refine GL.skip ?_
   refine GL.seq ?_
   refine GL.region ?_
   refine RL.mv rfl rfl rfl ?_
   refine RL.mv rfl rfl rfl ?_
   refine RL.mv rfl rfl rfl ?_
   refine RL.binI (v := .int .i64 (wadd x4 (1 : Int))) rfl rfl rfl rfl rfl ?_
   refine RL.mv rfl rfl rfl ?_
   refine RL.binI (v := .int .i64 (wadd x4 (1 : Int))) rfl rfl rfl rfl rfl ?_
   refine RL.mv rfl rfl rfl ?_
   refine RL.binI (v := .int .i64 (wadd (wadd x4 (1 : Int)) (IntKind.wrap .i64 (y95.toNat : Int)))) rfl rfl rfl rfl rfl ?_
   obtain ⟨y157, e158, h149⟩ := bind_some h149
   replace e158 := chk_some e158
   refine RL.cutT (i := (wadd x4 (1 : Int)).toNat) (j := (wadd (wadd x4 (1 : Int)) (IntKind.wrap .i64 (y95.toNat : Int))).toNat) Tryz.underlying9 rfl rfl rfl (Or.inr ⟨_, _, rfl, by rw [Int.toNat_of_nonneg (by omega)]; rfl⟩) (Or.inr ⟨_, _, rfl, by rw [Int.toNat_of_nonneg (by omega)]; rfl⟩) (by omega) (by omega) ?_
   refine RL.bS (t := TR.str) (vs := [(sv ((List.take ((wadd (wadd x4 (1 : Int)) (IntKind.wrap .i64 (y95.toNat : Int))).toNat) x0).drop ((wadd x4 (1 : Int)).toNat)))]) ([(List.take ((wadd (wadd x4 (1 : Int)) (IntKind.wrap .i64 (y95.toNat : Int))).toNat) x0).drop ((wadd x4 (1 : Int)).toNat)] : (List B8)) Tryz.underlying22 Tryz_lo9 rfl rfl rfl rfl ⟨VR.str, trivial⟩ rfl (by decide) ?_
   intro v159
   obtain ⟨y160, e161, h149⟩ := bind_some h149
   replace e161 := chk_some e161
   refine RL.app 0 1 Tryz.underlying22 Tryz_lo9 rfl rfl rfl rfl rfl rfl rfl SlOf.own e161 ?_
   intro v162
   refine RL.reL (L' := [own 9 TR.str v162 (l2 ++ ([(List.take ((wadd (wadd x4 (1 : Int)) (IntKind.wrap .i64 (y95.toNat : Int))).toNat) x0).drop ((wadd x4 (1 : Int)).toNat)] : (List B8))), own 9 TR.str v159 ([(List.take ((wadd (wadd x4 (1 : Int)) (IntKind.wrap .i64 (y95.toNat : Int))).toNat) x0).drop ((wadd x4 (1 : Int)).toNat)] : (List B8))]) rfl ?_
   refine RL.asg rfl rfl rfl ?_
   refine RL.finG ?_
   refine GL.region ?_
   refine RL.mv rfl rfl rfl ?_
   refine RL.mv rfl rfl rfl ?_
   refine RL.binI (v := .int .i64 (wadd (IntKind.wrap .i64 (y95.toNat : Int)) (3 : Int))) rfl rfl rfl rfl rfl ?_
   refine RL.binI (v := .int .i64 (wadd x4 (wadd (IntKind.wrap .i64 (y95.toNat : Int)) (3 : Int)))) rfl rfl rfl rfl rfl ?_
   refine RL.asg rfl rfl rfl ?_
   refine RL.finG ?_
   refine GL.nilB ?_
   cases h149
   exact fun a w st => lop_intro (r91, (l2 ++ ([(List.take ((wadd (wadd x4 (1 : Int)) (IntKind.wrap .i64 (y95.toNat : Int))).toNat) x0).drop ((wadd x4 (1 : Int)).toNat)] : (List B8))), wadd x4 (wadd (IntKind.wrap .i64 (y95.toNat : Int)) (3 : Int)), v162) (by exact h87) (by simp) (St.cut [0] ⟨rfl, rfl, rfl, trivial⟩ (by decide) rfl st)
  replace h86 := ite_f b92 h86
  cases h86
  replace h87 : some (Fl.nx _) = some y76 := h87
  cases h87
  exact GL.exit (fun a w st => mid_intro (l2, x4, v3) h79 (St.cut [0] ⟨rfl, rfl, trivial⟩ (by decide) rfl st))
 rintro ⟨l2, x4, v3⟩ h163
 have h164 := h80 _ h163
 try dsimp only at h164
 refine GL.weak (env' := [(4, v3), (5, .int .i64 x4)]) (L' := [own 9 TR.str v3 l2]) ss ?_
 refine GL.seq ?_
 refine GL.region ?_
 refine RL.mv rfl rfl rfl ?_
 refine RL.mv rfl rfl rfl ?_
 refine RL.asg rfl rfl rfl ?_
 refine RL.asg rfl rfl rfl ?_
 refine RL.finG ?_
 have h164 := Option.some.inj h164
 subst h164
 exact GL.ret (Gx.ret (v := .tuple #[v3, .int .i64 x4]) (res2 rfl rfl rfl) (fun a w st => (st.pick [0] (by decide) rfl).toPost v3))

theorem log_Log_Crash_c (B : World) (S X : Hp) (f : Nat → Hp) (w : World) (v0 : Value) (x0 : (B8 × Int)) (hO : HeapOk B.heap.size S f [obox 55 TrL v0 x0, keep X].length w) (hB : Below B.heap.size B w) (hI : Its [obox 55 TrL v0 x0, keep X] S f) (x1 : Int) (res : Int × (B8 × Int)) (hm : log_Log_Crash_m x0 x1 = some res) : Calls Tryz.prog 46 #[v0, .int .i64 x1] w (PostM B S (fun (o : Unit) => .int .i64 res.1) (fun (o : Unit) => [obox 55 TrL v0 res.2, keep X])) := by
 refine calls_enterM 50 Tryz.func46 Tryz.ntmps46 rfl B S f [(0, v0), (1, .int .i64 x1)] [obox 55 TrL v0 x0, keep X] [] rfl ⟨rfl, ⟨rfl, trivial⟩⟩ hB hO hI trivial ?_
 unfold log_Log_Crash_m at hm
 refine GL.seq ?_
 refine GL.region ?_
 refine RL.asg rfl rfl rfl ?_
 refine RL.finG ?_
 refine GL.seq ?_
 refine GL.seq ?_
 obtain ⟨y6, K7, h8, h9, h10, h11, h12⟩ := bindR_K hm
 refine GL.join (ι := Bool) (fun (p : Bool) => [(0, v0), (1, .int .i64 x1), (23, .bool p)]) (fun (p : Bool) => [obox 55 TrL v0 x0, keep X]) (fun (p : Bool) => K7 (.nx p)) ?_ ?_
 ·skip
  refine GL.regionQ rfl rfl (by kernel_rfl) ?_
  refine RL.mv rfl rfl rfl ?_
  refine RL.binI (v := .bool (decide (x1 < (0 : Int)))) rfl rfl rfl rfl rfl ?_
  refine RL.mv rfl rfl rfl ?_
  refine RL.split (t := 10) rfl (fun b13 => ?_) (fun b13 => ?_)
  ·replace h8 := ite_t b13 h8
   refine RL.skip rfl rfl ?_
   refine RL.skip rfl rfl ?_
   refine RL.skip rfl rfl ?_
   refine RL.skip rfl rfl ?_
   refine RL.skip rfl rfl ?_
   refine RL.skip rfl rfl ?_
   refine RL.skip rfl rfl ?_
   refine RL.skip rfl rfl ?_
   refine RL.skip rfl rfl ?_
   refine RL.skip rfl rfl ?_
   refine RL.skip rfl rfl ?_
   refine RL.skip rfl rfl ?_
   refine RL.pickT rfl rfl rfl rfl ?_
   refine RL.finQ ?_
   cases h8
   exact fun a w st => mid_intro true h9 (St.cut [0, 1] ⟨rfl, rfl, rfl, trivial⟩ (by decide) rfl st)
  replace h8 := ite_f b13 h8
  refine RL.mv rfl rfl rfl ?_
  refine RL.mv rfl rfl rfl ?_
  refine RL.nilk 0 rfl rfl rfl rfl PtOf.obox ?_
  refine RL.fadr (off := 0) (fo := 0) 0 Tryz_fld55_0 rfl rfl rfl PtOf.obox (Or.inr ⟨rfl, rfl⟩) ?_
  refine RL.ldPx (off := (0 + 0)) (e' := x0.1) 0 Ex.str Tryz_ln9 rfl rfl (Or.inl rfl) rfl PtOf.obox (Part.fst Part.self) ?_
  refine RL.lenT Tryz.underlying9 rfl rfl rfl ?_
  refine RL.mv rfl rfl rfl ?_
  refine RL.nilk 0 rfl rfl rfl rfl PtOf.obox ?_
  refine RL.fadr (off := 0) (fo := 1) 0 Tryz_fld55_1 rfl rfl rfl PtOf.obox (Or.inr ⟨rfl, rfl⟩) ?_
  refine RL.ldPx (off := (0 + 1)) (e' := x0.2) 0 Ex.ik Tryz_ln3 rfl rfl (Or.inl rfl) rfl PtOf.obox (Part.snd Part.self) ?_
  refine RL.binI (v := .int .i64 (wsub ((x0.1).length : Int) x0.2)) rfl rfl rfl rfl rfl ?_
  refine RL.binI (v := .bool (decide (x1 > (wsub ((x0.1).length : Int) x0.2)))) rfl rfl rfl rfl rfl ?_
  refine RL.pickF rfl rfl rfl rfl ?_
  refine RL.finQ ?_
  cases h8
  exact fun a w st => mid_intro (decide (x1 > (wsub ((x0.1).length : Int) x0.2))) h9 (St.cut [0, 1] ⟨rfl, rfl, rfl, trivial⟩ (by decide) rfl st)
 rintro x5 h14
 have h15 := h10 _ h14
 try dsimp only at h15
 refine GL.weak (env' := [(0, v0), (1, .int .i64 x1), (23, .bool x5)]) (L' := [obox 55 TrL v0 x0, keep X]) ss ?_
 refine GL.cond rfl (fun b16 => ?_) (fun b16 => ?_)
 ·replace h15 := ite_t b16 h15
  refine GL.seq ?_
  refine GL.region ?_
  refine RL.asg rfl rfl rfl ?_
  refine RL.finG ?_
  have h15 := Option.some.inj h15
  subst h15
  exact GL.ret (Gx.ret (v := .int .i64 (1 : Int)) (res1 rfl rfl) (fun a w st => (st.pick [0, 1] (by decide) rfl).toPostM (V := fun (o : Unit) => .int .i64 (((1 : Int), x0).1)) (LR := fun (o : Unit) => [obox 55 TrL v0 (((1 : Int), x0).2), keep X]) ()))
 replace h15 := ite_f b16 h15
 refine GL.skip ?_
 refine GL.seq ?_
 refine GL.regionQ rfl rfl (by kernel_rfl) ?_
 refine RL.mv rfl rfl rfl ?_
 refine RL.nilk 0 rfl rfl rfl rfl PtOf.obox ?_
 refine RL.fadr (off := 0) (fo := 0) 0 Tryz_fld55_0 rfl rfl rfl PtOf.obox (Or.inr ⟨rfl, rfl⟩) ?_
 refine RL.ldPx (off := (0 + 0)) (e' := x0.1) 0 Ex.str Tryz_ln9 rfl rfl (Or.inl rfl) rfl PtOf.obox (Part.fst Part.self) ?_
 refine RL.mv rfl rfl rfl ?_
 refine RL.nilk 0 rfl rfl rfl rfl PtOf.obox ?_
 refine RL.fadr (off := 0) (fo := 1) 0 Tryz_fld55_1 rfl rfl rfl PtOf.obox (Or.inr ⟨rfl, rfl⟩) ?_
 refine RL.ldPx (off := (0 + 1)) (e' := x0.2) 0 Ex.ik Tryz_ln3 rfl rfl (Or.inl rfl) rfl PtOf.obox (Part.snd Part.self) ?_
 refine RL.mv rfl rfl rfl ?_
 refine RL.binI (v := .int .i64 (wadd x0.2 x1)) rfl rfl rfl rfl rfl ?_
 obtain ⟨y19, e20, h15⟩ := bind_some h15
 replace e20 := chk_some e20
 refine RL.cutT (i := 0) (j := (wadd x0.2 x1).toNat) Tryz.underlying9 rfl rfl rfl (Or.inl ⟨rfl, rfl⟩) (Or.inr ⟨_, _, rfl, by rw [Int.toNat_of_nonneg (by omega)]; rfl⟩) (by omega) (by omega) ?_
 refine RL.asg rfl rfl rfl ?_
 refine RL.finQG ?_
 refine GL.seq ?_
 refine GL.region ?_
 refine RL.mv rfl rfl rfl ?_
 obtain ⟨y24, e25, h15⟩ := bind_some h15
 refine RL.call (vs := [(sv ((List.take ((wadd x0.2 x1).toNat) x0.1).drop 0))]) Tryz_fit74 rfl rfl rfl rfl rfl (fun S f w hS hW hi => log_Scan_c S w hS ((List.take ((wadd x0.2 x1).toNat) x0.1).drop 0) _ e25) ?_
 intro v26
 refine RL.mv rfl rfl rfl ?_
 refine RL.ext rfl rfl rfl rfl ?_
 refine RL.ext rfl rfl rfl rfl ?_
 refine RL.asg rfl rfl rfl ?_
 refine RL.asg rfl rfl rfl ?_
 refine RL.finG ?_
 refine GL.seq ?_
 refine GL.region ?_
 refine RL.mv rfl rfl rfl ?_
 refine RL.mv rfl rfl rfl ?_
 refine RL.mv rfl rfl rfl ?_
 refine RL.mv rfl rfl rfl ?_
 obtain ⟨y29, e30, h15⟩ := bind_some h15
 replace e30 := chk_some e30
 refine RL.cutT (i := 0) (j := (y24.2).toNat) Tryz.underlying9 rfl rfl rfl (Or.inl ⟨rfl, rfl⟩) (Or.inr ⟨_, _, rfl, by rw [Int.toNat_of_nonneg (by omega)]; rfl⟩) (by omega) (by omega) ?_
 refine RL.mv rfl rfl rfl ?_
 refine RL.nilk 0 rfl rfl rfl rfl PtOf.obox ?_
 refine RL.fadr (off := 0) (fo := 0) 0 Tryz_fld55_0 rfl rfl rfl PtOf.obox (Or.inr ⟨rfl, rfl⟩) ?_
 refine RL.stP (off := (0 + 0)) (e' := (List.take ((y24.2).toNat) ((List.take ((wadd x0.2 x1).toNat) x0.1).drop 0)).drop 0) (d1 := ((List.take ((y24.2).toNat) ((List.take ((wadd x0.2 x1).toNat) x0.1).drop 0)).drop 0, x0.2)) (r := TR.str) 0 Tryz_ln9 rfl rfl (Or.inl rfl) rfl VR.str rfl (Upd.fst Upd.self) ?_
 refine RL.reL (L' := [obox 55 TrL v0 ((List.take ((y24.2).toNat) ((List.take ((wadd x0.2 x1).toNat) x0.1).drop 0)).drop 0, x0.2), keep X, own 9 TR.str v26 y24.1]) rfl ?_
 refine RL.nilk 0 rfl rfl rfl rfl PtOf.obox ?_
 refine RL.fadr (off := 0) (fo := 1) 0 Tryz_fld55_1 rfl rfl rfl PtOf.obox (Or.inr ⟨rfl, rfl⟩) ?_
 refine RL.stP (off := (0 + 1)) (e' := y24.2) (d1 := (((List.take ((y24.2).toNat) ((List.take ((wadd x0.2 x1).toNat) x0.1).drop 0)).drop 0, x0.2).1, y24.2)) (r := TR.int) 0 Tryz_ln3 rfl rfl (Or.inl rfl) rfl VR.int rfl (Upd.snd Upd.self) ?_
 refine RL.finG ?_
 refine GL.seq ?_
 refine GL.region ?_
 refine RL.asg rfl rfl rfl ?_
 refine RL.finG ?_
 have h15 := Option.some.inj h15
 subst h15
 exact GL.ret (Gx.ret (v := .int .i64 (0 : Int)) (res1 rfl rfl) (fun a w st => (st.pick [0, 1] (by decide) rfl).toPostM (V := fun (o : Unit) => .int .i64 (((0 : Int), (((List.take ((y24.2).toNat) ((List.take ((wadd x0.2 x1).toNat) x0.1).drop 0)).drop 0, x0.2).1, y24.2)).1)) (LR := fun (o : Unit) => [obox 55 TrL v0 (((0 : Int), (((List.take ((y24.2).toNat) ((List.take ((wadd x0.2 x1).toNat) x0.1).drop 0)).drop 0, x0.2).1, y24.2)).2), keep X]) ()))

theorem log_Log_All_c (S : Hp) (w : World) (hS : S.sub w) (v0 : Value) (x0 : (B8 × Int)) (k0 : ((TR.ptr TrL)).vrep S v0 x0) (res : (List B8)) (hm : log_Log_All_m x0 = some res) : Calls Tryz.prog 75 #[v0] w (Post w S (fun (o : Value) => o) (fun (o : Value) => [own 9 TR.str o res])) := by
 refine calls_enter 14 Tryz.func75 Tryz.ntmps75 rfl S false [(0, v0)] [imm (TR.ptr TrL) v0 x0] rfl ⟨rfl, trivial⟩ hS ⟨k0, trivial⟩ ?_
 unfold log_Log_All_m at hm
 refine GL.seq ?_
 refine GL.region ?_
 refine RL.asg rfl rfl rfl ?_
 refine RL.finG ?_
 refine GL.seq ?_
 refine GL.region ?_
 refine RL.mv rfl rfl rfl ?_
 refine RL.nilk 0 rfl rfl rfl rfl PtOf.imm ?_
 refine RL.fadr (off := 0) (fo := 0) 0 Tryz_fld55_0 rfl rfl rfl PtOf.imm (Or.inr ⟨rfl, rfl⟩) ?_
 refine RL.ldPx (off := (0 + 0)) (e' := x0.1) 0 Ex.str Tryz_ln9 rfl rfl (Or.inl rfl) rfl PtOf.imm (Part.fst Part.self) ?_
 obtain ⟨y5, e6, hm⟩ := bind_some hm
 refine RL.call (vs := [(sv x0.1)]) Tryz_fit74 rfl rfl rfl rfl rfl (fun S f w hS hW hi => log_Scan_c S w hS x0.1 _ e6) ?_
 intro v7
 refine RL.mv rfl rfl rfl ?_
 refine RL.ext rfl rfl rfl rfl ?_
 refine RL.ext rfl rfl rfl rfl ?_
 refine RL.asg rfl rfl rfl ?_
 refine RL.asg rfl rfl rfl ?_
 refine RL.finG ?_
 refine GL.seq ?_
 refine GL.region ?_
 refine RL.mv rfl rfl rfl ?_
 refine RL.asg rfl rfl rfl ?_
 refine RL.finG ?_
 have hm := Option.some.inj hm
 subst hm
 exact GL.ret (Gx.ret (v := v7) (res1 rfl rfl) (fun a w st => (st.pick [1] (by decide) rfl).toPost v7))

theorem strconv_Atoi_c (S : Hp) (w : World) (hS : S.sub w) (x0 : B8) (res : Int) (hm : strconv_Atoi_m x0 = some res) : Calls Tryz.prog 76 #[(sv x0)] w (PostV w (.tuple #[.int .i64 res, Value.nilIface])) := by
  unfold strconv_Atoi_m at hm
  obtain ⟨_, hc, hm⟩ := bind_some hm
  replace hc := chk_some hc
  refine (Any.strconv_Atoi Tryz.lays172 ⟨x0.toArray⟩ res (by simpa [ByteArray.size] using hc) (by simpa using hm) w).mono ?_
  rintro e w' ⟨rfl, t, rfl⟩
  exact ⟨rfl, below_bytes _ _ _⟩

theorem house_House_read_c (B : World) (S X : Hp) (f : Nat → Hp) (w : World) (v0 : Value) (u0a : Value) (x0 : TyH) (hO : HeapOk B.heap.size S f [obox 45 TrH v0 (x0.1, (x0.2.1, u0a)), obox 55 TrL u0a x0.2.2, keep X].length w) (hB : Below B.heap.size B w) (hI : Its [obox 45 TrH v0 (x0.1, (x0.2.1, u0a)), obox 55 TrL u0a x0.2.2, keep X] S f) (hT : Tab Tryz.prog (Tryz.lays146_ren.g 1) S)  (res : TyH) (hm : house_House_read_m x0 = some res) : Calls Tryz.prog 47 #[v0] w (PostM B S (fun (o : Unit) => .tuple #[]) (fun (o : Unit) => [obox 45 TrH v0 (res.1, (res.2.1, u0a)), obox 55 TrL u0a res.2.2, keep X])) := by
 refine calls_enterM 88 Tryz.func47 Tryz.ntmps47 rfl B S f [(0, v0)] [obox 45 TrH v0 (x0.1, (x0.2.1, u0a)), obox 55 TrL u0a x0.2.2, keep X] [] rfl ⟨rfl, trivial⟩ hB hO hI trivial ?_
 unfold house_House_read_m at hm
 refine GL.seq ?_
 refine GL.region ?_
 refine RL.asg rfl rfl rfl ?_
 refine RL.finG ?_
 refine GL.seq ?_
 refine GL.seq ?_
 refine GL.region ?_
 refine RL.mv rfl rfl rfl ?_
 refine RL.nilk 0 rfl rfl rfl rfl PtOf.obox ?_
 refine RL.fadr (off := 0) (fo := 2) 0 Tryz_fld45_2 rfl rfl rfl PtOf.obox (Or.inr ⟨rfl, rfl⟩) ?_
 refine RL.ldPx (off := (0 + 2)) (e' := u0a) 0 Ex.raw Tryz_ln40 rfl rfl (Or.inl rfl) rfl PtOf.obox (Part.snd (Part.snd Part.self)) ?_
 obtain ⟨y5, e6, hm⟩ := bind_some hm
 refine RL.callU (vs := [u0a]) (LR := fun (o : Value) => [own 9 TR.str o y5]) (fun o => ⟨Loc.own TR.flatT_str, trivial⟩) Tryz_fit75 rfl rfl rfl rfl rfl (fun U w hU hW hL => log_Log_All_c U w hU _ _ (hL 1 _ _ rfl Seen.obox) _ e6) ?_
 intro v7
 refine RL.lenS 3 Tryz.underlying22 rfl rfl rfl rfl SlOf.own ?_
 refine RL.mv rfl rfl rfl ?_
 refine RL.finG ?_
 refine GL.weak (fun a w st => st.nilOwn 86 TrA) ?_
 refine GL.lenOwn 3 rfl (fun n141 => ?_)
 obtain ⟨y142, K143, h144, h145, h146, h147, h148⟩ := bindR_K hm
 refine GL.join (ι := (List TyA) × Value) (fun (p : (List TyA) × Value) => [(0, v0), (2, p.2)]) (fun (p : (List TyA) × Value) => [obox 45 TrH v0 (x0.1, (x0.2.1, u0a)), obox 55 TrL u0a x0.2.2, keep X, own 86 TrA p.2 p.1]) (fun (p : (List TyA) × Value) => K143 (.nx p.1)) ?_ ?_
 ·refine GL.block ?_
  refine GL.loop (ι := Nat × Nat × (List TyA) × Value) (fun (p : Nat × Nat × (List TyA) × Value) => [(0, v0), (2, p.2.2.2), (14, v7), (15, .int .i64 ((y5).length : Int)), (16, .int .i64 (p.1 : Int))]) (fun (p : Nat × Nat × (List TyA) × Value) => [obox 45 TrH v0 (x0.1, (x0.2.1, u0a)), obox 55 TrL u0a x0.2.2, own 86 TrA p.2.2.2 p.2.2.1, own 9 TR.str v7 y5, keep X]) (fun (p : Nat × Nat × (List TyA) × Value) => p.1 + p.2.1 = (y5).length ∧ rangeN (house_House_read_b1 y5) p.2.1 p.1 p.2.2.1 = some y142) (fun (p : Nat × Nat × (List TyA) × Value) => p.2.1) (0, (y5).length, [], Value.slice none 0 0) ⟨by simp, h144⟩ (fun a w st => St.cut [0, 1, 4, 3, 2] ⟨rfl, rfl, rfl, rfl, rfl, trivial⟩ (by decide) rfl st) ?_
  rintro ⟨i149, r150, l8, v9⟩ ⟨h155, h154⟩
  try dsimp only at h155 h154
  refine GL.weak (env' := [(0, v0), (2, v9), (14, v7), (15, .int .i64 ((y5).length : Int)), (16, .int .i64 (i149 : Int))]) (L' := [obox 45 TrH v0 (x0.1, (x0.2.1, u0a)), obox 55 TrL u0a x0.2.2, own 86 TrA v9 l8, own 9 TR.str v7 y5, keep X]) ss ?_
  refine GL.seq ?_
  refine GL.region ?_
  refine RL.binI (v := .bool (decide ((i149 : Int) < ((y5).length : Int)))) rfl rfl rfl rfl rfl ?_
  refine RL.finG ?_
  refine GL.seq ?_
  refine GL.cond rfl (fun b157 => ?_) (fun b157 => ?_)
  ·have h158 : i149 < (y5).length := by have := of_decide_eq_true b157; omega
   obtain ⟨r159, hr⟩ : ∃ m, r150 = m + 1 := ⟨r150 - 1, by omega⟩
   subst hr
   obtain ⟨z151, h152, h153⟩ := rangeN_some h154
   unfold house_House_read_b1 at h152
   try dsimp only at h152
   refine GL.skip ?_
   refine GL.seq ?_
   refine GL.block ?_
   refine GL.seq ?_
   refine GL.region ?_
   obtain ⟨y162, e163, h152⟩ := bind_some h152
   refine RL.idxS (sz := 1) 3 Tryz.underlying22 Tryz_ln9 rfl rfl rfl rfl rfl SlOf.own (idx_some e163).1 (idx_some e163).2.1 ?_
   refine RL.ldSx (i := i149) (e' := y162) 3 Ex.str Tryz_ln9 rfl rfl rfl rfl SlOf.own (idx_some e163).2.2 Part.self ?_
   refine RL.asg rfl rfl rfl ?_
   refine RL.finG ?_
   refine GL.seq ?_
   refine GL.region ?_
   refine RL.mv rfl rfl rfl ?_
   obtain ⟨y167, e168, h152⟩ := bind_some h152
   refine RL.call (vs := [(sv y162), (sv (([32] : B8)))]) Tryz_fit7 rfl rfl rfl rfl rfl (fun S f w hS hW hi => strings_Split_c S w hS (hT.mono hW) y162 ([32] : B8) _ e168) ?_
   intro v169
   refine RL.asg rfl rfl rfl ?_
   refine RL.finG ?_
   refine GL.seq ?_
   refine GL.seq ?_
   refine GL.region ?_
   refine RL.mv rfl rfl rfl ?_
   obtain ⟨y172, e173, h152⟩ := bind_some h152
   refine RL.idxS (sz := 1) 5 Tryz.underlying22 Tryz_ln9 rfl rfl rfl rfl rfl SlOf.own (idx_some e173).1 (idx_some e173).2.1 ?_
   refine RL.ldSx (i := ((0 : Int)).toNat) (e' := y172) 5 Ex.str Tryz_ln9 rfl rfl rfl rfl SlOf.own (idx_some e173).2.2 Part.self ?_
   refine RL.binS (v := .bool (y172 == ([111] : B8))) rfl rfl rfl rfl rfl ?_
   refine RL.finG ?_
   refine GL.cond rfl (fun b174 => ?_) (fun b174 => ?_)
   ·replace h152 := ite_t b174 h152
    refine GL.seq ?_
    refine GL.region ?_
    refine RL.mv rfl rfl rfl ?_
    obtain ⟨y179, e180, h152⟩ := bind_some h152
    refine RL.idxS (sz := 1) 5 Tryz.underlying22 Tryz_ln9 rfl rfl rfl rfl rfl SlOf.own (idx_some e180).1 (idx_some e180).2.1 ?_
    refine RL.ldSx (i := ((2 : Int)).toNat) (e' := y179) 5 Ex.str Tryz_ln9 rfl rfl rfl rfl SlOf.own (idx_some e180).2.2 Part.self ?_
    obtain ⟨y181, e182, h152⟩ := bind_some h152
    refine RL.callV (v := .tuple #[.int .i64 y181, Value.nilIface]) (vs := [(sv y179)]) Tryz_fit76 rfl (Or.inl rfl) rfl rfl rfl rfl (fun U w hU hW hL => strconv_Atoi_c U w hU y179 _ e182) ?_
    refine RL.mv rfl rfl rfl ?_
    refine RL.ext rfl rfl rfl rfl ?_
    refine RL.ext rfl rfl rfl rfl ?_
    refine RL.asg rfl rfl rfl ?_
    refine RL.asg rfl rfl rfl ?_
    refine RL.finG ?_
    refine GL.seq ?_
    refine GL.region ?_
    refine RL.mv rfl rfl rfl ?_
    refine RL.mv rfl rfl rfl ?_
    obtain ⟨y188, e189, h152⟩ := bind_some h152
    refine RL.idxS (sz := 1) 5 Tryz.underlying22 Tryz_ln9 rfl rfl rfl rfl rfl SlOf.own (idx_some e189).1 (idx_some e189).2.1 ?_
    refine RL.ldSx (i := ((1 : Int)).toNat) (e' := y188) 5 Ex.str Tryz_ln9 rfl rfl rfl rfl SlOf.own (idx_some e189).2.2 Part.self ?_
    refine RL.mv rfl rfl rfl ?_
    obtain ⟨y190, e191, h152⟩ := bind_some h152
    refine RL.callU (vs := [v9, (sv y188), .int .i64 y181]) (LR := fun (o : Value) => [own 86 TrA o y190.1]) (fun o => ⟨Loc.own (TR.flatT_pair TR.flatT_str (TR.flatT_pair TR.flatT_ik TR.flatT_ik)), trivial⟩) Tryz_fit64 rfl rfl rfl rfl rfl (fun U w hU hW hL => ledger_Open_c U w hU _ _ (hL 2 _ _ rfl Seen.own) y188 y181 _ e191) ?_
    intro v192
    refine RL.mv rfl rfl rfl ?_
    refine RL.ext rfl rfl rfl rfl ?_
    refine RL.ext rfl rfl rfl rfl ?_
    refine RL.asg rfl rfl rfl ?_
    refine RL.finG ?_
    refine GL.exit ?_
    refine Gx.here ?_
    refine GL.region ?_
    refine RL.binI (v := .int .i64 ((i149 + 1 : Nat) : Int)) rfl rfl rfl rfl (binI_succ i149 (by omega)) ?_
    refine RL.mv rfl rfl rfl ?_
    refine RL.fin ?_
    cases h152
    exact fun a w st => lop_intro (i149 + 1, r159, y190.1, v192) ⟨by show i149 + 1 + r159 = (y5).length; omega, h153⟩ (by simp) (St.cut [0, 1, 6, 3, 4] ⟨rfl, rfl, rfl, rfl, rfl, trivial⟩ (by decide) rfl st)
   replace h152 := ite_f b174 h152
   refine GL.skip ?_
   refine GL.seq ?_
   refine GL.region ?_
   refine RL.alloc (t := (TR.arr 4 TR.int)) (z := (List.replicate 4 (0 : Int))) Tryz_lo122 (fun S => ⟨rfl, ⟨_, _, rfl, rfl, ⟨_, _, rfl, rfl, ⟨_, _, rfl, rfl, ⟨_, _, rfl, rfl, rfl⟩⟩⟩⟩⟩) rfl rfl rfl ?_
   intro v194
   refine RL.reL (L' := [obox 45 TrH v0 (x0.1, (x0.2.1, u0a)), obox 55 TrL u0a x0.2.2, own 86 TrA v9 l8, own 9 TR.str v7 y5, keep X, own 9 TR.str v169 y167, obox 122 (TR.arr 4 TR.int) v194 (List.replicate 4 (0 : Int))]) rfl ?_
   refine RL.finG ?_
   refine GL.seq ?_
   refine GL.seq ?_
   refine GL.region ?_
   refine RL.mv rfl rfl rfl ?_
   refine RL.finG ?_
   obtain ⟨y224, K225, h226, h227, h228, h229, h230⟩ := bindF_K h152
   refine GL.join (ι := (List Int) × Int) (fun (p : (List Int) × Int) => [(0, v0), (2, v9), (5, v169), (8, v194), (14, v7), (15, .int .i64 ((y5).length : Int)), (16, .int .i64 (i149 : Int))]) (fun (p : (List Int) × Int) => [obox 45 TrH v0 (x0.1, (x0.2.1, u0a)), obox 55 TrL u0a x0.2.2, keep X, own 86 TrA v9 l8, own 9 TR.str v169 y167, obox 122 (TR.arr 4 TR.int) v194 p.1, own 9 TR.str v7 y5]) (fun (p : (List Int) × Int) => K225 (.nx (p.1, p.2))) ?_ ?_
   ·refine GL.block ?_
    refine GL.loop (ι := Nat × (List Int) × Int) (fun (p : Nat × (List Int) × Int) => [(0, v0), (2, v9), (5, v169), (8, v194), (14, v7), (15, .int .i64 ((y5).length : Int)), (16, .int .i64 (i149 : Int)), (42, .int .i64 p.2.2)]) (fun (p : Nat × (List Int) × Int) => [obox 45 TrH v0 (x0.1, (x0.2.1, u0a)), obox 55 TrL u0a x0.2.2, own 86 TrA v9 l8, own 9 TR.str v169 y167, obox 122 (TR.arr 4 TR.int) v194 p.2.1, own 9 TR.str v7 y5, keep X]) (fun (p : Nat × (List Int) × Int) => loopM (house_House_read_b2 y167) p.1 (p.2.1, p.2.2) = some y224) (fun (p : Nat × (List Int) × Int) => p.1) (1048576, (List.replicate 4 (0 : Int)), (0 : Int)) h226 (fun a w st => St.cut [0, 1, 2, 5, 6, 3, 4] ⟨rfl, rfl, rfl, rfl, rfl, rfl, rfl, rfl, trivial⟩ (by decide) rfl st) ?_
    rintro ⟨r232, l209, x210⟩ h236
    try dsimp only at h236
    refine GL.weak (env' := [(0, v0), (2, v9), (5, v169), (8, v194), (14, v7), (15, .int .i64 ((y5).length : Int)), (16, .int .i64 (i149 : Int)), (42, .int .i64 x210)]) (L' := [obox 45 TrH v0 (x0.1, (x0.2.1, u0a)), obox 55 TrL u0a x0.2.2, own 86 TrA v9 l8, own 9 TR.str v169 y167, obox 122 (TR.arr 4 TR.int) v194 l209, own 9 TR.str v7 y5, keep X]) ss ?_
    obtain ⟨r239, z233, hr, h234, h235⟩ := loopM_some h236
    subst hr
    unfold house_House_read_b2 at h234
    try dsimp only at h234
    refine GL.seq ?_
    refine GL.region ?_
    refine RL.binI (v := .bool (decide (x210 < (4 : Int)))) rfl rfl rfl rfl rfl ?_
    refine RL.finG ?_
    refine GL.seq ?_
    refine GL.cond rfl (fun b240 => ?_) (fun b240 => ?_)
    ·replace h234 := ite_t b240 h234
     refine GL.skip ?_
     refine GL.seq ?_
     refine GL.block ?_
     refine GL.seq ?_
     refine GL.region ?_
     refine RL.mv rfl rfl rfl ?_
     refine RL.asg rfl rfl rfl ?_
     refine RL.finG ?_
     refine GL.region ?_
     refine RL.mv rfl rfl rfl ?_
     refine RL.mv rfl rfl rfl ?_
     refine RL.mv rfl rfl rfl ?_
     refine RL.binI (v := .int .i64 (wadd (3 : Int) x210)) rfl rfl rfl rfl rfl ?_
     obtain ⟨y247, e248, h234⟩ := bind_some h234
     refine RL.idxS (sz := 1) 3 Tryz.underlying22 Tryz_ln9 rfl rfl rfl rfl rfl SlOf.own (idx_some e248).1 (idx_some e248).2.1 ?_
     refine RL.ldSx (i := (wadd (3 : Int) x210).toNat) (e' := y247) 3 Ex.str Tryz_ln9 rfl rfl rfl rfl SlOf.own (idx_some e248).2.2 Part.self ?_
     obtain ⟨y249, e250, h234⟩ := bind_some h234
     refine RL.callV (v := .tuple #[.int .i64 y249, Value.nilIface]) (vs := [(sv y247)]) Tryz_fit76 rfl (Or.inl rfl) rfl rfl rfl rfl (fun U w hU hW hL => strconv_Atoi_c U w hU y247 _ e250) ?_
     refine RL.mv rfl rfl rfl ?_
     refine RL.ext rfl rfl rfl rfl ?_
     refine RL.ext rfl rfl rfl rfl ?_
     obtain ⟨y251, e252, h234⟩ := bind_some h234
     refine RL.idxA0 (sz := 1) (t' := TR.int) 4 Tryz.underlying122 Tryz_ln3 rfl rfl rfl PtOf.obox rfl rfl Part.self (idx_some e252).1 (idx_some e252).2.1 ?_
     refine RL.stP (off := ((x210).toNat * 1)) (e' := y249) (d1 := (List.set l209 ((x210).toNat) y249)) (r := TR.int) 4 Tryz_ln3 rfl rfl (Or.inl rfl) rfl VR.int rfl (Upd.arr (idx_some e252).2.2 Upd.self) ?_
     refine RL.finG ?_
     refine GL.nilB ?_
     refine GL.region ?_
     refine RL.binI (v := .int .i64 (wadd x210 (1 : Int))) rfl rfl rfl rfl rfl ?_
     refine RL.mv rfl rfl rfl ?_
     refine RL.finG ?_
     cases h234
     exact fun a w st => lop_intro (r239, (List.set l209 ((x210).toNat) y249), wadd x210 (1 : Int)) (by exact h235) (by simp) (St.cut [0, 1, 2, 3, 4, 5, 6] ⟨rfl, rfl, rfl, rfl, rfl, rfl, rfl, rfl, trivial⟩ (by decide) rfl st)
    replace h234 := ite_f b240 h234
    cases h234
    replace h235 : some (Fl.nx _) = some y224 := h235
    cases h235
    exact GL.exit (fun a w st => mid_intro (l209, x210) h227 (St.cut [0, 1, 6, 2, 3, 4, 5] ⟨rfl, rfl, rfl, rfl, rfl, rfl, rfl, trivial⟩ (by decide) rfl st))
   rintro ⟨l209, x210⟩ h253
   have h254 := h228 _ h253
   try dsimp only at h254
   refine GL.weak (env' := [(0, v0), (2, v9), (5, v169), (8, v194), (14, v7), (15, .int .i64 ((y5).length : Int)), (16, .int .i64 (i149 : Int))]) (L' := [obox 45 TrH v0 (x0.1, (x0.2.1, u0a)), obox 55 TrL u0a x0.2.2, keep X, own 86 TrA v9 l8, own 9 TR.str v169 y167, obox 122 (TR.arr 4 TR.int) v194 l209, own 9 TR.str v7 y5]) ss ?_
   refine GL.regionA rfl rfl ?_
   refine RA.mv 0 rfl (by kernel_rfl) rfl rfl rfl ?_
   refine RA.mv 1 rfl (by kernel_rfl) rfl rfl rfl ?_
   obtain ⟨y273, e274, h254⟩ := bind_some h254
   refine RA.idxS (sz := 1) 4 Tryz.underlying22 Tryz_ln9 2 rfl (by kernel_rfl) rfl rfl rfl rfl rfl SlOf.own (idx_some e274).1 (idx_some e274).2.1 ?_
   refine RA.mv 4 rfl (by kernel_rfl) rfl rfl rfl ?_
   obtain ⟨y275, e276, h254⟩ := bind_some h254
   refine RA.idxS (sz := 1) 4 Tryz.underlying22 Tryz_ln9 5 rfl (by kernel_rfl) rfl rfl rfl rfl rfl SlOf.own (idx_some e276).1 (idx_some e276).2.1 ?_
   refine RA.mv 16 rfl (by kernel_rfl) rfl rfl rfl ?_
   obtain ⟨y277, e278, h254⟩ := bind_some h254
   refine RA.idxS (sz := 1) 4 Tryz.underlying22 Tryz_ln9 17 rfl (by kernel_rfl) rfl rfl rfl rfl rfl SlOf.own (idx_some e278).1 (idx_some e278).2.1 ?_
   refine RA.still (le := q_90) (f := 5) [3, 6, 7, 8, 9, 10, 11, 12, 13, 14, 15, 18] 19 rfl (by kernel_rfl) ?_
   simp only [pickOps, List.getElem?_toArray, List.getElem?_cons_succ, List.getElem?_cons_zero]
   refine RL.ldSx (i := ((1 : Int)).toNat) (e' := y273) 4 Ex.str Tryz_ln9 rfl rfl rfl rfl SlOf.own (idx_some e274).2.2 Part.self ?_
   refine RL.ldSx (i := ((2 : Int)).toNat) (e' := y275) 4 Ex.str Tryz_ln9 rfl rfl rfl rfl SlOf.own (idx_some e276).2.2 Part.self ?_
   obtain ⟨y279, e280, h254⟩ := bind_some h254
   refine RL.idxA0 (sz := 1) (t' := TR.int) 5 Tryz.underlying122 Tryz_ln3 rfl rfl rfl PtOf.obox rfl rfl Part.self (idx_some e280).1 (idx_some e280).2.1 ?_
   refine RL.ldPx (off := (((0 : Int)).toNat * 1)) (e' := y279) 5 Ex.ik Tryz_ln3 rfl rfl (Or.inl rfl) rfl PtOf.obox (Part.arr (idx_some e280).2.2 Part.self) ?_
   obtain ⟨y281, e282, h254⟩ := bind_some h254
   refine RL.idxA0 (sz := 1) (t' := TR.int) 5 Tryz.underlying122 Tryz_ln3 rfl rfl rfl PtOf.obox rfl rfl Part.self (idx_some e282).1 (idx_some e282).2.1 ?_
   refine RL.ldPx (off := (((1 : Int)).toNat * 1)) (e' := y281) 5 Ex.ik Tryz_ln3 rfl rfl (Or.inl rfl) rfl PtOf.obox (Part.arr (idx_some e282).2.2 Part.self) ?_
   obtain ⟨y283, e284, h254⟩ := bind_some h254
   refine RL.idxA0 (sz := 1) (t' := TR.int) 5 Tryz.underlying122 Tryz_ln3 rfl rfl rfl PtOf.obox rfl rfl Part.self (idx_some e284).1 (idx_some e284).2.1 ?_
   refine RL.ldPx (off := (((2 : Int)).toNat * 1)) (e' := y283) 5 Ex.ik Tryz_ln3 rfl rfl (Or.inl rfl) rfl PtOf.obox (Part.arr (idx_some e284).2.2 Part.self) ?_
   obtain ⟨y285, e286, h254⟩ := bind_some h254
   refine RL.idxA0 (sz := 1) (t' := TR.int) 5 Tryz.underlying122 Tryz_ln3 rfl rfl rfl PtOf.obox rfl rfl Part.self (idx_some e286).1 (idx_some e286).2.1 ?_
   refine RL.ldPx (off := (((3 : Int)).toNat * 1)) (e' := y285) 5 Ex.ik Tryz_ln3 rfl rfl (Or.inl rfl) rfl PtOf.obox (Part.arr (idx_some e286).2.2 Part.self) ?_
   refine RL.bld (t := TrD) (d0 := ((y273, y275, y279, y281, y283, y285) : TyD)) (pv := [(0, (sv y273)), (1, (sv y275)), (2, .int .i64 y279), (3, .int .i64 y281), (4, .int .i64 y283), (5, .int .i64 y285)]) rfl Tryz_bld57 rfl rfl rfl ⟨⟨_, _, TR.str, y273, rfl, rfl, VR.str⟩, ⟨⟨_, _, TR.str, y275, rfl, rfl, VR.str⟩, ⟨⟨_, _, TR.int, y279, rfl, rfl, VR.int⟩, ⟨⟨_, _, TR.int, y281, rfl, rfl, VR.int⟩, ⟨⟨_, _, TR.int, y283, rfl, rfl, VR.int⟩, ⟨⟨_, _, TR.int, y285, rfl, rfl, VR.int⟩, trivial⟩⟩⟩⟩⟩⟩ (fun S f hi => by
     obtain ⟨c0, e0, r0⟩ := cells_vrep (t := TR.str) (u := (sv y273)) (e := y273) (VR.str S f hi)
     obtain ⟨c1, e1, r1⟩ := cells_vrep (t := TR.str) (u := (sv y275)) (e := y275) (VR.str S f hi)
     obtain ⟨c2, e2, r2⟩ := cells_vrep (t := TR.int) (u := .int .i64 y279) (e := y279) (VR.int S f hi)
     obtain ⟨c3, e3, r3⟩ := cells_vrep (t := TR.int) (u := .int .i64 y281) (e := y281) (VR.int S f hi)
     obtain ⟨c4, e4, r4⟩ := cells_vrep (t := TR.int) (u := .int .i64 y283) (e := y283) (VR.int S f hi)
     obtain ⟨c5, e5, r5⟩ := cells_vrep (t := TR.int) (u := .int .i64 y285) (e := y285) (VR.int S f hi)
     show TR.rep TrD S (List.flatten [((sv y273) : Value).cells.toList, ((sv y275) : Value).cells.toList, (.int .i64 y279 : Value).cells.toList, (.int .i64 y281 : Value).cells.toList, (.int .i64 y283 : Value).cells.toList, (.int .i64 y285 : Value).cells.toList]) _
     simp only [e0, e1, e2, e3, e4, e5,  List.flatten_cons, List.flatten_nil, List.append_nil]
     exact ⟨_, _, rfl, r0, ⟨_, _, rfl, r1, ⟨_, _, rfl, r2, ⟨_, _, rfl, r3, ⟨_, _, rfl, r4, r5⟩⟩⟩⟩⟩) ?_
   intro v287
   refine RL.ldSx (i := ((7 : Int)).toNat) (e' := y277) 4 Ex.str Tryz_ln9 rfl rfl rfl rfl SlOf.own (idx_some e278).2.2 Part.self ?_
   refine RL.finH ?_
   refine RL.fin ?_
   refine RA.next ?_
   refine RA.seq 19 rfl (by kernel_rfl) ?_
   obtain ⟨y288, e289, h254⟩ := bind_some h254
   refine RL.callU (vs := [v9, v287, (sv y277)]) (LR := fun (o : Value) => [own 86 TrA o y288.1]) (fun o => ⟨Loc.own (TR.flatT_pair TR.flatT_str (TR.flatT_pair TR.flatT_ik TR.flatT_ik)), trivial⟩) Tryz_fit77 rfl rfl rfl rfl rfl (fun U w hU hW hL => ledger_Take_c U w hU _ _ (hL 3 _ _ rfl Seen.own) _ _ (hL 7 _ _ rfl Seen.imm) y277 _ e289) ?_
   intro v290
   refine RL.fin ?_
   refine RA.next ?_
   refine RA.quiet 20 rfl rfl (by kernel_rfl) ?_
   simp only [List.drop_succ_cons, List.drop_zero]
   refine RL.mv rfl rfl rfl ?_
   refine RL.ext rfl rfl rfl rfl ?_
   refine RL.ext rfl rfl rfl rfl ?_
   refine RL.asg rfl rfl rfl ?_
   refine RL.finQ ?_
   refine RA.outQ ?_
   refine GL.weak (env' := [(0, v0), (2, v290), (14, v7), (15, .int .i64 ((y5).length : Int)), (16, .int .i64 (i149 : Int))]) (L' := [obox 45 TrH v0 (x0.1, (x0.2.1, u0a)), obox 55 TrL u0a x0.2.2, keep X, own 86 TrA v290 y288.1, own 9 TR.str v7 y5]) (fun a w st => St.cut [0, 1, 2, 8, 6] ⟨rfl, rfl, rfl, rfl, rfl, trivial⟩ (by decide) rfl st) ?_
   refine GL.nilB ?_
   refine GL.region ?_
   refine RL.binI (v := .int .i64 ((i149 + 1 : Nat) : Int)) rfl rfl rfl rfl (binI_succ i149 (by omega)) ?_
   refine RL.mv rfl rfl rfl ?_
   refine RL.fin ?_
   cases h254
   exact fun a w st => lop_intro (i149 + 1, r159, y288.1, v290) ⟨by show i149 + 1 + r159 = (y5).length; omega, h153⟩ (by simp) (St.cut [0, 1, 3, 4, 2] ⟨rfl, rfl, rfl, rfl, rfl, trivial⟩ (by decide) rfl st)
  have h158 : ¬ i149 < (y5).length := by have := of_decide_eq_false b157; omega
  obtain rfl : r150 = 0 := by omega
  replace h154 : some (Fl.nx _) = some y142 := h154
  cases h154
  exact GL.exit (fun a w st => mid_intro (l8, v9) h145 (St.cut [0, 1, 4, 2] ⟨rfl, rfl, trivial⟩ (by decide) rfl st))
 rintro ⟨l8, v9⟩ h291
 have h292 := h146 _ h291
 try dsimp only at h292
 refine GL.weak (env' := [(0, v0), (2, v9)]) (L' := [obox 45 TrH v0 (x0.1, (x0.2.1, u0a)), obox 55 TrL u0a x0.2.2, keep X, own 86 TrA v9 l8]) ss ?_
 refine GL.region ?_
 refine RL.mv rfl rfl rfl ?_
 refine RL.mv rfl rfl rfl ?_
 refine RL.mv rfl rfl rfl ?_
 refine RL.nilk 0 rfl rfl rfl rfl PtOf.obox ?_
 refine RL.fadr (off := 0) (fo := 0) 0 Tryz_fld45_0 rfl rfl rfl PtOf.obox (Or.inr ⟨rfl, rfl⟩) ?_
 refine RL.weak (fun a w st => st.freeze 3 rfl) ?_
 refine RL.stP (off := (0 + 0)) (e' := l8) (d1 := ((l8, x0.2).1, ((l8, x0.2).2.1, u0a))) (r := (TR.sl TrA)) 0 Tryz_ln42 rfl rfl (Or.inl rfl) rfl (VR.item 3 rfl) rfl (Upd.fst Upd.self) ?_
 refine RL.reL (L' := [obox 45 TrH v0 ((l8, x0.2).1, ((l8, x0.2).2.1, u0a)), obox 55 TrL u0a x0.2.2, keep X, imm (TR.sl TrA) v9 l8]) rfl ?_
 refine RL.nilk 0 rfl rfl rfl rfl PtOf.obox ?_
 refine RL.fadr (off := 0) (fo := 1) 0 Tryz_fld45_1 rfl rfl rfl PtOf.obox (Or.inr ⟨rfl, rfl⟩) ?_
 refine RL.stP (off := (0 + 1)) (e' := ([] : (List TyD))) (d1 := (((l8, x0.2).1, (([] : (List TyD)), (l8, x0.2).2.2)).1, (((l8, x0.2).1, (([] : (List TyD)), (l8, x0.2).2.2)).2.1, u0a))) (r := (TR.sl TrD)) 0 Tryz_ln43 rfl rfl (Or.inl rfl) rfl VR.nil rfl (Upd.snd (Upd.fst Upd.self)) ?_
 refine RL.reL (L' := [obox 45 TrH v0 (((l8, x0.2).1, (([] : (List TyD)), (l8, x0.2).2.2)).1, (((l8, x0.2).1, (([] : (List TyD)), (l8, x0.2).2.2)).2.1, u0a)), obox 55 TrL u0a x0.2.2, keep X, imm (TR.sl TrA) v9 l8]) rfl ?_
 refine RL.finG ?_
 have h292 := Option.some.inj h292
 subst h292
 exact GL.nil (Gx.retN (v := .tuple #[]) (res0 rfl) (fun a w st => (st.pick [0, 1, 2] (by decide) rfl).toPostM (V := fun (o : Unit) => .tuple #[]) (LR := fun (o : Unit) => [obox 45 TrH v0 ((l8, (([] : (List TyD)), x0.2.2)).1, ((l8, (([] : (List TyD)), x0.2.2)).2.1, u0a)), obox 55 TrL u0a ((l8, (([] : (List TyD)), x0.2.2)).2.2), keep X]) ()))

theorem slices_Delete_api_Deal_api_Deal_c (B : World) (S X : Hp) (f : Nat → Hp) (w : World) (v0 : Value) (x0 : List TyD) (hO : HeapOk B.heap.size S f [own 57 TrD v0 x0, keep X].length w) (hB : Below B.heap.size B w) (hI : Its [own 57 TrD v0 x0, keep X] S f) (x1 x2 : Int) (res : List TyD) (hm : slices_Delete_api_Deal_api_Deal_m x0 x1 x2 = some res) : Calls Tryz.prog 80 #[v0, .int .i64 x1, .int .i64 x2] w (PostM B S (fun (o : Value) => o) (fun (o : Value) => [own 57 TrD o res, keep X])) := by
  refine calls_enterM 33 Tryz.func80 Tryz.ntmps80 rfl B S f [(0, v0), (1, .int .i64 x1), (2, .int .i64 x2)] [own 57 TrD v0 x0, keep X] [] rfl ⟨rfl, rfl, rfl, trivial⟩ hB hO hI trivial ?_
  unfold slices_Delete_api_Deal_api_Deal_m at hm
  obtain ⟨_, hc, hm⟩ := bind_some hm
  replace hc := chk_some hc
  have hm := Option.some.inj hm
  subst hm
  obtain ⟨i, rfl⟩ : ∃ i : Nat, x1 = (i : Int) := ⟨x1.toNat, by omega⟩
  obtain ⟨j, rfl⟩ : ∃ j : Nat, x2 = (j : Int) := ⟨x2.toNat, by omega⟩
  simp only [Int.toNat_natCast]
  refine GL.capO 0 rfl (fun hcap hmax hrl hcr => ?_)
  repeat refine GL.seq ?_
  refine GL.region ?_
  refine RL.asg rfl rfl rfl ?_
  refine RL.finG ?_
  repeat refine GL.seq ?_
  refine GL.region ?_
  refine RL.mv rfl rfl rfl ?_
  refine RL.mv rfl rfl rfl ?_
  refine RL.mv rfl rfl rfl ?_
  refine RL.mv rfl rfl rfl ?_
  refine RL.lenS 0 Tryz.underlying43 rfl rfl rfl rfl SlOf.own ?_
  refine RL.cut3 (i := i) (j := j) (m := x0.length) 0 Tryz.underlying43 Tryz_ln57 rfl rfl rfl rfl rfl rfl rfl (by omega) (by omega) (by omega) ?_
  intro u
  refine RL.finG ?_
  repeat refine GL.seq ?_
  refine GL.region ?_
  refine RL.mv rfl rfl rfl ?_
  refine RL.mv rfl rfl rfl ?_
  refine RL.binI (v := .bool ((i : Int) == (j : Int))) rfl rfl rfl rfl rfl ?_
  refine RL.finG ?_
  repeat refine GL.seq ?_
  refine GL.cond rfl (fun h => ?_) (fun h => ?_)
  · have hij : i = j := by have := of_decide_eq_true (p := (i : Int) = (j : Int)) (by simpa using h); omega
    subst hij
    repeat refine GL.seq ?_
    refine GL.region ?_
    refine RL.mv rfl rfl rfl ?_
    refine RL.asg rfl rfl rfl ?_
    refine RL.finG ?_
    have hx : x0.take i ++ x0.drop i = x0 := List.take_append_drop _ _
    rw [hx]
    exact GL.ret (Gx.ret (v := v0) (res1 rfl rfl) (fun a w st => (st.pick [0, 1] (by decide) rfl).toPostM (LR := fun (o : Value) => [own 57 TrD o x0, keep X]) v0))
  · have hij : i ≠ j := fun e => by subst e; simp at h
    have hll : (x0.take i ++ x0.drop j).length = i + (x0.length - j) := by rw [List.length_append, List.length_take, List.length_drop]; omega
    refine GL.skip ?_
    repeat refine GL.seq ?_
    refine GL.region ?_
    refine RL.mv rfl rfl rfl ?_
    refine RL.lenS 0 Tryz.underlying43 rfl rfl rfl rfl SlOf.own ?_
    refine RL.asg rfl rfl rfl ?_
    refine RL.finG ?_
    repeat refine GL.seq ?_
    refine GL.regionH 6 rfl rfl (by kernel_rfl) ?_
    simp only [List.take_succ_cons, List.take_zero, List.drop_succ_cons, List.drop_zero]
    refine RL.mv rfl rfl rfl ?_
    refine RL.mv rfl rfl rfl ?_
    refine RL.cutO (i := 0) (j := i) 0 Tryz.underlying43 Tryz_ln57 rfl rfl rfl (Or.inl ⟨rfl, rfl⟩) (Or.inr ⟨_, _, rfl, rfl⟩) rfl (by omega) (by show i ≤ capv v0; omega) ?_
    refine RL.mv rfl rfl rfl ?_
    refine RL.mv rfl rfl rfl ?_
    refine RL.cutO (i := j) (j := x0.length) 0 Tryz.underlying43 Tryz_ln57 rfl rfl rfl (Or.inr ⟨_, _, rfl, rfl⟩) (Or.inl ⟨rfl, rfl⟩) rfl (by omega) hcap ?_
    refine RL.finH ?_
    refine RL.del (i := i) (j := j) 0 Tryz.underlying43 Tryz_lo57 rfl rfl rfl rfl rfl rfl (by omega) (by omega) ?_
    refine RL.asg rfl rfl rfl ?_
    refine RL.finG ?_
    repeat refine GL.seq ?_
    refine GL.region ?_
    refine RL.mv rfl rfl rfl ?_
    refine RL.mv rfl rfl rfl ?_
    refine RL.lenS 0 Tryz.underlying43 rfl rfl rfl rfl SlOf.own ?_
    refine RL.mv rfl rfl rfl ?_
    refine RL.cutO (i := (x0.take i ++ x0.drop j).length) (j := x0.length) 0 Tryz.underlying43 Tryz_ln57 rfl rfl rfl (Or.inr ⟨_, _, rfl, rfl⟩) (Or.inr ⟨_, _, rfl, rfl⟩) rfl (by omega) (by rw [hcr]; exact hcap) ?_
    refine RL.clr (j := x0.length) 0 Tryz.underlying43 Tryz_lo57 (by decide) rfl rfl rfl rfl (by omega) (by rw [hcr]; exact hcap) ?_
    refine RL.finG ?_
    repeat refine GL.seq ?_
    refine GL.region ?_
    refine RL.mv rfl rfl rfl ?_
    refine RL.asg rfl rfl rfl ?_
    refine RL.finG ?_
    exact GL.ret (Gx.ret (v := relen v0 (i + (x0.length - j))) (res1 rfl rfl) (fun a w st => (st.pick [0, 1] (by decide) rfl).toPostM (LR := fun (o : Value) => [own 57 TrD o (x0.take i ++ x0.drop j), keep X]) (relen v0 (i + (x0.length - j)))))

theorem queue_Drop_c (S : Hp) (w : World) (hS : S.sub w) (v0 : Value) (x0 : (List TyD)) (k0 : ((TR.sl TrD)).vrep S v0 x0) (x1 : B8) (x2 : Int) (res : (List TyD) × Int) (hm : queue_Drop_m x0 x1 x2 = some res) : Calls Tryz.prog 49 #[v0, (sv x1), .int .i64 x2] w (Post w S (fun (o : Value) => .tuple #[o, .int .i64 res.2]) (fun (o : Value) => [own 57 TrD o res.1])) := by
 refine calls_enter 27 Tryz.func49 Tryz.ntmps49 rfl S false [(0, v0), (1, (sv x1)), (2, .int .i64 x2)] [imm (TR.sl TrD) v0 x0] rfl ⟨rfl, ⟨rfl, ⟨rfl, trivial⟩⟩⟩ hS ⟨k0, trivial⟩ ?_
 unfold queue_Drop_m at hm
 refine GL.seq ?_
 refine GL.region ?_
 refine RL.asg rfl rfl rfl ?_
 refine RL.asg rfl rfl rfl ?_
 refine RL.finG ?_
 refine GL.seq ?_
 refine GL.seq ?_
 refine GL.region ?_
 refine RL.mv rfl rfl rfl ?_
 obtain ⟨y6, e7, hm⟩ := bind_some hm
 refine RL.callV (v := .int .i64 y6) (vs := [v0]) Tryz_fit66 rfl (Or.inl rfl) rfl rfl rfl rfl (fun U w hU hW hL => queue_Check_c U w hU _ _ (hL 0 _ _ rfl Seen.imm) _ e7) ?_
 refine RL.asg rfl rfl rfl ?_
 refine RL.finG ?_
 refine GL.seq ?_
 refine GL.region ?_
 refine RL.mv rfl rfl rfl ?_
 refine RL.binI (v := .bool (y6 != (0 : Int))) rfl rfl rfl rfl rfl ?_
 refine RL.finG ?_
 refine GL.cond rfl (fun b8 => ?_) (fun b8 => ?_)
 ·replace hm := ite_t b8 hm
  refine GL.seq ?_
  refine GL.region ?_
  refine RL.mv rfl rfl rfl ?_
  refine RL.asg rfl rfl rfl ?_
  refine RL.asg rfl rfl rfl ?_
  refine RL.finG ?_
  refine GL.weak (fun a w st => st.nilOwn 57 TrD) ?_
  have hm := Option.some.inj hm
  subst hm
  exact GL.ret (Gx.ret (v := .tuple #[Value.slice none 0 0, .int .i64 y6]) (res2 rfl rfl rfl) (fun a w st => (st.pick [1] (by decide) rfl).toPost (Value.slice none 0 0)))
 replace hm := ite_f b8 hm
 refine GL.skip ?_
 refine GL.seq ?_
 refine GL.region ?_
 refine RL.mv rfl rfl rfl ?_
 refine RL.mv rfl rfl rfl ?_
 refine RL.mv rfl rfl rfl ?_
 obtain ⟨y11, e12, hm⟩ := bind_some hm
 refine RL.callV (v := .int .i64 y11) (vs := [v0, (sv x1), .int .i64 x2]) Tryz_fit68 rfl (Or.inl rfl) rfl rfl rfl rfl (fun U w hU hW hL => queue_find_c U w hU _ _ (hL 0 _ _ rfl Seen.imm) x1 x2 _ e12) ?_
 refine RL.asg rfl rfl rfl ?_
 refine RL.finG ?_
 refine GL.seq ?_
 refine GL.seq ?_
 refine GL.region ?_
 refine RL.mv rfl rfl rfl ?_
 refine RL.binI (v := .bool (decide (y11 < (0 : Int)))) rfl rfl rfl rfl rfl ?_
 refine RL.finG ?_
 refine GL.cond rfl (fun b13 => ?_) (fun b13 => ?_)
 ·replace hm := ite_t b13 hm
  refine GL.seq ?_
  refine GL.region ?_
  refine RL.asg rfl rfl rfl ?_
  refine RL.asg rfl rfl rfl ?_
  refine RL.finG ?_
  refine GL.weak (fun a w st => st.nilOwn 57 TrD) ?_
  have hm := Option.some.inj hm
  subst hm
  exact GL.ret (Gx.ret (v := .tuple #[Value.slice none 0 0, .int .i64 (4 : Int)]) (res2 rfl rfl rfl) (fun a w st => (st.pick [1] (by decide) rfl).toPost (Value.slice none 0 0)))
 replace hm := ite_f b13 hm
 refine GL.skip ?_
 refine GL.seq ?_
 refine GL.region ?_
 refine RL.mv rfl rfl rfl ?_
 obtain ⟨y20, e21, hm⟩ := bind_some hm
 refine RL.call (vs := [v0]) Tryz_fit69 rfl rfl rfl rfl rfl (fun S f w hS hW hi => slices_Clone_api_Deal_api_Deal_c S w hS _ _ (hi 0 _ rfl) _ e21) ?_
 intro v22
 refine RL.mv rfl rfl rfl ?_
 refine RL.mv rfl rfl rfl ?_
 refine RL.binI (v := .int .i64 (wadd y11 (1 : Int))) rfl rfl rfl rfl rfl ?_
 obtain ⟨y23, e24, hm⟩ := bind_some hm
 refine RL.callK (vs := [v22, .int .i64 y11, .int .i64 (wadd y11 (1 : Int))]) (V := fun (o : Value) => o) (LR := fun (o : Value) => [own 57 TrD o y23]) (Ls := [own 57 TrD v22 y20]) [1] (by decide) Tryz_fit80 rfl rfl rfl rfl rfl rfl (fun S f X w hO hB hW hI hL => slices_Delete_api_Deal_api_Deal_c _ S X f w _ _  hO hB hI y11 (wadd y11 (1 : Int)) _ e24) ?_
 intro v25
 refine RL.reL (L' := [imm (TR.sl TrD) v0 x0, gone, own 57 TrD v25 y23]) rfl ?_
 refine RL.asg rfl rfl rfl ?_
 refine RL.asg rfl rfl rfl ?_
 refine RL.finG ?_
 have hm := Option.some.inj hm
 subst hm
 exact GL.ret (Gx.ret (v := .tuple #[v25, .int .i64 (0 : Int)]) (res2 rfl rfl rfl) (fun a w st => (st.pick [2] (by decide) rfl).toPost v25))

theorem house_House_Do_c (B : World) (S X : Hp) (f : Nat → Hp) (w : World) (v0 : Value) (u0a : Value) (x0 : TyH) (hO : HeapOk B.heap.size S f [obox 45 TrH v0 (x0.1, (x0.2.1, u0a)), obox 55 TrL u0a x0.2.2, keep X].length w) (hB : Below B.heap.size B w) (hI : Its [obox 45 TrH v0 (x0.1, (x0.2.1, u0a)), obox 55 TrL u0a x0.2.2, keep X] S f) (hT : Tab Tryz.prog (Tryz.lays146_ren.g 1) S) (v1 : Value) (x1 : TyE) (k1 : (TrE).vrep S v1 x1) (res : (Int × Int) × Int × TyH) (hm : house_House_Do_m x0 x1 = some res) : Calls Tryz.prog 28 #[v0, v1] w (PostM B S (fun (o : Value) => .tuple #[o, .int .i64 res.2.1]) (fun (o : Value) => [obox 45 TrH v0 (res.2.2.1, (res.2.2.2.1, u0a)), obox 55 TrL u0a res.2.2.2.2, imm (TR.pair TR.int TR.int) o res.1, keep X])) := by
 refine calls_enterM 124 Tryz.func28 Tryz.ntmps28 rfl B S f [(0, v0), (1, v1)] [obox 45 TrH v0 (x0.1, (x0.2.1, u0a)), obox 55 TrL u0a x0.2.2, keep X] [imm TrE v1 x1] rfl ⟨rfl, ⟨rfl, trivial⟩⟩ hB hO hI ⟨k1, trivial⟩ ?_
 unfold house_House_Do_m at hm
 refine GL.seq ?_
 refine GL.region ?_
 refine RL.box (t := TrE) (e := x1) rfl rfl rfl rfl (VR.item 3 rfl) ?_
 intro v5
 refine RL.alloc (t := (TR.pair TR.int TR.int)) (z := ((0 : Int), (0 : Int))) Tryz_lo64 (fun S => ⟨[.int .i64 0], _, rfl, rfl, rfl⟩) rfl rfl rfl ?_
 intro v6
 refine RL.reL (L' := [obox 45 TrH v0 (x0.1, (x0.2.1, u0a)), obox 55 TrL u0a x0.2.2, keep X, imm TrE v1 x1, obox 59 TrE v5 x1, obox 64 (TR.pair TR.int TR.int) v6 ((0 : Int), (0 : Int))]) rfl ?_
 refine RL.asg rfl rfl rfl ?_
 refine RL.finG ?_
 refine GL.seq ?_
 refine GL.region ?_
 refine RL.bld (t := (TR.pair TR.int TR.int)) (d0 := (((0 : Int), (0 : Int)) : (Int × Int))) (pv := []) rfl Tryz_bld64 rfl rfl rfl trivial (fun S f hi => by
   show TR.rep (TR.pair TR.int TR.int) S (List.flatten [[.int .i64 0], [.int .i64 0]]) _
   simp only [ List.flatten_cons, List.flatten_nil, List.append_nil]
   exact ⟨_, _, rfl, rfl, rfl⟩) ?_
 intro v9
 refine RL.alloc (t := (TR.pair TR.int TR.int)) (z := ((0 : Int), (0 : Int))) Tryz_lo64 (fun S => ⟨[.int .i64 0], _, rfl, rfl, rfl⟩) rfl rfl rfl ?_
 intro v10
 refine RL.reL (L' := [obox 45 TrH v0 (x0.1, (x0.2.1, u0a)), obox 55 TrL u0a x0.2.2, keep X, imm TrE v1 x1, obox 59 TrE v5 x1, obox 64 (TR.pair TR.int TR.int) v6 ((0 : Int), (0 : Int)), imm (TR.pair TR.int TR.int) v9 (((0 : Int), (0 : Int)) : (Int × Int)), obox 64 (TR.pair TR.int TR.int) v10 ((0 : Int), (0 : Int))]) rfl ?_
 refine RL.stP (off := 0) (e' := (((0 : Int), (0 : Int)) : (Int × Int))) (d1 := (((0 : Int), (0 : Int)) : (Int × Int))) (r := (TR.pair TR.int TR.int)) 7 Tryz_ln64 rfl rfl (Or.inr ⟨rfl, rfl⟩) rfl (VR.item 6 rfl) rfl Upd.self ?_
 refine RL.finG ?_
 refine GL.seq ?_
 refine GL.seq ?_
 refine GL.region ?_
 refine RL.fadr (off := 0) (fo := 0) 4 Tryz_fld59_0 rfl rfl rfl PtOf.obox (Or.inr ⟨rfl, rfl⟩) ?_
 refine RL.ldPx (off := (0 + 0)) (e' := x1.1) 4 Ex.ik Tryz_ln3 rfl rfl (Or.inl rfl) rfl PtOf.obox (Part.fst Part.self) ?_
 refine RL.finG ?_
 refine GL.block ?_
 refine GL.seq ?_
 refine GL.region ?_
 refine RL.binI (v := .bool (x1.1 == (1 : Int))) rfl rfl rfl rfl rfl ?_
 refine RL.asg rfl rfl rfl ?_
 refine RL.finG ?_
 refine GL.cond rfl (fun b11 => ?_) (fun b11 => ?_)
 ·replace hm := ite_t b11 hm
  refine GL.seq ?_
  refine GL.regionA rfl rfl ?_
  refine RA.mv 1 rfl (by kernel_rfl) rfl rfl rfl ?_
  obtain ⟨y31, e32, hm⟩ := bind_some hm
  refine RA.meet (ι := Value) (fun (p : Value) => [(4, v6), (18, p), (21, .int .i64 y31.1)]) (fun (p : Value) => [keep X, obox 45 TrH v0 (y31.2.1, (y31.2.2.1, u0a)), obox 55 TrL u0a y31.2.2.2, obox 64 (TR.pair TR.int TR.int) v6 ((0 : Int), (0 : Int)), imm (TR.pair TR.int TR.int) p (((0 : Int), (0 : Int)) : (Int × Int))]) 2 q_91 (fun h36 => ?_) ?_
  ·skip
   refine RA.meet (ι := Value × Value) (fun (p : Value × Value) => [(4, v6), (18, p.1), (19, v0), (20, p.2)]) (fun (p : Value × Value) => [obox 45 TrH v0 (x0.1, (x0.2.1, u0a)), obox 55 TrL u0a x0.2.2, keep X, obox 64 (TR.pair TR.int TR.int) v6 ((0 : Int), (0 : Int)), imm (TR.pair TR.int TR.int) p.1 (((0 : Int), (0 : Int)) : (Int × Int)), imm TrE p.2 x1]) 3 q_92 (fun h37 => ?_) ?_
   rotate_left
   ·rintro ⟨v35, v34⟩
    refine RA.weak (env' := [(4, v6), (18, v35), (19, v0), (20, v34)]) (L' := [obox 45 TrH v0 (x0.1, (x0.2.1, u0a)), obox 55 TrL u0a x0.2.2, keep X, obox 64 (TR.pair TR.int TR.int) v6 ((0 : Int), (0 : Int)), imm (TR.pair TR.int TR.int) v35 (((0 : Int), (0 : Int)) : (Int × Int)), imm TrE v34 x1]) ss ?_
    refine RA.seq 3 rfl (by kernel_rfl) ?_
    refine RL.callK (vs := [v0, v34]) (V := fun (o : Unit) => .int .i64 y31.1) (LR := fun (o : Unit) => [obox 45 TrH v0 (y31.2.1, (y31.2.2.1, u0a)), obox 55 TrL u0a y31.2.2.2]) (Ls := [obox 45 TrH v0 (x0.1, (x0.2.1, u0a)), obox 55 TrL u0a x0.2.2]) [0, 1] (by decide) Tryz_fit42 rfl rfl rfl rfl rfl rfl (fun S f X w hO hB hW hI hL => house_House_open_c _ S X f w _ _ x0  hO hB hI (hT.mono hW) _ _ (hL 5 _ _ rfl Sure.imm) _ e32) ?_
    intro _
    refine RL.fin ?_
    refine RA.next ?_
    refine RA.relist 2 q_91 rfl (by kernel_rfl) ?_
    exact fun a w st => h36 v35 a w (St.cut [2, 6, 7, 3, 4] ⟨rfl, rfl, rfl, trivial⟩ (by decide) rfl st)
   refine RA.meet (ι := Unit) (fun (p : Unit) => [(4, v6), (6, v10), (21, .int .i64 y31.1)]) (fun (p : Unit) => [keep X, obox 45 TrH v0 (y31.2.1, (y31.2.2.1, u0a)), obox 55 TrL u0a y31.2.2.2, obox 64 (TR.pair TR.int TR.int) v6 ((0 : Int), (0 : Int)), obox 64 (TR.pair TR.int TR.int) v10 (((0 : Int), (0 : Int)) : (Int × Int))]) 3 q_93 (fun h38 => ?_) ?_
   rotate_left
   ·rintro ⟨⟩
    refine RA.weak (env' := [(4, v6), (6, v10), (21, .int .i64 y31.1)]) (L' := [keep X, obox 45 TrH v0 (y31.2.1, (y31.2.2.1, u0a)), obox 55 TrL u0a y31.2.2.2, obox 64 (TR.pair TR.int TR.int) v6 ((0 : Int), (0 : Int)), obox 64 (TR.pair TR.int TR.int) v10 (((0 : Int), (0 : Int)) : (Int × Int))]) ss ?_
    refine RA.seq 0 rfl (by kernel_rfl) ?_
    refine RL.ldP (off := 0) (r := (TR.pair TR.int TR.int)) (e' := (((0 : Int), (0 : Int)) : (Int × Int))) 4 Tryz_ln64 rfl rfl (Or.inr ⟨rfl, rfl⟩) rfl PtOf.obox Part.self ?_
    intro v45
    refine RL.fin ?_
    refine RA.next ?_
    refine RA.relist 2 q_91 rfl (by kernel_rfl) ?_
    exact fun a w st => h36 v45 a w (St.cut [0, 1, 2, 3, 5] ⟨rfl, rfl, rfl, trivial⟩ (by decide) rfl st)
   refine RA.meet (ι := Value) (fun (p : Value) => [(4, v6), (6, v10), (19, v0), (20, p)]) (fun (p : Value) => [obox 45 TrH v0 (x0.1, (x0.2.1, u0a)), obox 55 TrL u0a x0.2.2, keep X, obox 64 (TR.pair TR.int TR.int) v6 ((0 : Int), (0 : Int)), obox 64 (TR.pair TR.int TR.int) v10 (((0 : Int), (0 : Int)) : (Int × Int)), imm TrE p x1]) 4 q_94 (fun h39 => ?_) ?_
   rotate_left
   ·rintro v34
    refine RA.weak (env' := [(4, v6), (6, v10), (19, v0), (20, v34)]) (L' := [obox 45 TrH v0 (x0.1, (x0.2.1, u0a)), obox 55 TrL u0a x0.2.2, keep X, obox 64 (TR.pair TR.int TR.int) v6 ((0 : Int), (0 : Int)), obox 64 (TR.pair TR.int TR.int) v10 (((0 : Int), (0 : Int)) : (Int × Int)), imm TrE v34 x1]) ss ?_
    refine RA.many [0, 3] (by kernel_rfl) ⟨⟨_, rfl, ?_⟩, ⟨_, rfl, ?_⟩, trivial⟩
    ·skip
     refine RL.ldP (off := 0) (r := (TR.pair TR.int TR.int)) (e' := (((0 : Int), (0 : Int)) : (Int × Int))) 4 Tryz_ln64 rfl rfl (Or.inr ⟨rfl, rfl⟩) rfl PtOf.obox Part.self ?_
     intro v44
     refine RL.fin ?_
     refine RA.next ?_
     refine RA.relist 3 q_92 rfl (by kernel_rfl) ?_
     exact fun a w st => h37 (v44, v34) a w (St.cut [0, 1, 2, 3, 6, 5] ⟨rfl, rfl, rfl, rfl, trivial⟩ (by decide) rfl st)
    refine RL.callK (vs := [v0, v34]) (V := fun (o : Unit) => .int .i64 y31.1) (LR := fun (o : Unit) => [obox 45 TrH v0 (y31.2.1, (y31.2.2.1, u0a)), obox 55 TrL u0a y31.2.2.2]) (Ls := [obox 45 TrH v0 (x0.1, (x0.2.1, u0a)), obox 55 TrL u0a x0.2.2]) [0, 1] (by decide) Tryz_fit42 rfl rfl rfl rfl rfl rfl (fun S f X w hO hB hW hI hL => house_House_open_c _ S X f w _ _ x0  hO hB hI (hT.mono hW) _ _ (hL 5 _ _ rfl Sure.imm) _ e32) ?_
    intro _
    refine RL.fin ?_
    refine RA.next ?_
    refine RA.relist 3 q_93 rfl (by kernel_rfl) ?_
    exact fun a w st => h38 () a w (St.cut [2, 6, 7, 3, 4] ⟨rfl, rfl, rfl, trivial⟩ (by decide) rfl st)
   refine RA.meet (ι := Value) (fun (p : Value) => [(3, v5), (4, v6), (18, p), (19, v0)]) (fun (p : Value) => [obox 45 TrH v0 (x0.1, (x0.2.1, u0a)), obox 55 TrL u0a x0.2.2, keep X, obox 59 TrE v5 x1, obox 64 (TR.pair TR.int TR.int) v6 ((0 : Int), (0 : Int)), imm (TR.pair TR.int TR.int) p (((0 : Int), (0 : Int)) : (Int × Int))]) 4 q_95 (fun h40 => ?_) ?_
   rotate_left
   ·rintro v33
    refine RA.weak (env' := [(3, v5), (4, v6), (18, v33), (19, v0)]) (L' := [obox 45 TrH v0 (x0.1, (x0.2.1, u0a)), obox 55 TrL u0a x0.2.2, keep X, obox 59 TrE v5 x1, obox 64 (TR.pair TR.int TR.int) v6 ((0 : Int), (0 : Int)), imm (TR.pair TR.int TR.int) v33 (((0 : Int), (0 : Int)) : (Int × Int))]) ss ?_
    refine RA.seq 2 rfl (by kernel_rfl) ?_
    refine RL.ldP (off := 0) (r := TrE) (e' := x1) 3 Tryz_ln59 rfl rfl (Or.inr ⟨rfl, rfl⟩) rfl PtOf.obox Part.self ?_
    intro v43
    refine RL.fin ?_
    refine RA.next ?_
    refine RA.relist 3 q_92 rfl (by kernel_rfl) ?_
    exact fun a w st => h37 (v33, v43) a w (St.cut [0, 1, 2, 4, 5, 6] ⟨rfl, rfl, rfl, rfl, trivial⟩ (by decide) rfl st)
   refine RA.many [0, 2] (by kernel_rfl) ⟨⟨_, rfl, ?_⟩, ⟨_, rfl, ?_⟩, trivial⟩
   ·skip
    refine RL.ldP (off := 0) (r := (TR.pair TR.int TR.int)) (e' := (((0 : Int), (0 : Int)) : (Int × Int))) 7 Tryz_ln64 rfl rfl (Or.inr ⟨rfl, rfl⟩) rfl PtOf.obox Part.self ?_
    intro v41
    refine RL.fin ?_
    refine RA.next ?_
    refine RA.relist 4 q_95 rfl (by kernel_rfl) ?_
    exact fun a w st => h40 v41 a w (St.cut [0, 1, 2, 4, 5, 8] ⟨rfl, rfl, rfl, rfl, trivial⟩ (by decide) rfl st)
   refine RL.ldP (off := 0) (r := TrE) (e' := x1) 4 Tryz_ln59 rfl rfl (Or.inr ⟨rfl, rfl⟩) rfl PtOf.obox Part.self ?_
   intro v42
   refine RL.fin ?_
   refine RA.next ?_
   refine RA.relist 4 q_94 rfl (by kernel_rfl) ?_
   exact fun a w st => h39 v42 a w (St.cut [0, 1, 2, 5, 7, 8] ⟨rfl, rfl, rfl, rfl, trivial⟩ (by decide) rfl st)
  rintro v35
  refine RA.weak (env' := [(4, v6), (18, v35), (21, .int .i64 y31.1)]) (L' := [keep X, obox 45 TrH v0 (y31.2.1, (y31.2.2.1, u0a)), obox 55 TrL u0a y31.2.2.2, obox 64 (TR.pair TR.int TR.int) v6 ((0 : Int), (0 : Int)), imm (TR.pair TR.int TR.int) v35 (((0 : Int), (0 : Int)) : (Int × Int))]) ss ?_
  refine RA.seq 4 rfl (by kernel_rfl) ?_
  refine RL.stP (off := 0) (e' := (((0 : Int), (0 : Int)) : (Int × Int))) (d1 := (((0 : Int), (0 : Int)) : (Int × Int))) (r := (TR.pair TR.int TR.int)) 3 Tryz_ln64 rfl rfl (Or.inr ⟨rfl, rfl⟩) rfl (VR.item 4 rfl) rfl Upd.self ?_
  refine RL.fin ?_
  refine RA.next ?_
  refine RA.quiet 5 rfl rfl (by kernel_rfl) ?_
  simp only [List.drop_succ_cons, List.drop_zero]
  refine RL.asg rfl rfl rfl ?_
  refine RL.finQ ?_
  refine RA.outQ ?_
  refine GL.weak (env' := [(4, v6), (5, .int .i64 y31.1)]) (L' := [keep X, obox 45 TrH v0 (y31.2.1, (y31.2.2.1, u0a)), obox 55 TrL u0a y31.2.2.2, obox 64 (TR.pair TR.int TR.int) v6 (((0 : Int), (0 : Int)) : (Int × Int))]) (fun a w st => St.cut [0, 1, 2, 3] ⟨rfl, rfl, trivial⟩ (by decide) rfl st) ?_
  have hm := Option.some.inj hm
  subst hm
  exact GL.ret (Gx.retX [.cell 4 64, .tmp 5] rfl (fun a w st => by
    have st0 := st
    obtain ⟨u46, hu46, st⟩ := st.cellRes (p := 4) (T := 64) 3 Tryz_ln64 rfl rfl rfl
    exact ⟨[u46, .int .i64 y31.1], ⟨hu46, ⟨(ResTmp st0.env rfl), trivial⟩⟩, (st.pick [1, 2, 4, 0] (by decide) rfl).toPostM (V := fun (o : Value) => .tuple #[o, .int .i64 (((((0 : Int), (0 : Int)) : (Int × Int)), y31.1, y31.2).2.1)]) (LR := fun (o : Value) => [obox 45 TrH v0 ((((((0 : Int), (0 : Int)) : (Int × Int)), y31.1, y31.2).2.2).1, ((((((0 : Int), (0 : Int)) : (Int × Int)), y31.1, y31.2).2.2).2.1, u0a)), obox 55 TrL u0a ((((((0 : Int), (0 : Int)) : (Int × Int)), y31.1, y31.2).2.2).2.2), imm (TR.pair TR.int TR.int) o (((((0 : Int), (0 : Int)) : (Int × Int)), y31.1, y31.2).1), keep X]) u46⟩))
 replace hm := ite_f b11 hm
 refine GL.seq ?_
 refine GL.region ?_
 refine RL.binI (v := .bool (x1.1 == (2 : Int))) rfl rfl rfl rfl rfl ?_
 refine RL.asg rfl rfl rfl ?_
 refine RL.finG ?_
 refine GL.cond rfl (fun b47 => ?_) (fun b47 => ?_)
 ·replace hm := ite_t b47 hm
  refine GL.seq ?_
  refine GL.regionA rfl rfl ?_
  refine RA.mv 0 rfl (by kernel_rfl) rfl rfl rfl ?_
  refine RA.still (le := q_96) (f := 6) [1, 2, 3, 4, 5] 6 rfl (by kernel_rfl) ?_
  simp only [pickOps, List.getElem?_toArray, List.getElem?_cons_succ, List.getElem?_cons_zero]
  refine RL.nilk 0 rfl rfl rfl rfl PtOf.obox ?_
  refine RL.fadr (off := 0) (fo := 1) 0 Tryz_fld45_1 rfl rfl rfl PtOf.obox (Or.inr ⟨rfl, rfl⟩) ?_
  refine RL.ldP (off := (0 + 1)) (r := (TR.sl TrD)) (e' := x0.2.1) 0 Tryz_ln43 rfl rfl (Or.inl rfl) rfl PtOf.obox (Part.snd (Part.fst Part.self)) ?_
  intro v53
  refine RL.fadr (off := 0) (fo := 3) 4 Tryz_fld59_3 rfl rfl rfl PtOf.obox (Or.inr ⟨rfl, rfl⟩) ?_
  refine RL.ldP (off := (0 + 3)) (r := TrD) (e' := x1.2.2.2) 4 Tryz_ln57 rfl rfl (Or.inl rfl) rfl PtOf.obox (Part.snd (Part.snd (Part.snd Part.self))) ?_
  intro v54
  refine RL.finH ?_
  refine RL.fin ?_
  refine RA.next ?_
  refine RA.seq 6 rfl (by kernel_rfl) ?_
  obtain ⟨y55, e56, hm⟩ := bind_some hm
  refine RL.call (vs := [v53, v54]) Tryz_fit43 rfl rfl rfl rfl rfl (fun S f w hS hW hi => queue_Add_c S w hS _ _ (hi 8 _ rfl) _ _ (hi 9 _ rfl) _ e56) ?_
  intro v57
  refine RL.fin ?_
  refine RA.next ?_
  refine RA.quiet 7 rfl rfl (by kernel_rfl) ?_
  simp only [List.drop_succ_cons, List.drop_zero]
  refine RL.mv rfl rfl rfl ?_
  refine RL.ext rfl rfl rfl rfl ?_
  refine RL.ext rfl rfl rfl rfl ?_
  refine RL.asg rfl rfl rfl ?_
  refine RL.asg rfl rfl rfl ?_
  refine RL.finQ ?_
  refine RA.outQ ?_
  refine GL.weak (env' := [(0, v0), (4, v6), (6, v10), (7, v57), (8, .int .i64 y55.2)]) (L' := [obox 45 TrH v0 (x0.1, (x0.2.1, u0a)), obox 55 TrL u0a x0.2.2, keep X, obox 64 (TR.pair TR.int TR.int) v6 ((0 : Int), (0 : Int)), obox 64 (TR.pair TR.int TR.int) v10 (((0 : Int), (0 : Int)) : (Int × Int)), own 57 TrD v57 y55.1]) (fun a w st => St.cut [0, 1, 2, 5, 7, 10] ⟨rfl, rfl, rfl, rfl, rfl, trivial⟩ (by decide) rfl st) ?_
  refine GL.seq ?_
  refine GL.seq ?_
  refine GL.region ?_
  refine RL.mv rfl rfl rfl ?_
  refine RL.binI (v := .bool (y55.2 != (0 : Int))) rfl rfl rfl rfl rfl ?_
  refine RL.finG ?_
  refine GL.cond rfl (fun b58 => ?_) (fun b58 => ?_)
  ·replace hm := ite_t b58 hm
   refine GL.seq ?_
   refine GL.region ?_
   refine RL.ldP (off := 0) (r := (TR.pair TR.int TR.int)) (e' := (((0 : Int), (0 : Int)) : (Int × Int))) 4 Tryz_ln64 rfl rfl (Or.inr ⟨rfl, rfl⟩) rfl PtOf.obox Part.self ?_
   intro v60
   refine RL.mv rfl rfl rfl ?_
   refine RL.stP (off := 0) (e' := (((0 : Int), (0 : Int)) : (Int × Int))) (d1 := (((0 : Int), (0 : Int)) : (Int × Int))) (r := (TR.pair TR.int TR.int)) 3 Tryz_ln64 rfl rfl (Or.inr ⟨rfl, rfl⟩) rfl (VR.item 6 rfl) rfl Upd.self ?_
   refine RL.reL (L' := [obox 45 TrH v0 (x0.1, (x0.2.1, u0a)), obox 55 TrL u0a x0.2.2, keep X, obox 64 (TR.pair TR.int TR.int) v6 (((0 : Int), (0 : Int)) : (Int × Int)), obox 64 (TR.pair TR.int TR.int) v10 (((0 : Int), (0 : Int)) : (Int × Int)), own 57 TrD v57 y55.1, imm (TR.pair TR.int TR.int) v60 (((0 : Int), (0 : Int)) : (Int × Int))]) rfl ?_
   refine RL.asg rfl rfl rfl ?_
   refine RL.finG ?_
   have hm := Option.some.inj hm
   subst hm
   exact GL.ret (Gx.retX [.cell 4 64, .tmp 5] rfl (fun a w st => by
     have st0 := st
     obtain ⟨u61, hu61, st⟩ := st.cellRes (p := 4) (T := 64) 3 Tryz_ln64 rfl rfl rfl
     exact ⟨[u61, .int .i64 y55.2], ⟨hu61, ⟨(ResTmp st0.env rfl), trivial⟩⟩, (st.pick [0, 1, 7, 2] (by decide) rfl).toPostM (V := fun (o : Value) => .tuple #[o, .int .i64 (((((0 : Int), (0 : Int)) : (Int × Int)), y55.2, x0).2.1)]) (LR := fun (o : Value) => [obox 45 TrH v0 ((((((0 : Int), (0 : Int)) : (Int × Int)), y55.2, x0).2.2).1, ((((((0 : Int), (0 : Int)) : (Int × Int)), y55.2, x0).2.2).2.1, u0a)), obox 55 TrL u0a ((((((0 : Int), (0 : Int)) : (Int × Int)), y55.2, x0).2.2).2.2), imm (TR.pair TR.int TR.int) o (((((0 : Int), (0 : Int)) : (Int × Int)), y55.2, x0).1), keep X]) u61⟩))
  replace hm := ite_f b58 hm
  refine GL.skip ?_
  refine GL.seq ?_
  refine GL.region ?_
  refine RL.mv rfl rfl rfl ?_
  refine RL.mv rfl rfl rfl ?_
  refine RL.nilk 0 rfl rfl rfl rfl PtOf.obox ?_
  refine RL.fadr (off := 0) (fo := 1) 0 Tryz_fld45_1 rfl rfl rfl PtOf.obox (Or.inr ⟨rfl, rfl⟩) ?_
  refine RL.weak (fun a w st => st.freeze 5 rfl) ?_
  refine RL.stP (off := (0 + 1)) (e' := y55.1) (d1 := ((x0.1, (y55.1, x0.2.2)).1, ((x0.1, (y55.1, x0.2.2)).2.1, u0a))) (r := (TR.sl TrD)) 0 Tryz_ln43 rfl rfl (Or.inl rfl) rfl (VR.item 5 rfl) rfl (Upd.snd (Upd.fst Upd.self)) ?_
  refine RL.reL (L' := [obox 45 TrH v0 ((x0.1, (y55.1, x0.2.2)).1, ((x0.1, (y55.1, x0.2.2)).2.1, u0a)), obox 55 TrL u0a x0.2.2, keep X, obox 64 (TR.pair TR.int TR.int) v6 ((0 : Int), (0 : Int)), obox 64 (TR.pair TR.int TR.int) v10 (((0 : Int), (0 : Int)) : (Int × Int)), imm (TR.sl TrD) v57 y55.1]) rfl ?_
  refine RL.finG ?_
  refine GL.seq ?_
  refine GL.region ?_
  refine RL.ldP (off := 0) (r := (TR.pair TR.int TR.int)) (e' := (((0 : Int), (0 : Int)) : (Int × Int))) 4 Tryz_ln64 rfl rfl (Or.inr ⟨rfl, rfl⟩) rfl PtOf.obox Part.self ?_
  intro v63
  refine RL.stP (off := 0) (e' := (((0 : Int), (0 : Int)) : (Int × Int))) (d1 := (((0 : Int), (0 : Int)) : (Int × Int))) (r := (TR.pair TR.int TR.int)) 3 Tryz_ln64 rfl rfl (Or.inr ⟨rfl, rfl⟩) rfl (VR.item 6 rfl) rfl Upd.self ?_
  refine RL.reL (L' := [obox 45 TrH v0 ((x0.1, (y55.1, x0.2.2)).1, ((x0.1, (y55.1, x0.2.2)).2.1, u0a)), obox 55 TrL u0a x0.2.2, keep X, obox 64 (TR.pair TR.int TR.int) v6 (((0 : Int), (0 : Int)) : (Int × Int)), obox 64 (TR.pair TR.int TR.int) v10 (((0 : Int), (0 : Int)) : (Int × Int)), imm (TR.sl TrD) v57 y55.1, imm (TR.pair TR.int TR.int) v63 (((0 : Int), (0 : Int)) : (Int × Int))]) rfl ?_
  refine RL.asg rfl rfl rfl ?_
  refine RL.finG ?_
  have hm := Option.some.inj hm
  subst hm
  exact GL.ret (Gx.retX [.cell 4 64, .tmp 5] rfl (fun a w st => by
    have st0 := st
    obtain ⟨u65, hu65, st⟩ := st.cellRes (p := 4) (T := 64) 3 Tryz_ln64 rfl rfl rfl
    exact ⟨[u65, .int .i64 (0 : Int)], ⟨hu65, ⟨(ResTmp st0.env rfl), trivial⟩⟩, (st.pick [0, 1, 7, 2] (by decide) rfl).toPostM (V := fun (o : Value) => .tuple #[o, .int .i64 (((((0 : Int), (0 : Int)) : (Int × Int)), (0 : Int), (x0.1, (y55.1, x0.2.2))).2.1)]) (LR := fun (o : Value) => [obox 45 TrH v0 ((((((0 : Int), (0 : Int)) : (Int × Int)), (0 : Int), (x0.1, (y55.1, x0.2.2))).2.2).1, ((((((0 : Int), (0 : Int)) : (Int × Int)), (0 : Int), (x0.1, (y55.1, x0.2.2))).2.2).2.1, u0a)), obox 55 TrL u0a ((((((0 : Int), (0 : Int)) : (Int × Int)), (0 : Int), (x0.1, (y55.1, x0.2.2))).2.2).2.2), imm (TR.pair TR.int TR.int) o (((((0 : Int), (0 : Int)) : (Int × Int)), (0 : Int), (x0.1, (y55.1, x0.2.2))).1), keep X]) u65⟩))
 replace hm := ite_f b47 hm
 refine GL.seq ?_
 refine GL.region ?_
 refine RL.binI (v := .bool (x1.1 == (3 : Int))) rfl rfl rfl rfl rfl ?_
 refine RL.asg rfl rfl rfl ?_
 refine RL.finG ?_
 refine GL.cond rfl (fun b66 => ?_) (fun b66 => ?_)
 ·replace hm := ite_t b66 hm
  refine GL.seq ?_
  refine GL.region ?_
  refine RL.mv rfl rfl rfl ?_
  refine RL.ldP (off := 0) (r := TrE) (e' := x1) 4 Tryz_ln59 rfl rfl (Or.inr ⟨rfl, rfl⟩) rfl PtOf.obox Part.self ?_
  intro v71
  refine RL.reL (L' := [obox 45 TrH v0 (x0.1, (x0.2.1, u0a)), obox 55 TrL u0a x0.2.2, keep X, imm TrE v1 x1, obox 59 TrE v5 x1, obox 64 (TR.pair TR.int TR.int) v6 ((0 : Int), (0 : Int)), imm (TR.pair TR.int TR.int) v9 (((0 : Int), (0 : Int)) : (Int × Int)), obox 64 (TR.pair TR.int TR.int) v10 (((0 : Int), (0 : Int)) : (Int × Int)), imm TrE v71 x1]) rfl ?_
  obtain ⟨y72, e73, hm⟩ := bind_some hm
  refine RL.callK (vs := [v0, v71]) (V := fun (o : Value) => .tuple #[o, .int .i64 y72.2.1]) (LR := fun (o : Value) => [obox 45 TrH v0 (y72.2.2.1, (y72.2.2.2.1, u0a)), obox 55 TrL u0a y72.2.2.2.2, imm (TR.pair TR.int TR.int) o y72.1]) (Ls := [obox 45 TrH v0 (x0.1, (x0.2.1, u0a)), obox 55 TrL u0a x0.2.2]) [0, 1] (by decide) Tryz_fit44 rfl rfl rfl rfl rfl rfl (fun S f X w hO hB hW hI hL => house_House_build_c _ S X f w _ _ x0  hO hB hI (hT.mono hW) _ _ (hL 8 _ _ rfl Sure.imm) _ e73) ?_
  intro v74
  refine RL.reL (L' := [gone, gone, keep X, imm TrE v1 x1, obox 59 TrE v5 x1, obox 64 (TR.pair TR.int TR.int) v6 ((0 : Int), (0 : Int)), imm (TR.pair TR.int TR.int) v9 (((0 : Int), (0 : Int)) : (Int × Int)), obox 64 (TR.pair TR.int TR.int) v10 (((0 : Int), (0 : Int)) : (Int × Int)), imm TrE v71 x1, obox 45 TrH v0 (y72.2.2.1, (y72.2.2.2.1, u0a)), obox 55 TrL u0a y72.2.2.2.2, imm (TR.pair TR.int TR.int) v74 y72.1]) rfl ?_
  refine RL.ext rfl rfl rfl rfl ?_
  refine RL.ext rfl rfl rfl rfl ?_
  refine RL.stP (off := 0) (e' := y72.1) (d1 := y72.1) (r := (TR.pair TR.int TR.int)) 5 Tryz_ln64 rfl rfl (Or.inr ⟨rfl, rfl⟩) rfl (VR.item 11 rfl) rfl Upd.self ?_
  refine RL.asg rfl rfl rfl ?_
  refine RL.finG ?_
  have hm := Option.some.inj hm
  subst hm
  exact GL.ret (Gx.retX [.cell 4 64, .tmp 5] rfl (fun a w st => by
    have st0 := st
    obtain ⟨u75, hu75, st⟩ := st.cellRes (p := 4) (T := 64) 5 Tryz_ln64 rfl rfl rfl
    exact ⟨[u75, .int .i64 y72.2.1], ⟨hu75, ⟨(ResTmp st0.env rfl), trivial⟩⟩, (st.pick [9, 10, 12, 2] (by decide) rfl).toPostM (V := fun (o : Value) => .tuple #[o, .int .i64 ((y72.1, y72.2.1, y72.2.2).2.1)]) (LR := fun (o : Value) => [obox 45 TrH v0 (((y72.1, y72.2.1, y72.2.2).2.2).1, (((y72.1, y72.2.1, y72.2.2).2.2).2.1, u0a)), obox 55 TrL u0a (((y72.1, y72.2.1, y72.2.2).2.2).2.2), imm (TR.pair TR.int TR.int) o ((y72.1, y72.2.1, y72.2.2).1), keep X]) u75⟩))
 replace hm := ite_f b66 hm
 refine GL.seq ?_
 refine GL.region ?_
 refine RL.binI (v := .bool (x1.1 == (4 : Int))) rfl rfl rfl rfl rfl ?_
 refine RL.asg rfl rfl rfl ?_
 refine RL.finG ?_
 refine GL.cond rfl (fun b76 => ?_) (fun b76 => ?_)
 ·replace hm := ite_t b76 hm
  refine GL.seq ?_
  refine GL.region ?_
  refine RL.mv rfl rfl rfl ?_
  refine RL.nilk 0 rfl rfl rfl rfl PtOf.obox ?_
  refine RL.fadr (off := 0) (fo := 2) 0 Tryz_fld45_2 rfl rfl rfl PtOf.obox (Or.inr ⟨rfl, rfl⟩) ?_
  refine RL.ldPx (off := (0 + 2)) (e' := u0a) 0 Ex.raw Tryz_ln40 rfl rfl (Or.inl rfl) rfl PtOf.obox (Part.snd (Part.snd Part.self)) ?_
  obtain ⟨y79, e80, hm⟩ := bind_some hm
  refine RL.callK (vs := [u0a]) (V := fun (o : Unit) => .tuple #[]) (LR := fun (o : Unit) => [obox 55 TrL u0a y79]) (Ls := [obox 55 TrL u0a x0.2.2]) [1] (by decide) Tryz_fit45 rfl rfl rfl rfl rfl rfl (fun S f X w hO hB hW hI hL => log_Log_Sync_c _ S X f w _ _  hO hB hI  _ e80) ?_
  intro _
  refine RL.reL (L' := [obox 45 TrH v0 (x0.1, (x0.2.1, u0a)), gone, keep X, imm TrE v1 x1, obox 59 TrE v5 x1, obox 64 (TR.pair TR.int TR.int) v6 ((0 : Int), (0 : Int)), imm (TR.pair TR.int TR.int) v9 (((0 : Int), (0 : Int)) : (Int × Int)), obox 64 (TR.pair TR.int TR.int) v10 (((0 : Int), (0 : Int)) : (Int × Int)), obox 55 TrL u0a y79]) rfl ?_
  refine RL.finG ?_
  refine GL.seq ?_
  refine GL.region ?_
  refine RL.ldP (off := 0) (r := (TR.pair TR.int TR.int)) (e' := (((0 : Int), (0 : Int)) : (Int × Int))) 7 Tryz_ln64 rfl rfl (Or.inr ⟨rfl, rfl⟩) rfl PtOf.obox Part.self ?_
  intro v82
  refine RL.stP (off := 0) (e' := (((0 : Int), (0 : Int)) : (Int × Int))) (d1 := (((0 : Int), (0 : Int)) : (Int × Int))) (r := (TR.pair TR.int TR.int)) 5 Tryz_ln64 rfl rfl (Or.inr ⟨rfl, rfl⟩) rfl (VR.item 9 rfl) rfl Upd.self ?_
  refine RL.reL (L' := [obox 45 TrH v0 (x0.1, (x0.2.1, u0a)), gone, keep X, imm TrE v1 x1, obox 59 TrE v5 x1, obox 64 (TR.pair TR.int TR.int) v6 (((0 : Int), (0 : Int)) : (Int × Int)), imm (TR.pair TR.int TR.int) v9 (((0 : Int), (0 : Int)) : (Int × Int)), obox 64 (TR.pair TR.int TR.int) v10 (((0 : Int), (0 : Int)) : (Int × Int)), obox 55 TrL u0a y79, imm (TR.pair TR.int TR.int) v82 (((0 : Int), (0 : Int)) : (Int × Int))]) rfl ?_
  refine RL.asg rfl rfl rfl ?_
  refine RL.finG ?_
  have hm := Option.some.inj hm
  subst hm
  exact GL.ret (Gx.retX [.cell 4 64, .tmp 5] rfl (fun a w st => by
    have st0 := st
    obtain ⟨u83, hu83, st⟩ := st.cellRes (p := 4) (T := 64) 5 Tryz_ln64 rfl rfl rfl
    exact ⟨[u83, .int .i64 (0 : Int)], ⟨hu83, ⟨(ResTmp st0.env rfl), trivial⟩⟩, (st.pick [0, 8, 10, 2] (by decide) rfl).toPostM (V := fun (o : Value) => .tuple #[o, .int .i64 (((((0 : Int), (0 : Int)) : (Int × Int)), (0 : Int), (x0.1, (x0.2.1, y79))).2.1)]) (LR := fun (o : Value) => [obox 45 TrH v0 ((((((0 : Int), (0 : Int)) : (Int × Int)), (0 : Int), (x0.1, (x0.2.1, y79))).2.2).1, ((((((0 : Int), (0 : Int)) : (Int × Int)), (0 : Int), (x0.1, (x0.2.1, y79))).2.2).2.1, u0a)), obox 55 TrL u0a ((((((0 : Int), (0 : Int)) : (Int × Int)), (0 : Int), (x0.1, (x0.2.1, y79))).2.2).2.2), imm (TR.pair TR.int TR.int) o (((((0 : Int), (0 : Int)) : (Int × Int)), (0 : Int), (x0.1, (x0.2.1, y79))).1), keep X]) u83⟩))
 replace hm := ite_f b76 hm
 refine GL.seq ?_
 refine GL.region ?_
 refine RL.binI (v := .bool (x1.1 == (5 : Int))) rfl rfl rfl rfl rfl ?_
 refine RL.asg rfl rfl rfl ?_
 refine RL.finG ?_
 refine GL.cond rfl (fun b84 => ?_) (fun b84 => ?_)
 ·replace hm := ite_t b84 hm
  refine GL.seq ?_
  refine GL.seq ?_
  refine GL.regionA rfl rfl ?_
  refine RA.mv 0 rfl (by kernel_rfl) rfl rfl rfl ?_
  refine RA.still (le := q_97) (f := 2) [1, 2, 3, 4, 5] 6 rfl (by kernel_rfl) ?_
  simp only [pickOps, List.getElem?_toArray, List.getElem?_cons_succ, List.getElem?_cons_zero]
  refine RL.nilk 0 rfl rfl rfl rfl PtOf.obox ?_
  refine RL.fadr (off := 0) (fo := 2) 0 Tryz_fld45_2 rfl rfl rfl PtOf.obox (Or.inr ⟨rfl, rfl⟩) ?_
  refine RL.ldPx (off := (0 + 2)) (e' := u0a) 0 Ex.raw Tryz_ln40 rfl rfl (Or.inl rfl) rfl PtOf.obox (Part.snd (Part.snd Part.self)) ?_
  refine RL.fadr (off := 0) (fo := 1) 4 Tryz_fld59_1 rfl rfl rfl PtOf.obox (Or.inr ⟨rfl, rfl⟩) ?_
  refine RL.ldPx (off := (0 + 1)) (e' := x1.2.1) 4 Ex.ik Tryz_ln3 rfl rfl (Or.inl rfl) rfl PtOf.obox (Part.snd (Part.fst Part.self)) ?_
  refine RL.finH ?_
  refine RL.fin ?_
  refine RA.next ?_
  refine RA.seq 6 rfl (by kernel_rfl) ?_
  obtain ⟨y87, e88, hm⟩ := bind_some hm
  refine RL.callK (vs := [u0a, .int .i64 x1.2.1]) (V := fun (o : Unit) => .int .i64 y87.1) (LR := fun (o : Unit) => [obox 55 TrL u0a y87.2]) (Ls := [obox 55 TrL u0a x0.2.2]) [1] (by decide) Tryz_fit46 rfl rfl rfl rfl rfl rfl (fun S f X w hO hB hW hI hL => log_Log_Crash_c _ S X f w _ _  hO hB hI x1.2.1 _ e88) ?_
  intro _
  refine RL.fin ?_
  refine RA.next ?_
  refine RA.quiet 7 rfl rfl (by kernel_rfl) ?_
  simp only [List.drop_succ_cons, List.drop_zero]
  refine RL.asg rfl rfl rfl ?_
  refine RL.reL (L' := [obox 45 TrH v0 (x0.1, (x0.2.1, u0a)), gone, keep X, imm TrE v1 x1, obox 59 TrE v5 x1, obox 64 (TR.pair TR.int TR.int) v6 ((0 : Int), (0 : Int)), imm (TR.pair TR.int TR.int) v9 (((0 : Int), (0 : Int)) : (Int × Int)), obox 64 (TR.pair TR.int TR.int) v10 (((0 : Int), (0 : Int)) : (Int × Int)), obox 55 TrL u0a y87.2]) rfl ?_
  refine RL.finQ ?_
  refine RA.outQ ?_
  refine GL.weak (env' := [(0, v0), (4, v6), (6, v10), (9, .int .i64 y87.1)]) (L' := [obox 45 TrH v0 (x0.1, (x0.2.1, u0a)), keep X, obox 55 TrL u0a y87.2, obox 64 (TR.pair TR.int TR.int) v6 ((0 : Int), (0 : Int)), obox 64 (TR.pair TR.int TR.int) v10 (((0 : Int), (0 : Int)) : (Int × Int))]) (fun a w st => St.cut [0, 2, 8, 5, 7] ⟨rfl, rfl, rfl, rfl, trivial⟩ (by decide) rfl st) ?_
  refine GL.seq ?_
  refine GL.region ?_
  refine RL.mv rfl rfl rfl ?_
  refine RL.binI (v := .bool (y87.1 != (0 : Int))) rfl rfl rfl rfl rfl ?_
  refine RL.finG ?_
  refine GL.cond rfl (fun b89 => ?_) (fun b89 => ?_)
  ·replace hm := ite_t b89 hm
   refine GL.seq ?_
   refine GL.region ?_
   refine RL.ldP (off := 0) (r := (TR.pair TR.int TR.int)) (e' := (((0 : Int), (0 : Int)) : (Int × Int))) 4 Tryz_ln64 rfl rfl (Or.inr ⟨rfl, rfl⟩) rfl PtOf.obox Part.self ?_
   intro v91
   refine RL.mv rfl rfl rfl ?_
   refine RL.stP (off := 0) (e' := (((0 : Int), (0 : Int)) : (Int × Int))) (d1 := (((0 : Int), (0 : Int)) : (Int × Int))) (r := (TR.pair TR.int TR.int)) 3 Tryz_ln64 rfl rfl (Or.inr ⟨rfl, rfl⟩) rfl (VR.item 5 rfl) rfl Upd.self ?_
   refine RL.reL (L' := [obox 45 TrH v0 (x0.1, (x0.2.1, u0a)), keep X, obox 55 TrL u0a y87.2, obox 64 (TR.pair TR.int TR.int) v6 (((0 : Int), (0 : Int)) : (Int × Int)), obox 64 (TR.pair TR.int TR.int) v10 (((0 : Int), (0 : Int)) : (Int × Int)), imm (TR.pair TR.int TR.int) v91 (((0 : Int), (0 : Int)) : (Int × Int))]) rfl ?_
   refine RL.asg rfl rfl rfl ?_
   refine RL.finG ?_
   have hm := Option.some.inj hm
   subst hm
   exact GL.ret (Gx.retX [.cell 4 64, .tmp 5] rfl (fun a w st => by
     have st0 := st
     obtain ⟨u92, hu92, st⟩ := st.cellRes (p := 4) (T := 64) 3 Tryz_ln64 rfl rfl rfl
     exact ⟨[u92, .int .i64 y87.1], ⟨hu92, ⟨(ResTmp st0.env rfl), trivial⟩⟩, (st.pick [0, 2, 6, 1] (by decide) rfl).toPostM (V := fun (o : Value) => .tuple #[o, .int .i64 (((((0 : Int), (0 : Int)) : (Int × Int)), y87.1, (x0.1, (x0.2.1, y87.2))).2.1)]) (LR := fun (o : Value) => [obox 45 TrH v0 ((((((0 : Int), (0 : Int)) : (Int × Int)), y87.1, (x0.1, (x0.2.1, y87.2))).2.2).1, ((((((0 : Int), (0 : Int)) : (Int × Int)), y87.1, (x0.1, (x0.2.1, y87.2))).2.2).2.1, u0a)), obox 55 TrL u0a ((((((0 : Int), (0 : Int)) : (Int × Int)), y87.1, (x0.1, (x0.2.1, y87.2))).2.2).2.2), imm (TR.pair TR.int TR.int) o (((((0 : Int), (0 : Int)) : (Int × Int)), y87.1, (x0.1, (x0.2.1, y87.2))).1), keep X]) u92⟩))
  replace hm := ite_f b89 hm
  refine GL.skip ?_
  refine GL.seq ?_
  refine GL.region ?_
  refine RL.mv rfl rfl rfl ?_
  obtain ⟨y95, e96, hm⟩ := bind_some hm
  refine RL.callK (vs := [v0]) (V := fun (o : Unit) => .tuple #[]) (LR := fun (o : Unit) => [obox 45 TrH v0 (y95.1, (y95.2.1, u0a)), obox 55 TrL u0a y95.2.2]) (Ls := [obox 45 TrH v0 (x0.1, (x0.2.1, u0a)), obox 55 TrL u0a y87.2]) [0, 2] (by decide) Tryz_fit47 rfl rfl rfl rfl rfl rfl (fun S f X w hO hB hW hI hL => house_House_read_c _ S X f w _ _ (x0.1, (x0.2.1, y87.2))  hO hB hI (hT.mono hW)  _ e96) ?_
  intro _
  refine RL.reL (L' := [gone, keep X, gone, obox 64 (TR.pair TR.int TR.int) v6 ((0 : Int), (0 : Int)), obox 64 (TR.pair TR.int TR.int) v10 (((0 : Int), (0 : Int)) : (Int × Int)), obox 45 TrH v0 (y95.1, (y95.2.1, u0a)), obox 55 TrL u0a y95.2.2]) rfl ?_
  refine RL.finG ?_
  refine GL.seq ?_
  refine GL.region ?_
  refine RL.ldP (off := 0) (r := (TR.pair TR.int TR.int)) (e' := (((0 : Int), (0 : Int)) : (Int × Int))) 4 Tryz_ln64 rfl rfl (Or.inr ⟨rfl, rfl⟩) rfl PtOf.obox Part.self ?_
  intro v98
  refine RL.stP (off := 0) (e' := (((0 : Int), (0 : Int)) : (Int × Int))) (d1 := (((0 : Int), (0 : Int)) : (Int × Int))) (r := (TR.pair TR.int TR.int)) 3 Tryz_ln64 rfl rfl (Or.inr ⟨rfl, rfl⟩) rfl (VR.item 7 rfl) rfl Upd.self ?_
  refine RL.reL (L' := [gone, keep X, gone, obox 64 (TR.pair TR.int TR.int) v6 (((0 : Int), (0 : Int)) : (Int × Int)), obox 64 (TR.pair TR.int TR.int) v10 (((0 : Int), (0 : Int)) : (Int × Int)), obox 45 TrH v0 (y95.1, (y95.2.1, u0a)), obox 55 TrL u0a y95.2.2, imm (TR.pair TR.int TR.int) v98 (((0 : Int), (0 : Int)) : (Int × Int))]) rfl ?_
  refine RL.asg rfl rfl rfl ?_
  refine RL.finG ?_
  have hm := Option.some.inj hm
  subst hm
  exact GL.ret (Gx.retX [.cell 4 64, .tmp 5] rfl (fun a w st => by
    have st0 := st
    obtain ⟨u99, hu99, st⟩ := st.cellRes (p := 4) (T := 64) 3 Tryz_ln64 rfl rfl rfl
    exact ⟨[u99, .int .i64 (0 : Int)], ⟨hu99, ⟨(ResTmp st0.env rfl), trivial⟩⟩, (st.pick [5, 6, 8, 1] (by decide) rfl).toPostM (V := fun (o : Value) => .tuple #[o, .int .i64 (((((0 : Int), (0 : Int)) : (Int × Int)), (0 : Int), y95).2.1)]) (LR := fun (o : Value) => [obox 45 TrH v0 ((((((0 : Int), (0 : Int)) : (Int × Int)), (0 : Int), y95).2.2).1, ((((((0 : Int), (0 : Int)) : (Int × Int)), (0 : Int), y95).2.2).2.1, u0a)), obox 55 TrL u0a ((((((0 : Int), (0 : Int)) : (Int × Int)), (0 : Int), y95).2.2).2.2), imm (TR.pair TR.int TR.int) o (((((0 : Int), (0 : Int)) : (Int × Int)), (0 : Int), y95).1), keep X]) u99⟩))
 replace hm := ite_f b84 hm
 refine GL.seq ?_
 refine GL.region ?_
 refine RL.binI (v := .bool (x1.1 == (6 : Int))) rfl rfl rfl rfl rfl ?_
 refine RL.asg rfl rfl rfl ?_
 refine RL.finG ?_
 refine GL.cond rfl (fun b100 => ?_) (fun b100 => ?_)
 ·replace hm := ite_t b100 hm
  refine GL.seq ?_
  refine GL.region ?_
  refine RL.mv rfl rfl rfl ?_
  refine RL.fadr (off := 0) (fo := 2) 4 Tryz_fld59_2 rfl rfl rfl PtOf.obox (Or.inr ⟨rfl, rfl⟩) ?_
  refine RL.ldPx (off := (0 + 2)) (e' := x1.2.2.1) 4 Ex.str Tryz_ln9 rfl rfl (Or.inl rfl) rfl PtOf.obox (Part.snd (Part.snd (Part.fst Part.self))) ?_
  obtain ⟨y103, e104, hm⟩ := bind_some hm
  refine RL.callV (v := .int .i64 y103) (vs := [v0, (sv x1.2.2.1)]) Tryz_fit48 rfl (Or.inl rfl) rfl rfl rfl rfl (fun U w hU hW hL => house_House_find_c U w hU _ _ (ptr_held (Helded.snd (Helded.snd (Helded.raw rfl))) (hL 0 _ _ rfl Seen.obox) (hL 1 _ _ rfl Seen.obox)) x1.2.2.1 _ e104) ?_
  refine RL.asg rfl rfl rfl ?_
  refine RL.finG ?_
  refine GL.seq ?_
  refine GL.seq ?_
  refine GL.region ?_
  refine RL.mv rfl rfl rfl ?_
  refine RL.binI (v := .bool (decide (y103 < (0 : Int)))) rfl rfl rfl rfl rfl ?_
  refine RL.finG ?_
  refine GL.cond rfl (fun b105 => ?_) (fun b105 => ?_)
  ·replace hm := ite_t b105 hm
   refine GL.seq ?_
   refine GL.region ?_
   refine RL.ldP (off := 0) (r := (TR.pair TR.int TR.int)) (e' := (((0 : Int), (0 : Int)) : (Int × Int))) 7 Tryz_ln64 rfl rfl (Or.inr ⟨rfl, rfl⟩) rfl PtOf.obox Part.self ?_
   intro v107
   refine RL.reL (L' := [obox 45 TrH v0 (x0.1, (x0.2.1, u0a)), obox 55 TrL u0a x0.2.2, keep X, imm TrE v1 x1, obox 59 TrE v5 x1, obox 64 (TR.pair TR.int TR.int) v6 ((0 : Int), (0 : Int)), imm (TR.pair TR.int TR.int) v9 (((0 : Int), (0 : Int)) : (Int × Int)), obox 64 (TR.pair TR.int TR.int) v10 (((0 : Int), (0 : Int)) : (Int × Int)), imm (TR.pair TR.int TR.int) v107 (((0 : Int), (0 : Int)) : (Int × Int))]) rfl ?_
   refine RL.stP (off := 0) (e' := (((0 : Int), (0 : Int)) : (Int × Int))) (d1 := (((0 : Int), (0 : Int)) : (Int × Int))) (r := (TR.pair TR.int TR.int)) 5 Tryz_ln64 rfl rfl (Or.inr ⟨rfl, rfl⟩) rfl (VR.item 8 rfl) rfl Upd.self ?_
   refine RL.asg rfl rfl rfl ?_
   refine RL.finG ?_
   have hm := Option.some.inj hm
   subst hm
   exact GL.ret (Gx.retX [.cell 4 64, .tmp 5] rfl (fun a w st => by
     have st0 := st
     obtain ⟨u108, hu108, st⟩ := st.cellRes (p := 4) (T := 64) 5 Tryz_ln64 rfl rfl rfl
     exact ⟨[u108, .int .i64 (4 : Int)], ⟨hu108, ⟨(ResTmp st0.env rfl), trivial⟩⟩, (st.pick [0, 1, 9, 2] (by decide) rfl).toPostM (V := fun (o : Value) => .tuple #[o, .int .i64 (((((0 : Int), (0 : Int)) : (Int × Int)), (4 : Int), x0).2.1)]) (LR := fun (o : Value) => [obox 45 TrH v0 ((((((0 : Int), (0 : Int)) : (Int × Int)), (4 : Int), x0).2.2).1, ((((((0 : Int), (0 : Int)) : (Int × Int)), (4 : Int), x0).2.2).2.1, u0a)), obox 55 TrL u0a ((((((0 : Int), (0 : Int)) : (Int × Int)), (4 : Int), x0).2.2).2.2), imm (TR.pair TR.int TR.int) o (((((0 : Int), (0 : Int)) : (Int × Int)), (4 : Int), x0).1), keep X]) u108⟩))
  replace hm := ite_f b105 hm
  refine GL.skip ?_
  refine GL.seq ?_
  refine GL.regionH 17 rfl rfl (by kernel_rfl) ?_
  simp only [List.take_succ_cons, List.take_zero, List.drop_succ_cons, List.drop_zero]
  refine RL.mv rfl rfl rfl ?_
  refine RL.nilk 0 rfl rfl rfl rfl PtOf.obox ?_
  refine RL.fadr (off := 0) (fo := 0) 0 Tryz_fld45_0 rfl rfl rfl PtOf.obox (Or.inr ⟨rfl, rfl⟩) ?_
  refine RL.ldP (off := (0 + 0)) (r := (TR.sl TrA)) (e' := x0.1) 0 Tryz_ln42 rfl rfl (Or.inl rfl) rfl PtOf.obox (Part.fst Part.self) ?_
  intro v116
  refine RL.reL (L' := [obox 45 TrH v0 (x0.1, (x0.2.1, u0a)), obox 55 TrL u0a x0.2.2, keep X, imm TrE v1 x1, obox 59 TrE v5 x1, obox 64 (TR.pair TR.int TR.int) v6 ((0 : Int), (0 : Int)), imm (TR.pair TR.int TR.int) v9 (((0 : Int), (0 : Int)) : (Int × Int)), obox 64 (TR.pair TR.int TR.int) v10 (((0 : Int), (0 : Int)) : (Int × Int)), imm (TR.sl TrA) v116 x0.1]) rfl ?_
  refine RL.mv rfl rfl rfl ?_
  obtain ⟨y117, e118, hm⟩ := bind_some hm
  refine RL.idxS (sz := 3) 8 Tryz.underlying42 Tryz_ln86 rfl rfl rfl rfl rfl SlOf.imm (idx_some e118).1 (idx_some e118).2.1 ?_
  refine RL.fadrS (off := ((y103).toNat * 3)) (fo := 1) 8 Tryz_fld86_1 rfl rfl rfl SlOf.imm (by have := (List.getElem?_eq_some_iff.1 (idx_some e118).2.2).1; (try dsimp only at this ⊢); omega) rfl ?_
  refine RL.ldSx (i := (y103).toNat) (e' := y117.2.1) 8 Ex.ik Tryz_ln3 rfl rfl rfl rfl SlOf.imm (idx_some e118).2.2 (Part.snd (Part.fst Part.self)) ?_
  refine RL.mv rfl rfl rfl ?_
  refine RL.nilk 0 rfl rfl rfl rfl PtOf.obox ?_
  refine RL.fadr (off := 0) (fo := 0) 0 Tryz_fld45_0 rfl rfl rfl PtOf.obox (Or.inr ⟨rfl, rfl⟩) ?_
  refine RL.ldP (off := (0 + 0)) (r := (TR.sl TrA)) (e' := x0.1) 0 Tryz_ln42 rfl rfl (Or.inl rfl) rfl PtOf.obox (Part.fst Part.self) ?_
  intro v119
  refine RL.mv rfl rfl rfl ?_
  obtain ⟨y120, e121, hm⟩ := bind_some hm
  refine RL.idxS (sz := 3) 9 Tryz.underlying42 Tryz_ln86 rfl rfl rfl rfl rfl SlOf.imm (idx_some e121).1 (idx_some e121).2.1 ?_
  refine RL.fadrS (off := ((y103).toNat * 3)) (fo := 2) 9 Tryz_fld86_2 rfl rfl rfl SlOf.imm (by have := (List.getElem?_eq_some_iff.1 (idx_some e121).2.2).1; (try dsimp only at this ⊢); omega) rfl ?_
  refine RL.ldSx (i := (y103).toNat) (e' := y120.2.2) 9 Ex.ik Tryz_ln3 rfl rfl rfl rfl SlOf.imm (idx_some e121).2.2 (Part.snd (Part.snd Part.self)) ?_
  refine RL.bld (t := (TR.pair TR.int TR.int)) (d0 := ((y117.2.1, y120.2.2) : (Int × Int))) (pv := [(0, .int .i64 y117.2.1), (1, .int .i64 y120.2.2)]) rfl Tryz_bld64 rfl rfl rfl ⟨⟨_, _, TR.int, y117.2.1, rfl, rfl, VR.int⟩, ⟨⟨_, _, TR.int, y120.2.2, rfl, rfl, VR.int⟩, trivial⟩⟩ (fun S f hi => by
    obtain ⟨c0, e0, r0⟩ := cells_vrep (t := TR.int) (u := .int .i64 y117.2.1) (e := y117.2.1) (VR.int S f hi)
    obtain ⟨c1, e1, r1⟩ := cells_vrep (t := TR.int) (u := .int .i64 y120.2.2) (e := y120.2.2) (VR.int S f hi)
    show TR.rep (TR.pair TR.int TR.int) S (List.flatten [(.int .i64 y117.2.1 : Value).cells.toList, (.int .i64 y120.2.2 : Value).cells.toList]) _
    simp only [e0, e1,  List.flatten_cons, List.flatten_nil, List.append_nil]
    exact ⟨_, _, rfl, r0, r1⟩) ?_
  intro v122
  refine RL.reL (L' := [obox 45 TrH v0 (x0.1, (x0.2.1, u0a)), obox 55 TrL u0a x0.2.2, keep X, imm TrE v1 x1, obox 59 TrE v5 x1, obox 64 (TR.pair TR.int TR.int) v6 ((0 : Int), (0 : Int)), imm (TR.pair TR.int TR.int) v9 (((0 : Int), (0 : Int)) : (Int × Int)), obox 64 (TR.pair TR.int TR.int) v10 (((0 : Int), (0 : Int)) : (Int × Int)), imm (TR.sl TrA) v116 x0.1, imm (TR.sl TrA) v119 x0.1, imm (TR.pair TR.int TR.int) v122 ((y117.2.1, y120.2.2) : (Int × Int))]) rfl ?_
  refine RL.finH ?_
  refine RL.stP (off := 0) (e' := ((y117.2.1, y120.2.2) : (Int × Int))) (d1 := ((y117.2.1, y120.2.2) : (Int × Int))) (r := (TR.pair TR.int TR.int)) 5 Tryz_ln64 rfl rfl (Or.inr ⟨rfl, rfl⟩) rfl (VR.item 10 rfl) rfl Upd.self ?_
  refine RL.asg rfl rfl rfl ?_
  refine RL.finG ?_
  refine GL.weak (env' := [(4, v6), (5, .int .i64 (0 : Int))]) (L' := [obox 45 TrH v0 (x0.1, (x0.2.1, u0a)), obox 55 TrL u0a x0.2.2, keep X, obox 64 (TR.pair TR.int TR.int) v6 ((y117.2.1, y120.2.2) : (Int × Int))]) (fun a w st => St.cut [0, 1, 2, 5] ⟨rfl, rfl, trivial⟩ (by decide) rfl st) ?_
  have hm := Option.some.inj hm
  subst hm
  exact GL.ret (Gx.retX [.cell 4 64, .tmp 5] rfl (fun a w st => by
    have st0 := st
    obtain ⟨u123, hu123, st⟩ := st.cellRes (p := 4) (T := 64) 3 Tryz_ln64 rfl rfl rfl
    exact ⟨[u123, .int .i64 (0 : Int)], ⟨hu123, ⟨(ResTmp st0.env rfl), trivial⟩⟩, (st.pick [0, 1, 4, 2] (by decide) rfl).toPostM (V := fun (o : Value) => .tuple #[o, .int .i64 ((((y117.2.1, y120.2.2) : (Int × Int)), (0 : Int), x0).2.1)]) (LR := fun (o : Value) => [obox 45 TrH v0 (((((y117.2.1, y120.2.2) : (Int × Int)), (0 : Int), x0).2.2).1, (((((y117.2.1, y120.2.2) : (Int × Int)), (0 : Int), x0).2.2).2.1, u0a)), obox 55 TrL u0a (((((y117.2.1, y120.2.2) : (Int × Int)), (0 : Int), x0).2.2).2.2), imm (TR.pair TR.int TR.int) o ((((y117.2.1, y120.2.2) : (Int × Int)), (0 : Int), x0).1), keep X]) u123⟩))
 replace hm := ite_f b100 hm
 refine GL.seq ?_
 refine GL.region ?_
 refine RL.binI (v := .bool (x1.1 == (7 : Int))) rfl rfl rfl rfl rfl ?_
 refine RL.asg rfl rfl rfl ?_
 refine RL.finG ?_
 refine GL.cond rfl (fun b124 => ?_) (fun b124 => ?_)
 ·replace hm := ite_t b124 hm
  refine GL.seq ?_
  refine GL.regionA rfl rfl ?_
  refine RA.mv 0 rfl (by kernel_rfl) rfl rfl rfl ?_
  refine RA.still (le := q_1) (f := 6) [1, 2, 3, 4, 5, 6, 7] 8 rfl (by kernel_rfl) ?_
  simp only [pickOps, List.getElem?_toArray, List.getElem?_cons_succ, List.getElem?_cons_zero]
  refine RL.nilk 0 rfl rfl rfl rfl PtOf.obox ?_
  refine RL.fadr (off := 0) (fo := 1) 0 Tryz_fld45_1 rfl rfl rfl PtOf.obox (Or.inr ⟨rfl, rfl⟩) ?_
  refine RL.ldP (off := (0 + 1)) (r := (TR.sl TrD)) (e' := x0.2.1) 0 Tryz_ln43 rfl rfl (Or.inl rfl) rfl PtOf.obox (Part.snd (Part.fst Part.self)) ?_
  intro v129
  refine RL.fadr (off := 0) (fo := 2) 4 Tryz_fld59_2 rfl rfl rfl PtOf.obox (Or.inr ⟨rfl, rfl⟩) ?_
  refine RL.ldPx (off := (0 + 2)) (e' := x1.2.2.1) 4 Ex.str Tryz_ln9 rfl rfl (Or.inl rfl) rfl PtOf.obox (Part.snd (Part.snd (Part.fst Part.self))) ?_
  refine RL.fadr (off := 0) (fo := 1) 4 Tryz_fld59_1 rfl rfl rfl PtOf.obox (Or.inr ⟨rfl, rfl⟩) ?_
  refine RL.ldPx (off := (0 + 1)) (e' := x1.2.1) 4 Ex.ik Tryz_ln3 rfl rfl (Or.inl rfl) rfl PtOf.obox (Part.snd (Part.fst Part.self)) ?_
  refine RL.finH ?_
  refine RL.fin ?_
  refine RA.next ?_
  refine RA.seq 8 rfl (by kernel_rfl) ?_
  obtain ⟨y130, e131, hm⟩ := bind_some hm
  refine RL.call (vs := [v129, (sv x1.2.2.1), .int .i64 x1.2.1]) Tryz_fit49 rfl rfl rfl rfl rfl (fun S f w hS hW hi => queue_Drop_c S w hS _ _ (hi 8 _ rfl) x1.2.2.1 x1.2.1 _ e131) ?_
  intro v132
  refine RL.fin ?_
  refine RA.next ?_
  refine RA.quiet 9 rfl rfl (by kernel_rfl) ?_
  simp only [List.drop_succ_cons, List.drop_zero]
  refine RL.mv rfl rfl rfl ?_
  refine RL.ext rfl rfl rfl rfl ?_
  refine RL.ext rfl rfl rfl rfl ?_
  refine RL.asg rfl rfl rfl ?_
  refine RL.asg rfl rfl rfl ?_
  refine RL.finQ ?_
  refine RA.outQ ?_
  refine GL.weak (env' := [(0, v0), (4, v6), (6, v10), (11, v132), (12, .int .i64 y130.2)]) (L' := [obox 45 TrH v0 (x0.1, (x0.2.1, u0a)), obox 55 TrL u0a x0.2.2, keep X, obox 64 (TR.pair TR.int TR.int) v6 ((0 : Int), (0 : Int)), obox 64 (TR.pair TR.int TR.int) v10 (((0 : Int), (0 : Int)) : (Int × Int)), own 57 TrD v132 y130.1]) (fun a w st => St.cut [0, 1, 2, 5, 7, 9] ⟨rfl, rfl, rfl, rfl, rfl, trivial⟩ (by decide) rfl st) ?_
  refine GL.seq ?_
  refine GL.seq ?_
  refine GL.region ?_
  refine RL.mv rfl rfl rfl ?_
  refine RL.binI (v := .bool (y130.2 != (0 : Int))) rfl rfl rfl rfl rfl ?_
  refine RL.finG ?_
  refine GL.cond rfl (fun b133 => ?_) (fun b133 => ?_)
  ·replace hm := ite_t b133 hm
   refine GL.seq ?_
   refine GL.region ?_
   refine RL.ldP (off := 0) (r := (TR.pair TR.int TR.int)) (e' := (((0 : Int), (0 : Int)) : (Int × Int))) 4 Tryz_ln64 rfl rfl (Or.inr ⟨rfl, rfl⟩) rfl PtOf.obox Part.self ?_
   intro v135
   refine RL.mv rfl rfl rfl ?_
   refine RL.stP (off := 0) (e' := (((0 : Int), (0 : Int)) : (Int × Int))) (d1 := (((0 : Int), (0 : Int)) : (Int × Int))) (r := (TR.pair TR.int TR.int)) 3 Tryz_ln64 rfl rfl (Or.inr ⟨rfl, rfl⟩) rfl (VR.item 6 rfl) rfl Upd.self ?_
   refine RL.reL (L' := [obox 45 TrH v0 (x0.1, (x0.2.1, u0a)), obox 55 TrL u0a x0.2.2, keep X, obox 64 (TR.pair TR.int TR.int) v6 (((0 : Int), (0 : Int)) : (Int × Int)), obox 64 (TR.pair TR.int TR.int) v10 (((0 : Int), (0 : Int)) : (Int × Int)), own 57 TrD v132 y130.1, imm (TR.pair TR.int TR.int) v135 (((0 : Int), (0 : Int)) : (Int × Int))]) rfl ?_
   refine RL.asg rfl rfl rfl ?_
   refine RL.finG ?_
   have hm := Option.some.inj hm
   subst hm
   exact GL.ret (Gx.retX [.cell 4 64, .tmp 5] rfl (fun a w st => by
     have st0 := st
     obtain ⟨u136, hu136, st⟩ := st.cellRes (p := 4) (T := 64) 3 Tryz_ln64 rfl rfl rfl
     exact ⟨[u136, .int .i64 y130.2], ⟨hu136, ⟨(ResTmp st0.env rfl), trivial⟩⟩, (st.pick [0, 1, 7, 2] (by decide) rfl).toPostM (V := fun (o : Value) => .tuple #[o, .int .i64 (((((0 : Int), (0 : Int)) : (Int × Int)), y130.2, x0).2.1)]) (LR := fun (o : Value) => [obox 45 TrH v0 ((((((0 : Int), (0 : Int)) : (Int × Int)), y130.2, x0).2.2).1, ((((((0 : Int), (0 : Int)) : (Int × Int)), y130.2, x0).2.2).2.1, u0a)), obox 55 TrL u0a ((((((0 : Int), (0 : Int)) : (Int × Int)), y130.2, x0).2.2).2.2), imm (TR.pair TR.int TR.int) o (((((0 : Int), (0 : Int)) : (Int × Int)), y130.2, x0).1), keep X]) u136⟩))
  replace hm := ite_f b133 hm
  refine GL.skip ?_
  refine GL.seq ?_
  refine GL.region ?_
  refine RL.mv rfl rfl rfl ?_
  refine RL.mv rfl rfl rfl ?_
  refine RL.nilk 0 rfl rfl rfl rfl PtOf.obox ?_
  refine RL.fadr (off := 0) (fo := 1) 0 Tryz_fld45_1 rfl rfl rfl PtOf.obox (Or.inr ⟨rfl, rfl⟩) ?_
  refine RL.weak (fun a w st => st.freeze 5 rfl) ?_
  refine RL.stP (off := (0 + 1)) (e' := y130.1) (d1 := ((x0.1, (y130.1, x0.2.2)).1, ((x0.1, (y130.1, x0.2.2)).2.1, u0a))) (r := (TR.sl TrD)) 0 Tryz_ln43 rfl rfl (Or.inl rfl) rfl (VR.item 5 rfl) rfl (Upd.snd (Upd.fst Upd.self)) ?_
  refine RL.reL (L' := [obox 45 TrH v0 ((x0.1, (y130.1, x0.2.2)).1, ((x0.1, (y130.1, x0.2.2)).2.1, u0a)), obox 55 TrL u0a x0.2.2, keep X, obox 64 (TR.pair TR.int TR.int) v6 ((0 : Int), (0 : Int)), obox 64 (TR.pair TR.int TR.int) v10 (((0 : Int), (0 : Int)) : (Int × Int)), imm (TR.sl TrD) v132 y130.1]) rfl ?_
  refine RL.finG ?_
  refine GL.seq ?_
  refine GL.region ?_
  refine RL.ldP (off := 0) (r := (TR.pair TR.int TR.int)) (e' := (((0 : Int), (0 : Int)) : (Int × Int))) 4 Tryz_ln64 rfl rfl (Or.inr ⟨rfl, rfl⟩) rfl PtOf.obox Part.self ?_
  intro v138
  refine RL.stP (off := 0) (e' := (((0 : Int), (0 : Int)) : (Int × Int))) (d1 := (((0 : Int), (0 : Int)) : (Int × Int))) (r := (TR.pair TR.int TR.int)) 3 Tryz_ln64 rfl rfl (Or.inr ⟨rfl, rfl⟩) rfl (VR.item 6 rfl) rfl Upd.self ?_
  refine RL.reL (L' := [obox 45 TrH v0 ((x0.1, (y130.1, x0.2.2)).1, ((x0.1, (y130.1, x0.2.2)).2.1, u0a)), obox 55 TrL u0a x0.2.2, keep X, obox 64 (TR.pair TR.int TR.int) v6 (((0 : Int), (0 : Int)) : (Int × Int)), obox 64 (TR.pair TR.int TR.int) v10 (((0 : Int), (0 : Int)) : (Int × Int)), imm (TR.sl TrD) v132 y130.1, imm (TR.pair TR.int TR.int) v138 (((0 : Int), (0 : Int)) : (Int × Int))]) rfl ?_
  refine RL.asg rfl rfl rfl ?_
  refine RL.finG ?_
  have hm := Option.some.inj hm
  subst hm
  exact GL.ret (Gx.retX [.cell 4 64, .tmp 5] rfl (fun a w st => by
    have st0 := st
    obtain ⟨u139, hu139, st⟩ := st.cellRes (p := 4) (T := 64) 3 Tryz_ln64 rfl rfl rfl
    exact ⟨[u139, .int .i64 (0 : Int)], ⟨hu139, ⟨(ResTmp st0.env rfl), trivial⟩⟩, (st.pick [0, 1, 7, 2] (by decide) rfl).toPostM (V := fun (o : Value) => .tuple #[o, .int .i64 (((((0 : Int), (0 : Int)) : (Int × Int)), (0 : Int), (x0.1, (y130.1, x0.2.2))).2.1)]) (LR := fun (o : Value) => [obox 45 TrH v0 ((((((0 : Int), (0 : Int)) : (Int × Int)), (0 : Int), (x0.1, (y130.1, x0.2.2))).2.2).1, ((((((0 : Int), (0 : Int)) : (Int × Int)), (0 : Int), (x0.1, (y130.1, x0.2.2))).2.2).2.1, u0a)), obox 55 TrL u0a ((((((0 : Int), (0 : Int)) : (Int × Int)), (0 : Int), (x0.1, (y130.1, x0.2.2))).2.2).2.2), imm (TR.pair TR.int TR.int) o (((((0 : Int), (0 : Int)) : (Int × Int)), (0 : Int), (x0.1, (y130.1, x0.2.2))).1), keep X]) u139⟩))
 replace hm := ite_f b124 hm
 refine GL.skip ?_
 refine GL.nilB ?_
 refine GL.seq ?_
 refine GL.region ?_
 refine RL.ldP (off := 0) (r := (TR.pair TR.int TR.int)) (e' := (((0 : Int), (0 : Int)) : (Int × Int))) 7 Tryz_ln64 rfl rfl (Or.inr ⟨rfl, rfl⟩) rfl PtOf.obox Part.self ?_
 intro v141
 refine RL.reL (L' := [obox 45 TrH v0 (x0.1, (x0.2.1, u0a)), obox 55 TrL u0a x0.2.2, keep X, imm TrE v1 x1, obox 59 TrE v5 x1, obox 64 (TR.pair TR.int TR.int) v6 ((0 : Int), (0 : Int)), imm (TR.pair TR.int TR.int) v9 (((0 : Int), (0 : Int)) : (Int × Int)), obox 64 (TR.pair TR.int TR.int) v10 (((0 : Int), (0 : Int)) : (Int × Int)), imm (TR.pair TR.int TR.int) v141 (((0 : Int), (0 : Int)) : (Int × Int))]) rfl ?_
 refine RL.stP (off := 0) (e' := (((0 : Int), (0 : Int)) : (Int × Int))) (d1 := (((0 : Int), (0 : Int)) : (Int × Int))) (r := (TR.pair TR.int TR.int)) 5 Tryz_ln64 rfl rfl (Or.inr ⟨rfl, rfl⟩) rfl (VR.item 8 rfl) rfl Upd.self ?_
 refine RL.asg rfl rfl rfl ?_
 refine RL.finG ?_
 have hm := Option.some.inj hm
 subst hm
 exact GL.ret (Gx.retX [.cell 4 64, .tmp 5] rfl (fun a w st => by
   have st0 := st
   obtain ⟨u142, hu142, st⟩ := st.cellRes (p := 4) (T := 64) 5 Tryz_ln64 rfl rfl rfl
   exact ⟨[u142, .int .i64 (1 : Int)], ⟨hu142, ⟨(ResTmp st0.env rfl), trivial⟩⟩, (st.pick [0, 1, 9, 2] (by decide) rfl).toPostM (V := fun (o : Value) => .tuple #[o, .int .i64 (((((0 : Int), (0 : Int)) : (Int × Int)), (1 : Int), x0).2.1)]) (LR := fun (o : Value) => [obox 45 TrH v0 ((((((0 : Int), (0 : Int)) : (Int × Int)), (1 : Int), x0).2.2).1, ((((((0 : Int), (0 : Int)) : (Int × Int)), (1 : Int), x0).2.2).2.1, u0a)), obox 55 TrL u0a ((((((0 : Int), (0 : Int)) : (Int × Int)), (1 : Int), x0).2.2).2.2), imm (TR.pair TR.int TR.int) o (((((0 : Int), (0 : Int)) : (Int × Int)), (1 : Int), x0).1), keep X]) u142⟩))
end Go.Wk
