/- Three pieces of ManyAlike, each walked alone; printed by a program of this repository. -/
import Derived.Test.YthhpnohbfigggaaGreatDoorMq1
set_option linter.all false
set_option maxRecDepth 100000
namespace Go.Wk
open Go.Fw Go.Mo Go.Proofs Go.RowKit
theorem Tryz_fit5:Fit Tryz.prog 5:=Fit.of Tryz.func5 (by kernel_rfl) rfl
theorem Tryz_fit6:Fit Tryz.prog 6:=Fit.of Tryz.func6 (by kernel_rfl) rfl
end Go.Wk
namespace Go.Mn
open Go.Conc Go.ConcN Go.RowKit Go.Fw Go.Proofs Go.Mo Go.Wk
noncomputable def R2c:Code:=match X3 with|.seq r _=>r|_=>.skip
noncomputable def C2c:Code:=match X3 with|.seq _ r=>r|_=>.skip
noncomputable def P6:Code:=match Z3 with|.seq x _=>x|_=>.skip
noncomputable def Z4:Code:=match Z3 with|.seq _ x=>x|_=>.skip
noncomputable def B8:Code:=match Z4 with|.seq x _=>x|_=>.skip
noncomputable def Z5:Code:=match Z4 with|.seq _ x=>x|_=>.skip
noncomputable def P14:Code:=match Z5 with|.seq x _=>x|_=>.skip
noncomputable def Z6:Code:=match Z5 with|.seq _ x=>x|_=>.skip
noncomputable def R18:Code:=match Z6 with|.seq _ (.seq _ (.seq r _))=>r|_=>.skip
theorem ok2:okC Tryz.prog TX R2c=true:=by kernel_rfl
theorem ok8:okC Tryz.prog TX B8=true:=by kernel_rfl
theorem ok18:okC Tryz.prog TX R18=true:=by kernel_rfl
def zcy(x9:(List ((List (Int×Int))×(List Int))))(x10:Int):Option Bool:=z2f (ρ:=Bool) (β:=Unit) (σ:=Bool) (if x10 != (0:Int) then some (.nx true) else(if((x9).length:Int) != (1:Int) then some (.nx true) else(idx x9 (0:Int)).bind fun y48=>(if((y48.1).length:Int) != (2:Int) then some (.nx true) else(idx x9 (0:Int)).bind fun y52=>(idx y52.1 (1:Int)).bind fun y55=>some (.nx (!(decide (y55=(((1:Int),(0:Int)):(Int×Int))))))))) fun x38=>some x38
def z8o(x13:(List ((List (Int×Int))×(List Int))))(i85:Nat)(y95:((List (Int×Int))×(List Int))):Unit→Option (Fl Bool Unit Unit):=fun _=>z5e (ρ:=Bool) (β:=Unit) (σ:=Bool) ((idx x13 (i85:Int)).bind fun y134=>(z16 y95.1 y134.1).bind fun y137=>(if !y137 then some (.nx true) else(idx x13 (i85:Int)).bind fun y141=>(z1b y95.2 y141.2).bind fun y144=>some (.nx (!y144)))) fun x125=>(if x125 then some (.rt false) else some (.nx ()))
def z8c(x11:(List ((List (Int×Int))×(List Int))))(x13:(List ((List (Int×Int))×(List Int)))):Option Bool:=z2f (ρ:=Bool) (β:=Unit) (σ:=Unit) (z2w (γ:=Unit) (z8o x13) x11 0 ()) fun _=>some true
def z9s(x3:Int)(x11:(List ((List (Int×Int))×(List Int))))(x16:(List ((List (Int×Int))×(List Int))))(x17:Int):Option Bool:=z2f (ρ:=Bool) (β:=Unit) (σ:=Bool) (if x17==(0:Int) then(if((x16).length:Int)==(1:Int) then(idx x16 (0:Int)).bind fun y49=>(idx x11 x3).bind fun y52=>(z16 y49.1 y52.1).bind fun y55=>some (.nx y55) else some (.nx false)) else some (.nx false)) fun x39=>some x39
set_option maxHeartbeats 4000000 in
theorem two_gl{w:World}{S:Hp}{h1 h2 x3 x10:Int}{js v9:Value}{x9:List ((List (Int×Int))×(List Int))}{envO:Env}(hS:S.sub w){res:Bool}(hm:zcy x9 x10=some res)(hc:z81 [(50,.bool res),(0,.int .i64 h1),(1,.int .i64 h2),(2,js),(3,.int .i64 x3)] envO):GL Tryz.prog (zal 157 envO w) ⟨w,S,157,false,[]⟩ [R2c] [(0,.int .i64 h1),(1,.int .i64 h2),(2,js),(3,.int .i64 x3),(9,v9),(10,.int .i64 x10)] [imm (TR.sl (TR.pair (TR.sl (TR.pair TR.int TR.int)) (TR.sl TR.int))) v9 x9]:=by
 unfold zcy at hm
 obtain⟨y39,K40,h41,h42,h43,h44,h45⟩:=z1z hm
 refine GL.join (ι:=Bool) (fun(p:Bool)=>[(50,.bool p),(0,.int .i64 h1),(1,.int .i64 h2),(2,js),(3,.int .i64 x3)]) (fun(p:Bool)=>[]) (fun(p:Bool)=>K40 (.nx p)) ?_ ?_
 ·skip
  refine GL.region ?_
  refine RL.mv rfl rfl rfl ?_
  refine RL.binI (v:=.bool (x10 != (0:Int))) rfl rfl rfl rfl rfl ?_
  refine RL.mv rfl rfl rfl ?_
  refine RL.split (t:=28) rfl (fun b46=>?_) (fun b46=>?_)
  ·replace h41:=z13 b46 h41
   refine RL.skip rfl rfl ?_
   refine RL.skip rfl rfl ?_
   refine RL.skip rfl rfl ?_
   refine RL.pickT rfl rfl rfl rfl ?_
   refine RL.mv rfl rfl rfl ?_
   refine RL.skip rfl rfl ?_
   refine RL.skip rfl rfl ?_
   refine RL.skip rfl rfl ?_
   refine RL.skip rfl rfl ?_
   refine RL.skip rfl rfl ?_
   refine RL.skip rfl rfl ?_
   refine RL.pickT rfl rfl rfl rfl ?_
   refine RL.mv rfl rfl rfl ?_
   refine RL.skip rfl rfl ?_
   refine RL.skip rfl rfl ?_
   refine RL.skip rfl rfl ?_
   refine RL.skip rfl rfl ?_
   refine RL.skip rfl rfl ?_
   refine RL.skip rfl rfl ?_
   refine RL.skip rfl rfl ?_
   refine RL.skip rfl rfl ?_
   refine RL.pickT rfl rfl rfl rfl ?_
   refine RL.fin ?_
   cases h41
   exact fun a w st=>ze true h42 (St.cut [] ⟨rfl,rfl,rfl,rfl,rfl,trivial⟩ (by decide) rfl st)
  replace h41:=z14 b46 h41
  refine RL.mv rfl rfl rfl ?_
  refine RL.lenS 0 Tryz.underlying23 rfl rfl rfl rfl SlOf.imm ?_
  refine RL.binI (v:=.bool (((x9).length:Int) != (1:Int))) rfl rfl rfl rfl rfl ?_
  refine RL.pickF rfl rfl rfl rfl ?_
  refine RL.mv rfl rfl rfl ?_
  refine RL.split (t:=33) rfl (fun b47=>?_) (fun b47=>?_)
  ·replace h41:=z13 b47 h41
   refine RL.skip rfl rfl ?_
   refine RL.skip rfl rfl ?_
   refine RL.skip rfl rfl ?_
   refine RL.skip rfl rfl ?_
   refine RL.skip rfl rfl ?_
   refine RL.skip rfl rfl ?_
   refine RL.pickT rfl rfl rfl rfl ?_
   refine RL.mv rfl rfl rfl ?_
   refine RL.skip rfl rfl ?_
   refine RL.skip rfl rfl ?_
   refine RL.skip rfl rfl ?_
   refine RL.skip rfl rfl ?_
   refine RL.skip rfl rfl ?_
   refine RL.skip rfl rfl ?_
   refine RL.skip rfl rfl ?_
   refine RL.skip rfl rfl ?_
   refine RL.pickT rfl rfl rfl rfl ?_
   refine RL.fin ?_
   cases h41
   exact fun a w st=>ze true h42 (St.cut [] ⟨rfl,rfl,rfl,rfl,rfl,trivial⟩ (by decide) rfl st)
  replace h41:=z14 b47 h41
  refine RL.mv rfl rfl rfl ?_
  obtain⟨y48,e49,h41⟩:=z7 h41
  refine RL.idxS (sz:=2) 0 Tryz.underlying23 z4c rfl rfl rfl rfl rfl SlOf.imm (z8 e49).1 (z8 e49).2.1 ?_
  refine RL.fadrS (off:=(((0:Int)).toNat*2)) (fo:=0) 0 z2u rfl rfl rfl SlOf.imm (by have:=(List.getElem?_eq_some_iff.1 (z8 e49).2.2).1;(try dsimp only at this ⊢);omega) rfl ?_
  refine RL.ldS (i:=((0:Int)).toNat) (r:=(TR.sl (TR.pair TR.int TR.int))) (e':=y48.1) 0 z4d rfl rfl rfl rfl SlOf.imm (z8 e49).2.2 (Part.fst Part.self) ?_
  intro v50
  refine RL.lenS 1 Tryz.underlying32 rfl rfl rfl rfl SlOf.imm ?_
  refine RL.binI (v:=.bool (((y48.1).length:Int) != (2:Int))) rfl rfl rfl rfl rfl ?_
  refine RL.pickF rfl rfl rfl rfl ?_
  refine RL.mv rfl rfl rfl ?_
  refine RL.split (t:=41) rfl (fun b51=>?_) (fun b51=>?_)
  ·replace h41:=z13 b51 h41
   refine RL.skip rfl rfl ?_
   refine RL.skip rfl rfl ?_
   refine RL.skip rfl rfl ?_
   refine RL.skip rfl rfl ?_
   refine RL.skip rfl rfl ?_
   refine RL.skip rfl rfl ?_
   refine RL.skip rfl rfl ?_
   refine RL.skip rfl rfl ?_
   refine RL.pickT rfl rfl rfl rfl ?_
   refine RL.fin ?_
   cases h41
   exact fun a w st=>ze true h42 (St.cut [] ⟨rfl,rfl,rfl,rfl,rfl,trivial⟩ (by decide) rfl st)
  replace h41:=z14 b51 h41
  refine RL.mv rfl rfl rfl ?_
  obtain⟨y52,e53,h41⟩:=z7 h41
  refine RL.idxS (sz:=2) 0 Tryz.underlying23 z4c rfl rfl rfl rfl rfl SlOf.imm (z8 e53).1 (z8 e53).2.1 ?_
  refine RL.fadrS (off:=(((0:Int)).toNat*2)) (fo:=0) 0 z2u rfl rfl rfl SlOf.imm (by have:=(List.getElem?_eq_some_iff.1 (z8 e53).2.2).1;(try dsimp only at this ⊢);omega) rfl ?_
  refine RL.ldS (i:=((0:Int)).toNat) (r:=(TR.sl (TR.pair TR.int TR.int))) (e':=y52.1) 0 z4d rfl rfl rfl rfl SlOf.imm (z8 e53).2.2 (Part.fst Part.self) ?_
  intro v54
  refine RL.reL (L':=[imm (TR.sl (TR.pair (TR.sl (TR.pair TR.int TR.int)) (TR.sl TR.int))) v9 x9,imm (TR.sl (TR.pair TR.int TR.int)) v50 y48.1,imm (TR.sl (TR.pair TR.int TR.int)) v54 y52.1]) rfl ?_
  obtain⟨y55,e56,h41⟩:=z7 h41
  refine RL.idxS (sz:=2) 2 Tryz.underlying32 zj rfl rfl rfl rfl rfl SlOf.imm (z8 e56).1 (z8 e56).2.1 ?_
  refine RL.ldS (i:=((1:Int)).toNat) (r:=(TR.pair TR.int TR.int)) (e':=y55) 2 zj rfl rfl rfl rfl SlOf.imm (z8 e56).2.2 Part.self ?_
  intro v57
  refine RL.bld (t:=(TR.pair TR.int TR.int)) (d0:=(((1:Int),(0:Int)):(Int×Int))) (pv:=[(0,.int .i64 (1:Int))]) rfl z5v rfl rfl rfl ⟨⟨_,_,TR.int,(1:Int),rfl,rfl,Fw.VR.int⟩,trivial⟩ (fun S f hi=>by
    obtain⟨c0,e0,r0⟩:=z28 (t:=TR.int) (u:=.int .i64 (1:Int)) (e:=(1:Int)) (Fw.VR.int S f hi)
    show TR.rep (TR.pair TR.int TR.int) S (List.flatten [(.int .i64 (1:Int):Value).cells.toList,[.int .i64 0]]) _
    simp only[e0,List.flatten_cons,List.flatten_nil,List.append_nil]
    exact⟨_,_,rfl,r0,rfl⟩) ?_
  intro v58
  refine RL.reL (L':=[imm (TR.sl (TR.pair (TR.sl (TR.pair TR.int TR.int)) (TR.sl TR.int))) v9 x9,imm (TR.sl (TR.pair TR.int TR.int)) v50 y48.1,imm (TR.sl (TR.pair TR.int TR.int)) v54 y52.1,imm (TR.pair TR.int TR.int) v57 y55,imm (TR.pair TR.int TR.int) v58 (((1:Int),(0:Int)):(Int×Int))]) rfl ?_
  refine RL.neG (t:=(TR.pair TR.int TR.int)) (e:=y55) (e':=(((1:Int),(0:Int)):(Int×Int))) rfl Tryz_eq37 (by decide) Tryz.eqGuardType37 rfl rfl rfl rfl (Fw.VR.item 3 rfl) (Fw.VR.item 4 rfl) ?_
  refine RL.pickF rfl rfl rfl rfl ?_
  refine RL.fin ?_
  cases h41
  exact fun a w st=>ze (!(decide (y55=(((1:Int),(0:Int)):(Int×Int))))) h42 (St.cut [] ⟨rfl,rfl,rfl,rfl,rfl,trivial⟩ (by decide) rfl st)
 rintro x38 h59
 have h60:=h43 _ h59
 try dsimp only at h60
 refine GL.weak (env':=[(50,.bool x38),(0,.int .i64 h1),(1,.int .i64 h2),(2,js),(3,.int .i64 x3)]) (L':=[]) (fun _ _ st=>st) ?_
 have h60:=Option.some.inj h60
 subst h60
 exact gl_end hc
set_option maxHeartbeats 4000000 in
theorem same_gl{w:World}{S:Hp}{h1 h2 x3:Int}{js v11 v13:Value}{x11 x13:List ((List (Int×Int))×(List Int))}{envO:Env}(hS:S.sub w)(hm:z8c x11 x13=some true)(hc:z81 [(0,.int .i64 h1),(1,.int .i64 h2),(2,js),(3,.int .i64 x3),(11,v11)] envO):GL Tryz.prog (zal 157 envO w) ⟨w,S,157,false,[]⟩ [B8] [(0,.int .i64 h1),(1,.int .i64 h2),(2,js),(3,.int .i64 x3),(11,v11),(13,v13)] [imm (TR.sl (TR.pair (TR.sl (TR.pair TR.int TR.int)) (TR.sl TR.int))) v11 x11,imm (TR.sl (TR.pair (TR.sl (TR.pair TR.int TR.int)) (TR.sl TR.int))) v13 x13]:=by
 unfold z8c at hm
 refine GL.seq ?_
 refine GL.region ?_
 refine RL.mv rfl rfl rfl ?_
 refine RL.lenS 0 Tryz.underlying23 rfl rfl rfl rfl SlOf.imm ?_
 refine RL.mv rfl rfl rfl ?_
 refine RL.finG ?_
 refine GL.open_ 0 rfl (fun S h=>z77 S h) (fun n77=>?_)
 obtain⟨y78,K79,h80,h81,h82,h83,h84⟩:=z1z hm
 refine GL.join (ι:=Unit) (fun(p:Unit)=>[(0,.int .i64 h1),(1,.int .i64 h2),(2,js),(3,.int .i64 x3),(11,v11)]) (fun(p:Unit)=>[]) (fun(p:Unit)=>K79 (.nx ())) ?_ ?_
 ·refine GL.block ?_
  refine GL.loop (ι:=Nat×(List ((List (Int×Int))×(List Int)))) (fun(p:Nat×(List ((List (Int×Int))×(List Int))))=>[(0,.int .i64 h1),(1,.int .i64 h2),(2,js),(3,.int .i64 x3),(11,v11),(13,v13),(90,.int .i64 ((x11).length:Int)),(91,.int .i64 (p.1:Int))]) (fun(p:Nat×(List ((List (Int×Int))×(List Int))))=>[imm (TR.sl (TR.pair (TR.sl (TR.pair TR.int TR.int)) (TR.sl TR.int))) v11 x11,imm (TR.sl (TR.pair (TR.sl (TR.pair TR.int TR.int)) (TR.sl TR.int))) v13 x13]) (fun(p:Nat×(List ((List (Int×Int))×(List Int))))=>p.1+p.2.length=(x11).length∧List.drop p.1 x11=p.2∧z2w (z8o x13) p.2 p.1 ()=some y78) (fun(p:Nat×(List ((List (Int×Int))×(List Int))))=>p.2.length) (0,x11) ⟨by simp,by simp,h80⟩ (fun a w st=>St.cut [0,1] ⟨rfl,rfl,rfl,rfl,rfl,rfl,rfl,rfl,trivial⟩ (by decide) rfl st) ?_
  rintro⟨i85,r86⟩ ⟨h91,h92,h90⟩
  try dsimp only at h91 h92 h90
  refine GL.weak (env':=[(0,.int .i64 h1),(1,.int .i64 h2),(2,js),(3,.int .i64 x3),(11,v11),(13,v13),(90,.int .i64 ((x11).length:Int)),(91,.int .i64 (i85:Int))]) (L':=[imm (TR.sl (TR.pair (TR.sl (TR.pair TR.int TR.int)) (TR.sl TR.int))) v11 x11,imm (TR.sl (TR.pair (TR.sl (TR.pair TR.int TR.int)) (TR.sl TR.int))) v13 x13]) (fun _ _ st=>st) ?_
  refine GL.seq ?_
  refine GL.region ?_
  refine RL.binI (v:=.bool (decide ((i85:Int)<((x11).length:Int)))) rfl rfl rfl rfl rfl ?_
  refine RL.finG ?_
  refine GL.seq ?_
  refine GL.cond rfl (fun b93=>?_) (fun b93=>?_)
  ·have h94:i85<(x11).length:=by have:=of_decide_eq_true b93;omega
   obtain⟨y95,r97,hr,e96,h98⟩:=z48 h92 rfl h94
   subst hr
   obtain⟨z87,h88,h89⟩:=z2x h90
   unfold z8o at h88
   try dsimp only at h88
   refine GL.skip ?_
   refine GL.seq ?_
   refine GL.block ?_
   refine GL.seq ?_
   refine GL.region ?_
   refine RL.mv rfl rfl rfl ?_
   refine RL.asg rfl rfl rfl ?_
   refine RL.finG ?_
   refine GL.seq ?_
   obtain⟨y126,K127,h128,h129,h130,h131,h132⟩:=z78 h88
   refine GL.join (ι:=Bool) (fun(p:Bool)=>[(0,.int .i64 h1),(1,.int .i64 h2),(2,js),(3,.int .i64 x3),(11,v11),(13,v13),(90,.int .i64 ((x11).length:Int)),(91,.int .i64 (i85:Int)),(119,.bool p)]) (fun(p:Bool)=>[imm (TR.sl (TR.pair (TR.sl (TR.pair TR.int TR.int)) (TR.sl TR.int))) v11 x11,imm (TR.sl (TR.pair (TR.sl (TR.pair TR.int TR.int)) (TR.sl TR.int))) v13 x13]) (fun(p:Bool)=>K127 (.nx p)) ?_ ?_
   ·skip
    refine GL.regionQ rfl rfl (by kernel_rfl) ?_
    refine RL.mv rfl rfl rfl ?_
    refine RL.mv rfl rfl rfl ?_
    refine RL.idxS (sz:=2) 0 Tryz.underlying23 z4c rfl rfl rfl rfl rfl SlOf.imm (by omega) (by omega) ?_
    refine RL.fadrS (off:=(i85*2)) (fo:=0) 0 z2u rfl rfl rfl SlOf.imm (by have:=(List.getElem?_eq_some_iff.1 e96).1;(try dsimp only at this ⊢);omega) rfl ?_
    refine RL.ldS (i:=i85) (r:=(TR.sl (TR.pair TR.int TR.int))) (e':=y95.1) 0 z4d rfl rfl rfl rfl SlOf.imm e96 (Part.fst Part.self) ?_
    intro v133
    refine RL.mv rfl rfl rfl ?_
    refine RL.mv rfl rfl rfl ?_
    obtain⟨y134,e135,h128⟩:=z7 h128
    refine RL.idxS (sz:=2) 1 Tryz.underlying23 z4c rfl rfl rfl rfl rfl SlOf.imm (z8 e135).1 (z8 e135).2.1 ?_
    refine RL.fadrS (off:=(i85*2)) (fo:=0) 1 z2u rfl rfl rfl SlOf.imm (by have:=(List.getElem?_eq_some_iff.1 (z8 e135).2.2).1;(try dsimp only at this ⊢);omega) rfl ?_
    refine RL.ldS (i:=i85) (r:=(TR.sl (TR.pair TR.int TR.int))) (e':=y134.1) 1 z4d rfl rfl rfl rfl SlOf.imm (z8 e135).2.2 (Part.fst Part.self) ?_
    intro v136
    refine RL.reL (L':=[imm (TR.sl (TR.pair (TR.sl (TR.pair TR.int TR.int)) (TR.sl TR.int))) v11 x11,imm (TR.sl (TR.pair (TR.sl (TR.pair TR.int TR.int)) (TR.sl TR.int))) v13 x13,imm (TR.sl (TR.pair TR.int TR.int)) v133 y95.1,imm (TR.sl (TR.pair TR.int TR.int)) v136 y134.1]) rfl ?_
    obtain⟨y137,e138,h128⟩:=z7 h128
    refine RL.callV (v:=.bool y137) (vs:=[v133,v136]) Tryz_fit5 rfl (Or.inr ⟨_,rfl⟩) rfl rfl rfl rfl (fun U w hU hW hL=>z3e U w hU _ _ (hL 2 _ _ rfl Seen.imm) _ _ (hL 3 _ _ rfl Seen.imm) _ e138) ?_
    refine RL.notB rfl rfl rfl ?_
    refine RL.mv rfl rfl rfl ?_
    refine RL.split (t:=106) rfl (fun b139=>?_) (fun b139=>?_)
    ·replace h128:=z13 b139 h128
     refine RL.skip rfl rfl ?_
     refine RL.skip rfl rfl ?_
     refine RL.skip rfl rfl ?_
     refine RL.skip rfl rfl ?_
     refine RL.skip rfl rfl ?_
     refine RL.skip rfl rfl ?_
     refine RL.skip rfl rfl ?_
     refine RL.skip rfl rfl ?_
     refine RL.skip rfl rfl ?_
     refine RL.skip rfl rfl ?_
     refine RL.skip rfl rfl ?_
     refine RL.skip rfl rfl ?_
     refine RL.pickT rfl rfl rfl rfl ?_
     refine RL.finQ ?_
     cases h128
     exact fun a w st=>ze true h129 (St.cut [0,1] ⟨rfl,rfl,rfl,rfl,rfl,rfl,rfl,rfl,rfl,trivial⟩ (by decide) rfl st)
    replace h128:=z14 b139 h128
    refine RL.mv rfl rfl rfl ?_
    refine RL.mv rfl rfl rfl ?_
    refine RL.idxS (sz:=2) 0 Tryz.underlying23 z4c rfl rfl rfl rfl rfl SlOf.imm (by omega) (by omega) ?_
    refine RL.fadrS (off:=(i85*2)) (fo:=1) 0 z5b rfl rfl rfl SlOf.imm (by have:=(List.getElem?_eq_some_iff.1 e96).1;(try dsimp only at this ⊢);omega) rfl ?_
    refine RL.ldS (i:=i85) (r:=(TR.sl TR.int)) (e':=y95.2) 0 z7e rfl rfl rfl rfl SlOf.imm e96 (Part.snd Part.self) ?_
    intro v140
    refine RL.mv rfl rfl rfl ?_
    refine RL.mv rfl rfl rfl ?_
    obtain⟨y141,e142,h128⟩:=z7 h128
    refine RL.idxS (sz:=2) 1 Tryz.underlying23 z4c rfl rfl rfl rfl rfl SlOf.imm (z8 e142).1 (z8 e142).2.1 ?_
    refine RL.fadrS (off:=(i85*2)) (fo:=1) 1 z5b rfl rfl rfl SlOf.imm (by have:=(List.getElem?_eq_some_iff.1 (z8 e142).2.2).1;(try dsimp only at this ⊢);omega) rfl ?_
    refine RL.ldS (i:=i85) (r:=(TR.sl TR.int)) (e':=y141.2) 1 z7e rfl rfl rfl rfl SlOf.imm (z8 e142).2.2 (Part.snd Part.self) ?_
    intro v143
    refine RL.reL (L':=[imm (TR.sl (TR.pair (TR.sl (TR.pair TR.int TR.int)) (TR.sl TR.int))) v11 x11,imm (TR.sl (TR.pair (TR.sl (TR.pair TR.int TR.int)) (TR.sl TR.int))) v13 x13,imm (TR.sl (TR.pair TR.int TR.int)) v133 y95.1,imm (TR.sl (TR.pair TR.int TR.int)) v136 y134.1,imm (TR.sl TR.int) v140 y95.2,imm (TR.sl TR.int) v143 y141.2]) rfl ?_
    obtain⟨y144,e145,h128⟩:=z7 h128
    refine RL.callV (v:=.bool y144) (vs:=[v140,v143]) Tryz_fit6 rfl (Or.inr ⟨_,rfl⟩) rfl rfl rfl rfl (fun U w hU hW hL=>z5d U w hU _ _ (hL 4 _ _ rfl Seen.imm) _ _ (hL 5 _ _ rfl Seen.imm) _ e145) ?_
    refine RL.notB rfl rfl rfl ?_
    refine RL.pickF rfl rfl rfl rfl ?_
    refine RL.finQ ?_
    cases h128
    exact fun a w st=>ze (!y144) h129 (St.cut [0,1] ⟨rfl,rfl,rfl,rfl,rfl,rfl,rfl,rfl,rfl,trivial⟩ (by decide) rfl st)
   rintro x125 h146
   have h147:=h130 _ h146
   try dsimp only at h147
   refine GL.weak (env':=[(0,.int .i64 h1),(1,.int .i64 h2),(2,js),(3,.int .i64 x3),(11,v11),(13,v13),(90,.int .i64 ((x11).length:Int)),(91,.int .i64 (i85:Int)),(119,.bool x125)]) (L':=[imm (TR.sl (TR.pair (TR.sl (TR.pair TR.int TR.int)) (TR.sl TR.int))) v11 x11,imm (TR.sl (TR.pair (TR.sl (TR.pair TR.int TR.int)) (TR.sl TR.int))) v13 x13]) (fun _ _ st=>st) ?_
   refine GL.cond rfl (fun b148=>?_) (fun b148=>?_)
   ·replace h147:=z13 b148 h147
    refine GL.seq ?_
    refine GL.region ?_
    refine RL.asg rfl rfl rfl ?_
    refine RL.finG ?_
    cases h147
    replace h89:some (Fl.rt _)=some y78:=h89
    cases h89
    have hh:=h83 _ h81
    cases hh
   replace h147:=z14 b148 h147
   refine GL.skip ?_
   refine GL.nilB ?_
   refine GL.region ?_
   refine RL.binI (v:=.int .i64 ((i85+1:Nat):Int)) rfl rfl rfl rfl (Fw.binI_succ i85 (by omega)) ?_
   refine RL.mv rfl rfl rfl ?_
   refine RL.fin ?_
   cases h147
   exact fun a w st=>z1l (i85+1,r97) ⟨by show i85+1+r97.length=(x11).length;simp only[List.length_cons] at h91;omega,h98,h89⟩ (by simp) (St.cut [0,1] ⟨rfl,rfl,rfl,rfl,rfl,rfl,rfl,rfl,trivial⟩ (by decide) rfl st)
  have h94:¬ i85<(x11).length:=by have:=of_decide_eq_false b93;omega
  obtain rfl:r86=[]:=by rw[← h92];exact List.drop_of_length_le (by omega)
  replace h90:some (Fl.nx _)=some y78:=h90
  cases h90
  exact GL.exit (fun a w st=>ze () h81 (St.cut [] ⟨rfl,rfl,rfl,rfl,rfl,trivial⟩ (by decide) rfl st))
 rintro⟨⟩ _
 exact gl_end hc
set_option maxHeartbeats 4000000 in
theorem last_gl{w:World}{S:Hp}{x3 x17:Int}{v11 v16:Value}{x11 x16:List ((List (Int×Int))×(List Int))}(hS:S.sub w){res:Bool}(hm:z9s x3 x11 x16 x17=some res):GL Tryz.prog (zal 157 [(8,.bool res)] w) ⟨w,S,157,false,[]⟩ [R18] [(3,.int .i64 x3),(11,v11),(16,v16),(17,.int .i64 x17)] [imm (TR.sl (TR.pair (TR.sl (TR.pair TR.int TR.int)) (TR.sl TR.int))) v11 x11,imm (TR.sl (TR.pair (TR.sl (TR.pair TR.int TR.int)) (TR.sl TR.int))) v16 x16]:=by
 unfold z9s at hm
 obtain⟨y40,K41,h42,h43,h44,h45,h46⟩:=z1z hm
 refine GL.join (ι:=Bool) (fun(p:Bool)=>[(8,.bool p)]) (fun(p:Bool)=>[]) (fun(p:Bool)=>K41 (.nx p)) ?_ ?_
 ·skip
  refine GL.regionQ rfl rfl (by kernel_rfl) ?_
  refine RL.mv rfl rfl rfl ?_
  refine RL.binI (v:=.bool (x17==(0:Int))) rfl rfl rfl rfl rfl ?_
  refine RL.mv rfl rfl rfl ?_
  refine RL.split (t:=140) rfl (fun b47=>?_) (fun b47=>?_)
  ·replace h42:=z13 b47 h42
   refine RL.mv rfl rfl rfl ?_
   refine RL.lenS 1 Tryz.underlying23 rfl rfl rfl rfl SlOf.imm ?_
   refine RL.binI (v:=.bool (((x16).length:Int)==(1:Int))) rfl rfl rfl rfl rfl ?_
   refine RL.pickT rfl rfl rfl rfl ?_
   refine RL.mv rfl rfl rfl ?_
   refine RL.split (t:=145) rfl (fun b48=>?_) (fun b48=>?_)
   ·replace h42:=z13 b48 h42
    refine RL.mv rfl rfl rfl ?_
    obtain⟨y49,e50,h42⟩:=z7 h42
    refine RL.idxS (sz:=2) 1 Tryz.underlying23 z4c rfl rfl rfl rfl rfl SlOf.imm (z8 e50).1 (z8 e50).2.1 ?_
    refine RL.fadrS (off:=(((0:Int)).toNat*2)) (fo:=0) 1 z2u rfl rfl rfl SlOf.imm (by have:=(List.getElem?_eq_some_iff.1 (z8 e50).2.2).1;(try dsimp only at this ⊢);omega) rfl ?_
    refine RL.ldS (i:=((0:Int)).toNat) (r:=(TR.sl (TR.pair TR.int TR.int))) (e':=y49.1) 1 z4d rfl rfl rfl rfl SlOf.imm (z8 e50).2.2 (Part.fst Part.self) ?_
    intro v51
    refine RL.mv rfl rfl rfl ?_
    refine RL.mv rfl rfl rfl ?_
    obtain⟨y52,e53,h42⟩:=z7 h42
    refine RL.idxS (sz:=2) 0 Tryz.underlying23 z4c rfl rfl rfl rfl rfl SlOf.imm (z8 e53).1 (z8 e53).2.1 ?_
    refine RL.fadrS (off:=((x3).toNat*2)) (fo:=0) 0 z2u rfl rfl rfl SlOf.imm (by have:=(List.getElem?_eq_some_iff.1 (z8 e53).2.2).1;(try dsimp only at this ⊢);omega) rfl ?_
    refine RL.ldS (i:=(x3).toNat) (r:=(TR.sl (TR.pair TR.int TR.int))) (e':=y52.1) 0 z4d rfl rfl rfl rfl SlOf.imm (z8 e53).2.2 (Part.fst Part.self) ?_
    intro v54
    refine RL.reL (L':=[imm (TR.sl (TR.pair (TR.sl (TR.pair TR.int TR.int)) (TR.sl TR.int))) v11 x11,imm (TR.sl (TR.pair (TR.sl (TR.pair TR.int TR.int)) (TR.sl TR.int))) v16 x16,imm (TR.sl (TR.pair TR.int TR.int)) v51 y49.1,imm (TR.sl (TR.pair TR.int TR.int)) v54 y52.1]) rfl ?_
    obtain⟨y55,e56,h42⟩:=z7 h42
    refine RL.callV (v:=.bool y55) (vs:=[v51,v54]) Tryz_fit5 rfl (Or.inr ⟨_,rfl⟩) rfl rfl rfl rfl (fun U w hU hW hL=>z3e U w hU _ _ (hL 2 _ _ rfl Seen.imm) _ _ (hL 3 _ _ rfl Seen.imm) _ e56) ?_
    refine RL.pickT rfl rfl rfl rfl ?_
    refine RL.asg rfl rfl rfl ?_
    refine RL.finQ ?_
    cases h42
    exact fun a w st=>ze y55 h43 (St.cut [] ⟨rfl,trivial⟩ (by decide) rfl st)
   replace h42:=z14 b48 h42
   refine RL.skip rfl rfl ?_
   refine RL.skip rfl rfl ?_
   refine RL.skip rfl rfl ?_
   refine RL.skip rfl rfl ?_
   refine RL.skip rfl rfl ?_
   refine RL.skip rfl rfl ?_
   refine RL.skip rfl rfl ?_
   refine RL.skip rfl rfl ?_
   refine RL.skip rfl rfl ?_
   refine RL.skip rfl rfl ?_
   refine RL.pickF rfl rfl rfl rfl ?_
   refine RL.asg rfl rfl rfl ?_
   refine RL.finQ ?_
   cases h42
   exact fun a w st=>ze false h43 (St.cut [] ⟨rfl,trivial⟩ (by decide) rfl st)
  replace h42:=z14 b47 h42
  refine RL.skip rfl rfl ?_
  refine RL.skip rfl rfl ?_
  refine RL.skip rfl rfl ?_
  refine RL.pickF rfl rfl rfl rfl ?_
  refine RL.mv rfl rfl rfl ?_
  refine RL.skip rfl rfl ?_
  refine RL.skip rfl rfl ?_
  refine RL.skip rfl rfl ?_
  refine RL.skip rfl rfl ?_
  refine RL.skip rfl rfl ?_
  refine RL.skip rfl rfl ?_
  refine RL.skip rfl rfl ?_
  refine RL.skip rfl rfl ?_
  refine RL.skip rfl rfl ?_
  refine RL.skip rfl rfl ?_
  refine RL.pickF rfl rfl rfl rfl ?_
  refine RL.asg rfl rfl rfl ?_
  refine RL.finQ ?_
  cases h42
  exact fun a w st=>ze false h43 (St.cut [] ⟨rfl,trivial⟩ (by decide) rfl st)
 rintro x39 h57
 have h58:=h44 _ h57
 try dsimp only at h58
 refine GL.weak (env':=[(8,.bool x39)]) (L':=[]) (fun _ _ st=>st) ?_
 have h58:=Option.some.inj h58
 subst h58
 exact gl_end ⟨rfl,trivial⟩
end Go.Mn
