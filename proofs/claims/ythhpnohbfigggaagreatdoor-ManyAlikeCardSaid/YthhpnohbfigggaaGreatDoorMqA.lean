/- many.do comes to its model. -/
import Derived.Test.YthhpnohbfigggaaGreatDoorProg
import Derived.Test.YthhpnohbfigggaaGreatDoorMwModels
import Derived.Test.YthhpnohbfigggaaGreatDoorMwWalks
import Derived.Test.YthhpnohbfigggaaGreatDoorFwR
namespace Go.Wk
open Go.Fw Go.Mo Go.Proofs Go.RowKit
set_option linter.all false
set_option maxRecDepth 100000
theorem zdj:(Tryz.prog.info? 35).map (fun i=>(i.zero,i.size,i.bytes))=some (some (.agg #[.slice none 0 0,.slice none 0 0]),2,48):=by kernel_rfl
theorem z4c:Ln Tryz.prog 35 2 true:=Ln.of zdj Tryz.underlying35 rfl
theorem Tryz_lo35:LnO Tryz.prog 35 2 [.slice none 0 0,.slice none 0 0]:=LnO.of zdj rfl rfl (by decide) (by decide)
theorem Tryz_info32:(Tryz.prog.info? 32).map (fun i=>(i.zero,i.size,i.bytes))=some (some (.slice none 0 0),1,24):=by kernel_rfl
theorem z4d:Ln Tryz.prog 32 1 false:=Ln.of Tryz_info32 Tryz.underlying32 rfl
theorem Tryz_info33:(Tryz.prog.info? 33).map (fun i=>(i.zero,i.size,i.bytes))=some (some (.slice none 0 0),1,24):=by kernel_rfl
theorem z7e:Ln Tryz.prog 33 1 false:=Ln.of Tryz_info33 Tryz.underlying33 rfl
theorem z2u(ad:Addr)(w:World):(Instr.fieldAt 35 (.pointer (some ad)) 0).run Tryz.prog w=.ok (.pointer (some (ad.add 0))) w:=by
  simp[Instr.fieldAt,run_underlying Tryz.underlying35,Instr.sureAddr,fieldPlace,Fw.run_sizeOf z4d]
theorem z5b(ad:Addr)(w:World):(Instr.fieldAt 35 (.pointer (some ad)) 1).run Tryz.prog w=.ok (.pointer (some (ad.add 1))) w:=by
  simp[Instr.fieldAt,run_underlying Tryz.underlying35,Instr.sureAddr,fieldPlace,Fw.run_sizeOf z7e]
theorem Tryz_fit27:Fit Tryz.prog 27:=Fit.of Tryz.func27 (by kernel_rfl) rfl
theorem Tryz_fit28:Fit Tryz.prog 28:=Fit.of Tryz.func28 (by kernel_rfl) rfl
abbrev TrR:TR (Value×Value):=TR.pair TR.raw TR.raw
abbrev TrT:TR (Int×Int):=TR.pair TR.int TR.int
theorem rawNil:∀ S,TrR.rep S [.slice none 0 0,.slice none 0 0] (.slice none 0 0,.slice none 0 0):=fun S=>⟨[_],[_],rfl,⟨rfl,rfl⟩,rfl,rfl⟩
def Stand(b4 b7:Nat)(p q:Value)(i j:Int)(w:World):Prop:=w.heap[b4]?=some (.cells #[p,q] 35 (0,0))∧w.heap[b7]?=some (.cells #[.int .i64 i,.int .i64 j] 37 (0,0))
theorem z4y{c:Cx}{env:Env}{L:List It}{a:Act}{w:World}{b4 b7:Nat}{p q:Value}{d:Int×Int}(n m:Nat)(hA:L[n]?=some (obox 35 TrR (.pointer (some ⟨b4,0,none⟩)) (p,q)))(hB:L[m]?=some (obox 37 TrT (.pointer (some ⟨b7,0,none⟩)) d))(st:St c env L a w):Stand b4 b7 p q d.1 d.2 w:=by
  obtain⟨S,f,_,_,h3,h4⟩:=st.heap
  have hn:=(List.getElem?_eq_some_iff.1 hA).1
  have hm:=(List.getElem?_eq_some_iff.1 hB).1
  obtain⟨b,cs,e1,e2,c1,c2,rfl,⟨rfl,_⟩,rfl,_⟩:=h4 n _ hA
  obtain⟨b',cs',e1',e2',c1',c2',rfl,e5,e6⟩:=h4 m _ hB
  obtain rfl:c1'=[.int .i64 d.1]:=e5
  obtain rfl:c2'=[.int .i64 d.2]:=e6
  cases e1
  cases e1'
  exact⟨h3.subf n hn _ _ e2,h3.subf m hm _ _ e2'⟩
theorem box_at{c:Cx}{env:Env}{L:List It}{a:Act}{w:World}{α:Type}{e:TypeId}{t:TR α}{v:Value}{d:α}(n:Nat)(hA:L[n]?=some (obox e t v d))(st:St c env L a w):∃ b,v=.pointer (some ⟨b,0,none⟩):=by
  obtain⟨S,f,_,_,h3,h4⟩:=st.heap
  obtain⟨b,cs,e1,_⟩:=h4 n _ hA
  exact⟨b,e1⟩
theorem Stand.l0{b4 b7:Nat}{p q:Value}{i j:Int}{w:World}(h:Stand b4 b7 p q i j w):(Instr.loadAt 32 (.pointer (some ⟨b4,0,none⟩))).run Tryz.prog w=.ok p w:=
  z6v z4d w b4 0 [p] rfl (fun _=>rfl) fun j u hu=>by
    match j,hu with
    |0,hu=>simp at hu;subst hu;simp[World.cell?,h.1]
theorem Stand.l1{b4 b7:Nat}{p q:Value}{i j:Int}{w:World}(h:Stand b4 b7 p q i j w):(Instr.loadAt 33 (.pointer (some ⟨b4,1,none⟩))).run Tryz.prog w=.ok q w:=
  z6v z7e w b4 1 [q] rfl (fun _=>rfl) fun j u hu=>by
    match j,hu with
    |0,hu=>simp at hu;subst hu;simp[World.cell?,h.1]
theorem Stand.l7{b4 b7:Nat}{p q:Value}{i j:Int}{w:World}(h:Stand b4 b7 p q i j w):(Instr.loadAt 37 (.pointer (some ⟨b7,0,none⟩))).run Tryz.prog w=.ok (.agg #[.int .i64 i,.int .i64 j]) w:=
  z6v zj w b7 0 [.int .i64 i,.int .i64 j] rfl (fun h=>by cases h) fun k u hu=>by
    match k,hu with
    |0,hu=>simp at hu;subst hu;simp[World.cell?,h.2]
    |1,hu=>simp at hu;subst hu;simp[World.cell?,h.2]
set_option maxHeartbeats 16000000 in
theorem many_do_c(S:Hp)(w:World)(hS:S.sub w)(hT:Tab Tryz.prog (Tryz.lays146_ren.g 1) S)(v0:Value)(x0:List DeT)(k0:(TR.sl TrE).vrep S v0 x0)(res:List (Int×Int)×List Int)(hm:many_do_m x0=some res) :
    Calls Tryz.prog 10 #[v0] w (Post w S (fun(o:Value×Value)=>.agg #[o.1,o.2]) (fun(o:Value×Value)=>[own 37 TrT o.1 res.1,own 24 TR.int o.2 res.2])):=by
 refine zi 36 Tryz.func10 Tryz.ntmps10 rfl S false [(0,v0)] [imm (TR.sl TrE) v0 x0] rfl ⟨rfl,trivial⟩ hS ⟨k0,trivial⟩ ?_
 unfold many_do_m at hm
 refine GL.seq ?_
 refine GL.region ?_
 refine RL.alloc (t:=TrR) (z:=(.slice none 0 0,.slice none 0 0)) Tryz_lo35 rawNil rfl rfl rfl ?_
 intro v2
 refine RL.finG ?_
 refine GL.seq ?_
 refine GL.region ?_
 obtain⟨y6,e7,hm⟩:=z7 hm
 refine RL.call (vs:=[]) Tryz_fit27 rfl rfl rfl rfl rfl (fun S f w hS hW hi=>house_New_c S w hS  _ e7) ?_
 intro⟨v8,u9⟩
 refine RL.reL (L':=[imm (TR.sl TrE) v0 x0,obox 35 TrR v2 (.slice none 0 0,.slice none 0 0),obox 87 TrH v8 (y6.1,(y6.2.1,u9)),obox 98 (TR.pair TR.str TR.int) u9 y6.2.2]) rfl ?_
 refine RL.asg rfl rfl rfl ?_
 refine RL.finG ?_
 refine GL.seq ?_
 refine GL.region ?_
 refine RL.alloc (t:=TrR) (z:=(.slice none 0 0,.slice none 0 0)) Tryz_lo35 rawNil rfl rfl rfl ?_
 intro v4
 refine RL.reL (L':=[imm (TR.sl TrE) v0 x0,obox 35 TrR v2 (.slice none 0 0,.slice none 0 0),obox 87 TrH v8 (y6.1,(y6.2.1,u9)),obox 98 (TR.pair TR.str TR.int) u9 y6.2.2,obox 35 TrR v4 (.slice none 0 0,.slice none 0 0)]) rfl ?_
 refine RL.finG ?_
 refine GL.seq ?_
 refine GL.seq ?_
 refine GL.region ?_
 refine RL.mv rfl rfl rfl ?_
 refine RL.lenS 0 Tryz.underlying31 rfl rfl rfl rfl SlOf.imm ?_
 refine RL.mv rfl rfl rfl ?_
 refine RL.finG ?_
 refine GL.open_ 0 rfl (fun S h=>z77 S h) (fun n44=>?_)
 refine GL.weak (fun a w st=>(st.nilOwn 37 TrT).nilOwn 24 TR.int) ?_
 refine GL.weak (env':=[(2,v2),(3,v8),(4,v4),(10,v0),(11,.int .i64 ((x0).length:Int)),(12,.int .i64 (0:Int))]) (L':=[obox 87 TrH v8 (y6.1,(y6.2.1,u9)),obox 98 (TR.pair TR.str TR.int) u9 y6.2.2,imm (TR.sl TrE) v0 x0,obox 35 TrR v2 (.slice none 0 0,.slice none 0 0),obox 35 TrR v4 (.slice none 0 0,.slice none 0 0),own 37 TrT (.slice none 0 0) [],own 24 TR.int (.slice none 0 0) []]) (fun a w st=>St.cut [2,3,0,1,4,5,6] ⟨rfl,rfl,rfl,rfl,rfl,rfl,trivial⟩ (by decide) rfl st) ?_
 obtain⟨y45,K46,h47,h48,h49,h50,h51⟩:=z1z hm
 refine GL.join (ι:=StT×Value×Value) (fun p=>[(2,v2),(4,v4)]) (fun p=>[obox 35 TrR v2 (.slice none 0 0,.slice none 0 0),obox 35 TrR v4 (p.2.1,p.2.2),own 37 TrT p.2.1 p.1.2.1,own 24 TR.int p.2.2 p.1.2.2]) (fun p=>K46 (.nx p.1)) ?_ ?_
 ·refine GL.block ?_
  refine GL.loop (ι:=Nat×List DeT×StT×Value×Value) (fun p=>[(2,v2),(3,v8),(4,v4),(10,v0),(11,.int .i64 ((x0).length:Int)),(12,.int .i64 (p.1:Int))]) (fun p=>[obox 87 TrH v8 (p.2.2.1.1.1,(p.2.2.1.1.2.1,u9)),obox 98 (TR.pair TR.str TR.int) u9 p.2.2.1.1.2.2,imm (TR.sl TrE) v0 x0,obox 35 TrR v2 (.slice none 0 0,.slice none 0 0),obox 35 TrR v4 (p.2.2.2.1,p.2.2.2.2),own 37 TrT p.2.2.2.1 p.2.2.1.2.1,own 24 TR.int p.2.2.2.2 p.2.2.1.2.2])
   (fun p=>p.1+p.2.1.length=(x0).length∧List.drop p.1 x0=p.2.1∧z2w z9t p.2.1 p.1 p.2.2.1=some y45) (fun p=>(x0).length-p.1) (0,x0,(y6,[],[]),.slice none 0 0,.slice none 0 0) ⟨by simp,rfl,h47⟩ (fun _ _ st=>st) ?_
  rintro⟨i52,r53,⟨l27,la,lb⟩,P,Q⟩ ⟨h58,h59,h57⟩
  try dsimp only at h58 h59 h57
  refine GL.weak (env':=[(2,v2),(3,v8),(4,v4),(10,v0),(11,.int .i64 ((x0).length:Int)),(12,.int .i64 (i52:Int))]) (L':=[obox 87 TrH v8 (l27.1,(l27.2.1,u9)),obox 98 (TR.pair TR.str TR.int) u9 l27.2.2,imm (TR.sl TrE) v0 x0,obox 35 TrR v2 (.slice none 0 0,.slice none 0 0),obox 35 TrR v4 (P,Q),own 37 TrT P la,own 24 TR.int Q lb]) (fun _ _ st=>st) ?_
  refine GL.seq ?_
  refine GL.region ?_
  refine RL.binI (v:=.bool (decide ((i52:Int)<((x0).length:Int)))) rfl rfl rfl rfl rfl ?_
  refine RL.finG ?_
  refine GL.seq ?_
  refine GL.cond rfl (fun b60=>?_) (fun b60=>?_)
  ·have h61:i52<(x0).length:=by have:=of_decide_eq_true b60;omega
   obtain⟨y62,r64,hr,e63,h65⟩:=z48 h59 rfl h61
   subst hr
   obtain⟨z54,h55,h56⟩:=z2x h57
   unfold z9t at h55
   try dsimp only at h55
   refine GL.skip ?_
   refine GL.seq ?_
   refine GL.block ?_
   refine GL.seq ?_
   refine GL.region ?_
   refine RL.idxS (sz:=9) 2 Tryz.underlying31 z7f rfl rfl rfl rfl rfl SlOf.imm (by omega) (by omega) ?_
   refine RL.ldS (i:=i52) (r:=TrE) (e':=y62) 2 z7f rfl rfl rfl rfl SlOf.imm e63 Part.self ?_
   intro v68
   refine RL.alloc (t:=TrE) (z:=((0:Int),(0:Int),([]:List UInt8),(([]:List UInt8),([]:List UInt8),(0:Int),(0:Int),(0:Int),(0:Int)))) Tryz_lo30 (fun S=>⟨[.int .i64 0],_,rfl,rfl,⟨[.int .i64 0],_,rfl,rfl,⟨[.string ⟨#[]⟩],_,rfl,rfl,⟨[.string ⟨#[]⟩],_,rfl,rfl,⟨[.string ⟨#[]⟩],_,rfl,rfl,⟨[.int .i64 0],_,rfl,rfl,⟨[.int .i64 0],_,rfl,rfl,⟨[.int .i64 0],_,rfl,rfl,rfl⟩⟩⟩⟩⟩⟩⟩⟩) rfl rfl rfl ?_
   intro v69
   refine RL.stP (off:=0) (e':=y62) (d1:=y62) (r:=TrE) 8 z7f rfl rfl (Or.inr ⟨rfl,rfl⟩) rfl (VR.item 7 rfl) rfl Upd.self ?_
   refine RL.finG ?_
   refine GL.seq ?_
   refine GL.region ?_
   refine RL.mv rfl rfl rfl ?_
   refine RL.ldP (off:=0) (r:=TrE) (e':=y62) 8 z7f rfl rfl (Or.inr ⟨rfl,rfl⟩) rfl PtOf.obox Part.self ?_
   intro v74
   refine RL.reL (L':=[obox 87 TrH v8 (l27.1,(l27.2.1,u9)),obox 98 (TR.pair TR.str TR.int) u9 l27.2.2,imm (TR.sl TrE) v0 x0,obox 35 TrR v2 (.slice none 0 0,.slice none 0 0),obox 35 TrR v4 (P,Q),own 37 TrT P la,own 24 TR.int Q lb,imm TrE v68 y62,obox 30 TrE v69 y62,imm TrE v74 y62]) rfl ?_
   obtain⟨y75,e76,h55⟩:=z7 h55
   refine RL.callK (vs:=[v8,v74]) (V:=fun(o:Value)=>.tuple #[o,.int .i64 y75.2.1]) (LR:=fun(o:Value)=>[obox 87 TrH v8 (y75.2.2.1,(y75.2.2.2.1,u9)),obox 98 (TR.pair TR.str TR.int) u9 y75.2.2.2.2,imm (TR.pair TR.int TR.int) o y75.1]) (Ls:=[obox 87 TrH v8 (l27.1,(l27.2.1,u9)),obox 98 (TR.pair TR.str TR.int) u9 l27.2.2]) [0,1] (by decide) Tryz_fit28 rfl rfl rfl rfl rfl rfl (fun S f X w hO hB hW hI hL=>zc7 _ S X f w _ _ l27  hO hB hI (hT.mono hW) _ _ (hL 9 _ _ rfl Sure.imm) _ e76) ?_
   intro v77
   refine RL.reL (L':=[gone,gone,imm (TR.sl TrE) v0 x0,obox 35 TrR v2 (.slice none 0 0,.slice none 0 0),obox 35 TrR v4 (P,Q),own 37 TrT P la,own 24 TR.int Q lb,imm TrE v68 y62,obox 30 TrE v69 y62,imm TrE v74 y62,obox 87 TrH v8 (y75.2.2.1,(y75.2.2.2.1,u9)),obox 98 (TR.pair TR.str TR.int) u9 y75.2.2.2.2,imm (TR.pair TR.int TR.int) v77 y75.1]) rfl ?_
   refine RL.mv rfl rfl rfl ?_
   refine RL.ext rfl rfl rfl rfl ?_
   refine RL.ext rfl rfl rfl rfl ?_
   refine RL.alloc (t:=TrT) (z:=((0:Int),(0:Int))) z5j (fun S=>⟨[.int .i64 0],_,rfl,rfl,rfl⟩) rfl rfl rfl ?_
   intro v78
   refine RL.stP (off:=0) (e':=y75.1) (d1:=y75.1) (r:=TrT) 13 zj rfl rfl (Or.inr ⟨rfl,rfl⟩) rfl (VR.item 12 rfl) rfl Upd.self ?_
   refine RL.asg rfl rfl rfl ?_
   refine RL.finG ?_
   refine GL.weak (env':=[(2,v2),(3,v8),(4,v4),(7,v78),(8,.int .i64 y75.2.1),(10,v0),(11,.int .i64 ((x0).length:Int)),(12,.int .i64 (i52:Int))]) (L':=[obox 87 TrH v8 (y75.2.2.1,(y75.2.2.2.1,u9)),obox 98 (TR.pair TR.str TR.int) u9 y75.2.2.2.2,imm (TR.sl TrE) v0 x0,obox 35 TrR v2 (.slice none 0 0,.slice none 0 0),obox 35 TrR v4 (P,Q),own 37 TrT P la,own 24 TR.int Q lb,obox 37 TrT v78 y75.1]) (fun a w st=>St.cut [10,11,2,3,4,5,6,13] ⟨rfl,rfl,rfl,rfl,rfl,rfl,rfl,rfl,trivial⟩ (by decide) rfl st) ?_
   obtain⟨_,e80,h55⟩:=z7 h55
   replace e80:=z15 e80
   obtain⟨_,e81,h55⟩:=z7 h55
   replace e81:=z15 e81
   refine GL.regionR rfl rfl (fun a w st=>?_)
   obtain⟨b4,rfl⟩:=box_at 4 rfl st
   obtain⟨b7,rfl⟩:=box_at 7 rfl st
   refine⟨Stand b4 b7 P Q y75.1.1 y75.1.2,[1,2,3,4,6,8,9],z4y 4 7 rfl rfl st,?_⟩
   clear st
   refine RR.pure (v:=.pointer (some ⟨b4,0,none⟩)) 0 rfl (by kernel_rfl) rfl rfl (fun a w st w'=>by have e:=z2u ⟨b4,0,none⟩ w';simp[execOp,zf st.env (x:=.tmp 4) rfl,e,Addr.add]) ?_
   refine RR.pure (v:=.pointer (some ⟨b4,1,none⟩)) 5 rfl (by kernel_rfl) rfl rfl (fun a w st w'=>by have e:=z5b ⟨b4,0,none⟩ w';simp[execOp,zf st.env (x:=.tmp 4) rfl,e,Addr.add]) ?_
   refine RR.pure (v:=.int .i64 y75.2.1) 7 rfl (by kernel_rfl) rfl rfl (fun a w st w'=>by simp[execOp,zf st.env (x:=.tmp 8) rfl]) ?_
   refine RR.rd (v:=P) 1 rfl (by kernel_rfl) rfl rfl (fun a w st w' h=>by simp[execOp,zf st.env (x:=.tmp 22) rfl,h.l0]) ?_
   refine RR.rd (v:=Q) 6 rfl (by kernel_rfl) rfl rfl (fun a w st w' h=>by simp[execOp,zf st.env (x:=.tmp 27) rfl,h.l1]) ?_
   refine RR.rd (v:=.agg #[.int .i64 y75.1.1,.int .i64 y75.1.2]) 2 rfl (by kernel_rfl) rfl rfl (fun a w st w' h=>by simp[execOp,zf st.env (x:=.tmp 7) rfl,h.l7]) ?_
   refine fun a w st _=>RR.all (rs:=[3,8]) (by kernel_rfl) (by decide) ⟨⟨_,rfl,?_⟩,⟨_,rfl,?_⟩,trivial⟩ a w st
   ·refine RL.bS (t:=TrT) (vs:=[.agg #[.int .i64 y75.1.1,.int .i64 y75.1.2]]) ([y75.1]) Tryz.underlying32 z5j rfl rfl rfl rfl ⟨fun _ _ _=>⟨[.int .i64 y75.1.1,.int .i64 y75.1.2],rfl,[_],[_],rfl,rfl,rfl⟩,trivial⟩ rfl (by decide) ?_
    intro v25
    refine RR.next (fun a w st=>z4y 4 7 rfl rfl st) ?_
    refine fun a w st _=>RR.all (rs:=[4,8]) (by kernel_rfl) (by decide) ⟨⟨_,rfl,?_⟩,⟨_,rfl,?_⟩,trivial⟩ a w st
    ·refine RL.appB 5 8 Tryz.underlying32 z5j rfl rfl rfl rfl rfl rfl rfl SlOf.own (zby.of (N:=8796093022208) z7m (by decide) (by decide)) e80 ?_
     intro v26
     refine RR.next (fun a w st=>z4y 4 7 rfl rfl st) ?_
     refine RR.pure (v:=.pointer (some ⟨b4,0,none⟩)) 10 rfl (by kernel_rfl) rfl rfl (fun a w st w'=>by have e:=z2u ⟨b4,0,none⟩ w';simp[execOp,zf st.env (x:=.tmp 4) rfl,e,Addr.add]) ?_
     refine fun a w st _=>RR.all (rs:=[8]) (by kernel_rfl) (by decide) ⟨⟨_,rfl,?_⟩,trivial⟩ a w st
     refine RL.bS (t:=TR.int) (vs:=[.int .i64 y75.2.1]) ([y75.2.1]) Tryz.underlying33 z89 rfl rfl rfl rfl ⟨VR.int,trivial⟩ rfl (by decide) ?_
     intro v30
     refine RR.next (fun a w st=>z4y 4 7 rfl rfl st) ?_
     refine fun a w st _=>RR.all (rs:=[9]) (by kernel_rfl) (by decide) ⟨⟨_,rfl,?_⟩,trivial⟩ a w st
     refine RL.appB 6 9 Tryz.underlying33 z89 rfl rfl rfl rfl rfl rfl rfl SlOf.own (zby.of (N:=17592186044416) z7n (by decide) (by decide)) e81 ?_
     intro v31
     refine RR.next (fun a w st=>z4y 4 7 rfl rfl st) ?_
     refine fun a w st _=>(?_:∀ a w,St _ [(2,v2),(3,v8),(4,.pointer (some ⟨b4,0,none⟩)),(10,v0),(11,.int .i64 ((x0).length:Int)),(12,.int .i64 (i52:Int)),(26,v26),(31,v31),(32,.pointer (some ⟨b4,0,none⟩))] [obox 87 TrH v8 (y75.2.2.1,(y75.2.2.2.1,u9)),obox 98 (TR.pair TR.str TR.int) u9 y75.2.2.2.2,imm (TR.sl TrE) v0 x0,obox 35 TrR v2 (.slice none 0 0,.slice none 0 0),obox 35 TrR (.pointer (some ⟨b4,0,none⟩)) (P,Q),own 37 TrT v26 (la++[y75.1]),own 24 TR.int v31 (lb++[y75.2.1])] a w→_) a w (St.cut [0,1,2,3,4,5,6] ⟨rfl,rfl,rfl,rfl,rfl,rfl,rfl,rfl,rfl,trivial⟩ (by decide) rfl st)
     refine RR.all (rs:=[11]) (by kernel_rfl) (by decide) ⟨⟨_,rfl,?_⟩,trivial⟩
     refine RL.stP (off:=0+0) (e':=v26) (d1:=(v26,Q)) (r:=TR.raw) 4 z4d rfl rfl (Or.inl rfl) rfl (VR.rawOf 5 rfl SlOf.own) rfl (Upd.fst Upd.self) ?_
     refine RR.wrote rfl ?_
     refine RR.all (rs:=[12]) (by kernel_rfl) (by decide) ⟨⟨_,rfl,?_⟩,trivial⟩
     refine RL.fadr (off:=0) (fo:=1) 4 z5b rfl rfl rfl PtOf.obox (Or.inr ⟨rfl,rfl⟩) ?_
     refine RR.wrote rfl ?_
     refine RR.all (rs:=[13]) (by kernel_rfl) (by decide) ⟨⟨_,rfl,?_⟩,trivial⟩
     refine RL.stP (off:=0+1) (e':=v31) (d1:=(v26,v31)) (r:=TR.raw) 4 z7e rfl rfl (Or.inl rfl) rfl (VR.rawOf 6 rfl SlOf.own) rfl (Upd.snd Upd.self) ?_
     refine RR.wrote rfl ?_
     refine RR.done (by kernel_rfl) ?_
     refine GL.nilB ?_
     refine GL.region ?_
     refine RL.binI (v:=.int .i64 ((i52+1:Nat):Int)) rfl rfl rfl rfl (binI_succ i52 (by omega)) ?_
     refine RL.mv rfl rfl rfl ?_
     refine RL.fin ?_
     cases h55
     exact fun a w st=>z1l (i52+1,r64,(y75.2.2,la++[y75.1],lb++[y75.2.1]),v26,v31) ⟨by show i52+1+r64.length=(x0).length;simp only[List.length_cons] at h58;omega,h65,h56⟩ (by show(x0).length-(i52+1)<(x0).length-i52;omega) (St.cut [0,1,2,3,4,5,6] ⟨rfl,rfl,rfl,rfl,rfl,rfl,trivial⟩ (by decide) rfl st)
    ·refine RL.bS (t:=TR.int) (vs:=[.int .i64 y75.2.1]) ([y75.2.1]) Tryz.underlying33 z89 rfl rfl rfl rfl ⟨VR.int,trivial⟩ rfl (by decide) ?_
     intro v30
     refine RR.next (fun a w st=>z4y 4 7 rfl rfl st) ?_
     refine fun a w st _=>RR.all (rs:=[4]) (by kernel_rfl) (by decide) ⟨⟨_,rfl,?_⟩,trivial⟩ a w st
     refine RL.appB 5 8 Tryz.underlying32 z5j rfl rfl rfl rfl rfl rfl rfl SlOf.own (zby.of (N:=8796093022208) z7m (by decide) (by decide)) e80 ?_
     intro v26
     refine RR.next (fun a w st=>z4y 4 7 rfl rfl st) ?_
     refine RR.pure (v:=.pointer (some ⟨b4,0,none⟩)) 10 rfl (by kernel_rfl) rfl rfl (fun a w st w'=>by have e:=z2u ⟨b4,0,none⟩ w';simp[execOp,zf st.env (x:=.tmp 4) rfl,e,Addr.add]) ?_
     refine fun a w st _=>RR.all (rs:=[9]) (by kernel_rfl) (by decide) ⟨⟨_,rfl,?_⟩,trivial⟩ a w st
     refine RL.appB 6 9 Tryz.underlying33 z89 rfl rfl rfl rfl rfl rfl rfl SlOf.own (zby.of (N:=17592186044416) z7n (by decide) (by decide)) e81 ?_
     intro v31
     refine RR.next (fun a w st=>z4y 4 7 rfl rfl st) ?_
     refine fun a w st _=>(?_:∀ a w,St _ [(2,v2),(3,v8),(4,.pointer (some ⟨b4,0,none⟩)),(10,v0),(11,.int .i64 ((x0).length:Int)),(12,.int .i64 (i52:Int)),(26,v26),(31,v31),(32,.pointer (some ⟨b4,0,none⟩))] [obox 87 TrH v8 (y75.2.2.1,(y75.2.2.2.1,u9)),obox 98 (TR.pair TR.str TR.int) u9 y75.2.2.2.2,imm (TR.sl TrE) v0 x0,obox 35 TrR v2 (.slice none 0 0,.slice none 0 0),obox 35 TrR (.pointer (some ⟨b4,0,none⟩)) (P,Q),own 37 TrT v26 (la++[y75.1]),own 24 TR.int v31 (lb++[y75.2.1])] a w→_) a w (St.cut [0,1,2,3,4,5,6] ⟨rfl,rfl,rfl,rfl,rfl,rfl,rfl,rfl,rfl,trivial⟩ (by decide) rfl st)
     refine RR.all (rs:=[11]) (by kernel_rfl) (by decide) ⟨⟨_,rfl,?_⟩,trivial⟩
     refine RL.stP (off:=0+0) (e':=v26) (d1:=(v26,Q)) (r:=TR.raw) 4 z4d rfl rfl (Or.inl rfl) rfl (VR.rawOf 5 rfl SlOf.own) rfl (Upd.fst Upd.self) ?_
     refine RR.wrote rfl ?_
     refine RR.all (rs:=[12]) (by kernel_rfl) (by decide) ⟨⟨_,rfl,?_⟩,trivial⟩
     refine RL.fadr (off:=0) (fo:=1) 4 z5b rfl rfl rfl PtOf.obox (Or.inr ⟨rfl,rfl⟩) ?_
     refine RR.wrote rfl ?_
     refine RR.all (rs:=[13]) (by kernel_rfl) (by decide) ⟨⟨_,rfl,?_⟩,trivial⟩
     refine RL.stP (off:=0+1) (e':=v31) (d1:=(v26,v31)) (r:=TR.raw) 4 z7e rfl rfl (Or.inl rfl) rfl (VR.rawOf 6 rfl SlOf.own) rfl (Upd.snd Upd.self) ?_
     refine RR.wrote rfl ?_
     refine RR.done (by kernel_rfl) ?_
     refine GL.nilB ?_
     refine GL.region ?_
     refine RL.binI (v:=.int .i64 ((i52+1:Nat):Int)) rfl rfl rfl rfl (binI_succ i52 (by omega)) ?_
     refine RL.mv rfl rfl rfl ?_
     refine RL.fin ?_
     cases h55
     exact fun a w st=>z1l (i52+1,r64,(y75.2.2,la++[y75.1],lb++[y75.2.1]),v26,v31) ⟨by show i52+1+r64.length=(x0).length;simp only[List.length_cons] at h58;omega,h65,h56⟩ (by show(x0).length-(i52+1)<(x0).length-i52;omega) (St.cut [0,1,2,3,4,5,6] ⟨rfl,rfl,rfl,rfl,rfl,rfl,trivial⟩ (by decide) rfl st)
   ·refine RL.bS (t:=TR.int) (vs:=[.int .i64 y75.2.1]) ([y75.2.1]) Tryz.underlying33 z89 rfl rfl rfl rfl ⟨VR.int,trivial⟩ rfl (by decide) ?_
    intro v30
    refine RR.next (fun a w st=>z4y 4 7 rfl rfl st) ?_
    refine fun a w st _=>RR.all (rs:=[3]) (by kernel_rfl) (by decide) ⟨⟨_,rfl,?_⟩,trivial⟩ a w st
    refine RL.bS (t:=TrT) (vs:=[.agg #[.int .i64 y75.1.1,.int .i64 y75.1.2]]) ([y75.1]) Tryz.underlying32 z5j rfl rfl rfl rfl ⟨fun _ _ _=>⟨[.int .i64 y75.1.1,.int .i64 y75.1.2],rfl,[_],[_],rfl,rfl,rfl⟩,trivial⟩ rfl (by decide) ?_
    intro v25
    refine RR.next (fun a w st=>z4y 4 7 rfl rfl st) ?_
    refine fun a w st _=>RR.all (rs:=[4]) (by kernel_rfl) (by decide) ⟨⟨_,rfl,?_⟩,trivial⟩ a w st
    refine RL.appB 5 9 Tryz.underlying32 z5j rfl rfl rfl rfl rfl rfl rfl SlOf.own (zby.of (N:=8796093022208) z7m (by decide) (by decide)) e80 ?_
    intro v26
    refine RR.next (fun a w st=>z4y 4 7 rfl rfl st) ?_
    refine RR.pure (v:=.pointer (some ⟨b4,0,none⟩)) 10 rfl (by kernel_rfl) rfl rfl (fun a w st w'=>by have e:=z2u ⟨b4,0,none⟩ w';simp[execOp,zf st.env (x:=.tmp 4) rfl,e,Addr.add]) ?_
    refine fun a w st _=>RR.all (rs:=[9]) (by kernel_rfl) (by decide) ⟨⟨_,rfl,?_⟩,trivial⟩ a w st
    refine RL.appB 6 8 Tryz.underlying33 z89 rfl rfl rfl rfl rfl rfl rfl SlOf.own (zby.of (N:=17592186044416) z7n (by decide) (by decide)) e81 ?_
    intro v31
    refine RR.next (fun a w st=>z4y 4 7 rfl rfl st) ?_
    refine fun a w st _=>(?_:∀ a w,St _ [(2,v2),(3,v8),(4,.pointer (some ⟨b4,0,none⟩)),(10,v0),(11,.int .i64 ((x0).length:Int)),(12,.int .i64 (i52:Int)),(26,v26),(31,v31),(32,.pointer (some ⟨b4,0,none⟩))] [obox 87 TrH v8 (y75.2.2.1,(y75.2.2.2.1,u9)),obox 98 (TR.pair TR.str TR.int) u9 y75.2.2.2.2,imm (TR.sl TrE) v0 x0,obox 35 TrR v2 (.slice none 0 0,.slice none 0 0),obox 35 TrR (.pointer (some ⟨b4,0,none⟩)) (P,Q),own 37 TrT v26 (la++[y75.1]),own 24 TR.int v31 (lb++[y75.2.1])] a w→_) a w (St.cut [0,1,2,3,4,5,6] ⟨rfl,rfl,rfl,rfl,rfl,rfl,rfl,rfl,rfl,trivial⟩ (by decide) rfl st)
    refine RR.all (rs:=[11]) (by kernel_rfl) (by decide) ⟨⟨_,rfl,?_⟩,trivial⟩
    refine RL.stP (off:=0+0) (e':=v26) (d1:=(v26,Q)) (r:=TR.raw) 4 z4d rfl rfl (Or.inl rfl) rfl (VR.rawOf 5 rfl SlOf.own) rfl (Upd.fst Upd.self) ?_
    refine RR.wrote rfl ?_
    refine RR.all (rs:=[12]) (by kernel_rfl) (by decide) ⟨⟨_,rfl,?_⟩,trivial⟩
    refine RL.fadr (off:=0) (fo:=1) 4 z5b rfl rfl rfl PtOf.obox (Or.inr ⟨rfl,rfl⟩) ?_
    refine RR.wrote rfl ?_
    refine RR.all (rs:=[13]) (by kernel_rfl) (by decide) ⟨⟨_,rfl,?_⟩,trivial⟩
    refine RL.stP (off:=0+1) (e':=v31) (d1:=(v26,v31)) (r:=TR.raw) 4 z7e rfl rfl (Or.inl rfl) rfl (VR.rawOf 6 rfl SlOf.own) rfl (Upd.snd Upd.self) ?_
    refine RR.wrote rfl ?_
    refine RR.done (by kernel_rfl) ?_
    refine GL.nilB ?_
    refine GL.region ?_
    refine RL.binI (v:=.int .i64 ((i52+1:Nat):Int)) rfl rfl rfl rfl (binI_succ i52 (by omega)) ?_
    refine RL.mv rfl rfl rfl ?_
    refine RL.fin ?_
    cases h55
    exact fun a w st=>z1l (i52+1,r64,(y75.2.2,la++[y75.1],lb++[y75.2.1]),v26,v31) ⟨by show i52+1+r64.length=(x0).length;simp only[List.length_cons] at h58;omega,h65,h56⟩ (by show(x0).length-(i52+1)<(x0).length-i52;omega) (St.cut [0,1,2,3,4,5,6] ⟨rfl,rfl,rfl,rfl,rfl,rfl,trivial⟩ (by decide) rfl st)
  have h61:¬ i52<(x0).length:=by have:=of_decide_eq_false b60;omega
  obtain rfl:r53=[]:=by rw[← h59];exact List.drop_of_length_le (by omega)
  replace h57:some (Fl.nx _)=some y45:=h57
  cases h57
  exact GL.exit (fun a w st=>ze ((l27,la,lb),P,Q) h48 (St.cut [3,4,5,6] ⟨rfl,rfl,trivial⟩ (by decide) rfl st))
 rintro⟨⟨l27,la,lb⟩,P,Q⟩ h78
 have h79:=h49 _ h78
 try dsimp only at h79
 refine GL.weak (env':=[(2,v2),(4,v4)]) (L':=[obox 35 TrR v2 (.slice none 0 0,.slice none 0 0),obox 35 TrR v4 (P,Q),own 37 TrT P la,own 24 TR.int Q lb]) (fun _ _ st=>st) ?_
 refine GL.seq ?_
 refine GL.region ?_
 refine RL.ldPx (off:=0) (e':=(P,Q)) (enc:=fun x=>.agg #[x.1,x.2]) 1 (fun S cs e h=>by obtain⟨c1,c2,rfl,⟨rfl,_⟩,rfl,_⟩:=h;rfl) z4c rfl rfl (Or.inr ⟨rfl,rfl⟩) rfl PtOf.obox Part.self ?_
 refine RL.stP (off:=0) (e':=(P,Q)) (d1:=(P,Q)) (r:=TrR) 0 z4c rfl rfl (Or.inr ⟨rfl,rfl⟩) rfl (fun S f hi=>by
   obtain⟨b,cs,_,_,c1,c2,rfl,⟨rfl,h1⟩,rfl,h2⟩:=hi 1 _ rfl
   exact⟨[P,Q],rfl,[P],[Q],rfl,⟨rfl,h1⟩,rfl,h2⟩) rfl Upd.self ?_
 refine RL.finG ?_
 have h79:=Option.some.inj h79
 subst h79
 exact GL.ret (Gx.retX [.cell 2 35] rfl (fun a w st=>by
   have st0:=st
   obtain⟨u14,hu14,st⟩:=st.cellRes (p:=2) (T:=35) 0 z4c rfl rfl rfl
   have hu:u14=.agg #[P,Q]:=by
     obtain⟨S,f,_,_,_,h4⟩:=st.heap
     obtain⟨cs,e,c1,c2,rfl,⟨rfl,_⟩,rfl,_⟩:=h4 4 _ rfl
     exact e
   subst hu
   exact⟨[.agg #[P,Q]],⟨hu14,trivial⟩,(st.pick [2,3] (by decide) rfl).toPost (P,Q)⟩))
end Go.Wk
