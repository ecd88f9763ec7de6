/- The lone world that goes with a company's world: what may be read is frozen, the rest of its cells are holes. -/
import Derived.Test.YthhpnohbfigggaaGreatDoorMnM
import Derived.Test.YthhpnohbfigggaaGreatDoorFwABCDE
import Derived.Conc.Own3
import Derived.Below
import Derived.Test.YthhpnohbfigggaaGreatDoorMp1
import Derived.Control
set_option linter.all false
namespace Go.Mn
open Go.Fw
section
variable {F:Nat→Prop}{ρ:Bij}
theorem z8s(F:Nat→Prop)(ρ:Bij):∀ v:Value,∃ u,VR F ρ u v
 |.bool b=>⟨_,.bool b⟩
 |.int k n=>⟨_,.int k n⟩
 |.float k b=>⟨_,.hole ⟨rfl,fun xs=>⟨by simp,by simp⟩,by simp⟩⟩
 |.complex k a b=>⟨_,.hole ⟨rfl,fun xs=>⟨by simp,by simp⟩,by simp⟩⟩
 |.string s=>⟨_,.string s⟩
 |.pointer a=>⟨_,.hole ⟨rfl,fun xs=>⟨by simp,by simp⟩,by simp⟩⟩
 |.slice a l c=>⟨_,.hole ⟨rfl,fun xs=>⟨by simp,by simp⟩,by simp⟩⟩
 |.map r=>⟨_,.hole ⟨rfl,fun xs=>⟨by simp,by simp⟩,by simp⟩⟩
 |.chan r=>⟨_,.hole ⟨rfl,fun xs=>⟨by simp,by simp⟩,by simp⟩⟩
 |.func f xs ys=>⟨_,.hole ⟨rfl,fun xs=>⟨by simp,by simp⟩,by simp⟩⟩
 |.nilFunc=>⟨_,.nilFunc⟩
 |.iface t v=>⟨_,.hole ⟨rfl,fun xs=>⟨by simp,by simp⟩,by simp⟩⟩
 |.nilIface=>⟨_,.nilIface⟩
 |.agg xs=>by
  have h:∀ i:Fin xs.size,∃ u,VR F ρ u xs[i]:=fun i=>z8s F ρ xs[i]
  refine⟨.agg (Array.ofFn fun i=>Classical.choose (h i)),.agg (by simp) fun i v v' e e'=>?_⟩
  obtain⟨hl,rfl⟩:=Array.getElem?_eq_some_iff.1 e'
  obtain⟨hl2,rfl⟩:=Array.getElem?_eq_some_iff.1 e
  rw[Array.getElem_ofFn]
  exact Classical.choose_spec (h ⟨i,hl⟩)
 |.tuple xs=>by
  have h:∀ i:Fin xs.size,∃ u,VR F ρ u xs[i]:=fun i=>z8s F ρ xs[i]
  refine⟨.tuple (Array.ofFn fun i=>Classical.choose (h i)),.tuple (by simp) fun i v v' e e'=>?_⟩
  obtain⟨hl,rfl⟩:=Array.getElem?_eq_some_iff.1 e'
  obtain⟨hl2,rfl⟩:=Array.getElem?_eq_some_iff.1 e
  rw[Array.getElem_ofFn]
  exact Classical.choose_spec (h ⟨i,hl⟩)
 termination_by v=>SizeOf.sizeOf v
 decreasing_by
 all_goals simp_wf
 all_goals have:=Array.sizeOf_getElem xs i.1 i.2
 all_goals first|omega|(simp only[Fin.getElem_fin];omega)
open Classical in
noncomputable def fill(F:Nat→Prop)(ρ:Bij)(v:Value):Value:=if VR F ρ v v then v else Classical.choose (z8s F ρ v)
theorem fill_vr(v:Value):VR F ρ (fill F ρ v) v:=by
 unfold fill
 split
 ·assumption
 ·exact Classical.choose_spec (z8s F ρ v)
theorem z88{v:Value}(h:VR F ρ v v):fill F ρ v=v:=if_pos h
def idOn(Q:Nat→Prop):Bij:=⟨fun a b=>a=b∧Q a,fun _ _=>False⟩
open Classical in
noncomputable def loneObj(F:Nat→Prop)(Q:Nat→Prop)(full:Bool)(b:Nat)(o:Obj):Obj:=if Q b then match o with
 |.cells c e fz=>.cells (c.map (fill F (idOn Q))) e (if full then(0,max (c.size+1) fz.2) else fz)
 |o=>o else o
noncomputable def z2n(F:Nat→Prop)(Q:Nat→Prop)(full:Bool)(W:World):World:={W with heap:=W.heap.mapIdx (loneObj F Q full),drawn:=0}
theorem z4z{Q:Nat→Prop}{full:Bool}{W:World}{b:Nat}{c:Array Value}{e:TypeId}{fz:Nat×Nat}(hb:Q b)(h:W.heap[b]?=some (.cells c e fz)):(z2n F Q full W).heap[b]?=some (.cells (c.map (fill F (idOn Q))) e (if full then(0,max (c.size+1) fz.2) else fz)):=by
 simp[z2n,Array.getElem?_mapIdx,h,loneObj,hb]
theorem z8d{Q:Nat→Prop}{full:Bool}{W:World}:(z2n F Q full W).heap.size=W.heap.size:=by simp[z2n]
theorem loneW_wr{P:Program}{Q:Nat→Prop}{full:Bool}{W:World}(hQ:∀ b,Q b→∃ c e fz,W.heap[b]?=some (.cells c e fz))(hg:P.globals.size≤W.heap.size) :
  WR F P (idOn Q) (z2n F Q full W) W:=by
 refine⟨⟨fun {a b c} h h'=>h.1.symm.trans h'.1,fun {a b c} h h'=>h.1.trans h'.1.symm,fun {a b} h _=>h.1⟩,fun {r r'} h=>?_,fun h=>h.elim,by rw[z8d];exact hg,hg⟩
 obtain⟨rfl,h⟩:=h
 obtain⟨c,e,fz,hc⟩:=hQ r h
 refine⟨_,_,z4z h hc,hc,.cells e ⟨by simp,fun i v v' e1 e2=>?_⟩ ?_⟩
 ·rw[Array.getElem?_map,e2] at e1
  simp at e1
  subst e1
  exact fill_vr v'
 ·cases full with
  |false=>exact .inl rfl
  |true=>exact .inr ⟨⟨rfl,by simp;omega⟩,by simp;omega⟩
end
end Go.Mn
set_option maxHeartbeats 1000000
namespace Go.Mn
open Go.Conc (G base)
open Go.Fw Go.RowKit
structure Came(F:Nat→Prop)(P:Program)(Q RO S0:Nat→Prop)(W0:World)(R:World→Ending→World→Prop)(S:Nat→Prop)(v':Value)(W:World):Prop where
 it:∃ (w0 w:World) (σ:Bij) (v:Value),w0.heap=(z2n F Q true W0).heap∧R w0 (.returned v) w∧WR F P σ w W∧VR F σ v v'∧(idOn Q).le σ∧(∀ r r',σ r r'→idOn Q r r'∨S r')
 grow:∀ b,S0 b→S b
 fresh:∀ b,S b→S0 b∨W0.heap.size≤b
 low:∀ b,S b→b<W.heap.size
 size:W0.heap.size≤W.heap.size
 same:∀ b,RO b∨S0 b→W.heap[b]?=W0.heap[b]?
section
variable {F:Nat→Prop}{P:Program}{T:Txt}{main:Bool}{RO S0 Q:Nat→Prop}{W0:World}{f:Nat}{fn:Func}{cb:Code}{args:Array Value}{R:World→Ending→World→Prop}{c:Frame}{cs:List Frame}
theorem Came.rely{S:Nat→Prop}{v':Value}{W W1:World}(h:Came F P Q RO S0 W0 R S v' W)(hQ:∀ b,Q b→RO b∨S0 b)(r:Rly RO S W W1):Came F P Q RO S0 W0 R S v' W1:=by
 obtain⟨⟨w0,w,σ,v,a1,a2,a3,a4,a5,a6⟩,b1,b2,b3,b4,b5⟩:=h
 have hs:∀ r0 r',σ r0 r'→W1.heap[r']?=W.heap[r']? := fun r0 r' h=>by
  rcases a6 r0 r' h with⟨he,h2⟩|h2
  ·subst he;exact(hQ _ h2).elim (r.ro _) fun h=>r.own _ (b1 _ h)
  ·exact r.own _ h2
 exact⟨⟨w0,w,σ,v,a1,a2,zcm a3 r.size hs,a4,a5,a6⟩,b1,b2,fun b hb=>Nat.lt_of_lt_of_le (b3 b hb) r.size,Nat.le_trans b4 r.size,fun b hb=>(hb.elim (r.ro b) fun h=>r.own b (b1 b h)).trans (b5 b hb)⟩
theorem gua_evO{RO S:Nat→Prop}{W:World}{es:Array Event}(h:∀ e∈es,EvG RO S e):Gua RO S S W W es:=⟨Nat.le_refl _,rfl,rfl,rfl,fun _ _ _ _=>rfl,fun _ _ _=>rfl,fun _ h=>h,fun _ h=>.inl h,h⟩
theorem call_tr(pg:Pg F P T)(hQ:∀ b,Q b→(RO b∨S0 b)∧∃ c e fz,W0.heap[b]?=some (.cells c e fz))(hS0:∀ b,S0 b→b<W0.heap.size)(hRO:∀ b,RO b→b<W0.heap.size)(hG:∀ g,T.G g=true→Q g)
  (hF:F f)(hfn:P.funcs[f]?=some fn)(hb:fn.body=some cb)(hg:P.globals.size≤W0.heap.size)(ha:∀ v∈args,VR F (idOn Q) v v)
  (hc:∀ w:World,(w.heap=(z2n F Q true W0).heap∨w.heap=(z2n F Q false W0).heap)→Calls P f args w (R w))
  (hR:∀ w e w',R w e w'→(∃ v,e=.returned v)∧Below w.heap.size w w')
  (hres:∀ (xs:Array Value) (v:Value) (w:World) (τ:Nat→Question→Nat),(results fn xs).run P w=.ok v w→(results fn xs).run P {w with tape:=τ} = .ok v {w with tape:=τ})
  (hpure:∀ (xs:Array Value) (v:Value) (w w':World),(results fn xs).run P w=.ok v w'→w'=w) :
  Tr P main RO (fun S g W=>∃ v',g=G (c.finish v') cs∧Came F P Q RO S0 W0 R S v' W) S0 (G ((base f).at {tmps:=args++Array.replicate (fn.ntmps-args.size) undef,defers:=[]} [.code cb]) (c::cs)) W0:=by
 let fr0:Frame:=(base f).at {tmps:=args++Array.replicate (fn.ntmps-args.size) undef,defers:=[]} [.code cb]
 have hent:Frame.enter P f args .normal=fr0:=_root_.Go.Conc.enter_at args hfn hb
 let Fin:World→Frame→World→Prop:=fun wb fr w'=>∃ (w0:World) (v:Value),w0.heap=wb.heap∧fr.leaving P w' (.returned v)∧R w0 (.returned v) w'∧fr.fn=f
 have ends:∀ wb:World,(wb.heap=(z2n F Q true W0).heap∨wb.heap=(z2n F Q false W0).heap)→∀ τ,∃ N frE w',runN P N (lone fr0 [cbot P] (Lw wb τ))=.next (lone frE [cbot P] w')∧Fin wb frE w':=fun wb hw τ=>by
  obtain⟨e,w',fr,h1,h2,h3,h4⟩:=hc (Lw wb τ) hw [cbot P]
  obtain⟨⟨v,rfl⟩,_⟩:=hR _ _ _ h1
  obtain⟨n,hn⟩:=h2
  rw[hent] at hn
  exact⟨n,fr,w',hn,Lw wb τ,v,rfl,h4,h1,h3⟩
 have fok:∀ wb,ze4 [] (Fin wb):=fun wb fr w' ⟨_,_,_,h,_⟩=>.inl ⟨rfl,h.1⟩
 have wr0:∀ full,WR F P (idOn Q) (z2n F Q full W0) W0:=fun full=>loneW_wr (fun b hb=>(hQ b hb).2) hg
 have har:AR F (idOn Q) (args++Array.replicate (fn.ntmps-args.size) undef) (args++Array.replicate (fn.ntmps-args.size) undef):=
  AR.append ⟨rfl,fun i v v' e e'=>by rw[e] at e';cases e';exact ha v (Array.mem_of_getElem? e)⟩ (AR.replicate z7o _)
 refine lift (F:=F) (T:=T) (wx:=z2n F Q false W0) (w0:=z2n F Q true W0) (ρ:=idOn Q) (e:=[]) (fr0:=fr0) (Fin:=Fin (z2n F Q true W0)) (FinX:=Fin (z2n F Q false W0)) ?_
 refine⟨pg,fun g hg=>⟨rfl,hG g hg⟩,wr0 true,?_,rfl,rfl,fun r r' h=>?_,hS0,hRO,ends _ (.inl rfl),fok _,wr0 false,rfl,fun r r' h=>?_,ends _ (.inr rfl),fok _,fun fr w' h r r' hr=>?_,?_⟩
 ·refine⟨rfl,⟨fn,hfn⟩,har,rfl,fun i hi=>?_,rfl,rfl,rfl,rfl,rfl,rfl,rfl⟩
  simp[fr0,Frame.at] at hi
  subst hi
  exact pg.body f fn hF hfn cb hb
 ·obtain⟨rfl,h⟩:=h
  obtain⟨h1,c,e,fz,h2⟩:=hQ r h
  exact⟨⟨_,_,_,z4z h h2,rfl,by simp;omega⟩,h1⟩
 ·obtain⟨rfl,h⟩:=h
  obtain⟨_,c,e,fz,h2⟩:=hQ r h
  intro c0 e0 f0 c1 e1 f1 x1 x2
  rw[z4z h h2] at x1
  rw[h2] at x2
  cases x1;cases x2;rfl
 ·obtain⟨rfl,hr⟩:=hr
  obtain⟨_,c,e,fz,h2⟩:=hQ r hr
  obtain⟨w0,v,e0,_,h,_⟩:=h
  have hbw:=(hR _ _ _ h).2
  have hl:r<w0.heap.size:=by rw[e0,z8d];exact(Array.getElem?_eq_some_iff.1 h2).1
  intro c0 e0' f0 c1 e1 f1 x1 x2
  rw[hbw.block r hl,e0,x1] at x2
  cases x2;rfl
 ·intro σ S fr fr' w W τ hle hfr hwr hfin hown hgS hfS hlS hsz hsame
  obtain⟨w0,v,e0,⟨hm,hdf,hkd,fn',hfn',hrun⟩,hRR,hff⟩:=hfin
  rw[hff,hfn] at hfn'
  cases hfn'
  have hbw:=(hR _ _ _ hRR).2
  have hFull:∀ r,Q r→z5t w r:=fun r h3=>by
   obtain⟨_,c1,e1,f1,h5⟩:=hQ r h3
   have hl:r<w0.heap.size:=by rw[e0,z8d];exact(Array.getElem?_eq_some_iff.1 h5).1
   have hh:w.heap[r]?=(z2n F Q true W0).heap[r]? := (hbw.block r hl).trans (by rw[e0])
   rw[z4z (F:=F) (full:=true) h3 h5] at hh
   exact⟨_,_,_,hh,rfl,by simp;omega⟩
  refine Tr.step' rfl fun W1 hr=>?_
  have hQS:∀ r r',σ r r'→(r=r'∧Q r'∧(RO r'∨S r'))∨S r':=fun r r' h=>by
   rcases hown r r' h with⟨he,h2⟩|h2
   ·subst he;exact .inl ⟨rfl,h2,(hQ _ h2).1.imp id (hgS _)⟩
   ·exact .inr h2
  have hw1:WR F P σ w W1:=zcm hwr hr.size fun r r' h=>by
   rcases hQS r r' h with⟨_,_,h⟩|h
   ·exact h.elim (hr.ro _) (hr.own _)
   ·exact hr.own _ h
  obtain⟨τ',D,hD,h⟩:=(zee (P:=P) (fn:=fn) hfr.tmps).run hw1
  have hrt:(results fn fr.tmps).run P {w with tape:=τ' } = .ok v {w with tape:=τ' } := hres fr.tmps v (Lw w τ) τ' hrun
  rcases h with⟨a,w1,x1,x2,x3⟩|h
  ·have hx:=(x2 τ' (fun _ _ _=>rfl)).symm.trans hrt
   simp only[Result.ok.injEq] at hx
   obtain⟨rfl,hx⟩:=hx
   have hwh:w1.heap=w.heap:=by have:=congrArg World.heap hx;exact this
   obtain⟨v',W2,es,σ2,y1,y2,y3,y4⟩:=x3 #[]
   have hW2:W2=W1:=hpure fr'.tmps v' W1 W2 (by have:=congrArg Prod.fst y1;rw[Sem.runT_eq] at this;exact this)
   subst hW2
   have e2:stepG P main (G fr' (c::cs)) W2=.go (G (c.finish v') cs) W2 (seen P fr'.fn es):=by
    have h1:=hfr.defers'
    have h2:=hfr.mode.trans hm
    have h3:P.funcs[fr'.fn]?=some fn:=by rw[hfr.fn,hff];exact hfn
    have h4:=hfr.kind'
    obtain⟨f1,f2,f3,f4,f5,f6,f7⟩:=fr'
    simp only at h1 h2 h3 h4 y1
    subst h1 h2 h4
    simp only[G,stepG,unwind,h3,y1]
    simp[GStep.after,doReturn]
   refine⟨_,W2,_,S,e2,gua_evO (fun ev hev=>?_),?_⟩
   ·rcases y4.ev ev (zam _ _ _ ev hev) with h1|h1
    ·simp at h1
    ·cases h1 with
     |@cell r r' o s wr hrr hf=>
      refine .cell ?_
      rcases y4.fresh r r' hrr with h2|⟨_,h2⟩
      ·rcases hQS r r' h2 with⟨he,h3,h4⟩|h3
       ·subst he
        rcases h4 with h4|h4
        ·refine .inr ⟨h4,?_⟩
         cases wr with
         |false=>rfl
         |true=>
          exact absurd (hFull r h3) (hf rfl)
        ·exact .inl h4
       ·exact .inl h3
      ·exact absurd (y3.dom r r' hrr).2 (by omega)
     |@obj r r' wr hrr hf=>
      refine .obj ?_
      rcases y4.fresh r r' hrr with h2|⟨_,h2⟩
      ·rcases hQS r r' h2 with⟨he,h3,h4⟩|h3
       ·subst he
        exact absurd (hFull r h3) hf
       ·exact h3
      ·exact absurd (y3.dom r r' hrr).2 (by omega)
     |ext=>exact .ext
     |room=>exact .room
   ·have hc0:Came F P Q RO S0 W0 R S v' W2:=by
     refine⟨⟨w0,Lw w τ,σ2,a,e0,hRR,y3.tape (by rw[hwh]) rfl,y2,Bij.le_trans hle y4.le,fun r r' h=>?_⟩,hgS,hfS,fun b hb=>Nat.lt_of_lt_of_le (hlS b hb) hr.size,Nat.le_trans hsz hr.size,fun b hb=>?_⟩
     ·rcases y4.fresh r r' h with h2|⟨_,h2⟩
      ·exact hown r r' h2
      ·exact absurd (y3.dom r r' h).2 (by omega)
     ·exact(hb.elim (hr.ro b) fun h=>hr.own b (hgS b h)).trans (hsame b hb)
    exact .stop fun W3 hr3=>⟨v',rfl,hc0.rely (fun b hb=>(hQ b hb).1) hr3⟩
  ·exfalso
   obtain⟨hh,w2,hd,hx⟩:=h τ' (fun _ _ _=>rfl)
   rw[hrt] at hx
   cases hx
end
open Go.Fw Go.RowKit
structure CameA(F:Nat→Prop)(P:Program)(Q RO S0:Nat→Prop)(W0:World)(R:World→Act→World→Prop)(S:Nat→Prop)(a'':Act)(W:World):Prop where
 it:∃ (w0 w:World) (σ:Bij) (a':Act),w0.heap=(z2n F Q true W0).heap∧R w0 a' w∧WR F P σ w W∧AR F σ a'.tmps a''.tmps∧(idOn Q).le σ∧(∀ r r',σ r r'→idOn Q r r'∨S r')
 dfs:a''.defers=[]
 grow:∀ b,S0 b→S b
 fresh:∀ b,S b→S0 b∨W0.heap.size≤b
 low:∀ b,S b→b<W.heap.size
 size:W0.heap.size≤W.heap.size
 same:∀ b,RO b∨S0 b→W.heap[b]?=W0.heap[b]?
section
variable {F:Nat→Prop}{P:Program}{T:Txt}{main:Bool}{RO S0 Q:Nat→Prop}{W0:World}{b:Frame}{a0 a:Act}{C:Code}{k:List Item}{cs:List Frame}{R:World→Act→World→Prop}
theorem CameA.rely{S:Nat→Prop}{a'':Act}{W W1:World}(h:CameA F P Q RO S0 W0 R S a'' W)(hQ:∀ b,Q b→RO b∨S0 b)(r:Rly RO S W W1):CameA F P Q RO S0 W0 R S a'' W1:=by
 obtain⟨⟨w0,w,σ,v,a1,a2,a3,a4,a5,a6⟩,b0,b1,b2,b3,b4,b5⟩:=h
 have hs:∀ r0 r',σ r0 r'→W1.heap[r']?=W.heap[r']? := fun r0 r' h=>by
  rcases a6 r0 r' h with⟨he,h2⟩|h2
  ·subst he;exact(hQ _ h2).elim (r.ro _) fun h=>r.own _ (b1 _ h)
  ·exact r.own _ h2
 exact⟨⟨w0,w,σ,v,a1,a2,zcm a3 r.size hs,a4,a5,a6⟩,b0,b1,b2,fun b hb=>Nat.lt_of_lt_of_le (b3 b hb) r.size,Nat.le_trans b4 r.size,fun b hb=>(hb.elim (r.ro b) fun h=>r.own b (b1 b h)).trans (b5 b hb)⟩
theorem piece_tr(pg:Pg F P T)(hQ:∀ b,Q b→(RO b∨S0 b)∧∃ c e fz,W0.heap[b]?=some (.cells c e fz))(hS0:∀ b,S0 b→b<W0.heap.size)(hRO:∀ b,RO b→b<W0.heap.size)(hG:∀ g,T.G g=true→Q g)
  (hk:k≠[])(hb1:b.kind=.normal)(hb4:∃ fn,P.funcs[b.fn]?=some fn)(hok:okC P T C=true)(hg:P.globals.size≤W0.heap.size)(ha:AR F (idOn Q) a0.tmps a.tmps)(hd0:a0.defers=[])(hd:a.defers=[])
  (hc:∀ w:World,(w.heap=(z2n F Q true W0).heap∨w.heap=(z2n F Q false W0).heap)→∃ a' w',Steps P (lone (b.at a0 [.code C]) [cbot P] w) (lone (b.at a' []) [cbot P] w')∧R w a' w')
  (hR:∀ w a' w',R w a' w'→Below w.heap.size w w') :
  Tr P main RO (fun S g W=>∃ a'',g=G (b.at a'' k) cs∧CameA F P Q RO S0 W0 R S a'' W) S0 (G (b.at a (.code C::k)) cs) W0:=by
 let Fin:World→Frame→World→Prop:=fun wb fr w'=>∃ (w0:World) (a':Act),w0.heap=wb.heap∧fr=b.at a' []∧R w0 a' w'
 have ends:∀ wb:World,(wb.heap=(z2n F Q true W0).heap∨wb.heap=(z2n F Q false W0).heap)→∀ τ,∃ N frE w',runN P N (lone (b.at a0 [.code C]) [cbot P] (Lw wb τ))=.next (lone frE [cbot P] w')∧Fin wb frE w':=fun wb hw τ=>by
  obtain⟨a',w',⟨n,hn⟩,h⟩:=hc (Lw wb τ) hw
  exact⟨n,_,w',hn,Lw wb τ,a',rfl,rfl,h⟩
 have fok:∀ wb,ze4 k (Fin wb):=fun wb fr w' ⟨_,a',_,h,_⟩=>.inr ⟨hk,by rw[h];rfl,by rw[h];rfl⟩
 have wr0:∀ full,WR F P (idOn Q) (z2n F Q full W0) W0:=fun full=>loneW_wr (fun b hb=>(hQ b hb).2) hg
 refine lift (F:=F) (T:=T) (wx:=z2n F Q false W0) (w0:=z2n F Q true W0) (ρ:=idOn Q) (e:=k) (fr0:=b.at a0 [.code C]) (Fin:=Fin (z2n F Q true W0)) (FinX:=Fin (z2n F Q false W0)) ?_
 refine⟨pg,fun g hg=>⟨rfl,hG g hg⟩,wr0 true,?_,rfl,rfl,fun r r' h=>?_,hS0,hRO,ends _ (.inl rfl),fok _,wr0 false,rfl,fun r r' h=>?_,ends _ (.inr rfl),fok _,fun fr w' h r r' hr=>?_,?_⟩
 ·refine⟨rfl,hb4,ha,rfl,fun i hi=>?_,hd0,hd,rfl,hb1,hb1,rfl,rfl⟩
  simp[Frame.at] at hi
  subst hi
  exact hok
 ·obtain⟨rfl,h⟩:=h
  obtain⟨h1,c,e,fz,h2⟩:=hQ r h
  exact⟨⟨_,_,_,z4z h h2,rfl,by simp;omega⟩,h1⟩
 ·obtain⟨rfl,h⟩:=h
  obtain⟨_,c,e,fz,h2⟩:=hQ r h
  intro c0 e0 f0 c1 e1 f1 x1 x2
  rw[z4z h h2] at x1
  rw[h2] at x2
  cases x1;cases x2;rfl
 ·obtain⟨rfl,hr⟩:=hr
  obtain⟨_,c,e,fz,h2⟩:=hQ r hr
  obtain⟨w0,v,e0,_,h⟩:=h
  have hbw:=hR _ _ _ h
  have hl:r<w0.heap.size:=by rw[e0,z8d];exact(Array.getElem?_eq_some_iff.1 h2).1
  intro c0 e0' f0 c1 e1 f1 x1 x2
  rw[hbw.block r hl,e0,x1] at x2
  cases x2;rfl
 ·intro σ S fr fr' w W τ hle hfr hwr hfin hown hgS hfS hlS hsz hsame
  obtain⟨w0,a',e0,rfl,hRR⟩:=hfin
  have hfe:fr'=b.at ⟨fr'.tmps,[]⟩ k:=by
   have h1:=hfr.fn
   have h2:=hfr.todo
   have h3:=hfr.defers'
   have h4:=hfr.mode
   have h5:=hfr.kind'
   have h6:=hfr.round'
   obtain⟨f1,f2,f3,f4,f5,f6,f7⟩:=fr'
   simp only[Frame.at] at h1 h2 h3 h4 h5 h6 hb1 ⊢
   subst h1 h2 h3 h4 h5 h6
   simp[hb1]
  have hc0:CameA F P Q RO S0 W0 R S ⟨fr'.tmps,[]⟩ W:=⟨⟨w0,Lw w τ,σ,a',e0,hRR,hwr.tape rfl rfl,hfr.tmps,hle,hown⟩,rfl,hgS,hfS,hlS,hsz,hsame⟩
  exact .stop fun W3 hr3=>⟨_,by rw[← hfe],hc0.rely (fun b hb=>(hQ b hb).1) hr3⟩
end
open Go.Fw Go.RowKit
inductive Sv(Q:Nat→Prop):Value→Prop
 |bool (b:Bool):Sv Q (.bool b)
 |int (k:IntKind) (n:Int):Sv Q (.int k n)
 |str (s:ByteArray):Sv Q (.string s)
 |nilsl (l k:Nat):Sv Q (.slice none l k)
 |sl (b o:Nat) (s:Option Nat) (l k:Nat) (h:Q b):Sv Q (.slice (some ⟨b,o,s⟩) l k)
theorem Sv.vr{F:Nat→Prop}{Q:Nat→Prop}{v:Value}(h:Sv Q v):VR F (idOn Q) v v:=by
 cases h with
 |bool b=>exact .bool b
 |int k n=>exact .int k n
 |str s=>exact .string s
 |nilsl l k=>exact .nilsl l k
 |sl b o s l k h=>exact .sl o s l k ⟨rfl,h⟩
theorem Sv.eq{F:Nat→Prop}{P:Program}{Q:Nat→Prop}{σ:Bij}{v v':Value}(h:Sv Q v)(hl:(idOn Q).le σ)(hb:Bi P σ)(hv:VR F σ v v')(hz:∀ b o s l k,v=.slice (some ⟨b,o,s⟩) l k→0<k):v'=v:=by
 cases h with
 |sl b o s l k h=>
  have hk:=hz b o s l k rfl
  cases hv with
  |@sl _ c _ _ _ _ hr=>obtain rfl:=hb.fn (hl b b ⟨rfl,h⟩) hr;rfl
  |slE a a'=>omega
 |_=>cases hv;rfl
section
variable {F:Nat→Prop}{P:Program}{T:Txt}{Post:Value→World→Prop}{S Q:Nat→Prop}{W:World}{b:Frame}{nt:Nat}{env envO:Env}{C:Code}{k:List Item}{cs:List Frame}
theorem CE.piece(pg:Pg F P T)(hQ:∀ b,Q b→S b∧∃ c e fz,W.heap[b]?=some (.cells c e fz))(hS:∀ b,S b→b<W.heap.size)(hG:∀ g,T.G g=true→Q g)(hg:P.globals.size≤W.heap.size)(hk:k≠[])(hb1:b.kind=.normal)(hb4:∃ fn,P.funcs[b.fn]?=some fn)(hok:okC P T C=true)
  (hsv:∀ t v,Fw.look env t=some v→VR F (idOn Q) v v)(hsvO:∀ t v,Fw.look envO t=some v→Sv Q v∧∀ b o s l k,v=.slice (some ⟨b,o,s⟩) l k→0<k)
  (hwp:∀ (w:World) (a0:Act),(w.heap=(z2n F Q true W).heap∨w.heap=(z2n F Q false W).heap)→a0.defers=[]→a0.tmps.size=nt→z2g env a0→C.wp P (fun e a' w'=>e=.normal∧a'.tmps.size=nt∧z2g envO a'∧Below w.heap.size w w') a0 w)
  (k1:∀ S' W2,(∀ b,S b→S' b)→(∀ b,S' b→S b∨W.heap.size≤b)→(∀ b,S' b→b<W2.heap.size)→W.heap.size≤W2.heap.size→(∀ b,S b→W2.heap[b]?=W.heap[b]?)→CE (coM P Post .idle) S' W2 b nt envO k cs) :
  CE (coM P Post .idle) S W b nt env (.code C::k) cs:=by
 intro a h1 h2 he
 let a0:Act:=⟨a.tmps.map (fill F (idOn Q)),[]⟩
 have har:AR F (idOn Q) a0.tmps a.tmps:=⟨by simp[a0],fun i v v' e e'=>by
  simp only[a0,Array.getElem?_map,e'] at e
  simp at e
  subst e
  exact fill_vr v'⟩
 have he0:z2g env a0:=fun t v hv=>by
  simp only[a0,Array.getElem?_map,he t v hv]
  simp[z88 (hsv t v hv)]
 have tr:=piece_tr (F:=F) (T:=T) (main:=true) (RO:=Tg.idle.ro) (S0:=S) (Q:=Q) (W0:=W) (b:=b) (a0:=a0) (a:=a) (C:=C) (k:=k) (cs:=cs) (R:=fun w a' w'=>a'.tmps.size=nt∧z2g envO a'∧Below w.heap.size w w') pg
  (fun b hb=>⟨.inr (hQ b hb).1,(hQ b hb).2⟩) hS (fun b hb=>(show False from hb).elim) hG hk hb1 hb4 hok hg har rfl h1 (fun w hw=>by
   obtain⟨e,a',w',⟨rfl,q1,q2,q3⟩,h⟩:=hwp w a0 hw rfl (by simp[a0,h2]) he0 b [] [cbot P]
   exact⟨a',w',h,q1,q2,q3⟩) (fun w a' w' h=>h.2.2)
 refine Tr.mx tr fun S' g W2 hst=>?_
 obtain⟨a'',rfl,⟨⟨w0,w,σ,a',e0,⟨q1,q2,_⟩,hwr,hta,hle,hown⟩,hdf,hgr,hfr,hlo,hsz,hsm⟩⟩:=hst W2 (.refl _ _ _)
 refine k1 S' W2 hgr hfr hlo hsz (fun b hb=>hsm b (.inr hb)) a'' hdf (by rw[← hta.size];exact q1) fun t v hv=>?_
 have hv1:=q2 t v hv
 rcases hta.get? t with⟨y,_⟩|⟨z,z',y,y',hz⟩
 ·rw[hv1] at y;cases y
 ·rw[hv1] at y;cases y
  rw[y',(hsvO t v hv).1.eq hle hwr.bi hz (hsvO t v hv).2]
end
end Go.Mn
set_option maxRecDepth 100000
namespace Go.Mn
open Go.Conc Go.ConcN Go.RowKit Go.Fw
section
variable {P:Program}{Post:Value→World→Prop}{S:Nat→Prop}{W:World}{b:Frame}{nt:Nat}{env env':Env}{k:List Item}{cs:List Frame}
variable {ops:Array Oper}{i:Nat}{rest:List Nat}{d:Nat}{op:Op}{ty:TypeId}{pos:String}{af:Array Edge}{g:Option (Nat×Bool)}{v:Value}
theorem fin_mx{fn:Func}{r:Nat}(hn:b.kind=.normal)(hf:P.funcs[b.fn]?=some fn)(hi:P.inits.idxOf? b.fn=none)(hr:fn.results=#[.tmp r])(hx:Fw.look env r=some v)(hp:∀ W1,Rly (fun _=>False) S W W1→Post v W1)(a:Act)(h1:a.defers=[])(h3:z2g env a):MX P Post ⟨.idle,S,G {b.at a (.code .ret::k) with mode:=.returning} [],W⟩:=by
 refine MX.intro rfl (.fin fun W2 r2=>⟨v,#[],?_,fun e he=>by simp at he,hp W2 r2⟩)
 have ht:=h3 r v hx
 simp[G,stepG,unwind,doReturn,Frame.at,hn,h1,hf,results_tmp hr,events_results_tmp hr,seen_none,GStep.after,ht,hi]
theorem CE.fin{fn:Func}{r:Nat}(hn:b.kind=.normal)(hf:P.funcs[b.fn]?=some fn)(hi:P.inits.idxOf? b.fn=none)(hr:fn.results=#[.tmp r])(hx:Fw.look env r=some v)(hp:∀ W1,Rly (fun _=>False) S W W1→Post v W1):CE (coM P Post .idle) S W b nt env (.code .ret::k) []:=fun a h1 h2 h3=>
 (coM P Post .idle).step rfl fun W1 r1=>⟨_,_,_,_,stepG_ret',z6r,MX.rely (fin_mx hn hf hi hr hx hp a h1 h3) ⟨r1.1,r1.2⟩⟩
end
end Go.Mn
