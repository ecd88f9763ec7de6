/- The starter's steps: a child is started; a call begins; a call ends; the channel is filled and closed. -/
import Derived.Test.YthhpnohbfigggaaGreatDoorMn5
set_option linter.all false
namespace Go.Mn
open Go.Conc Go.ConcN
open Go.ConcR (KK WgAt stA smA rd wr DC0 wgBlock)
section
variable {P:Program}{Post:Value→World→Prop}{x x':MSt}{r r':Rk MSt}{D:Nat→WDat}{base nx:Nat}{shb fz X:Nat→Prop}{gs gs':Array Goroutine}{w w':World}{sl:Option (Nat×Nat)}{t u:Trace}{g g':Goroutine}{es:Array Event}
theorem msend(h:Stt P x D base nx shb fz false gs w t)(hi:x.tg=.idle){g₂:Goroutine}{c cap s rr:Nat}{v z:Value}{buf:Array Value}(hM':MT P Post r' ⟨.idle,x.S,Go.Conc.served g₂ undef,w.setChan c cap (buf.push v) false (s+1) rr false⟩)(hr:Rk.lt r' r)
  (hS:x.S c)(hc:w.heap[c]?=some (.chan cap buf false s rr false))(hb:buf.size<cap)(hgo:stepG P true x.g w=.comm g₂ #[scase c v z] true .send w #[]) :
  ∃ m₁ ops μ',runT P (crowd gs w sl) 0=(.next m₁,ops)∧mlt μ' (mu r gs.size D false)∧Inv P Post μ' m₁ (t++ops):=by
 have hci:=h.cm.core
 have h0:=z5g h
 have hph:x.tg.ph=none:=by rw[hi];rfl
 have hrun:=crowd_send_room (sl:=sl) (at0 h) (show stepG P (0==0) x.g w=_ from hgo) hc hb (zaa h _ _)
 rw[finishComm_send] at hrun
 generalize hw':w.setChan c cap (buf.push v) false (s+1) rr false=w' at hrun hM'
 have hsz:w'.heap.size=w.heap.size:=by rw[← hw'];simp[World.setChan]
 have hoth:∀ b,b≠c→w'.heap[b]?=w.heap[b]? := fun b hb=>by rw[← hw'];simp[World.setChan,Array.getElem?_setIfInBounds_ne (Ne.symm hb)]
 have hcB:c<w.heap.size:=hci.low 0 c (.inl rfl) (by rw[z2a];exact hS)
 generalize hu:(MemOp.ofEvents 0 x.g.frame.fn x.g.frame.place #[]++#[{g:=0,fn:=g₂.frame.fn,pos:=g₂.frame.place,act:=MemAct.send c s},{g:=0,fn:=g₂.frame.fn,pos:=g₂.frame.place,act:=MemAct.sendDone c s}])=u at hrun
 have hops:∀ op∈u,op.g=0∧((∃ n,op.act=.send c n)∨(∃ n,op.act=.sendDone c n)∨(∃ n m,op.act=.recv c n m)∨(∃ n,op.act=.recvDone c n)∨op.act=.recvClosed c∨op.act=.close c):=by
  intro op hop
  rw[← hu] at hop
  simp[ofEvents_eq] at hop
  rcases hop with rfl|rfl
  ·exact⟨rfl,.inl ⟨_,rfl⟩⟩
  ·exact⟨rfl,.inr (.inl ⟨_,rfl⟩)⟩
 have ok:=hci.okChan (a:=0) hcB hops
 have hst:Deaf (t++u) 0=Deaf t 0:=Deaf_still t 0 u fun op hop=>by rcases(hops op hop).2 with⟨n,e⟩|⟨n,e⟩|⟨n,m,e⟩|⟨n,e⟩|e|e<;>rw[e]<;>simp
 have e0:own (⟨.idle,x.S,Go.Conc.served g₂ undef,w'⟩:MSt) D=own x D:=by
  funext j
  by_cases hj:j=0
  ·subst hj;rw[z2a,z2a]
  ·exact z8p hj
 refine many' (X:=no) h hM' hr hrun (fun op hop=>(hops op hop).1) (by simp) (fun j _ hj=>.inl (by rw[Array.getElem?_setIfInBounds_ne (Ne.symm hj)])) (by simp[h0]) (by rw[hi]) ⟨Nat.le_of_eq hsz.symm,fun b _ hn _ _=>hoth b fun e=>hn (e▸hS),fun b hb=>(by obtain⟨p,e,_⟩:=tg_ro hb;rw[hph] at e;cases e),(by rw[← hw'];exact⟨rfl,rfl⟩)⟩ (fun b hb=>hb.elim) (by rw[e0,hsz];exact hci.app h0 ok.1 ok.2) (.refl _ _ _) (by rw[hst,h.d0,hi]) (fun p e=>by rw[hph] at e;cases e) (fun p e=>by rw[hph] at e;cases e) (fun e=>e.elim)
theorem mshut(h:Stt P x D base nx shb fz false gs w t)(hi:x.tg=.idle){c cap s rr:Nat}{buf:Array Value}(hM':MT P Post r' ⟨.idle,x.S,g',w.setChan c cap buf true s rr false⟩)(hr:Rk.lt r' r)
  (hS:x.S c)(hc:w.heap[c]?=some (.chan cap buf false s rr false))(hgo:stepG P true x.g w=.go g' (w.setChan c cap buf true s rr false) #[⟨.obj c,false,true⟩,⟨.obj c,true,true⟩]) :
  ∃ m₁ ops μ',runT P (crowd gs w sl) 0=(.next m₁,ops)∧mlt μ' (mu r gs.size D false)∧Inv P Post μ' m₁ (t++ops):=by
 have hci:=h.cm.core
 have h0:=z5g h
 have hph:x.tg.ph=none:=by rw[hi];rfl
 generalize hw':w.setChan c cap buf true s rr false=w' at hgo hM'
 have hsz:w'.heap.size=w.heap.size:=by rw[← hw'];simp[World.setChan]
 have hoth:∀ b,b≠c→w'.heap[b]?=w.heap[b]? := fun b hb=>by rw[← hw'];simp[World.setChan,Array.getElem?_setIfInBounds_ne (Ne.symm hb)]
 have hcB:c<w.heap.size:=hci.low 0 c (.inl rfl) (by rw[z2a];exact hS)
 have e0:own (⟨.idle,x.S,g',w'⟩:MSt) D=own x D:=by
  funext j
  by_cases hj:j=0
  ·subst hj;rw[z2a,z2a]
  ·exact z8p hj
 have ok:∀ op∈MemOp.ofEvents 0 x.g.frame.fn x.g.frame.place #[⟨.obj c,false,true⟩,⟨.obj c,true,true⟩],OkT (gh x.tg.ph (own x D) (fun j=>(D j).h) gs.size base nx shb) 0 op∧op.act.low w.heap.size:=by
  intro op hop
  simp[ofEvents_eq] at hop
  rcases hop with rfl|rfl
  ·refine⟨⟨rfl,fun y hy=>⟨.inl rfl,.inr (.inl ⟨⟨.inl rfl,.inl ⟨c,by rw[z2a];exact hS,?_⟩⟩,fun e=>absurd rfl e⟩)⟩,fun a e=>by simp[MemAct.ofEvent] at e⟩,hcB⟩
   simp[MemAct.ofEvent,MemAct.touch?] at hy
   subst hy
   exact .inl rfl
  ·exact⟨⟨rfl,fun y hy=>by simp[MemAct.ofEvent,MemAct.touch?] at hy,fun a e=>by simp[MemAct.ofEvent] at e⟩,hcB⟩
 refine mgo (X:=no) h hM' hr hgo (by rw[hi]) ⟨Nat.le_of_eq hsz.symm,fun b _ hn _ _=>hoth b fun e=>hn (e▸hS),fun b hb=>(by obtain⟨p,e,_⟩:=tg_ro hb;rw[hph] at e;cases e),(by rw[← hw'];exact⟨rfl,rfl⟩)⟩ (fun b hb=>hb.elim) (by rw[e0,hsz];exact hci.app h0 (fun op hop=>(ok op hop).1) fun op hop=>(ok op hop).2) (.refl _ _ _) (by rw[hi];simp[deafBehind]) (fun p e=>by rw[hph] at e;cases e) (fun p e=>by rw[hph] at e;cases e) (fun e=>e.elim)
theorem mopn(h:Stt P x D base nx shb fz false gs w t)(hi:x.tg=.idle){p:Ph}{S1 S':Nat→Prop}(hM':MT P Post r' ⟨.op p 0 0 false,S',g',w'⟩)(hr:Rk.lt r' r)
  (hgo:stepG P true x.g w=.go g' w' #[])(hgu:Gua (fun _=>False) x.S S1 w w' #[])(hW:w.heap.size≤p.Wg)(ho:OpenOk p S1 S' w') :
  ∃ m₁ ops μ',runT P (crowd gs w sl) 0=(.next m₁,ops)∧mlt μ' (mu r gs.size D false)∧Inv P Post μ' m₁ (t++ops):=by
 have hci:=h.cm.core
 have h0:=z5g h
 have hph:x.tg.ph=none:=by rw[hi];rfl
 have hbN:base=gs.size:=hci.idl hph
 have hall:∀ i,i<gs.size→(D i).st=1:=fun i hi=>h.cm.old i (by omega)
 have hno:∀ i,1≤i→i<gs.size→(D i).S=no∧(D i).h=none:=fun i h1 h2=>by
  obtain⟨y,_,hs⟩:=h.cm.wk i h1 h2
  obtain⟨a,b,_⟩:=hs.le7.2.2.1 (by rw[hall i h2];omega)
  exact⟨b,a⟩
 have hS1:∀ b,S1 b→x.S b∨(w.heap.size≤b∧b<w'.heap.size):=hgu.fresh
 have hlow:∀ b,x.S b→b<w.heap.size:=fun b hb=>hci.low 0 b (.inl rfl) (by rw[z2a];exact hb)
 have hshb:∀ b,x.S b→¬ shb b:=fun b hb=>hci.sh 0 b (.inl rfl) (by rw[z2a];exact hb)
 have hlt:∀ b,S1 b→b<w'.heap.size:=fun b hb=>by
  have:=hgu.size
  rcases hS1 b hb with h1|h1
  ·have:=hlow b h1;omega
  ·exact h1.2
 have hnsh:∀ b,S1 b→¬ shb b:=fun b hb hs=>by
  rcases hS1 b hb with h1|h1
  ·exact hshb b h1 hs
  ·have:=hci.shl b hs;omega
 have hown:∀ i b,(i=0∨i<gs.size)→own (⟨.op p 0 0 false,S',g',w'⟩:MSt) D i b→i=0∧S' b:=fun i b hi hb=>by
  by_cases e:i=0
  ·subst e;rw[z2a] at hb;exact⟨rfl,hb⟩
  ·rw[z8z e] at hb
   rw[(hno i (by omega) (by omega)).1] at hb
   exact hb.elim
 have hrun:=runT_crowd_go (sl:=sl) (at0 h) (show stepG P (0==0) x.g w=_ from hgo)
 have hu:MemOp.ofEvents 0 x.g.frame.fn x.g.frame.place #[]=#[]:=rfl
 have hinB:∀ b (l:Loc),S1 b→inB b l→¬ l.low w.heap.size∨(gh x.tg.ph (own x D) (fun j=>(D j).h) gs.size base nx shb).hold 0 l:=fun b l hb hl=>by
  rcases hS1 b hb with h1|h1
  ·exact .inr ⟨.inl rfl,.inl ⟨b,by rw[z2a];exact h1,hl⟩⟩
  ·exact .inl fun hl'=>by have:=(inB_low hl).1 hl';omega
 have hti:TI (gh (some p) (own (⟨.op p 0 0 false,S',g',w'⟩:MSt) D) (fun j=>(D j).h) gs.size base 0 (fun b=>shb b∨b=p.Wg)) w'.heap.size t:=by
  refine TI.more (h.cm.core.ti.ghost (fun l ⟨a,ha,hl⟩=>⟨a,.inl ha,hl⟩) (fun l ⟨a,ha,hl⟩=>ha.imp (fun y=>⟨a,y,hl⟩) fun y hl'=>by subst hl;have:a.block<w.heap.size:=hl';omega) (fun g hg=>hg) (fun g _ hg=>hg) (fun g l hg hl=>?_) (fun l hl=>?_) (fun l hl=>?_)) hgu.size
  ·obtain⟨n1,⟨b,hb,hl⟩|⟨p',j,e,b1,j1,t1⟩⟩:=hl
   ·obtain⟨rfl,hb⟩:=hown g b n1 hb
    exact(hinB b l (ho.less b hb) hl).imp id .inl
   ·have:=hci.b1
    replace j1:(D g).h=some j:=j1
    rw[(hno g (by omega) (by omega)).2] at j1
    cases j1
  ·obtain⟨p',e,a,hr',rfl⟩:=hl
   cases e
   refine(hinB a.block _ (ho.ro _ hr') (.inr ⟨a,rfl,rfl⟩)).imp id fun y=>.inr fun g hg=>?_
   have:g=0:=hg.elim id fun z=>by have:=z.1;have:=z.2;omega
   rw[this];exact y
  ·obtain⟨p',j,e,_,tt⟩:=hl
   cases e
   obtain⟨a,rfl,ha⟩:=zc8 tt
   refine(hinB p.ob _ ho.ob (.inr ⟨a,rfl,ha⟩)).imp id fun y=>.inr fun g hg=>?_
   have:g=0:=hg.elim id fun z=>by have:=z.1;have:=z.2;omega
   rw[this];exact y
 have hcore:Core (some p) (own (⟨.op p 0 0 false,S',g',w'⟩:MSt) D) (fun j=>(D j).h) gs.size base 0 (fun b=>shb b∨b=p.Wg) no w'.heap.size t:=by
  refine⟨hci.b1,hci.bN,fun e=>(by cases e),fun i j b hi hj o1 o2=>?_,fun i b hi o=>?_,fun i b hi o hs=>?_,fun b hb=>?_,fun p' e=>?_,hti,hci.gsb⟩
  ·rw[(hown i b hi o1).1,(hown j b hj o2).1]
  ·exact hlt b (ho.less b (hown i b hi o).2)
  ·have hs':=(hown i b hi o).2
   rcases hs with hs|rfl
   ·exact hnsh b (ho.less b hs') hs
   ·exact(ho.dj _ hs').2.1 rfl
  ·rcases hb with hb|rfl
   ·exact Nat.lt_of_lt_of_le (hci.shl b hb) hgu.size
   ·exact hlt _ ho.wg
  ·cases e
   refine⟨fun i b hi o=>ho.dj b (hown i b hi o).2,fun b hb=>⟨hlt b (ho.ro b hb),fun hs=>?_,fun e=>ho.dro.1 (e▸hb),fun e=>ho.dro.2.1 (e▸hb),fun e=>ho.dro.2.2 (e▸hb)⟩,⟨hlt _ ho.wg,hlt _ ho.c,hlt _ ho.ob⟩,ho.dd,⟨.inr rfl,fun hs=>hs.elim (hnsh _ ho.c) fun e=>ho.dd.1 e.symm,fun hs=>hs.elim (hnsh _ ho.ob) fun e=>ho.dd.2.1 e.symm⟩,fun b hb=>hb.elim,Nat.zero_le _,fun i j b1 b2=>by omega,fun i i' j b1 b2=>by omega⟩
   rcases hs with hs|rfl
   ·exact hnsh b (ho.ro b hb) hs
   ·exact ho.dro.1 hb
 refine⟨_,_,mu r' gs.size D false,hrun,.left _ _ hr,_,w',sl,⟨.op p 0 0 false,S',g',w'⟩,r',D,base,0,fun b=>shb b∨b=p.Wg,no,false,rfl,?_,hM',by simp⟩
 rw[hu]
 refine⟨⟨rfl,by simpa[Tg.ph] using hcore,h.cm.zero,fun i h1 hN=>?_,h.cm.old,.refl _ _ _,fun i h1 hN=>by simpa using h.cm.dw i h1 (by simpa using hN),fun p' e i b1 b2=>?_,by simp;omega,fun p' e=>?_⟩,⟨g',by simp[h0],zcq hM'⟩,by simpa[tgd,hi] using h.d0,fun p' e=>?_,fun _=>rfl,fun e=>e.elim⟩
 ·have hN':i<gs.size:=by simpa using hN
  obtain⟨y,hy,hs⟩:=h.cm.wk i h1 hN'
  refine⟨y,?_,hs.no_ph (hall i hN')⟩
  rw[Array.getElem?_setIfInBounds_ne (by omega),Array.getElem?_map,hy,Option.map_some,hs.wakes]
 ·simp at b2;omega
 ·cases e
  refine⟨by rw[jbuf_zero];exact ho.chan,ho.out,fun i b1 b2=>?_,fun i b1 b2=>?_,fun j hj=>by omega⟩<;>simp at b2<;>omega
 ·cases e
  refine⟨0,0,ho.wgAt,?_⟩
  have hv:Vc gs.size D=0:=by
   have:=Vc_le (D:=D) h.cm.old hci.bN
   omega
  have:=Mode.opn (N:=gs.size) (base:=base) (D:=D) (tag:=.op p 0 0 false) trivial (fun i hi=>.inr (.inr (.inr (hall i hi)))) ⟨by omega,by omega⟩
  simpa[pend,hv] using this
end
open Go.ConcR (KK WgAt stA smA rd wr DC0 wgBlock)
section
variable {P:Program}{Post:Value→World→Prop}{x x':MSt}{r r':Rk MSt}{D:Nat→WDat}{base nx:Nat}{shb fz X:Nat→Prop}{bl:Bool}{gs gs':Array Goroutine}{w w':World}{sl:Option (Nat×Nat)}{t u:Trace}{g g' child:Goroutine}{es:Array Event}
theorem mspawn(h:Stt P x D base nx shb fz false gs w t){p:Ph}{s:Nat}(hi:x.tg=.op p s 1 false)(hs:s<1000)(hM':MT P Post r' ⟨.op p (s+1) 0 false,x.S,g',w⟩)(hr:Rk.lt r' r)
  (hgo:stepG P true x.g w=.spawn g' child w #[])(hX:WX P p ⟨p.n,none,fun _=>False,false,child,w⟩) :
  ∃ m₁ ops μ',runT P (crowd gs w sl) 0=(.next m₁,ops)∧mlt μ' (mu r gs.size D false)∧Inv P Post μ' m₁ (t++ops):=by
 have hci:=h.cm.core
 have h0:=z5g h
 have hph:x.tg.ph=some p:=by rw[hi];rfl
 have K:=hci.pho p hph
 have J:=h.cm.jobs p hph
 obtain⟨rk,hX⟩:=hX
 obtain⟨st,sm,hwg,hmode⟩:=h.mode p hph
 have hrun:=runT_crowd_spawn (sl:=sl) (at0 h) (show stepG P (0==0) x.g w=_ from hgo)
 generalize hdd:(⟨7,rk,0,0,p.n,none,no,false⟩:WDat)=d' at *
 have hu:((MemOp.ofEvents 0 x.g.frame.fn x.g.frame.place #[]).push {g:=0,fn:=x.g.frame.fn,pos:=x.g.frame.place,act:=.go gs.size} |>.push {g:=gs.size,fn:=child.frame.fn,pos:=x.g.frame.place,act:=.start})=#[({g:=0,fn:=x.g.frame.fn,pos:=x.g.frame.place,act:=.go gs.size}:MemOp),{g:=gs.size,fn:=child.frame.fn,pos:=x.g.frame.place,act:=.start}]:=rfl
 rw[hu] at hrun
 have hdk:Deaf t gs.size=0:=Deaf_absent fun a op ha e=>by have:=hci.gsb op (Array.mem_of_getElem? ha);omega
 have hst:∀ k,Deaf (t++#[({g:=0,fn:=x.g.frame.fn,pos:=x.g.frame.place,act:=.go gs.size}:MemOp),{g:=gs.size,fn:=child.frame.fn,pos:=x.g.frame.place,act:=.start}]) k=Deaf t k:=fun k=>Deaf_still t k _ fun op hop=>by
  simp at hop;rcases hop with rfl|rfl<;>simp
 have hT:TI (gh (some p) (own (⟨.op p (s+1) 0 false,x.S,g',w⟩:MSt) (upd D gs.size d')) (fun j=>(upd D gs.size d' j).h) (gs.size+1) base nx shb) w.heap.size (t++#[({g:=0,fn:=x.g.frame.fn,pos:=x.g.frame.place,act:=.go gs.size}:MemOp),{g:=gs.size,fn:=child.frame.fn,pos:=x.g.frame.place,act:=.start}]):=by
  have f:=hci.ti.fork (k:=gs.size) (by omega) (.inl rfl) (fun op hop e=>by have:=hci.gsb op hop;omega) (fun l ⟨n1,_⟩=>by omega) rfl (x:={g:=0,fn:=x.g.frame.fn,pos:=x.g.frame.place,act:=.go gs.size}) (y:={g:=gs.size,fn:=child.frame.fn,pos:=x.g.frame.place,act:=.start}) ⟨rfl,rfl⟩ ⟨rfl,rfl⟩ (by rw[h.d0,hi];rfl) hdk
  refine f.ghost (fun l hl=>hl) (fun l hl=>.inl hl) (fun g hg=>?_) (fun g _ hg=>?_) (fun g l _ hl=>.inr (.inl ?_)) (fun l hl=>.inr (.inl (by rw[hph];exact hl))) (fun l hl=>.inr (.inl (by rw[hph];exact hl)))
  ·rcases hg with hg|⟨hg1,hg2⟩
   ·exact .inl (.inl hg)
   ·by_cases e:g=gs.size
    ·exact .inr e
    ·exact .inl (.inr ⟨hg1,by omega⟩)
  ·rcases hg with(hg|⟨hg1,hg2⟩)|hg
   ·exact .inl hg
   ·exact .inr ⟨hg1,by omega⟩
   ·exact .inr ⟨by rw[hg];exact hci.bN,by omega⟩
  ·obtain⟨n1,hl⟩:=hl
   by_cases e:g=gs.size
   ·subst e
    rcases hl with⟨b,hb,_⟩|⟨p',j,_,_,j1,_⟩
    ·rw[z8z (by omega),upd_same,← hdd] at hb
     exact hb.elim
    ·replace j1:(upd D gs.size d' gs.size).h=some j:=j1
     rw[upd_same,← hdd] at j1
     cases j1
   ·refine⟨n1.imp id fun y=>by omega,?_⟩
    rcases hl with⟨b,hb,hl⟩|⟨p',j,e1,b1,j1,tt⟩
    ·refine .inl ⟨b,?_,hl⟩
     unfold own at hb ⊢
     rwa [upd_ne D _ e] at hb
    ·replace j1:(upd D gs.size d' g).h=some j:=j1
     rw[upd_ne D _ e] at j1
     exact .inr ⟨p',j,by rw[hph];exact e1,b1,j1,tt⟩
 have hown:∀ i b,(i=0∨i<gs.size+1)→own (⟨.op p (s+1) 0 false,x.S,g',w⟩:MSt) (upd D gs.size d') i b→(i=0∨i<gs.size)∧own x D i b:=fun i b hi hb=>by
  by_cases e:i=gs.size
  ·subst e
   rw[z8z (by omega),upd_same,← hdd] at hb
   exact hb.elim
  ·refine⟨hi.imp id fun y=>by omega,?_⟩
   unfold own at hb ⊢
   rwa [upd_ne D _ e] at hb
 have hjob:∀ i j,i<gs.size+1→(upd D gs.size d' i).h=some j→i<gs.size∧(D i).h=some j:=fun i j hi hj=>by
  by_cases e:i=gs.size
  ·subst e
   rw[upd_same,← hdd] at hj
   cases hj
  ·rw[upd_ne D _ e] at hj
   exact⟨by omega,hj⟩
 have hcore:Core (some p) (own (⟨.op p (s+1) 0 false,x.S,g',w⟩:MSt) (upd D gs.size d')) (fun j=>(upd D gs.size d' j).h) (gs.size+1) base nx shb fz w.heap.size (t++#[({g:=0,fn:=x.g.frame.fn,pos:=x.g.frame.place,act:=.go gs.size}:MemOp),{g:=gs.size,fn:=child.frame.fn,pos:=x.g.frame.place,act:=.start}]):=by
  refine⟨hci.b1,by have:=hci.bN;omega,fun e=>(by cases e),fun i j b hi hj o1 o2=>?_,fun i b hi o=>?_,fun i b hi o=>?_,hci.shl,fun p' e=>?_,hT,fun op hop=>?_⟩
  ·obtain⟨a1,a2⟩:=hown i b hi o1
   obtain⟨b1,b2⟩:=hown j b hj o2
   exact hci.one _ _ _ a1 b1 a2 b2
  ·obtain⟨a1,a2⟩:=hown i b hi o
   exact hci.low _ _ a1 a2
  ·obtain⟨a1,a2⟩:=hown i b hi o
   exact hci.sh _ _ a1 a2
  ·cases e
   refine⟨fun i b hi o=>?_,K.ro,K.sp,K.dd,K.sw,fun b hb=>?_,K.nxn,fun i j b1 b2 b3=>?_,fun i i' j b1 b2 b1' b2' b3 b3'=>?_⟩
   ·obtain⟨a1,a2⟩:=hown i b hi o
    exact K.own _ _ a1 a2
   ·obtain⟨c1,c2,c3⟩:=K.fz b hb
    exact⟨c1,fun i hi o=>let ⟨a1,a2⟩:=hown i b hi o;c2 i a1 a2,c3⟩
   ·obtain⟨a1,a2⟩:=hjob i j b2 b3
    exact K.lt i j b1 a1 a2
   ·obtain⟨a1,a2⟩:=hjob i j b2 b3
    obtain⟨a1',a2'⟩:=hjob i' j b2' b3'
    exact K.dist i i' j b1 a1 b1' a1' a2 a2'
  ·rcases Array.mem_append.1 hop with e|e
   ·have:=hci.gsb op e;omega
   ·simp at e
    rcases e with rfl|rfl
    ·exact Nat.succ_pos _
    ·exact Nat.lt_succ_self _
 have hsz:((gs.setIfInBounds 0 g').push child).size=gs.size+1:=by simp
 refine⟨_,_,mu r' (gs.size+1) (upd D gs.size d') false,hrun,.left _ _ hr,_,w,sl,⟨.op p (s+1) 0 false,x.S,g',w⟩,r',upd D gs.size d',base,nx,shb,fz,false,rfl,?_,hM',by rw[hsz]⟩
 refine⟨⟨rfl,by rw[hsz];exact hcore,by rw[upd_ne D _ (by omega)];exact h.cm.zero,fun i h1 hN=>?_,fun i hb=>?_,.refl _ _ _,fun i h1 hN=>?_,fun p' e i b1 b2 b3=>?_,?_,fun p' e=>?_⟩,⟨g',by rw[Array.getElem?_push_lt (by simp;omega)];simp[h0],zcq hM'⟩,by rw[hst,h.d0,hi];rfl,fun p' e=>?_,fun _=>rfl,fun e=>e.elim⟩
 ·rw[hsz] at hN
  by_cases e:i=gs.size
  ·subst e
   refine⟨child,?_,?_⟩
   ·have:gs.size=(gs.setIfInBounds 0 g').size:=by simp
    rw[this,Array.getElem?_push_size]
   ·rw[upd_same,← hdd]
    exact .wk hX (.refl _ _ _)
  ·obtain⟨y,hy,hs⟩:=h.cm.wk i h1 (by omega)
   refine⟨y,?_,by rw[upd_ne D _ e];rw[hph] at hs;exact hs⟩
   rw[Array.getElem?_push_lt (by simp;omega),← Array.getElem?_eq_getElem,Array.getElem?_setIfInBounds_ne (by omega)]
   exact hy
 ·rw[upd_ne D _ (by have:=hci.bN;omega)];exact h.cm.old i hb
 ·rw[hsz] at hN
  rw[hst]
  by_cases e:i=gs.size
  ·subst e;rw[upd_same,← hdd];exact hdk
  ·rw[upd_ne D _ e];exact h.cm.dw i h1 (by omega)
 ·cases e
  rw[hsz] at b2
  by_cases e:i=gs.size
  ·subst e;rw[upd_same,← hdd] at b3;simp at b3
  ·rw[upd_ne D _ e] at b3
   obtain⟨q,hq⟩:=h.cm.rel p hph i b1 (by omega) b3
   refine⟨q,hq.appNot fun op hop=>?_⟩
   have:=hci.b1
   simp at hop
   rcases hop with rfl|rfl
   ·show 0≠i;omega
   ·show gs.size≠i;omega
 ·rw[hsz]
  rw[hi] at hmode
  cases hmode with
  |opn _ _ hb=>have:=hb.1;omega
  |fin ho _=>exact ho.elim
 ·cases e
  refine⟨J.chan,J.out,fun i b1 b2 b3=>?_,fun i b1 b2 b3=>?_,fun j hj=>(J.done j hj).imp (fun⟨i,b1,b2,b3⟩=>⟨i,b1,by rw[hsz];omega,by rw[upd_ne D _ (by omega)];exact b3⟩) id⟩
  ·rw[hsz] at b2
   by_cases e:i=gs.size
   ·subst e;rw[upd_same,← hdd];exact Nat.le_add_right _ _
   ·rw[upd_ne D _ e] at b3 ⊢;exact J.cnt i b1 (by omega) b3
  ·rw[hsz] at b2
   by_cases e:i=gs.size
   ·subst e;rw[upd_same,← hdd] at b3;cases b3
   ·rw[upd_ne D _ e] at b3;exact J.ex i b1 (by omega) b3
 ·cases e
  rw[hi] at hmode
  rw[hsz]
  have hv:Vc (gs.size+1) (upd D gs.size d')=Vc gs.size D+1:=by
   simp only[Vc,sumTo,upd_same]
   rw[sumTo_congr (g:=fun i=>cnt (D i)) fun i hi=>by rw[upd_ne D _ (by omega)],← hdd]
   rfl
  cases hmode with
  |opn _ ho hb=>
   refine⟨_,_,hwg,?_⟩
   have:=Mode.opn (N:=gs.size+1) (base:=base) (D:=upd D gs.size d') (tag:=.op p (s+1) 0 false) trivial (fun i hi=>?_) ⟨by have:=hb.1;omega,by omega⟩
   ·rw[hv] at this
    simpa[pend] using this
   ·by_cases e:i=gs.size
    ·subst e;rw[upd_same,← hdd];simp
    ·rw[upd_ne D _ e];exact ho i (by omega)
  |fin ho _=>exact ho.elim
theorem macq(h:Stt P x D base nx shb fz false gs w t){p:Ph}(hi:x.tg=.dn p false)
  (hK:Joined p w fz→(∃ cs,w.heap[p.ob]?=some (.cells cs p.ety)∧cs.size=2*p.n)→(∀ b,fz b→b<w.heap.size∧b≠p.Wg)→∃ g' r',stepG P true x.g w=.go g' w #[Go.ConcR.mk (.acquire (stA p.Wg))]∧MT P Post r' ⟨.idle,fun b=>x.S b∨p.ro b∨b=p.ob∨fz b,g',w⟩∧Rk.lt r' r) :
  ∃ m₁ ops μ',runT P (crowd gs w sl) 0=(.next m₁,ops)∧mlt μ' (mu r gs.size D false)∧Inv P Post μ' m₁ (t++ops):=by
 have hci:=h.cm.core
 have h0:=z5g h
 have hph:x.tg.ph=some p:=by rw[hi];rfl
 have K:=hci.pho p hph
 have J:=h.cm.jobs p hph
 obtain⟨st,sm,hwg,hmode⟩:=h.mode p hph
 have hall:AllQuit gs.size D:=by
  rw[hi] at hmode
  cases hmode with
  |opn ho _ _=>exact ho.elim
  |fin _ hq=>exact hq
 have hno:∀ i,1≤i→i<gs.size→(D i).S=no∧(D i).h=none∧(D i).ex=true:=fun i h1 h2=>by
  obtain⟨y,_,hs⟩:=h.cm.wk i h1 h2
  obtain⟨a,b,c⟩:=hs.le7.2.2.1 (by rw[hall i h2];omega)
  exact⟨b,a,c⟩
 have hbN:base<gs.size:=h.some' (by rw[hi];trivial)
 have hnx:nx=p.n:=J.ex base (Nat.le_refl _) hbN (hno base hci.b1 hbN).2.2
 have hJn:Joined p w fz:=fun i hip=>by
  rcases J.done i (by omega) with⟨k,b1,b2,b3⟩|⟨v0,v1,hh,a1,a2,a3,a4,a5⟩
  ·have:=hci.b1
   rw[(hno k (by omega) b2).2.1] at b3
   cases b3
  ·exact⟨v0,v1,hh,a1,a2,a3,a4,a5⟩
 obtain⟨g',r',hgo,hM',hr⟩:=hK hJn J.out fun b hb=>⟨(K.fz b hb).1,(K.fz b hb).2.2.2.1⟩
 have hrun:=runT_crowd_go (sl:=sl) (at0 h) (show stepG P (0==0) x.g w=_ from hgo)
 have hu:MemOp.ofEvents 0 x.g.frame.fn x.g.frame.place #[Go.ConcR.mk (.acquire (stA p.Wg))]=#[({g:=0,fn:=x.g.frame.fn,pos:=x.g.frame.place,act:=.mark (.acquire (stA p.Wg))}:MemOp)]:=by rw[ofEvents_eq];simp[Go.ConcR.ofEvent_mk]
 rw[hu] at hrun
 have hown:∀ i b,(i=0∨i<gs.size)→own (⟨.idle,fun b=>x.S b∨p.ro b∨b=p.ob∨fz b,g',w⟩:MSt) D i b→i=0∧(x.S b∨p.ro b∨b=p.ob∨fz b):=fun i b hi hb=>by
  by_cases e:i=0
  ·subst e;rw[z2a] at hb;exact⟨rfl,hb⟩
  ·rw[z8z e] at hb
   rw[(hno i (by omega) (by omega)).1] at hb
   exact hb.elim
 have hS:∀ b,(x.S b∨p.ro b∨b=p.ob∨fz b)→b<w.heap.size∧¬ shb b:=fun b hb=>by
  rcases hb with hb|hb|rfl|hb
  ·exact⟨hci.low 0 b (.inl rfl) (by rw[z2a];exact hb),hci.sh 0 b (.inl rfl) (by rw[z2a];exact hb)⟩
  ·exact⟨(K.ro b hb).1,(K.ro b hb).2.1⟩
  ·exact⟨K.sp.2.2,K.sw.2.2⟩
  ·exact⟨(K.fz b hb).1,(K.fz b hb).2.2.2.2.2.2⟩
 have hti:TI (gh none (own (⟨.idle,fun b=>x.S b∨p.ro b∨b=p.ob∨fz b,g',w⟩:MSt) D) (fun j=>(D j).h) gs.size gs.size 0 shb) w.heap.size (t++#[({g:=0,fn:=x.g.frame.fn,pos:=x.g.frame.place,act:=.mark (.acquire (stA p.Wg))}:MemOp)]):=by
  refine hci.ti.acq (a:=stA p.Wg) ⟨rfl,rfl⟩ K.sp.1 (by rw[h.d0,hi];rfl) (fun g hg ha=>?_) (fun l=>Iff.rfl) (fun g=>⟨fun hg=>hg.elim id fun⟨y1,y2⟩=>by omega,fun e=>.inl e⟩) (fun g l ⟨n1,hl⟩=>?_) (fun l ⟨p',e,_⟩=>by cases e) (fun l ⟨p',j,e,_⟩=>by cases e)
  ·obtain⟨y1,y2⟩:=ha.resolve_left hg
   exact h.cm.rel p hph g y1 y2 (by rw[hall g y2];omega)
  ·rcases hl with⟨b,hb,hl⟩|⟨p',j,e,_⟩
   ·obtain⟨rfl,hb⟩:=hown g b n1 hb
    refine⟨by rcases hl with rfl|⟨a,rfl,_⟩<;>rfl,fun⟨a,ha,e⟩=>(hS b hb).2 ?_⟩
    subst e
    rw[← z9m hl]
    exact ha
   ·cases e
 have hcore:Core none (own (⟨.idle,fun b=>x.S b∨p.ro b∨b=p.ob∨fz b,g',w⟩:MSt) D) (fun j=>(D j).h) gs.size gs.size 0 shb no w.heap.size (t++#[({g:=0,fn:=x.g.frame.fn,pos:=x.g.frame.place,act:=.mark (.acquire (stA p.Wg))}:MemOp)]):=by
  refine⟨h0,Nat.le_refl _,fun _=>rfl,fun i j b hi hj o1 o2=>?_,fun i b hi o=>(hS b (hown i b hi o).2).1,fun i b hi o=>(hS b (hown i b hi o).2).2,hci.shl,fun p' e=>(by cases e),hti,fun op hop=>?_⟩
  ·rw[(hown i b hi o1).1,(hown j b hj o2).1]
  ·rcases Array.mem_append.1 hop with e|e
   ·exact hci.gsb op e
   ·simp at e;subst e;exact h0
 have hst:∀ k,k≠0→Deaf (t++#[({g:=0,fn:=x.g.frame.fn,pos:=x.g.frame.place,act:=.mark (.acquire (stA p.Wg))}:MemOp)]) k=Deaf t k:=fun k _=>Deaf_still t k _ fun op hop=>by simp at hop;subst hop;simp
 have hst0:Deaf (t++#[({g:=0,fn:=x.g.frame.fn,pos:=x.g.frame.place,act:=.mark (.acquire (stA p.Wg))}:MemOp)]) 0=Deaf t 0:=Deaf_still t 0 _ fun op hop=>by simp at hop;subst hop;simp
 refine⟨_,_,mu r' gs.size D false,hrun,.left _ _ hr,_,w,sl,⟨.idle,fun b=>x.S b∨p.ro b∨b=p.ob∨fz b,g',w⟩,r',D,gs.size,0,shb,no,false,rfl,?_,hM',by simp⟩
 refine⟨⟨rfl,by simpa[Tg.ph] using hcore,h.cm.zero,fun i h1 hN=>?_,fun i hb=>hall i hb,.refl _ _ _,fun i h1 hN=>?_,fun p' e=>(by cases e),by simp,fun p' e=>(by cases e)⟩,⟨g',by simp[h0],zcq hM'⟩,by rw[hst0,h.d0,hi];rfl,fun p' e=>(by cases e),fun _=>rfl,fun e=>e.elim⟩
 ·have hN':i<gs.size:=by simpa using hN
  obtain⟨y,hy,hs⟩:=h.cm.wk i h1 hN'
  refine⟨y,?_,hs.no_ph (hall i hN')⟩
  rw[Array.getElem?_setIfInBounds_ne (by omega),Array.getElem?_map,hy,Option.map_some,hs.wakes]
 ·rw[hst i (by omega)]
  exact h.cm.dw i h1 (by simpa using hN)
end
open Go.ConcR (KK WgAt stA smA rd wr DC0 wgBlock)
section
variable {P:Program}{Post:Value→World→Prop}{x x':MSt}{r r':Rk MSt}{D:Nat→WDat}{base nx:Nat}{shb fz X:Nat→Prop}{bl:Bool}{gs gs':Array Goroutine}{w w':World}{sl:Option (Nat×Nat)}{t u:Trace}{g g':Goroutine}{es:Array Event}
theorem ev_sem{Wg:Nat}:∀ e∈semEvents (smA Wg),(∃ c wr,e=⟨.cell c,wr,true⟩∧c.block=Wg)∨e=Go.ConcR.mk .disable∨e=Go.ConcR.mk .enable∨∃ c,(e=Go.ConcR.mk (.read c)∨e=Go.ConcR.mk (.write c))∧c.block=Wg:=by
 intro e he
 simp[semEvents] at he
 rcases he with rfl|rfl|rfl|rfl
 ·exact .inr (.inl rfl)
 ·exact .inl ⟨_,_,rfl,rfl⟩
 ·exact .inl ⟨_,_,rfl,rfl⟩
 ·exact .inr (.inr (.inl rfl))
theorem ev_rd{Wg:Nat}:∀ e∈(#[rd (stA Wg)]:Array Event),(∃ c wr,e=⟨.cell c,wr,true⟩∧c.block=Wg)∨e=Go.ConcR.mk .disable∨e=Go.ConcR.mk .enable∨∃ c,(e=Go.ConcR.mk (.read c)∨e=Go.ConcR.mk (.write c))∧c.block=Wg:=by
 intro e he;simp at he;subst he;exact .inl ⟨_,_,rfl,rfl⟩
theorem ev_rw{Wg:Nat}:∀ e∈(#[rd (stA Wg),wr (stA Wg)]:Array Event),(∃ c wr,e=⟨.cell c,wr,true⟩∧c.block=Wg)∨e=Go.ConcR.mk .disable∨e=Go.ConcR.mk .enable∨∃ c,(e=Go.ConcR.mk (.read c)∨e=Go.ConcR.mk (.write c))∧c.block=Wg:=by
 intro e he;simp at he;rcases he with rfl|rfl<;>exact .inl ⟨_,_,rfl,rfl⟩
theorem ev_dis{Wg:Nat}:∀ e∈(#[Go.ConcR.mk .disable]:Array Event),(∃ c wr,e=⟨.cell c,wr,true⟩∧c.block=Wg)∨e=Go.ConcR.mk .disable∨e=Go.ConcR.mk .enable∨∃ c,(e=Go.ConcR.mk (.read c)∨e=Go.ConcR.mk (.write c))∧c.block=Wg:=by
 intro e he;simp at he;subst he;exact .inr (.inl rfl)
theorem ev_ena{Wg:Nat}:∀ e∈(#[Go.ConcR.mk .enable]:Array Event),(∃ c wr,e=⟨.cell c,wr,true⟩∧c.block=Wg)∨e=Go.ConcR.mk .disable∨e=Go.ConcR.mk .enable∨∃ c,(e=Go.ConcR.mk (.read c)∨e=Go.ConcR.mk (.write c))∧c.block=Wg:=by
 intro e he;simp at he;subst he;exact .inr (.inr (.inl rfl))
theorem z32{f:MSt→Rk MSt}{ι:MSt}:Rk.lt (f ι) (.node f):=⟨f,ι,rfl,rfl⟩
theorem zero_quit{N:Nat}(ho:OpenSt N D)(hv:Vc N D=0):AllQuit N D:=fun i hi=>by
 have:=le_sumTo (f:=fun x=>cnt (D x)) hi
 simp only[Vc] at hv
 have c0:cnt (D i)=0:=by omega
 simp only[cnt] at c0
 have:=ho i hi
 split at c0<;>omega
set_option maxHeartbeats 1600000 in
theorem mstep(h:Stt P x D base nx shb fz false gs w t)(hM:MT P Post r x) :
  (∃ o w' ops,runT P (crowd gs w sl) 0=(.ended o w',ops)∧∀ m,m.gs=gs→m.rest.timers.isEmpty=true→Good P Post m o w' (t++ops))∨∃ m₁ ops μ',runT P (crowd gs w sl) 0=(.next m₁,ops)∧mlt μ' (mu r gs.size D false)∧Inv P Post μ' m₁ (t++ops):=by
 have hM0:=hM
 cases r with
 |leaf=>exact hM.elim
 |node f=>
  obtain⟨hrun,hst⟩:=hM
  have rly:=h.cm.rly
  have live:∀ p,x.tg.ph=some p→WgLive p.ty p.Wg w:=fun p e=>let ⟨st,sm,hwg,_⟩:=h.mode p e;⟨st,sm,hwg⟩
  have hR:RlyM x w:=⟨rly,live⟩
  have hlim:=Vc_lim h
  cases hst with
  |loc h1=>
   obtain⟨g',W',es,S',a1,a2,ι,a3⟩:=h1 w hR
   exact .inr (mloc h a3 z32 a1 a2)
  |said p hp h1=>
   obtain⟨g',m,hm,a1,ι,a2⟩:=h1 w hR
   refine .inr (zbx h hp hp a2 z32 a1 (.inl rfl) (fun e he=>?_) ?_ (h.mode p hp) h.some')
   ·simp at he
    subst he
    exact .inr (.inr (.inr ⟨_,hm.imp (fun e=>by rw[e]) (fun e=>by rw[e]),rfl⟩))
   ·rcases hm with rfl|rfl<;>simp[deafBehind,Go.ConcR.mk]
  |@send S g W h1=>
   obtain⟨g₂,c,v,z,cap,buf,s,rr,a1,a2,a3,a4,ι,a5⟩:=h1 w rly
   exact .inr (msend h rfl a5 z32 a1 a2 a3 a4)
  |@shut S g W h1=>
   obtain⟨g',c,cap,buf,s,rr,a1,a2,a3,ι,a4⟩:=h1 w rly
   exact .inr (mshut h rfl a4 z32 a1 a2 a3)
  |@opn S g W h1=>
   obtain⟨g',W',S1,S',p,a1,a2,a3,a4,ι,a5⟩:=h1 w rly
   exact .inr (mopn h rfl a5 z32 a1 a2 a3 a4)
  |@dis p s S g W h1=>
   obtain⟨st,sm,hwg,hmode⟩:=h.mode p rfl
   obtain⟨g',a1,a2⟩:=h1 w hR
   cases hmode with
   |fin ho _=>exact ho.elim
   |opn _ ho hb=>
    rcases a2 with⟨ι,a2⟩|⟨hs,ι,a2⟩
    ·exact .inr (zbx (tg:=.op p s 0 true) h rfl rfl a2 z32 a1 (.inl rfl) ev_dis rfl ⟨_,_,hwg,.opn (tag:=.op p s 0 true) trivial ho hb⟩ (fun e=>e.elim))
    ·refine .inr (zbx (tg:=.wt p s) h rfl rfl a2 z32 a1 (.inl rfl) ev_dis rfl ⟨_,_,hwg,.opn (tag:=.wt p s) trivial ho ?_⟩ (fun _=>by have:=hb.1;omega))
     have:=Vc_le (D:=D) h.cm.old h.cm.core.bN
     have:=hb.1
     show Vc gs.size D≤s
     omega
  |@add p s S g W h1=>
   obtain⟨st,sm,hwg,hmode⟩:=h.mode p rfl
   cases hmode with
   |fin ho _=>exact ho.elim
   |opn _ ho hb=>
    obtain⟨g',a1,ι,a2⟩:=h1 w (Vc gs.size D) hR (by omega) (by simpa[pend] using hwg)
    refine .inr (zbx (tg:=.op p s 1 true) h rfl rfl a2 z32 a1 (.inr ⟨_,_,rfl,rfl⟩) ev_rw (by simp[deafBehind,tgd,rd,wr]) ⟨_,_,hwg.setSt _,?_⟩ (fun e=>e.elim))
    have:=Mode.opn (N:=gs.size) (base:=base) (D:=D) (tag:=.op p s 1 true) trivial ho ⟨hb.1,Nat.le_refl _⟩
    simpa[pend] using this
  |@ena p s S g W h1=>
   obtain⟨st,sm,hwg,hmode⟩:=h.mode p rfl
   obtain⟨g',a1,ι,a2⟩:=h1 w hR
   cases hmode with
   |fin ho _=>exact ho.elim
   |opn _ ho hb=>
    exact .inr (zbx (tg:=.op p s 1 false) h rfl rfl a2 z32 a1 (.inl rfl) ev_ena rfl ⟨_,_,hwg,.opn (tag:=.op p s 1 false) trivial ho hb⟩ (fun e=>e.elim))
  |@spawn p s S g W hs h1=>
   obtain⟨g',child,a1,a2,_,ι,a4⟩:=h1 w hR
   exact .inr (mspawn h rfl hs a4 z32 a1 a2)
  |@ldw p B S g W h1=>
   obtain⟨st,sm,hwg,hmode⟩:=h.mode p rfl
   cases hmode with
   |fin ho _=>exact ho.elim
   |opn _ ho hb=>
    obtain⟨g',a1,a2,a3⟩:=h1 w (Vc gs.size D) hR hb (by simpa[pend] using hwg)
    by_cases hv:Vc gs.size D=0
    ·obtain⟨ι,a2⟩:=a2 hv
     refine .inr (zbx (tg:=.dn p true) h rfl rfl a2 z32 a1 (.inl rfl) ev_rd (by simp[deafBehind,tgd,rd]) ⟨0,0,?_,.fin (tag:=.dn p true) trivial (zero_quit ho hv)⟩ (fun _=>h.some' trivial))
     simpa[pend,hv] using hwg
    ·obtain⟨ι,a3⟩:=a3 hv
     exact .inr (zbx (tg:=.cas p (Vc gs.size D)) h rfl rfl a3 z32 a1 (.inl rfl) ev_rd (by simp[deafBehind,tgd,rd]) ⟨_,_,hwg,.opn (tag:=.cas p (Vc gs.size D)) trivial ho ⟨Nat.le_refl _,by omega⟩⟩ (fun _=>h.some' trivial))
  |@cas p vs S g W h1=>
   obtain⟨st,sm,hwg,hmode⟩:=h.mode p rfl
   cases hmode with
   |fin ho _=>exact ho.elim
   |opn _ ho hb=>
    obtain⟨a1,a2⟩:=h1 w (Vc gs.size D) hR hb.1 (by simpa[pend] using hwg)
    by_cases hv:Vc gs.size D=vs
    ·obtain⟨g',a3,ι,a4⟩:=a1 hv
     exact .inr (zbx (tg:=.w3 p) h rfl rfl a4 z32 a3 (.inr ⟨_,_,rfl,rfl⟩) ev_rw (by simp[deafBehind,tgd,rd,wr]) ⟨_,_,hwg.setSt _,.reg ho (by have:=hb.2;omega)⟩ (fun _=>h.some' trivial))
    ·obtain⟨g',a3,ι,a4⟩:=a2 hv
     exact .inr (zbx (tg:=.wt p (Vc gs.size D)) h rfl rfl a4 z32 a3 (.inl rfl) ev_rd (by simp[deafBehind,tgd,rd]) ⟨_,_,hwg,.opn (tag:=.wt p (Vc gs.size D)) trivial ho (Nat.le_refl _)⟩ (fun _=>h.some' trivial))
  |@sem p S g W hof h1=>
   obtain⟨st,sm,hwg,hmode⟩:=h.mode p rfl
   obtain⟨a1,a2⟩:=h1 w hR
   cases hmode with
   |opn ho _ _=>exact ho.elim
   |fin ho _=>exact ho.elim
   |reg ho hv=>exact .inr (mblk h hM0 rfl hof (a1 ⟨_,hwg⟩) ⟨_,_,hwg,.reg ho hv⟩)
   |last L hL hs ho=>exact .inr (mblk h hM0 rfl hof (a1 ⟨_,hwg⟩) ⟨_,_,hwg,.last L hL hs ho⟩)
   |sema hq=>
    obtain⟨g',a3,ι,a4⟩:=a2 hwg
    exact .inr (zbx (tg:=.w4 p) h rfl rfl a4 z32 a3 (.inr ⟨_,_,rfl,rfl⟩) ev_sem (by simp[deafBehind,tgd,semEvents]) ⟨_,_,hwg.setSm 0,.fin (tag:=.w4 p) trivial hq⟩ (fun _=>h.some' trivial))
  |@ld4 p S g W h1=>
   obtain⟨st,sm,hwg,hmode⟩:=h.mode p rfl
   cases hmode with
   |opn ho _ _=>exact ho.elim
   |fin _ hq=>
    obtain⟨g',a1,ι,a2⟩:=h1 w hR hwg
    exact .inr (zbx (tg:=.dn p true) h rfl rfl a2 z32 a1 (.inl rfl) ev_rd (by simp[deafBehind,tgd,rd]) ⟨_,_,hwg,.fin (tag:=.dn p true) trivial hq⟩ (fun _=>h.some' trivial))
  |@ena2 p S g W h1=>
   obtain⟨st,sm,hwg,hmode⟩:=h.mode p rfl
   obtain⟨g',a1,ι,a2⟩:=h1 w hR
   cases hmode with
   |opn ho _ _=>exact ho.elim
   |fin _ hq=>exact .inr (zbx (tg:=.dn p false) h rfl rfl a2 z32 a1 (.inl rfl) ev_ena rfl ⟨_,_,hwg,.fin (tag:=.dn p false) trivial hq⟩ (fun _=>h.some' trivial))
  |@acq p S g W h1=>
   exact .inr (macq h rfl fun hj ho hf=>let ⟨g',a1,ι,a2⟩:=h1 w fz hR hj ho hf;⟨g',_,a1,a2,z32⟩)
  |@fin S g W h1=>
   left
   obtain⟨v,es,a1,a2,a3⟩:=h1 w rly
   have hci:=h.cm.core
   have h0:=z5g h
   have hbN:base=gs.size:=hci.idl rfl
   have hrunT:=runT_many_ended (P:=P) (sl:=sl) (i:=0) (at0 h) (show stepG P (0==0) g w=_ from a1)
   have ok:=hci.okEvG (a:=0) (ro:=fun _=>False) (fn:=g.frame.fn) (pos:=g.frame.place) (es:=es) (.inl rfl) (fun b hb=>hb.elim) (fun e he=>by rw[z2a];exact a2 e he)
   have c2:=hci.app h0 ok.1 ok.2
   have hq:∀ i y,1≤i→gs[i]?=some y→∃ m,QuitsD P m (Deaf t i) y:=fun i y h1 hy=>by
    have hi:i<gs.size:=(Array.getElem?_eq_some_iff.1 hy).1
    obtain⟨z,hz,hs⟩:=h.cm.wk i h1 hi
    rw[hy] at hz;cases hz
    rw[h.cm.dw i h1 hi]
    have hst:=h.cm.old i (by omega)
    generalize D i=d at hs hst
    cases hs<;>first|(simp at hst;done)|exact⟨_,‹_›⟩
   refine⟨_,_,_,hrunT,fun m hm ht=>⟨v,rfl,a3,c2.ti.nr,c2.ti.handed fun g hg=>hg.elim id fun⟨y1,y2⟩=>by omega,⟨fun y hy=>?_,ht⟩,fun j y hy hj=>?_⟩⟩
   ·obtain⟨j,hj⟩:=List.mem_iff_getElem?.1 hy
    rw[List.getElem?_drop] at hj
    obtain⟨m',hm'⟩:=hq (1+j) y (by omega) (by simpa[hm] using hj)
    exact⟨_,hm'.leaves⟩
   ·rw[hm] at hy
    obtain⟨m',hm'⟩:=hq j y (by omega) hy
    refine⟨m',?_⟩
    have e:(t++MemOp.ofEvents 0 g.frame.fn g.frame.place es).deaf j (t++MemOp.ofEvents 0 g.frame.fn g.frame.place es).size=Deaf t j:=Deaf_other t (g:=j) (g':=0) (by omega) _ ofEv_g
    rw[e]
    exact hm'.hears _
theorem Stt.at'(h:Stt P x D base nx shb fz bl gs w t)(d:Nat):Stt P x D base nx shb fz bl gs (w.at d) t:=⟨h.cm.at d,h.main,h.d0,h.mode,h.idl,h.some'⟩
theorem WSit.runs{ph:Option Ph}{d:WDat}(h:WSit P ph d g w)(hd:d.st≠1):g.status=.running:=by
 cases h with
 |wk hw hr=>exact hw.status
 |k1 hs=>exact hs.status fun _ x=>x.1
 |d1 hs=>exact hs.status fun _ x=>x.1
 |d2 hs=>exact hs.status fun _ x=>x.1
 |d3 hs=>exact hs.status fun _ x=>x.1
 |d4 hs=>exact hs.status fun _ x=>x.1
 |quit hq=>exact absurd rfl hd
theorem somebody(h:Stt P x D base nx shb fz bl gs w t):∃ (i:Nat) (g:Goroutine),gs[i]?=some g∧g.status=.running:=by
 obtain⟨a0,h0,hm⟩:=h.main
 cases bl with
 |false=>exact⟨0,a0,h0,by rw[hm.eq];exact hm.run⟩
 |true=>
  have wk:∀ i,i<gs.size→(D i).st≠1→∃ (i:Nat) (g:Goroutine),gs[i]?=some g∧g.status=.running:=fun i hi hd=>by
   have:i≠0:=fun e=>by subst e;exact hd h.cm.zero
   obtain⟨y,hy,hs⟩:=h.cm.wk i (by omega) hi
   exact⟨i,y,hy,hs.runs hd⟩
  cases hp:x.tg.ph with
  |none=>have:=h.idl hp;cases this
  |some p=>
   obtain⟨st,sm,_,hmode⟩:=h.mode p hp
   generalize x.tg=tg at hmode
   cases hmode with
   |reg ho hv=>
    by_cases ha:AllQuit gs.size D
    ·have:Vc gs.size D=0:=by
      have:sumTo gs.size (fun i=>cnt (D i))≤0*gs.size:=sumTo_le fun i hi=>by simp[cnt,ha i hi]
      simp only[Vc];omega
     omega
    ·have:∃ i,i<gs.size∧(D i).st≠1:=Classical.byContradiction fun hn=>ha fun i hi=>Classical.byContradiction fun e=>hn ⟨i,hi,e⟩
     obtain⟨i,hi,hd⟩:=this
     exact wk i hi hd
   |last L hL hs ho=>exact wk L hL (by omega)
theorem inv_step(μ:Mu)(m:Machine)(t:Trace)(h:Inv P Post μ m t) :
  (∃ o w ops,stepT P m=(.ended o w,ops)∧Good P Post m o w (t++ops))∨(∃ m' ops μ',stepT P m=(.next m',ops)∧mlt μ' μ∧Inv P Post μ' m' (t++ops)):=by
 obtain⟨gs,w,sl,x,r,D,base,nx,shb,fz,bl,rfl,hS,hM,rfl⟩:=h
 have haw:∀ g∈gs,awake g:=by
  intro g hg
  obtain⟨i,hi,rfl⟩:=Array.mem_iff_getElem.1 hg
  have hgi:gs[i]?=some gs[i]:=Array.getElem?_eq_getElem hi
  rcases Nat.eq_zero_or_pos i with rfl|hpos
  ·obtain⟨a0,h0,hm⟩:=hS.main
   rw[hgi] at h0
   rw[Option.some.inj h0,hm.eq]
   cases bl with
   |false=>exact awake_of (.inl hm.run)
   |true=>exact awake_of (.inr (.inl rfl))
  ·obtain⟨z,hz,hs⟩:=hS.cm.wk i hpos hi
   rw[hgi] at hz
   rw[Option.some.inj hz]
   exact awake_of (hs.status.elim .inl fun x=>.inr (.inr x))
 obtain⟨i,g,d,sl',hi,hg,hst⟩:=crowd_pick (P:=P) (w:=w) (sl:=sl) haw (somebody hS)
 rw[hst]
 have hS':=hS.at' d
 rcases Nat.eq_zero_or_pos i with rfl|hpos
 ·obtain⟨a0,h0,hm⟩:=hS.main
  rw[hi] at h0
  cases h0
  cases bl with
  |true=>rw[hm.eq] at hg;cases hg
  |false=>
   rcases mstep (sl:=sl') hS' hM with⟨o,w',ops,e1,e2⟩|h2
   ·exact .inl ⟨o,w',ops,e1,e2 _ rfl rfl⟩
   ·exact .inr h2
 ·exact .inr (wstep hS' hM hpos (Array.getElem?_eq_some_iff.1 hi).1 hi hg)
theorem ends{a:Goroutine}{S:Nat→Prop}(hS:∀ b,S b→b<w.heap.size)(hX:MX P Post ⟨.idle,S,a,w⟩) :
  ∃ N last o w' t',runNT P (N+1) (solo a w) #[]=(.ended o w',t')∧runN P N (solo a w)=.next last∧step P last=.ended o w'∧Good P Post last o w' t':=by
 obtain⟨r,hM⟩:=hX
 rw[solo_eq_crowd]
 refine run_of_inv mlt_wf (Inv P Post) (Good P Post) inv_step (mu r 1 (fun _=>⟨1,.leaf,0,0,0,none,no,true⟩) false) _ _ ⟨#[a],w,none,⟨.idle,S,a,w⟩,r,fun _=>⟨1,.leaf,0,0,0,none,no,true⟩,1,0,no,no,false,rfl,?_,hM,rfl⟩
 have em:∀ (i:Nat),(#[]:Trace)[i]?=none:=fun i=>by simp
 refine⟨⟨rfl,⟨Nat.le_refl _,Nat.le_refl _,fun _=>rfl,fun i j b hi hj o1 o2=>?_,fun i b hi o=>?_,fun i b hi o hs=>hs.elim,fun b hb=>hb.elim,fun p e=>(by cases e),?_,by simp⟩,rfl,fun i h1 h2=>?_,fun i hi=>rfl,.refl _ _ _,fun i h1 h2=>?_,fun p e=>(by cases e),by simp,fun p e=>(by cases e)⟩,⟨a,rfl,zcq hM⟩,rfl,fun p e=>(by cases e),fun _=>rfl,fun e=>e.elim⟩
 ·simp at hi hj;omega
 ·simp at hi
  subst hi
  rw[z2a] at o
  exact hS b o
 ·have nt:∀ i a,touchAt (#[]:Trace) i=some a→False:=fun i a h=>by simp[touchAt,Trace.act?] at h
  refine⟨fun i op x hi=>(by simp at hi),fun i op x hi=>(by simp at hi),fun g l _ _ i a ha=>(nt i a ha).elim,fun g l _ _ i a ha=>(nt i a ha).elim,fun g l _ _ i a ha=>(nt i a ha).elim,fun i op hi=>(by simp at hi),fun said=>?_,by simp,by simp⟩
  rintro⟨i,j,_,⟨a,b,ha,_⟩,_⟩
  simp[Trace.act?] at ha
 ·simp at h2;omega
 ·simp at h2;omega
end
end Go.Mn
