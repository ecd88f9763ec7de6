/- A starter and its workers: the machine at every moment. -/
import Derived.Test.YthhpnohbfigggaaGreatDoorMn4
import Derived.Conc.CrowdStepW
set_option linter.all false
namespace Go.Mn
open Go.Conc Go.ConcN
open Go.ConcR (KK WgAt stA smA rd wr DC0 wgBlock)
def no:Nat→Prop:=fun _=>False
structure WDat where
 st:Nat
 rk:Rk WSt
 m:Nat
 d:Nat
 q:Nat
 h:Option Nat
 S:Nat→Prop
 ex:Bool
inductive WSit(P:Program):Option Ph→WDat→Goroutine→World→Prop
 |wk {p:Ph} {rk:Rk WSt} {q:Nat} {h:Option Nat} {S:Nat→Prop} {ex:Bool} {g:Goroutine} {W w:World} (hw:WT P p rk ⟨q,h,S,ex,g,W⟩) (hr:Rly p.ro S W w):WSit P (some p) ⟨7,rk,0,0,q,h,S,ex⟩ g w
 |k1 {p:Ph} {rk:Rk WSt} {m q:Nat} {g:Goroutine} {w:World} (hs:Sil P false p (K1 P p) m g):WSit P (some p) ⟨6,rk,m,0,q,none,no,true⟩ g w
 |d1 {p:Ph} {rk:Rk WSt} {m q:Nat} {g:Goroutine} {w:World} (hs:Sil P false p (D1 P p) m g):WSit P (some p) ⟨5,rk,m,1,q,none,no,true⟩ g w
 |d2 {p:Ph} {rk:Rk WSt} {m q:Nat} {g:Goroutine} {w:World} (hs:Sil P false p (D2 P p) m g):WSit P (some p) ⟨4,rk,m,1,q,none,no,true⟩ g w
 |d3 {p:Ph} {rk:Rk WSt} {m q:Nat} {g:Goroutine} {w:World} (hs:Sil P false p (D3 P p) m g):WSit P (some p) ⟨3,rk,m,1,q,none,no,true⟩ g w
 |d4 {p:Ph} {rk:Rk WSt} {m q:Nat} {g:Goroutine} {w:World} (hs:Sil P false p (D4 P p) m g):WSit P (some p) ⟨2,rk,m,1,q,none,no,true⟩ g w
 |quit {ph:Option Ph} {rk:Rk WSt} {m d q:Nat} {g:Goroutine} {w:World} (hq:QuitsD P m d g):WSit P ph ⟨1,rk,m,d,q,none,no,true⟩ g w
theorem Sil.status{P:Program}{main:Bool}{p:Ph}{Stop:Goroutine→Prop}(hS:∀ g,Stop g→g.status=.running):∀ {m:Nat} {g:Goroutine},Sil P main p Stop m g→g.status=.running
 |0,_,h=>hS _ h
 |_+1,_,h=>h.elim (hS _) fun x=>x.1
theorem Sil.cases{P:Program}{main:Bool}{p:Ph}{Stop:Goroutine→Prop}{m:Nat}{g:Goroutine}(h:Sil P main p Stop m g):Stop g∨∃ n,m=n+1∧∀ W,WgLive p.ty p.Wg W→∃ g',stepG P main g W=.go g' W #[]∧Sil P main p Stop n g':=by
 cases m with
 |zero=>exact .inl h
 |succ n=>exact h.imp id fun x=>⟨n,rfl,x.2⟩
theorem WT.status{P:Program}{p:Ph}{rk:Rk WSt}{x:WSt}(h:WT P p rk x):x.g.status=.running:=by
 cases rk with
 |leaf=>exact h.elim
 |node f=>exact h.1
section
variable {P:Program}{ph:Option Ph}{d:WDat}{g:Goroutine}{w w':World}
theorem WSit.status(h:WSit P ph d g w):g.status=.running∨g.status=.finished:=by
 cases h with
 |wk hw hr=>exact .inl hw.status
 |k1 hs=>exact .inl (hs.status fun _ x=>x.1)
 |d1 hs=>exact .inl (hs.status fun _ x=>x.1)
 |d2 hs=>exact .inl (hs.status fun _ x=>x.1)
 |d3 hs=>exact .inl (hs.status fun _ x=>x.1)
 |d4 hs=>exact .inl (hs.status fun _ x=>x.1)
 |quit hq=>exact hq.status
theorem WSit.wakes(h:WSit P ph d g w)(a a':Goroutine)(w1:World):woken P a a' w1 g=g:=by
 unfold Go.Conc.woken
 split
 ·exact again_running _ h.status
 ·rfl
theorem WSit.rely(h:WSit P ph d g w)(hr:∀ p,ph=some p→Rly p.ro d.S w w'):WSit P ph d g w':=by
 cases h with
 |wk hw h1=>exact .wk hw (h1.trans (hr _ rfl))
 |k1 hs=>exact .k1 hs
 |d1 hs=>exact .d1 hs
 |d2 hs=>exact .d2 hs
 |d3 hs=>exact .d3 hs
 |d4 hs=>exact .d4 hs
 |quit hq=>exact .quit hq
theorem WSit.le7(h:WSit P ph d g w):(d.st=7∨d.st≤6)∧1≤d.st∧(d.st≤6→d.h=none∧d.S=no∧d.ex=true)∧(d.st=1∨∃ p,ph=some p):=by
 cases h with
 |wk hw h1=>exact⟨.inl rfl,by simp,by simp,.inr ⟨_,rfl⟩⟩
 |quit hq=>exact⟨.inr (by simp),by simp,fun _=>⟨rfl,rfl,rfl⟩,.inl rfl⟩
 |_=>exact⟨.inr (by simp),by simp,fun _=>⟨rfl,rfl,rfl⟩,.inr ⟨_,rfl⟩⟩
theorem WSit.no_ph(h:WSit P ph d g w)(hd:d.st=1){ph':Option Ph}{w':World}:WSit P ph' d g w':=by
 cases h<;>first|(simp at hd;done)|exact .quit ‹_›
end
structure Chg(ro S X:Nat→Prop)(w w':World):Prop where
 size:w.heap.size≤w'.heap.size
 keep:∀ b,b<w.heap.size→¬ S b→¬ ro b→¬ X b→w'.heap[b]?=w.heap[b]?
 ro:∀ b,ro b→w'.heap[b]?=w.heap[b]?
 so:w'.os=w.os∧w'.output=w.output
theorem Chg.refl(ro S X:Nat→Prop)(w:World):Chg ro S X w w:=⟨Nat.le_refl _,fun _ _ _ _ _=>rfl,fun _ _=>rfl,rfl,rfl⟩
theorem Chg.of_gua{ro S S':Nat→Prop}{w w':World}{es:Array Event}(h:Gua ro S S' w w' es)(hd:∀ b,S b→¬ ro b):Chg ro S no w w':=
 ⟨h.size,fun b hb hs hr _=>h.keep b hb hs hr,fun b hb=>h.ro b hb fun hs=>hd b hs hb,h.os,h.output⟩
theorem z5a(w:World)(a:Addr)(v:Value):(w.setCell a v).heap.size=w.heap.size∧∀ b,b≠a.block→(w.setCell a v).heap[b]?=w.heap[b]? := by
 unfold World.setCell
 split
 ·exact⟨by simp,fun b hb=>by simp[Array.getElem?_modify,Ne.symm hb]⟩
 ·exact⟨by simp,fun b hb=>by simp[Array.getElem?_modify,Ne.symm hb]⟩
theorem z6u(w:World)(a:Addr)(v:Value):(w.setCell a v).os=w.os∧(w.setCell a v).output=w.output:=by
 unfold World.setCell
 split<;>exact⟨rfl,rfl⟩
theorem Chg.setCell{ro S:Nat→Prop}{w:World}{a:Addr}{v:Value}(hr:¬ ro a.block):Chg ro S (fun b=>b=a.block) w (w.setCell a v):=
 ⟨Nat.le_of_eq (z5a w a v).1.symm,fun b _ _ _ h=>(z5a w a v).2 b h,fun b hb=>(z5a w a v).2 b fun e=>hr (e▸hb),z6u w a v⟩
theorem Chg.setIf{ro S:Nat→Prop}{w:World}{b:Nat}{o:Obj}(hr:¬ ro b):Chg ro S (fun c=>c=b) w {w with heap:=w.heap.setIfInBounds b o} :=
 ⟨by simp,fun c _ _ _ h=>by simp[Array.getElem?_setIfInBounds_ne (Ne.symm h)],fun c hc=>by
  have:b≠c:=fun e=>hr (e▸hc)
  simp[Array.getElem?_setIfInBounds_ne this],rfl,rfl⟩
theorem Rly.of_chg{ro S S2 X:Nat→Prop}{w w':World}(h:Chg ro S X w w')(hS:∀ b,S2 b→b<w.heap.size∧¬ S b∧¬ ro b∧¬ X b):Rly ro S2 w w':=
 ⟨h.size,fun b hb=>let ⟨h1,h2,h3,h4⟩:=hS b hb;h.keep b h1 h2 h3 h4,h.ro,h.so⟩
def jbuf(n k:Nat):Array Value:=((Array.range n).map fun(i:Nat)=>Value.int .i64 i).extract k n
theorem jbuf_zero(n:Nat):jbuf n 0=(Array.range n).map fun(i:Nat)=>Value.int .i64 i:=by
 unfold jbuf
 conv=>lhs;arg 3;rw[show n=((Array.range n).map fun(i:Nat)=>Value.int .i64 i).size by simp]
 exact Array.extract_size
theorem zd3(n k:Nat)(h:k≤n):(jbuf n k).size=n-k:=by simp[jbuf]
theorem jbuf_head(n k:Nat)(h:k<n):(jbuf n k).getD 0 undef=.int .i64 k:=by
 have:(jbuf n k)[0]?=some (.int .i64 k):=by
  simp[jbuf,Array.getElem?_extract,h]
  omega
 rw[Array.getD_eq_getD_getElem?,this];rfl
theorem jbuf_tail(n k:Nat)(h:k<n):(jbuf n k).extract 1 (jbuf n k).size=jbuf n (k+1):=by
 rw[zd3 n k (by omega)]
 unfold jbuf
 rw[Array.extract_extract]
 congr 1
 omega
theorem jbuf_end(n:Nat):jbuf n n=#[]:=by
 apply Array.eq_empty_of_size_eq_zero
 rw[zd3 n n (Nat.le_refl _)];omega
def Dn(p:Ph)(fz:Nat→Prop)(w:World)(j:Nat):Prop:=∃ v0 v1 h,p.Rs j v0 v1 h∧h.sub w∧(∀ b,h b≠none→fz b∨p.ro b)∧w.cell? ⟨p.ob,2*j,none⟩=some v0∧w.cell? ⟨p.ob,2*j+1,none⟩=some v1
structure Jobs(p:Ph)(D:Nat→WDat)(N base nx:Nat)(fz:Nat→Prop)(w:World):Prop where
 chan:∃ s r,w.heap[p.c]?=some (.chan p.n (jbuf p.n nx) true s r false)
 out:∃ cs,w.heap[p.ob]?=some (.cells cs p.ety)∧cs.size=2*p.n
 cnt:∀ i,base≤i→i<N→(D i).st=7→p.n≤(D i).q+nx
 ex:∀ i,base≤i→i<N→(D i).ex=true→nx=p.n
 done:∀ j,j<nx→(∃ i,base≤i∧i<N∧(D i).h=some j)∨Dn p fz w j
theorem Dn.keep{p:Ph}{fz fz':Nat→Prop}{w w':World}{j:Nat}(h:Dn p fz w j)(hf:∀ b,fz b→fz' b∧w'.heap[b]?=w.heap[b]?)(hr:∀ b,p.ro b→w'.heap[b]?=w.heap[b]?)
  (h0:w'.cell? ⟨p.ob,2*j,none⟩=w.cell? ⟨p.ob,2*j,none⟩)(h1:w'.cell? ⟨p.ob,2*j+1,none⟩=w.cell? ⟨p.ob,2*j+1,none⟩):Dn p fz' w' j:=by
 obtain⟨v0,v1,h,a,b,c,d,e⟩:=h
 refine⟨v0,v1,h,a,fun x o hx=>?_,fun x hx=>(c x hx).imp (fun y=>(hf x y).1) id,h0.trans d,h1.trans e⟩
 rcases c x (by rw[hx];simp) with y|y
 ·rw[(hf x y).2];exact b x o hx
 ·rw[hr x y];exact b x o hx
def own(x:MSt)(D:Nat→WDat)(i:Nat):Nat→Prop:=if i=0 then x.S else(D i).S
structure Cm(P:Program)(x:MSt)(D:Nat→WDat)(N base nx:Nat)(shb fz:Nat→Prop)(gs:Array Goroutine)(w:World)(t:Trace):Prop where
 sz:gs.size=N
 core:Core x.tg.ph (own x D) (fun i=>(D i).h) N base nx shb fz w.heap.size t
 zero:(D 0).st=1
 wk:∀ i,1≤i→i<N→∃ g,gs[i]?=some g∧WSit P x.tg.ph (D i) g w
 old:∀ i,i<base→(D i).st=1
 rly:Rly x.tg.ro x.S x.W w
 dw:∀ i,1≤i→i<N→Deaf t i=(D i).d
 rel:∀ p,x.tg.ph=some p→∀ i,base≤i→i<N→(D i).st≤6→∃ r,RelBy (stA p.Wg) t i r
 lim:N≤base+1000
 jobs:∀ p,x.tg.ph=some p→Jobs p D N base nx fz w
theorem tg_ro{x:MSt}{b:Nat}(h:x.tg.ro b):∃ p,x.tg.ph=some p∧p.ro b:=by
 cases e:x.tg.ph with
 |none=>simp[Tg.ro,e] at h
 |some p=>simp only[Tg.ro,e] at h;exact⟨p,rfl,h⟩
theorem za7{x:MSt}{p:Ph}(h:x.tg.ph=some p):x.tg.ro=p.ro:=by
 unfold Tg.ro;rw[h]
section
variable {P:Program}{x x':MSt}{D D':Nat→WDat}{N base nx nx':Nat}{shb fz fz' X:Nat→Prop}{gs gs':Array Goroutine}{w w':World}{t u:Trace}{a:Nat}{g':Goroutine}
theorem Cm.step(h:Cm P x D N base nx shb fz gs w t)(ha:a<N)(hx:a≠0→x'=x)(hD:∀ i,i≠a→D' i=D i)(hD0:a=0→D'=D)(hph:x'.tg.ph=x.tg.ph)
  (hc:Chg x.tg.ro (own x D a) X w w')(hX:∀ b,X b→∀ i,(i=0∨i<N)→¬ own x D i b)
  (hcore:Core x.tg.ph (own x' D') (fun i=>(D' i).h) N base nx' shb fz' w'.heap.size (t++u))(hu:∀ op∈u,op.g=a)
  (hw:a≠0→gs'[a]?=some g'∧WSit P x.tg.ph (D' a) g' w'∧Deaf (t++u) a=(D' a).d∧(a<base→(D' a).st=1)∧∀ p,x.tg.ph=some p→base≤a→(D' a).st≤6→∃ r,RelBy (stA p.Wg) (t++u) a r)
  (hm:a=0→Rly x.tg.ro x'.S x'.W w')(hgs:gs'.size=gs.size)(hgi:∀ i,1≤i→i≠a→gs'[i]?=gs[i]?∨∃ g0 g1 w1,gs'[i]?=(gs[i]?).map (woken P g0 g1 w1))
  (hj:∀ p,x.tg.ph=some p→Jobs p D' N base nx' fz' w'):Cm P x' D' N base nx' shb fz' gs' w' (t++u):=by
 have oth:∀ i,(i=0∨i<N)→i≠a→∀ b,own x D i b→b<w.heap.size∧¬ own x D a b∧¬ x.tg.ro b∧¬ X b:=fun i hi hne b hb=>
  ⟨h.core.low i b hi hb,fun hab=>hne (h.core.one _ _ _ hi (.inr ha) hb hab),fun hr=>let ⟨p,e,hp⟩:=tg_ro hr;((h.core.pho p e).own i b hi hb).1 hp,fun hxb=>hX b hxb i hi hb⟩
 refine⟨hgs.trans h.sz,hph▸hcore,?_,fun i h1 hN=>?_,fun i hb=>?_,?_,fun i h1 hN=>?_,fun p e i hb hN hst=>?_,h.lim,fun p e=>hj p (hph▸e)⟩
 ·by_cases e:a=0
  ·rw[hD0 e];exact h.zero
  ·rw[hD 0 fun e'=>e e'.symm];exact h.zero
 ·by_cases e:i=a
  ·subst e
   obtain⟨q1,q2,_⟩:=hw (by omega)
   exact⟨g',q1,hph▸q2⟩
  ·obtain⟨g,hg,hs⟩:=h.wk i h1 hN
   have hs':WSit P x.tg.ph (D i) g w':=hs.rely fun p e'=>by
    have:=Rly.of_chg (S2:=(D i).S) hc fun b hb=>oth i (.inr hN) e b (by unfold own;rw[if_neg (by omega)];exact hb)
    rw[za7 e'] at this
    exact this
   refine⟨g,?_,by rw[hD i e,hph];exact hs'⟩
   rcases hgi i h1 e with q|⟨g0,g1,w1,q⟩
   ·rw[q,hg]
   ·rw[q,hg,Option.map_some,hs.wakes]
 ·by_cases e:i=a
  ·subst e
   by_cases h0:i=0
   ·rw[hD0 h0];exact h.old i hb
   ·exact(hw h0).2.2.2.1 hb
  ·rw[hD i e];exact h.old i hb
 ·by_cases e:a=0
  ·have:=hm e
   unfold Tg.ro at this ⊢
   rw[hph]
   exact this
  ·rw[hx e]
   exact h.rly.trans (Rly.of_chg hc fun b hb=>oth 0 (.inl rfl) (Ne.symm e) b (by unfold own;rw[if_pos rfl];exact hb))
 ·by_cases e:i=a
  ·subst e;exact(hw (by omega)).2.2.1
  ·rw[Deaf_other t (fun e'=>e e'.symm) _ hu,hD i e];exact h.dw i h1 hN
 ·rw[hph] at e
  by_cases e':i=a
  ·subst e'
   have:=h.core.b1
   exact(hw (by omega)).2.2.2.2 p e hb hst
  ·rw[hD i e'] at hst
   obtain⟨r,hr⟩:=h.rel p e i hb hN hst
   exact⟨r,hr.appOther hu fun e2=>e' e2.symm⟩
theorem Cm.at(h:Cm P x D N base nx shb fz gs w t)(d:Nat):Cm P x D N base nx shb fz gs (w.at d) t:=by
 refine⟨h.sz,h.core,h.zero,fun i h1 hN=>?_,h.old,h.rly.trans ⟨Nat.le_refl _,fun _ _=>rfl,fun _ _=>rfl,rfl,rfl⟩,h.dw,h.rel,h.lim,fun p e=>?_⟩
 ·obtain⟨g,hg,hs⟩:=h.wk i h1 hN
  exact⟨g,hg,hs.rely fun p e=>⟨Nat.le_refl _,fun _ _=>rfl,fun _ _=>rfl,rfl,rfl⟩⟩
 ·obtain⟨j1,j2,j3,j4,j5⟩:=h.jobs p e
  exact⟨j1,j2,j3,j4,j5⟩
theorem Cm.jobs_keep(h:Cm P x D N base nx shb fz gs w t)(ha:a<N){p:Ph}(hp:x.tg.ph=some p)(hD:∀ i,i≠a→D' i=D i)
  (hc:Chg x.tg.ro (own x D a) X w w')(hX:∀ b,X b→b=p.Wg)(hf:∀ b,fz b→fz' b)(hh:(D' a).h=(D a).h)(hq:base≤a→(D' a).st=7→(D a).st=7∧(D' a).q=(D a).q)(he:base≤a→(D' a).ex=true→(D a).ex=true):Jobs p D' N base nx fz' w':=by
 have k:=h.core.pho p hp
 have j:=h.jobs p hp
 have ha':a=0∨a<N:=.inr ha
 have hcK:w'.heap[p.c]?=w.heap[p.c]? := hc.keep _ k.sp.2.1 (fun o=>(k.own a _ ha' o).2.2.1 rfl) (by rw[za7 hp];exact fun r=>(k.ro _ r).2.2.2.1 rfl) (fun e=>k.dd.1 (hX _ e).symm)
 have hoK:w'.heap[p.ob]?=w.heap[p.ob]? := hc.keep _ k.sp.2.2 (fun o=>(k.own a _ ha' o).2.2.2 rfl) (by rw[za7 hp];exact fun r=>(k.ro _ r).2.2.2.2 rfl) (fun e=>k.dd.2.1 (hX _ e).symm)
 refine⟨by rw[hcK];exact j.chan,by rw[hoK];exact j.out,fun i h1 h2 h3=>?_,fun i h1 h2 h3=>?_,fun m hm=>?_⟩
 ·by_cases e:i=a
  ·subst e
   obtain⟨q1,q2⟩:=hq h1 h3
   rw[q2];exact j.cnt i h1 h2 q1
  ·rw[hD i e] at h3 ⊢;exact j.cnt i h1 h2 h3
 ·by_cases e:i=a
  ·subst e;exact j.ex i h1 h2 (he h1 h3)
  ·rw[hD i e] at h3;exact j.ex i h1 h2 h3
 ·refine(j.done m hm).imp (fun⟨i,h1,h2,h3⟩=>⟨i,h1,h2,?_⟩) fun hd=>hd.keep (fun b hb=>⟨hf b hb,?_⟩) (fun b hb=>hc.ro b (by rw[za7 hp];exact hb)) ?_ ?_
  ·by_cases e:i=a
   ·subst e;rw[hh];exact h3
   ·rw[hD i e];exact h3
  ·obtain⟨q1,q2,q3,q4,_⟩:=k.fz b hb
   exact hc.keep b q1 (q2 a ha') (by rw[za7 hp];exact q3) fun e=>q4 (hX b e)
  ·simp only[World.cell?,hoK]
  ·simp only[World.cell?,hoK]
end
open Go.ConcR (KK WgAt stA smA rd wr DC0 wgBlock)
def cnt(d:WDat):Nat:=if 5≤d.st then 1 else 0
def Vc(N:Nat)(D:Nat→WDat):Nat:=sumTo N fun i=>cnt (D i)
def pend:Tg→Nat
 |.op _ _ pd _=>pd
 |_=>0
def tgd:Tg→Nat
 |.op _ _ _ d=>if d then 1 else 0
 |.wt _ _|.cas _ _|.w3 _|.w4 _=>1
 |.dn _ d=>if d then 1 else 0
 |.idle=>0
def isOpen:Tg→Prop
 |.op _ _ _ _|.wt _ _|.cas _ _=>True
 |_=>False
def isFin:Tg→Prop
 |.w4 _|.dn _ _=>True
 |_=>False
def OpenSt(N:Nat)(D:Nat→WDat):Prop:=∀ i,i<N→(D i).st=7∨(D i).st=6∨(D i).st=5∨(D i).st=1
def AllQuit(N:Nat)(D:Nat→WDat):Prop:=∀ i,i<N→(D i).st=1
def Bnd(N base:Nat)(D:Nat→WDat):Tg→Prop
 |.op _ s pd _=>N=base+s∧pd≤1
 |.wt _ B=>Vc N D≤B
 |.cas _ vs=>Vc N D≤vs∧1≤vs
 |_=>True
inductive Mode(N base:Nat)(D:Nat→WDat):Tg→Bool→Int→Int→Prop
 |opn {tag:Tg} (ho:isOpen tag) (hs:OpenSt N D) (hb:Bnd N base D tag):Mode N base D tag false (((Vc N D+pend tag:Nat):Int)*KK) 0
 |reg {p:Ph} {bl:Bool} (hs:OpenSt N D) (hv:1≤Vc N D):Mode N base D (.w3 p) bl (((Vc N D:Nat):Int)*KK+1) 0
 |last {p:Ph} {bl:Bool} (L:Nat) (hL:L<N) (hs:(D L).st=4∨(D L).st=3∨(D L).st=2) (ho:∀ i,i<N→i≠L→(D i).st=1):Mode N base D (.w3 p) bl (if(D L).st=2 then 0 else 1) 0
 |sema {p:Ph} (hq:AllQuit N D):Mode N base D (.w3 p) false 0 1
 |fin {tag:Tg} (ho:isFin tag) (hq:AllQuit N D):Mode N base D tag false 0 0
section
variable {N base i:Nat}{D D':Nat→WDat}{tag:Tg}{bl bl':Bool}{st sm:Int}{d':WDat}
theorem Vc_upd(x:WDat)(hi:i<N):Vc N (upd D i x)+cnt (D i)=Vc N D+cnt x:=sumTo_upd D x cnt hi
theorem Vc_le(h:∀ i,i<base→(D i).st=1):∀ {N:Nat},base≤N→Vc N D≤N-base
 |0,hN=>by simp[Vc,sumTo]
 |N+1,hN=>by
  rcases Nat.lt_or_ge N base with h1|h1
  ·have e:base=N+1:=by omega
   have:Vc (N+1) D=0:=by
    have:sumTo (N+1) (fun i=>cnt (D i))≤0*(N+1):=sumTo_le fun i hi=>by
     have:=h i (by omega)
     simp[cnt,this]
    simp only[Vc];omega
   omega
  ·have:=Vc_le h h1
   have c1:cnt (D N)≤1:=by unfold cnt;split<;>omega
   simp only[Vc,sumTo] at this ⊢
   omega
theorem Mode.congr(h:∀ a,a<N→(D' a).st=(D a).st)(hm:Mode N base D tag bl st sm):Mode N base D' tag bl st sm:=by
 have hv:Vc N D'=Vc N D:=sumTo_congr fun a ha=>by simp only[cnt,h a ha]
 cases hm with
 |opn ho hs hb=>
  rw[← hv]
  refine .opn ho (fun a ha=>by rw[h a ha];exact hs a ha) ?_
  cases tag<;>simp only[Bnd,hv] at hb ⊢<;>exact hb
 |reg hs hvv=>rw[← hv];exact .reg (fun a ha=>by rw[h a ha];exact hs a ha) (by rw[hv];exact hvv)
 |last L hL hs ho=>rw[← h L hL];exact .last L hL (by rw[h L hL];exact hs) fun a ha e=>by rw[h a ha];exact ho a ha e
 |sema hq=>exact .sema fun a ha=>by rw[h a ha];exact hq a ha
 |fin ho hq=>exact .fin ho fun a ha=>by rw[h a ha];exact hq a ha
theorem Mode.same(hm:Mode N base D tag bl st sm)(hd:d'.st=(D i).st):Mode N base (upd D i d') tag bl st sm:=
 hm.congr fun a _=>by
  by_cases e:a=i
  ·subst e;rw[upd_same,hd]
  ·rw[upd_ne D _ e]
theorem Mode.counted(hm:Mode N base D tag bl st sm)(hi:i<N)(h5:5≤(D i).st)(hs:d'.st=7∨d'.st=6∨d'.st=5):Mode N base (upd D i d') tag bl st sm:=by
 have hv:Vc N (upd D i d')=Vc N D:=by
  have:=Vc_upd (D:=D) d' hi
  have c1:cnt (D i)=1:=by simp[cnt,h5]
  have c2:cnt d'=1:=by unfold cnt;rw[if_pos (by omega)]
  omega
 have ho:OpenSt N D→OpenSt N (upd D i d'):=fun h a ha=>by
  by_cases e:a=i
  ·subst e;rw[upd_same];omega
  ·rw[upd_ne D _ e];exact h a ha
 cases hm with
 |opn h1 h2 h3=>
  rw[← hv]
  refine .opn h1 (ho h2) ?_
  cases tag<;>simp only[Bnd,hv] at h3 ⊢<;>exact h3
 |reg h2 h3=>rw[← hv];exact .reg (ho h2) (by rw[hv];exact h3)
 |last L h2 h3 h4=>
  by_cases e:i=L
  ·subst e;omega
  ·have:=h4 i hi e;omega
 |sema h2=>have:=h2 i hi;omega
 |fin h1 h2=>have:=h2 i hi;omega
theorem Mode.isLast(hm:Mode N base D tag bl st sm)(hi:i<N)(h:(D i).st=4∨(D i).st=3∨(D i).st=2):(∃ p,tag=.w3 p)∧(∀ a,a<N→a≠i→(D a).st=1)∧st=(if(D i).st=2 then 0 else 1)∧sm=0:=by
 cases hm with
 |opn _ h2 _=>have:=h2 i hi;omega
 |reg h2 _=>have:=h2 i hi;omega
 |last L h2 h3 h4=>
  by_cases e:i=L
  ·subst e;exact⟨⟨_,rfl⟩,h4,rfl,rfl⟩
  ·have:=h4 i hi e;omega
 |sema h2=>have:=h2 i hi;omega
 |fin _ h2=>have:=h2 i hi;omega
theorem others_uncounted(hi:i<N)(h1:Vc N D=1)(hc:cnt (D i)=1):∀ a,a<N→a≠i→cnt (D a)=0:=by
 intro a ha e
 have h0:=Vc_upd (D:=D) (⟨0,.leaf,0,0,0,none,no,true⟩:WDat) hi
 have c0:cnt (⟨0,.leaf,0,0,0,none,no,true⟩:WDat)=0:=rfl
 have:=le_sumTo (f:=fun x=>cnt (upd D i ⟨0,.leaf,0,0,0,none,no,true⟩ x)) ha
 simp only[upd_ne D _ e] at this
 simp only[Vc] at h0 h1
 omega
theorem Mode.wake(hm:Mode N base D tag bl st sm)(h:bl'=bl∨(bl=true∧bl'=false)):Mode N base D tag bl' st sm:=by
 rcases h with rfl|⟨rfl,rfl⟩
 ·exact hm
 ·cases hm with
  |reg h2 h3=>exact .reg h2 h3
  |last L h2 h3 h4=>exact .last L h2 h3 h4
end
abbrev Key:=Nat×Rk WSt×Nat
def kl:Key→Key→Prop:=Prod.Lex (· < ·) (Prod.Lex Rk.lt (· < ·))
theorem kl_wf:WellFounded kl:=(Prod.lex ⟨_,Nat.lt_wfRel.wf⟩ ⟨_,(Prod.lex ⟨_,Rk.wf⟩ ⟨_,Nat.lt_wfRel.wf⟩).wf⟩).wf
inductive L1{α:Type}(r:α→α→Prop):List α→List α→Prop
 |head {a' a:α} {l:List α} (h:r a' a):L1 r (a'::l) (a::l)
 |tail {a:α} {l' l:List α} (h:L1 r l' l):L1 r (a::l') (a::l)
theorem L1.acc{α:Type}{r:α→α→Prop}(wf:WellFounded r):∀ l:List α,Acc (L1 r) l
 | []=>⟨_,fun _ h=>by cases h⟩
 |a::l=>by
  have hl:=L1.acc wf l
  induction wf.apply a generalizing l with
  |intro a _ iha=>
   induction hl with
   |intro l hl ihl=>
    refine⟨_,fun y hy=>?_⟩
    cases hy with
    |head h=>exact iha _ h l ⟨_,hl⟩
    |tail h=>exact ihl _ h
theorem L1.app{α:Type}{r:α→α→Prop}{l' l:List α}(h:L1 r l' l)(m:List α):L1 r (l'++m) (l++m):=by
 induction h with
 |head h=>exact .head h
 |tail _ ih=>exact .tail ih
theorem L1.last{α:Type}{r:α→α→Prop}{a' a:α}(h:r a' a):∀ (l:List α),L1 r (l++[a']) (l++[a])
 | []=>.head h
 |_::l=>.tail (L1.last h l)
def key(d:WDat):Key:=(d.st,d.rk,d.m)
def tup:Nat→(Nat→WDat)→List Key
 |0,_=>[]
 |N+1,D=>tup N D++[key (D N)]
theorem tup_congr{D D':Nat→WDat}:∀ {N:Nat},(∀ i,i<N→D' i=D i)→tup N D'=tup N D
 |0,_=>rfl
 |N+1,h=>by rw[tup,tup,tup_congr fun i hi=>h i (by omega),h N (by omega)]
theorem tup_upd{D:Nat→WDat}{i:Nat}{d':WDat}(h:kl (key d') (key (D i))):∀ {N:Nat},i<N→L1 kl (tup N (upd D i d')) (tup N D)
 |N+1,hi=>by
  rcases Nat.lt_or_ge i N with hlt|hge
  ·rw[tup,tup,upd_ne D _ (show N≠i by omega)]
   exact(tup_upd h hlt).app _
  ·obtain rfl:i=N:=by omega
   rw[tup,tup,upd_same,tup_congr fun a ha=>upd_ne D _ (by omega)]
   exact L1.last h _
abbrev Mu:=Rk MSt×(List Key×Nat)
def mlt:Mu→Mu→Prop:=Prod.Lex Rk.lt (Prod.Lex (L1 kl) (· < ·))
theorem mlt_wf:WellFounded mlt:=(Prod.lex ⟨_,Rk.wf⟩ ⟨_,(Prod.lex ⟨_,⟨L1.acc kl_wf⟩⟩ ⟨_,Nat.lt_wfRel.wf⟩).wf⟩).wf
structure Main(x:MSt)(bl:Bool)(a0:Goroutine):Prop where
 eq:a0=if bl then {x.g with status:=.blocked} else x.g
 run:x.g.status=.running
 off:bl=true→x.g.offers=none
theorem Main.wake{P:Program}{x:MSt}{bl:Bool}{a0:Goroutine}(h:Main x bl a0)(g g':Goroutine)(w':World) :
  ∃ bl',Main x bl' (woken P g g' w' a0)∧(bl'=bl∨(bl=true∧bl'=false))∧(mayWake P g=true→g'.status=.running→bl'=false):=by
 unfold Go.Conc.woken
 split
 ·cases bl with
  |false=>
   refine⟨false,⟨?_,h.run,h.off⟩,.inl rfl,fun _ _=>rfl⟩
   rw[h.eq]
   exact again_running _ (.inl h.run)
  |true=>
   refine⟨false,⟨?_,h.run,fun e=>by cases e⟩,.inr ⟨rfl,rfl⟩,fun _ _=>rfl⟩
   rw[h.eq]
   exact Go.ConcR.again_blocked h.run (h.off rfl) _
 ·rename_i hc
  exact⟨bl,h,.inl rfl,fun h1 h2=>absurd (by simp[h1,h2]) hc⟩
theorem Main.noOffers{x:MSt}{bl:Bool}{a0:Goroutine}(h:Main x bl a0)(c:Nat)(s:Bool):offersAt a0 c s=[]:=by
 cases bl with
 |false=>exact offersAt_of_not_blocked (by rw[h.eq];simp[h.run]) _ _
 |true=>
  rw[h.eq]
  simp[offersAt,h.off rfl]
def isWait:Tg→Prop
 |.wt _ _|.cas _ _|.w3 _|.w4 _|.dn _ _=>True
 |_=>False
structure Stt(P:Program)(x:MSt)(D:Nat→WDat)(base nx:Nat)(shb fz:Nat→Prop)(bl:Bool)(gs:Array Goroutine)(w:World)(t:Trace):Prop where
 cm:Cm P x D gs.size base nx shb fz gs w t
 main:∃ a0,gs[0]?=some a0∧Main x bl a0
 d0:Deaf t 0=tgd x.tg
 mode:∀ p,x.tg.ph=some p→∃ st sm,WgAt p.ty p.Wg w st sm∧Mode gs.size base D x.tg bl st sm
 idl:x.tg.ph=none→bl=false
 some':isWait x.tg→base<gs.size
def mu(r:Rk MSt)(N:Nat)(D:Nat→WDat)(bl:Bool):Mu:=(r,tup N D,if bl then 0 else 1)
def Inv(P:Program)(Post:Value→World→Prop)(μ:Mu)(m:Machine)(t:Trace):Prop:=
 ∃ (gs:Array Goroutine) (w:World) (sl:Option (Nat×Nat)) (x:MSt) (r:Rk MSt) (D:Nat→WDat) (base nx:Nat) (shb fz:Nat→Prop) (bl:Bool),
  m=crowd gs w sl∧Stt P x D base nx shb fz bl gs w t∧MT P Post r x∧μ=mu r gs.size D bl
open Go.ConcR (KK WgAt stA smA rd wr DC0 wgBlock)
section
variable {P:Program}{Post:Value→World→Prop}{x:MSt}{r:Rk MSt}{D:Nat→WDat}{base nx nx':Nat}{shb fz fz' X:Nat→Prop}{bl:Bool}{gs gs':Array Goroutine}{w w':World}{sl:Option (Nat×Nat)}{t u:Trace}{i:Nat}{g g':Goroutine}{es:Array Event}{d':WDat}
theorem ofEv_g{fn:FuncId}{pos:String}:∀ op∈MemOp.ofEvents i fn pos es,op.g=i:=fun op hop=>by obtain⟨e,_,rfl⟩:=Go.Conc.mem_ofEvents hop;rfl
theorem z8z{a:Nat}(h:a≠0):own x D a=(D a).S:=by unfold own;rw[if_neg h]
theorem z6x{j:Nat}(i0:i≠0)(h:j≠i):own x (upd D i d') j=own x D j:=by
 unfold own;rw[upd_ne D _ h]
theorem z34(i0:i≠0):own x (upd D i d') i=d'.S:=by unfold own;rw[if_neg i0,upd_same]
theorem wany(h:Stt P x D base nx shb fz bl gs w t)(hM:MT P Post r x)(i1:1≤i)(iN:i<gs.size)
  (hrun:runT P (crowd gs w sl) i=(.next (crowd gs' w' sl),u))(hu:∀ op∈u,op.g=i)(hgs:gs'.size=gs.size)(hgi:∀ j,1≤j→j≠i→gs'[j]?=gs[j]?∨∃ g0 g1 w1,gs'[j]?=(gs[j]?).map (woken P g0 g1 w1))(hgi':gs'[i]?=some g')
  {W:Prop}(h0:∃ bl',(∃ a0',gs'[0]?=some a0'∧Main x bl' a0')∧(bl'=bl∨(bl=true∧bl'=false))∧(W→bl'=false))
  (hc:Chg x.tg.ro (D i).S X w w')(hX:∀ b,X b→∀ j,(j=0∨j<gs.size)→¬ own x D j b)
  (hcore:Core x.tg.ph (own x (upd D i d')) (fun j=>(upd D i d' j).h) gs.size base nx' shb fz' w'.heap.size (t++u))
  (hs:WSit P x.tg.ph d' g' w')(hd:Deaf (t++u) i=d'.d)(ho:i<base→d'.st=1)
  (hr:∀ p,x.tg.ph=some p→base≤i→d'.st≤6→∃ r,RelBy (stA p.Wg) (t++u) i r)
  (hj:∀ p,x.tg.ph=some p→Jobs p (upd D i d') gs.size base nx' fz' w')
  (hmode:∀ p,x.tg.ph=some p→∀ bl',(bl'=bl∨(bl=true∧bl'=false))→(W→bl'=false)→∃ st sm,WgAt p.ty p.Wg w' st sm∧Mode gs.size base (upd D i d') x.tg bl' st sm)
  (hk:kl (key d') (key (D i))) :
  ∃ m₁ ops μ',runT P (crowd gs w sl) i=(.next m₁,ops)∧mlt μ' (mu r gs.size D bl)∧Inv P Post μ' m₁ (t++ops):=by
 obtain⟨bl',hm',hb,hW⟩:=h0
 have i0:i≠0:=by omega
 refine⟨_,u,mu r gs.size (upd D i d') bl',hrun,.right _ (.left _ _ (tup_upd hk iN)),gs',w',sl,x,r,upd D i d',base,nx',shb,fz',bl',rfl,?_,hM,by rw[hgs]⟩
 refine⟨?_,hm',?_,?_,fun e=>?_,fun e=>by rw[hgs];exact h.some' e⟩
 ·rw[hgs]
  exact h.cm.step (a:=i) (X:=X) (g':=g') iN (fun _=>rfl) (fun j hj=>upd_ne D _ hj) (fun e=>absurd e i0) rfl (by rw[z8z i0];exact hc) hX hcore hu
   (fun _=>⟨hgi',by rw[upd_same];exact hs,by rw[upd_same];exact hd,fun e=>by rw[upd_same];exact ho e,fun p e1 e2 e3=>hr p e1 e2 (by rwa [upd_same] at e3)⟩) (fun e=>absurd e i0) hgs hgi hj
 ·rw[Deaf_other t (fun e=>i0 e) _ hu];exact h.d0
 ·intro p e
  rw[hgs]
  exact hmode p e bl' hb hW
 ·rcases hb with rfl|⟨_,e2⟩
  ·exact h.idl e
  ·exact e2
theorem wgo(h:Stt P x D base nx shb fz bl gs w t)(hM:MT P Post r x)(i1:1≤i)(iN:i<gs.size)(hg:gs[i]?=some g)(hgo:stepG P false g w=.go g' w' es)
  (hc:Chg x.tg.ro (D i).S X w w')(hX:∀ b,X b→∀ j,(j=0∨j<gs.size)→¬ own x D j b)
  (hcore:Core x.tg.ph (own x (upd D i d')) (fun j=>(upd D i d' j).h) gs.size base nx' shb fz' w'.heap.size (t++MemOp.ofEvents i g.frame.fn g.frame.place es))
  (hs:WSit P x.tg.ph d' g' w')(hd:deafBehind (D i).d es=d'.d)(ho:i<base→d'.st=1)
  (hr:∀ p,x.tg.ph=some p→base≤i→d'.st≤6→∃ r,RelBy (stA p.Wg) (t++MemOp.ofEvents i g.frame.fn g.frame.place es) i r)
  (hj:∀ p,x.tg.ph=some p→Jobs p (upd D i d') gs.size base nx' fz' w')
  (hmode:∀ p,x.tg.ph=some p→∀ bl',(bl'=bl∨(bl=true∧bl'=false))→(mayWake P g=true∧g'.status=.running→bl'=false)→∃ st sm,WgAt p.ty p.Wg w' st sm∧Mode gs.size base (upd D i d') x.tg bl' st sm)
  (hk:kl (key d') (key (D i))) :
  ∃ m₁ ops μ',runT P (crowd gs w sl) i=(.next m₁,ops)∧mlt μ' (mu r gs.size D bl)∧Inv P Post μ' m₁ (t++ops):=by
 have i0:i≠0:=by omega
 obtain⟨a0,ha0,hm⟩:=h.main
 obtain⟨bl',hm',hb,hW⟩:=hm.wake (P:=P) g g' w'
 refine wany h hM i1 iN (runT_crowd_go hg (by rw[show(i==0)=false by simp;omega];exact hgo)) ofEv_g (by simp) (fun j j1 hj=>.inr ⟨g,g',w',by rw[Array.getElem?_setIfInBounds_ne (Ne.symm hj),Array.getElem?_map]⟩)
  (by simp[iN]) (W:=mayWake P g=true∧g'.status=.running) ⟨bl',⟨_,by rw[Array.getElem?_setIfInBounds_ne i0,Array.getElem?_map,ha0];rfl,hm'⟩,hb,fun hw=>hW hw.1 hw.2⟩ hc hX hcore hs ?_ ho hr hj hmode hk
 rw[Deaf_own,h.cm.dw i i1 iN];exact hd
theorem wbook(h:Stt P x D base nx shb fz bl gs w t)(hM:MT P Post r x)(i1:1≤i)(iN:i<gs.size)(hg:gs[i]?=some g)(hgo:stepG P false g w=.go g' w' es)
  (h6:(D i).st≤6)(h6':d'.st≤6)(hbase:(∀ e∈es,e.mute=true)∨base≤i)(hw:w'=w∨∃ p,x.tg.ph=some p∧∃ a v,a.block=p.Wg∧w'=w.setCell a v)
  (he:(∀ e∈es,e.mute=true)∨∃ p,x.tg.ph=some p∧∀ e∈es,(∃ c wr,e=⟨.cell c,wr,true⟩∧c.block=p.Wg)∨e=Go.ConcR.mk .disable∨e=Go.ConcR.mk .enable)
  (hdf:∀ j e,es[j]?=some e→(MemAct.ofEvent e).touch? = none∨((∃ ad wr,e=⟨.cell ad,wr,true⟩)∧0<deafBehind (D i).d (es.extract 0 j)))
  (hs:WSit P x.tg.ph d' g' w')(hd:deafBehind (D i).d es=d'.d)(ho:i<base→d'.st=1)
  (hmode:∀ p,x.tg.ph=some p→∀ bl',(bl'=bl∨(bl=true∧bl'=false))→(mayWake P g=true∧g'.status=.running→bl'=false)→∃ st sm,WgAt p.ty p.Wg w' st sm∧Mode gs.size base (upd D i d') x.tg bl' st sm)
  (hk:kl (key d') (key (D i))) :
  ∃ m₁ ops μ',runT P (crowd gs w sl) i=(.next m₁,ops)∧mlt μ' (mu r gs.size D bl)∧Inv P Post μ' m₁ (t++ops):=by
 have i0:i≠0:=by omega
 have hci:=h.cm.core
 obtain⟨g₁,hg₁,hsit⟩:=h.cm.wk i i1 iN
 obtain⟨z1,z2,z3⟩:=hsit.le7.2.2.1 h6
 obtain⟨y1,y2,y3⟩:=hs.le7.2.2.1 h6'
 have hX:∀ b,(∃ p,x.tg.ph=some p∧b=p.Wg)→∀ j,(j=0∨j<gs.size)→¬ own x D j b:=fun b ⟨p,e,hb⟩ j hj o=>((hci.pho p e).own j b hj o).2.1 hb
 have hc:Chg x.tg.ro (own x D i) (fun b=>∃ p,x.tg.ph=some p∧b=p.Wg) w w':=by
  rcases hw with rfl|⟨p,e,a,v,ha,rfl⟩
  ·exact .refl _ _ _ _
  ·have:=Chg.setCell (ro:=x.tg.ro) (S:=own x D i) (w:=w) (a:=a) (v:=v) (by rw[za7 e];exact fun hr=>((hci.pho p e).ro _ hr).2.2.1 ha)
   exact⟨this.size,fun b h1 h2 h3 h4=>this.keep b h1 h2 h3 fun e'=>h4 ⟨p,e,e'.trans ha⟩,this.ro,this.so⟩
 have hsz:w'.heap.size=w.heap.size:=by
  rcases hw with rfl|⟨p,e,a,v,ha,rfl⟩
  ·rfl
  ·exact(z5a w a v).1
 have hops:(∀ op∈MemOp.ofEvents i g.frame.fn g.frame.place es,OkT (gh x.tg.ph (own x D) (fun j=>(D j).h) gs.size base nx shb) i op)∧∀ op∈MemOp.ofEvents i g.frame.fn g.frame.place es,op.act.low w.heap.size:=by
  rcases he with he|⟨p,e,he⟩
  ·exact hci.okMute he
  ·rcases hbase with hm|hb
   ·exact hci.okMute hm
   ·exact hci.okBk e (.inr ⟨hb,iN⟩) fun e1 h1=>(he e1 h1).imp id fun y=>y.imp id fun y=>.inl y
 refine wgo h hM i1 iN hg hgo (by rw[z8z i0] at hc;exact hc) hX (nx':=nx) (fz':=fz) ?_ hs hd ho (fun p e hb _=>?_) (fun p e=>?_) hmode hk
 ·rw[hsz]
  have h1:=hci.app iN hops.1 hops.2
  exact h1.lay (a:=i) (O':=own x (upd D i d')) (H':=fun j=>(upd D i d' j).h) (fun j hj=>z6x i0 hj) (fun b hb=>by rw[z34 i0,y2] at hb;exact hb.elim) (fun j hj=>by simp only[upd_ne D _ hj]) (fun j hj=>by simp only[upd_same,y1] at hj;cases hj)
   (Nat.le_refl _) (fun p e=>(hci.pho p e).nxn) (fun b hb=>.inl hb) (.inr iN) (Nat.le_refl _)
 ·obtain⟨q,hq⟩:=h.cm.rel p e i hb iN h6
  refine⟨q,hq.appOwn _ _ _ fun j e1 h1=>?_⟩
  rw[h.cm.dw i i1 iN]
  exact hdf j e1 h1
 ·exact h.cm.jobs_keep iN e (fun j hj=>upd_ne D _ hj) hc (fun b ⟨p',e',hb⟩=>by rw[e] at e';cases e';exact hb) (fun _ hb=>hb) (by rw[upd_same,y1,z1]) (fun _ h7=>by rw[upd_same] at h7;omega) (fun _ _=>z3)
end
open Go.ConcR (KK WgAt stA smA rd wr DC0 wgBlock)
section
variable {P:Program}{Post:Value→World→Prop}{x:MSt}{r:Rk MSt}{D:Nat→WDat}{base nx:Nat}{shb fz:Nat→Prop}{bl:Bool}{gs:Array Goroutine}{w w':World}{sl:Option (Nat×Nat)}{t:Trace}{i:Nat}{g g':Goroutine}{es:Array Event}
theorem Vc_lim(h:Stt P x D base nx shb fz bl gs w t):Vc gs.size D≤1000:=by
 have:=Vc_le (D:=D) h.cm.old h.cm.core.bN
 have:=h.cm.lim
 omega
theorem z98(h:Stt P x D base nx shb fz bl gs w t)(hst:(D i).st≠1):base≤i:=Nat.le_of_not_lt fun hlt=>hst (h.cm.old i hlt)
theorem z9i(h:Stt P x D base nx shb fz bl gs w t)(hM:MT P Post r x)(i1:1≤i)(iN:i<gs.size)(hg:gs[i]?=some g){p:Ph}(hp:x.tg.ph=some p){d':WDat}(hgo:stepG P false g w=.go g' w #[])
  (hs:WSit P x.tg.ph d' g' w)(h6:(D i).st≤6)(h1:(D i).st≠1)(hst:d'.st=(D i).st)(hd:d'.d=(D i).d)(hk:kl (key d') (key (D i))) :
  ∃ m₁ ops μ',runT P (crowd gs w sl) i=(.next m₁,ops)∧mlt μ' (mu r gs.size D bl)∧Inv P Post μ' m₁ (t++ops):=by
 refine wbook h hM i1 iN hg hgo h6 (by omega) (.inl (by simp)) (.inl rfl) (.inl (by simp)) (by simp) hs (by rw[hd];rfl) (fun hb=>absurd (h.cm.old i hb) h1) (fun p e bl' hb _=>?_) hk
 obtain⟨st,sm,h2,h3⟩:=h.mode p e
 exact⟨st,sm,h2,(h3.wake hb).same hst⟩
theorem kl_m{s:Nat}{rk:Rk WSt}{m m':Nat}(h:m'<m):kl (s,rk,m') (s,rk,m):=.right _ (.right _ h)
theorem kl_s{s s':Nat}{rk rk':Rk WSt}{m m':Nat}(h:s'<s):kl (s',rk',m') (s,rk,m):=.left _ _ h
theorem df_rw{Wg:Nat}:∀ (j:Nat) (e:Event),(#[rd (stA Wg),wr (stA Wg)]:Array Event)[j]?=some e→(MemAct.ofEvent e).touch? = none∨((∃ ad wr,e=⟨.cell ad,wr,true⟩)∧0<deafBehind 1 ((#[rd (stA Wg),wr (stA Wg)]:Array Event).extract 0 j)):=by
 intro j e he
 match j,he with
 |0,he=>simp at he;subst he;exact .inr ⟨⟨_,_,rfl⟩,by simp[deafBehind]⟩
 |1,he=>simp at he;subst he;exact .inr ⟨⟨_,_,rfl⟩,by simp[deafBehind,rd]⟩
 |j+2,he=>simp at he
theorem df_r{Wg:Nat}:∀ (j:Nat) (e:Event),(#[rd (stA Wg)]:Array Event)[j]?=some e→(MemAct.ofEvent e).touch? = none∨((∃ ad wr,e=⟨.cell ad,wr,true⟩)∧0<deafBehind 1 ((#[rd (stA Wg)]:Array Event).extract 0 j)):=by
 intro j e he
 match j,he with
 |0,he=>simp at he;subst he;exact .inr ⟨⟨_,_,rfl⟩,by simp[deafBehind]⟩
 |j+1,he=>simp at he
theorem df_w{Wg:Nat}:∀ (j:Nat) (e:Event),(#[wr (stA Wg)]:Array Event)[j]?=some e→(MemAct.ofEvent e).touch? = none∨((∃ ad wr,e=⟨.cell ad,wr,true⟩)∧0<deafBehind 1 ((#[wr (stA Wg)]:Array Event).extract 0 j)):=by
 intro j e he
 match j,he with
 |0,he=>simp at he;subst he;exact .inr ⟨⟨_,_,rfl⟩,by simp[deafBehind]⟩
 |j+1,he=>simp at he
theorem df_sem{Wg:Nat}:∀ (j:Nat) (e:Event),(semEvents (smA Wg))[j]?=some e→(MemAct.ofEvent e).touch? = none∨((∃ ad wr,e=⟨.cell ad,wr,true⟩)∧0<deafBehind 1 ((semEvents (smA Wg)).extract 0 j)):=by
 intro j e he
 match j,he with
 |0,he=>simp[semEvents] at he;subst he;exact .inl rfl
 |1,he=>simp[semEvents] at he;subst he;exact .inr ⟨⟨_,_,rfl⟩,by simp[deafBehind,semEvents]⟩
 |2,he=>simp[semEvents] at he;subst he;exact .inr ⟨⟨_,_,rfl⟩,by simp[deafBehind,semEvents]⟩
 |3,he=>simp[semEvents] at he;subst he;exact .inl rfl
 |j+4,he=>simp[semEvents] at he
set_option maxHeartbeats 1600000 in
theorem wlate(h:Stt P x D base nx shb fz bl gs w t)(hM:MT P Post r x)(i1:1≤i)(iN:i<gs.size)(hg:gs[i]?=some g)(hrun:g.status=.running)(h6:(D i).st≤6)(hs:WSit P x.tg.ph (D i) g w) :
  ∃ m₁ ops μ',runT P (crowd gs w sl) i=(.next m₁,ops)∧mlt μ' (mu r gs.size D bl)∧Inv P Post μ' m₁ (t++ops):=by
 have sil:=@z9i P Post x r D base nx shb fz bl gs w sl t i g
 have hold:=h.cm.old i
 have book:=@wbook P Post x r D base nx shb fz bl gs w
 generalize hdi:D i=d at hs h6
 generalize hph:x.tg.ph=ph at hs
 have nobase:∀ {Q:Prop},d.st≠1→i<base→Q:=fun hne hb=>absurd (hdi▸hold hb) hne
 cases hs with
 |wk hw hr=>simp at h6
 |@k1 p rk m q g w hs=>
  obtain⟨st,sm,hwg,hmode⟩:=h.mode p hph
  rcases hs.cases with hk|⟨n,rfl,hstep⟩
  ·obtain⟨_,hk⟩:=hk
   obtain⟨g',hgo,m',hk⟩:=hk w ⟨_,_,hwg⟩
   refine wbook (d':=⟨5,rk,m',1,q,none,no,true⟩) h hM i1 iN hg hgo (by rw[hdi];simp) (by simp) (.inl (by intro e he;simp at he;subst he;rfl)) (.inl rfl) (.inl (by intro e he;simp at he;subst he;rfl))
    (fun j e he=>.inl (by have:=Array.mem_of_getElem? he;simp at this;subst this;rfl)) (by rw[hph];exact .d1 hk) (by rw[hdi];rfl) (nobase (by simp)) (fun p' e bl' hb _=>?_) (by rw[hdi];exact kl_s (by simp))
   rw[hph] at e;cases e
   exact⟨st,sm,hwg,(hmode.wake hb).counted iN (by rw[hdi];simp) (by simp)⟩
  ·obtain⟨g',hgo,hk⟩:=hstep w ⟨_,_,hwg⟩
   exact z9i (d':=⟨6,rk,n,0,q,none,no,true⟩) h hM i1 iN hg hph hgo (by rw[hph];exact .k1 hk) (by rw[hdi];simp) (by rw[hdi];simp) (by rw[hdi]) (by rw[hdi]) (by rw[hdi];exact kl_m (by simp))
 |@d1 p rk m q g w hs=>
  obtain⟨st,sm,hwg,hmode⟩:=h.mode p hph
  rcases hs.cases with hk|⟨n,rfl,hstep⟩
  ·obtain⟨_,hall⟩:=hk
   have hlim:=Vc_lim h
   have hc1:cnt (D i)=1:=by rw[hdi];rfl
   have hV1:1≤Vc gs.size D:=by have:=le_sumTo (f:=fun x=>cnt (D x)) iN;simp only[Vc];omega
   have bk2:∀ e∈(#[rd (stA p.Wg),wr (stA p.Wg)]:Array Event),(∃ c wr,e=⟨.cell c,wr,true⟩∧c.block=p.Wg)∨e=Go.ConcR.mk .disable∨e=Go.ConcR.mk .enable:=by
    intro e he;simp at he;rcases he with rfl|rfl
    ·exact .inl ⟨_,_,rfl,rfl⟩
    ·exact .inl ⟨_,_,rfl,rfl⟩
   have opq:∀ d':WDat,d'.st=1→OpenSt gs.size D→OpenSt gs.size (upd D i d'):=fun d' hd h a ha=>by
    by_cases e:a=i
    ·subst e;rw[upd_same];omega
    ·rw[upd_ne D _ e];exact h a ha
   have go:∀ {g':Goroutine} {v:Int} {d':WDat},stepG P false g w=.go g' (w.setCell (stA p.Wg) (.int .u64 v)) #[rd (stA p.Wg),wr (stA p.Wg)]→d'.st≤4→1≤d'.d→d'.d=1→WSit P (some p) d' g' (w.setCell (stA p.Wg) (.int .u64 v)) →
     (∀ bl',(bl'=bl∨(bl=true∧bl'=false))→Mode gs.size base (upd D i d') x.tg bl' v 0)→sm=0→∃ m₁ ops μ',runT P (crowd gs w sl) i=(.next m₁,ops)∧mlt μ' (mu r gs.size D bl)∧Inv P Post μ' m₁ (t++ops):=by
    intro g' v d' hgo h4 _ hd1 hs' hm' hsm
    subst hsm
    refine wbook (d':=d') h hM i1 iN hg hgo (by rw[hdi];simp) (by omega) (.inr (z98 h (by rw[hdi];simp))) (.inr ⟨p,hph,stA p.Wg,_,rfl,rfl⟩) (.inr ⟨p,hph,bk2⟩) (by rw[hdi];exact df_rw) (by rw[hph];exact hs') (by rw[hdi,hd1];rfl) (nobase (by simp)) (fun p' e bl' hb _=>?_) (by rw[hdi];exact kl_s (by show d'.st<5;omega))
    rw[hph] at e;cases e
    exact⟨v,0,hwg.setSt _,hm' bl' hb⟩
   generalize htg:x.tg=tg at hmode
   cases hmode with
   |@opn tag h1 h2 h3=>
    subst htg
    obtain⟨v,hv⟩:∃ v,Vc gs.size D+pend x.tg=v+1:=⟨Vc gs.size D+pend x.tg-1,by omega⟩
    have hpd:pend x.tg≤1:=by
     generalize x.tg=tg at h3
     cases tg<;>simp only[pend]<;>first|omega|exact h3.2
    rw[hv] at hwg
    have hw1:WgAt p.ty p.Wg w (((v:Nat)+1)*KK+((0:Nat):Int)) 0:=by simpa using hwg
    obtain⟨g',hgo,_,hq⟩:=hall w v 0 (by omega) (by omega) hw1
    obtain⟨q',hq⟩:=hq (by omega)
    refine go (d':=⟨1,rk,q',1,q,none,no,true⟩) hgo (by simp) (by simp) rfl (.quit hq) (fun bl' hb=>?_) rfl
    have hv':Vc gs.size (upd D i ⟨1,rk,q',1,q,none,no,true⟩)+1=Vc gs.size D:=by
     have:=Vc_upd (D:=D) (⟨1,rk,q',1,q,none,no,true⟩:WDat) iN
     have c0:cnt (⟨1,rk,q',1,q,none,no,true⟩:WDat)=0:=rfl
     omega
    have e:((v:Nat):Int)*KK+((0:Nat):Int)=((Vc gs.size (upd D i ⟨1,rk,q',1,q,none,no,true⟩)+pend x.tg:Nat):Int)*KK:=by
     have:v=Vc gs.size (upd D i ⟨1,rk,q',1,q,none,no,true⟩)+pend x.tg:=by omega
     rw[← this];simp
    rw[e]
    have hbf:bl'=false:=hb.elim id (·.2)
    subst hbf
    refine .opn h1 (opq _ rfl h2) ?_
    generalize hvn:Vc gs.size (upd D i ⟨1,rk,q',1,q,none,no,true⟩)=vn at hv'
    generalize x.tg=tg at h3 hv h1
    cases tg<;>simp only[Bnd,hvn] at h3 ⊢<;>first|exact h3|omega|skip
   |@reg p' bl0 h2 h3=>
    obtain⟨v,hv⟩:∃ v,Vc gs.size D=v+1:=⟨Vc gs.size D-1,by omega⟩
    rw[hv] at hwg
    have hw1:WgAt p.ty p.Wg w (((v:Nat)+1)*KK+((1:Nat):Int)) 0:=by simpa using hwg
    obtain⟨g',hgo,hl,hq⟩:=hall w v 1 (by omega) (by omega) hw1
    by_cases hv0:v=0
    ·subst hv0
     obtain⟨m₂,hk⟩:=hl ⟨rfl,rfl⟩
     refine go (d':=⟨4,rk,m₂,1,q,none,no,true⟩) hgo (by simp) (by simp) rfl (.d2 hk) (fun bl' hb=>?_) rfl
     rw[htg]
     have hoth:∀ a,a<gs.size→a≠i→(D a).st=1:=fun a ha e=>by
      have c0:=others_uncounted iN hv hc1 a ha e
      have:=h2 a ha
      simp only[cnt] at c0
      split at c0<;>omega
     have:=Mode.last (N:=gs.size) (base:=base) (D:=upd D i ⟨4,rk,m₂,1,q,none,no,true⟩) (p:=p') (bl:=bl') i iN (by rw[upd_same];simp) (fun a ha e=>by rw[upd_ne D _ e];exact hoth a ha e)
     rw[upd_same] at this
     simpa using this
    ·obtain⟨q',hq⟩:=hq (by omega)
     refine go (d':=⟨1,rk,q',1,q,none,no,true⟩) hgo (by simp) (by simp) rfl (.quit hq) (fun bl' hb=>?_) rfl
     rw[htg]
     have hv':Vc gs.size (upd D i ⟨1,rk,q',1,q,none,no,true⟩)=v:=by
      have:=Vc_upd (D:=D) (⟨1,rk,q',1,q,none,no,true⟩:WDat) iN
      have c0:cnt (⟨1,rk,q',1,q,none,no,true⟩:WDat)=0:=rfl
      omega
     have e:((v:Nat):Int)*KK+((1:Nat):Int)=((Vc gs.size (upd D i ⟨1,rk,q',1,q,none,no,true⟩):Nat):Int)*KK+1:=by rw[hv'];simp
     rw[e]
     exact .reg (opq _ rfl h2) (by omega)
   |last L h2 h3 h4=>
    by_cases e:i=L
    ·subst e;rw[hdi] at h3;simp at h3
    ·have:=h4 i iN e;rw[hdi] at this;simp at this
   |sema h2=>have:=h2 i iN;rw[hdi] at this;simp at this
   |fin _ h2=>have:=h2 i iN;rw[hdi] at this;simp at this
  ·obtain⟨g',hgo,hk⟩:=hstep w ⟨_,_,hwg⟩
   exact z9i (d':=⟨5,rk,n,1,q,none,no,true⟩) h hM i1 iN hg hph hgo (by rw[hph];exact .d1 hk) (by rw[hdi];simp) (by rw[hdi];simp) (by rw[hdi]) (by rw[hdi]) (by rw[hdi];exact kl_m (by simp))
 |@d2 p rk m q g w hs=>
  obtain⟨st,sm,hwg,hmode⟩:=h.mode p hph
  rcases hs.cases with hk|⟨n,rfl,hstep⟩
  ·obtain⟨⟨p',hW3⟩,hoth,rfl,rfl⟩:=hmode.isLast iN (by rw[hdi];simp)
   simp only[hdi] at hwg
   obtain⟨g',hgo,m₂,hk⟩:=hk.2 w (by simpa using hwg)
   refine wbook (d':=⟨3,rk,m₂,1,q,none,no,true⟩) h hM i1 iN hg hgo (by rw[hdi];simp) (by simp) (.inr (z98 h (by rw[hdi];simp))) (.inl rfl) (.inr ⟨p,hph,by intro e he;simp at he;subst he;exact .inl ⟨_,_,rfl,rfl⟩⟩) (by rw[hdi];exact df_r) (by rw[hph];exact .d3 hk) (by rw[hdi];rfl) (nobase (by simp)) (fun p2 e bl' hb _=>?_) (by rw[hdi];exact kl_s (by simp))
   rw[hph] at e;cases e
   have:=Mode.last (N:=gs.size) (base:=base) (D:=upd D i ⟨3,rk,m₂,1,q,none,no,true⟩) (p:=p') (bl:=bl') i iN (by rw[upd_same];simp) (fun a ha e=>by rw[upd_ne D _ e];exact hoth a ha e)
   rw[upd_same,← hW3] at this
   exact⟨_,_,hwg,by simpa using this⟩
  ·obtain⟨g',hgo,hk⟩:=hstep w ⟨_,_,hwg⟩
   exact z9i (d':=⟨4,rk,n,1,q,none,no,true⟩) h hM i1 iN hg hph hgo (by rw[hph];exact .d2 hk) (by rw[hdi];simp) (by rw[hdi];simp) (by rw[hdi]) (by rw[hdi]) (by rw[hdi];exact kl_m (by simp))
 |@d3 p rk m q g w hs=>
  obtain⟨st,sm,hwg,hmode⟩:=h.mode p hph
  rcases hs.cases with hk|⟨n,rfl,hstep⟩
  ·obtain⟨⟨p',hW3⟩,hoth,rfl,rfl⟩:=hmode.isLast iN (by rw[hdi];simp)
   simp only[hdi] at hwg
   obtain⟨g',hgo,m₂,hk⟩:=hk.2 w (by simpa using hwg)
   refine wbook (d':=⟨2,rk,m₂,1,q,none,no,true⟩) h hM i1 iN hg hgo (by rw[hdi];simp) (by simp) (.inr (z98 h (by rw[hdi];simp))) (.inr ⟨p,hph,stA p.Wg,_,rfl,rfl⟩) (.inr ⟨p,hph,by intro e he;simp at he;subst he;exact .inl ⟨_,_,rfl,rfl⟩⟩) (by rw[hdi];exact df_w) (by rw[hph];exact .d4 hk) (by rw[hdi];rfl) (nobase (by simp)) (fun p2 e bl' hb _=>?_) (by rw[hdi];exact kl_s (by simp))
   rw[hph] at e;cases e
   have:=Mode.last (N:=gs.size) (base:=base) (D:=upd D i ⟨2,rk,m₂,1,q,none,no,true⟩) (p:=p') (bl:=bl') i iN (by rw[upd_same];simp) (fun a ha e=>by rw[upd_ne D _ e];exact hoth a ha e)
   rw[upd_same,← hW3] at this
   exact⟨_,_,hwg.setSt 0,by simpa using this⟩
  ·obtain⟨g',hgo,hk⟩:=hstep w ⟨_,_,hwg⟩
   exact z9i (d':=⟨3,rk,n,1,q,none,no,true⟩) h hM i1 iN hg hph hgo (by rw[hph];exact .d3 hk) (by rw[hdi];simp) (by rw[hdi];simp) (by rw[hdi]) (by rw[hdi]) (by rw[hdi];exact kl_m (by simp))
 |@d4 p rk m q g w hs=>
  obtain⟨st,sm,hwg,hmode⟩:=h.mode p hph
  rcases hs.cases with hk|⟨n,rfl,hstep⟩
  ·obtain⟨⟨p',hW3⟩,hoth,rfl,rfl⟩:=hmode.isLast iN (by rw[hdi];simp)
   simp only[hdi] at hwg
   obtain⟨_,hmw,hx⟩:=hk
   obtain⟨g',hgo,q',hq⟩:=hx w (by simpa using hwg)
   have hrun':g'.status=.running:=by
    cases q' with
    |zero=>exact absurd hq.2 (by decide)
    |succ q'=>exact hq.elim (fun x=>absurd x.2 (by decide)) (fun x=>x.1)
   refine wbook (d':=⟨1,rk,q',1,q,none,no,true⟩) h hM i1 iN hg hgo (by rw[hdi];simp) (by simp) (.inr (z98 h (by rw[hdi];simp))) (.inr ⟨p,hph,smA p.Wg,_,rfl,rfl⟩) (.inr ⟨p,hph,?_⟩) (by rw[hdi];exact df_sem) (by rw[hph];exact .quit hq) (by rw[hdi];simp[deafBehind,semEvents]) (nobase (by simp)) (fun p2 e bl' hb hw=>?_) (by rw[hdi];exact kl_s (by simp))
   ·intro e he
    simp[semEvents] at he
    rcases he with rfl|rfl|rfl|rfl
    ·exact .inr (.inl rfl)
    ·exact .inl ⟨_,_,rfl,rfl⟩
    ·exact .inl ⟨_,_,rfl,rfl⟩
    ·exact .inr (.inr rfl)
   ·rw[hph] at e;cases e
    have hbf:=hw ⟨hmw,hrun'⟩
    subst hbf
    rw[hW3]
    exact⟨_,_,hwg.setSm 1,.sema fun a ha=>by
     by_cases e:a=i
     ·subst e;rw[upd_same]
     ·rw[upd_ne D _ e];exact hoth a ha e⟩
  ·obtain⟨g',hgo,hk⟩:=hstep w ⟨_,_,hwg⟩
   exact z9i (d':=⟨2,rk,n,1,q,none,no,true⟩) h hM i1 iN hg hph hgo (by rw[hph];exact .d4 hk) (by rw[hdi];simp) (by rw[hdi];simp) (by rw[hdi]) (by rw[hdi]) (by rw[hdi];exact kl_m (by simp))
 |@quit _ rk m d q g w hq=>
  cases m with
  |zero=>rw[hq.1] at hrun;cases hrun
  |succ q'=>
   rcases hq with⟨hf,_⟩|⟨_,g',es,hmute,hstep,hq⟩
   ·rw[hf] at hrun;cases hrun
   ·refine wbook (d':=⟨1,rk,q',deafBehind d es,q,none,no,true⟩) h hM i1 iN hg (hstep w) (by rw[hdi];simp) (by simp) (.inl hmute) (.inl rfl) (.inl hmute) (fun j e he=>.inl (touch_mute (hmute e (Array.mem_of_getElem? he)))) (.quit hq) (by rw[hdi]) (fun _=>rfl) (fun p2 e bl' hb _=>?_) (by rw[hdi];exact kl_m (by simp))
    obtain⟨st,sm,hwg,hmode⟩:=h.mode p2 e
    exact⟨st,sm,hwg,(hmode.wake hb).same (by rw[hdi])⟩
end
open Go.ConcR (KK WgAt stA smA rd wr DC0 wgBlock)
section
variable {P:Program}{Post:Value→World→Prop}{x:MSt}{r:Rk MSt}{D:Nat→WDat}{base nx:Nat}{shb fz:Nat→Prop}{bl:Bool}{gs:Array Goroutine}{w w':World}{sl:Option (Nat×Nat)}{t:Trace}{i:Nat}{g g':Goroutine}{es:Array Event}
theorem kl_r{s:Nat}{f:WSt→Rk WSt}{ι:WSt}{m:Nat}:kl (s,f ι,m) (s,.node f,m):=.right _ (.left _ _ ⟨f,ι,rfl,rfl⟩)
theorem own_ro(h:Stt P x D base nx shb fz bl gs w t){a:Nat}(ha:a=0∨a<gs.size){b:Nat}(ho:own x D a b):¬ x.tg.ro b:=fun hr=>let ⟨p,e,hp⟩:=tg_ro hr;((h.cm.core.pho p e).own a b ha ho).1 hp
theorem wloc(h:Stt P x D base nx shb fz bl gs w t)(hM:MT P Post r x)(i1:1≤i)(iN:i<gs.size)(hg:gs[i]?=some g){p:Ph}(hp:x.tg.ph=some p){f:WSt→Rk WSt}{ι:WSt}{q:Nat}{hj:Option Nat}{S S':Nat→Prop}{ex:Bool}
  (hdi:D i=⟨7,.node f,0,0,q,hj,S,ex⟩)(hgo:stepG P false g w=.go g' w' es)(hgu:Gua p.ro S S' w w' es)(hT:WT P p (f ι) ⟨q,hj,S',ex,g',w'⟩) :
  ∃ m₁ ops μ',runT P (crowd gs w sl) i=(.next m₁,ops)∧mlt μ' (mu r gs.size D bl)∧Inv P Post μ' m₁ (t++ops):=by
 have i0:i≠0:=by omega
 have hci:=h.cm.core
 have hb:=z98 h (i:=i) (by rw[hdi];simp)
 have hS:own x D i=S:=by rw[z8z i0,hdi]
 have hcg:Chg x.tg.ro (own x D i) no w w':=by
  rw[hS,za7 hp]
  exact .of_gua hgu fun b hs hr=>own_ro h (.inr iN) (a:=i) (b:=b) (by rw[hS];exact hs) (by rw[za7 hp];exact hr)
 obtain⟨st,sm,hwg,hmode⟩:=h.mode p hp
 have hwg':w'.heap[p.Wg]?=w.heap[p.Wg]? := hcg.keep _ (hci.pho p hp).sp.1 (fun o=>((hci.pho p hp).own i _ (.inr iN) o).2.1 rfl) (by rw[za7 hp];exact fun hr=>((hci.pho p hp).ro _ hr).2.2.1 rfl) (fun e=>e)
 have lay:Core x.tg.ph (own x (upd D i ⟨7,f ι,0,0,q,hj,S',ex⟩)) (fun j=>(upd D i ⟨7,f ι,0,0,q,hj,S',ex⟩ j).h) gs.size base nx shb fz w'.heap.size t:=
  hci.lay (a:=i) (fun j hj=>z6x i0 hj) (fun b hb=>by rw[z34 i0] at hb;rw[hS];exact hgu.fresh b hb) (fun j hj=>by simp only[upd_ne D _ hj]) (fun j hj=>by simp only[upd_same] at hj;exact .inl (by simp only[hdi];exact hj)) (Nat.le_refl _) (fun p e=>(hci.pho p e).nxn) (fun b hb=>.inl hb) (.inr iN) hcg.size
 have ok:=lay.okEvG (a:=i) (ro:=p.ro) (fn:=g.frame.fn) (pos:=g.frame.place) (es:=es) (.inr ⟨hb,iN⟩) (fun b hb=>⟨p,hp,hb⟩) (fun e he=>by rw[z34 i0];exact hgu.ev e he)
 refine wgo (X:=no) (d':=⟨7,f ι,0,0,q,hj,S',ex⟩) (nx':=nx) (fz':=fz) h hM i1 iN hg hgo (by rw[← z8z (x:=x) i0];exact hcg) (fun _ hb=>hb.elim) (lay.app iN ok.1 ok.2) (by rw[hp];exact .wk hT (.refl _ _ _)) (by rw[hdi];exact za6 hgu.ev 0) (fun hlt=>by omega) (fun p e _ h6=>by simp at h6)
  (fun p2 e=>h.cm.jobs_keep iN e (fun j hj=>upd_ne D _ hj) hcg (fun b hb=>hb.elim) (fun b hb=>hb) (by rw[upd_same,hdi]) (fun _ _=>by rw[upd_same,hdi];exact⟨rfl,rfl⟩) (fun _ he=>by rw[upd_same] at he;rw[hdi];exact he))
  (fun p2 e bl' hb _=>?_) (by rw[hdi];exact kl_r)
 rw[hp] at e;cases e
 exact⟨st,sm,(show w'.heap[p.Wg]?=_ from hwg'.trans hwg),(hmode.wake hb).same (by rw[hdi])⟩
theorem wrel(h:Stt P x D base nx shb fz bl gs w t)(hM:MT P Post r x)(i1:1≤i)(iN:i<gs.size)(hg:gs[i]?=some g){p:Ph}(hp:x.tg.ph=some p){rk:Rk WSt}{q:Nat}{S:Nat→Prop}
  (hdi:D i=⟨7,rk,0,0,q,none,S,true⟩)(hgo:stepG P false g w=.go g' w #[Go.ConcR.mk (.releaseMerge (stA p.Wg))]){m:Nat}(hk:Sil P false p (K1 P p) m g') :
  ∃ m₁ ops μ',runT P (crowd gs w sl) i=(.next m₁,ops)∧mlt μ' (mu r gs.size D bl)∧Inv P Post μ' m₁ (t++ops):=by
 have i0:i≠0:=by omega
 have hci:=h.cm.core
 have hb:=z98 h (i:=i) (by rw[hdi];simp)
 have hS:own x D i=S:=by rw[z8z i0,hdi]
 obtain⟨st,sm,hwg,hmode⟩:=h.mode p hp
 have ok:=hci.okBk (a:=i) hp (fn:=g.frame.fn) (pos:=g.frame.place) (es:=#[Go.ConcR.mk (.releaseMerge (stA p.Wg))]) (.inr ⟨hb,iN⟩) (fun e he=>by simp at he;subst he;exact .inr (.inr (.inr (.inl ⟨_,rfl,rfl⟩))))
 have h1:=hci.app iN ok.1 ok.2
 have lay:=h1.lay (a:=i) (O':=own x (upd D i ⟨6,.leaf,m,0,q,none,no,true⟩)) (H':=fun j=>(upd D i ⟨6,.leaf,m,0,q,none,no,true⟩ j).h) (nx':=nx) (fz':=fun b=>fz b∨S b) (B':=w.heap.size) (fun j hj=>z6x i0 hj) (fun b hb=>by rw[z34 i0] at hb;exact hb.elim) (fun j hj=>by simp only[upd_ne D _ hj]) (fun j hj=>by simp only[upd_same] at hj;cases hj) (Nat.le_refl _) (fun p e=>(hci.pho p e).nxn)
  (fun b hb=>hb.imp id fun hb=>⟨by rw[hS];exact hb,by rw[z34 i0];exact fun e=>e⟩) (.inr iN) (Nat.le_refl _)
 refine wgo (X:=no) (d':=⟨6,.leaf,m,0,q,none,no,true⟩) (nx':=nx) (fz':=fun b=>fz b∨S b) h hM i1 iN hg hgo (.refl _ _ _ _) (fun _ hb=>hb.elim) lay (by rw[hp];exact .k1 hk) (by rw[hdi];rfl) (fun hlt=>by omega) (fun p2 e _ _=>⟨t.size,?_⟩)
  (fun p2 e=>h.cm.jobs_keep (X:=no) iN e (fun j hj=>upd_ne D _ hj) (.refl _ _ _ _) (fun b hb=>hb.elim) (fun b hb=>.inl hb) (by rw[upd_same,hdi]) (fun _ h7=>by rw[upd_same] at h7;simp at h7) (fun _ he=>by rw[hdi]))
  (fun p2 e bl' hb _=>?_) (by rw[hdi];exact kl_s (by simp))
 ·rw[hp] at e;cases e
  exact RelBy.new (by rw[h.cm.dw i i1 iN,hdi]) _ _
 ·rw[hp] at e;cases e
  exact⟨st,sm,hwg,(hmode.wake hb).counted iN (by rw[hdi];simp) (by simp)⟩
theorem set_two{cs:Array Value}{i:Nat}{v0 v1:Value}(hi:2*i+1<cs.size):(((cs.setIfInBounds (2*i) v0).setIfInBounds (2*i+1) v1)[2*i]?=some v0)∧(((cs.setIfInBounds (2*i) v0).setIfInBounds (2*i+1) v1)[2*i+1]?=some v1) ∧
  ∀ m,m≠i→((cs.setIfInBounds (2*i) v0).setIfInBounds (2*i+1) v1)[2*m]?=cs[2*m]?∧((cs.setIfInBounds (2*i) v0).setIfInBounds (2*i+1) v1)[2*m+1]?=cs[2*m+1]? := by
 refine⟨?_,?_,fun m hm=>⟨?_,?_⟩⟩
 ·rw[Array.getElem?_setIfInBounds_ne (by omega),Array.getElem?_setIfInBounds_self_of_lt (by omega)]
 ·rw[Array.getElem?_setIfInBounds_self_of_lt (by simpa using hi)]
 ·rw[Array.getElem?_setIfInBounds_ne (by omega),Array.getElem?_setIfInBounds_ne (by omega)]
 ·rw[Array.getElem?_setIfInBounds_ne (by omega),Array.getElem?_setIfInBounds_ne (by omega)]
theorem z71{w:World}{b o:Nat}{cs:Array Value}{e:TypeId}{f:Nat×Nat}(h:w.heap[b]?=some (.cells cs e f)):w.cell? ⟨b,o,none⟩=cs[o]? := by
 simp[World.cell?,h]
theorem wout(h:Stt P x D base nx shb fz bl gs w t)(hM:MT P Post r x)(i1:1≤i)(iN:i<gs.size)(hg:gs[i]?=some g){p:Ph}(hp:x.tg.ph=some p){f:WSt→Rk WSt}{ι:WSt}{q k:Nat}{S:Nat→Prop}{ex:Bool}
  (hdi:D i=⟨7,.node f,0,0,q,some k,S,ex⟩){v0 v1:Value}
  (hgo:∀ cs,w.heap[p.ob]?=some (.cells cs p.ety)→cs.size=2*p.n→stepG P false g w=.go g' (zah p w cs k v0 v1) #[⟨.cell ⟨p.ob,2*k,none⟩,true,false⟩,⟨.cell ⟨p.ob,2*k+1,none⟩,true,false⟩])
  (hR:∃ h:PH,h.sub w∧(∀ b,h b≠none→S b∨p.ro b)∧p.Rs k v0 v1 h)(hT:WT P p (f ι) ⟨q,none,fun _=>False,ex,g',w⟩) :
  ∃ m₁ ops μ',runT P (crowd gs w sl) i=(.next m₁,ops)∧mlt μ' (mu r gs.size D bl)∧Inv P Post μ' m₁ (t++ops):=by
 have i0:i≠0:=by omega
 have hci:=h.cm.core
 have hb:=z98 h (i:=i) (by rw[hdi];simp)
 have hS:own x D i=S:=by rw[z8z i0,hdi]
 have K:=hci.pho p hp
 have J:=h.cm.jobs p hp
 obtain⟨st,sm,hwg,hmode⟩:=h.mode p hp
 obtain⟨cs,hcs,hcn⟩:=J.out
 have hkn:k<nx:=K.lt i k hb iN (by rw[hdi])
 have hkp:2*k+1<cs.size:=by have:=K.nxn;omega
 have hgo:=hgo cs hcs hcn
 have hob:p.ob<w.heap.size:=K.sp.2.2
 have hnr:¬ p.ro p.ob:=fun hr=>(K.ro _ hr).2.2.2.2 rfl
 have hcg:Chg x.tg.ro (own x D i) (fun b=>b=p.ob) w (zah p w cs k v0 v1):=by
  rw[za7 hp];exact .setIf hnr
 have hsz:(zah p w cs k v0 v1).heap.size=w.heap.size:=by simp[zah]
 have hobn:(zah p w cs k v0 v1).heap[p.ob]?=some (.cells ((cs.setIfInBounds (2*k) v0).setIfInBounds (2*k+1) v1) p.ety):=by
  simp[zah,hob]
 have hoth:∀ b,b≠p.ob→(zah p w cs k v0 v1).heap[b]?=w.heap[b]? := fun b hb=>by simp[zah,Array.getElem?_setIfInBounds_ne (Ne.symm hb)]
 have h1:=hci.app (a:=i) (u:=MemOp.ofEvents i g.frame.fn g.frame.place #[⟨.cell ⟨p.ob,2*k,none⟩,true,false⟩,⟨.cell ⟨p.ob,2*k+1,none⟩,true,false⟩]) iN (fun op hop=>by
   obtain⟨e,he,rfl⟩:=Go.Conc.mem_ofEvents hop
   have hk:(gh x.tg.ph (own x D) (fun j=>(D j).h) gs.size base nx shb).hold i e.loc:=⟨.inr iN,.inr ⟨p,k,hp,hb,by simp only[hdi],by simp at he;exact he.elim (fun e=>e▸.inl rfl) fun e=>e▸.inr rfl⟩⟩
   refine⟨rfl,fun y hy=>⟨.inr ⟨hb,iN⟩,.inr (.inl ?_)⟩,fun a e'=>?_⟩
   ·simp at he
    rcases he with rfl|rfl<;>rw[ofEvent_cell0] at hy<;>simp only[MemAct.touch?,Option.some.injEq] at hy<;>subst hy<;>exact⟨hk,fun _=>by simp⟩
   ·simp at he
    rcases he with rfl|rfl<;>rw[ofEvent_cell0] at e'<;>cases e') (fun op hop=>by
   obtain⟨e,he,rfl⟩:=Go.Conc.mem_ofEvents hop
   simp at he
   rcases he with rfl|rfl<;>rw[ofEvent_cell0]<;>exact hob)
 have lay:=h1.lay (a:=i) (O':=own x (upd D i ⟨7,f ι,0,0,q,none,no,ex⟩)) (H':=fun j=>(upd D i ⟨7,f ι,0,0,q,none,no,ex⟩ j).h) (nx':=nx) (fz':=fun b=>fz b∨S b) (B':=w.heap.size) (fun j hj=>z6x i0 hj) (fun b hb=>by rw[z34 i0] at hb;exact hb.elim) (fun j hj=>by simp only[upd_ne D _ hj]) (fun j hj=>by simp only[upd_same] at hj;cases hj) (Nat.le_refl _) (fun p e=>(hci.pho p e).nxn)
  (fun b hb=>hb.imp id fun hb=>⟨by rw[hS];exact hb,by rw[z34 i0];exact fun e=>e⟩) (.inr iN) (Nat.le_refl _)
 refine wgo (X:=fun b=>b=p.ob) (d':=⟨7,f ι,0,0,q,none,no,ex⟩) (nx':=nx) (fz':=fun b=>fz b∨S b) h hM i1 iN hg hgo (by rw[← z8z (x:=x) i0];exact hcg) (fun b hb j hj o=>(K.own j b hj o).2.2.2 hb) (by rw[hsz];exact lay)
  (by rw[hp];exact .wk hT ⟨by rw[hsz];exact Nat.le_refl _,fun b hb=>hb.elim,fun b hb=>hoth b fun e=>hnr (e▸hb),rfl,rfl⟩) (by rw[hdi];simp[deafBehind]) (fun hlt=>by omega) (fun p e _ h6=>by simp at h6)
  (fun p2 e=>?_) (fun p2 e bl' hb _=>?_) (by rw[hdi];exact kl_r)
 ·rw[hp] at e;cases e
  obtain⟨s2,s3,s4⟩:=set_two (v0:=v0) (v1:=v1) hkp
  refine⟨by rw[hoth _ K.dd.2.2];exact J.chan,⟨_,hobn,by simp[hcn]⟩,fun j b1 b2 b3=>?_,fun j b1 b2 b3=>?_,fun m hm=>?_⟩
  ·by_cases e:j=i
   ·subst e;rw[upd_same];have:=J.cnt j b1 b2 (by rw[hdi]);rw[hdi] at this;exact this
   ·rw[upd_ne D _ e] at b3 ⊢;exact J.cnt j b1 b2 b3
  ·by_cases e:j=i
   ·subst e;rw[upd_same] at b3;exact J.ex j b1 b2 (by rw[hdi];exact b3)
   ·rw[upd_ne D _ e] at b3;exact J.ex j b1 b2 b3
  ·by_cases hmk:m=k
   ·subst hmk
    refine .inr ?_
    obtain⟨hp1,r1,r2,r3⟩:=hR
    refine⟨v0,v1,hp1,r3,fun b o ho=>?_,fun b hb=>(r2 b hb).imp .inr id,by rw[z71 hobn];exact s2,by rw[z71 hobn];exact s3⟩
    rw[hoth b]
    ·exact r1 b o ho
    ·rintro rfl
     rcases r2 _ (by rw[ho];simp) with y|y
     ·exact(K.own i _ (.inr iN) (by rw[hS];exact y)).2.2.2 rfl
     ·exact hnr y
   ·refine(J.done m hm).imp (fun⟨j,b1,b2,b3⟩=>⟨j,b1,b2,?_⟩) fun hd=>hd.keep (fun b hb=>⟨.inl hb,hoth b (K.fz b hb).2.2.2.2.2.1⟩) (fun b hb=>hoth b fun e=>hnr (e▸hb)) ?_ ?_
    ·by_cases e:j=i
     ·subst e;rw[hdi] at b3;simp at b3;omega
     ·rw[upd_ne D _ e];exact b3
    ·rw[z71 hobn,z71 hcs];exact(s4 m hmk).1
    ·rw[z71 hobn,z71 hcs];exact(s4 m hmk).2
 ·rw[hp] at e;cases e
  exact⟨st,sm,(show(zah p w cs k v0 v1).heap[p.Wg]?=_ from(hoth _ K.dd.2.1).trans hwg),(hmode.wake hb).same (by rw[hdi])⟩
end
open Go.ConcR (KK WgAt stA smA rd wr DC0 wgBlock)
section
variable {P:Program}{Post:Value→World→Prop}{x:MSt}{r:Rk MSt}{D:Nat→WDat}{base nx:Nat}{shb fz:Nat→Prop}{bl:Bool}{gs:Array Goroutine}{w w':World}{sl:Option (Nat×Nat)}{t:Trace}{i:Nat}{g g' g₂:Goroutine}{es:Array Event}
theorem zaa(h:Stt P x D base nx shb fz bl gs w t)(c:Nat)(s:Bool):partners (gs.setIfInBounds i Go.Conc.ph) c s=[]:=by
 refine partners_nil fun j y hy=>?_
 rcases getElem?_stand gs i j y hy with⟨_,rfl⟩|⟨_,hy⟩
 ·exact offersAt_ph _ _
 ·by_cases j0:j=0
  ·subst j0
   obtain⟨a0,h0,hm⟩:=h.main
   rw[hy] at h0;cases h0
   exact hm.noOffers _ _
  ·have hj:j<gs.size:=(Array.getElem?_eq_some_iff.1 hy).1
   obtain⟨z,hz,hs⟩:=h.cm.wk j (by omega) hj
   rw[hy] at hz;cases hz
   exact offersAt_of_not_blocked (by rcases hs.status with e|e<;>rw[e]<;>simp) _ _
set_option maxHeartbeats 1000000 in
theorem wrecv(h:Stt P x D base nx shb fz bl gs w t)(hM:MT P Post r x)(i1:1≤i)(iN:i<gs.size)(hg:gs[i]?=some g){p:Ph}(hp:x.tg.ph=some p){f:WSt→Rk WSt}{q:Nat}{S:Nat→Prop}{ex:Bool}{z:Value}
  (hdi:D i=⟨7,.node f,0,0,q,none,S,ex⟩)(hgo:stepG P false g w=.comm g₂ #[rcase p.c z] true (.recv true) w #[])
  (hT:∀ q' k,q=q'+1→k<p.n→∃ ι,WT P p (f ι) ⟨q',some k,S,ex,Go.Conc.served g₂ (.tuple #[.int .i64 k,.bool true]),w⟩)(hT':∃ ι,WT P p (f ι) ⟨q,none,S,true,Go.Conc.served g₂ (.tuple #[z,.bool false]),w⟩) :
  ∃ m₁ ops μ',runT P (crowd gs w sl) i=(.next m₁,ops)∧mlt μ' (mu r gs.size D bl)∧Inv P Post μ' m₁ (t++ops):=by
 have i0:i≠0:=by omega
 have hci:=h.cm.core
 have hb:=z98 h (i:=i) (by rw[hdi];simp)
 have hS:own x D i=S:=by rw[z8z i0,hdi]
 have K:=hci.pho p hp
 have J:=h.cm.jobs p hp
 obtain⟨st,sm,hwg,hmode⟩:=h.mode p hp
 obtain⟨s,rr,hch⟩:=J.chan
 obtain⟨a0,ha0,hm⟩:=h.main
 have hcB:p.c<w.heap.size:=K.sp.2.1
 have hq:p.n≤q+nx:=by have:=J.cnt i hb iN (by rw[hdi]);rwa [hdi] at this
 have hgo':stepG P (i==0) g w=.comm g₂ #[rcase p.c z] true (.recv true) w #[]:=by rw[show(i==0)=false by simp;omega];exact hgo
 have hmain:∀ y,∃ bl',(∃ a0',(gs.setIfInBounds i y)[0]?=some a0'∧Main x bl' a0')∧(bl'=bl∨(bl=true∧bl'=false))∧(False→bl'=false):=fun y=>⟨bl,⟨a0,by rw[Array.getElem?_setIfInBounds_ne i0];exact ha0,hm⟩,.inl rfl,fun e=>e.elim⟩
 rcases Nat.lt_or_ge nx p.n with hlt|hge
 ·obtain⟨q',rfl⟩:∃ q',q=q'+1:=⟨q-1,by omega⟩
  obtain⟨ι,hT⟩:=hT q' nx rfl hlt
  have hrun:=crowd_recv_buf (sl:=sl) hg hgo' hch (by rw[zd3 _ _ K.nxn];omega) (zaa h _ _)
  rw[jbuf_head _ _ hlt,jbuf_tail _ _ hlt,finishComm_recv] at hrun
  have hnr:¬ p.ro p.c:=fun hr=>(K.ro _ hr).2.2.2.1 rfl
  generalize hw':w.setChan p.c p.n (jbuf p.n (nx+1)) true s (rr+1) false=w' at hrun
  have hsz:w'.heap.size=w.heap.size:=by rw[← hw'];simp[World.setChan]
  have hoth:∀ b,b≠p.c→w'.heap[b]?=w.heap[b]? := fun b hb=>by rw[← hw'];simp[World.setChan,Array.getElem?_setIfInBounds_ne (Ne.symm hb)]
  have hcn:w'.heap[p.c]?=some (.chan p.n (jbuf p.n (nx+1)) true s (rr+1) false):=by rw[← hw'];simp[World.setChan,hcB]
  have hcg:Chg x.tg.ro (D i).S (fun b=>b=p.c) w w':=⟨Nat.le_of_eq hsz.symm,fun b _ _ _ hb=>hoth b hb,fun b hb=>hoth b fun e=>hnr (by rw[za7 hp] at hb;exact e▸hb),by rw[← hw'];exact⟨rfl,rfl⟩⟩
  generalize hu:(MemOp.ofEvents i g.frame.fn g.frame.place #[]++#[{g:=i,fn:=g₂.frame.fn,pos:=g₂.frame.place,act:=MemAct.recv p.c rr p.n},{g:=i,fn:=g₂.frame.fn,pos:=g₂.frame.place,act:=MemAct.recvDone p.c rr}])=u at hrun
  have hops:∀ op∈u,op.g=i∧((∃ n,op.act=.send p.c n)∨(∃ n,op.act=.sendDone p.c n)∨(∃ n m,op.act=.recv p.c n m)∨(∃ n,op.act=.recvDone p.c n)∨op.act=.recvClosed p.c∨op.act=.close p.c):=by
   intro op hop
   rw[← hu] at hop
   simp[ofEvents_eq] at hop
   rcases hop with rfl|rfl
   ·exact⟨rfl,.inr (.inr (.inl ⟨_,_,rfl⟩))⟩
   ·exact⟨rfl,.inr (.inr (.inr (.inl ⟨_,rfl⟩)))⟩
  have ok:=hci.okChan (a:=i) hcB hops
  have lay:=(hci.app iN ok.1 ok.2).lay (a:=i) (O':=own x (upd D i ⟨7,f ι,0,0,q',some nx,S,ex⟩)) (H':=fun j=>(upd D i ⟨7,f ι,0,0,q',some nx,S,ex⟩ j).h) (nx':=nx+1) (fz':=fz) (B':=w.heap.size) (fun j hj=>z6x i0 hj) (fun b hb=>by rw[z34 i0] at hb;exact .inl (by rw[hS];exact hb)) (fun j hj=>by simp only[upd_ne D _ hj])
   (fun j hj=>by simp only[upd_same,Option.some.injEq] at hj;subst hj;exact .inr ⟨by omega,by omega⟩) (by omega) (fun p2 e=>by rw[hp] at e;cases e;omega) (fun b hb=>.inl hb) (.inr iN) (Nat.le_refl _)
  have hrl:Rly p.ro S w w':=⟨Nat.le_of_eq hsz.symm,fun b hb=>hoth b fun e=>(K.own i b (.inr iN) (by rw[hS];exact hb)).2.2.1 e,fun b hb=>hoth b fun e=>hnr (e▸hb),hcg.so⟩
  have hst:Deaf (t++u) i=Deaf t i:=Deaf_still t i u fun op hop=>by rcases(hops op hop).2 with⟨n,e⟩|⟨n,e⟩|⟨n,m,e⟩|⟨n,e⟩|e|e<;>rw[e]<;>simp
  refine wany (X:=fun b=>b=p.c) (d':=⟨7,f ι,0,0,q',some nx,S,ex⟩) (nx':=nx+1) (fz':=fz) h hM i1 iN hrun (fun op hop=>(hops op hop).1) (by simp) (fun j _ hj=>.inl (by rw[Array.getElem?_setIfInBounds_ne (Ne.symm hj)])) (by simp[iN];rfl) (hmain _) hcg (fun b hb j hj o=>(K.own j b hj o).2.2.1 hb) (by rw[hsz];exact lay)
   (by rw[hp];exact .wk hT hrl) ?_ (fun hlt=>by omega) (fun p e _ h6=>by simp at h6) (fun p2 e=>?_) (fun p2 e bl' hb _=>?_) (by rw[hdi];exact kl_r)
  ·rw[hst,h.cm.dw i i1 iN,hdi]
  ·rw[hp] at e;cases e
   refine⟨⟨_,_,hcn⟩,by rw[hoth _ (Ne.symm K.dd.2.2)];exact J.out,fun j b1 b2 b3=>?_,fun j b1 b2 b3=>?_,fun m hm=>?_⟩
   ·by_cases e:j=i
    ·subst e;rw[upd_same];show p.n≤q'+(nx+1);omega
    ·rw[upd_ne D _ e] at b3 ⊢;have:=J.cnt j b1 b2 b3;omega
   ·by_cases e:j=i
    ·subst e;rw[upd_same] at b3;have:=J.ex j b1 b2 (by rw[hdi];exact b3);omega
    ·rw[upd_ne D _ e] at b3;have:=J.ex j b1 b2 b3;omega
   ·by_cases hmk:m=nx
    ·subst hmk
     exact .inl ⟨i,hb,iN,by rw[upd_same]⟩
    ·refine(J.done m (by omega)).imp (fun⟨j,b1,b2,b3⟩=>⟨j,b1,b2,?_⟩) fun hd=>hd.keep (fun b hb=>⟨hb,hoth b (K.fz b hb).2.2.2.2.1⟩) (fun b hb=>hoth b fun e=>hnr (e▸hb)) ?_ ?_
     ·by_cases e:j=i
      ·subst e;rw[hdi] at b3;simp at b3
      ·rw[upd_ne D _ e];exact b3
     ·simp only[World.cell?,hoth _ (Ne.symm K.dd.2.2)]
     ·simp only[World.cell?,hoth _ (Ne.symm K.dd.2.2)]
  ·rw[hp] at e;cases e
   exact⟨st,sm,(show w'.heap[p.Wg]?=_ from(hoth _ K.dd.1).trans hwg),(hmode.wake hb).same (by rw[hdi])⟩
 ·obtain⟨ι,hT⟩:=hT'
  have hnx:nx=p.n:=by have:=K.nxn;omega
  rw[hnx,jbuf_end] at hch
  have hrun:=crowd_recv_closed (sl:=sl) hg hgo' hch (zaa h _ _)
  rw[finishComm_recv] at hrun
  generalize hu:(MemOp.ofEvents i g.frame.fn g.frame.place #[]++#[{g:=i,fn:=g₂.frame.fn,pos:=g₂.frame.place,act:=MemAct.recvClosed p.c}])=u at hrun
  have hops:∀ op∈u,op.g=i∧((∃ n,op.act=.send p.c n)∨(∃ n,op.act=.sendDone p.c n)∨(∃ n m,op.act=.recv p.c n m)∨(∃ n,op.act=.recvDone p.c n)∨op.act=.recvClosed p.c∨op.act=.close p.c):=by
   intro op hop
   rw[← hu] at hop
   simp[ofEvents_eq] at hop
   subst hop
   exact⟨rfl,.inr (.inr (.inr (.inr (.inl rfl))))⟩
  have ok:=hci.okChan (a:=i) hcB hops
  have lay:=(hci.app iN ok.1 ok.2).lay (a:=i) (O':=own x (upd D i ⟨7,f ι,0,0,q,none,S,true⟩)) (H':=fun j=>(upd D i ⟨7,f ι,0,0,q,none,S,true⟩ j).h) (nx':=nx) (fz':=fz) (B':=w.heap.size) (fun j hj=>z6x i0 hj) (fun b hb=>by rw[z34 i0] at hb;exact .inl (by rw[hS];exact hb)) (fun j hj=>by simp only[upd_ne D _ hj])
   (fun j hj=>by simp only[upd_same] at hj;cases hj) (Nat.le_refl _) (fun p2 e=>(hci.pho p2 e).nxn) (fun b hb=>.inl hb) (.inr iN) (Nat.le_refl _)
  have hst:Deaf (t++u) i=Deaf t i:=Deaf_still t i u fun op hop=>by rcases(hops op hop).2 with⟨n,e⟩|⟨n,e⟩|⟨n,m,e⟩|⟨n,e⟩|e|e<;>rw[e]<;>simp
  refine wany (X:=no) (d':=⟨7,f ι,0,0,q,none,S,true⟩) (nx':=nx) (fz':=fz) h hM i1 iN hrun (fun op hop=>(hops op hop).1) (by simp) (fun j _ hj=>.inl (by rw[Array.getElem?_setIfInBounds_ne (Ne.symm hj)])) (by simp[iN];rfl) (hmain _) (.refl _ _ _ _) (fun b hb=>hb.elim) lay
   (by rw[hp];exact .wk hT (.refl _ _ _)) (by rw[hst,h.cm.dw i i1 iN,hdi]) (fun hlt=>by omega) (fun p e _ h6=>by simp at h6) (fun p2 e=>?_) (fun p2 e bl' hb _=>?_) (by rw[hdi];exact kl_r)
  ·rw[hp] at e;cases e
   have J':=h.cm.jobs_keep (X:=no) (D':=upd D i ⟨7,f ι,0,0,q,none,S,ex⟩) iN hp (fun j hj=>upd_ne D _ hj) (.refl _ _ _ _) (fun b hb=>hb.elim) (fun b hb=>hb) (by rw[upd_same,hdi]) (fun _ _=>by rw[upd_same,hdi];exact⟨rfl,rfl⟩) (fun _ he=>by rw[upd_same] at he;rw[hdi];exact he)
   refine⟨J'.chan,J'.out,fun j b1 b2 b3=>?_,fun j b1 b2 b3=>hnx,fun m hm=>?_⟩
   ·by_cases e:j=i
    ·subst e;rw[upd_same];exact hq
    ·rw[upd_ne D _ e] at b3 ⊢;exact J.cnt j b1 b2 b3
   ·refine(J.done m hm).imp (fun⟨j,b1,b2,b3⟩=>⟨j,b1,b2,?_⟩) id
    by_cases e:j=i
    ·subst e;rw[hdi] at b3;simp at b3
    ·rw[upd_ne D _ e];exact b3
  ·rw[hp] at e;cases e
   exact⟨st,sm,hwg,(hmode.wake hb).same (by rw[hdi])⟩
theorem wstep(h:Stt P x D base nx shb fz bl gs w t)(hM:MT P Post r x)(i1:1≤i)(iN:i<gs.size)(hg:gs[i]?=some g)(hrun:g.status=.running) :
  ∃ m₁ ops μ',runT P (crowd gs w sl) i=(.next m₁,ops)∧mlt μ' (mu r gs.size D bl)∧Inv P Post μ' m₁ (t++ops):=by
 obtain⟨g₁,hg₁,hs⟩:=h.cm.wk i i1 iN
 rw[hg] at hg₁;cases hg₁
 rcases hs.le7.1 with h7|h6
 ·generalize hdi:D i=d at hs h7
  generalize hph:x.tg.ph=ph at hs
  cases hs with
  |@wk p rk q hj S ex g W w hw hr=>
   obtain⟨st,sm,hwg,hmode⟩:=h.mode p hph
   cases rk with
   |leaf=>exact hw.elim
   |node f=>
    obtain⟨_,h1|⟨k,hk,h1⟩|⟨hn,z,h1⟩|⟨hn,hex,h1⟩⟩:=hw
    ·obtain⟨g',W',es,S',a1,a2,ι,a3⟩:=h1 w hr ⟨_,_,hwg⟩
     exact wloc h hM i1 iN hg hph hdi a1 a2 a3
    ·simp only at hk
     subst hk
     obtain⟨g',v0,v1,a1,a2,ι,a3⟩:=h1 w hr
     exact wout h hM i1 iN hg hph hdi a1 a2 a3
    ·simp only at hn
     subst hn
     obtain⟨g₂,a1,a2,a3⟩:=h1 w hr
     exact wrecv h hM i1 iN hg hph hdi a1 a2 a3
    ·simp only at hn hex
     subst hn hex
     obtain⟨g',a1,m,a2⟩:=h1 w hr ⟨_,_,hwg⟩
     exact wrel h hM i1 iN hg hph hdi a1 a2
  |_=>simp at h7
 ·exact wlate h hM i1 iN hg hrun h6 hs
end
open Go.ConcR (KK WgAt stA smA rd wr DC0 wgBlock)
theorem MT.status{P:Program}{Post:Value→World→Prop}{r:Rk MSt}{x:MSt}(h:MT P Post r x):x.g.status=.running:=by
 cases r with
 |leaf=>exact h.elim
 |node f=>exact h.1
section
variable {P:Program}{Post:Value→World→Prop}{x x':MSt}{r r':Rk MSt}{D:Nat→WDat}{base nx:Nat}{shb fz X:Nat→Prop}{gs gs':Array Goroutine}{w w':World}{sl:Option (Nat×Nat)}{t u:Trace}{g g':Goroutine}{es:Array Event}
theorem z2a:own x D 0=x.S:=by unfold own;rw[if_pos rfl]
theorem z8p{j:Nat}(h:j≠0):own x' D j=own x D j:=by unfold own;rw[if_neg h,if_neg h]
theorem z5g(h:Stt P x D base nx shb fz false gs w t):0<gs.size:=Nat.lt_of_lt_of_le h.cm.core.b1 h.cm.core.bN
theorem at0(h:Stt P x D base nx shb fz false gs w t):gs[0]?=some x.g:=by
 obtain⟨a0,h0,hm⟩:=h.main
 rw[h0,hm.eq];rfl
theorem zcq(hM:MT P Post r x):Main x false x.g:=⟨rfl,hM.status,fun e=>by cases e⟩
theorem many'(h:Stt P x D base nx shb fz false gs w t)(hM':MT P Post r' x')(hr:Rk.lt r' r)
  (hrun:runT P (crowd gs w sl) 0=(.next (crowd gs' w' sl),u))(hu:∀ op∈u,op.g=0)(hgs:gs'.size=gs.size)(hgi:∀ j,1≤j→j≠0→gs'[j]?=gs[j]?∨∃ g0 g1 w1,gs'[j]?=(gs[j]?).map (woken P g0 g1 w1))(hg0:gs'[0]?=some x'.g)
  (hph:x'.tg.ph=x.tg.ph)(hc:Chg x.tg.ro x.S X w w')(hX:∀ b,X b→∀ j,(j=0∨j<gs.size)→¬ own x D j b)
  (hcore:Core x.tg.ph (own x' D) (fun j=>(D j).h) gs.size base nx shb fz w'.heap.size (t++u))(hm:Rly x.tg.ro x'.S x'.W w')
  (hd:Deaf (t++u) 0=tgd x'.tg)(hj:∀ p,x.tg.ph=some p→Jobs p D gs.size base nx fz w')(hmode:∀ p,x.tg.ph=some p→∃ st sm,WgAt p.ty p.Wg w' st sm∧Mode gs.size base D x'.tg false st sm)(hsm:isWait x'.tg→base<gs.size) :
  ∃ m₁ ops μ',runT P (crowd gs w sl) 0=(.next m₁,ops)∧mlt μ' (mu r gs.size D false)∧Inv P Post μ' m₁ (t++ops):=by
 refine⟨_,u,mu r' gs.size D false,hrun,.left _ _ hr,gs',w',sl,x',r',D,base,nx,shb,fz,false,rfl,?_,hM',by rw[hgs]⟩
 refine⟨?_,⟨_,hg0,zcq hM'⟩,hd,fun p e=>?_,fun _=>rfl,fun e=>by rw[hgs];exact hsm e⟩
 ·rw[hgs]
  exact h.cm.step (a:=0) (X:=X) (g':=x.g) (z5g h) (fun e=>absurd rfl e) (fun _ _=>rfl) (fun _=>rfl) hph (by rw[z2a];exact hc) hX hcore hu (fun e=>absurd rfl e) (fun _=>hm) hgs hgi hj
 ·rw[hgs]
  exact hmode p (hph▸e)
theorem mgo(h:Stt P x D base nx shb fz false gs w t)(hM':MT P Post r' x')(hr:Rk.lt r' r)(hgo:stepG P true x.g w=.go x'.g w' es)
  (hph:x'.tg.ph=x.tg.ph)(hc:Chg x.tg.ro x.S X w w')(hX:∀ b,X b→∀ j,(j=0∨j<gs.size)→¬ own x D j b)
  (hcore:Core x.tg.ph (own x' D) (fun j=>(D j).h) gs.size base nx shb fz w'.heap.size (t++MemOp.ofEvents 0 x.g.frame.fn x.g.frame.place es))(hm:Rly x.tg.ro x'.S x'.W w')
  (hd:deafBehind (tgd x.tg) es=tgd x'.tg)(hj:∀ p,x.tg.ph=some p→Jobs p D gs.size base nx fz w')(hmode:∀ p,x.tg.ph=some p→∃ st sm,WgAt p.ty p.Wg w' st sm∧Mode gs.size base D x'.tg false st sm)(hsm:isWait x'.tg→base<gs.size) :
  ∃ m₁ ops μ',runT P (crowd gs w sl) 0=(.next m₁,ops)∧mlt μ' (mu r gs.size D false)∧Inv P Post μ' m₁ (t++ops):=by
 have hp:=z5g h
 refine many' h hM' hr (runT_crowd_go (at0 h) (show stepG P (0==0) x.g w=_ from hgo)) ofEv_g (by simp) (fun j j1 hj=>.inr ⟨x.g,x'.g,w',by rw[Array.getElem?_setIfInBounds_ne (Ne.symm hj),Array.getElem?_map]⟩) (by simp[hp]) hph hc hX hcore hm ?_ hj hmode hsm
 rw[Deaf_own,h.d0];exact hd
theorem mloc(h:Stt P x D base nx shb fz false gs w t){S':Nat→Prop}(hM':MT P Post r' ⟨x.tg,S',g',w'⟩)(hr:Rk.lt r' r)(hgo:stepG P true x.g w=.go g' w' es)(hgu:Gua x.tg.ro x.S S' w w' es) :
  ∃ m₁ ops μ',runT P (crowd gs w sl) 0=(.next m₁,ops)∧mlt μ' (mu r gs.size D false)∧Inv P Post μ' m₁ (t++ops):=by
 have hci:=h.cm.core
 have hp:=z5g h
 have hcg:Chg x.tg.ro x.S no w w':=.of_gua hgu fun b hs hr=>own_ro h (.inl rfl) (a:=0) (b:=b) (by rw[z2a];exact hs) hr
 have lay:Core x.tg.ph (own ⟨x.tg,S',g',w'⟩ D) (fun j=>(D j).h) gs.size base nx shb fz w'.heap.size t:=
  hci.lay (a:=0) (fun j hj=>z8p hj) (fun b hb=>by rw[z2a] at hb ⊢;exact hgu.fresh b hb) (fun j hj=>rfl) (fun j hj=>.inl hj) (Nat.le_refl _) (fun p e=>(hci.pho p e).nxn) (fun b hb=>.inl hb) (.inl rfl) hcg.size
 have ok:=lay.okEvG (a:=0) (ro:=x.tg.ro) (fn:=x.g.frame.fn) (pos:=x.g.frame.place) (es:=es) (.inl rfl) (fun b hb=>tg_ro hb) (fun e he=>by rw[z2a];exact hgu.ev e he)
 refine mgo (X:=no) h hM' hr hgo rfl hcg (fun b hb=>hb.elim) (lay.app hp ok.1 ok.2) (.refl _ _ _) (za6 hgu.ev _) (fun p e=>h.cm.jobs_keep (X:=no) hp e (fun j hj=>rfl) (by rw[z2a];exact hcg) (fun b hb=>hb.elim) (fun b hb=>hb) rfl (fun _ h7=>⟨h7,rfl⟩) (fun _ he=>he)) (fun p e=>?_) h.some'
 obtain⟨st,sm,hwg,hmode⟩:=h.mode p e
 have hwg':w'.heap[p.Wg]?=w.heap[p.Wg]? := hcg.keep _ (hci.pho p e).sp.1 (fun o=>((hci.pho p e).own 0 _ (.inl rfl) (by rw[z2a];exact o)).2.1 rfl) (by rw[za7 e];exact fun hr=>((hci.pho p e).ro _ hr).2.2.1 rfl) (fun e=>e)
 exact⟨st,sm,(show w'.heap[p.Wg]?=_ from hwg'.trans hwg),hmode⟩
theorem zbx(h:Stt P x D base nx shb fz false gs w t){p:Ph}(hp:x.tg.ph=some p){tg:Tg}(htg:tg.ph=some p)(hM':MT P Post r' ⟨tg,x.S,g',w'⟩)(hr:Rk.lt r' r)(hgo:stepG P true x.g w=.go g' w' es)
  (hw:w'=w∨∃ a v,a.block=p.Wg∧w'=w.setCell a v)(he:∀ e∈es,(∃ c wr,e=⟨.cell c,wr,true⟩∧c.block=p.Wg)∨e=Go.ConcR.mk .disable∨e=Go.ConcR.mk .enable∨∃ c,(e=Go.ConcR.mk (.read c)∨e=Go.ConcR.mk (.write c))∧c.block=p.Wg)
  (hd:deafBehind (tgd x.tg) es=tgd tg)(hmode:∃ st sm,WgAt p.ty p.Wg w' st sm∧Mode gs.size base D tg false st sm)(hsm:isWait tg→base<gs.size) :
  ∃ m₁ ops μ',runT P (crowd gs w sl) 0=(.next m₁,ops)∧mlt μ' (mu r gs.size D false)∧Inv P Post μ' m₁ (t++ops):=by
 have hci:=h.cm.core
 have h0:=z5g h
 have K:=hci.pho p hp
 have hc:Chg x.tg.ro x.S (fun b=>b=p.Wg) w w':=by
  rcases hw with rfl|⟨a,v,ha,rfl⟩
  ·exact .refl _ _ _ _
  ·rw[← ha]
   exact Chg.setCell (by rw[za7 hp];exact fun hr=>(K.ro _ hr).2.2.1 ha)
 have hsz:w'.heap.size=w.heap.size:=by
  rcases hw with rfl|⟨a,v,ha,rfl⟩
  ·rfl
  ·exact(z5a w a v).1
 have ok:=hci.okBk (a:=0) hp (fn:=x.g.frame.fn) (pos:=x.g.frame.place) (es:=es) (.inl rfl) (fun e h1=>(he e h1).imp id fun y=>y.imp id fun y=>y.imp id fun⟨c,y,z⟩=>.inr ⟨rfl,c,y.elim .inl fun y=>.inr (.inl y),z⟩)
 have e0:own (⟨tg,x.S,g',w'⟩:MSt) D=own x D:=by
  funext j
  by_cases hj:j=0
  ·subst hj;rw[z2a,z2a]
  ·exact z8p hj
 refine mgo (X:=fun b=>b=p.Wg) h hM' hr hgo (htg.trans hp.symm) hc (fun b hb j hj o=>(K.own j b hj o).2.1 hb) (by rw[e0,hsz];exact hci.app h0 ok.1 ok.2) (.refl _ _ _) hd (fun p2 e=>h.cm.jobs_keep h0 e (fun j hj=>rfl) (by rw[z2a];exact hc) (fun b hb=>by rw[hp] at e;cases e;exact hb) (fun b hb=>hb) rfl (fun _ h7=>⟨h7,rfl⟩) (fun _ he=>he)) (fun p2 e=>?_) hsm
 rw[hp] at e;cases e
 exact hmode
theorem mblk(h:Stt P x D base nx shb fz false gs w t)(hM:MT P Post r x){p:Ph}(hp:x.tg=.w3 p)(ho:x.g.offers=none)(hgo:stepG P true x.g w=.go {x.g with status:=.blocked} w #[])
  (hmode:∃ st sm,WgAt p.ty p.Wg w st sm∧Mode gs.size base D x.tg true st sm) :
  ∃ m₁ ops μ',runT P (crowd gs w sl) 0=(.next m₁,ops)∧mlt μ' (mu r gs.size D false)∧Inv P Post μ' m₁ (t++ops):=by
 have hpp:x.tg.ph=some p:=by rw[hp];rfl
 have h0:=z5g h
 have hrun:=runT_crowd_go (sl:=sl) (at0 h) (show stepG P (0==0) x.g w=_ from hgo)
 have hu:MemOp.ofEvents 0 x.g.frame.fn x.g.frame.place #[]=#[]:=rfl
 refine⟨_,_,mu r gs.size D true,hrun,.right _ (.right _ (by simp)),_,w,sl,x,r,D,base,nx,shb,fz,true,rfl,?_,hM,by simp⟩
 rw[hu]
 refine⟨?_,⟨{x.g with status:=.blocked},by simp[h0],rfl,hM.status,fun _=>ho⟩,by simpa using h.d0,fun p2 e=>?_,fun e=>(by rw[hpp] at e;cases e),fun e=>by simpa using h.some' e⟩
 ·have:=h.cm.step (a:=0) (X:=no) (x':=x) (D':=D) (g':=x.g) (u:=#[]) (w':=w) (nx':=nx) (fz':=fz) (gs':=(gs.map (woken P x.g {x.g with status:=.blocked} w)).setIfInBounds 0 {x.g with status:=.blocked}) h0 (fun e=>absurd rfl e) (fun _ _=>rfl) (fun _=>rfl) rfl (.refl _ _ _ _) (fun b hb=>hb.elim) (by simpa using h.cm.core) (by simp) (fun e=>absurd rfl e) (fun _=>h.cm.rly) (by simp)
   (fun j j1 hj=>.inr ⟨x.g,{x.g with status:=.blocked},w,by rw[Array.getElem?_setIfInBounds_ne (Ne.symm hj),Array.getElem?_map]⟩) h.cm.jobs
  simpa using this
 ·rw[hpp] at e;cases e
  simpa using hmode
end
end Go.Mn
