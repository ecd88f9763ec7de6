/- A lone run that ends, whatever the tape, ends in company, whatever the others do. -/
import Derived.Test.YthhpnohbfigggaaGreatDoorMn3
set_option linter.all false
set_option maxHeartbeats 2000000
namespace Go.Mn
open Go.Conc (G)
theorem zcm{F:Nat→Prop}{P:Program}{ρ:Bij}{w W W1:World}(hw:WR F P ρ w W)(hs:W.heap.size≤W1.heap.size)(h:∀ r r',ρ r r'→W1.heap[r']?=W.heap[r']?):WR F P ρ w W1:=by
 refine⟨hw.bi,fun {r r'} hrr=>?_,hw.kn,hw.gl,Nat.le_trans hw.gl' hs⟩
 obtain⟨o,o',h1,h2,h3⟩:=hw.blk hrr
 exact⟨o,o',h1,by rw[h r r' hrr];exact h2,h3⟩
theorem zca{fr fr':Frame}{cs cs':List Frame}{w w':World}(h:(Stepped.next (lone fr cs w))=.next (lone fr' cs' w')):fr=fr'∧cs=cs'∧w=w':=by
 simp only[Stepped.next.injEq,Go.lone,Machine.mk.injEq] at h
 obtain⟨h1,h2,_⟩:=h
 simp at h2
 exact⟨h2.1,h2.2,h1⟩
def AtEnd(e:List Item)(fr:Frame)(ks:List Frame):Prop:=(ks=[]∧fr.mode=.returning)∨(ks=[]∧fr.mode=.run∧fr.todo=[]∧e≠[])
section
variable {F:Nat→Prop}{P:Program}{T:Txt}{main:Bool}{ρ:Bij}{e:List Item}{fr0 fr fr':Frame}{ks ks' ds:List Frame}{w0 w W:World}{Fin:Frame→World→Prop}{τ:Nat→Question→Nat}{n:Nat}
theorem GS.frames{fr fr':Frame}{l l':List Frame}(r:GS F P T ρ e fr l fr' l'):(fr.defers=[]∧∃ fn,P.funcs[fr.fn]?=some fn)∧∀ k∈l,k.defers=[]∧∃ fn,P.funcs[k.fn]?=some fn:=by
 induction r with
 |base h=>exact⟨⟨h.defers,h.hf⟩,fun k hk=>by cases hk⟩
 |push h hm ht _ ih=>exact⟨⟨h.defers,h.hf⟩,fun k hk=>(List.mem_cons.1 hk).elim (fun e=>e▸ih.1) (ih.2 k)⟩
theorem GS.base'{fr fr':Frame}{l':List Frame}(r:GS F P T ρ e fr [] fr' l'):FR F P T ρ e fr fr'∧l'=[]:=by
 cases r with
 |base h=>exact⟨h,rfl⟩
theorem GS.turns{σ:Bij}{fr1 fr2 fr':Frame}{l1 l2 l':List Frame}(r:GS F P T ρ e fr1 l1 fr' l')(s:GS F P T σ e fr2 l2 fr' l')(h:AtEnd e fr2 l2):AtEnd e fr1 l1:=by
 have go:∀ {fr2 fr':Frame} {l':List Frame},GS F P T ρ e fr1 l1 fr' l'→GS F P T σ e fr2 [] fr' l'→l1=[]∧fr1.mode=fr2.mode∧(fr2.todo=[]→fr1.todo=[]):=by
  intro fr2 fr' l' r s
  cases s with
  |base h2=>
   cases r with
   |base h1=>
    refine⟨rfl,h1.mode.symm.trans h2.mode,fun ht=>?_⟩
    have:=h1.todo.symm.trans h2.todo
    exact(List.append_cancel_right this).trans ht
 rcases h with⟨rfl,hm⟩|⟨rfl,hm,ht,he⟩
 ·obtain⟨h1,h2,_⟩:=go r s
  exact .inl ⟨h1,h2.trans hm⟩
 ·obtain⟨h1,h2,h3⟩:=go r s
  exact .inr ⟨h1,h2.trans hm,h3 ht,he⟩
structure zc0(P:Program)(fr0:Frame)(w0:World)(Fin:Frame→World→Prop)(fr:Frame)(ks:List Frame)(w:World)(τ:Nat→Question→Nat)(n:Nat):Prop where
 reach:∀ τ2,z5u τ τ2 0 w.drawn→runN P n (lone fr0 [cbot P] (Lw w0 τ2))=.next (lone fr (ks++[cbot P]) (Lw w τ2))
 ahead:∀ τ2,z5u τ τ2 0 w.drawn→∃ N frE w',n≤N∧runN P N (lone fr0 [cbot P] (Lw w0 τ2))=.next (lone frE [cbot P] w')∧Fin frE w'
theorem zc0.run(h:zc0 P fr0 w0 Fin fr ks w τ n){τ2:Nat→Question→Nat}(ha:z5u τ τ2 0 w.drawn){N:Nat}{frE:Frame}{w':World}(hN:n≤N)(hr:runN P N (lone fr0 [cbot P] (Lw w0 τ2))=.next (lone frE [cbot P] w')) :
  runN P (N-n) (lone fr (ks++[cbot P]) (Lw w τ2))=.next (lone frE [cbot P] w'):=by
 have e1:N=n+(N-n):=by omega
 rw[e1,runN_add,h.reach τ2 ha] at hr
 exact hr
def ze4(e:List Item)(Fin:Frame→World→Prop):Prop:=∀ frE w',Fin frE w'→(e=[]∧frE.mode=.returning)∨(e≠[]∧frE.mode=.run∧frE.todo=[])
theorem ze4.at(h:ze4 e Fin){frE:Frame}{w':World}(k:Fin frE w'):AtEnd e frE []:=by
 rcases h _ _ k with⟨_,h⟩|⟨h1,h2,h3⟩
 ·exact .inl ⟨rfl,h⟩
 ·exact .inr ⟨rfl,h2,h3,h1⟩
theorem zc0.end_(h:zc0 P fr0 w0 Fin fr ks w τ n)(hF:ze4 e Fin)(gs:GS F P T ρ e fr ks fr' ks')(hs:AtEnd e fr ks):Fin fr (Lw w τ):=by
 have ag:z5u τ τ 0 w.drawn:=fun _ _ _=>rfl
 obtain⟨N,frE,w',hN,hr,hf⟩:=h.ahead τ ag
 have hk:ks=[]:=by rcases hs with h|h<;>exact h.1
 subst hk
 have hb:=gs.base'.1
 have hrun:=h.run ag hN hr
 rw[List.nil_append] at hrun
 rcases Nat.eq_zero_or_pos (N-n) with h0|h0
 ·rw[h0] at hrun
  obtain⟨rfl,_,rfl⟩:=zca hrun
  exact hf
 ·exfalso
  rcases hs with⟨_,hm⟩|⟨_,hm,ht,he⟩
  ·exact zde hm hb.defers hb.kind hb.hf _ _ _ h0 hrun
  ·obtain⟨m,hm1⟩:∃ m,N-n=m+1:=⟨N-n-1,by omega⟩
   have st:step P (lone fr [cbot P] (Lw w τ))=.next (lone {fr with mode:=.returning} [cbot P] (Lw w τ)):=by
    refine step_lone_go ?_
    have h3:=hb.round
    generalize fr=fr at hm ht h3
    obtain⟨f1,f2,f3,f4,f5,f6,f7⟩:=fr
    simp only at hm ht h3
    subst hm ht h3
    simp[stepG,stepG.exec]
   rw[hm1] at hrun
   simp only[runN,st] at hrun
   rcases Nat.eq_zero_or_pos m with h1|h1
   ·subst h1
    obtain⟨rfl,_,_⟩:=zca hrun
    rcases hF _ _ hf with⟨he',_⟩|⟨_,hm',_⟩
    ·exact he he'
    ·cases hm'
   ·exact zde (fr:={fr with mode:=.returning}) rfl hb.defers hb.kind hb.hf _ _ _ h1 hrun
theorem zc0.next(h:zc0 P fr0 w0 Fin fr ks w τ n)(hF:ze4 e Fin)(pg:Pg F P T)(hG:∀ g,T.G g=true→ρ g g)(gs:GS F P T ρ e fr ks fr' ks')(hw:WR F P ρ w W)(hm:fr.mode=.run∨fr.mode=.returning)(hs:¬ AtEnd e fr ks) :
  ∃ fr1 ks1 w1 τ1,zc0 P fr0 w0 Fin fr1 ks1 w1 τ1 (n+1)∧w.drawn≤w1.drawn∧z5u τ τ1 0 w.drawn ∧
   ∃ fr1' ks1' W1 es σ,stepG P main (G fr' (ks'++ds)) W=.go (G fr1' (ks1'++ds)) W1 es∧GS F P T σ e fr1 ks1 fr1' ks1'∧(fr1.mode=.run∨fr1.mode=.returning)∧WR F P σ w1 W1∧Gd ρ σ w w1 W W1 #[] es:=by
 have s1:¬ (ks=[]∧fr.mode=.returning):=fun h=>hs (.inl h)
 have s2:¬ (ks=[]∧fr.mode=.run∧fr.todo=[]∧e≠[]):=fun h=>hs (.inr h)
 have ahead:∀ τ2,z5u τ τ2 0 w.drawn→∃ N frE w',n+1≤N∧runN P N (lone fr0 [cbot P] (Lw w0 τ2))=.next (lone frE [cbot P] w')∧Fin frE w':=fun τ2 ha=>by
  obtain⟨N,frE,w',hN,hr,hf⟩:=h.ahead τ2 ha
  rcases Nat.lt_or_ge n N with hlt|hge
  ·exact⟨N,frE,w',hlt,hr,hf⟩
  ·exfalso
   have:N=n:=by omega
   subst this
   rw[h.reach τ2 ha] at hr
   obtain⟨rfl,hk,_⟩:=zca hr
   have hk':ks=[]:=by simpa using hk
   subst hk'
   exact hs (hF.at hf)
 obtain⟨τ',D,hD,hst⟩:=step_sim (main:=main) (cb:=cbot P) (ds:=ds) pg hG gs hw hm s1 s2
 let τn:Nat→Question→Nat:=fun y=>if y<w.drawn then τ y else τ' y
 have agn:z5u τ τn 0 w.drawn:=fun y _ hy=>if_pos hy
 have ag1:∀ τ2,z5u τn τ2 0 D→z5u τ τ2 0 w.drawn:=fun τ2 ha y h0 hy=>by rw[ha y h0 (Nat.lt_of_lt_of_le hy hD)];exact if_pos hy
 have ag2:∀ τ2,z5u τn τ2 0 D→z5u τ' τ2 w.drawn D:=fun τ2 ha y h0 hy=>by rw[ha y (Nat.zero_le _) hy];exact if_neg (by omega)
 rcases hst with⟨fr1,ks1,w1,hd1,hl,hco⟩|hdead
 ·refine⟨fr1,ks1,w1,τn,⟨fun τ2 ha=>?_,fun τ2 ha=>ahead τ2 (ag1 τ2 (by rw[← hd1];exact ha))⟩,by rw[hd1];exact hD,agn,hco⟩
  rw[runN_add,h.reach τ2 (ag1 τ2 (by rw[← hd1];exact ha))]
  simp only[runN]
  rw[step_lone_go (fr':=fr1) (cs':=ks1++[cbot P]) (w':=Lw w1 τ2) (hl τ2 (ag2 τ2 (by rw[← hd1];exact ha)))]
 ·exfalso
  have agA:z5u τn τn 0 D:=fun _ _ _=>rfl
  obtain⟨N,frE,w',hN,hrun,hf⟩:=ahead τn (ag1 τn agA)
  have hs:=h.run (ag1 τn agA) (Nat.le_of_succ_le hN) hrun
  obtain⟨m,hm⟩:∃ m,N-n=m+1:=⟨N-n-1,by omega⟩
  rw[hm] at hs
  rcases hdead τn (ag2 τn agA) with⟨o,w2,hb⟩|⟨w2,chain,hb,hdf,hfn⟩
  ·have:=step_lone_ended (P:=P) (fr:=fr) (cs:=ks++[cbot P]) (w:=Lw w τn) hb
   simp[runN,this] at hs
  ·have:=step_lone_go (P:=P) (fr:=fr) (cs:=ks++[cbot P]) (w:=Lw w τn) hb
   simp only[runN,this] at hs
   have hr':∃ c,(fr.raise chain).mode=.panicking c:=by unfold Frame.raise;split<;>exact⟨_,rfl⟩
   obtain⟨c,hc⟩:=hr'
   obtain⟨⟨q1,q2⟩,q3⟩:=gs.frames
   obtain⟨c',hc'⟩:=zfo m (fr.raise chain) ks w2 c hc (by unfold Frame.raise;split<;>exact q1) (by unfold Frame.raise;split<;>exact q2) q3 frE w' hs
   rcases hF _ _ hf with⟨_,h2⟩|⟨_,h2,_⟩<;>rw[hc'] at h2<;>cases h2
end
structure Pos where
 fr:Frame
 ks:List Frame
 w:World
 τ:Nat→Question→Nat
theorem endless{P:Program}{e:List Item}{fr0:Frame}{w0:World}{Fin:Frame→World→Prop}(hF:ze4 e Fin)(n0:Nat)(f:Nat→Pos)
  (ha:∀ i,zc0 P fr0 w0 Fin (f i).fr (f i).ks (f i).w (f i).τ (n0+i))(hf:∀ i,(f i).w.drawn≤(f (i+1)).w.drawn∧z5u (f i).τ (f (i+1)).τ 0 (f i).w.drawn)(hn:∀ i,¬ AtEnd e (f i).fr (f i).ks):False:=by
 classical
 have hmono:∀ i k,(f i).w.drawn≤(f (i+k)).w.drawn∧z5u (f i).τ (f (i+k)).τ 0 (f i).w.drawn:=by
  intro i k
  induction k with
  |zero=>exact⟨Nat.le_refl _,fun _ _ _=>rfl⟩
  |succ k ih=>
   refine⟨Nat.le_trans ih.1 (hf (i+k)).1,fun y h0 hy=>?_⟩
   have:=(hf (i+k)).2 y h0 (Nat.lt_of_lt_of_le hy ih.1)
   exact this.trans (ih.2 y h0 hy)
 let τ:Nat→Question→Nat:=fun y=>if h:∃ i,y<(f i).w.drawn then(f (Classical.choose h)).τ y else fun _=>0
 have hτ:∀ i,z5u (f i).τ τ 0 (f i).w.drawn:=by
  intro i y h0 hy
  have hex:∃ i,y<(f i).w.drawn:=⟨i,hy⟩
  have hc:=Classical.choose_spec hex
  show(if h:∃ i,y<(f i).w.drawn then(f (Classical.choose h)).τ y else fun _=>0)=_
  rw[dif_pos hex]
  generalize Classical.choose hex=j at hc
  rcases Nat.le_total i j with hij|hij
  ·obtain⟨k,rfl⟩:=Nat.exists_eq_add_of_le hij
   exact(hmono i k).2 y h0 hy
  ·obtain⟨k,rfl⟩:=Nat.exists_eq_add_of_le hij
   exact((hmono j k).2 y h0 hc).symm
 obtain⟨N,frE,w',hN,h1,h2⟩:=(ha 0).ahead τ (hτ 0)
 have h3:=(ha (N-n0)).reach τ (hτ _)
 have e0:n0+(N-n0)=N:=by omega
 rw[e0,h1] at h3
 obtain⟨rfl,hk,_⟩:=zca h3
 have hk':(f (N-n0)).ks=[]:=by simpa using hk.symm
 refine hn (N-n0) ?_
 rw[hk']
 exact hF.at h2
section
variable {F:Nat→Prop}{P:Program}{T:Txt}{ρ0:Bij}{e:List Item}{fr0:Frame}{w0:World}{Fin:Frame→World→Prop}
structure Solo where
 ρ:Bij
 p:Pos
 fr':Frame
 ks':List Frame
 W:World
structure SoloOk(F:Nat→Prop)(P:Program)(T:Txt)(ρ0:Bij)(e:List Item)(fr0:Frame)(w0 ws:World)(Fin:Frame→World→Prop)(n:Nat)(x:Solo):Prop where
 gs:GS F P T x.ρ e x.p.fr x.p.ks x.fr' x.ks'
 mode:x.p.fr.mode=.run∨x.p.fr.mode=.returning
 wr:WR F P x.ρ x.p.w x.W
 le:ρ0.le x.ρ
 along:zc0 P fr0 w0 Fin x.p.fr x.p.ks x.p.w x.p.τ n
 up:∀ r:Nat,Up ws.heap[r]? x.p.w.heap[r]?
theorem solo(hF:ze4 e Fin)(pg:Pg F P T)(hG:∀ g,T.G g=true→ρ0 g g){ws:World}{n0:Nat}{x0:Solo}(h0:SoloOk F P T ρ0 e fr0 w0 ws Fin n0 x0):∃ frE w',Fin frE w'∧∀ r:Nat,Up ws.heap[r]? w'.heap[r]? := by
 classical
 refine Classical.byContradiction fun hno=>?_
 have hend:∀ n x,SoloOk F P T ρ0 e fr0 w0 ws Fin n x→¬ AtEnd e x.p.fr x.p.ks:=fun n x h hs=>hno ⟨_,_,h.along.end_ hF h.gs hs,h.up⟩
 have hnext:∀ n (x:{x:Solo // SoloOk F P T ρ0 e fr0 w0 ws Fin n x}),∃ y,SoloOk F P T ρ0 e fr0 w0 ws Fin (n+1) y∧x.1.p.w.drawn≤y.p.w.drawn∧z5u x.1.p.τ y.p.τ 0 x.1.p.w.drawn:=by
  intro n ⟨x,h⟩
  obtain⟨fr1,ks1,w1,τ1,a1,a2,a3,fr1',ks1',W1,es,σ,_,b2,b3,b4,b5⟩:=h.along.next (main:=true) (ds:=[]) hF pg (fun g hg=>h.le _ _ (hG g hg)) h.gs h.wr h.mode (hend n x h)
  exact⟨⟨σ,⟨fr1,ks1,w1,τ1⟩,fr1',ks1',W1⟩,⟨b2,b3,b4,Bij.le_trans h.le b5.le,a1,fun r=>(h.up r).trans (b5.up r)⟩,a2,a3⟩
 let f:(n:Nat)→{x:Solo // SoloOk F P T ρ0 e fr0 w0 ws Fin (n0+n) x} := fun n=>Nat.rec ⟨x0,h0⟩ (fun n x=>⟨Classical.choose (hnext (n0+n) x),(Classical.choose_spec (hnext (n0+n) x)).1⟩) n
 exact endless hF n0 (fun n=>(f n).1.p) (fun i=>(f i).2.along) (fun i=>(Classical.choose_spec (hnext (n0+i) (f i))).2) (fun i=>hend _ _ (f i).2)
end
structure Lift(F:Nat→Prop)(P:Program)(T:Txt)(main:Bool)(RO S0:Nat→Prop)(ρ:Bij)(e:List Item)(fr0 fr0':Frame)(ds:List Frame)(w0 wx W0:World)(Fin FinX:Frame→World→Prop)(Stop:(Nat→Prop)→Goroutine→World→Prop):Prop where
 pg:Pg F P T
 hG:∀ g,T.G g=true→ρ g g
 wr:WR F P ρ w0 W0
 fr:FR F P T ρ e fr0 fr0'
 run:fr0.mode=.run
 drawn:w0.drawn=0
 full:∀ r r',ρ r r'→z5t w0 r∧(RO r'∨S0 r')
 inS:∀ b,S0 b→b<W0.heap.size
 inR:∀ b,RO b→b<W0.heap.size
 ends:∀ τ,∃ N frE w',runN P N (lone fr0 [cbot P] (Lw w0 τ))=.next (lone frE [cbot P] w')∧Fin frE w'
 fin:ze4 e Fin
 wrX:WR F P ρ wx W0
 drawnX:wx.drawn=0
 exX:∀ r r',ρ r r'→ExM wx.heap[r]? W0.heap[r']?
 endsX:∀ τ,∃ N frE w',runN P N (lone fr0 [cbot P] (Lw wx τ))=.next (lone frE [cbot P] w')∧FinX frE w'
 finX:ze4 e FinX
 endX:∀ frE w',FinX frE w'→∀ r r',ρ r r'→ExM wx.heap[r]? w'.heap[r]?
 done:∀ (σ:Bij) (S:Nat→Prop) (fr fr':Frame) (w W:World) (τ:Nat→Question→Nat),ρ.le σ→FR F P T σ e fr fr'→WR F P σ w W→Fin fr (Lw w τ)→(∀ r r',σ r r'→ρ r r'∨S r')→(∀ b,S0 b→S b)→(∀ b,S b→S0 b∨W0.heap.size≤b)→(∀ b,S b→b<W.heap.size) →
  W0.heap.size≤W.heap.size→(∀ b,RO b∨S0 b→W.heap[b]?=W0.heap[b]?)→Tr P main RO Stop S (G fr' ds) W
structure Sit where
 ρ:Bij
 p:Pos
 σ:Bij
 q:Pos
 fr':Frame
 ks':List Frame
 W:World
 S:Nat→Prop
section
variable {F:Nat→Prop}{P:Program}{T:Txt}{main:Bool}{RO S0:Nat→Prop}{ρ:Bij}{e:List Item}{fr0 fr0':Frame}{ds:List Frame}{w0 wx W0:World}{Fin FinX:Frame→World→Prop}{Stop:(Nat→Prop)→Goroutine→World→Prop}
structure SitOk(L:Lift F P T main RO S0 ρ e fr0 fr0' ds w0 wx W0 Fin FinX Stop)(n:Nat)(x:Sit):Prop where
 gs:GS F P T x.ρ e x.p.fr x.p.ks x.fr' x.ks'
 mode:x.p.fr.mode=.run∨x.p.fr.mode=.returning
 wr:WR F P x.ρ x.p.w x.W
 le:ρ.le x.ρ
 own:∀ r r',x.ρ r r'→ρ r r'∨(x.S r'∧W0.heap.size≤r')
 full:∀ r,z5t w0 r→z5t x.p.w r
 along:zc0 P fr0 w0 Fin x.p.fr x.p.ks x.p.w x.p.τ n
 gsX:GS F P T x.σ e x.q.fr x.q.ks x.fr' x.ks'
 modeX:x.q.fr.mode=.run∨x.q.fr.mode=.returning
 wrX:WR F P x.σ x.q.w x.W
 leX:ρ.le x.σ
 ownX:∀ r r',x.σ r r'→ρ r r'∨(x.S r'∧W0.heap.size≤r')
 alongX:zc0 P fr0 wx FinX x.q.fr x.q.ks x.q.w x.q.τ n
 exX:∀ r r',ρ r r'→ExM x.q.w.heap[r]? x.W.heap[r']?
 upX:∀ r:Nat,Up wx.heap[r]? x.q.w.heap[r]?
 sS:∀ b,S0 b→x.S b
 sF:∀ b,x.S b→S0 b∨W0.heap.size≤b
 sL:∀ b,x.S b→b<x.W.heap.size
 sz:W0.heap.size≤x.W.heap.size
 same:∀ b,RO b∨S0 b→x.W.heap[b]?=W0.heap[b]?
 bad:¬ Tr P main RO Stop x.S (G x.fr' (x.ks'++ds)) x.W
variable (L:Lift F P T main RO S0 ρ e fr0 fr0' ds w0 wx W0 Fin FinX Stop)
theorem sit_end{n:Nat}{x:Sit}(h:SitOk L n x):¬ AtEnd e x.p.fr x.p.ks:=fun hs=>by
 have hk:x.p.ks=[]:=by rcases hs with h|h<;>exact h.1
 have gs:=h.gs
 rw[hk] at gs
 obtain⟨hb,hk'⟩:=gs.base'
 have:=L.done x.ρ x.S x.p.fr x.fr' x.p.w x.W x.p.τ h.le hb h.wr (h.along.end_ L.fin h.gs hs) (fun r r' hr=>(h.own r r' hr).imp id (·.1)) h.sS h.sF h.sL h.sz h.same
 apply h.bad
 rw[hk']
 exact this
theorem zfd{n:Nat}{x:Sit}(h:SitOk L n x):∃ y,SitOk L (n+1) y∧x.p.w.drawn≤y.p.w.drawn∧z5u x.p.τ y.p.τ 0 x.p.w.drawn:=by
 have s0:=sit_end L h
 have s1:¬ AtEnd e x.q.fr x.q.ks:=fun hs=>s0 (h.gs.turns h.gsX hs)
 have hW:∃ W1,Rly RO x.S x.W W1∧¬ ∃ g' W' es S',stepG P main (G x.fr' (x.ks'++ds)) W1=.go g' W' es∧Gua RO x.S S' W1 W' es∧Tr P main RO Stop S' g' W':=
  Classical.byContradiction fun hn=>h.bad (Tr.step' rfl fun W1 hr=>Classical.byContradiction fun hn'=>hn ⟨W1,hr,hn'⟩)
 obtain⟨W1,hr,hno⟩:=hW
 have hrel0:∀ r r',ρ r r'→x.S r'∨(z5t x.p.w r∧RO r'):=fun r r' h1=>by
  obtain⟨h2,h3⟩:=L.full r r' h1
  rcases h3 with h3|h3
  ·exact .inr ⟨h.full r h2,h3⟩
  ·exact .inl (h.sS r' h3)
 have hrel:∀ r r',x.ρ r r'→x.S r'∨(z5t x.p.w r∧RO r'):=fun r r' hrr=>(h.own r r' hrr).elim (hrel0 r r') fun h1=>.inl h1.1
 have hsm:∀ r r',x.S r'∨(z5t x.p.w r∧RO r')→W1.heap[r']?=x.W.heap[r']? := fun r r' h=>h.elim (hr.own r') fun h=>hr.ro r' h.2
 have hw1:=zcm h.wr hr.size fun r r' hrr=>hsm r r' (hrel r r' hrr)
 have hw2:=zcm h.wrX hr.size fun r r' hrr=>(h.ownX r r' hrr).elim (fun h1=>hsm r r' (hrel0 r r' h1)) fun h1=>hr.own r' h1.1
 obtain⟨fr1,ks1,w1,τ1,a1,a2,a3,fr1',ks1',W1',es,σ,hstep,hgs,hmode,hwr,hgd⟩:=h.along.next (main:=main) (ds:=ds) L.fin L.pg (fun g hg=>h.le _ _ (L.hG g hg)) h.gs hw1 h.mode s0
 obtain⟨fr2,ks2,w2,τ2,c1,c2,c3,fr2',ks2',W2',es2,σ2,hstep2,hgs2,hmode2,hwr2,hgd2⟩:=h.alongX.next (main:=main) (ds:=ds) L.finX L.pg (fun g hg=>h.leX _ _ (L.hG g hg)) h.gsX hw2 h.modeX s1
 have hinj:=hstep2.symm.trans hstep
 simp only[GStep.go.injEq,G,Goroutine.mk.injEq] at hinj
 obtain⟨⟨rfl,hkk,_⟩,rfl,rfl⟩:=hinj
 have hkk:=List.append_cancel_right hkk
 subst hkk
 have ex1:∀ r r',ρ r r'→ExM x.q.w.heap[r]? W1.heap[r']? := fun r r' hrr=>by
  rw[hsm r r' (hrel0 r r' hrr)];exact h.exX r r' hrr
 have ex2:∀ r r',ρ r r'→ExM w2.heap[r]? W2'.heap[r']? := fun r r' hrr=>hgd2.ex r r' (h.leX _ _ hrr) (ex1 r r' hrr)
 have up2:∀ r:Nat,Up wx.heap[r]? w2.heap[r]? := fun r=>(h.upX r).trans (hgd2.up r)
 obtain⟨frE,wE,hfE,hupE⟩:=solo L.finX L.pg (ρ0:=ρ) L.hG (ws:=w2) (n0:=n+1) (x0:=⟨σ2,⟨fr2,ks2,w2,τ2⟩,fr2',ks2',W2'⟩) ⟨hgs2,hmode2,hwr2,Bij.le_trans h.leX hgd2.le,c1,fun r=>.refl _⟩
 have heq:∀ r r',ρ r r'→W2'.heap[r']?=W1.heap[r']? := fun r r' hrr=>by
  rcases hgd.ro r r' (h.le _ _ hrr) (h.full r (L.full r r' hrr).1) with he|⟨c,e',fz,fz',y1,y2,_⟩
  ·exact he.symm
  ·obtain⟨o,o',z1,z2,z3⟩:=hw2.blk (h.leX _ _ hrr)
   rw[y1] at z2;cases z2
   cases z3 with
   |@cells cl cr et fa fb ha hff=>
    have m1:fa=fz:=ex1 r r' hrr _ _ _ _ _ _ z1 y1
    obtain⟨cx,fx,v1,v2⟩:=hgd2.up r _ _ _ z1
    have m2:fx=fz':=ex2 r r' hrr _ _ _ _ _ _ v1 y2
    obtain⟨cE,fE,u1,u2⟩:=hupE r _ _ _ v1
    have hx0:∃ c0 e0 f0,wx.heap[r]?=some (.cells c0 e0 f0):=by
     obtain⟨⟨c4,e4,f4,g1,_⟩,_⟩:=L.full r r' hrr
     obtain⟨o1,o1',k1,k2,k3⟩:=L.wr.blk hrr
     obtain⟨o0,o0',q1,q2,q3⟩:=L.wrX.blk hrr
     rw[g1] at k1;cases k1
     cases k3
     rw[k2] at q2;cases q2
     cases q3
     exact⟨_,_,_,q1⟩
    obtain⟨c00,e00,f00,q1⟩:=hx0
    have hmk:fa=fx:=by
     have m3:f00=fE:=L.endX _ _ hfE r r' hrr _ _ _ _ _ _ q1 u1
     obtain⟨c9,f9,t1,t2⟩:=h.upX r _ _ _ q1
     rw[z1] at t1;cases t1
     exact v2.antisymm (u2.trans (m3▸t2))
    rw[y1,y2,← m1,← m2,hmk]
 let S':Nat→Prop:=fun b=>x.S b∨(W1.heap.size≤b∧b<W2'.heap.size)
 have hown:∀ r r',σ r r'→ρ r r'∨(S' r'∧W0.heap.size≤r'):=fun r r' hrr=>by
  rcases hgd.fresh r r' hrr with h1|⟨_,h1⟩
  ·exact(h.own r r' h1).imp id fun h=>⟨.inl h.1,h.2⟩
  ·exact .inr ⟨.inr ⟨h1,(hwr.dom r r' hrr).2⟩,Nat.le_trans h.sz (Nat.le_trans hr.size h1)⟩
 have hown2:∀ r r',σ2 r r'→ρ r r'∨(S' r'∧W0.heap.size≤r'):=fun r r' hrr=>by
  rcases hgd2.fresh r r' hrr with h1|⟨_,h1⟩
  ·exact(h.ownX r r' h1).imp id fun h=>⟨.inl h.1,h.2⟩
  ·exact .inr ⟨.inr ⟨h1,(hwr2.dom r r' hrr).2⟩,Nat.le_trans h.sz (Nat.le_trans hr.size h1)⟩
 have hold:∀ b,b<W0.heap.size→RO b∨S0 b→W2'.heap[b]?=W1.heap[b]? := fun b hb0 hb=>by
  by_cases hrr:∃ r,x.ρ r b
  ·obtain⟨r,hrr⟩:=hrr
   rcases h.own r b hrr with h2|h2
   ·exact heq r b h2
   ·have:=h2.2;omega
  ·exact hgd.other b (Nat.lt_of_lt_of_le hb0 (Nat.le_trans h.sz hr.size)) fun r hh=>hrr ⟨r,hh⟩
 have hgua:Gua RO x.S S' W1 W2' es2:=by
  refine⟨hgd.size',hgd.os,hgd.output,hgd.tape,fun b hb hs hro=>?_,fun b hro hs=>hold b (L.inR b hro) (.inl hro),fun b=>.inl,fun b hb=>hb,fun ev hev=>?_⟩
  ·refine hgd.other b hb fun r hrr=>?_
   rcases hrel r b hrr with h1|⟨_,h1⟩
   ·exact hs h1
   ·exact hro h1
  ·rcases hgd.ev ev hev with h1|h1
   ·simp at h1
   ·cases h1 with
    |@cell r r' o s wr hrr hf=>
     refine .cell ?_
     rcases hown r r' hrr with h2|h2
     ·obtain⟨h3,h4⟩:=L.full r r' h2
      rcases h4 with h4|h4
      ·refine .inr ⟨h4,?_⟩
       cases wr with
       |false=>rfl
       |true=>exact absurd (h.full r h3) (hf rfl)
      ·exact .inl (.inl (h.sS r' h4))
     ·exact .inl h2.1
    |@obj r r' wr hrr hf=>
     refine .obj ?_
     rcases hown r r' hrr with h2|h2
     ·exact absurd (h.full r (L.full r r' h2).1) hf
     ·exact h2.1
    |ext=>exact .ext
    |room=>exact .room
 have hbad:¬ Tr P main RO Stop S' (G fr2' (ks2'++ds)) W2':=fun ht=>hno ⟨_,_,_,S',hstep,hgua,ht⟩
 refine⟨⟨σ,⟨fr1,ks1,w1,τ1⟩,σ2,⟨fr2,ks2,w2,τ2⟩,fr2',ks2',W2',S'⟩,⟨hgs,hmode,hwr,Bij.le_trans h.le hgd.le,hown,fun r hr=>hgd.full r (h.full r hr),a1,hgs2,hmode2,hwr2,Bij.le_trans h.leX hgd2.le,hown2,c1,ex2,up2,
  fun b hb=>.inl (h.sS b hb),fun b hb=>?_,fun b hb=>?_,?_,fun b hb=>?_,hbad⟩,a2,a3⟩
 ·rcases hb with hb|⟨hb,_⟩
  ·exact h.sF b hb
  ·exact .inr (Nat.le_trans h.sz (Nat.le_trans hr.size hb))
 ·rcases hb with hb|⟨_,hb⟩
  ·exact Nat.lt_of_lt_of_le (h.sL b hb) (Nat.le_trans hr.size hgd.size')
  ·exact hb
 ·exact Nat.le_trans h.sz (Nat.le_trans hr.size hgd.size')
 ·have h1:W1.heap[b]?=x.W.heap[b]? := by
   rcases hb with hb|hb
   ·exact hr.ro b hb
   ·exact hr.own b (h.sS b hb)
  exact(hold b (hb.elim (L.inR b) (L.inS b)) hb).trans (h1.trans (h.same b hb))
theorem lift(L:Lift F P T main RO S0 ρ e fr0 fr0' ds w0 wx W0 Fin FinX Stop):Tr P main RO Stop S0 (G fr0' ds) W0:=by
 classical
 refine Classical.byContradiction fun hno=>?_
 have al:∀ {w:World} {Fn:Frame→World→Prop},w.drawn=0→(∀ τ,∃ N frE w',runN P N (lone fr0 [cbot P] (Lw w τ))=.next (lone frE [cbot P] w')∧Fn frE w')→zc0 P fr0 w Fn fr0 [] w (fun _ _=>0) 0:=fun hd hl=>
  ⟨fun τ2 _=>rfl,fun τ2 _=>let ⟨N,frE,w',h1,h2⟩:=hl τ2;⟨N,frE,w',Nat.zero_le _,h1,h2⟩⟩
 have h0:SitOk L 0 ⟨ρ,⟨fr0,[],w0,fun _ _=>0⟩,ρ,⟨fr0,[],wx,fun _ _=>0⟩,fr0',[],W0,S0⟩:=
  ⟨.base L.fr,.inl L.run,L.wr,Bij.le_refl _,fun _ _ h=>.inl h,fun _ h=>h,al L.drawn L.ends,.base L.fr,.inl L.run,L.wrX,Bij.le_refl _,fun _ _ h=>.inl h,al L.drawnX L.endsX,L.exX,fun r=>.refl _,
   fun _ h=>h,fun _ h=>.inl h,L.inS,Nat.le_refl _,fun _ _=>rfl,hno⟩
 let f:(n:Nat)→{x:Sit // SitOk L n x} := fun n=>Nat.rec ⟨_,h0⟩ (fun n x=>⟨Classical.choose (zfd L x.2),(Classical.choose_spec (zfd L x.2)).1⟩) n
 exact endless L.fin 0 (fun n=>(f n).1.p) (fun i=>by rw[Nat.zero_add];exact(f i).2.along) (fun i=>(Classical.choose_spec (zfd L (f i).2)).2) (fun i=>sit_end L (f i).2)
end
end Go.Mn
