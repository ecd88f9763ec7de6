/- A starter and its workers: what is asked of each. No program in sight. -/
import Derived.Test.YthhpnohbfigggaaGreatDoorMn3
import Derived.Conc.CrowdComm
import Derived.Conc.Beside
set_option linter.all false
namespace Go.Mn
open Go.Conc (G QuitsD scase rcase semEvents)
open Go.ConcR (KK WgAt stA smA rd wr mk DC0)
open Go.ConcN (WgLive)
abbrev PH:=Nat→Option Obj
def PH.sub(h:PH)(W:World):Prop:=∀ b o,h b=some o→W.heap[b]?=some o
structure Ph where
 ty:TypeId
 Wg:Nat
 c:Nat
 ob:Nat
 ety:TypeId
 n:Nat
 ro:Nat→Prop
 Rs:Nat→Value→Value→PH→Prop
structure WSt where
 q:Nat
 h:Option Nat
 S:Nat→Prop
 ex:Bool
 g:Goroutine
 W:World
def zah(p:Ph)(W1:World)(cs:Array Value)(i:Nat)(v0 v1:Value):World:={W1 with heap:=W1.heap.setIfInBounds p.ob (.cells ((cs.setIfInBounds (2*i) v0).setIfInBounds (2*i+1) v1) p.ety)}
def Sil(P:Program)(main:Bool)(p:Ph)(Stop:Goroutine→Prop):Nat→Goroutine→Prop
 |0,g=>Stop g
 |n+1,g=>Stop g∨(g.status=.running∧∀ W,WgLive p.ty p.Wg W→∃ g',stepG P main g W=.go g' W #[]∧Sil P main p Stop n g')
def D4(P:Program)(p:Ph)(g:Goroutine):Prop:=
 g.status=.running∧mayWake P g=true∧∀ W,WgAt p.ty p.Wg W 0 0→∃ g',stepG P false g W=.go g' (W.setCell (smA p.Wg) (.int .u32 1)) (semEvents (smA p.Wg))∧∃ q,QuitsD P q 1 g'
def D3(P:Program)(p:Ph)(g:Goroutine):Prop:=
 g.status=.running∧∀ W,WgAt p.ty p.Wg W 1 0→∃ g',stepG P false g W=.go g' (W.setCell (stA p.Wg) (.int .u64 0)) #[wr (stA p.Wg)]∧∃ m,Sil P false p (D4 P p) m g'
def D2(P:Program)(p:Ph)(g:Goroutine):Prop:=
 g.status=.running∧∀ W,WgAt p.ty p.Wg W 1 0→∃ g',stepG P false g W=.go g' W #[rd (stA p.Wg)]∧∃ m,Sil P false p (D3 P p) m g'
def D1(P:Program)(p:Ph)(g:Goroutine):Prop:=
 g.status=.running∧∀ W (v wt:Nat),wt≤1→v<2147483647→WgAt p.ty p.Wg W ((v+1)*KK+wt) 0 →
  ∃ g',stepG P false g W=.go g' (W.setCell (stA p.Wg) (.int .u64 (v*KK+wt))) #[rd (stA p.Wg),wr (stA p.Wg)] ∧
   ((v=0∧wt=1)→∃ m,Sil P false p (D2 P p) m g')∧(¬ (v=0∧wt=1)→∃ q,QuitsD P q 1 g')
def K1(P:Program)(p:Ph)(g:Goroutine):Prop:=
 g.status=.running∧∀ W,WgLive p.ty p.Wg W→∃ g',stepG P false g W=.go g' W #[mk .disable]∧∃ m,Sil P false p (D1 P p) m g'
def StepW(P:Program)(p:Ph)(x:WSt)(K:WSt→Prop):Prop:=
 x.g.status=.running ∧
 ((∀ W1,Rly p.ro x.S x.W W1→WgLive p.ty p.Wg W1→∃ g' W' es S',stepG P false x.g W1=.go g' W' es∧Gua p.ro x.S S' W1 W' es∧K ⟨x.q,x.h,S',x.ex,g',W'⟩) ∨
  (∃ i,x.h=some i∧∀ W1,Rly p.ro x.S x.W W1→∃ g' v0 v1,(∀ cs,W1.heap[p.ob]?=some (.cells cs p.ety)→cs.size=2*p.n→stepG P false x.g W1=.go g' (zah p W1 cs i v0 v1) #[⟨.cell ⟨p.ob,2*i,none⟩,true,false⟩,⟨.cell ⟨p.ob,2*i+1,none⟩,true,false⟩]) ∧
   (∃ h:PH,h.sub W1∧(∀ b,h b≠none→x.S b∨p.ro b)∧p.Rs i v0 v1 h)∧K ⟨x.q,none,fun _=>False,x.ex,g',W1⟩) ∨
  (x.h=none∧∃ z,∀ W1,Rly p.ro x.S x.W W1→∃ g₂,stepG P false x.g W1=.comm g₂ #[rcase p.c z] true (.recv true) W1 #[] ∧
   (∀ q i,x.q=q+1→i<p.n→K ⟨q,some i,x.S,x.ex,Go.Conc.served g₂ (.tuple #[.int .i64 i,.bool true]),W1⟩)∧K ⟨x.q,none,x.S,true,Go.Conc.served g₂ (.tuple #[z,.bool false]),W1⟩) ∨
  (x.h=none∧x.ex=true∧∀ W1,Rly p.ro x.S x.W W1→WgLive p.ty p.Wg W1→∃ g',stepG P false x.g W1=.go g' W1 #[mk (.releaseMerge (stA p.Wg))]∧∃ m,Sil P false p (K1 P p) m g'))
inductive Rk(ι:Type) where
 |leaf
 |node (f:ι→Rk ι)
def Rk.lt{ι:Type}(a b:Rk ι):Prop:=∃ f i,b=.node f∧a=f i
theorem Rk.wf{ι:Type}:WellFounded (Rk.lt (ι:=ι)):=⟨fun r=>by
 induction r with
 |leaf=>exact⟨_,fun y ⟨f,i,h,_⟩=>by cases h⟩
 |node f ih=>exact⟨_,fun y ⟨f',i,h,e⟩=>by cases h;rw[e];exact ih i⟩⟩
def WT(P:Program)(p:Ph):Rk WSt→WSt→Prop
 |.leaf,_=>False
 |.node f,x=>StepW P p x fun y=>∃ i,WT P p (f i) y
theorem StepW.mono{P:Program}{p:Ph}{x:WSt}{K K':WSt→Prop}(hk:∀ y,K y→K' y)(h:StepW P p x K):StepW P p x K':=by
 refine⟨h.1,?_⟩
 rcases h.2 with h|⟨i,hi,h⟩|⟨hn,z,h⟩|h
 ·exact .inl fun W1 hr hl=>let ⟨g',W',es,S',a,b,c⟩:=h W1 hr hl;⟨g',W',es,S',a,b,hk _ c⟩
 ·exact .inr (.inl ⟨i,hi,fun W1 hr=>let ⟨g',v0,v1,a,b,c⟩:=h W1 hr;⟨g',v0,v1,a,b,hk _ c⟩⟩)
 ·exact .inr (.inr (.inl ⟨hn,z,fun W1 hr=>let ⟨g₂,a,b,c⟩:=h W1 hr;⟨g₂,a,fun q i e hi=>hk _ (b q i e hi),hk _ c⟩⟩))
 ·exact .inr (.inr (.inr h))
def WX(P:Program)(p:Ph)(x:WSt):Prop:=∃ r,WT P p r x
theorem WX.intro{P:Program}{p:Ph}{x:WSt}(h:StepW P p x (WX P p)):WX P p x:=by
 classical
 refine⟨.node fun y=>if h:∃ r,WT P p r y then Classical.choose h else .leaf,?_⟩
 refine StepW.mono (fun y hy=>⟨y,?_⟩) h
 have hy':∃ r,WT P p r y:=hy
 show WT P p (if h:∃ r,WT P p r y then Classical.choose h else .leaf) y
 rw[dif_pos hy']
 exact Classical.choose_spec hy'
inductive Tg where
 |idle
 |op (p:Ph)(s pd:Nat)(d:Bool)
 |wt (p:Ph)(B:Nat)
 |cas (p:Ph)(vs:Nat)
 |w3 (p:Ph)
 |w4 (p:Ph)
 |dn (p:Ph)(d:Bool)
def Tg.ph:Tg→Option Ph
 |.idle=>none
 |.op p _ _ _|.wt p _|.cas p _|.w3 p|.w4 p|.dn p _=>some p
def Tg.ro(t:Tg):Nat→Prop:=match t.ph with
 |none=>fun _=>False
 |some p=>p.ro
structure MSt where
 tg:Tg
 S:Nat→Prop
 g:Goroutine
 W:World
structure RlyM(x:MSt)(W1:World):Prop where
 rly:Rly x.tg.ro x.S x.W W1
 live:∀ p,x.tg.ph=some p→WgLive p.ty p.Wg W1
structure OpenOk(p:Ph)(S S':Nat→Prop)(W:World):Prop where
 less:∀ b,S' b→S b
 ro:∀ b,p.ro b→S b
 wg:S p.Wg
 c:S p.c
 ob:S p.ob
 dj:∀ b,S' b→¬ p.ro b∧b≠p.Wg∧b≠p.c∧b≠p.ob
 dro:¬ p.ro p.Wg∧¬ p.ro p.c∧¬ p.ro p.ob
 dd:p.Wg≠p.c∧p.Wg≠p.ob∧p.c≠p.ob
 wgAt:WgAt p.ty p.Wg W 0 0
 chan:∃ s r,W.heap[p.c]?=some (.chan p.n ((Array.range p.n).map fun(i:Nat)=>Value.int .i64 i) true s r false)
 out:∃ cs,W.heap[p.ob]?=some (.cells cs p.ety)∧cs.size=2*p.n
def Joined(p:Ph)(W:World)(fz:Nat→Prop):Prop:=∀ i,i<p.n→∃ v0 v1 h,p.Rs i v0 v1 h∧h.sub W∧(∀ b,h b≠none→fz b∨p.ro b)∧W.cell? ⟨p.ob,2*i,none⟩=some v0∧W.cell? ⟨p.ob,2*i+1,none⟩=some v1
inductive z6l(P:Program)(Post:Value→World→Prop)(K:MSt→Prop):MSt→Prop
 |loc {x:MSt} (h:∀ W1,RlyM x W1→∃ g' W' es S',stepG P true x.g W1=.go g' W' es∧Gua x.tg.ro x.S S' W1 W' es∧K ⟨x.tg,S',g',W'⟩):z6l P Post K x
 |said {x:MSt} (p:Ph) (hp:x.tg.ph=some p) (h:∀ W1,RlyM x W1→∃ g' m,(m=.read (smA p.Wg)∨m=.write (smA p.Wg))∧stepG P true x.g W1=.go g' W1 #[mk m]∧K ⟨x.tg,x.S,g',W1⟩):z6l P Post K x
 |send {S:Nat→Prop} {g:Goroutine} {W:World} (h:∀ W1,Rly (fun _=>False) S W W1→∃ g₂ c v z cap buf s r,S c∧W1.heap[c]?=some (.chan cap buf false s r false)∧buf.size<cap∧stepG P true g W1=.comm g₂ #[scase c v z] true .send W1 #[] ∧
   K ⟨.idle,S,Go.Conc.served g₂ undef,W1.setChan c cap (buf.push v) false (s+1) r false⟩):z6l P Post K ⟨.idle,S,g,W⟩
 |shut {S:Nat→Prop} {g:Goroutine} {W:World} (h:∀ W1,Rly (fun _=>False) S W W1→∃ g' c cap buf s r,S c∧W1.heap[c]?=some (.chan cap buf false s r false)∧stepG P true g W1=.go g' (W1.setChan c cap buf true s r false) #[⟨.obj c,false,true⟩,⟨.obj c,true,true⟩] ∧
   K ⟨.idle,S,g',W1.setChan c cap buf true s r false⟩):z6l P Post K ⟨.idle,S,g,W⟩
 |opn {S:Nat→Prop} {g:Goroutine} {W:World} (h:∀ W1,Rly (fun _=>False) S W W1→∃ g' W' S1 S' p,stepG P true g W1=.go g' W' #[]∧Gua (fun _=>False) S S1 W1 W' #[]∧W1.heap.size≤p.Wg∧OpenOk p S1 S' W'∧K ⟨.op p 0 0 false,S',g',W'⟩):z6l P Post K ⟨.idle,S,g,W⟩
 |dis {p:Ph} {s:Nat} {S:Nat→Prop} {g:Goroutine} {W:World} (h:∀ W1,RlyM ⟨.op p s 0 false,S,g,W⟩ W1→∃ g',stepG P true g W1=.go g' W1 #[mk .disable]∧(K ⟨.op p s 0 true,S,g',W1⟩∨(1≤s∧K ⟨.wt p s,S,g',W1⟩))):z6l P Post K ⟨.op p s 0 false,S,g,W⟩
 |add {p:Ph} {s:Nat} {S:Nat→Prop} {g:Goroutine} {W:World} (h:∀ W1 (v:Nat),RlyM ⟨.op p s 0 true,S,g,W⟩ W1→v<2147483647→WgAt p.ty p.Wg W1 (v*KK) 0 →
   ∃ g',stepG P true g W1=.go g' (W1.setCell (stA p.Wg) (.int .u64 ((v+1)*KK))) #[rd (stA p.Wg),wr (stA p.Wg)]∧K ⟨.op p s 1 true,S,g',W1.setCell (stA p.Wg) (.int .u64 ((v+1)*KK))⟩):z6l P Post K ⟨.op p s 0 true,S,g,W⟩
 |ena {p:Ph} {s:Nat} {S:Nat→Prop} {g:Goroutine} {W:World} (h:∀ W1,RlyM ⟨.op p s 1 true,S,g,W⟩ W1→∃ g',stepG P true g W1=.go g' W1 #[mk .enable]∧K ⟨.op p s 1 false,S,g',W1⟩):z6l P Post K ⟨.op p s 1 true,S,g,W⟩
 |spawn {p:Ph} {s:Nat} {S:Nat→Prop} {g:Goroutine} {W:World} (hs:s<1000) (h:∀ W1,RlyM ⟨.op p s 1 false,S,g,W⟩ W1→∃ g' child,stepG P true g W1=.spawn g' child W1 #[]∧WX P p ⟨p.n,none,fun _=>False,false,child,W1⟩∧child.status=.running∧K ⟨.op p (s+1) 0 false,S,g',W1⟩):z6l P Post K ⟨.op p s 1 false,S,g,W⟩
 |ldw {p:Ph} {B:Nat} {S:Nat→Prop} {g:Goroutine} {W:World} (h:∀ W1 (v:Nat),RlyM ⟨.wt p B,S,g,W⟩ W1→v≤B→WgAt p.ty p.Wg W1 (v*KK) 0→∃ g',stepG P true g W1=.go g' W1 #[rd (stA p.Wg)]∧(v=0→K ⟨.dn p true,S,g',W1⟩)∧(v≠0→K ⟨.cas p v,S,g',W1⟩)):z6l P Post K ⟨.wt p B,S,g,W⟩
 |cas {p:Ph} {vs:Nat} {S:Nat→Prop} {g:Goroutine} {W:World} (h:∀ W1 (v:Nat),RlyM ⟨.cas p vs,S,g,W⟩ W1→v≤vs→WgAt p.ty p.Wg W1 (v*KK) 0 →
   (v=vs→∃ g',stepG P true g W1=.go g' (W1.setCell (stA p.Wg) (.int .u64 (v*KK+1))) #[rd (stA p.Wg),wr (stA p.Wg)]∧K ⟨.w3 p,S,g',W1.setCell (stA p.Wg) (.int .u64 (v*KK+1))⟩) ∧
   (v≠vs→∃ g',stepG P true g W1=.go g' W1 #[rd (stA p.Wg)]∧K ⟨.wt p v,S,g',W1⟩)):z6l P Post K ⟨.cas p vs,S,g,W⟩
 |sem {p:Ph} {S:Nat→Prop} {g:Goroutine} {W:World} (ho:g.offers=none) (h:∀ W1,RlyM ⟨.w3 p,S,g,W⟩ W1→((∃ st,WgAt p.ty p.Wg W1 st 0)→stepG P true g W1=.go {g with status:=.blocked} W1 #[]) ∧
   (WgAt p.ty p.Wg W1 0 1→∃ g',stepG P true g W1=.go g' (W1.setCell (smA p.Wg) (.int .u32 0)) (semEvents (smA p.Wg))∧K ⟨.w4 p,S,g',W1.setCell (smA p.Wg) (.int .u32 0)⟩)):z6l P Post K ⟨.w3 p,S,g,W⟩
 |ld4 {p:Ph} {S:Nat→Prop} {g:Goroutine} {W:World} (h:∀ W1,RlyM ⟨.w4 p,S,g,W⟩ W1→WgAt p.ty p.Wg W1 0 0→∃ g',stepG P true g W1=.go g' W1 #[rd (stA p.Wg)]∧K ⟨.dn p true,S,g',W1⟩):z6l P Post K ⟨.w4 p,S,g,W⟩
 |ena2 {p:Ph} {S:Nat→Prop} {g:Goroutine} {W:World} (h:∀ W1,RlyM ⟨.dn p true,S,g,W⟩ W1→∃ g',stepG P true g W1=.go g' W1 #[mk .enable]∧K ⟨.dn p false,S,g',W1⟩):z6l P Post K ⟨.dn p true,S,g,W⟩
 |acq {p:Ph} {S:Nat→Prop} {g:Goroutine} {W:World} (h:∀ W1 fz,RlyM ⟨.dn p false,S,g,W⟩ W1→Joined p W1 fz→(∃ cs,W1.heap[p.ob]?=some (.cells cs p.ety)∧cs.size=2*p.n)→(∀ b,fz b→b<W1.heap.size∧b≠p.Wg) →
   ∃ g',stepG P true g W1=.go g' W1 #[mk (.acquire (stA p.Wg))]∧K ⟨.idle,fun b=>S b∨p.ro b∨b=p.ob∨fz b,g',W1⟩):z6l P Post K ⟨.dn p false,S,g,W⟩
 |fin {S:Nat→Prop} {g:Goroutine} {W:World} (h:∀ W1,Rly (fun _=>False) S W W1→∃ v es,stepG P true g W1=.ended (.done v) W1 es∧(∀ e∈es,EvG (fun _=>False) S e)∧Post v W1):z6l P Post K ⟨.idle,S,g,W⟩
theorem z6l.mono{P:Program}{Post:Value→World→Prop}{K K':MSt→Prop}(hk:∀ y,K y→K' y){x:MSt}(h:z6l P Post K x):z6l P Post K' x:=by
 cases h with
 |loc h=>exact .loc fun W1 hr=>let ⟨a,b,c,d,e,f,k⟩:=h W1 hr;⟨a,b,c,d,e,f,hk _ k⟩
 |said p hp h=>exact .said p hp fun W1 hr=>let ⟨a,b,c,d,k⟩:=h W1 hr;⟨a,b,c,d,hk _ k⟩
 |send h=>exact .send fun W1 hr=>let ⟨a,b,c,d,e,f,s,r,x1,x2,x3,x4,k⟩:=h W1 hr;⟨a,b,c,d,e,f,s,r,x1,x2,x3,x4,hk _ k⟩
 |shut h=>exact .shut fun W1 hr=>let ⟨a,b,c,d,e,f,x1,x2,x3,k⟩:=h W1 hr;⟨a,b,c,d,e,f,x1,x2,x3,hk _ k⟩
 |opn h=>exact .opn fun W1 hr=>let ⟨a,b,c,d,e,f,x1,x2,x3,k⟩:=h W1 hr;⟨a,b,c,d,e,f,x1,x2,x3,hk _ k⟩
 |dis h=>exact .dis fun W1 hr=>let ⟨a,b,k⟩:=h W1 hr;⟨a,b,k.imp (hk _) fun k=>⟨k.1,hk _ k.2⟩⟩
 |add h=>exact .add fun W1 v hr hv hw=>let ⟨a,b,k⟩:=h W1 v hr hv hw;⟨a,b,hk _ k⟩
 |ena h=>exact .ena fun W1 hr=>let ⟨a,b,k⟩:=h W1 hr;⟨a,b,hk _ k⟩
 |spawn hs h=>exact .spawn hs fun W1 hr=>let ⟨a,b,c,d,e,k⟩:=h W1 hr;⟨a,b,c,d,e,hk _ k⟩
 |ldw h=>exact .ldw fun W1 v hr hv hw=>let ⟨a,b,k1,k2⟩:=h W1 v hr hv hw;⟨a,b,fun e=>hk _ (k1 e),fun e=>hk _ (k2 e)⟩
 |cas h=>exact .cas fun W1 v hr hv hw=>⟨fun e=>let ⟨a,b,k⟩:=(h W1 v hr hv hw).1 e;⟨a,b,hk _ k⟩,fun e=>let ⟨a,b,k⟩:=(h W1 v hr hv hw).2 e;⟨a,b,hk _ k⟩⟩
 |sem ho h=>exact .sem ho fun W1 hr=>⟨(h W1 hr).1,fun e=>let ⟨a,b,k⟩:=(h W1 hr).2 e;⟨a,b,hk _ k⟩⟩
 |ld4 h=>exact .ld4 fun W1 hr hw=>let ⟨a,b,k⟩:=h W1 hr hw;⟨a,b,hk _ k⟩
 |ena2 h=>exact .ena2 fun W1 hr=>let ⟨a,b,k⟩:=h W1 hr;⟨a,b,hk _ k⟩
 |acq h=>exact .acq fun W1 fz hr hj ho hf=>let ⟨a,b,k⟩:=h W1 fz hr hj ho hf;⟨a,b,hk _ k⟩
 |fin h=>exact .fin h
def MT(P:Program)(Post:Value→World→Prop):Rk MSt→MSt→Prop
 |.leaf,_=>False
 |.node f,x=>x.g.status=.running∧z6l P Post (fun y=>∃ i,MT P Post (f i) y) x
def MX(P:Program)(Post:Value→World→Prop)(x:MSt):Prop:=∃ r,MT P Post r x
theorem MX.intro{P:Program}{Post:Value→World→Prop}{x:MSt}(hg:x.g.status=.running)(h:z6l P Post (MX P Post) x):MX P Post x:=by
 classical
 refine⟨.node fun y=>if h:∃ r,MT P Post r y then Classical.choose h else .leaf,hg,?_⟩
 refine z6l.mono (fun y hy=>⟨y,?_⟩) h
 have hy':∃ r,MT P Post r y:=hy
 show MT P Post (if h:∃ r,MT P Post r y then Classical.choose h else .leaf) y
 rw[dif_pos hy']
 exact Classical.choose_spec hy'
end Go.Mn
namespace Go.Mn
open Go.Conc Go.ConcN
structure Gh where
 act:Nat→Prop
 hold:Nat→Loc→Prop
 look:Loc→Prop
 idle:Loc→Prop
 Sh:Loc→Prop
structure GhOk(G:Gh):Prop where
 one:∀ g g' l,G.hold g l→G.hold g' l→g=g'
 lk:∀ g l,G.hold g l→¬ G.look l
 id:∀ g l,G.hold g l→¬ G.idle l
 sh:∀ g l,G.hold g l→¬ G.Sh l
 lid:∀ l,G.look l→¬ G.idle l
 lsh:∀ l,G.look l→¬ G.Sh l
 ish:∀ l,G.idle l→¬ G.Sh l
structure TI(G:Gh)(B:Nat)(t:Trace):Prop where
 quiet:Quiet G.Sh t
 plain:∀ (i:Nat) (op:MemOp) (x:Touch),t[i]?=some op→op.g≠0→op.act.touch? = some x→x.loc.isMemory=true→¬ G.Sh x.loc→x.kind≠.atomic
 hold:∀ g l,G.act g→G.hold g l→Perm t g l
 look:∀ g l,G.act g→G.look l→PermW t g l
 idle:∀ g l,G.act g→G.idle l→Perm t g l
 past:∀ (i:Nat) (op:MemOp),t[i]?=some op→op.g≠0→¬ G.act op.g→t.counts i→Knows t 0 i
 nr:∀ said,¬ Race said t
 seen:∀ op∈t,op.act.low B
 norel:∀ op∈t,∀ a,op.act≠.mark (.release a)
structure OkT(G:Gh)(g:Nat)(op:MemOp):Prop where
 by':op.g=g
 touch:∀ x,op.act.touch? = some x→G.act g∧((G.Sh x.loc∧x.kind≠.plain∧(x.kind=.said→g=0))∨(G.hold g x.loc∧(g≠0→x.kind≠.atomic))∨(G.look x.loc∧x.write=false∧(g≠0→x.kind≠.atomic)))
 norel:∀ a,op.act≠.mark (.release a)
theorem low_touch{act:MemAct}{x:Touch}{B:Nat}(h:act.low B)(hx:act.touch? = some x):x.loc.low B:=by
 unfold MemAct.touch? at hx
 split at hx<;>simp only[Option.some.injEq,reduceCtorEq] at hx<;>subst hx<;>exact h
section
variable {G G':Gh}{B B':Nat}{t u:Trace}{g:Nat}
theorem TI.fresh(h:TI G B t){l:Loc}(hl:¬ l.low B):∀ i a,touchAt t i=some a→a.loc≠l:=by
 intro i a ha e
 obtain⟨x,hx,hxa⟩:=touch_of ha
 exact hl (e▸low_touch (h.seen x (Array.mem_of_getElem? hx)) hxa)
theorem TI.app(ok:GhOk G)(h:TI G B t)(hB:B≤B')(hu:∀ op∈u,OkT G g op)(hl:∀ op∈u,op.act.low B'):TI G B' (t++u):=by
 refine⟨h.quiet.app fun op hop x hx hs=>?_,fun i op x hi hg hx hm hs=>?_,fun k l hk hl'=>(h.hold k l hk hl').app fun op hop b hb e=>?_,fun k l hk hl'=>(h.look k l hk hl').app fun op hop b hb e hw=>?_,
  fun k l hk hl'=>(h.idle k l hk hl').app fun op hop b hb e=>?_,fun i op hi hg hn hc=>?_,fun said=>?_,fun op hop=>?_,fun op hop=>?_⟩
 ·obtain⟨ha,h1|h1|h1⟩:=(hu op hop).touch x hx
  ·exact⟨h1.2.1,fun e=>(hu op hop).by'.trans (h1.2.2 e)⟩
  ·exact absurd hs (ok.sh _ _ h1.1)
  ·exact absurd hs (ok.lsh _ h1.1)
 ·rcases getElem?_append_cases hi with⟨_,hi'⟩|⟨_,hiu⟩
  ·exact h.plain i op x hi' hg hx hm hs
  ·skip
   obtain⟨ha,h1|h1|h1⟩:=(hu op hiu).touch x hx
   ·exact absurd h1.1 hs
   ·exact h1.2 fun e=>hg ((hu op hiu).by'.trans e)
   ·exact h1.2.2 fun e=>hg ((hu op hiu).by'.trans e)
 ·obtain⟨ha,h1|h1|h1⟩:=(hu op hop).touch b hb
  ·exact absurd (e▸h1.1) (ok.sh _ _ hl')
  ·rw[(hu op hop).by'];exact ok.one _ _ _ (e▸h1.1) hl'
  ·exact absurd (e▸h1.1) (ok.lk _ _ hl')
 ·obtain⟨ha,h1|h1|h1⟩:=(hu op hop).touch b hb
  ·exact absurd (e▸h1.1) (ok.lsh _ hl')
  ·exact absurd hl' (ok.lk _ _ (e▸h1.1))
  ·rw[h1.2.1] at hw;cases hw
 ·obtain⟨ha,h1|h1|h1⟩:=(hu op hop).touch b hb
  ·exact absurd (e▸h1.1) (ok.ish _ hl')
  ·exact absurd hl' (ok.id _ _ (e▸h1.1))
  ·exact absurd hl' (ok.lid _ (e▸h1.1))
 ·rcases getElem?_append_cases hi with⟨hlt,hi'⟩|⟨_,hiu⟩
  ·exact(h.past i op hi' hg hn ((counts_old hlt).1 hc)).app u
  ·obtain⟨x,hx,_⟩:=hc
   obtain⟨y,hy,hyx⟩:=touch_of hx
   rw[hi] at hy
   cases hy
   exact absurd ((hu op hiu).by'▸((hu op hiu).touch x hyx).1) hn
 ·refine noRace_append (h.nr said) (fun op hop=>(hu op hop).by') (fun i a ha op hop b hb hc=>?_)
  obtain⟨hact,h1|h1|h1⟩:=(hu op hop).touch b hb
  ·exact h.quiet.known h1.1 h1.2.1 h1.2.2 i a ha hc
  ·exact h.hold g b.loc hact h1.1 i a ha hc.1
  ·exact h.look g b.loc hact h1.1 i a ha hc.1 (hc.2.2.1.resolve_right (by simp[h1.2.1]))
 ·exact(Array.mem_append.1 hop).elim (fun e=>MemAct.low_mono hB (h.seen op e)) (hl op)
 ·exact(Array.mem_append.1 hop).elim (h.norel op) fun e=>(hu op e).norel
theorem TI.ghost(h:TI G B t)(hs:∀ l,G.Sh l→G'.Sh l)(hsf:∀ l,G'.Sh l→G.Sh l∨¬ l.low B)(ha:∀ g,G'.act g→G.act g)(ha':∀ g,g≠0→G.act g→G'.act g)
  (hh:∀ g l,G'.act g→G'.hold g l→¬ l.low B∨G.hold g l∨G.idle l)(hlk:∀ l,G'.look l→¬ l.low B∨G.look l∨∀ g,G'.act g→G.hold g l)
  (hid:∀ l,G'.idle l→¬ l.low B∨G.idle l∨∀ g,G'.act g→G.hold g l):TI G' B t:=by
 have fr:∀ g l,¬ l.low B→Perm t g l:=fun g l hl i a hi e=>absurd e (h.fresh hl i a hi)
 refine⟨fun i op x hi hx hsx=>?_,fun i op x hi hg hx hm hn=>h.plain i op x hi hg hx hm fun e=>hn (hs _ e),fun k l hk hl=>?_,fun k l hk hl=>?_,fun k l hk hl=>?_,fun i op hi hg hn hc=>h.past i op hi hg (fun e=>hn (ha' _ hg e)) hc,h.nr,h.seen,h.norel⟩
 ·rcases hsf _ hsx with h1|h1
  ·exact h.quiet i op x hi hx h1
  ·exact absurd (low_touch (h.seen op (Array.mem_of_getElem? hi)) hx) h1
 ·rcases hh k l hk hl with h1|h1|h1
  ·exact fr k l h1
  ·exact h.hold k l (ha k hk) h1
  ·exact h.idle k l (ha k hk) h1
 ·rcases hlk l hl with h1|h1|h1
  ·exact .of (fr k l h1)
  ·exact h.look k l (ha k hk) h1
  ·exact .of (h.hold k l (ha k hk) (h1 k hk))
 ·rcases hid l hl with h1|h1|h1
  ·exact fr k l h1
  ·exact h.idle k l (ha k hk) h1
  ·exact h.hold k l (ha k hk) (h1 k hk)
theorem TI.fork(h:TI G B t){k:Nat}(hk0:k≠0)(h0:G.act 0)(hno:∀ op∈t,op.g≠k)(hh:∀ l,¬ G.hold k l)(hG:G'={G with act:=fun g=>G.act g∨g=k})
  {x y:MemOp}(hx:x.g=0∧x.act=.go k)(hy:y.g=k∧y.act=.start)(hd0:Deaf t 0=0)(hdk:Deaf t k=0):TI G' B (t++#[x,y]):=by
 subst hG
 have hnt:∀ op∈#[x,y],∀ b,op.act.touch? = some b→False:=by
  intro op hop b hb
  simp only[List.mem_toArray,List.mem_cons,List.not_mem_nil,or_false] at hop
  rcases hop with rfl|rfl
  ·rw[hx.2] at hb;cases hb
  ·rw[hy.2] at hb;cases hb
 have old:∀ {i:Nat} {a:Touch},touchAt (t++#[x,y]) i=some a→touchAt t i=some a:=by
  intro i a ha
  obtain⟨z,hz,hza⟩:=touch_of ha
  rcases getElem?_append_cases hz with⟨_,hz'⟩|⟨_,hzu⟩
  ·rw[touchAt_of hz'];exact hza
  ·exact(hnt z hzu a hza).elim
 refine⟨h.quiet.app fun op hop b hb _=>(hnt op hop b hb).elim,fun i op b hi hg hb hm hs=>?_,fun g l hg hl=>?_,fun g l hg hl=>?_,fun g l hg hl=>?_,fun i op hi hg hn hc=>?_,fun said=>?_,fun op hop=>?_,fun op hop=>?_⟩
 ·rcases getElem?_append_cases hi with⟨_,hi'⟩|⟨_,hiu⟩
  ·exact h.plain i op b hi' hg hb hm hs
  ·exact(hnt op hiu b hb).elim
 ·rcases hg with hg|rfl
  ·exact(h.hold g l hg hl).app fun op hop b hb _=>(hnt op hop b hb).elim
  ·exact absurd hl (hh l)
 ·rcases hg with hg|rfl
  ·exact(h.look g l hg hl).app fun op hop b hb _=>(hnt op hop b hb).elim
  ·exact fun i a ha e hw=>fork_knows hx hy hd0 hdk (h.look 0 l h0 hl i a (old ha) e hw)
 ·rcases hg with hg|rfl
  ·exact(h.idle g l hg hl).app fun op hop b hb _=>(hnt op hop b hb).elim
  ·exact fun i a ha e=>fork_knows hx hy hd0 hdk (h.idle 0 l h0 hl i a (old ha) e)
 ·rcases getElem?_append_cases hi with⟨hlt,hi'⟩|⟨_,hiu⟩
  ·exact(h.past i op hi' hg (fun e=>hn (.inl e)) ((counts_old hlt).1 hc)).app _
  ·obtain⟨b,hb,_⟩:=hc
   obtain⟨z,hz,hzb⟩:=touch_of hb
   rw[hi] at hz
   cases hz
   exact(hnt op hiu b hzb).elim
 ·have e:t++#[x,y]=(t++#[x])++#[y]:=by apply Array.ext';simp
  rw[e]
  refine noRace_append (g:=k) (noRace_append (g:=0) (h.nr said) (fun op hop=>by simp at hop;rw[hop];exact hx.1) (fun i a _ op hop b hb _=>(hnt op (by simp at hop ⊢;exact .inl hop) b hb).elim))
   (fun op hop=>by simp at hop;rw[hop];exact hy.1) (fun i a _ op hop b hb _=>(hnt op (by simp at hop ⊢;exact .inr hop) b hb).elim)
 ·rcases Array.mem_append.1 hop with e|e
  ·exact h.seen op e
  ·simp only[List.mem_toArray,List.mem_cons,List.not_mem_nil,or_false] at e
   rcases e with rfl|rfl
   ·rw[hx.2];trivial
   ·rw[hy.2];trivial
 ·rcases Array.mem_append.1 hop with e|e
  ·exact h.norel op e
  ·simp only[List.mem_toArray,List.mem_cons,List.not_mem_nil,or_false] at e
   intro a
   rcases e with rfl|rfl
   ·rw[hx.2];simp
   ·rw[hy.2];simp
theorem TI.acq(h:TI G B t){a:Addr}{x:MemOp}(hx:x.g=0∧x.act=.mark (.acquire a))(ha:a.block<B)(hd0:Deaf t 0=0)(hr:∀ g,g≠0→G.act g→∃ r,RelBy a t g r)
  (hs:∀ l,G.Sh l↔G'.Sh l)(hact:∀ g,G'.act g↔g=0)(hm:∀ g l,G'.hold g l→l.isMemory=true∧¬ G.Sh l)(hlk:∀ l,¬ G'.look l)(hid:∀ l,¬ G'.idle l):TI G' B (t++#[x]):=by
 have hnt:∀ op∈#[x],∀ b,op.act.touch? = some b→False:=by
  intro op hop b hb
  simp at hop
  subst hop
  rw[hx.2] at hb;cases hb
 have hxp:(t++#[x])[t.size]?=some x:=by simp
 have key:∀ (i:Nat) (op:MemOp),t[i]?=some op→(op.g=0∨t.counts i)→Knows (t++#[x]) 0 i:=by
  intro i op hi hc
  by_cases hg:op.g=0
  ·have:=knows_own hi
   rw[hg] at this
   exact this.app _
  ·have hc:=hc.resolve_left hg
   by_cases hga:G.act op.g
   ·obtain⟨r,hr⟩:=hr op.g hg hga
    have hrl:r<t.size:=lt_of_act? hr.act
    have hir:i≤r:=Nat.le_of_not_lt fun hlt=>hr.after i hlt (by simp[Trace.g?,hi]) hc
    have hh:(t++#[x]).heard t.size:=⟨0,by simp[Trace.g?,hx.1],by rw[deaf_old (Nat.le_refl _)];exact hd0⟩
    have edge:HappensBefore (t++#[x]) r t.size:=.single (.inr ⟨.marked hrl (.inr (by rw[act?_old hrl];exact hr.act)) (by rw[act?_of hxp,hx.2]) (fun k _ _=>by
     intro e
     obtain⟨z,hz,hza⟩:=Option.map_eq_some_iff.1 e
     rcases getElem?_append_cases hz with⟨_,hz'⟩|⟨_,hzu⟩
     ·exact h.norel z (Array.mem_of_getElem? hz') a hza
     ·simp at hzu
      subst hzu
      rw[hx.2] at hza;cases hza),(heard_old hrl).2 hr.heard,hh⟩)
    refine⟨t.size,x,hxp,hx.1,.inr ?_⟩
    rcases Nat.lt_or_ge i r with hlt|hge
    ·refine .trans (.single (.inl ⟨hlt,op.g,?_,?_⟩)) edge
     ·rw[g?_old (by omega)];simp[Trace.g?,hi]
     ·rw[g?_old hrl];exact hr.g
    ·obtain rfl:i=r:=by omega
     exact edge
   ·exact(h.past i op hi hg hga hc).app _
 have old:∀ {i:Nat} {b:Touch},touchAt (t++#[x]) i=some b→∃ op,t[i]?=some op∧op.act.touch? = some b:=by
  intro i b hb
  obtain⟨z,hz,hzb⟩:=touch_of hb
  rcases getElem?_append_cases hz with⟨_,hz'⟩|⟨_,hzu⟩
  ·exact⟨z,hz',hzb⟩
  ·exact(hnt z hzu b hzb).elim
 refine⟨(show Quiet G'.Sh t from fun i op b hi hb hsb=>h.quiet i op b hi hb ((hs _).2 hsb)).app fun op hop b hb _=>(hnt op hop b hb).elim,fun i op b hi hg hb hmm hsb=>?_,fun g l hg hl=>?_,fun g l _ hl=>absurd hl (hlk l),fun g l _ hl=>absurd hl (hid l),fun i op hi hg hn hc=>?_,fun said=>?_,fun op hop=>?_,fun op hop=>?_⟩
 ·rcases getElem?_append_cases hi with⟨_,hi'⟩|⟨_,hiu⟩
  ·exact h.plain i op b hi' hg hb hmm fun e=>hsb ((hs _).1 e)
  ·exact(hnt op hiu b hb).elim
 ·rw[(hact g).1 hg]
  intro i b hb e
  obtain⟨op,hop,hopb⟩:=old hb
  obtain⟨m1,m2⟩:=hm g l hl
  refine key i op hop ?_
  by_cases hg0:op.g=0
  ·exact .inl hg0
  ·exact .inr ⟨b,by have:=touchAt_of hop;unfold touchAt at this;rw[this];exact hopb,e▸m1,.inl (h.plain i op b hop hg0 hopb (e▸m1) (e▸m2))⟩
 ·rcases getElem?_append_cases hi with⟨hlt,hi'⟩|⟨_,hiu⟩
  ·exact key i op hi' (.inr ((counts_old hlt).1 hc))
  ·obtain⟨b,hb,_⟩:=hc
   obtain⟨z,hz,hzb⟩:=touch_of hb
   rw[hi] at hz
   cases hz
   exact(hnt op hiu b hzb).elim
 ·exact noRace_append (g:=0) (h.nr said) (fun op hop=>by simp at hop;rw[hop];exact hx.1) (fun i b _ op hop c hc _=>(hnt op hop c hc).elim)
 ·rcases Array.mem_append.1 hop with e|e
  ·exact h.seen op e
  ·simp at e
   subst e
   rw[hx.2];exact ha
 ·rcases Array.mem_append.1 hop with e|e
  ·exact h.norel op e
  ·simp at e
   subst e
   intro a
   rw[hx.2];simp
theorem TI.handed(h:TI G B t)(hact:∀ g,G.act g→g=0):t.HandedOver:=by
 intro i g hg hne hc
 obtain⟨op,ho,hog⟩:=Option.map_eq_some_iff.1 hg
 obtain⟨q,z,hz,hz0,hb⟩:=h.past i op ho (hog▸hne) (fun e=>hne (hog▸hact _ e)) hc
 rcases hb with rfl|hb
 ·rw[hz] at ho
  cases ho
  exact absurd (hog.symm.trans hz0) hne
 ·exact⟨q,by simp[Trace.g?,hz,hz0],hb⟩
end
theorem low_ofEvG{RO S:Nat→Prop}{B:Nat}{e:Event}(h:EvG RO S e)(hS:∀ b,S b→b<B)(hR:∀ b,RO b→b<B):(MemAct.ofEvent e).low B:=by
 cases h with
 |@cell a wr h=>
  have:a.block<B:=h.elim (hS _) fun h=>hR _ h.1
  cases wr<;>exact this
 |@obj r wr h=>
  have:r<B:=hS _ h
  cases wr<;>exact this
 |ext=>trivial
 |room=>trivial
theorem za6{RO S:Nat→Prop}{es:Array Event}(h:∀ e∈es,EvG RO S e)(d:Nat):deafBehind d es=d:=
 deafBehind_still (fun e he=>by cases h e he<;>simp) d
theorem okT_EvG{G:Gh}{RO S:Nat→Prop}{g:Nat}{fn:FuncId}{pos:String}{es:Array Event}(h:∀ e∈es,EvG RO S e)(ha:G.act g)
  (hS:∀ l:Loc,(∃ b,S b∧(l=.obj b∨∃ a:Addr,l=.cell a∧a.block=b))→G.hold g l)(hR:∀ a:Addr,RO a.block→G.look (.cell a)∨G.hold g (.cell a)):∀ op∈MemOp.ofEvents g fn pos es,OkT G g op:=by
 intro op hop
 obtain⟨e,he,rfl⟩:=Go.Conc.mem_ofEvents hop
 refine⟨rfl,fun x hx=>⟨ha,?_⟩,?_⟩
 ·cases h e he with
  |@cell a wr hh=>
   have hx':x=⟨.cell a,wr,.plain⟩:=by cases wr<;>simp[MemAct.ofEvent,MemAct.touch?] at hx<;>exact hx.symm
   subst hx'
   rcases hh with hh|⟨hh,hw⟩
   ·exact .inr (.inl ⟨hS _ ⟨_,hh,.inr ⟨a,rfl,rfl⟩⟩,fun _=>by simp⟩)
   ·rcases hR a hh with h1|h1
    ·exact .inr (.inr ⟨h1,hw,fun _=>by simp⟩)
    ·exact .inr (.inl ⟨h1,fun _=>by simp⟩)
  |@obj r wr hh=>
   have hx':x=⟨.obj r,wr,.plain⟩:=by cases wr<;>simp[MemAct.ofEvent,MemAct.touch?] at hx<;>exact hx.symm
   subst hx'
   exact .inr (.inl ⟨hS _ ⟨_,hh,.inl rfl⟩,fun _=>by simp⟩)
  |ext=>simp[MemAct.ofEvent,MemAct.touch?] at hx
  |room=>simp[MemAct.ofEvent,MemAct.touch?] at hx
 ·cases h e he with
  |@cell a wr hh=>cases wr<;>simp[MemAct.ofEvent]
  |@obj r wr hh=>cases wr<;>simp[MemAct.ofEvent]
  |ext=>simp[MemAct.ofEvent]
  |room=>simp[MemAct.ofEvent]
open Go.ConcR (KK WgAt stA smA rd wr mk DC0 wgBlock)
def inB(b:Nat)(l:Loc):Prop:=l=.obj b∨∃ a:Addr,l=.cell a∧a.block=b
def two(p:Ph)(j:Nat)(l:Loc):Prop:=l=.cell ⟨p.ob,2*j,none⟩∨l=.cell ⟨p.ob,2*j+1,none⟩
theorem two_inj{p:Ph}{j j':Nat}{l:Loc}(h:two p j l)(h':two p j' l):j=j':=by
 rcases h with rfl|rfl<;>rcases h' with h'|h'<;>simp at h'<;>omega
theorem zf5{p:Ph}{j:Nat}{a:Addr}(h:two p j (.cell a)):a.block=p.ob:=by
 rcases h with h|h<;>cases h<;>rfl
theorem zc8{p:Ph}{j:Nat}{l:Loc}(h:two p j l):∃ a:Addr,l=.cell a∧a.block=p.ob:=by
 rcases h with rfl|rfl<;>exact⟨_,rfl,rfl⟩
theorem inB_inj{b b':Nat}{l:Loc}(h:inB b l)(h':inB b' l):b=b':=by
 rcases h with rfl|⟨a,rfl,rfl⟩<;>rcases h' with h'|⟨a',h',rfl⟩<;>cases h'<;>rfl
theorem inB_low{b B:Nat}{l:Loc}(h:inB b l):l.low B↔b<B:=by
 rcases h with rfl|⟨a,rfl,rfl⟩<;>rfl
theorem z9m{b:Nat}{a:Addr}(h:inB b (.cell a)):a.block=b:=by
 rcases h with h|⟨a',h,rfl⟩<;>cases h;rfl
def gh(ph:Option Ph)(O:Nat→Nat→Prop)(H:Nat→Option Nat)(N base nx:Nat)(shb:Nat→Prop):Gh where
 act g:=g=0∨(base≤g∧g<N)
 hold g l:=(g=0∨g<N)∧((∃ b,O g b∧inB b l)∨∃ p j,ph=some p∧base≤g∧H g=some j∧two p j l)
 look l:=∃ p,ph=some p∧∃ a:Addr,p.ro a.block∧l=.cell a
 idle l:=∃ p j,ph=some p∧nx≤j∧two p j l
 Sh l:=∃ a:Addr,shb a.block∧l=.cell a
structure PhOk(p:Ph)(O:Nat→Nat→Prop)(H:Nat→Option Nat)(N base nx:Nat)(shb fz:Nat→Prop)(B:Nat):Prop where
 own:∀ i b,(i=0∨i<N)→O i b→¬ p.ro b∧b≠p.Wg∧b≠p.c∧b≠p.ob
 ro:∀ b,p.ro b→b<B∧¬ shb b∧b≠p.Wg∧b≠p.c∧b≠p.ob
 sp:p.Wg<B∧p.c<B∧p.ob<B
 dd:p.Wg≠p.c∧p.Wg≠p.ob∧p.c≠p.ob
 sw:shb p.Wg∧¬ shb p.c∧¬ shb p.ob
 fz:∀ b,fz b→b<B∧(∀ i,(i=0∨i<N)→¬ O i b)∧¬ p.ro b∧b≠p.Wg∧b≠p.c∧b≠p.ob∧¬ shb b
 nxn:nx≤p.n
 lt:∀ i j,base≤i→i<N→H i=some j→j<nx
 dist:∀ i i' j,base≤i→i<N→base≤i'→i'<N→H i=some j→H i'=some j→i=i'
structure Core(ph:Option Ph)(O:Nat→Nat→Prop)(H:Nat→Option Nat)(N base nx:Nat)(shb fz:Nat→Prop)(B:Nat)(t:Trace):Prop where
 b1:1≤base
 bN:base≤N
 idl:ph=none→base=N
 one:∀ i j b,(i=0∨i<N)→(j=0∨j<N)→O i b→O j b→i=j
 low:∀ i b,(i=0∨i<N)→O i b→b<B
 sh:∀ i b,(i=0∨i<N)→O i b→¬ shb b
 shl:∀ b,shb b→b<B
 pho:∀ p,ph=some p→PhOk p O H N base nx shb fz B
 ti:TI (gh ph O H N base nx shb) B t
 gsb:∀ op∈t,op.g<N
section
variable {ph:Option Ph}{O O':Nat→Nat→Prop}{H H':Nat→Option Nat}{N base nx nx':Nat}{shb fz fz':Nat→Prop}{B B':Nat}{t u:Trace}{a:Nat}
theorem Core.gok(h:Core ph O H N base nx shb fz B t):GhOk (gh ph O H N base nx shb):=by
 refine⟨fun g g' l h1 h2=>?_,fun g l h1 h2=>?_,fun g l h1 h2=>?_,fun g l h1 h2=>?_,fun l h1 h2=>?_,fun l h1 h2=>?_,fun l h1 h2=>?_⟩
 ·obtain⟨n1,h1⟩:=h1
  obtain⟨n2,h2⟩:=h2
  rcases h1 with⟨b,o1,i1⟩|⟨p,j,e1,b1,j1,t1⟩<;>rcases h2 with⟨b',o2,i2⟩|⟨p',j',e2,b2,j2,t2⟩
  ·obtain rfl:=inB_inj i1 i2
   exact h.one _ _ _ n1 n2 o1 o2
  ·obtain⟨a,rfl,ha⟩:=zc8 t2
   exact absurd ((z9m i1).symm.trans ha) ((h.pho p' e2).own g b n1 o1).2.2.2
  ·obtain⟨a,rfl,ha⟩:=zc8 t1
   exact absurd ((z9m i2).symm.trans ha) ((h.pho p e1).own g' b' n2 o2).2.2.2
  ·rw[e1] at e2;cases e2
   obtain rfl:=two_inj t1 t2
   have:=h.b1
   exact(h.pho p e1).dist _ _ _ b1 (by omega) b2 (by omega) j1 j2
 ·obtain⟨n1,h1⟩:=h1
  obtain⟨p,e,a,hr,rfl⟩:=h2
  rcases h1 with⟨b,o1,i1⟩|⟨p',j,e1,b1,j1,t1⟩
  ·exact((h.pho p e).own g b n1 o1).1 (z9m i1▸hr)
  ·rw[e1] at e;cases e
   exact((h.pho _ e1).ro _ hr).2.2.2.2 (zf5 t1)
 ·obtain⟨n1,h1⟩:=h1
  obtain⟨p,j,e,hj,tt⟩:=h2
  rcases h1 with⟨b,o1,i1⟩|⟨p',j',e1,b1,j1,t1⟩
  ·obtain⟨a,rfl,ha⟩:=zc8 tt
   exact absurd ((z9m i1).symm.trans ha) ((h.pho p e).own g b n1 o1).2.2.2
  ·rw[e1] at e;cases e
   obtain rfl:=two_inj t1 tt
   have:=h.b1
   have:=(h.pho _ e1).lt _ _ b1 (by omega) j1
   omega
 ·obtain⟨n1,h1⟩:=h1
  obtain⟨a,hs,rfl⟩:=h2
  rcases h1 with⟨b,o1,i1⟩|⟨p',j,e1,b1,j1,t1⟩
  ·exact h.sh g b n1 o1 (z9m i1▸hs)
  ·exact(h.pho p' e1).sw.2.2 (zf5 t1▸hs)
 ·obtain⟨p,e,a,hr,rfl⟩:=h1
  obtain⟨p',j,e',hj,tt⟩:=h2
  rw[e] at e';cases e'
  exact((h.pho p e).ro _ hr).2.2.2.2 (zf5 tt)
 ·obtain⟨p,e,a,hr,rfl⟩:=h1
  obtain⟨a',hs,e'⟩:=h2
  cases e'
  exact((h.pho p e).ro _ hr).2.1 hs
 ·obtain⟨p,j,e,hj,tt⟩:=h1
  obtain⟨a',hs,rfl⟩:=h2
  exact(h.pho p e).sw.2.2 (zf5 tt▸hs)
theorem Core.app(h:Core ph O H N base nx shb fz B t)(ha:a<N)(hu:∀ op∈u,OkT (gh ph O H N base nx shb) a op)(hl:∀ op∈u,op.act.low B):Core ph O H N base nx shb fz B (t++u):=
 ⟨h.b1,h.bN,h.idl,h.one,h.low,h.sh,h.shl,h.pho,h.ti.app h.gok (Nat.le_refl _) hu hl,fun op hop=>(Array.mem_append.1 hop).elim (h.gsb op) fun e=>by rw[(hu op e).by'];exact ha⟩
theorem TI.more{G:Gh}(h:TI G B t)(hB:B≤B'):TI G B' t:=⟨h.quiet,h.plain,h.hold,h.look,h.idle,h.past,h.nr,fun op hop=>MemAct.low_mono hB (h.seen op hop),h.norel⟩
theorem Core.lay(h:Core ph O H N base nx shb fz B t)(hO:∀ i,i≠a→O' i=O i)(hS:∀ b,O' a b→O a b∨(B≤b∧b<B'))(hH:∀ i,i≠a→H' i=H i)
  (hj:∀ j,H' a=some j→H a=some j∨(nx≤j∧j<nx'))(hn:nx≤nx')(hn':∀ p,ph=some p→nx'≤p.n)(hf:∀ b,fz' b→fz b∨(O a b∧¬ O' a b))(ha:a=0∨a<N)(hB:B≤B'):Core ph O' H' N base nx' shb fz' B' t:=by
 have hw:∀ i b,O' i b→O i b∨(i=a∧B≤b∧b<B'):=fun i b ho=>by
  by_cases e:i=a
  ·subst e;exact(hS b ho).imp id fun x=>⟨rfl,x⟩
  ·rw[hO i e] at ho;exact .inl ho
 have hjw:∀ i j,H' i=some j→H i=some j∨(i=a∧nx≤j∧j<nx'):=fun i j ho=>by
  by_cases e:i=a
  ·subst e;exact(hj j ho).imp id fun x=>⟨rfl,x⟩
  ·rw[hH i e] at ho;exact .inl ho
 refine⟨h.b1,h.bN,h.idl,fun i j b hi hj' o1 o2=>?_,fun i b hi o=>?_,fun i b hi o hs=>?_,fun b hb=>Nat.lt_of_lt_of_le (h.shl b hb) hB,fun p e=>?_,?_,h.gsb⟩
 ·rcases hw i b o1 with o1|⟨rfl,x1,x2⟩<;>rcases hw j b o2 with o2|⟨rfl,y1,y2⟩
  ·exact h.one _ _ _ hi hj' o1 o2
  ·have:=h.low i b hi o1;omega
  ·have:=h.low j b hj' o2;omega
  ·rfl
 ·rcases hw i b o with o|⟨_,_,x2⟩
  ·exact Nat.lt_of_lt_of_le (h.low i b hi o) hB
  ·exact x2
 ·rcases hw i b o with o|⟨_,x1,_⟩
  ·exact h.sh i b hi o hs
  ·have:=h.shl b hs;omega
 ·have k:=h.pho p e
  refine⟨fun i b hi o=>?_,fun b hb=>let ⟨x1,x2⟩:=k.ro b hb;⟨Nat.lt_of_lt_of_le x1 hB,x2⟩,⟨Nat.lt_of_lt_of_le k.sp.1 hB,Nat.lt_of_lt_of_le k.sp.2.1 hB,Nat.lt_of_lt_of_le k.sp.2.2 hB⟩,k.dd,k.sw,fun b hb=>?_,hn' p e,fun i j h1 h2 h3=>?_,fun i i' j h1 h2 h1' h2' h3 h3'=>?_⟩
  ·rcases hw i b o with o|⟨_,x1,_⟩
   ·exact k.own i b hi o
   ·have:=k.sp
    exact⟨fun hr=>by have:=(k.ro b hr).1;omega,by omega,by omega,by omega⟩
  ·rcases hf b hb with hb|⟨o,no⟩
   ·obtain⟨x1,x2,x3⟩:=k.fz b hb
    refine⟨Nat.lt_of_lt_of_le x1 hB,fun i hi o=>?_,x3⟩
    rcases hw i b o with o|⟨_,y1,_⟩
    ·exact x2 i hi o
    ·omega
   ·have y:=k.own a b ha o
    have l:=h.low a b ha o
    refine⟨Nat.lt_of_lt_of_le l hB,fun i hi o'=>?_,y.1,y.2.1,y.2.2.1,y.2.2.2,h.sh a b ha o⟩
    rcases hw i b o' with o2|⟨_,y1,_⟩
    ·obtain rfl:=h.one _ _ _ hi ha o2 o
     exact no o'
    ·omega
  ·rcases hjw i j h3 with h3|⟨_,_,x⟩
   ·have:=k.lt i j h1 h2 h3;omega
   ·exact x
  ·rcases hjw i j h3 with h3|⟨rfl,x,_⟩<;>rcases hjw i' j h3' with h3'|⟨rfl,y,_⟩
   ·exact k.dist _ _ _ h1 h2 h1' h2' h3 h3'
   ·have:=k.lt _ _ h1 h2 h3;omega
   ·have:=k.lt _ _ h1' h2' h3';omega
   ·rfl
 ·refine TI.more (h.ti.ghost (fun _ x=>x) (fun _ x=>.inl x) (fun _ x=>x) (fun _ _ x=>x) (fun g l hg hl=>?_) (fun l x=>.inr (.inl x)) (fun l ⟨p,j,e,x,y⟩=>.inr (.inl ⟨p,j,e,by omega,y⟩))) hB
  obtain⟨n1,hl⟩:=hl
  rcases hl with⟨b,o,i1⟩|⟨p,j,e,b1,j1,t1⟩
  ·rcases hw g b o with o|⟨rfl,x1,x2⟩
   ·exact .inr (.inl ⟨n1,.inl ⟨b,o,i1⟩⟩)
   ·exact .inl fun hl=>by have:=(inB_low i1).1 hl;omega
  ·rcases hjw g j j1 with j1|⟨rfl,x1,x2⟩
   ·exact .inr (.inl ⟨n1,.inr ⟨p,j,e,b1,j1,t1⟩⟩)
   ·exact .inr (.inr ⟨p,j,e,x1,t1⟩)
theorem Core.okEvG(h:Core ph O H N base nx shb fz B t){ro:Nat→Prop}{fn:FuncId}{pos:String}{es:Array Event}(ha:a=0∨(base≤a∧a<N))(hr:∀ b,ro b→∃ p,ph=some p∧p.ro b)(he:∀ e∈es,EvG ro (O a) e) :
  (∀ op∈MemOp.ofEvents a fn pos es,OkT (gh ph O H N base nx shb) a op)∧∀ op∈MemOp.ofEvents a fn pos es,op.act.low B:=by
 have ha':a=0∨a<N:=ha.imp id (·.2)
 refine⟨okT_EvG he ha (fun l ⟨b,hb,hl⟩=>⟨ha',.inl ⟨b,hb,hl⟩⟩) fun c hc=>let ⟨p,e,hp⟩:=hr _ hc;.inl ⟨p,e,c,hp,rfl⟩,fun op hop=>?_⟩
 obtain⟨e,hee,rfl⟩:=Go.Conc.mem_ofEvents hop
 exact low_ofEvG (he e hee) (fun b hb=>h.low a b ha' hb) fun b hb=>let ⟨p,e,hp⟩:=hr _ hb;((h.pho p e).ro b hp).1
theorem Core.okBk(h:Core ph O H N base nx shb fz B t){p:Ph}(hp:ph=some p){fn:FuncId}{pos:String}{es:Array Event}(ha:a=0∨(base≤a∧a<N))
  (he:∀ e∈es,(∃ c wr,e=⟨.cell c,wr,true⟩∧c.block=p.Wg)∨e=Go.ConcR.mk .disable∨e=Go.ConcR.mk .enable∨(∃ c,e=Go.ConcR.mk (.releaseMerge c)∧c.block=p.Wg)∨(a=0∧∃ c,(e=Go.ConcR.mk (.read c)∨e=Go.ConcR.mk (.write c)∨e=Go.ConcR.mk (.acquire c))∧c.block=p.Wg)) :
  (∀ op∈MemOp.ofEvents a fn pos es,OkT (gh ph O H N base nx shb) a op)∧∀ op∈MemOp.ofEvents a fn pos es,op.act.low B:=by
 have k:=h.pho p hp
 have em:∀ m,MemAct.ofEvent (Go.ConcR.mk m)=.mark m:=fun m=>rfl
 have hW:=k.sp.1
 constructor
 ·intro op hop
  obtain⟨e,hee,rfl⟩:=Go.Conc.mem_ofEvents hop
  refine⟨rfl,fun x hx=>⟨ha,.inl ?_⟩,fun c=>?_⟩
  ·rcases he e hee with⟨c,wr,rfl,hc⟩|rfl|rfl|⟨c,rfl,hc⟩|⟨ha0,c,rfl|rfl|rfl,hc⟩
   ·rw[ofEvent_cell0] at hx
    simp only[MemAct.touch?,Option.some.injEq] at hx
    subst hx
    exact⟨⟨c,hc▸k.sw.1,rfl⟩,by simp,by simp⟩
   ·rw[em] at hx;cases hx
   ·rw[em] at hx;cases hx
   ·rw[em] at hx;cases hx
   ·rw[em] at hx;cases hx
    exact⟨⟨c,hc▸k.sw.1,rfl⟩,by simp,fun _=>ha0⟩
   ·rw[em] at hx;cases hx
    exact⟨⟨c,hc▸k.sw.1,rfl⟩,by simp,fun _=>ha0⟩
   ·rw[em] at hx;cases hx
  ·rcases he e hee with⟨c,wr,rfl,hc⟩|rfl|rfl|⟨c,rfl,hc⟩|⟨ha0,c,rfl|rfl|rfl,hc⟩
   ·rw[ofEvent_cell0];simp
   all_goals rw[em];simp
 ·intro op hop
  obtain⟨e,hee,rfl⟩:=Go.Conc.mem_ofEvents hop
  rcases he e hee with⟨c,wr,rfl,hc⟩|rfl|rfl|⟨c,rfl,hc⟩|⟨ha0,c,rfl|rfl|rfl,hc⟩
  ·rw[ofEvent_cell0];exact(show c.block<B by omega)
  ·exact trivial
  ·exact trivial
  ·exact(show c.block<B by omega)
  ·exact(show c.block<B by omega)
  ·exact(show c.block<B by omega)
  ·exact(show c.block<B by omega)
theorem Core.okMute(h:Core ph O H N base nx shb fz B t){fn:FuncId}{pos:String}{es:Array Event}(he:∀ e∈es,e.mute=true) :
  (∀ op∈MemOp.ofEvents a fn pos es,OkT (gh ph O H N base nx shb) a op)∧∀ op∈MemOp.ofEvents a fn pos es,op.act.low B:=by
 constructor
 ·intro op hop
  obtain⟨e,hee,rfl⟩:=Go.Conc.mem_ofEvents hop
  refine⟨rfl,fun x hx=>?_,fun c e'=>?_⟩
  ·rw[touch_mute (he e hee)] at hx;cases hx
  ·have hm:=he e hee
   obtain⟨loc,wr,sy⟩:=e
   cases loc with
   |mark m=>simp[MemAct.ofEvent] at e';subst e';simp[Event.mute] at hm
   |obj c=>cases wr<;>cases sy<;>simp[MemAct.ofEvent] at e'
   |_=>simp[MemAct.ofEvent] at e'
 ·intro op hop
  obtain⟨e,hee,rfl⟩:=Go.Conc.mem_ofEvents hop
  exact low_mute (he e hee) B
theorem Core.okChan(h:Core ph O H N base nx shb fz B t){c:Nat}(hc:c<B)(hu:∀ op∈u,op.g=a∧((∃ n,op.act=.send c n)∨(∃ n,op.act=.sendDone c n)∨(∃ n m,op.act=.recv c n m)∨(∃ n,op.act=.recvDone c n)∨op.act=.recvClosed c∨op.act=.close c)) :
  (∀ op∈u,OkT (gh ph O H N base nx shb) a op)∧∀ op∈u,op.act.low B:=by
 constructor
 ·intro op hop
  obtain⟨hg,hh⟩:=hu op hop
  refine⟨hg,fun x hx=>?_,fun b e=>?_⟩
  ·rcases hh with⟨n,e⟩|⟨n,e⟩|⟨n,m,e⟩|⟨n,e⟩|e|e<;>rw[e] at hx<;>cases hx
  ·rcases hh with⟨n,e'⟩|⟨n,e'⟩|⟨n,m,e'⟩|⟨n,e'⟩|e'|e'<;>rw[e'] at e<;>cases e
 ·intro op hop
  obtain⟨hg,hh⟩:=hu op hop
  rcases hh with⟨n,e⟩|⟨n,e⟩|⟨n,m,e⟩|⟨n,e⟩|e|e<;>rw[e]<;>exact hc
end
end Go.Mn
