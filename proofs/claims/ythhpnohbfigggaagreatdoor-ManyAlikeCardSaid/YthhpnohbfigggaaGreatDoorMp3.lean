/- Where this program holds the library's functions. -/
import Derived.Test.YthhpnohbfigggaaGreatDoorChecked
import Derived.Test.YthhpnohbfigggaaGreatDoorMo2
import Derived.Test.YthhpnohbfigggaaGreatDoorMp1
set_option linter.all false
namespace Go.Mn
open Go.Proofs
abbrev lnk:Go.Conc.Lib.WgLink:={add:=8,done:=11,wait:=12,relMerge:=14,disable:=15,enable:=16,inBubble:=17,associate:=18,fatal:=19,uOr:=20,uAdd:=21,raceRead:=22,uLoad:=23,uStore:=24,disassociate:=25,semrelease:=26,acquire:=29,isAssociated:=30,uCas:=31,raceWrite:=32,semacquire:=33,orU64:=34,addU64:=35,loadU64:=36,storeU64:=37,casU64:=47,tWgP:=56,tUP:=58,tAssoc:=60,tWg:=52,tAU:=49,tU64:=47,tUint:=64,tU32:=50,tPU32:=65,tPAU:=77,tPU64:=79,tNoCopy:=44,tANoCopy:=45,tAlign64:=46}
theorem wgl:Go.Conc.Lib.WgLib Tryz.prog lnk:=
 ⟨Tryz.func8,Tryz.func11,Tryz.func12,Tryz.func14,Tryz.func15,Tryz.func16,Tryz.func17,Tryz.func18,Tryz.func19,Tryz.func20,Tryz.func21,Tryz.func22,Tryz.func23,Tryz.func24,Tryz.func25,Tryz.func26,Tryz.func29,Tryz.func30,Tryz.func31,Tryz.func32,Tryz.func33,Tryz.func34,Tryz.func35,Tryz.func36,Tryz.func37,Tryz.func47,Tryz.underlying56,Tryz.runUnderlying56,Tryz.sizeOf56,Tryz.isAgg56,Tryz.zeroValue56,Tryz.underlying58,Tryz.runUnderlying58,Tryz.sizeOf58,Tryz.isAgg58,Tryz.zeroValue58,Tryz.underlying60,Tryz.runUnderlying60,Tryz.sizeOf60,Tryz.isAgg60,Tryz.zeroValue60,Tryz.underlying52,Tryz.runUnderlying52,Tryz.sizeOf52,Tryz.isAgg52,Tryz.zeroValue52,Tryz.underlying49,Tryz.runUnderlying49,Tryz.sizeOf49,Tryz.isAgg49,Tryz.zeroValue49,Tryz.underlying47,Tryz.runUnderlying47,Tryz.sizeOf47,Tryz.isAgg47,Tryz.zeroValue47,Tryz.underlying64,Tryz.runUnderlying64,Tryz.sizeOf64,Tryz.isAgg64,Tryz.zeroValue64,Tryz.underlying50,Tryz.runUnderlying50,Tryz.sizeOf50,Tryz.isAgg50,Tryz.zeroValue50,Tryz.underlying65,Tryz.runUnderlying65,Tryz.sizeOf65,Tryz.isAgg65,Tryz.zeroValue65,Tryz.underlying77,Tryz.runUnderlying77,Tryz.sizeOf77,Tryz.isAgg77,Tryz.zeroValue77,Tryz.underlying79,Tryz.runUnderlying79,Tryz.sizeOf79,Tryz.isAgg79,Tryz.zeroValue79,Tryz.underlying0,Tryz.runUnderlying0,Tryz.sizeOf0,Tryz.isAgg0,Tryz.zeroValue0,Tryz.underlying3,Tryz.runUnderlying3,Tryz.sizeOf3,Tryz.isAgg3,Tryz.zeroValue3,Tryz.underlying4,Tryz.runUnderlying4,Tryz.sizeOf4,Tryz.isAgg4,Tryz.zeroValue4,Tryz.underlying9,Tryz.runUnderlying9,Tryz.sizeOf9,Tryz.isAgg9,Tryz.zeroValue9,Tryz.underlying20,Tryz.runUnderlying20,Tryz.sizeOf20,Tryz.isAgg20,Tryz.zeroValue20,Tryz.underlying21,Tryz.runUnderlying21,Tryz.sizeOf21,Tryz.isAgg21,Tryz.zeroValue21,(by kernel_rfl),(by kernel_rfl)⟩
end Go.Mn
set_option maxRecDepth 100000
namespace Go.Mn
open Go.Conc Go.ConcN Go.RowKit Go.Fw
open Go.ConcR (KK WgAt stA smA rd wr mk DC0)
section
variable {P:Program}{p:Ph}{q:Nat}{ex:Bool}{S:Nat→Prop}{W:World}{b:Frame}{nt:Nat}{env env':Env}{k:List Item}{cs:List Frame}
variable {ops:Array Oper}{i:Nat}{rest:List Nat}{d:Nat}{op:Op}{ty:TypeId}{pos:String}{af:Array Edge}{g:Option (Nat×Bool)}{v:Value}
theorem CE.recv{x:Operand}{T E:TypeId}{dir:ChanDir}{ti:TypeInfo}{z:Value}(hT:P.underlying T=some (.chan dir E))(hi:P.info? E=some ti)(hz:ti.zero=some z)(hk:b.kind≠.early)(ho:ops[i]?=some ⟨some d,.recv T x true,ty,pos,af,g⟩)(hg:wanted ops env g=some true)(hd:Nat.blt d nt=true)
  (hx:opv env x=some (.chan (some p.c)))
  (k1:∀ q' j,q=q'+1→j<p.n→CE (coW P p q' (some j) ex) S W b nt (put env d (.tuple #[.int .i64 j,.bool true])) (.inRegion ops rest::k) cs)
  (k2:CE (coW P p q none true) S W b nt (put env d (.tuple #[z,.bool false])) (.inRegion ops rest::k) cs):CE (coW P p q none ex) S W b nt env (.inRegion ops (i::rest)::k) cs:=fun a h1 h2 e=>
 WX.intro ⟨rfl,.inr (.inr (.inl ⟨rfl,z,fun W1 r1=>by
  have hst:=stepG_comm (P:=P) (main:=false) (k:=k) (cs:=cs) (rest:=rest) (w:=W1) (w':=W1) (cases:=#[rcase p.c z]) (blocking:=true) (shape:=.recv true) ho (zw (o:=⟨some d,.recv T x true,ty,pos,af,g⟩) e hg) hk (by
   simp[execOp,zf e hx,run_underlying hT,zeroValue,typeInfo,hi,hz,rcase])
  have hl:listed P b.fn a ⟨some d,.recv T x true,ty,pos,af,g⟩ W1=#[]:=by
   unfold listed
   rw[show(execOp a.eval ⟨some d,.recv T x true,ty,pos,af,g⟩).events P W1 #[]=#[] by simp[execOp,run_underlying hT,zeroValue,typeInfo,hi,hz,go_sem]]
   exact seen_none _ _
  rw[hl] at hst
  have e2:∀ u,Go.Conc.served (G (b.at a (.inRegion ops (i::rest)::k)) cs) u=G (b.at (a.put (some d) u) (.inRegion ops rest::k)) cs:=fun u=>by
   simp only[Go.Conc.served,G]
   rw[Frame.finish_at,ho]
   rfl
  refine⟨_,hst,fun q' j hq hj=>?_,?_⟩
  ·rw[e2]
   exact WX.rely (k1 q' j hq hj (a.put (some d) _) h1 (by simp[Act.put,h2]) (za8 e h2 hd)) r1
  ·rw[e2]
   exact WX.rely (k2 (a.put (some d) _) h1 (by simp[Act.put,h2]) (za8 e h2 hd)) r1⟩))⟩
theorem CE.out{x y:Operand}{T:TypeId}{j:Nat}{v0 v1:Value}(hE:Ln P T 2 true)(hk:b.kind≠.early)(hq:(P.funcs[b.fn]?).any (·.norace)=false)(ho:ops[i]?=some ⟨none,.store T x y,ty,pos,af,g⟩)(hg:wanted ops env g=some true)(hj:j<p.n)
  (hx:opv env x=some (.pointer (some ⟨p.ob,2*j,none⟩)))(hy:opv env y=some (.agg #[v0,v1]))(o0:v0.oneCell'=true)(o1:v1.oneCell'=true)
  (hR:∀ W1,Rly p.ro S W W1→∃ h:PH,h.sub W1∧(∀ b,h b≠none→S b∨p.ro b)∧p.Rs j v0 v1 h)
  (k1:CE (coW P p q none ex) (fun _=>False) W b nt env (.inRegion ops rest::k) cs):CE (coW P p q (some j) ex) S W b nt env (.inRegion ops (i::rest)::k) cs:=fun a h1 h2 en=>
 WX.intro ⟨rfl,.inr (.inl ⟨j,rfl,fun W1 r1=>by
  refine⟨G (b.at (a.put none undef) (.inRegion ops rest::k)) cs,v0,v1,fun C hC hCs=>?_,hR W1 r1,?_⟩
  ·have l0:2*j<C.size:=by omega
   have l1:2*j+1<C.size:=by omega
   have a0:(⟨p.ob,2*j,none⟩:Addr).add 0=⟨p.ob,2*j,none⟩:=rfl
   have a1:(⟨p.ob,2*j,none⟩:Addr).add 1=⟨p.ob,2*j+1,none⟩:=rfl
   have st:∀ (W:World) (C:Array Value) (o:Nat) (u:Value),W.heap[p.ob]?=some (.cells C p.ety)→o<C.size→u.oneCell'=true→(store ⟨p.ob,o,none⟩ u).run P W=.ok () (W.setRow p.ob (C.setIfInBounds o u))∧(store ⟨p.ob,o,none⟩ u).events P W=fun es=>es.push ⟨.cell ⟨p.ob,o,none⟩,true,false⟩:=fun W C o u hw hl h1=>by
    have hcell:W.cell? ⟨p.ob,o,none⟩=some C[o]:=by simp[World.cell?,hw,hl]
    have hfro:W.frozen? ⟨p.ob,o,none⟩=false:=by simp[World.frozen?,hw]
    constructor
    ·rw[run_store P W _ u _ h1,hcell]
     simp[hfro,setCell_eq_setRow W p.ob o C p.ety (0,0) u hw]
    ·funext es
     rw[events_store P W es _ u _ h1,hcell]
     simp only[hfro,Bool.false_eq_true,if_false]
     rfl
   obtain⟨r0,e0⟩:=st W1 C (2*j) v0 hC l0 o0
   obtain⟨r2,e2⟩:=st (W1.setRow p.ob (C.setIfInBounds (2*j) v0)) (C.setIfInBounds (2*j) v0) (2*j+1) v1 (setRow_heap W1 p.ob C _ p.ety _ hC) (by simpa using l1) o1
   have hC':((W1.setRow p.ob (C.setIfInBounds (2*j) v0)).setRow p.ob ((C.setIfInBounds (2*j) v0).setIfInBounds (2*j+1) v1))=zah p W1 C j v0 v1:=by
    have hlt:=(Array.getElem?_eq_some_iff.1 hC).1
    have hv:=(Array.getElem?_eq_some_iff.1 hC).2
    unfold zah World.setRow
    congr 1
    apply Array.ext_getElem?
    intro m
    simp only[Array.getElem?_modify,Array.getElem?_setIfInBounds]
    by_cases hm:p.ob=m
    ·subst hm;simp[hlt,hv]
    ·simp[hm]
   have hrun:(Instr.storeAt T (.pointer (some ⟨p.ob,2*j,none⟩)) (.agg #[v0,v1])).run P W1=.ok () (zah p W1 C j v0 v1):=by
    unfold Instr.storeAt Instr.sureAddr storeVar
    simp[Sem.run_bind,Go.Fw.run_sizeOf hE,Value.cells,storeCells,a0,a1,r0,r2,hC']
   have hevs:(Instr.storeAt T (.pointer (some ⟨p.ob,2*j,none⟩)) (.agg #[v0,v1])).events P W1 #[]=#[⟨.cell ⟨p.ob,2*j,none⟩,true,false⟩,⟨.cell ⟨p.ob,2*j+1,none⟩,true,false⟩]:=by
    unfold Instr.storeAt Instr.sureAddr storeVar
    simp[Sem.events_bind,Go.Fw.run_sizeOf hE,Value.cells,storeCells,a0,a1,r0,r2,e0,e2,Result.evThen]
   have hst:=stepG_none (P:=P) (main:=false) (k:=k) (cs:=cs) (rest:=rest) (w:=W1) (w':=zah p W1 C j v0 v1) ho (zw (o:=⟨none,.store T x y,ty,pos,af,g⟩) en hg) hk (by simp only[execOp,zf en hx,zf en hy,Sem.run_bind,hrun];rfl)
   have hl:listed P b.fn a ⟨none,.store T x y,ty,pos,af,g⟩ W1=#[⟨.cell ⟨p.ob,2*j,none⟩,true,false⟩,⟨.cell ⟨p.ob,2*j+1,none⟩,true,false⟩]:=by
    unfold listed
    have he:(execOp a.eval ⟨none,.store T x y,ty,pos,af,g⟩).events P W1 #[]=#[⟨.cell ⟨p.ob,2*j,none⟩,true,false⟩,⟨.cell ⟨p.ob,2*j+1,none⟩,true,false⟩]:=by
     simp only[execOp,zf en hx,zf en hy,Sem.events_bind,hevs,hrun]
     simp[Result.evThen]
    rw[he]
    exact seen_eq hq (by intro e he f;simp only[List.mem_toArray,List.mem_cons,List.not_mem_nil,or_false] at he;rcases he with rfl|rfl<;>simp)
   rw[hl] at hst
   exact hst
  ·exact WX.rely (k1 (a.put none undef) h1 (by simpa[Act.put] using h2) (by simpa[Act.put] using en)) ⟨r1.size,fun _ h=>h.elim,r1.ro,r1.so⟩⟩)⟩
end
open Go.Conc Go.ConcN Go.RowKit Go.Fw Go.Proofs Go.Conc.Lib Go.ConcR.Gen
theorem lin_step(md:Region.Mode)(ops:Array Oper)(fuel t:Nat)(listed:Array Bool):(Region.ready md ops listed=[]∧Region.linearise.go md ops (fuel+1) t listed []=[]) ∨
  ∃ i∈Region.ready md ops listed,∃ t',Region.linearise.go md ops (fuel+1) t listed []=i::Region.linearise.go md ops fuel t' (listed.setIfInBounds i true) []:=by
 simp only[Region.linearise.go]
 change (_∧(match(Region.ready md ops listed)[t%(Region.ready md ops listed).length]? with
   |some i=>Region.linearise.go md ops fuel (t / (Region.ready md ops listed).length) (listed.setIfInBounds i true) [i]
   |none=>[].reverse)=_)∨∃ i∈_,∃ t',(match(Region.ready md ops listed)[t%(Region.ready md ops listed).length]? with
   |some i=>Region.linearise.go md ops fuel (t / (Region.ready md ops listed).length) (listed.setIfInBounds i true) [i]
   |none=>[].reverse)=_
 cases hi:(Region.ready md ops listed)[t%(Region.ready md ops listed).length]? with
 |none=>
  left
  refine⟨?_,rfl⟩
  cases hr:Region.ready md ops listed with
  |nil=>rfl
  |cons x xs=>
   rw[hr] at hi
   have hlt:t%(x::xs).length<(x::xs).length:=Nat.mod_lt _ (by simp)
   simp at hi
   simp at hlt
   omega
 |some i=>
  refine .inr ⟨i,List.mem_of_getElem? hi,t / (Region.ready md ops listed).length,?_⟩
  simp only[]
  rw[linearise_go_acc,List.reverse_singleton,List.singleton_append]
def R3:Array Oper:=#[
 ⟨some 9,.load 23 (.tmp 2),23,"many.go:27",#[],none⟩,
 ⟨some 10,.move (.tmp 4),3,"many.go:27",#[],none⟩,
 ⟨some 11,.load 22 (.tmp 1),22,"many.go:27",#[],none⟩,
 ⟨some 12,.move (.tmp 4),3,"many.go:27",#[],none⟩,
 ⟨some 13,.indexAddr 22 (.tmp 11) (.tmp 12),0,"many.go:27",#[⟨2,.data⟩,⟨3,.data⟩],none⟩,
 ⟨some 14,.load 31 (.tmp 13),31,"many.go:27",#[⟨4,.data⟩],none⟩,
 ⟨some 15,.call {callee:=.value (.func 10),args:=#[.tmp 14],argTypes:=#[31]},35,"many.go:27",#[⟨5,.data⟩],none⟩,
 ⟨some 16,.indexAddr 23 (.tmp 9) (.tmp 10),0,"many.go:27",#[⟨0,.data⟩,⟨1,.data⟩,⟨0,.phase⟩,⟨1,.phase⟩,⟨2,.phase⟩,⟨3,.phase⟩,⟨4,.phase⟩,⟨5,.phase⟩,⟨6,.phase⟩],none⟩,
 ⟨none,.store 35 (.tmp 16) (.tmp 15),0,"many.go:27",#[⟨7,.data⟩,⟨6,.data⟩,⟨6,.chain⟩,⟨0,.phase⟩,⟨1,.phase⟩,⟨2,.phase⟩,⟨3,.phase⟩,⟨4,.phase⟩,⟨5,.phase⟩,⟨6,.phase⟩],none⟩]
theorem R3_departs:Region.departs R3=false:=by kernel_rfl
def c3(b0 b1 b2 b3 b4 b5 b6 b7:Bool)(i:Nat):Bool:=(i==0 && !b0)||(i==1 && !b1)||(i==2 && !b2)||(i==3 && !b3)||(i==4 && !b4&&b2&&b3)||(i==5 && !b5&&b4)||(i==6 && !b6&&b5) ||
 (i==7 && !b7&&b0&&b1&&b6)||(i==8&&b0&&b1&&b2&&b3&&b4&&b5&&b6&&b7)
def aB(f:Bool→Bool):Bool:=f true&&f false
theorem aB_ok{f:Bool→Bool}(h:aB f=true)(b:Bool):f b=true:=by
 unfold aB at h
 rw[Bool.and_eq_true] at h
 cases b<;>simp[h]
theorem R3_chk:(aB fun b0=>aB fun b1=>aB fun b2=>aB fun b3=>aB fun b4=>aB fun b5=>aB fun b6=>aB fun b7 => !(Region.ready .any R3 #[b0,b1,b2,b3,b4,b5,b6,b7,false]).isEmpty&&(Region.ready .any R3 #[b0,b1,b2,b3,b4,b5,b6,b7,false]).all (c3 b0 b1 b2 b3 b4 b5 b6 b7))=true:=by kernel_rfl
theorem R3_ready(b0 b1 b2 b3 b4 b5 b6 b7:Bool):Region.ready .any R3 #[b0,b1,b2,b3,b4,b5,b6,b7,false]≠[]∧∀ i∈Region.ready .any R3 #[b0,b1,b2,b3,b4,b5,b6,b7,false],c3 b0 b1 b2 b3 b4 b5 b6 b7 i=true:=by
 have h:=aB_ok (aB_ok (aB_ok (aB_ok (aB_ok (aB_ok (aB_ok (aB_ok R3_chk b0) b1) b2) b3) b4) b5) b6) b7
 simp only[Bool.and_eq_true,Bool.not_eq_true',List.all_eq_true] at h
 refine⟨fun e=>?_,h.2⟩
 rw[e] at h
 exact absurd h.1 (by simp)
theorem R3_end:∀ fuel t,Region.linearise.go .any R3 fuel t #[true,true,true,true,true,true,true,true,true] []=[]:=by
 intro fuel t
 cases fuel with
 |zero=>rfl
 |succ n=>
  rcases lin_step .any R3 n t #[true,true,true,true,true,true,true,true,true] with h|⟨i,hi,_⟩
  ·exact h.2
  ·have:Region.ready .any R3 #[true,true,true,true,true,true,true,true,true]=[]:=by kernel_rfl
   rw[this] at hi;cases hi
theorem ti22:(Tryz.prog.info? 22).map (fun i=>(i.zero,i.size,i.bytes))=some (some (.slice none 0 0),1,24):=by kernel_rfl
theorem ti23:(Tryz.prog.info? 23).map (fun i=>(i.zero,i.size,i.bytes))=some (some (.slice none 0 0),1,24):=by kernel_rfl
theorem ti31:(Tryz.prog.info? 31).map (fun i=>(i.zero,i.size,i.bytes))=some (some (.slice none 0 0),1,24):=by kernel_rfl
theorem ti42:(Tryz.prog.info? 42).map (fun i=>(i.zero,i.size,i.bytes))=some (some (.chan none),1,8):=by kernel_rfl
theorem ti35:(Tryz.prog.info? 35).map (fun i=>(i.zero,i.size,i.bytes))=some (some (.agg #[.slice none 0 0,.slice none 0 0]),2,48):=by kernel_rfl
theorem tl22:Ln Tryz.prog 22 1 false:=Ln.of ti22 Tryz.underlying22 rfl
theorem tl23:Ln Tryz.prog 23 1 false:=Ln.of ti23 Tryz.underlying23 rfl
theorem tl31:Ln Tryz.prog 31 1 false:=Ln.of ti31 Tryz.underlying31 rfl
theorem tl42:Ln Tryz.prog 42 1 false:=Ln.of ti42 Tryz.underlying42 rfl
theorem tl35:Ln Tryz.prog 35 2 true:=Ln.of ti35 Tryz.underlying35 rfl
structure Rlw(RO S:Nat→Prop)(W W1:World):Prop where
 size:W.heap.size≤W1.heap.size
 own:∀ b,S b→W1.heap[b]?=W.heap[b]?
 ro:∀ b,RO b→W1.heap[b]?=W.heap[b]?
theorem Rly.w{RO S:Nat→Prop}{W W1:World}(h:Rly RO S W W1):Rlw RO S W W1:=⟨h.size,h.own,h.ro⟩
structure WkIn(p:Ph)(B7 B3 B6:Nat)(js:Value)(jv:Nat→Value)(E:World→Prop)(W:World):Prop where
 ex:E W
 est:∀ (S:Nat→Prop) (W W1:World),E W→Rlw p.ro S W W1→E W1
 r7:p.ro B7
 r3:p.ro B3
 r6:p.ro B6
 c7:W.cell? ⟨B7,0,none⟩=some (.chan (some p.c))
 c3:W.cell? ⟨B3,0,none⟩=some js
 c6:W.cell? ⟨B6,0,none⟩=some (.slice (some ⟨p.ob,0,none⟩) p.n p.n)
 cj:∀ i,i<p.n→∃ Jb jo cap,js=.slice (some ⟨Jb,jo,none⟩) p.n cap∧p.ro Jb∧W.cell? ⟨Jb,jo+i,none⟩=some (jv i)
theorem z5i{W W1:World}{b o:Nat}(h:W1.heap[b]?=W.heap[b]?):W1.cell? ⟨b,o,none⟩=W.cell? ⟨b,o,none⟩:=by unfold World.cell?;rw[h]
theorem WkIn.rely{p:Ph}{B7 B3 B6:Nat}{js:Value}{jv:Nat→Value}{E:World→Prop}{S:Nat→Prop}{W W1:World}(h:WkIn p B7 B3 B6 js jv E W)(r:Rlw p.ro S W W1):WkIn p B7 B3 B6 js jv E W1:=
 ⟨h.est _ _ _ h.ex r,h.est,h.r7,h.r3,h.r6,(z5i (r.ro _ h.r7)).trans h.c7,(z5i (r.ro _ h.r3)).trans h.c3,(z5i (r.ro _ h.r6)).trans h.c6,fun i hi=>let ⟨Jb,jo,cap,e1,e2,e3⟩:=h.cj i hi;⟨Jb,jo,cap,e1,e2,(z5i (r.ro _ e2)).trans e3⟩⟩
def DoOk(p:Ph)(F:World→Prop)(jv:Nat→Value):Prop:=∀ (q j:Nat) (ex:Bool) (W:World) (c:Frame) (cs:List Frame),j<p.n→F W →
 (∀ (S:Nat→Prop) (W2:World) (v0 v1:Value),Rlw p.ro (fun _=>False) W W2→v0.oneCell'=true→v1.oneCell'=true→(∀ W3,Rly p.ro S W2 W3→∃ h:PH,h.sub W3∧(∀ b,h b≠none→S b∨p.ro b)∧p.Rs j v0 v1 h)→WX Tryz.prog p ⟨q,some j,S,ex,G (c.finish (.agg #[v0,v1])) cs,W2⟩) →
 WX Tryz.prog p ⟨q,some j,fun _=>False,ex,G ((base 10).at {tmps:=[jv j].toArray++Array.replicate (Tryz.f10.ntmps - [jv j].toArray.size) undef,defers:=[]} [.code (Tryz.f10.body.getD .skip)]) (c::cs),W⟩
section
variable {p:Ph}{B7 B3 B6 Jb jo:Nat}{js:Value}{jv:Nat→Value}{E:World→Prop}
def Bs(p:Ph)(B3 B6:Nat)(env:Env):Prop:=Fw.look env 1=some (.pointer (some ⟨B3,0,none⟩))∧Fw.look env 2=some (.pointer (some ⟨B6,0,none⟩))∧Fw.look env 3=some (.pointer (some ⟨p.Wg,0,none⟩))∧Fw.look env 5=some (.chan (some p.c))
theorem Bs.put{B3 B6:Nat}{env:Env}(h:Bs p B3 B6 env){d:Nat}{v:Value}(hd:(d==1||d==2||d==3||d==5)=false):Bs p B3 B6 (put env d v):=by
 simp at hd
 obtain⟨⟨⟨d1,d2⟩,d3⟩,d5⟩:=hd
 obtain⟨h1,h2,h3,h5⟩:=h
 exact⟨by simp[Fw.put,Fw.look,d1,h1],by simp[Fw.put,Fw.look,d2,h2],by simp[Fw.put,Fw.look,d3,h3],by simp[Fw.put,Fw.look,d5,h5]⟩
structure In3(p:Ph)(B7 B3 B6:Nat)(js:Value)(jv:Nat→Value)(E:World→Prop)(j Jb jo:Nat)(env:Env)(S:Nat→Prop)(W:World)(b0 b1 b2 b3 b4 b5 b6 b7:Bool):Prop where
 bs:Bs p B3 B6 env
 s4:Fw.look env 4=some (.int .i64 j)
 i0:b0=true→Fw.look env 9=some (.slice (some ⟨p.ob,0,none⟩) p.n p.n)
 i1:b1=true→Fw.look env 10=some (.int .i64 j)
 i2:b2=true→Fw.look env 11=some js
 i3:b3=true→Fw.look env 12=some (.int .i64 j)
 i4:b4=true→Fw.look env 13=some (.pointer (some ⟨Jb,jo+j,none⟩))
 i5:b5=true→Fw.look env 14=some (jv j)
 i6:b6=true→∃ v0 v1,Fw.look env 15=some (.agg #[v0,v1])∧v0.oneCell'=true∧v1.oneCell'=true∧∀ W3,Rly p.ro S W W3→∃ h:PH,h.sub W3∧(∀ b,h b≠none→S b∨p.ro b)∧p.Rs j v0 v1 h
 i6':b6=false→S=fun _=>False
 i7:b7=true→Fw.look env 16=some (.pointer (some ⟨p.ob,2*j,none⟩))
 w:WkIn p B7 B3 B6 js jv E W
theorem In3.puts{j Jb jo:Nat}{env:Env}{S:Nat→Prop}{W:World}{b0 b1 b2 b3 b4 b5 b6 b7:Bool}(h:In3 p B7 B3 B6 js jv E j Jb jo env S W b0 b1 b2 b3 b4 b5 b6 b7)(d:Nat)(v:Value)(hd:(d==1||d==2||d==3||d==5||d==4)=false) :
  Bs p B3 B6 (Fw.put env d v)∧Fw.look (Fw.put env d v) 4=some (.int .i64 j)∧∀ t,t≠d→Fw.look (Fw.put env d v) t=Fw.look env t:=by
 rw[Bool.or_eq_false_iff] at hd
 have h4:d≠4:=by simpa using hd.2
 refine⟨h.bs.put hd.1,by simp[Fw.put,Fw.look,h4,h.s4],fun t ht=>by simp[Fw.put,Fw.look,Ne.symm ht]⟩
theorem z17(env:Env)(d:Nat)(v:Value):Fw.look (Fw.put env d v) d=some v:=by simp[Fw.put,Fw.look]
def cn(b:Bool):Nat:=if b then 0 else 1
theorem reg3{k:List Item}{cs:List Frame}{q j:Nat}{ex:Bool}(hj:j<p.n)(hjs:∃ cap,js=.slice (some ⟨Jb,jo,none⟩) p.n cap)(hJb:p.ro Jb)(hdo:DoOk p (WkIn p B7 B3 B6 js jv E) jv)(hje:∀ W,WkIn p B7 B3 B6 js jv E W→W.cell? ⟨Jb,jo+j,none⟩=some (jv j)) 
  (kk:∀ env W,Bs p B3 B6 env→WkIn p B7 B3 B6 js jv E W→CE (coW Tryz.prog p q none ex) (fun _=>False) W (baseD 9) 18 env k cs):∀ (fuel t:Nat) (b0 b1 b2 b3 b4 b5 b6 b7:Bool) (env:Env) (S:Nat→Prop) (W:World),
   fuel=cn b0+cn b1+cn b2+cn b3+cn b4+cn b5+cn b6+cn b7+1→In3 p B7 B3 B6 js jv E j Jb jo env S W b0 b1 b2 b3 b4 b5 b6 b7→CE (coW Tryz.prog p q (some j) ex) S W (baseD 9) 18 env (.inRegion R3 (Region.linearise.go .any R3 fuel t #[b0,b1,b2,b3,b4,b5,b6,b7,false] [])::k) cs:=by
 intro fuel
 induction fuel with
 |zero=>intro t b0 b1 b2 b3 b4 b5 b6 b7 env S W h;omega
 |succ fuel ih=>
  intro t b0 b1 b2 b3 b4 b5 b6 b7 env S W hf I
  have hk:(baseD 9).kind≠.early:=by simp[baseD]
  obtain⟨cap,hjs⟩:=hjs
  rcases lin_step .any R3 fuel t #[b0,b1,b2,b3,b4,b5,b6,b7,false] with⟨h,_⟩|⟨i,hi,t',e⟩
  ·exact absurd h (R3_ready b0 b1 b2 b3 b4 b5 b6 b7).1
  ·rw[e]
   have hc:=(R3_ready b0 b1 b2 b3 b4 b5 b6 b7).2 i hi
   simp only[c3,Bool.or_eq_true,Bool.and_eq_true,beq_iff_eq,Bool.not_eq_true'] at hc
   rcases hc with(((((((⟨rfl,rfl⟩|⟨rfl,rfl⟩)|⟨rfl,rfl⟩)|⟨rfl,rfl⟩)|⟨⟨⟨rfl,rfl⟩,rfl⟩,rfl⟩)|⟨⟨rfl,rfl⟩,rfl⟩)|⟨⟨rfl,rfl⟩,rfl⟩)|⟨⟨⟨⟨rfl,rfl⟩,rfl⟩,rfl⟩,rfl⟩)|⟨⟨⟨⟨⟨⟨⟨⟨rfl,rfl⟩,rfl⟩,rfl⟩,rfl⟩,rfl⟩,rfl⟩,rfl⟩,rfl⟩
   ·obtain⟨a1,a2,a3⟩:=I.puts 9 (.slice (some ⟨p.ob,0,none⟩) p.n p.n) rfl
    refine CE.ld tl23 (.inr I.w.r6) hk rfl rfl rfl I.bs.2.1 I.w.c6 (ih t' true b1 b2 b3 b4 b5 b6 b7 _ _ _ (by simp[cn] at hf ⊢;omega) ⟨a1,a2,fun _=>z17 _ _ _,fun h=>(a3 _ (by decide)).trans (I.i1 h),fun h=>(a3 _ (by decide)).trans (I.i2 h),fun h=>(a3 _ (by decide)).trans (I.i3 h),fun h=>(a3 _ (by decide)).trans (I.i4 h),fun h=>(a3 _ (by decide)).trans (I.i5 h),fun h=>?_,I.i6',fun h=>(a3 _ (by decide)).trans (I.i7 h),I.w⟩)
    rw[a3 _ (by decide)];exact I.i6 h
   ·obtain⟨a1,a2,a3⟩:=I.puts 10 (.int .i64 j) rfl
    refine CE.mv hk rfl rfl rfl I.s4 (ih t' b0 true b2 b3 b4 b5 b6 b7 _ _ _ (by simp[cn] at hf ⊢;omega) ⟨a1,a2,fun h=>(a3 _ (by decide)).trans (I.i0 h),fun _=>z17 _ _ _,fun h=>(a3 _ (by decide)).trans (I.i2 h),fun h=>(a3 _ (by decide)).trans (I.i3 h),fun h=>(a3 _ (by decide)).trans (I.i4 h),fun h=>(a3 _ (by decide)).trans (I.i5 h),fun h=>?_,I.i6',fun h=>(a3 _ (by decide)).trans (I.i7 h),I.w⟩)
    rw[a3 _ (by decide)];exact I.i6 h
   ·obtain⟨a1,a2,a3⟩:=I.puts 11 js rfl
    refine CE.ld tl22 (.inr I.w.r3) hk rfl rfl rfl I.bs.1 I.w.c3 (ih t' b0 b1 true b3 b4 b5 b6 b7 _ _ _ (by simp[cn] at hf ⊢;omega) ⟨a1,a2,fun h=>(a3 _ (by decide)).trans (I.i0 h),fun h=>(a3 _ (by decide)).trans (I.i1 h),fun _=>z17 _ _ _,fun h=>(a3 _ (by decide)).trans (I.i3 h),fun h=>(a3 _ (by decide)).trans (I.i4 h),fun h=>(a3 _ (by decide)).trans (I.i5 h),fun h=>?_,I.i6',fun h=>(a3 _ (by decide)).trans (I.i7 h),I.w⟩)
    rw[a3 _ (by decide)];exact I.i6 h
   ·obtain⟨a1,a2,a3⟩:=I.puts 12 (.int .i64 j) rfl
    refine CE.mv hk rfl rfl rfl I.s4 (ih t' b0 b1 b2 true b4 b5 b6 b7 _ _ _ (by simp[cn] at hf ⊢;omega) ⟨a1,a2,fun h=>(a3 _ (by decide)).trans (I.i0 h),fun h=>(a3 _ (by decide)).trans (I.i1 h),fun h=>(a3 _ (by decide)).trans (I.i2 h),fun _=>z17 _ _ _,fun h=>(a3 _ (by decide)).trans (I.i4 h),fun h=>(a3 _ (by decide)).trans (I.i5 h),fun h=>?_,I.i6',fun h=>(a3 _ (by decide)).trans (I.i7 h),I.w⟩)
    rw[a3 _ (by decide)];exact I.i6 h
   ·obtain⟨a1,a2,a3⟩:=I.puts 13 (.pointer (some ⟨Jb,jo+j*1,none⟩)) rfl
    refine CE.idx (T:=22) (o:=jo) (m:=j) (sz:=1) Tryz.underlying22 tl31 hk rfl rfl rfl ((I.i2 rfl).trans (congrArg some hjs)) (I.i3 rfl) hj (ih t' b0 b1 true true true b5 b6 b7 _ _ _ (by simp[cn] at hf ⊢;omega) ⟨a1,a2,fun h=>(a3 _ (by decide)).trans (I.i0 h),fun h=>(a3 _ (by decide)).trans (I.i1 h),fun h=>(a3 _ (by decide)).trans (I.i2 h),fun h=>(a3 _ (by decide)).trans (I.i3 h),fun _=>(z17 _ _ _).trans (by rw[Nat.mul_one]),fun h=>(a3 _ (by decide)).trans (I.i5 h),fun h=>?_,I.i6',fun h=>(a3 _ (by decide)).trans (I.i7 h),I.w⟩)
    rw[a3 _ (by decide)];exact I.i6 h
   ·obtain⟨a1,a2,a3⟩:=I.puts 14 (jv j) rfl
    refine CE.ld tl31 (.inr hJb) hk rfl rfl rfl (I.i4 rfl) (hje _ I.w) (ih t' b0 b1 b2 b3 true true b6 b7 _ _ _ (by simp[cn] at hf ⊢;omega) ⟨a1,a2,fun h=>(a3 _ (by decide)).trans (I.i0 h),fun h=>(a3 _ (by decide)).trans (I.i1 h),fun h=>(a3 _ (by decide)).trans (I.i2 h),fun h=>(a3 _ (by decide)).trans (I.i3 h),fun h=>(a3 _ (by decide)).trans (I.i4 h),fun _=>z17 _ _ _,fun h=>?_,I.i6',fun h=>(a3 _ (by decide)).trans (I.i7 h),I.w⟩)
    rw[a3 _ (by decide)];exact I.i6 h
   ·have hS:=I.i6' rfl
    subst hS
    refine CE.enter Tryz.func10 rfl rfl hk rfl rfl (vs:=[jv j]) (by simp[opv,I.i5 rfl]) fun a h1 h2 h3=>?_
    refine hdo q j ex W _ _ hj I.w fun S' W2 v0 v1 hr o0 o1 hR=>?_
    obtain⟨a1,a2,a3⟩:=I.puts 15 (.agg #[v0,v1]) rfl
    exact CE.back (X:=coW Tryz.prog p q (some j) ex) (nt:=18) (env:=env) rfl rfl rfl h1 h2 h3 (ih t' b0 b1 b2 b3 b4 true true b7 _ _ _ (by simp[cn] at hf ⊢;omega) ⟨a1,a2,fun h=>(a3 _ (by decide)).trans (I.i0 h),fun h=>(a3 _ (by decide)).trans (I.i1 h),fun h=>(a3 _ (by decide)).trans (I.i2 h),fun h=>(a3 _ (by decide)).trans (I.i3 h),fun h=>(a3 _ (by decide)).trans (I.i4 h),fun h=>(a3 _ (by decide)).trans (I.i5 h),fun _=>⟨v0,v1,z17 _ _ _,o0,o1,hR⟩,fun h=>(by cases h),fun h=>(a3 _ (by decide)).trans (I.i7 h),I.w.rely hr⟩)
   ·obtain⟨a1,a2,a3⟩:=I.puts 16 (.pointer (some ⟨p.ob,0+j*2,none⟩)) rfl
    refine CE.idx (T:=23) (o:=0) (m:=j) (sz:=2) Tryz.underlying23 tl35 hk rfl rfl rfl (I.i0 rfl) (I.i1 rfl) hj (ih t' true true b2 b3 b4 b5 true true _ _ _ (by simp[cn] at hf ⊢;omega) ⟨a1,a2,fun h=>(a3 _ (by decide)).trans (I.i0 h),fun h=>(a3 _ (by decide)).trans (I.i1 h),fun h=>(a3 _ (by decide)).trans (I.i2 h),fun h=>(a3 _ (by decide)).trans (I.i3 h),fun h=>(a3 _ (by decide)).trans (I.i4 h),fun h=>(a3 _ (by decide)).trans (I.i5 h),fun h=>?_,I.i6',fun _=>(z17 _ _ _).trans (by rw[Nat.zero_add,Nat.mul_comm]),I.w⟩)
    rw[a3 _ (by decide)];exact I.i6 h
   ·obtain⟨v0,v1,hv,o0,o1,hR⟩:=I.i6 rfl
    refine CE.out tl35 hk (by kernel_rfl) rfl rfl hj (I.i7 rfl) hv o0 o1 hR ?_
    show CE _ _ _ _ _ _ (.inRegion R3 (Region.linearise.go .any R3 fuel t' #[true,true,true,true,true,true,true,true,true] [])::k) cs
    rw[R3_end]
    exact CE.regE (kk env W I.bs I.w)
end
open Go.Conc Go.ConcN Go.RowKit Go.Fw Go.Proofs Go.Conc.Lib Go.ConcR.Gen
noncomputable def body9:Code:=Tryz.f9.body.getD .skip
noncomputable def L9:Code:=match body9 with|.seq (.seq _ (.block _ (.loop c))) _=>c|_=>.skip
noncomputable def r4:Code:=match body9 with|.seq _ c=>c|_=>.skip
noncomputable def bot:Frame:={ (default:Frame) with fn:=Tryz.prog.funcs.size,defers:=[],mode:=.panicking [goexitEntry]}
theorem quitsTail(T:Array Value):QuitsD Tryz.prog 2 0 (G { (baseD 9).at ⟨T,[]⟩ [] with mode:=.returning} [bot]):=by
 refine QuitsD.ctl (g':=G bot []) rfl (fun w=>?_) ?_
 ·simp[G,stepG,unwind,doReturn,results,Frame.at,baseD,bot,Tryz.func9,Tryz.f9,seen,GStep.after,goexitEntry]
 refine QuitsD.ctl (g':={G bot [] with status:=.finished}) rfl (fun w=>?_) ⟨rfl,rfl⟩
 simp[G,stepG,unwind,bot,goexitEntry,Frame.catches]
 rfl
def kid(B7 B3 B6 Wg:Nat):Deferred:={target:=.fn (.func 9) #[.pointer (some ⟨B7,0,none⟩),.pointer (some ⟨B3,0,none⟩),.pointer (some ⟨B6,0,none⟩),.pointer (some ⟨Wg,0,none⟩)],args:=#[]}
theorem born_step(B7 B3 B6 Wg:Nat)(w:World):stepG Tryz.prog false (born Tryz.prog (kid B7 B3 B6 Wg)) w =
  .go (G ((baseD 9).at ⟨#[.pointer (some ⟨B7,0,none⟩),.pointer (some ⟨B3,0,none⟩),.pointer (some ⟨B6,0,none⟩),.pointer (some ⟨Wg,0,none⟩)]++Array.replicate 14 undef,[]⟩ [.code body9]) [bot]) w #[]:=by
 simp[born,kid,stepG,unwind,callDeferred,invoke,callFunc,Tryz.func9,Tryz.f9,seen,GStep.after,G,Frame.enter,Frame.at,baseD,bot,body9]
section
variable {p:Ph}{B7 B3 B6:Nat}{js:Value}{jv:Nat→Value}{E:World→Prop}
theorem tail9{W0 W:World}{q:Nat}{env:Env}(hty:p.ty=52)(hl:WgLive p.ty p.Wg W0)(hb:Bs p B3 B6 env):CE (coW Tryz.prog p q none true) (fun _=>False) W (baseD 9) 18 env [.code r4] [bot]:=by
 simp only[r4,body9,Tryz.f9,Option.getD_some]
 refine CE.reg (CE.enter Tryz.func11 rfl rfl (by simp[baseD]) rfl rfl (vs:=[.pointer (some ⟨p.Wg,0,none⟩)]) (by simp[opv,hb.2.2.1]) fun a h1 h2 h3=>?_)
 refine done_wx (L:=lnk) wgl hty (qt:=4) hl ?_
 rw[Frame.finish_at]
 refine QuitsD.ctl rfl (fun w=>stepG_region_end) ?_
 refine QuitsD.ctl rfl (fun w=>stepG_end) ?_
 obtain⟨T,D⟩:=a
 simp only at h1
 subst h1
 exact quitsTail _
theorem iter9{W0 W:World}{q:Nat}{ex:Bool}{env:Env}(hty:p.ty=52)(hl:WgLive p.ty p.Wg W0)(hdo:DoOk p (WkIn p B7 B3 B6 js jv E) jv)(hb:Bs p B3 B6 env)(hw:WkIn p B7 B3 B6 js jv E W)
  (kk:∀ q',q=q'+1→∀ (env:Env) (W:World),Bs p B3 B6 env→WkIn p B7 B3 B6 js jv E W→CE (coW Tryz.prog p q' none ex) (fun _=>False) W (baseD 9) 18 env [.code L9,.inLoop L9,.inBlock 0,.code r4] [bot]) :
  CE (coW Tryz.prog p q none ex) (fun _=>False) W (baseD 9) 18 env [.code L9,.inLoop L9,.inBlock 0,.code r4] [bot]:=by
 have hk:(baseD 9).kind≠.early:=by simp[baseD]
 refine CE.seq (CE.reg (CE.recv Tryz.underlying42 rfl rfl hk rfl rfl rfl hb.2.2.2 (fun q' j hq hj=>?_) ?_))
 ·have hb1:Bs p B3 B6 (Fw.put env 6 (.tuple #[.int .i64 j,.bool true])):=hb.put rfl
  have hb2:Bs p B3 B6 (Fw.put (Fw.put env 6 (.tuple #[.int .i64 j,.bool true])) 7 (.bool true)):=hb1.put rfl
  refine CE.ext hk rfl rfl rfl rfl rfl (CE.regE (CE.seq (CE.cond (t:=true) rfl (CE.skip (CE.block (CE.seq (CE.reg (CE.ext hk rfl rfl rfl rfl rfl (CE.asg hk rfl rfl rfl rfl (CE.regE ?_))))))))))
  have hb3:Bs p B3 B6 (Fw.put (Fw.put (Fw.put (Fw.put env 6 (.tuple #[.int .i64 j,.bool true])) 7 (.bool true)) 8 (.int .i64 j)) 4 (.int .i64 j)):=(hb2.put rfl).put rfl
  obtain⟨Jb,jo,cap,e1,e2,e3⟩:=hw.cj j hj
  refine CE.regD R3_departs fun t=>?_
  refine reg3 (Jb:=Jb) (jo:=jo) hj ⟨cap,e1⟩ e2 hdo (fun W hW=>?_) (fun env W b w=>CE.inBlock (CE.inLoop (kk q' hq env W b w))) 9 t false false false false false false false false _ _ _ rfl
   ⟨hb3,z17 _ _ _,fun h=>(by cases h),fun h=>(by cases h),fun h=>(by cases h),fun h=>(by cases h),fun h=>(by cases h),fun h=>(by cases h),fun h=>(by cases h),fun _=>rfl,fun h=>(by cases h),hw⟩
  obtain⟨Jb',jo',cap',e1',_,e3'⟩:=hW.cj j hj
  rw[e1] at e1'
  cases e1'
  exact e3'
 ·refine CE.ext hk rfl rfl rfl rfl rfl (CE.regE (CE.seq (CE.cond (t:=false) rfl (CE.exit rfl (tail9 hty hl ((hb.put rfl).put rfl))))))
theorem loop9{W0:World}(hty:p.ty=52)(hl:WgLive p.ty p.Wg W0)(hdo:DoOk p (WkIn p B7 B3 B6 js jv E) jv):∀ (q:Nat) (ex:Bool) (env:Env) (W:World),Bs p B3 B6 env→WkIn p B7 B3 B6 js jv E W →
  CE (coW Tryz.prog p q none ex) (fun _=>False) W (baseD 9) 18 env [.code L9,.inLoop L9,.inBlock 0,.code r4] [bot]:=by
 intro q
 induction q with
 |zero=>exact fun ex env W hb hw=>iter9 hty hl hdo hb hw fun q' h=>by omega
 |succ q ih=>exact fun ex env W hb hw=>iter9 hty hl hdo hb hw fun q' h=>(by
   obtain rfl:q'=q:=by omega
   exact ih ex)
theorem kid_wx{W:World}{q:Nat}(hty:p.ty=52)(hl:WgLive p.ty p.Wg W)(hdo:DoOk p (WkIn p B7 B3 B6 js jv E) jv)(hw:WkIn p B7 B3 B6 js jv E W):WX Tryz.prog p ⟨q,none,fun _=>False,false,born Tryz.prog (kid B7 B3 B6 p.Wg),W⟩:=by
 refine WX.intro ⟨rfl,.inl fun W1 r hl1=>⟨_,W1,#[],_,born_step _ _ _ _ W1,z6r,?_⟩⟩
 have hA:CE (coW Tryz.prog p q none false) (fun _=>False) W1 (baseD 9) 18 [(0,.pointer (some ⟨B7,0,none⟩)),(1,.pointer (some ⟨B3,0,none⟩)),(2,.pointer (some ⟨B6,0,none⟩)),(3,.pointer (some ⟨p.Wg,0,none⟩))] [.code body9] [bot]:=by
  have hk:(baseD 9).kind≠.early:=by simp[baseD]
  have hw1:=hw.rely r.w
  refine CE.seq (CE.seq (CE.reg (CE.ld tl42 (.inr hw1.r7) hk rfl rfl rfl rfl hw1.c7 (CE.regE (CE.block (CE.loop ?_))))))
  exact loop9 hty hl hdo q false _ W1 ⟨rfl,rfl,rfl,rfl⟩ hw1
 exact hA _ rfl rfl (zar (vs:=[.pointer (some ⟨B7,0,none⟩),.pointer (some ⟨B3,0,none⟩),.pointer (some ⟨B6,0,none⟩),.pointer (some ⟨p.Wg,0,none⟩)]) (n:=14))
end
end Go.Mn
