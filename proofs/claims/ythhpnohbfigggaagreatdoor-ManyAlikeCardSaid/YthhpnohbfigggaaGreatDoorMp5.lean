/- many.do in company. -/
import Derived.Test.YthhpnohbfigggaaGreatDoorMp2
import Derived.Test.YthhpnohbfigggaaGreatDoorMp4
import Derived.Test.YthhpnohbfigggaaGreatDoorMpD
import Derived.Test.YthhpnohbfigggaaGreatDoorMqA
set_option linter.all false
set_option maxRecDepth 100000
set_option maxHeartbeats 1000000
namespace Go.Mn
open Go.Conc (G base)
open Go.Fw Go.RowKit Go.Proofs Go.Wk Go.Mo
open Classical in
noncomputable def z4s(Q:Nat→Prop)(w:World):Hp:=fun b=>if Q b then w.heap[b]? else none
theorem z86(Q:Nat→Prop)(w:World):(z4s Q w).sub w:=fun b o h=>by
 unfold z4s at h
 split at h
 ·exact h
 ·cases h
theorem zan{Q:Nat→Prop}{w w':World}(h:∀ b,Q b→w.heap[b]?=w'.heap[b]?):z4s Q w=z4s Q w':=by
 funext b
 unfold z4s
 split
 ·exact h b ‹_›
 ·rfl
theorem zbg{Q:Nat→Prop}{w:World}{b:Nat}(h:z4s Q w b≠none):Q b:=by
 unfold z4s at h
 split at h
 ·assumption
 ·exact absurd rfl h
theorem z6o{Q:Nat→Prop}{w:World}{b:Nat}(h:Q b):z4s Q w b=w.heap[b]? := if_pos h
def Rm(h:Hp)(v:Value):Prop:=∀ b o s l k,v=.slice (some ⟨b,o,s⟩) l k→0<k→∃ c e fz,h b=some (.cells c e fz)
theorem own_vr{F:Nat→Prop}{P:Program}{σ:Bij}{w W:World}(hw:WR F P σ w W){e:TypeId}{sz n:Nat}{f:Hp}(hf:f.sub w){v v':Value}{xs:List Value}(h:ze0 e sz f v n xs)(hv:VR F σ v v')(hx:∀ u∈xs,∃ k m,u=.int k m)
  {S:Nat→Prop}(hS:∀ b b',f b≠none→σ b b'→S b'):v'.oneCell'=true∧slAt (z4s S W) v' n xs∧Rm (z4s S W) v':=by
 obtain⟨h0,⟨rfl,rfl⟩|⟨b,cap,C,rfl,hfb,h1,h2,h3,h4⟩⟩:=h
 ·cases hv with
  |nilsl _ _=>exact⟨rfl,⟨none,0,rfl,Nat.le_refl _,by simp[maxLen],.inl ⟨rfl,List.eq_nil_of_length_eq_zero (by simpa using h0)⟩⟩,fun b o s l k e _=>by cases e⟩
 ·cases hv with
  |slE a a'=>exact⟨rfl,⟨_,0,rfl,Nat.le_refl _,by simp[maxLen],.inl ⟨rfl,List.eq_nil_of_length_eq_zero (by simpa using h0)⟩⟩,fun b o s l k e hk=>by cases e;omega⟩
  |@sl b c o s l k hr=>
   obtain⟨o,o',e1,e2,hb⟩:=hw.blk hr
   rw[hf b _ hfb] at e1
   cases e1
   cases hb with
   |@cells _ C' _ _ fz' ha _=>
    have hrc:z4s S W c=some (.cells C' e fz'):=by
     rw[z6o (hS _ _ (by rw[hfb];simp) hr)];exact e2
    refine⟨rfl,⟨_,cap,rfl,h1,h2,.inr ?_⟩,fun b o s l k ee _=>by cases ee;exact⟨_,_,_,hrc⟩⟩
    refine⟨c,0,C',e,fz',rfl,hrc,fun j u hu=>?_⟩
    ·have hj:C[j]?=some u:=by
      rw[← h4,List.getElem?_take] at hu
      split at hu
      ·simpa using hu
      ·cases hu
     rcases ha.get? j with⟨y,_⟩|⟨z,z',y,y',hz⟩
     ·rw[hj] at y;cases y
     ·rw[hj] at y;cases y
      obtain⟨k,m,rfl⟩:=hx u (List.mem_of_getElem? hu)
      cases hz
      simpa using y'
theorem ints_reps{h:Hp}:∀ {xs:List Value} {l:List Int},reps TR.int h xs l→∀ u∈xs,∃ k m,u=.int k m
 |xs,[],r,u,hu=>by have r:xs=[]:=r;subst r;cases hu
 |xs,x::l,⟨c,r,e,h1,h2⟩,u,hu=>by
  subst e
  rcases List.mem_append.1 hu with hu|hu
  ·have h1:c=[.int .i64 x]:=h1
   subst h1;simp at hu;exact⟨_,_,hu⟩
  ·exact ints_reps h2 u hu
theorem zek{h:Hp}:∀ {xs:List Value} {l:List (Int×Int)},reps TrT h xs l→∀ u∈xs,∃ k m,u=.int k m
 |xs,[],r,u,hu=>by have r:xs=[]:=r;subst r;cases hu
 |xs,x::l,⟨c,r,e,h1,h2⟩,u,hu=>by
  subst e
  rcases List.mem_append.1 hu with hu|hu
  ·obtain⟨c1,c2,rfl,h3,h4⟩:=h1
   have h3:c1=[.int .i64 x.1]:=h3
   have h4:c2=[.int .i64 x.2]:=h4
   subst h3 h4;simp at hu;rcases hu with rfl|rfl<;>exact⟨_,_,rfl⟩
  ·exact zek h2 u hu
theorem load_tape{a:Addr}{k:Value→Sem Value}(P:Program)(w:World)(τ:Nat→Question→Nat)(hk:∀ v,∀ u w',(k v).run P w=.ok u w'→w'=w∧(k v).run P {w with tape:=τ} = .ok u {w with tape:=τ})(u:Value)(w':World)(h:(Sem.load .plain a k).run P w=.ok u w') :
  w'=w∧(Sem.load .plain a k).run P {w with tape:=τ} = .ok u {w with tape:=τ} := by
 have hc:({w with tape:=τ}:World).cell? a=w.cell? a:=rfl
 have hf:({w with tape:=τ}:World).farLoad P a false=w.farLoad P a false:=rfl
 simp only[Sem.run,hc] at h ⊢
 cases hcc:w.cell? a with
 |some v=>rw[hcc] at h;exact hk v u w' h
 |none=>
  rw[hcc] at h
  simp only at h ⊢
  rw[show({w with tape:=τ}:World).farLoad P a (Mode.plain==Mode.atomic)=w.farLoad P a (Mode.plain==Mode.atomic) from rfl]
  cases hfl:w.farLoad P a (Mode.plain==Mode.atomic) with
  |error e=>rw[hfl] at h;cases h
  |ok r=>rw[hfl] at h;exact hk r.1 u w' h
def Tp{α:Type}(P:Program)(A:Sem α):Prop:=∀ (w:World) (u:α) (w':World) (τ:Nat→Question→Nat),A.run P w=.ok u w'→w'=w∧A.run P {w with tape:=τ} = .ok u {w with tape:=τ}
theorem Tp.pure{α:Type}{P:Program}(a:α):Tp P (pure a:Sem α):=fun w u w' τ h=>by
 simp only[Sem.run_pure,Result.ok.injEq] at h ⊢
 obtain⟨rfl,rfl⟩:=h
 exact⟨rfl,by simp⟩
theorem Tp.bind{α β:Type}{P:Program}{A:Sem α}{f:α→Sem β}(h:Tp P A)(k:∀ a,Tp P (f a)):Tp P (A >>= f):=fun w u w' τ e=>by
 rw[Sem.run_bind] at e ⊢
 cases hA:A.run P w with
 |halt _ _=>rw[hA] at e;cases e
 |ok a w1=>
  rw[hA] at e
  obtain⟨rfl,h2⟩:=h w a w1 τ hA
  rw[h2]
  exact k a _ u w' τ e
theorem Tp.load{P:Program}(a:Addr):Tp P (Go.load a):=fun w u w' τ h=>load_tape (k:=.pure) P w τ (fun v u w' h=>Tp.pure v w u w' τ h) u w' h
theorem Tp.of{α:Type}{P:Program}{A:Sem α}{a:α}(h:∀ w,A.run P w=.ok a w):Tp P A:=fun w u w' τ e=>by
 rw[h] at e
 cases e
 exact⟨rfl,h _⟩
theorem Tp.cells{P:Program}(a:Addr):∀ (n i:Nat) (acc:Array Value),Tp P (loadCellsFrom a i n acc)
 |0,i,acc=>Tp.pure acc
 |n+1,i,acc=>(Tp.load (a.add i)).bind fun v=>Tp.cells a n (i+1) (acc.push v)
theorem res10(xs:Array Value)(v:Value)(w w':World)(τ:Nat→Question→Nat)(h:(results Tryz.f10 xs).run Tryz.prog w=.ok v w'):w'=w∧(results Tryz.f10 xs).run Tryz.prog {w with tape:=τ} = .ok v {w with tape:=τ} := by
 have hr:results Tryz.f10 xs=(do let a ← asAddr (xs.getD 2 undef);let v ← loadVar 35 a;pure v):=by
  simp[results,Tryz.f10]
 have hs:∀ w:World,(Go.sizeOf 35).run Tryz.prog w=.ok 2 w:=fun w=>Go.Fw.run_sizeOf tl35 w
 have hg:∀ w:World,(isAgg 35).run Tryz.prog w=.ok true w:=fun w=>Go.Fw.run_isAgg tl35 w
 have hl:∀ a:Addr,Tp Tryz.prog (loadVar 35 a):=fun a=>by
  unfold loadVar
  refine(Tp.of hg).bind fun b=>?_
  cases b with
  |true=>exact(Tp.of hs).bind fun n=>(Tp.cells a n 0 #[]).bind fun c=>Tp.pure _
  |false=>exact Tp.load a
 have ht:Tp Tryz.prog (results Tryz.f10 xs):=by
  rw[hr]
  refine Tp.bind ?_ fun a=>(hl a).bind fun v=>Tp.pure v
  generalize xs.getD 2 undef=x
  unfold asAddr
  split
  ·exact Tp.pure _
  ·exact fun w u w' τ h=>by cases h
  ·exact fun w u w' τ h=>by cases h
 exact ht w v w' τ h
theorem hres10(xs:Array Value)(v:Value)(w:World)(τ:Nat→Question→Nat)(h:(results Tryz.f10 xs).run Tryz.prog w=.ok v w):(results Tryz.f10 xs).run Tryz.prog {w with tape:=τ} = .ok v {w with tape:=τ} := (res10 xs v w w τ h).2
theorem hpure10(xs:Array Value)(v:Value)(w w':World)(h:(results Tryz.f10 xs).run Tryz.prog w=.ok v w'):w'=w:=(res10 xs v w w' (fun _ _=>0) h).1
def RsOf(res:Nat→List (Int×Int)×List Int):Nat→Value→Value→PH→Prop:=fun j v0 v1 h=>((TR.sl TrT).vrep h v0 (res j).1∧(TR.sl TR.int).vrep h v1 (res j).2)∧Rm h v0∧Rm h v1
theorem ints_any{h h':Hp}:∀ {xs:List Value} {l:List Int},reps TR.int h xs l→reps TR.int h' xs l
 |xs,[],r=>r
 |xs,x::l,⟨c,r,e,h1,h2⟩=>⟨c,r,e,h1,ints_any h2⟩
theorem pairs_any{h h':Hp}:∀ {xs:List Value} {l:List (Int×Int)},reps TrT h xs l→reps TrT h' xs l
 |xs,[],r=>r
 |xs,x::l,⟨c,r,e,h1,h2⟩=>⟨c,r,e,h1,pairs_any h2⟩
theorem zcn{α:Type}{t:TR α}{h:Hp}{v:Value}{xs:List Value}{l:List α}(h1:slAt h v l.length xs)(h2:reps t h xs l):(TR.sl t).vrep h v l:=⟨[v],rfl,v,xs,rfl,h1,h2⟩
abbrev RDo(Q:Nat→Prop)(r:List (Int×Int)×List Int):World→Ending→World→Prop:=fun w e w'=>Post w (z4s Q w) (fun(o:Value×Value)=>.agg #[o.1,o.2]) (fun(o:Value×Value)=>[Fw.own 37 TrT o.1 r.1,Fw.own 24 TR.int o.2 r.2]) e w'
theorem came_rs{Q RO S0 S:Nat→Prop}{W0 W:World}{res:Nat→List (Int×Int)×List Int}{j:Nat}{v':Value}(hQ:∀ b,Q b→b<W0.heap.size)(h:Came TF Tryz.prog Q RO S0 W0 (RDo Q (res j)) S v' W) :
  ∃ v0 v1,v'=.agg #[v0,v1]∧v0.oneCell'=true∧v1.oneCell'=true∧RsOf res j v0 v1 (z4s S W):=by
 obtain⟨⟨w0,w,σ,v,a1,a2,a3,a4,a5,a6⟩,_⟩:=h
 obtain⟨o,ho,hbel,S',g,_,_,_,hgi,_,hits⟩:=a2
 cases ho
 have hfr:∀ i,i<2→∀ b b',g i b≠none→σ b b'→S b':=fun i hi b b' hb hr=>by
  rcases a6 b b' hr with⟨he,h2⟩|h2
  ·have h3:=(hgi i hi).2.2 b hb
   have h4:=hQ b h2
   rw[a1,z8d] at h3
   omega
  ·exact h2
 cases a4 with
 |@agg _ xs' h1 h2=>
  obtain⟨v0,v1,rfl⟩:∃ v0 v1,xs'=#[v0,v1]:=by
   have hs:xs'.size=2:=h1.symm
   exact⟨xs'[0],xs'[1],by
    apply Array.ext
    ·simpa using hs
    ·intro i h3 h4
     match i,h3,h4 with
     |0,_,_=>rfl
     |1,_,_=>rfl
     |i+2,h3,_=>omega⟩
  obtain⟨x0,o0,r0⟩:=hits 0 _ rfl
  obtain⟨x1,o1,r1⟩:=hits 1 _ rfl
  obtain⟨q0,s0,m0⟩:=own_vr a3 (hgi 0 (by simp)).1 o0 (h2 0 _ _ rfl rfl) (zek r0) (hfr 0 (by simp))
  obtain⟨q1,s1,m1⟩:=own_vr a3 (hgi 1 (by simp)).1 o1 (h2 1 _ _ rfl rfl) (ints_reps r1) (hfr 1 (by simp))
  exact⟨v0,v1,rfl,q0,q1,⟨zcn s0 (pairs_any r0),zcn s1 (ints_any r1)⟩,m0,m1⟩
theorem cell_lt{W:World}{b o:Nat}{v:Value}(h:W.cell? ⟨b,o,none⟩=some v):b<W.heap.size:=by
 unfold World.cell? at h
 cases hb:W.heap[b]? with
 |none=>simp[hb] at h
 |some x=>exact(Array.getElem?_eq_some_iff.1 hb).1
theorem glob8:Tryz.prog.globals.size=8:=by kernel_rfl
theorem do_ok{Q:Nat→Prop}{Wz:World}{n:Nat}{js:Value}{jv:Nat→Value}{xs:Nat→List DeT}{res:Nat→List (Int×Int)×List Int}(hQ:∀ b,Q b→∃ c e fz,Wz.heap[b]?=some (.cells c e fz))(hGQ:∀ g,TX.G g=true→Q g)
  (hT:∀ full,Tab Tryz.prog (Tryz.lays146_ren.g 1) (z4s Q (z2n TF Q full Wz)))(hx:∀ full j,j<n→(TR.sl TrE).vrep (z4s Q (z2n TF Q full Wz)) (jv j) (xs j))(hm:∀ j,j<n→many_do_m (xs j)=some (res j))(hv:∀ j,j<n→VR TF (idOn Q) (jv j) (jv j))
  (B3 OB B6 C B7 Wg:Nat):DoOk (phOf Q (RsOf res) n B3 OB B6 C B7 Wg) (WkIn (phOf Q (RsOf res) n B3 OB B6 C B7 Wg) B7 B3 B6 js jv fun W1=>∀ b,Q b→W1.heap[b]?=Wz.heap[b]?) jv:=by
 intro q j ex W c cs hj hF kk
 have hj:j<n:=hj
 have hE:=hF.ex
 have hQW:∀ b,Q b→∃ c e fz,W.heap[b]?=some (.cells c e fz):=fun b hb=>by rw[hE b hb];exact hQ b hb
 have hQl:∀ b,Q b→b<W.heap.size:=fun b hb=>let ⟨_,_,_,h⟩:=hQW b hb;(Array.getElem?_eq_some_iff.1 h).1
 have hlone:∀ full (w:World),w.heap=(z2n TF Q full W).heap→z4s Q w=z4s Q (z2n TF Q full Wz):=fun full w hw=>zan fun b hb=>by
  obtain⟨c,e,fz,h⟩:=hQ b hb
  rw[hw,z4z hb h,z4z hb ((hE b hb).trans h)]
 have hcon:∀ w:World,(w.heap=(z2n TF Q true W).heap∨w.heap=(z2n TF Q false W).heap)→Calls Tryz.prog 10 [jv j].toArray w (RDo Q (res j) w):=fun w hw=>by
  have h:∃ full,z4s Q w=z4s Q (z2n TF Q full Wz):=hw.elim (fun h=>⟨true,hlone true w h⟩) fun h=>⟨false,hlone false w h⟩
  obtain⟨full,h⟩:=h
  exact many_do_c (z4s Q w) w (z86 Q w) (by rw[h];exact hT full) (jv j) (xs j) (by rw[h];exact hx full j hj) (res j) (hm j hj)
 have tr:=call_tr (F:=TF) (T:=TX) (main:=false) (RO:=(phOf Q (RsOf res) n B3 OB B6 C B7 Wg).ro) (S0:=fun _=>False) (Q:=Q) (W0:=W) (f:=10) (fn:=Tryz.f10) (args:=[jv j].toArray) (R:=RDo Q (res j)) (c:=c) (cs:=cs) pg
  (fun b hb=>⟨.inl (.inl hb),hQW b hb⟩) (fun b hb=>hb.elim) (fun b hb=>by
   rcases hb with h|rfl|rfl|rfl
   ·exact hQl b h
   ·exact cell_lt hF.c3
   ·exact cell_lt hF.c6
   ·exact cell_lt hF.c7) hGQ rfl Tryz.func10 rfl (by rw[glob8];have:=hQl 7 (hGQ 7 rfl);omega) (fun v hv'=>by simp at hv';subst hv';exact hv j hj) hcon
  (fun w e w' ⟨o,h1,h2,_⟩=>⟨⟨_,h1⟩,h2⟩) hres10 hpure10
 refine Tr.wx tr fun S g W2 hst=>?_
 obtain⟨v',rfl,hc⟩:=hst W2 (.refl _ _ _)
 obtain⟨v0,v1,rfl,o0,o1,_⟩:=came_rs hQl hc
 refine kk S W2 v0 v1 ⟨hc.size,fun b hb=>hb.elim,fun b hb=>hc.same b (.inl hb)⟩ o0 o1 fun W3 r3=>?_
 obtain⟨u0,u1,e,_,_,hrs⟩:=came_rs hQl (hc.rely (fun b hb=>.inl (.inl hb)) r3)
 cases e
 exact⟨z4s S W3,z86 S W3,fun b hb=>.inl (zbg hb),hrs⟩
end Go.Mn
namespace Go.Mn
open Go.Fw Go.RowKit
theorem int_fill{F:Nat→Prop}{ρ:Bij}{k:IntKind}{n:Int}:fill F ρ (.int k n)=.int k n:=z88 (.int k n)
theorem tab_lone{F:Nat→Prop}{P:Program}{Q:Nat→Prop}{W:World}{full:Bool}{g:Nat}(h1:Lib.TabIs P W "internal/strconv.uint64pow10" .u64 Lib.pow10Tab)(h2:∃ m,W.cell? ⟨g,0,none⟩=some (.int .i64 m))
  (hq1:∀ q,P.globalNamed "internal/strconv.uint64pow10" = some q→Q q)(hq2:Q g):Tab P g (z4s Q (z2n F Q full W)):=by
 refine⟨fun w hw=>?_,?_⟩
 ·unfold Lib.TabIs World.var? at *
  cases hg:P.globalNamed "internal/strconv.uint64pow10" with
  |none=>simp[hg] at h1
  |some q=>
   simp only[hg,Option.bind_some] at h1 ⊢
   cases hb:W.heap[q]? with
   |none=>simp[hb] at h1
   |some o=>
    rw[hb] at h1
    cases o with
    |cells cs e fz=>
     simp only[Option.some.injEq] at h1
     have hl:=z4z (F:=F) (full:=full) (hq1 q hg) hb
     have:=hw q _ ((z6o (hq1 q hg)).trans hl)
     rw[this]
     simp only[Option.some.injEq]
     rw[h1]
     apply Array.toList_inj.1
     simp[int_fill]
    |_=>simp at h1
 ·obtain⟨m,h2⟩:=h2
  refine⟨m,fun w hw=>?_⟩
  unfold World.cell? at h2 ⊢
  cases hb:W.heap[g]? with
  |none=>simp[hb] at h2
  |some o=>
   cases o with
   |cells cs e fz=>
    have hl:=z4z (F:=F) (full:=full) hq2 hb
    have:=hw g _ ((z6o hq2).trans hl)
    rw[this]
    simp[hb] at h2 ⊢
    rw[h2]
    simp[int_fill]
   |_=>simp[hb] at h2
theorem zcu{α:Type}{F:Nat→Prop}{Q:Nat→Prop}{W:World}{full:Bool}{t:TR α}{h:Hp}(hh:h.sub W)(hflat:∀ (h h':Hp) (cs:List Value) (l:List α),reps t h cs l→reps t h' cs l∧∀ u∈cs,VR F (idOn Q) u u){v:Value}{l:List α}(hv:(TR.sl t).vrep h v l)
  (hQ:∀ b o s n k,v=.slice (some ⟨b,o,s⟩) n k→0<k→Q b):(TR.sl t).vrep (z4s Q (z2n F Q full W)) v l∧VR F (idOn Q) v v:=by
 obtain⟨cs,e0,v1,xs,rfl,⟨a,cap,rfl,h1,h2,h3⟩,h4⟩:=hv
 have e0:v=.slice a l.length cap:=e0
 subst e0
 obtain⟨h5,h6⟩:=hflat h (z4s Q (z2n F Q full W)) xs l h4
 constructor
 ·refine zcn ⟨a,cap,rfl,h1,h2,?_⟩ h5
  rcases h3 with h3|⟨b,off,C,ty,fz,rfl,hb,hc⟩
  ·exact .inl h3
  ·by_cases hl:l.length=0
   ·left
    refine⟨hl,?_⟩
    have:l=[]:=List.eq_nil_of_length_eq_zero hl
    subst this
    exact h5
   ·right
    have hq:=hQ b off none l.length cap rfl (by omega)
    refine⟨b,off,C.map (fill F (idOn Q)),ty,_,rfl,(z6o hq).trans (z4z hq (hh b _ hb)),fun j u hu=>?_⟩
    rw[Array.getElem?_map,hc j u hu]
    simp[z88 (h6 u (List.mem_of_getElem? hu))]
 ·match a with
  |none=>exact .nilsl _ _
  |some ⟨b,o,s⟩=>
   by_cases hc:0<cap
   ·exact .sl o s _ _ ⟨rfl,hQ b o s _ cap rfl hc⟩
   ·obtain rfl:cap=0:=by omega
    have:l.length=0:=by omega
    rw[this]
    exact .slE _ _
def z95{α:Type}(t:TR α):Prop:=∀ (h h':Hp) (cs:List Value) (d:α),t.rep h cs d→t.rep h' cs d∧∀ u∈cs,∀ (F:Nat→Prop) (ρ:Bij),VR F ρ u u
theorem z95.int:z95 TR.int:=fun h h' cs d r=>⟨r,fun u hu F ρ=>by
 have r:cs=[.int .i64 d]:=r
 subst r;simp at hu;subst hu;exact .int _ _⟩
theorem z95.str:z95 TR.str:=fun h h' cs d r=>⟨r,fun u hu F ρ=>by
 have r:cs=[.string ⟨d.toArray⟩]:=r
 subst r;simp at hu;subst hu;exact .string _⟩
theorem z95.pair{α β:Type}{a:TR α}{b:TR β}(ha:z95 a)(hb:z95 b):z95 (TR.pair a b):=fun h h' cs d ⟨c1,c2,e,r1,r2⟩=>by
 subst e
 obtain⟨x1,y1⟩:=ha h h' c1 d.1 r1
 obtain⟨x2,y2⟩:=hb h h' c2 d.2 r2
 exact⟨⟨c1,c2,rfl,x1,x2⟩,fun u hu=>(List.mem_append.1 hu).elim (y1 u) (y2 u)⟩
theorem z95.reps{α:Type}{t:TR α}(ht:z95 t)(h h':Hp):∀ (cs:List Value) (l:List α),Fw.reps t h cs l→Fw.reps t h' cs l∧∀ u∈cs,∀ (F:Nat→Prop) (ρ:Bij),VR F ρ u u
 |cs,[],r=>⟨r,fun u hu=>by have r:cs=[]:=r;subst r;cases hu⟩
 |cs,x::l,⟨c,r,e,r1,r2⟩=>by
  subst e
  obtain⟨x1,y1⟩:=ht h h' c x r1
  obtain⟨x2,y2⟩:=z95.reps ht h h' r l r2
  exact⟨⟨c,r,rfl,x1,x2⟩,fun u hu=>(List.mem_append.1 hu).elim (y1 u) (y2 u)⟩
theorem z95.deed:z95 Go.Wk.TrE:=.pair .int (.pair .int (.pair .str (.pair .str (.pair .str (.pair .int (.pair .int (.pair .int .int)))))))
section
open Go.Conc (G base)
open Go.Proofs Go.Mo
theorem pow_le:∀ q,Tryz.prog.globalNamed "internal/strconv.uint64pow10" = some q→q≤7:=fun q h=>by
 have:(match Tryz.prog.globalNamed "internal/strconv.uint64pow10" with|some q=>Nat.ble q 7|none=>false)=true:=by kernel_rfl
 rw[h] at this
 exact Nat.le_of_ble_eq_true this
theorem max_le:Nat.ble (Tryz.lays146_ren.g 1) 7=true:=by kernel_rfl
theorem run_jobs{Post:Value→World→Prop}{S0 Q:Nat→Prop}{W:World}{hd n:Nat}{js:Value}{jv:Nat→Value}{xs:Nat→List DeT}{res:Nat→List (Int×Int)×List Int}{c:Frame}{cs:List Frame}(hh:1≤hd∧hd≤8)(hi:RunIn S0 W js n Q jv)
  (hQ:∀ b,Q b→∃ c e fz,W.heap[b]?=some (.cells c e fz))(hGQ:∀ g,g≤7→Q g)(h1:Lib.TabIs Tryz.prog W "internal/strconv.uint64pow10" .u64 Lib.pow10Tab)(h2:∃ m,W.cell? ⟨Tryz.lays146_ren.g 1,0,none⟩=some (.int .i64 m))
  (hx:∀ j,j<n→(TR.sl Go.Wk.TrE).vrep (fun b=>W.heap[b]?) (jv j) (xs j))(hQj:∀ j,j<n→∀ b o s n' k,jv j=.slice (some ⟨b,o,s⟩) n' k→0<k→Q b)(hm:∀ j,j<n→many_do_m (xs j)=some (res j))
  (kk:∀ OB S W2,zck S0 W n (RsOf res) OB S W2→MX Tryz.prog Post ⟨.idle,S,G (c.finish (.tuple #[.slice (some ⟨OB,0,none⟩) n n,.int .i64 0])) cs,W2⟩) :
  MX Tryz.prog Post ⟨.idle,S0,G ((base 4).at {tmps:=[Value.int .i64 hd,js].toArray++Array.replicate (Tryz.f4.ntmps - [Value.int .i64 hd,js].toArray.size) undef,defers:=[]} [.code zch]) (c::cs),W⟩:=by
 have hv:∀ full j,j<n→_:=fun full j hj=>zcu (F:=TF) (Q:=Q) (W:=W) (full:=full) (fun b o h=>h) (fun h h' cs l r=>let ⟨a,b⟩:=z95.reps z95.deed h h' cs l r;⟨a,fun u hu=>b u hu TF (idOn Q)⟩) (hx j hj) (hQj j hj)
 exact run_mx hh hi (fun B3 OB B6 C B7 Wg=>do_ok hQ (fun g hg=>hGQ g (Nat.le_of_ble_eq_true hg)) (fun full=>tab_lone h1 h2 (fun q h=>hGQ q (pow_le q h)) (hGQ _ (Nat.le_of_ble_eq_true max_le))) (fun full j hj=>(hv full j hj).1) hm (fun j hj=>(hv true j hj).2) B3 OB B6 C B7 Wg) kk
end
open Go.Conc Go.ConcN Go.RowKit Go.Fw Go.Proofs Go.Mo
noncomputable def X3:Code:=match body3 with|.seq _ (.seq (.seq _ x) _)=>x|_=>.skip
noncomputable def Y3:Code:=match body3 with|.seq _ (.seq _ y)=>y|_=>.skip
structure E3(h1 h2 pk:Int)(js:Value)(env:Env):Prop where
 e0:Fw.look env 0=some (.int .i64 h1)
 e1:Fw.look env 1=some (.int .i64 h2)
 e2:Fw.look env 2=some js
 e3:Fw.look env 3=some (.int .i64 pk)
theorem E3.put{h1 h2 pk:Int}{js:Value}{env:Env}(h:E3 h1 h2 pk js env){d:Nat}{v:Value}(hq:Nat.ble 4 d=true):E3 h1 h2 pk js (Fw.put env d v):=by
 have:=Nat.le_of_ble_eq_true hq
 exact⟨by rw[← h.e0];simp[Fw.put,Fw.look];omega,by rw[← h.e1];simp[Fw.put,Fw.look];omega,by rw[← h.e2];simp[Fw.put,Fw.look];omega,by rw[← h.e3];simp[Fw.put,Fw.look];omega⟩
structure Own3(S:Nat→Prop)(W:World):Prop where
 low:∀ b,S b→b<W.heap.size
 glob:∀ g,g≤7→S g∧∃ c e fz,W.heap[g]?=some (.cells c e fz)
 pow:Lib.TabIs Tryz.prog W "internal/strconv.uint64pow10" .u64 Lib.pow10Tab
 max:∃ m,W.cell? ⟨Tryz.lays146_ren.g 1,0,none⟩=some (.int .i64 m)
theorem Own3.keep{S S':Nat→Prop}{W W':World}(h:Own3 S W)(hs:∀ b,S b→S' b)(hl:∀ b,S' b→b<W'.heap.size)(hk:∀ b,S b→W'.heap[b]?=W.heap[b]?):Own3 S' W':=by
 refine⟨hl,fun g hg=>?_,?_,?_⟩
 ·obtain⟨a,c,e,fz,x⟩:=h.glob g hg
  exact⟨hs g a,c,e,fz,(hk g a).trans x⟩
 ·have hp:=h.pow
  unfold Lib.TabIs World.var? at hp ⊢
  cases hg:Tryz.prog.globalNamed "internal/strconv.uint64pow10" with
  |none=>rw[hg] at hp;simp at hp
  |some q=>
   rw[hg] at hp
   simp only[Option.bind_some] at hp ⊢
   rw[hk q (h.glob q (pow_le q hg)).1]
   exact hp
 ·obtain⟨m,hm⟩:=h.max
  exact⟨m,(z5i (hk _ (h.glob _ (Nat.le_of_ble_eq_true max_le)).1)).trans hm⟩
def job2:List DeT:=[(1,1,[97],[],[],0,0,0,0),(6,0,[97],[],[],0,0,0,0)]
section
variable {Post:Value→World→Prop}{S:Nat→Prop}{W:World}{h1 h2 pk:Int}{js:Value}
theorem reps2(h:Hp):Fw.reps Go.Wk.TrE h (ze2.cells++ze1.cells).toList job2:=by
 have rep:∀ (a b c d e f:Int) (s:List UInt8),Go.Wk.TrE.rep h [.int .i64 a,.int .i64 b,.string ⟨s.toArray⟩,.string ⟨#[]⟩,.string ⟨#[]⟩,.int .i64 c,.int .i64 d,.int .i64 e,.int .i64 f] (a,b,s,[],[],c,d,e,f):=fun a b c d e f s=>
  ⟨[_],_,rfl,rfl,[_],_,rfl,rfl,[_],_,rfl,rfl,[_],_,rfl,rfl,[_],_,rfl,rfl,[_],_,rfl,rfl,[_],_,rfl,rfl,[_],[_],rfl,rfl,rfl⟩
 exact⟨_,_,rfl,rep 1 1 0 0 0 0 [97],_,[],rfl,rep 6 0 0 0 0 0 [97],rfl⟩
theorem alike1(ho:Own3 S W)(hm:many_do_m job2=some ([(0,0),(1,0)],[0,0]))
  (kk:∀ S' W2 OB env,E3 h1 h2 pk js env→Fw.look env 8=some (.bool false)→Fw.look env 9=some (.slice (some ⟨OB,0,none⟩) 1 1)→Fw.look env 10=some (.int .i64 0)→Own3 S' W2→(∀ b,S b→S' b)→(∀ b,S b→W2.heap[b]?=W.heap[b]?)→W.heap.size≤W2.heap.size→S' OB→(∃ cc,W2.heap[OB]?=some (.cells cc 35)∧cc.size=2*1) →
   (∃ v0 v1 h,RsOf (fun _=>([(0,0),(1,0)],[0,0])) 0 v0 v1 h∧h.sub W2∧(∀ b,h b≠none→S' b)∧W2.cell? ⟨OB,0,none⟩=some v0∧W2.cell? ⟨OB,1,none⟩=some v1)→CE (coM Tryz.prog Post .idle) S' W2 (base 3) 157 env [.code X3,.code Y3] []) :
  CE (coM Tryz.prog Post .idle) S W (base 3) 157 [(0,.int .i64 h1),(1,.int .i64 h2),(2,js),(3,.int .i64 pk)] [.code body3] []:=by
 have hk:(base 3).kind≠.early:=by simp[base]
 refine CE.seq (CE.reg (CE.asg hk rfl rfl rfl rfl (CE.regE ?_)))
 refine CE.seq (CE.seq (CE.reg ?_))
 refine CE.build hk rfl rfl rfl (fun a e=>by simp[Act.eval]) runA evA ?_
 refine CE.build hk rfl rfl rfl (fun a e=>by simp[Act.eval]) runB evB ?_
 refine CE.bldS (ps:=#[(0,ze2),(1,ze1)]) (z97 _) hk rfl rfl rfl (fun a e=>by simp[zf e (show opv _ (.tmp 19)=some ze2 from rfl),zf e (show opv _ (.tmp 20)=some ze1 from rfl)]) runS evS fun W2 B g1=>?_
 refine CE.bldS (ps:=#[(0,.slice (some ⟨B,0,none⟩) 2 2)]) (z97 _) hk rfl rfl rfl (fun a e=>by simp[zf e (show opv _ (.tmp 21)=some (.slice (some ⟨B,0,none⟩) 2 2) from rfl)]) (runO B) (evO B) fun W3 C g2=>?_
 refine CE.enter Tryz.func4 rfl rfl hk rfl rfl (vs:=[.int .i64 ((2:Nat):Int),.slice (some ⟨C,0,none⟩) 1 1]) rfl fun a x1 x2 x3=>?_
 have l1:=g1.size
 have l1':=g1.size'
 have l2:=g2.size
 have l2':=g2.size'
 have hB:W3.heap[B]?=some (.cells (ze2.cells++ze1.cells) 30):=(g2.own B (.inr rfl) (by omega)).trans g1.new
 have hSW:∀ b,S b→W3.heap[b]?=W.heap[b]? := fun b hb=>by have:=ho.low b hb;exact(g2.own b (.inl hb) (by omega)).trans (g1.own b hb (by omega))
 have ho3:Own3 (fun b=>(S b∨b=B)∨b=C) W3:=ho.keep (fun b h=>.inl (.inl h)) (fun b hb=>by
  rcases hb with(hb|rfl)|rfl
  ·have:=ho.low b hb;omega
  ·omega
  ·omega) hSW
 refine run_jobs (hd:=2) (n:=1) (Q:=fun b=>b≤7∨b=B∨b=C) (js:=.slice (some ⟨C,0,none⟩) 1 1) (jv:=fun _=>.slice (some ⟨B,0,none⟩) 2 2) (xs:=fun _=>job2) (res:=fun _=>([(0,0),(1,0)],[0,0])) ⟨by omega,by omega⟩
  ⟨by omega,ho3.low,fun b hb=>?_,⟨_,_,rfl⟩,fun i hi=>⟨C,0,1,rfl,.inr (.inr rfl),?_⟩⟩ (fun b hb=>?_) (fun g hg=>.inl hg) ho3.pow ho3.max (fun j hj=>?_) (fun j hj b o s n' k e hk=>?_) (fun j hj=>hm) fun OB S' W4 ro=>?_
 ·rcases hb with hb|rfl|rfl
  ·exact(ho3.glob b hb).1
  ·exact .inl (.inr rfl)
  ·exact .inr rfl
 ·obtain rfl:i=0:=by omega
  exact z61 g2.new
 ·rcases hb with hb|rfl|rfl
  ·exact(ho3.glob b hb).2
  ·exact⟨_,_,_,hB⟩
  ·exact⟨_,_,_,g2.new⟩
 ·refine zcn (xs:=(ze2.cells++ze1.cells).toList) ⟨_,2,rfl,Nat.le_refl _,by simp[maxLen],.inr ⟨B,0,ze2.cells++ze1.cells,30,(0,0),rfl,hB,fun j u hu=>by rw[Nat.zero_add,← Array.getElem?_toList];exact hu⟩⟩ (reps2 _)
 ·cases e;exact .inr (.inl rfl)
 ·refine CE.back (X:=coM Tryz.prog Post .idle) (nt:=157) rfl rfl rfl x1 x2 x3 ?_
  refine CE.mv hk rfl rfl rfl rfl (CE.ext hk rfl rfl rfl rfl rfl (CE.ext hk rfl rfl rfl rfl rfl (CE.asg hk rfl rfl rfl rfl (CE.asg hk rfl rfl rfl rfl (CE.regE ?_)))))
  obtain⟨v0,v1,h,r1,r2,r3,r4,r5⟩:=ro.res 0 (by omega)
  exact kk S' W4 OB _ ⟨rfl,rfl,rfl,rfl⟩ rfl rfl rfl (ho3.keep ro.grow ro.low ro.same) (fun b hb=>ro.grow b (.inl (.inl hb))) (fun b hb=>(ro.same b (.inl (.inl hb))).trans (hSW b hb)) (by have:=ro.size;omega) ro.ob ro.out ⟨v0,v1,h,r1,r2,r3,r4,r5⟩
end
open Go.Fw Go.RowKit Go.Wk
abbrev TrDn:TR (List (Int×Int)×List Int):=TR.pair (TR.sl TrT) (TR.sl TR.int)
theorem zdc{α:Type}{t:TR α}{h:Hp}:∀ (n:Nat) (xs:List Value) (f:Nat→α),xs.length=n*t.size→(∀ i,i<n→t.rep h ((xs.drop (i*t.size)).take t.size) (f i))→reps t h xs ((List.range n).map f)
 |0,xs,f,hl,_=>by
  have:xs=[]:=List.eq_nil_of_length_eq_zero (by simpa using hl)
  subst this;rfl
 |n+1,xs,f,hl,hr=>by
  rw[List.range_succ_eq_map,List.map_cons,List.map_map]
  refine⟨xs.take t.size,xs.drop t.size,(List.take_append_drop _ _).symm,by simpa using hr 0 (by omega),?_⟩
  refine zdc n (xs.drop t.size) (f∘Nat.succ) (by rw[List.length_drop,hl,Nat.succ_mul];omega) fun i hi=>?_
  rw[List.drop_drop]
  have:=hr (i+1) (by omega)
  rw[show t.size+i*t.size=(i+1)*t.size by rw[Nat.succ_mul];omega]
  exact this
theorem sl_rep{α:Type}{t:TR α}{h:Hp}{v:Value}{l:List α}(hv:(TR.sl t).vrep h v l):(TR.sl t).rep h [v] l:=by
 obtain⟨cs,e,v1,xs,rfl,h1,h2⟩:=hv
 have e:v=v1:=e
 subst e
 exact⟨v,xs,rfl,h1,h2⟩
def Qc(S:Nat→Prop)(W:World)(b:Nat):Prop:=S b∧∃ c e fz,W.heap[b]?=some (.cells c e fz)
structure Outs(S:Nat→Prop)(W:World)(OB n:Nat)(res:Nat→List (Int×Int)×List Int):Prop where
 big:n≤maxLen
 ob:S OB
 out:∃ cc,W.heap[OB]?=some (.cells cc 35)∧cc.size=2*n
 res:∀ i,i<n→∃ v0 v1 h,RsOf res i v0 v1 h∧h.sub W∧(∀ b,h b≠none→S b)∧W.cell? ⟨OB,2*i,none⟩=some v0∧W.cell? ⟨OB,2*i+1,none⟩=some v1
theorem Outs.keep{S S':Nat→Prop}{W W':World}{OB n:Nat}{res:Nat→List (Int×Int)×List Int}(o:Outs S W OB n res)(hs:∀ b,S b→S' b)(hk:∀ b,S b→W'.heap[b]?=W.heap[b]?):Outs S' W' OB n res:=by
 refine⟨o.big,hs _ o.ob,?_,fun i hi=>?_⟩
 ·obtain⟨cc,h1,h2⟩:=o.out
  exact⟨cc,(hk _ o.ob).trans h1,h2⟩
 ·obtain⟨v0,v1,h,r1,r2,r3,r4,r5⟩:=o.res i hi
  exact⟨v0,v1,h,r1,fun b x hb=>(hk b (r3 b (by rw[hb];simp))).trans (r2 b x hb),fun b hb=>hs b (r3 b hb),(z5i (hk _ o.ob)).trans r4,(z5i (hk _ o.ob)).trans r5⟩
theorem rm_vr{S:Nat→Prop}{W:World}{h:Hp}{v:Value}(hh:h.sub W)(hS:∀ b,h b≠none→S b)(hm:Rm h v):∀ b o s n k,v=.slice (some ⟨b,o,s⟩) n k→0<k→Qc S W b:=fun b o s n k e hk=>by
 obtain⟨c,ty,fz,hb⟩:=hm b o s n k e hk
 exact⟨hS b (by rw[hb];simp),_,_,_,hh b _ hb⟩
theorem zap{F:Nat→Prop}{S:Nat→Prop}{W:World}{full:Bool}{OB n:Nat}{res:Nat→List (Int×Int)×List Int}(o:Outs S W OB n res) :
  (TR.sl TrDn).vrep (z4s (Qc S W) (z2n F (Qc S W) full W)) (.slice (some ⟨OB,0,none⟩) n n) ((List.range n).map res):=by
 obtain⟨cc,hc,hs⟩:=o.out
 have hq:Qc S W OB:=⟨o.ob,_,_,_,hc⟩
 have hsz:TrDn.size=2:=rfl
 refine zcn (xs:=(cc.map (fill F (idOn (Qc S W)))).toList) (by
  rw[List.length_map,List.length_range]
  exact⟨_,n,rfl,Nat.le_refl _,o.big,.inr ⟨OB,0,_,35,_,rfl,(z6o hq).trans (z4z hq hc),fun j u hu=>by rw[Nat.zero_add,← Array.getElem?_toList];exact hu⟩⟩) ?_
 refine zdc n _ res (by rw[hsz,Array.length_toList,Array.size_map];omega) fun i hi=>?_
 obtain⟨v0,v1,h,⟨⟨r1,r2⟩,m1,m2⟩,hsub,hS,c0,c1⟩:=o.res i hi
 obtain⟨a1,a2⟩:=zcu (F:=F) (Q:=Qc S W) (full:=full) hsub (fun h h' cs l r=>let ⟨a,b⟩:=z95.reps (.pair .int .int) h h' cs l r;⟨a,fun u hu=>b u hu F _⟩) r1 (rm_vr hsub hS m1)
 obtain⟨b1,b2⟩:=zcu (F:=F) (Q:=Qc S W) (full:=full) hsub (fun h h' cs l r=>let ⟨a,b⟩:=z95.reps .int h h' cs l r;⟨a,fun u hu=>b u hu F _⟩) r2 (rm_vr hsub hS m2)
 have g0:cc[2*i]?=some v0:=by simpa[World.cell?,hc] using c0
 have g1:cc[2*i+1]?=some v1:=by simpa[World.cell?,hc] using c1
 have e:((cc.map (fill F (idOn (Qc S W)))).toList.drop (i*TrDn.size)).take TrDn.size=[v0]++[v1]:=by
  rw[hsz]
  apply List.ext_getElem?
  intro j
  match j with
  |0=>simp[Nat.mul_comm i 2,g0,z88 a2]
  |1=>simp[Nat.mul_comm i 2,g1,z88 b2]
  |j+2=>simp;omega
 rw[e]
 exact⟨[v0],[v1],rfl,sl_rep a1,sl_rep b1⟩
open Go.Conc Go.ConcN Go.RowKit Go.Fw Go.Proofs Go.Mo
section
variable {Post:Value→World→Prop}{S:Nat→Prop}{W:World}{hd:Int}{js:Value}{c:Frame}{cs:List Frame}
theorem run_err(hh:¬ (1≤hd∧hd≤8))(hl:∀ b,S b→b<W.heap.size)(hj:js.oneCell'=true)
  (kk:∀ S' W2,(∀ b,S b→S' b)→(∀ b,S' b→b<W2.heap.size)→(∀ b,S b→W2.heap[b]?=W.heap[b]?)→W.heap.size≤W2.heap.size→MX Tryz.prog Post ⟨.idle,S',G (c.finish (.tuple #[.slice none 0 0,.int .i64 1])) cs,W2⟩) :
  MX Tryz.prog Post ⟨.idle,S,G ((base 4).at {tmps:=[Value.int .i64 hd,js].toArray++Array.replicate (Tryz.f4.ntmps - [Value.int .i64 hd,js].toArray.size) undef,defers:=[]} [.code zch]) (c::cs),W⟩:=by
 have hA:CE (coM Tryz.prog Post .idle) S W (base 4) 39 [(0,.int .i64 hd),(1,js)] [.code zch] (c::cs):=by
  have hk:(base 4).kind≠.early:=by simp[base]
  refine CE.seq (CE.reg (CE.box (z97 _) hk rfl rfl rfl rfl fun W2 B3 g1=>?_))
  have fin:∀ env,CE (coM Tryz.prog Post .idle) (fun b=>S b∨b=B3) W2 (base 4) 39 env [.code (match zch with|.seq _ (.seq (.seq _ (.cond _ x _)) _)=>x|_=>.skip),.code (match zch with|.seq _ (.seq _ y)=>y|_=>.skip)] (c::cs):=fun env=>by
   refine CE.seq (CE.reg (CE.asg hk rfl rfl rfl rfl (CE.asg hk rfl rfl rfl rfl (CE.regE ?_))))
   refine CE.ret (v:=.tuple #[.slice none 0 0,.int .i64 1]) rfl Tryz.func4 (results2 rfl rfl rfl) (kk _ W2 (fun b=>.inl) (fun b hb=>?_) (fun b hb=>g1.own b hb (by have:=hl b hb;have:=g1.size;omega)) (by have:=g1.size;have:=g1.size';omega))
   have:=g1.size
   have:=g1.size'
   rcases hb with hb|rfl
   ·have:=hl b hb;omega
   ·omega
  refine CE.asg hk rfl rfl rfl rfl (CE.asg hk rfl rfl rfl rfl (CE.regE (CE.seq (CE.seq (CE.reg ?_)))))
  by_cases h1:hd<1
  ·refine CE.mv hk rfl rfl rfl rfl (CE.binI (v:=.bool true) hk rfl rfl rfl rfl rfl (by simp[Fw.binI];omega) (CE.mv hk rfl rfl rfl rfl ?_))
   refine CE.skipO rfl rfl rfl (CE.skipO rfl rfl rfl ?_)
   exact CE.pick (t:=true) hk rfl rfl rfl rfl rfl (CE.regE (CE.cond (t:=true) rfl (fin _)))
  ·refine CE.mv hk rfl rfl rfl rfl (CE.binI (v:=.bool false) hk rfl rfl rfl rfl rfl (by simp[Fw.binI];omega) ?_)
   refine CE.mv hk rfl rfl rfl rfl (CE.mv hk rfl rfl rfl rfl (CE.binI (v:=.bool true) hk rfl rfl rfl rfl rfl (by simp[Fw.binI];omega) ?_))
   exact CE.pick (t:=false) hk rfl rfl rfl rfl rfl (CE.regE (CE.cond (t:=true) rfl (fin _)))
 have e:Tryz.f4.ntmps - [Value.int .i64 hd,js].toArray.size=37:=rfl
 rw[e]
 exact hA ⟨[Value.int .i64 hd,js].toArray++Array.replicate 37 undef,[]⟩ rfl (by simp) (zar (vs:=[Value.int .i64 hd,js]) (n:=37))
end
section
variable {P:Program}{X:Co P}{S:Nat→Prop}{W:World}{b:Frame}{nt:Nat}{env env':Env}{k:List Item}{cs:List Frame}
variable {ops:Array Oper}{i:Nat}{rest:List Nat}{d:Nat}{op:Op}{ty:TypeId}{pos:String}{af:Array Edge}{g:Option (Nat×Bool)}{v:Value}
theorem CE.slc1{x y z:Operand}{T E:TypeId}{kd kd':IntKind}{B o n c m:Nat}{ag:Bool}(hT:P.underlying T=some (.slice E))(hE:Ln P E 1 ag)(hk:b.kind≠.early)(ho:ops[i]?=some ⟨some d,.slice T x (some y) (some z) none,ty,pos,af,g⟩)(hg:wanted ops env g=some true)(hd:Nat.blt d nt=true)
  (hx:opv env x=some (.slice (some ⟨B,o,none⟩) n c))(hy:opv env y=some (.int kd m))(hz:opv env z=some (.int kd' ((m+1:Nat):Int)))(hm:m<c)
  (k1:CE X S W b nt (put env d (.slice (some ⟨B,o+m,none⟩) 1 (c-m))) (.inRegion ops rest::k) cs):CE X S W b nt env (.inRegion ops (i::rest)::k) cs:=
 CE.val hk ho hg hd (fun a e W1 r=>by
  have q1:(0:Int)≤(m:Int):=by omega
  have q5:¬ c=m:=by omega
  obtain⟨H,hH,hH2⟩:∃ H:Int,H=((m+1:Nat):Int)∧H.toNat=m+1:=⟨_,rfl,Int.toNat_natCast _⟩
  rw[← hH] at hz
  have q3:H≤(c:Int):=by omega
  have q4:(0:Int)≤H:=by omega
  have q2:(m:Int)≤((m+1:Nat):Int):=by omega
  have r1:∀ cd,(Instr.sliceBound (.int kd' H) c cd).run P W1=.ok (m+1) W1:=fun cd=>by rw[run_sliceBound _ _ _ _ _ q4 q3,hH2]
  have r2:∀ cd,(Instr.sliceBound (.int kd (m:Int)) (m+1) cd).run P W1=.ok m W1:=fun cd=>by rw[run_sliceBound _ _ _ _ _ q1 q2,Int.toNat_natCast]
  have hb:∀ (kd:IntKind) (i:Int) (y:Nat) (cd:BoundsCode) (h0:0≤i) (h1:i≤y) (es:Array Event),(Instr.sliceBound (.int kd i) y cd).events P W1 es=es:=fun kd i y cd h0 h1 es=>by
   simp[Instr.sliceBound,asIntOf,h0,h1]
  have e1:∀ cd es,(Instr.sliceBound (.int kd' H) c cd).events P W1 es=es:=fun cd es=>hb _ _ _ cd q4 q3 es
  have e2:∀ cd es,(Instr.sliceBound (.int kd (m:Int)) (m+1) cd).events P W1 es=es:=fun cd es=>hb _ _ _ cd q1 q2 es
  constructor
  ·simp only[execOp,Option.map_some,Option.map_none,zf e hx,zf e hy,zf e hz]
   simp[Instr.sliceAt,Instr.slice,Sem.run_bind,run_underlying hT,Instr.sliceBounds,r1,r2,Go.Fw.run_sizeOf hE,q5,z3h]
  ·intro e' he
   simp only[execOp,Option.map_some,Option.map_none,zf e hx,zf e hy,zf e hz] at he
   simp[Instr.sliceAt,Instr.slice,run_underlying hT,Instr.sliceBounds,r1,r2,e1,e2,Go.Fw.run_sizeOf hE,Result.evThen,Sem.events_bind] at he) k1
end
end Go.Mn
