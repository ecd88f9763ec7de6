/- Two runs side by side: one step of a goroutine. -/
import Derived.Test.YthhpnohbfigggaaGreatDoorMn2
import Derived.Conc.Own
import Derived.KernelRfl
set_option linter.all false
set_option maxHeartbeats 2000000
namespace Go.Mn
open Go.Conc (G)
def okI(P:Program)(T:Txt):Item→Bool
 |.code c|.inLoop c=>okC P T c
 |.inBlock _=>true
 |.inRegion ops _=>ops.all fun o=>okO P T o.op
 |_=>false
structure FR(F:Nat→Prop)(P:Program)(T:Txt)(ρ:Bij)(e:List Item)(fr fr':Frame):Prop where
 fn:fr'.fn=fr.fn
 hf:∃ fn,P.funcs[fr.fn]?=some fn
 tmps:AR F ρ fr.tmps fr'.tmps
 todo:fr'.todo=fr.todo++e
 ok:∀ i∈fr.todo,okI P T i=true
 defers:fr.defers=[]
 defers':fr'.defers=[]
 mode:fr'.mode=fr.mode
 kind:fr.kind=.normal
 kind':fr'.kind=.normal
 round:fr.roundOf=none
 round':fr'.roundOf=none
inductive GS(F:Nat→Prop)(P:Program)(T:Txt)(ρ:Bij)(e:List Item):Frame→List Frame→Frame→List Frame→Prop
 |base {fr fr':Frame} (h:FR F P T ρ e fr fr'):GS F P T ρ e fr [] fr' []
 |push {fr fr' k k':Frame} {l l':List Frame} (h:FR F P T ρ [] fr fr') (hm:k.mode=.run) (ht:k.todo≠[]) (hl:GS F P T ρ e k l k' l'):GS F P T ρ e fr (k::l) fr' (k'::l')
structure Pg(F:Nat→Prop)(P:Program)(T:Txt):Prop where
 cmp:zbz P T.Q
 zs:Zs F P
 fns:Fns F P T.G
 txt:∀ f,T.F f=true→F f
 body:∀ f fn,F f→P.funcs[f]?=some fn→∀ c,fn.body=some c→okC P T c=true
section
variable {F:Nat→Prop}{P:Program}{T:Txt}{ρ σ:Bij}
theorem FR.mono(h:ρ.le σ){e:List Item}{fr fr':Frame}(r:FR F P T ρ e fr fr'):FR F P T σ e fr fr':={r with tmps:=r.tmps.mono h}
theorem GS.mono(h:ρ.le σ){e:List Item}{fr fr':Frame}{l l':List Frame}(r:GS F P T ρ e fr l fr' l'):GS F P T σ e fr l fr' l':=by
 induction r with
 |base hf=>exact .base (hf.mono h)
 |push hf hm ht _ ih=>exact .push (hf.mono h) hm ht ih
theorem GS.top{e:List Item}{fr fr':Frame}{l l':List Frame}(r:GS F P T ρ e fr l fr' l'):∃ e1,FR F P T ρ e1 fr fr'∧(e1=e∨e1=[])∧(l=[]→e1=e)∧(l≠[]→e1=[]) ∧
  ∀ (σ:Bij) (g g':Frame),ρ.le σ→FR F P T σ e1 g g'→GS F P T σ e g l g' l':=by
 cases r with
 |base h=>exact⟨e,h,.inl rfl,fun _=>rfl,fun h=>absurd rfl h,fun σ g g' hl hf=>.base hf⟩
 |push h hm ht hl=>exact⟨[],h,.inr rfl,fun h=>by simp at h,fun _=>rfl,fun σ g g' hle hf=>.push hf hm ht (hl.mono hle)⟩
theorem FR.goto{e:List Item}{fr fr':Frame}(r:FR F P T ρ e fr fr')(k:List Item)(hk:∀ i∈k,okI P T i=true):FR F P T ρ e {fr with todo:=k} {fr' with todo:=k++e} :=
 ⟨r.fn,r.hf,r.tmps,rfl,hk,r.defers,r.defers',r.mode,r.kind,r.kind',r.round,r.round'⟩
theorem FR.turn{e:List Item}{fr fr':Frame}(r:FR F P T ρ e fr fr')(m:FrameMode):FR F P T ρ e {fr with mode:=m} {fr' with mode:=m} :=
 ⟨r.fn,r.hf,r.tmps,r.todo,r.ok,r.defers,r.defers',rfl,r.kind,r.kind',r.round,r.round'⟩
theorem FR.finish{e:List Item}{fr fr':Frame}(r:FR F P T ρ e fr fr')(he:fr.todo≠[]){v v':Value}(hv:VR F ρ v v'):FR F P T ρ e (fr.finish v) (fr'.finish v'):=by
 have ht:=r.todo
 have hok:=r.ok
 unfold Frame.finish
 rw[ht]
 cases hfr:fr.todo with
 |nil=>exact absurd hfr he
 |cons i k=>
  rw[hfr] at hok
  have hk:∀ j∈k,okI P T j=true:=fun j hj=>hok j (List.mem_cons_of_mem _ hj)
  have hi:=hok i List.mem_cons_self
  rw[List.cons_append]
  cases i with
  |inRegion ops todo=>
   cases todo with
   |nil=>exact r
   |cons j rest=>
    refine⟨r.fn,r.hf,?_,rfl,fun x hx=>?_,r.defers,r.defers',r.mode,r.kind,r.kind',r.round,r.round'⟩
    ·simp only
     split
     ·exact r.tmps.set _ hv
     ·exact r.tmps
    ·rcases List.mem_cons.1 hx with rfl|h
     ·exact hi
     ·exact hk x h
  |code c=>exact r
  |inBlock b=>exact r
  |inLoop c=>exact r
  |_=>simp[okI] at hi
theorem z8q(fr:Frame)(v:Value):(fr.finish v).mode=fr.mode:=by unfold Frame.finish;split<;>rfl
theorem FR.er{e:List Item}{fr fr':Frame}(r:FR F P T ρ e fr fr')(hT:∀ f,T.F f=true→F f)(hG:∀ g,T.G g=true→ρ g g):ER F T ρ fr.eval fr'.eval:=⟨fun x hx=>by
 cases x with
 |tmp t=>exact r.tmps.getD z7o t
 |const v=>exact okV1_vr hT hx
 |global g=>exact .ptr 0 none (hG g hx)
 |func f=>exact .func (hT f hx) rfl (fun i v v' e=>by simp at e) rfl (fun i v v' e=>by simp at e)⟩
theorem FR.yielded{e:List Item}{fr fr':Frame}(r:FR F P T ρ e fr fr')(ops:Array Oper):yielded ops fr'.tmps=yielded ops fr.tmps:=by
 funext j
 unfold Go.yielded
 cases(ops[j]?).bind (·.dst) with
 |none=>rfl
 |some d=>
  simp only[Option.bind_some]
  rcases r.tmps.get? d with⟨e,e'⟩|⟨v,v',e,e',hv⟩
  ·rw[e,e']
  ·rw[e,e']
   cases hv with
   |@hole v' h=>cases v'<;>first|rfl|exact absurd rfl (h.2.2 _)
   |_=>rfl
theorem zam(P:Program)(f:FuncId)(es:Array Event):∀ e∈seen P f es,e∈es:=by
 intro e he
 dsimp only[seen] at he
 rw[← Array.foldl_toList] at he
 have key:∀ (l:List Event) (x:Bool×Array Event),e∈(l.foldl (fun(x:Bool×Array Event) (e:Event)=>match e.loc with
  |.mark (.extern f)=>((P.funcs[f]?).any (·.norace),x.2)
  |_=>(x.1,if x.1 && !e.sync then x.2 else x.2.push e)) x).2→e∈x.2∨e∈l:=by
  intro l
  induction l with
  |nil=>intro x h;exact .inl h
  |cons y l ih=>
   intro x h
   rcases ih _ h with h|h
   ·dsimp only at h
    split at h
    ·exact .inl h
    ·simp only at h
     split at h
     ·exact .inl h
     ·rcases Array.mem_push.1 h with h|rfl
      ·exact .inl h
      ·exact .inr List.mem_cons_self
   ·exact .inr (List.mem_cons_of_mem _ h)
 rcases key es.toList _ he with h|h
 ·simp at h
 ·simpa using h
theorem zee{fn:Func}{xs xs':Array Value}(h:AR F ρ xs xs'):SR F P (vR F) false ρ (results fn xs) (results fn xs'):=by
 unfold results
 have key:∀ l:List ResultVar,SR F P (fun σ (a a':List Value)=>LR F σ a a') false ρ (l.mapM fun r=>match r with
  |.tmp t=>(pure (xs.getD t undef):Sem Value)
  |.cell a t=>do loadVar t (← asAddr (xs.getD a undef))) (l.mapM fun r=>match r with
  |.tmp t=>(pure (xs'.getD t undef):Sem Value)
  |.cell a t=>do loadVar t (← asAddr (xs'.getD a undef))):=by
  intro l
  induction l with
  |nil=>rw[List.mapM_nil,List.mapM_nil];exact zb .nil
  |cons r l ih=>
   rw[List.mapM_cons,List.mapM_cons]
   refine SR.bind (R:=vR F) ?_ fun v v' hv=>SR.bind ih fun vs vs' hvs=>zb (.cons hv hvs)
   cases r with
   |tmp t=>exact zb (h.getD z7o t)
   |cell a t=>exact SR.bind (sr_asAddr (h.getD z7o a)) fun a a' ha=>zef t ha
 have lr:∀ {l l':List Value},LR F ρ l l'→AR F ρ l.toArray l'.toArray:=fun {l l'} h=>by
  induction h with
  |nil=>exact AR.nil
  |cons hv _ ih=>
   have:=(AR.one hv).append ih
   simpa using this
 rw[Array.mapM_eq_mapM_toList,Array.mapM_eq_mapM_toList,map_eq_pure_bind,map_eq_pure_bind,bind_assoc,bind_assoc]
 refine SR.bind (key _) fun vs vs' hvs=>?_
 have hA:=lr hvs
 have hs:vs.length=vs'.length:=by simpa using hA.size
 simp only[pure_bind]
 refine zb ?_
 by_cases h1:vs.toArray.size=1
 ·have h1':vs'.toArray.size=1:=by rw[← hA.size];exact h1
  rw[dif_pos h1,dif_pos h1']
  exact hA.at_ 0 _ _ (by simp) (by simp)
 ·have h1':¬ vs'.toArray.size=1:=by rw[← hA.size];exact h1
  rw[dif_neg h1,dif_neg h1']
  exact VR.tuple hA.size hA.at_
def LDead(P:Program)(fr:Frame)(cs:List Frame)(s:GStep):Prop:=(∃ o w,s.bare=.ended o w) ∨
 ∃ (w:World) (chain:List PanicEntry),s.bare=.go (G (fr.raise chain) cs) w∧fr.defers=[]∧(∃ fn,P.funcs[fr.fn]?=some fn)
abbrev Lw(w:World)(τ:Nat→Question→Nat):World:={w with tape:=τ}
def ze3(F:Nat→Prop)(P:Program)(T:Txt)(main:Bool)(ρ:Bij)(cb:Frame)(ds:List Frame)(e:List Item)(fr fr':Frame)(ks ks':List Frame)(w W:World):Prop:=
 ∃ (τ:Nat→Question→Nat) (D:Nat),w.drawn≤D ∧
  ((∃ fr1 ks1 w1,w1.drawn=D∧(∀ τ2,z5u τ τ2 w.drawn D→(stepG P true (G fr (ks++[cb])) (Lw w τ2)).bare=.go (G fr1 (ks1++[cb])) (Lw w1 τ2)) ∧
   ∃ fr1' ks1' W1 es σ,stepG P main (G fr' (ks'++ds)) W=.go (G fr1' (ks1'++ds)) W1 es∧GS F P T σ e fr1 ks1 fr1' ks1'∧(fr1.mode=.run∨fr1.mode=.returning)∧WR F P σ w1 W1∧Gd ρ σ w w1 W W1 #[] es) ∨
   (∀ τ2,z5u τ τ2 w.drawn D→LDead P fr (ks++[cb]) (stepG P true (G fr (ks++[cb])) (Lw w τ2))))
section
variable {main:Bool}{cb:Frame}{ds ks ks':List Frame}{fr fr':Frame}{w W:World}{e e1:List Item}
def Tops(F:Nat→Prop)(P:Program)(T:Txt)(ρ:Bij)(e e1:List Item)(ks ks':List Frame):Prop:=∀ (σ:Bij) (g g':Frame),ρ.le σ→FR F P T σ e1 g g'→GS F P T σ e g ks g' ks'
theorem ze3.lost(h:∀ w:World,∃ o w',(stepG P true (G fr (ks++[cb])) w).bare=.ended o w'):ze3 F P T main ρ cb ds e fr fr' ks ks' w W:=
 ⟨w.tape,w.drawn,Nat.le_refl _,.inr fun τ2 _=>Or.inl (h _)⟩
theorem okI_tail{i:Item}{k:List Item}(h:∀ j∈i::k,okI P T j=true):∀ j∈k,okI P T j=true:=fun j hj=>h j (List.mem_cons_of_mem _ hj)
theorem exitTo_app{id:Nat}(e:List Item):∀ {k k':List Item},exitTo id k=some k'→exitTo id (k++e)=some (k'++e)∧∀ i∈k',i∈k:=by
 intro k
 induction k with
 |nil=>intro k' h;simp[exitTo] at h
 |cons i k ih=>
  intro k' h
  have go:exitTo id k=some k'→exitTo id (k++e)=some (k'++e)∧∀ j∈k',j∈i::k:=fun h=>⟨(ih h).1,fun j hj=>List.mem_cons_of_mem _ ((ih h).2 j hj)⟩
  cases i with
  |inBlock b=>
   simp only[exitTo] at h
   simp only[List.cons_append,exitTo]
   split at h
   ·rename_i hb
    rw[if_pos hb]
    cases h;exact⟨rfl,fun j hj=>List.mem_cons_of_mem _ hj⟩
   ·rename_i hb
    rw[if_neg hb]
    exact go h
  |_=>exact go h
theorem step_oper(pg:Pg F P T)(hG:∀ g,T.G g=true→ρ g g)(r:FR F P T ρ e1 fr fr')(hk:Tops F P T ρ e e1 ks ks')(hw:WR F P ρ w W)(hm:fr.mode=.run){ops:Array Oper}{i:Nat}{rest:List Nat}{k:List Item}(ht:fr.todo=.inRegion ops (i::rest)::k)
  {o:Oper}(ho:ops[i]?=some o)(hwa:Region.wanted o (yielded ops fr.tmps)=true):ze3 F P T main ρ cb ds e fr fr' ks ks' w W:=by
 have hne:fr.todo≠[]:=by rw[ht];simp
 have hok:okO P T o.op=true:=by
  have:=r.ok _ (by rw[ht];exact List.mem_cons_self)
  simp only[okI] at this
  rw[Array.all_eq_true'] at this
  exact this o (Array.mem_of_getElem? ho)
 have hwa':Region.wanted o (yielded ops fr'.tmps)=true:=by rw[r.yielded];exact hwa
 have ht':fr'.todo=.inRegion ops (i::rest)::(k++e1):=by rw[r.todo,ht];rfl
 have hm':fr'.mode=.run:=r.mode.trans hm
 have e1:∀ (cs:List Frame) (w:World),stepG P true (G fr cs) w=stepG.apply P true fr cs none (execOp fr.eval o) w:=fun cs w=>by
  have hk:=r.round
  obtain⟨f1,f2,f3,f4,f5,f6,f7⟩:=fr
  simp only at ht hm hk hwa
  subst ht hm hk
  simp[G,stepG,stepG.exec,stepG.oper,Frame.oper?,ho,hwa]
 have e2:∀ (cs:List Frame) (w:World),stepG P main (G fr' cs) w=stepG.apply P true fr' cs none (execOp fr'.eval o) w:=fun cs w=>by
  have hk:=r.round'
  obtain⟨f1,f2,f3,f4,f5,f6,f7⟩:=fr'
  simp only at ht' hm' hk hwa'
  subst ht' hm' hk
  simp[G,stepG,stepG.exec,stepG.oper,Frame.oper?,ho,hwa']
 have kd:(fr.kind==CallKind.early)=false:=by rw[r.kind];rfl
 have kd':(fr'.kind==CallKind.early)=false:=by rw[r.kind'];rfl
 obtain⟨τ,D,hD,h⟩:=(sr_execOp pg.cmp pg.zs pg.fns pg.txt hG hw.bi (r.er pg.txt hG) o hok).run hw
 refine⟨τ,D,hD,?_⟩
 rcases h with⟨a,w1,x1,x2,x3⟩|h
 ·left
  obtain⟨a',W1,es,σ,y1,y2,y3,y4⟩:=x3 #[]
  have gd:∀ es2:Array Event,(∀ e∈es2,e∈es)→Gd ρ σ w w1 W W1 #[] es2:=fun es2 h=>{y4 with ev:=fun e he=>y4.ev e (h e he)}
  cases y2 with
  |@value v v' hv=>
   refine⟨fr.finish v,ks,w1,x1,fun τ2 ha=>?_,fr'.finish v',ks',W1,seen P fr'.fn es,σ,?_,hk σ _ _ y4.le ((r.mono y4.le).finish hne hv),.inl ?_,y3,gd _ (zam _ _ _)⟩
   ·rw[e1,stepG.apply,Sem.runT_eq,x2 τ2 ha]
    simp[kd,GStep.bare_after,G]
   ·rw[e2,stepG.apply]
    simp only[if_true,y1,kd',Bool.false_eq_true,if_false]
    simp[GStep.after,G]
   ·rw[z8q];exact hm
  |skip=>
   refine⟨fr.finish undef,ks,w1,x1,fun τ2 ha=>?_,fr'.finish undef,ks',W1,seen P fr'.fn es,σ,?_,hk σ _ _ y4.le ((r.mono y4.le).finish hne z7o),.inl ?_,y3,gd _ (zam _ _ _)⟩
   ·rw[e1,stepG.apply,Sem.runT_eq,x2 τ2 ha]
    simp[kd,GStep.bare_after,G]
   ·rw[e2,stepG.apply]
    simp only[if_true,y1,kd',Bool.false_eq_true,if_false]
    simp[GStep.after,G]
   ·rw[z8q];exact hm
  |@enter f xs xs' hf hb hxs=>
   obtain⟨fn,c,hfn,hc⟩:=hb
   have hok:=pg.body f fn hf hfn c hc
   refine⟨Frame.enter P f xs .normal,fr::ks,w1,x1,fun τ2 ha=>?_,Frame.enter P f xs' .normal,fr'::ks',W1,seen P fr'.fn es,σ,?_,.push ?_ hm hne (hk σ _ _ y4.le (r.mono y4.le)),.inl rfl,y3,gd _ (zam _ _ _)⟩
   ·rw[e1,stepG.apply,Sem.runT_eq,x2 τ2 ha]
    simp[kd,GStep.bare_after,G,ht]
   ·rw[e2,stepG.apply]
    simp only[if_true,y1,kd',Bool.false_eq_true,if_false]
    simp[GStep.after,G,ht']
   ·refine⟨rfl,⟨fn,hfn⟩,?_,(List.append_nil _).symm,fun j hj=>?_,rfl,rfl,rfl,rfl,rfl,rfl,rfl⟩
    ·show AR F σ (xs++_) (xs'++_)
     rw[hxs.size]
     exact hxs.append (AR.replicate z7o _)
    ·simp only[Frame.enter,hfn,Option.bind_some,hc,Option.getD_some,List.mem_singleton] at hj
     subst hj;exact hok
 ·right
  intro τ2 ha
  obtain⟨h,w2,hd,x⟩:=h τ2 ha
  rw[e1,stepG.apply,Sem.runT_eq,x]
  simp only[if_true,kd,Bool.false_eq_true,if_false]
  cases h with
  |panic v=>exact Or.inr ⟨w2,_,by simp[GStep.bare_after,G];rfl,r.defers,r.hf⟩
  |stuck s=>exact Or.inl ⟨_,_,by simp[GStep.bare_after];exact⟨rfl,rfl⟩⟩
  |unsupported u=>
   cases u with
   |initOrder g=>exact hd.elim
   |_=>exact Or.inl ⟨_,_,by simp[GStep.bare_after];exact⟨rfl,rfl⟩⟩
  |_=>exact hd.elim
end
end
section
variable {F:Nat→Prop}{P:Program}{T:Txt}{ρ σ:Bij}{main:Bool}{cb:Frame}{ds ks ks':List Frame}{fr fr':Frame}{w W:World}{e e1:List Item}
theorem step_run(pg:Pg F P T)(hG:∀ g,T.G g=true→ρ g g)(r:FR F P T ρ e1 fr fr')(hk:Tops F P T ρ e e1 ks ks')(hw:WR F P ρ w W)(hm:fr.mode=.run)(hne:fr.todo≠[]∨e1=[]):ze3 F P T main ρ cb ds e fr fr' ks ks' w W:=by
 have hok:=r.ok
 have ht':=r.todo
 have back:∀ (todo:List Item),fr.todo=todo→(∀ (main:Bool) (e:List Item) (f1:FuncId) (f2:Array Value) (f4:List Deferred) (f6:CallKind) (cs:List Frame) (w:World),(todo=[]→e=[])→stepG P main (G ⟨f1,f2,todo++e,f4,.run,f6,none⟩ cs) w=.go (G ⟨f1,f2,todo++e,f4,.returning,f6,none⟩ cs) w)→ze3 F P T main ρ cb ds e fr fr' ks ks' w W:=by
  intro todo htd h
  refine⟨w.tape,w.drawn,Nat.le_refl _,.inl ⟨{fr with mode:=.returning},ks,w,rfl,fun τ2 _=>?_,{fr' with mode:=.returning},ks',W,#[],ρ,?_,hk ρ _ _ (Bij.le_refl _) (r.turn .returning),.inr rfl,hw,Gd.refl ρ w W #[] rfl rfl rfl rfl rfl⟩⟩
  ·have h3:=r.round
   obtain⟨f1,f2,f3,f4,f5,f6,f7⟩:=fr
   simp only at htd hm h3
   subst htd hm h3
   have:=h true [] f1 f2 f4 f6 (ks++[cb]) (Lw w τ2) (fun _=>rfl)
   rw[List.append_nil] at this
   rw[this];rfl
  ·have h1:fr'.todo=todo++e1:=by rw[ht',htd]
   have h2:=r.mode.trans hm
   have h3:=r.round'
   have h4:todo=[]→e1=[]:=fun h=>hne.resolve_left (by rw[htd,h];simp)
   obtain⟨f1,f2,f3,f4,f5,f6,f7⟩:=fr'
   simp only at h1 h2 h3
   subst h1 h2 h3
   exact h main e1 f1 f2 f4 f6 _ W h4
 cases hfr:fr.todo with
 |nil=>exact back [] hfr fun main e f1 f2 f4 f6 cs w he=>by rw[he rfl];simp[G,stepG,stepG.exec]
 |cons i k=>
  rw[hfr] at hok
  have hi:=hok i List.mem_cons_self
  have hkk:=okI_tail hok
  have one:∀ {j:Item} {k:List Item},okI P T j=true→(∀ j∈k,okI P T j=true)→∀ x∈j::k,okI P T x=true:=fun {j k} h1 h2 x hx=>(List.mem_cons.1 hx).elim (fun e=>e▸h1) (h2 x)
  have move:∀ pre:List Item,(∀ j∈pre,okI P T j=true)→(∀ (main:Bool) (k:List Item) (f1:FuncId) (f2:Array Value) (f4:List Deferred) (f6:CallKind) (cs:List Frame) (w:World),stepG P main (G ⟨f1,f2,i::k,f4,.run,f6,none⟩ cs) w=.go (G ⟨f1,f2,pre++k,f4,.run,f6,none⟩ cs) w)→ze3 F P T main ρ cb ds e fr fr' ks ks' w W:=by
   intro pre hpre h
   have h2:∀ j∈pre++k,okI P T j=true:=fun j hj=>(List.mem_append.1 hj).elim (hpre j) (hkk j)
   refine⟨w.tape,w.drawn,Nat.le_refl _,.inl ⟨{fr with todo:=pre++k},ks,w,rfl,fun τ2 _=>?_,{fr' with todo:=(pre++k)++e1},ks',W,#[],ρ,?_,hk ρ _ _ (Bij.le_refl _) (r.goto _ h2),.inl hm,hw,Gd.refl ρ w W #[] rfl rfl rfl rfl rfl⟩⟩
   ·have h3:=r.round
    obtain⟨f1,f2,f3,f4,f5,f6,f7⟩:=fr
    simp only at hfr hm h3
    subst hfr hm h3
    rw[h true k];rfl
   ·have h1:fr'.todo=i::(k++e1):=by rw[ht',hfr];rfl
    have h2:=r.mode.trans hm
    have h3:=r.round'
    obtain⟨f1,f2,f3,f4,f5,f6,f7⟩:=fr'
    simp only at h1 h2 h3
    subst h1 h2 h3
    rw[h main (k++e1),List.append_assoc]
  cases i with
  |inBlock b=>exact move [] (by simp) fun _ _ _ _ _ _ _ _=>by simp[G,stepG,stepG.exec]
  |inLoop c=>exact move [.code c,.inLoop c] (one hi (one hi (by simp))) fun _ _ _ _ _ _ _ _=>by simp[G,stepG,stepG.exec]
  |inRegion ops todo=>
   cases todo with
   |nil=>exact move [] (by simp) fun _ _ _ _ _ _ _ _=>by simp[G,stepG,stepG.exec]
   |cons j rest=>
    by_cases hwa:((ops[j]?).map (Region.wanted · (yielded ops fr.tmps))).getD false=true
    ·cases ho:ops[j]? with
     |none=>rw[ho] at hwa;cases hwa
     |some o=>exact step_oper pg hG r hk hw hm hfr ho (by rw[ho] at hwa;exact hwa)
    ·have hwf:((ops[j]?).map (Region.wanted · (yielded ops fr.tmps))).getD false=false:=by simpa using hwa
     have hwf':((ops[j]?).map (Region.wanted · (yielded ops fr'.tmps))).getD false=false:=by rw[r.yielded];exact hwf
     refine⟨w.tape,w.drawn,Nat.le_refl _,.inl ⟨fr.finish undef,ks,w,rfl,fun τ2 _=>?_,fr'.finish undef,ks',W,#[],ρ,?_,hk ρ _ _ (Bij.le_refl _) (r.finish (by rw[hfr];simp) z7o),.inl (by rw[z8q];exact hm),hw,Gd.refl ρ w W #[] rfl rfl rfl rfl rfl⟩⟩
     ·have h3:=r.round
      obtain⟨f1,f2,f3,f4,f5,f6,f7⟩:=fr
      simp only at hfr hm h3 hwf
      subst hfr hm h3
      simp[G,stepG,stepG.exec,hwf]
     ·have h1:fr'.todo=.inRegion ops (j::rest)::(k++e1):=by rw[ht',hfr];rfl
      have h2:=r.mode.trans hm
      have h3:=r.round'
      obtain⟨f1,f2,f3,f4,f5,f6,f7⟩:=fr'
      simp only at h1 h2 h3 hwf'
      subst h1 h2 h3
      simp[G,stepG,stepG.exec,hwf']
  |code c=>
   cases c with
   |skip=>exact move [] (by simp) fun _ _ _ _ _ _ _ _=>by simp[G,stepG,stepG.exec]
   |label l=>exact move [] (by simp) fun _ _ _ _ _ _ _ _=>by simp[G,stepG,stepG.exec]
   |ret=>exact back _ hfr fun main e f1 f2 f4 f6 cs w _=>by simp[G,stepG,stepG.exec]
   |seq a b=>
    simp only[okI,okC,Bool.and_eq_true] at hi
    exact move [.code a,.code b] (one (by exact hi.1) (one (by exact hi.2) (by simp))) fun _ _ _ _ _ _ _ _=>by simp[G,stepG,stepG.exec]
   |block id c=>exact move [.code c,.inBlock id] (one (by exact hi) (one rfl (by simp))) fun _ _ _ _ _ _ _ _=>by simp[G,stepG,stepG.exec]
   |loop c=>exact move [.code c,.inLoop c] (one (by exact hi) (one (by exact hi) (by simp))) fun _ _ _ _ _ _ _ _=>by simp[G,stepG,stepG.exec]
   |exit id=>
    cases he:exitTo id k with
    |some k2=>
     obtain⟨he2,hs⟩:=exitTo_app e1 he
     have h2:∀ j∈k2,okI P T j=true:=fun j hj=>hkk j (hs j hj)
     refine⟨w.tape,w.drawn,Nat.le_refl _,.inl ⟨{fr with todo:=k2},ks,w,rfl,fun τ2 _=>?_,{fr' with todo:=k2++e1},ks',W,#[],ρ,?_,hk ρ _ _ (Bij.le_refl _) (r.goto _ h2),.inl hm,hw,Gd.refl ρ w W #[] rfl rfl rfl rfl rfl⟩⟩
     ·have h3:=r.round
      obtain⟨f1,f2,f3,f4,f5,f6,f7⟩:=fr
      simp only at hfr hm h3
      subst hfr hm h3
      simp[G,stepG,stepG.exec,he]
     ·have h1:fr'.todo=.code (.exit id)::(k++e1):=by rw[ht',hfr];rfl
      have h2:=r.mode.trans hm
      have h3:=r.round'
      obtain⟨f1,f2,f3,f4,f5,f6,f7⟩:=fr'
      simp only at h1 h2 h3
      subst h1 h2 h3
      simp[G,stepG,stepG.exec,he2]
    |none=>
     refine ze3.lost fun w=>?_
     have h3:=r.round
     obtain⟨f1,f2,f3,f4,f5,f6,f7⟩:=fr
     simp only at hfr hm h3
     subst hfr hm h3
     exact⟨_,_,by simp[G,stepG,stepG.exec,he];exact⟨rfl,rfl⟩⟩
   |cond c a b=>
    simp only[okI,okC,Bool.and_eq_true] at hi
    have hv:=(r.er pg.txt hG).at_ c hi.1.1
    by_cases hb:∃ t,fr.eval c=.bool t
    ·obtain⟨t,ht⟩:=hb
     have ht2:fr'.eval c=.bool t:=by rw[ht] at hv;generalize fr'.eval c=u at hv;cases hv;rfl
     have hc:∀ j∈(Item.code (if t then a else b)::k),okI P T j=true:=one (by
      cases t
      ·exact hi.2
      ·exact hi.1.2) hkk
     refine⟨w.tape,w.drawn,Nat.le_refl _,.inl ⟨{fr with todo:=.code (if t then a else b)::k},ks,w,rfl,fun τ2 _=>?_,{fr' with todo:=(.code (if t then a else b)::k)++e1},ks',W,#[],ρ,?_,hk ρ _ _ (Bij.le_refl _) (r.goto _ hc),.inl hm,hw,Gd.refl ρ w W #[] rfl rfl rfl rfl rfl⟩⟩
     ·have h3:=r.round
      obtain⟨f1,f2,f3,f4,f5,f6,f7⟩:=fr
      simp only at hfr hm h3
      subst hfr hm h3
      simp[G,stepG,stepG.exec,ht]
     ·have h1:fr'.todo=.code (.cond c a b)::(k++e1):=by rw[ht',hfr];rfl
      have h2:=r.mode.trans hm
      have h3:=r.round'
      obtain⟨f1,f2,f3,f4,f5,f6,f7⟩:=fr'
      simp only at h1 h2 h3
      subst h1 h2 h3
      simp[G,stepG,stepG.exec,ht2]
    ·have h3:=r.round
     refine ze3.lost fun w=>?_
     have hb':∀ t,fr.eval c≠.bool t:=fun t e=>hb ⟨t,e⟩
     obtain⟨f1,f2,f3,f4,f5,f6,f7⟩:=fr
     simp only at hfr hm h3
     subst hfr hm h3
     simp only[G,stepG,stepG.exec]
     generalize (⟨f1,f2,.code (.cond c a b)::k,f4,.run,f6,none⟩:Frame).eval c=u at hb' ⊢
     cases u<;>first|exact absurd rfl (hb' _)|exact⟨_,_,rfl⟩
   |region id ops draw=>
    cases draw with
    |false=>exact move [.inRegion ops (List.range ops.size)] (one (by exact hi) (by simp)) fun _ _ _ _ _ _ _ _=>by simp[G,stepG,stepG.exec]
    |true=>
     have hfn:=r.fn
     let sch:=Item.inRegion ops (Region.schedule (P.follows .mixedOrders) ops (W.tape W.drawn (.order fr.fn id)))::k
     have hs:∀ j∈sch,okI P T j=true:=one (by exact hi) hkk
     refine⟨fun _ _=>W.tape W.drawn (.order fr.fn id),w.drawn+1,Nat.le_succ _,.inl ⟨{fr with todo:=sch},ks,{w with drawn:=w.drawn+1},rfl,fun τ2 ha=>?_,{fr' with todo:=sch++e1},ks',{W with drawn:=W.drawn+1},#[],ρ,?_,hk ρ _ _ (Bij.le_refl _) (r.goto _ hs),.inl hm,hw.tape rfl rfl,Gd.refl ρ w W #[] rfl rfl rfl rfl rfl⟩⟩
     ·have h3:=r.round
      have h4:τ2 w.drawn (.order fr.fn id)=W.tape W.drawn (.order fr.fn id):=by rw[ha w.drawn (Nat.le_refl _) (Nat.lt_succ_self _)]
      have h5:sch=Item.inRegion ops (Region.schedule (P.follows .mixedOrders) ops (τ2 w.drawn (.order fr.fn id)))::k:=by rw[h4]
      rw[h5]
      obtain⟨f1,f2,f3,f4,f5,f6,f7⟩:=fr
      simp only at hfr hm h3
      subst hfr hm h3
      simp[G,stepG,stepG.exec,choose,pure,Sem.run,Question.forced,Question.cut]
     ·have h1:fr'.todo=.code (.region id ops true)::(k++e1):=by rw[ht',hfr];rfl
      have h2:=r.mode.trans hm
      have h3:=r.round'
      have h5:sch=Item.inRegion ops (Region.schedule (P.follows .mixedOrders) ops (W.tape W.drawn (.order fr'.fn id)))::k:=by rw[hfn]
      rw[h5]
      obtain⟨f1,f2,f3,f4,f5,f6,f7⟩:=fr'
      simp only at h1 h2 h3
      subst h1 h2 h3
      simp[G,stepG,stepG.exec,choose,pure,Sem.run,Question.forced,Question.cut]
   |_=>simp[okI,okC] at hi
  |_=>simp[okI] at hi
theorem step_pop(pg:Pg F P T){k k':Frame}(r:FR F P T ρ [] fr fr')(hks:GS F P T ρ e k ks k' ks')(hkm:k.mode=.run)(hkt:k.todo≠[])(hw:WR F P ρ w W)(hm:fr.mode=.returning):ze3 F P T main ρ cb ds e fr fr' (k::ks) (k'::ks') w W:=by
 obtain⟨fn,hfn⟩:=r.hf
 obtain⟨τ,D,hD,h⟩:=(zee (P:=P) (fn:=fn) r.tmps).run hw
 have e1:∀ (cs:List Frame) (w:World),stepG P true (G fr (k::cs)) w=GStep.after (seen P fr.fn ((results fn fr.tmps).runT P w #[]).2) (match((results fn fr.tmps).runT P w #[]).1 with
    |.ok v w=>doReturn P true fr (k::cs) none v w
    |.halt (.stuck s) w=>.ended (.stuck s (fr.pos P)) w
    |.halt _ w=>.ended (.stuck "return: the result variables cannot be read" (fr.pos P)) w):=fun cs w=>by
  have h1:=r.defers
  obtain⟨f1,f2,f3,f4,f5,f6,f7⟩:=fr
  simp only at hm h1 hfn
  subst hm h1
  simp only[G,stepG,unwind,hfn]
  generalize (results fn f2).runT P w #[]=res
  obtain⟨x,y⟩:=res
  cases x with
  |ok _ _=>rfl
  |halt h _=>cases h<;>rfl
 have e2:∀ (cs:List Frame) (w:World),stepG P main (G fr' (k'::cs)) w=GStep.after (seen P fr'.fn ((results fn fr'.tmps).runT P w #[]).2) (match((results fn fr'.tmps).runT P w #[]).1 with
    |.ok v w=>doReturn P main fr' (k'::cs) none v w
    |.halt (.stuck s) w=>.ended (.stuck s (fr'.pos P)) w
    |.halt _ w=>.ended (.stuck "return: the result variables cannot be read" (fr'.pos P)) w):=fun cs w=>by
  have h1:=r.defers'
  have h2:=r.mode.trans hm
  have h3:P.funcs[fr'.fn]?=some fn:=by rw[r.fn];exact hfn
  obtain⟨f1,f2,f3,f4,f5,f6,f7⟩:=fr'
  simp only at h1 h2 h3
  subst h1 h2
  simp only[G,stepG,unwind,h3]
  generalize (results fn f2).runT P w #[]=res
  obtain⟨x,y⟩:=res
  cases x with
  |ok _ _=>rfl
  |halt h _=>cases h<;>rfl
 refine⟨τ,D,hD,?_⟩
 rcases h with⟨v,w1,x1,x2,x3⟩|h
 ·left
  obtain⟨v',W1,es,σ,y1,y2,y3,y4⟩:=x3 #[]
  obtain⟨e2',hk1,_,_,_,top⟩:=hks.top
  refine⟨k.finish v,ks,w1,x1,fun τ2 ha=>?_,k'.finish v',ks',W1,seen P fr'.fn es,σ,?_,top σ _ _ y4.le ((hk1.mono y4.le).finish hkt y2),.inl ((z8q _ _).trans hkm),y3,{y4 with ev:=fun e he=>y4.ev e (zam _ _ _ e he)}⟩
  ·rw[List.cons_append,e1,Sem.runT_eq,x2 τ2 ha]
   simp[GStep.bare_after,doReturn,r.kind,G]
  ·rw[List.cons_append,e2,y1]
   simp[GStep.after,doReturn,r.kind',G]
 ·right
  intro τ2 ha
  obtain⟨h,w2,hd,x⟩:=h τ2 ha
  left
  rw[List.cons_append,e1,Sem.runT_eq,x]
  cases h<;>exact⟨_,_,by simp[GStep.bare_after];exact⟨rfl,rfl⟩⟩
theorem step_sim(pg:Pg F P T)(hG:∀ g,T.G g=true→ρ g g)(r:GS F P T ρ e fr ks fr' ks')(hw:WR F P ρ w W)(hm:fr.mode=.run∨fr.mode=.returning)
  (h1:¬ (ks=[]∧fr.mode=.returning))(h2:¬ (ks=[]∧fr.mode=.run∧fr.todo=[]∧e≠[])):ze3 F P T main ρ cb ds e fr fr' ks ks' w W:=by
 rcases hm with hm|hm
 ·obtain⟨e1,hf,_,hl,hl',top⟩:=r.top
  refine step_run pg hG hf top hw hm ?_
  by_cases ht:fr.todo=[]
  ·right
   by_cases hk:ks=[]
   ·rw[hl hk]
    exact Classical.byContradiction fun he=>h2 ⟨hk,hm,ht,he⟩
   ·exact hl' hk
  ·exact .inl ht
 ·cases r with
  |base h=>exact absurd ⟨rfl,hm⟩ h1
  |push h hm' ht hl=>exact step_pop pg h hl hm' ht hw hm
end
end Go.Mn
set_option maxHeartbeats 1000000
namespace Go.Mn
open Go.Conc (G)
structure Rly(RO S:Nat→Prop)(W W1:World):Prop where
 size:W.heap.size≤W1.heap.size
 own:∀ b,S b→W1.heap[b]?=W.heap[b]?
 ro:∀ b,RO b→W1.heap[b]?=W.heap[b]?
 so:W1.os=W.os∧W1.output=W.output
theorem Rly.refl(RO S:Nat→Prop)(W:World):Rly RO S W W:=⟨Nat.le_refl _,fun _ _=>rfl,fun _ _=>rfl,rfl,rfl⟩
theorem Rly.trans{RO S:Nat→Prop}{W W1 W2:World}(h:Rly RO S W W1)(k:Rly RO S W1 W2):Rly RO S W W2:=
 ⟨Nat.le_trans h.size k.size,fun b hb=>(k.own b hb).trans (h.own b hb),fun b hb=>(k.ro b hb).trans (h.ro b hb),k.so.1.trans h.so.1,k.so.2.trans h.so.2⟩
inductive EvG(RO S:Nat→Prop):Event→Prop
 |cell {a:Addr} {wr:Bool} (h:S a.block∨(RO a.block∧wr=false)):EvG RO S ⟨.cell a,wr,false⟩
 |obj {r:Nat} {wr:Bool} (h:S r):EvG RO S ⟨.obj r,wr,false⟩
 |ext {f:FuncId}:EvG RO S ⟨.mark (.extern f),false,true⟩
 |room:EvG RO S ⟨.mark .noRoom,false,true⟩
structure Gua(RO S S':Nat→Prop)(W W1:World)(es:Array Event):Prop where
 size:W.heap.size≤W1.heap.size
 os:W1.os=W.os
 output:W1.output=W.output
 tape:W1.tape=W.tape
 keep:∀ b,b<W.heap.size→¬ S b→¬ RO b→W1.heap[b]?=W.heap[b]?
 ro:∀ b,RO b→¬ S b→W1.heap[b]?=W.heap[b]?
 grow:∀ b,S b→S' b
 fresh:∀ b,S' b→S b∨(W.heap.size≤b∧b<W1.heap.size)
 ev:∀ e∈es,EvG RO S' e
inductive Tr(P:Program)(main:Bool)(RO:Nat→Prop)(Stop:(Nat→Prop)→Goroutine→World→Prop):(Nat→Prop)→Goroutine→World→Prop
 |stop {S:Nat→Prop} {g:Goroutine} {W:World} (h:∀ W1,Rly RO S W W1→Stop S g W1):Tr P main RO Stop S g W
 |step {S:Nat→Prop} {g:Goroutine} {W:World} (hg:g.status=.running) (g':World→Goroutine) (W':World→World) (es:World→Array Event) (S':World→Nat→Prop)
   (h:∀ W1,Rly RO S W W1→stepG P main g W1=.go (g' W1) (W' W1) (es W1)∧Gua RO S (S' W1) W1 (W' W1) (es W1)) (ht:∀ W1,Rly RO S W W1→Tr P main RO Stop (S' W1) (g' W1) (W' W1)):Tr P main RO Stop S g W
section
variable {P:Program}{main:Bool}{RO:Nat→Prop}{Stop Stop':(Nat→Prop)→Goroutine→World→Prop}
theorem Tr.step'{S:Nat→Prop}{g:Goroutine}{W:World}(hg:g.status=.running)(h:∀ W1,Rly RO S W W1→∃ g' W' es S',stepG P main g W1=.go g' W' es∧Gua RO S S' W1 W' es∧Tr P main RO Stop S' g' W'):Tr P main RO Stop S g W:=by
 have hc:∀ W1,∃ (x:Goroutine×World×Array Event×(Nat→Prop)),Rly RO S W W1→stepG P main g W1=.go x.1 x.2.1 x.2.2.1∧Gua RO S x.2.2.2 W1 x.2.1 x.2.2.1∧Tr P main RO Stop x.2.2.2 x.1 x.2.1:=fun W1=>by
  by_cases hr:Rly RO S W W1
  ·obtain⟨g',W',es,S',h1,h2,h3⟩:=h W1 hr
   exact⟨⟨g',W',es,S'⟩,fun _=>⟨h1,h2,h3⟩⟩
  ·exact⟨⟨g,W,#[],S⟩,fun h=>absurd h hr⟩
 let f:=fun W1=>Classical.choose (hc W1)
 have hf:=fun W1=>Classical.choose_spec (hc W1)
 exact .step hg (fun W1=>(f W1).1) (fun W1=>(f W1).2.1) (fun W1=>(f W1).2.2.1) (fun W1=>(f W1).2.2.2) (fun W1 hr=>⟨(hf W1 hr).1,(hf W1 hr).2.1⟩) (fun W1 hr=>(hf W1 hr).2.2)
end
def cbot(P:Program):Frame:={fn:=P.funcs.size,tmps:=#[],todo:=[.call default false "fmt's door" #[]],defers:=[],mode:=.run,kind:=.normal}
theorem next_none:Extern.next "fmt's door" = none:=by kernel_rfl
theorem starts : "fmt's door".startsWith "fmt's door" = true:=by kernel_rfl
section
variable {P:Program}
theorem zdm(chain:List PanicEntry)(w:World):∃ o w',step P (lone ((cbot P).raise chain) [] w)=.ended o w':=by
 have hc:((cbot P).raise chain).catches P=true:=by
  simp[cbot,Frame.raise,Frame.catches,starts]
 have h:∃ o,(stepG P true {frame:=(cbot P).raise chain,callers:=[],status:=.running,dying:=none} w).bare=.ended o w:=by
  simp only[cbot,Frame.raise] at hc ⊢
  simp only[stepG,unwind,hc,if_true]
  exact⟨_,rfl⟩
 obtain⟨o,h⟩:=h
 exact⟨o,w,step_lone_ended h⟩
theorem zc1(v:Value)(w:World):∃ o w',step P (lone ((cbot P).finish v) [] w)=.ended o w':=by
 have h:∃ o,(stepG P true {frame:=(cbot P).finish v,callers:=[],status:=.running,dying:=none} w).bare=.ended o w:=by
  simp only[cbot,Frame.finish,stepG,stepG.exec,next_none,Option.elim]
  exact⟨_,rfl⟩
 obtain⟨o,h⟩:=h
 exact⟨o,w,step_lone_ended h⟩
theorem zfj{fr:Frame}{w:World}(hm:fr.mode=.returning)(hd:fr.defers=[])(hk:fr.kind=.normal)(hf:∃ fn,P.funcs[fr.fn]?=some fn) :
  (∃ o w',step P (lone fr [cbot P] w)=.ended o w')∨∃ v w',step P (lone fr [cbot P] w)=.next (lone ((cbot P).finish v) [] w'):=by
 obtain⟨fn,hfn⟩:=hf
 have e1:(stepG P true {frame:=fr,callers:=[cbot P],status:=.running,dying:=none} w).bare=(match(results fn fr.tmps).run P w with
    |.ok v w=>GStep.go {frame:=(cbot P).finish v,callers:=[],status:=.running,dying:=none} w
    |.halt (.stuck s) w=>.ended (.stuck s (fr.pos P)) w
    |.halt _ w=>.ended (.stuck "return: the result variables cannot be read" (fr.pos P)) w):=by
  obtain⟨f1,f2,f3,f4,f5,f6,f7⟩:=fr
  simp only at hm hd hk hfn
  subst hm hd hk
  simp only[stepG,unwind,hfn,Sem.runT_eq,GStep.bare_after]
  generalize (results fn f2).run P w=res
  cases res with
  |ok _ _=>rfl
  |halt h _=>cases h<;>rfl
 cases h:(results fn fr.tmps).run P w with
 |ok v w1=>exact .inr ⟨v,w1,step_lone_go (by rw[e1,h])⟩
 |halt hh w1=>
  left
  rw[h] at e1
  cases hh<;>exact⟨_,_,step_lone_ended (by rw[e1])⟩
theorem zde{fr:Frame}{w:World}(hm:fr.mode=.returning)(hd:fr.defers=[])(hk:fr.kind=.normal)(hf:∃ fn,P.funcs[fr.fn]?=some fn) :
  ∀ (n:Nat) (frE:Frame) (w':World),0<n→runN P n (lone fr [cbot P] w)≠.next (lone frE [cbot P] w'):=by
 intro n frE w' hn h
 obtain⟨n,rfl⟩:∃ m,n=m+1:=⟨n-1,by omega⟩
 rcases zfj (w:=w) hm hd hk hf with⟨o,w1,e⟩|⟨v,w1,e⟩
 ·simp[runN,e] at h
 ·simp only[runN,e] at h
  cases n with
  |zero=>simp[runN,lone] at h
  |succ n=>
   obtain⟨o,w2,e2⟩:=zc1 (P:=P) v w1
   simp[runN,e2] at h
theorem zfo:∀ (n:Nat) (fr:Frame) (ks:List Frame) (w:World) (chain:List PanicEntry),fr.mode=.panicking chain→fr.defers=[]→(∃ fn,P.funcs[fr.fn]?=some fn)→(∀ k∈ks,k.defers=[]∧∃ fn,P.funcs[k.fn]?=some fn) →
  ∀ (frE:Frame) (w':World),runN P n (lone fr (ks++[cbot P]) w)=.next (lone frE [cbot P] w')→∃ c,frE.mode=.panicking c:=by
 intro n
 induction n with
 |zero=>
  intro fr ks w chain hm _ _ _ frE w' h
  simp only[runN,Stepped.next.injEq,lone,Machine.mk.injEq] at h
  have:=h.2.1
  simp at this
  rw[← this.1];exact⟨chain,hm⟩
 |succ n ih=>
  intro fr ks w chain hm hd hf hk frE w' h
  cases ks with
  |nil=>
   have e:=step_leave_panicked (P:=P) (fr:=fr) (c:=cbot P) (cs:=[]) (w:=w) (chain:=chain) ⟨hm,hd,hf⟩
   simp only[runN,List.nil_append,e] at h
   cases n with
   |zero=>
    simp only[runN,Stepped.next.injEq,lone,Machine.mk.injEq] at h
    have:=h.2.1
    simp at this
   |succ n=>
    obtain⟨o,w2,e2⟩:=zdm (P:=P) chain w
    simp[runN,e2] at h
  |cons k ks=>
   have e:=step_leave_panicked (P:=P) (fr:=fr) (c:=k) (cs:=ks++[cbot P]) (w:=w) (chain:=chain) ⟨hm,hd,hf⟩
   simp only[runN,List.cons_append,e] at h
   have hkk:=hk k List.mem_cons_self
   have hr:∃ c,(k.raise chain).mode=.panicking c:=by unfold Frame.raise;split<;>exact⟨_,rfl⟩
   obtain⟨c,hc⟩:=hr
   exact ih (k.raise chain) ks w c hc (by unfold Frame.raise;split<;>exact hkk.1) (by unfold Frame.raise;split<;>exact hkk.2) (fun x hx=>hk x (List.mem_cons_of_mem _ hx)) frE w' h
end
end Go.Mn
