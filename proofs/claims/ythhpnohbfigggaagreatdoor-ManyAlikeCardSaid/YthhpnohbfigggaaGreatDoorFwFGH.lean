/- The frame: pieces of code one behind the other, loops, joins, the end of a function; and the small language in which a function's meaning is written. No program in sight. -/
import Derived.Test.YthhpnohbfigggaaGreatDoorFwABCDE
import Derived.KernelRfl
import Derived.Lib.SliceRun
set_option linter.all false
namespace Go.Fw
open Go.RowKit
inductive Fl(ρ β σ:Type) where
 |nx (s:σ)
 |br (b:β)
 |rt (r:ρ)
def z5e{ρ β σ τ:Type}(x:Option (Fl ρ β σ))(k:σ→Option (Fl ρ β τ)):Option (Fl ρ β τ):=match x with
 |some (.nx s)=>k s
 |some (.br b)=>some (.br b)
 |some (.rt r)=>some (.rt r)
 |none=>none
def z2f{ρ β σ:Type}(x:Option (Fl ρ β σ))(k:σ→Option ρ):Option ρ:=match x with
 |some (.nx s)=>k s
 |some (.rt r)=>some r
 |_=>none
def z40{ρ β σ γ:Type}(body:σ→Option (Fl ρ β σ)):Nat→σ→Option (Fl ρ γ β)
 |0,_=>none
 |n+1,s=>match body s with
  |some (.nx s')=>z40 body n s'
  |some (.br b)=>some (.nx b)
  |some (.rt r)=>some (.rt r)
  |none=>none
def z2w{ρ σ α γ:Type}(body:Nat→α→σ→Option (Fl ρ σ σ)):List α→Nat→σ→Option (Fl ρ γ σ)
 | [],_,s=>some (.nx s)
 |x::l,i,s=>match body i x s with
  |some (.nx s')=>z2w body l (i+1) s'
  |some (.br s')=>some (.nx s')
  |some (.rt r)=>some (.rt r)
  |none=>none
def z5s{ρ σ γ:Type}(body:Nat→σ→Option (Fl ρ σ σ)):Nat→Nat→σ→Option (Fl ρ γ σ)
 |0,_,s=>some (.nx s)
 |n+1,i,s=>match body i s with
  |some (.nx s')=>z5s body n (i+1) s'
  |some (.br s')=>some (.nx s')
  |some (.rt r)=>some (.rt r)
  |none=>none
def idx{α:Type}(l:List α)(i:Int):Option α:=if 0≤i then l[i.toNat]? else none
def wadd(x y:Int):Int:=IntKind.i64.wrap (x+y)
def wsub(x y:Int):Int:=IntKind.i64.wrap (x-y)
def wmul(x y:Int):Int:=IntKind.i64.wrap (x*y)
def room:Nat:=68719476736
theorem z8{α:Type}{l:List α}{i:Int}{x:α}(h:idx l i=some x):0≤i∧i<l.length∧l[i.toNat]?=some x:=by
 unfold idx at h
 split at h
 ·rename_i h0
  have:=(List.getElem?_eq_some_iff.1 h).1
  exact⟨h0,by omega,h⟩
 ·cases h
def chk(p:Prop)[Decidable p]:Option Unit:=if p then some () else none
theorem z15{p:Prop}[Decidable p]{u:Unit}(h:chk p=some u):p:=by
 unfold chk at h
 split at h
 ·assumption
 ·cases h
theorem z7{α β:Type}{x:Option α}{k:α→Option β}{r:β}(h:x.bind k=some r):∃ y,x=some y∧k y=some r:=Option.bind_eq_some_iff.1 h
theorem z13{α:Type}{b:Bool}{A B r:α}(hb:b=true)(h:(if b=true then A else B)=r):A=r:=by rw[if_pos hb] at h;exact h
theorem z14{α:Type}{b:Bool}{A B r:α}(hb:b=false)(h:(if b=true then A else B)=r):B=r:=by rw[if_neg (by rw[hb];simp)] at h;exact h
section
variable {ρ β σ τ γ:Type}
theorem bindF_some{x:Option (Fl ρ β σ)}{k:σ→Option (Fl ρ β τ)}{z:Fl ρ β τ}(h:z5e x k=some z):∃ y,x=some y∧z5e (some y) k=some z:=by
 cases x with
 |none=>cases h
 |some y=>exact⟨y,rfl,h⟩
theorem bindR_some{x:Option (Fl ρ β σ)}{k:σ→Option ρ}{z:ρ}(h:z2f x k=some z):∃ y,x=some y∧z2f (some y) k=some z:=by
 cases x with
 |none=>cases h
 |some y=>exact⟨y,rfl,h⟩
theorem z1z{x:Option (Fl ρ β σ)}{k:σ→Option ρ}{z:ρ}(h:z2f x k=some z):∃ (y:Fl ρ β σ) (K:Fl ρ β σ→Prop),x=some y∧K y∧(∀ s,K (.nx s)→k s=some z)∧(∀ r,K (.rt r)→r=z)∧(∀ b,¬ K (.br b)):=by
 obtain⟨y,h1,h2⟩:=bindR_some h
 exact⟨y,fun y=>z2f (some y) k=some z,h1,h2,fun s h=>h,fun r h=>by simpa[z2f] using h,fun b h=>by simp[z2f] at h⟩
theorem z78{x:Option (Fl ρ β σ)}{k:σ→Option (Fl ρ β τ)}{z:Fl ρ β τ}(h:z5e x k=some z):∃ (y:Fl ρ β σ) (K:Fl ρ β σ→Prop),x=some y∧K y∧(∀ s,K (.nx s)→k s=some z)∧(∀ r,K (.rt r)→z=.rt r)∧(∀ b,K (.br b)→z=.br b):=by
 obtain⟨y,h1,h2⟩:=bindF_some h
 exact⟨y,fun y=>z5e (some y) k=some z,h1,h2,fun s h=>h,fun r h=>by simpa[z5e] using h.symm,fun b h=>by simpa[z5e] using h.symm⟩
def stepL(body:Nat→τ→σ→Option (Fl ρ σ σ))(l:List τ)(i:Nat):Fl ρ σ σ→Option (Fl ρ γ σ)
 |.nx s=>z2w body l (i+1) s
 |.br s=>some (.nx s)
 |.rt r=>some (.rt r)
theorem z2x{body:Nat→τ→σ→Option (Fl ρ σ σ)}{x:τ}{l:List τ}{i:Nat}{s:σ}{y:Fl ρ γ σ}(h:z2w body (x::l) i s=some y):∃ z,body i x s=some z∧stepL body l i z=some y:=by
 unfold z2w at h
 cases hb:body i x s with
 |none=>rw[hb] at h;cases h
 |some z=>rw[hb] at h;cases z<;>exact⟨_,rfl,h⟩
def stepN(body:Nat→σ→Option (Fl ρ σ σ))(n:Nat)(i:Nat):Fl ρ σ σ→Option (Fl ρ γ σ)
 |.nx s=>z5s body n (i+1) s
 |.br s=>some (.nx s)
 |.rt r=>some (.rt r)
theorem z8n{body:Nat→σ→Option (Fl ρ σ σ)}{n i:Nat}{s:σ}{y:Fl ρ γ σ}(h:z5s body (n+1) i s=some y):∃ z,body i s=some z∧stepN body n i z=some y:=by
 unfold z5s at h
 cases hb:body i s with
 |none=>rw[hb] at h;cases h
 |some z=>rw[hb] at h;cases z<;>exact⟨_,rfl,h⟩
def stepM(body:σ→Option (Fl ρ β σ))(n:Nat):Fl ρ β σ→Option (Fl ρ γ β)
 |.nx s=>z40 body n s
 |.br b=>some (.nx b)
 |.rt r=>some (.rt r)
theorem z58{body:σ→Option (Fl ρ β σ)}{n:Nat}{s:σ}{y:Fl ρ γ β}(h:z40 body n s=some y):∃ m z,n=m+1∧body s=some z∧stepM body m z=some y:=by
 cases n with
 |zero=>cases h
 |succ m=>
  unfold z40 at h
  cases hb:body s with
  |none=>rw[hb] at h;cases h
  |some z=>rw[hb] at h;cases z<;>exact⟨m,_,rfl,rfl,h⟩
end
theorem wrap_succ(i:Nat)(h:(i:Int)+1≤9223372036854775807):IntKind.i64.wrap ((i:Int)+1)=((i+1:Nat):Int):=by
 rw[IntKind.wrap_i64];omega
theorem binI_succ(i:Nat)(h:(i:Int)+1≤9223372036854775807):binI .add .i64 (i:Int) 1=some (.int .i64 ((i+1:Nat):Int)):=by
 simp only[binI,wrap_succ i h]
theorem z48{α:Type}{l rest:List α}{i n:Nat}(h:l.drop i=rest)(hn:l.length=n)(hi:i<n):∃ x r,rest=x::r∧l[i]?=some x∧l.drop (i+1)=r:=by
 subst hn
 refine⟨l[i],l.drop (i+1),?_,by simp[hi],rfl⟩
 rw[← h];simp
def wps(P:Program)(Q:Exit→Act→World→Prop):List Code→Act→World→Prop
 | [],a,w=>Q .normal a w
 |x::r,a,w=>x.wp P (Exit.then (wps P Q r) Q) a w
def GL(P:Program)(Q:Exit→Act→World→Prop)(c:Cx)(l:List Code)(env:Env)(L:List It):Prop:=∀ a w,St c env L a w→wps P Q l a w
section
variable {P:Program}{Q:Exit→Act→World→Prop}{c:Cx}{env env':Env}{L L':List It}{r:List Code}
theorem GL.nil(h:Gx Q c .normal env L):GL P Q c [] env L:=h
theorem GL.seq{x y:Code}(h:GL P Q c (x::y::r) env L):GL P Q c (.seq x y::r) env L:=fun a w st=>
 wp_seq (Go.Code.wp_mono (fun e a w q=>by cases e<;>exact q) (h a w st))
theorem GL.skip(h:GL P Q c r env L):GL P Q c (.skip::r) env L:=fun a w st=>wp_skip (h a w st)
theorem RL.finG{ops:Array Oper}(h:GL P Q c r env L):RL .plain P ops (Exit.then (wps P Q r) Q) c [] env L:=RL.fin h
theorem RL.finQG{ops:Array Oper}{n0:Nat}(h:GL P Q c r env L):RL (.quiet n0) P ops (Exit.then (wps P Q r) Q) c [] env L:=RL.finQ h
theorem GL.nilB{id:Nat}(h:GL P Q c r env L):GL P (Exit.inBlock id (Exit.then (wps P Q r) Q)) c [] env L:=h
theorem Gx.here{id:Nat}(h:GL P Q c r env L):Gx (Exit.inBlock id (Exit.then (wps P Q r) Q)) c (.exit id) env L:=fun a w st=>by
 show(if id=id then _ else _)
 rw[if_pos rfl];exact h a w st
theorem GL.ret(h:Gx Q c .ret env L):GL P Q c (.ret::r) env L:=fun a w st=>wp_ret (h a w st)
theorem GL.exit{id:Nat}(h:Gx Q c (.exit id) env L):GL P Q c (.exit id::r) env L:=fun a w st=>wp_exit (h a w st)
theorem GL.region{id:Nat}{l:List Oper}(h:RL .plain P l.toArray (Exit.then (wps P Q r) Q) c l env L):GL P Q c (.region id l.toArray false::r) env L:=fun a w st=>wp_region_lit (h a w st)
theorem Below.drew'{B:Nat}{a w:World}(h:Below B a w):Below B a {w with drawn:=w.drawn+1} := ⟨h.os,h.tape,h.output,h.size,h.block⟩
theorem z2h.drew{B:Nat}{S:Hp}{f:Nat→Hp}{n:Nat}{w:World}(h:z2h B S f n w):z2h B S f n {w with drawn:=w.drawn+1} := ⟨h.sub,h.subf,h.dS,h.df,h.lo⟩
theorem St.drew{a:Act}{w:World}(hq:c.still=false)(st:St c env L a w):St c env L a {w with drawn:=w.drawn+1} := by
 obtain⟨S,f,e1,e2,e3,e4⟩:=st.heap
 exact⟨st.defers,st.size,st.env,Below.drew' st.below,(fun q=>by rw[hq] at q;cases q),S,f,e1,e2,e3.drew,e4⟩
theorem GL.regionQ{id:Nat}{l:List Oper}(hq:c.still=false)(hm:P.follows .mixedOrders=true)(hB:Region.lexB .any l.toArray=true)
  (h:RL (.quiet L.length) P l.toArray (Exit.then (wps P Q r) Q) c l env L):GL P Q c (.region id l.toArray true::r) env L:=fun a w st=>by
 have st':=st.drew hq
 obtain⟨S,f,e1,e2,e3,e4⟩:=st.heap
 have hits:Its L S (fcat f L.length fun _=>Hp.emp):=fun i A hA=>by
  have hi:=(List.getElem?_eq_some_iff.1 hA).1
  unfold fcat;rw[if_pos hi];exact e4 i A hA
 have:=h S f e1 e2 (Nat.le_refl _) hits a st.defers st.size st.env
 exact wp_region_quiet (C:=Cl c S f L.length) hm hB ⟨e3.drew,st'.below,hq⟩ (by simpa using this)
theorem GL.regionH{id:Nat}{l:List Oper}(n:Nat)(hq:c.still=false)(hm:P.follows .mixedOrders=true)(hB:Region.lexTailB .any l.toArray n=true)
  (h:RL (.head (l.drop n)) P l.toArray (Exit.then (wps P Q r) Q) c (l.take n) env L):GL P Q c (.region id l.toArray true::r) env L:=fun a w st=>
 wp_region_still_tail n hm hB (h a {w with drawn:=w.drawn+1} (st.drew hq))
theorem GL.cond{x:Operand}{A B:Code}{b:Bool}(hx:opv env x=some (.bool b))(h1:b=true→GL P Q c (A::r) env L)(h2:b=false→GL P Q c (B::r) env L):GL P Q c (.cond x A B::r) env L:=fun a w st=>
 wp_cond_split (zf st.env hx) (fun h=>h1 h a w st) (fun h=>h2 h a w st)
theorem GL.block{id:Nat}{b:Code}(h:GL P (Exit.inBlock id (Exit.then (wps P Q r) Q)) c [b] env L):GL P Q c (.block id b::r) env L:=fun a w st=>
 wp_block (Go.Code.wp_mono (fun e a w q=>by cases e<;>exact q) (h a w st))
theorem GL.weak(h:∀ a w,St c env L a w→St c env' L' a w)(k:GL P Q c r env' L'):GL P Q c r env L:=fun a w st=>k a w (h a w st)
theorem GL.open_{α:Type}{t:TR α}{v:Value}{dt:α}{K:Prop}(n:Nat)(hA:L[n]?=some (imm t v dt))(hK:∀ S,t.vrep S v dt→K)(k:K→GL P Q c r env L):GL P Q c r env L:=by
 intro a w st
 obtain⟨S,f,_,_,h⟩:=st.has hA
 exact k (hK S h) a w st
theorem ze{ι:Type}{E:ι→Env}{M:ι→List It}{G:ι→Prop}{a:Act}{w:World}(s:ι)(hG:G s)(st:St c (E s) (M s) a w):∃ s,G s∧St c (E s) (M s) a w:=⟨s,hG,st⟩
theorem z1l{ι:Type}{E:ι→Env}{M:ι→List It}{G:ι→Prop}{μ:ι→Nat}{n:Nat}{a:Act}{w:World}(s:ι)(hG:G s)(hn:μ s<n)(st:St c (E s) (M s) a w):∃ s,G s∧μ s<n∧St c (E s) (M s) a w:=⟨s,hG,hn,st⟩
theorem GL.join{ι:Type}{x:Code}(E:ι→Env)(M:ι→List It)(G:ι→Prop)(h1:GL P (Exit.then (fun a w=>∃ s,G s∧St c (E s) (M s) a w) Q) c [x] env L)(h2:∀ s,G s→GL P Q c r (E s) (M s)):GL P Q c (x::r) env L:=fun a w st=>
 Go.Code.wp_mono (fun e a w q=>by
  cases e with
  |normal=>obtain⟨s,g,st⟩:=q;exact h2 s g a w st
  |_=>exact q) (h1 a w st)
theorem exists_least{p:Nat→Prop}(h:∃ n,p n):∃ n,p n∧∀ m,p m→n≤m:=by
 obtain⟨n,hn⟩:=h
 induction n using Nat.strongRecOn with
 |_ n ih=>
  by_cases hex:∃ m,m<n∧p m
  ·obtain⟨m,hm,hp⟩:=hex;exact ih m hm hp
  ·exact⟨n,hn,fun m hm=>by
    refine Classical.byContradiction fun hlt=>hex ⟨m,by omega,hm⟩⟩
theorem GL.loop{ι:Type}{b:Code}(E:ι→Env)(M:ι→List It)(G:ι→Prop)(μ:ι→Nat)(s0:ι)(h0:G s0)(start:∀ a w,St c env L a w→St c (E s0) (M s0) a w)
  (round:∀ s,G s→GL P (Exit.then (fun a w=>∃ s',G s'∧μ s'<μ s∧St c (E s') (M s') a w) Q) c [b] (E s) (M s)):GL P Q c (.loop b::r) env L:=fun a w st=>by
 let I:Nat→Act→World→Prop:=fun n a w=>∃ s,G s∧μ s=n∧St c (E s) (M s) a w
 have least:∀ a w,∃ n,(∃ m,I m a w)→I n a w∧∀ m,I m a w→n≤m:=fun a w=>by
  by_cases h:∃ m,I m a w
  ·obtain⟨n,h1,h2⟩:=exists_least h;exact⟨n,fun _=>⟨h1,h2⟩⟩
  ·exact⟨0,fun h'=>absurd h' h⟩
 let ν:Act→World→Nat:=fun a w=>Classical.choose (least a w)
 have hν:∀ a w,(∃ m,I m a w)→I (ν a w) a w∧∀ m,I m a w→ν a w≤m:=fun a w=>Classical.choose_spec (least a w)
 refine wp_loop (fun a w=>∃ m,I m a w) ν ⟨_,s0,h0,rfl,start a w st⟩ fun a w hI=>?_
 obtain⟨⟨s,g,hs,st⟩,hmin⟩:=hν a w hI
 refine Go.Code.wp_mono (fun e a' w' q=>?_) (round s g a w st)
 cases e with
 |normal=>
  obtain⟨s',g',hlt,st'⟩:=q
  have hI':∃ m,I m a' w':=⟨_,s',g',rfl,st'⟩
  exact⟨hI',by have:=(hν a' w' hI').2 _ ⟨s',g',rfl,st'⟩;omega⟩
 |_=>exact q
end
def zbb(args:Array Value):Env→Prop
 | []=>True
 |p::r=>args[p.1]?=some p.2∧zbb args r
theorem zbb.look{args:Array Value}:∀ {env:Env},zbb args env→∀ {t:Nat} {v:Value},Fw.look env t=some v→args[t]?=some v
 | [],_,_,_,e=>by cases e
 |p::r,h,t,v,e=>by
  simp only[Fw.look] at e
  split at e
  ·rename_i hp
   cases e
   rw[← hp];exact h.1
  ·exact zbb.look h.2 e
def AllP(S:Hp):List It→Prop
 | []=>True
 |A::r=>A.P S Hp.emp∧AllP S r
theorem AllP.at{S:Hp}:∀ {L:List It},AllP S L→∀ (i:Nat) (A:It),L[i]?=some A→A.P S Hp.emp
 | [],_,_,_,e=>by simp at e
 |B::r,h,0,A,e=>by simp at e;subst e;exact h.1
 |B::r,h,i+1,A,e=>AllP.at h.2 i A (by simpa using e)
theorem zi{P:Program}{fid:FuncId}{fn:Func}{code:Code}(nt:Nat)(hf:P.funcs[fid]?=some fn)(hnt:fn.ntmps=nt)(hb:fn.body=some code){args:Array Value}{w:World}{R:Ending→World→Prop}(S:Hp)(still:Bool)(env:Env)(L:List It)
  (hn:Nat.ble args.size nt=true)(he:zbb args env)(hS:S.sub w)(hL:AllP S L)
  (h:GL P (bodyPost P fn R) ⟨w,S,nt,still,[]⟩ [code] env L):Calls P fid args w R:=by
 refine calls_of_wp hf hb (Go.Code.wp_mono (fun e a w q=>by cases e<;>exact q) (h _ w ?_))
 have hn':=Nat.le_of_ble_eq_true hn
 refine⟨rfl,by simp[hnt];omega,?_,Below.refl _ _,fun _=>rfl,S,fun _=>Hp.emp,Hp.le_refl S,fun b hb=>.inl hb,⟨hS,fun _ _=>Hp.sub_emp w,fun _ _=>Hp.dj_emp S,fun _ _ _ _ _=>Hp.dj_emp _,fun _ _ b hb=>absurd rfl hb⟩,fun i A hA=>hL.at i A hA⟩
 intro t v e
 have:=he.look e
 obtain⟨h1,h2⟩:=Array.getElem?_eq_some_iff.1 this
 simp only
 rw[Array.getElem?_append_left h1]
 exact this
section
variable {P:Program}{fn:Func}{c:Cx}{env:Env}{L:List It}
theorem Gx.ret{R:Ending→World→Prop}{v:Value}(hr:∀ a w,z2g env a→(results fn a.tmps).run P w=.ok v w)(h:∀ a w,St c env L a w→R (.returned v) w)(hd:c.dfs=[]:=by rfl):Gx (bodyPost P fn R) c .ret env L:=fun a w st=>⟨st.defers.trans hd,v,hr a w st.env,h a w st⟩
theorem res1{t:Tmp}{v:Value}(h:fn.results=#[.tmp t])(hv:look env t=some v)(a:Act)(w:World)(he:z2g env a):(results fn a.tmps).run P w=.ok v w:=by
 rw[results_tmp h]
 have:=look_ok he hv
 obtain⟨h1,h2⟩:=Array.getElem?_eq_some_iff.1 this
 simp[h1,h2]
theorem res2{t u:Tmp}{v x:Value}(h:fn.results=#[.tmp t,.tmp u])(hv:look env t=some v)(hx:look env u=some x)(a:Act)(w:World)(he:z2g env a):(results fn a.tmps).run P w=.ok (.tuple #[v,x]) w:=by
 rw[results_tmp2 h]
 obtain⟨h1,h2⟩:=Array.getElem?_eq_some_iff.1 (look_ok he hv)
 obtain⟨h3,h4⟩:=Array.getElem?_eq_some_iff.1 (look_ok he hx)
 simp[h1,h2,h3,h4]
theorem res3{t u s:Tmp}{v x y:Value}(h:fn.results=#[.tmp t,.tmp u,.tmp s])(hv:look env t=some v)(hx:look env u=some x)(hy:look env s=some y)(a:Act)(w:World)(he:z2g env a):(results fn a.tmps).run P w=.ok (.tuple #[v,x,y]) w:=by
 obtain⟨h1,h2⟩:=Array.getElem?_eq_some_iff.1 (look_ok he hv)
 obtain⟨h3,h4⟩:=Array.getElem?_eq_some_iff.1 (look_ok he hx)
 obtain⟨h5,h6⟩:=Array.getElem?_eq_some_iff.1 (look_ok he hy)
 simp[results,h,h1,h2,h3,h4,h5,h6]
theorem St.toPostV{a:Act}{w:World}{v:Value}(st:St c env L a w):z45 c.w0 v (.returned v) w:=⟨rfl,st.below⟩
theorem St.toPostC{a:Act}{w:World}{v:Value}(hs:c.still=true)(st:St c env L a w):PostC c.w0 v (.returned v) w:=⟨rfl,st.calm hs⟩
theorem St.toPost{O:Type}{V:O→Value}{LR:O→List It}{a:Act}{w:World}(o:O)(st:St c env (LR o) a w):Post c.w0 c.S0 V LR (.returned (V o)) w:=by
 obtain⟨S,f,e1,e2,e3,e4⟩:=st.heap
 exact⟨o,rfl,st.below,S,f,e1,e3.sub,e2,fun i hi=>⟨e3.subf i hi,e3.dS i hi,e3.lo i hi⟩,e3.df,e4⟩
end
def z5z:Nat→List (List Value)→List (Nat×Nat)
 |_,[]=>[]
 |o,s::r=>(o,s.length)::z5z (o+s.length) r
theorem zdf:∀ (o:Nat) (zs:List (List Value)) (i:Nat) (s:List Value),zs[i]?=some s→(z5z o zs)[i]?=some (o+(zs.take i).flatten.length,s.length)
 |_,[],_,_,h=>by simp at h
 |o,z::r,0,s,h=>by simp at h;subst h;simp[z5z]
 |o,z::r,i+1,s,h=>by
  have:=zdf (o+z.length) r i s (by simpa using h)
  simp only[z5z,List.getElem?_cons_succ,this,List.take_succ_cons,List.flatten_cons,List.length_append,Nat.add_assoc]
def SzOk(zs:List (List Value))(L:List It):List (Nat×Value)→Prop
 | []=>True
 |p::r=>(∃ (s:List Value) (β:Type) (t:TR β) (e:β),zs[p.1]?=some s∧s.length=t.size∧VR t p.2 e L)∧SzOk zs L r
theorem SzOk.all{zs:List (List Value)}{L:List It}{S:Hp}{f:Nat→Hp}(hi:Its L S f):∀ {pv:List (Nat×Value)},SzOk zs L pv→∀ p∈pv,∃ s,zs[p.1]?=some s∧p.2.cells.toList.length=s.length
 | [],_,p,hp=>by cases hp
 |q::r,h,p,hp=>by
  rcases List.mem_cons.1 hp with rfl|hp
  ·obtain⟨⟨s,β,t,e,h1,h2,h3⟩,_⟩:=h
   obtain⟨cs,h4,h5⟩:=z28 (h3 S f hi)
   exact⟨s,h1,by rw[h4,t.len h5,h2]⟩
  ·exact SzOk.all hi h.2 p hp
def Ex{α:Type}(r:TR α)(enc:α→Value):Prop:=∀ S cs e,r.rep S cs e→mkv r.agg cs=enc e
theorem Ex.ik{k:IntKind}:Ex (TR.ik k) (fun x=>.int k x):=fun _ cs e h=>by have h':cs=[.int k e]:=h;rw[h'];rfl
theorem Ex.str:Ex TR.str (fun x=>.string ⟨x.toArray⟩):=fun _ cs e h=>by have h':cs=[.string ⟨e.toArray⟩]:=h;rw[h'];rfl
section
variable {md:Md}{P:Program}{ops:Array Oper}{Q:Exit→Act→World→Prop}{c:Cx}{rest:List Oper}{env:Env}{L:List It}
variable {d:Nat}{ty:TypeId}{pos:String}{af:Array Edge}{g:Option (Nat×Bool)}
theorem RL.ldSx{α β:Type}{t:TR α}{r:TR β}{l:List α}{v:Value}{x:Operand}{T:TypeId}{i off:Nat}{e:α}{e':β}{enc:β→Value}(n:Nat)(hx':Ex r enc){A:It}(hE:Ln P T r.size r.agg)(hg:wanted ops env g=some true)(hd:Slot c d)
  (hx:opv env x=some (adr v (i*t.size+off)))(hA:L[n]?=some A)(hs:SlOf A t v l)(he:l[i]?=some e)(hp:Part t e off r e')
  (k:RL md P ops Q c rest (put env d (enc e')) L):RL md P ops Q c (⟨some d,.load T x,ty,pos,af,g⟩::rest) env L:=
 RL.rd (X:=fun u Lx=>u=enc e'∧Lx=[]) hg hd (fun S f hi _=>by
  obtain⟨cs,h1,h2⟩:=ldS_rd (ty:=ty) (pos:=pos) (af:=af) (g:=g) (d:=d) n hE hx hA hs he hp S f hi
  exact⟨_,[],⟨rfl,rfl⟩,fun i A hA=>by simp at hA,by rw[← hx' S cs e' h1];exact h2⟩) (by rintro _ _ ⟨rfl,rfl⟩;rw[List.append_nil];exact k)
theorem RL.ldPx{α β:Type}{t:TR α}{r:TR β}{dt:α}{v:Value}{x:Operand}{T:TypeId}{off:Nat}{e':β}{enc:β→Value}(n:Nat)(hx':Ex r enc){A:It}(hE:Ln P T r.size r.agg)(hg:wanted ops env g=some true)(hd:Slot c d)
  (hx:opv env x=some (adr v off)∨(opv env x=some v∧off=0))(hA:L[n]?=some A)(hs:PtOf A t v dt)(hp:Part t dt off r e')
  (k:RL md P ops Q c rest (put env d (enc e')) L):RL md P ops Q c (⟨some d,.load T x,ty,pos,af,g⟩::rest) env L:=
 RL.rd (X:=fun u Lx=>u=enc e'∧Lx=[]) hg hd (fun S f hi _=>by
  obtain⟨cs,h1,h2⟩:=ldP_rd (ty:=ty) (pos:=pos) (af:=af) (g:=g) (d:=d) n hE hx hA hs hp S f hi
  exact⟨_,[],⟨rfl,rfl⟩,fun i A hA=>by simp at hA,by rw[← hx' S cs e' h1];exact h2⟩) (by rintro _ _ ⟨rfl,rfl⟩;rw[List.append_nil];exact k)
theorem RL.split{t:Nat}{b:Bool}(hl:look env t=some (.bool b))(h1:b=true→RL md P ops Q c rest (put env t (.bool true)) L)(h2:b=false→RL md P ops Q c rest (put env t (.bool false)) L):RL md P ops Q c rest env L:=by
 have key:∀ u,b=u→∀ a,z2g env a→z2g (put env t (.bool u)) a:=by
  intro u hu a he k v hk
  simp only[put,look] at hk
  split at hk
  ·rename_i hkt
   subst hkt
   cases hk
   rw[← hu];exact he _ _ hl
  ·exact he _ _ hk
 have all:∀ u,b=u→RL md P ops Q c rest (put env t (.bool u)) L→RL md P ops Q c rest env L:=by
  intro u hu h
  cases md with
  |plain=>exact fun a w st=>h a w (st.mk_env rfl rfl (key u hu a st.env))
  |head tail=>exact fun a w st=>h a w (st.mk_env rfl rfl (key u hu a st.env))
  |quiet n0=>exact fun S f e1 e2 e3 e4 a de s e=>h S f e1 e2 e3 e4 a de s (key u hu a e)
 cases hb:b with
 |true=>exact all true hb (h1 hb)
 |false=>exact all false hb (h2 hb)
theorem RL.pickT{x y z:Operand}{u:Value}(hg:wanted ops env g=some true)(hd:Slot c d)(hx:opv env x=some (.bool true))(hy:opv env y=some u)
  (k:RL md P ops Q c rest (put env d u) L):RL md P ops Q c (⟨some d,.pick x y z,ty,pos,af,g⟩::rest) env L:=
 RL.val hg hd (fun S f a w st=>by simp[execOp,zf st.env hx,asBool,zf st.env hy]) k
theorem RL.bld{α:Type}{t:TR α}{d0:α}{zs:List (List Value)}{T:TypeId}{parts:Array (Nat×Operand)}{pv:List (Nat×Value)}(hag:t.agg=true)(hB:∀ pv,P.built T pv=Instr.fill ((z5z 0 zs).toArray[·]?) zs.flatten.toArray pv)
  (hg:wanted ops env g=some true)(hd:Slot c d)(hx:parts.toList.map (fun p=>(p.1,opv env p.2))=pv.map fun p=>(p.1,some p.2))(hsz:SzOk zs L pv)(hrep:∀ S f,Its L S f→t.rep S (segs zs pv).flatten d0)
  (k:∀ u,RL md P ops Q c rest (put env d u) (L++[imm t u d0])):RL md P ops Q c (⟨some d,.build T parts,ty,pos,af,g⟩::rest) env L:=by
 refine RL.rd (X:=fun u Lx=>Lx=[imm t u d0]) hg hd (fun S f hi _=>?_) (by rintro u _ rfl;exact k u)
 refine⟨.agg (segs zs pv).flatten.toArray,_,rfl,?_,fun a w vw=>?_⟩
 ·intro j B hB'
  match j,hB' with
  |0,hB'=>simp at hB';subst hB';exact⟨_,by simp[mkv,hag],hrep S f hi⟩
 ·have hpv:(parts.map fun(x:Nat×Operand)=>(x.1,a.eval x.2)).toList=pv:=by
   rw[Array.toList_map]
   apply List.ext_getElem?
   intro j
   have:=congrArg (fun l=>l[j]?) hx
   simp only[List.getElem?_map] at this ⊢
   cases hj:parts.toList[j]? with
   |none=>
    rw[hj] at this
    cases hv:pv[j]? with
    |none=>rfl
    |some q=>rw[hv] at this;simp at this
   |some p=>
    rw[hj] at this
    cases hv:pv[j]? with
    |none=>rw[hv] at this;simp at this
    |some q=>
     rw[hv] at this
     simp at this
     simp only[Option.map_some,zf vw.env this.2,this.1]
  have hfill:P.built T (parts.map fun(x:Nat×Operand)=>(x.1,a.eval x.2)).toList=some (segs zs pv).flatten.toArray:=by
   rw[hpv,hB]
   exact zd4 _ pv zs (fun i s hs=>by simpa using zdf 0 zs i s hs) (hsz.all hi)
  have hr:=run_build (P:=P) w T _ _ hfill
  simp only[execOp,Sem.run_bind,hr];rfl
theorem RL.mkF{fid:FuncId}{caps:Array Operand}{vs:List Value}(hg:wanted ops env g=some true)(hd:Slot c d)(hx:caps.toList.map (opv env)=vs.map some)
  (k:RL md P ops Q c rest (put env d (.func (.func fid) #[] vs.toArray)) L):RL md P ops Q c (⟨some d,.makeFunc (.func fid) #[] caps,ty,pos,af,g⟩::rest) env L:=
 RL.val hg hd (fun S f a w st=>by simp[execOp,Instr.makeFunc,zct st.env hx]) k
theorem RL.pickF{x y z:Operand}{u:Value}(hg:wanted ops env g=some true)(hd:Slot c d)(hx:opv env x=some (.bool false))(hz:opv env z=some u)
  (k:RL md P ops Q c rest (put env d u) L):RL md P ops Q c (⟨some d,.pick x y z,ty,pos,af,g⟩::rest) env L:=
 RL.val hg hd (fun S f a w st=>by simp[execOp,zf st.env hx,asBool,zf st.env hz]) k
end
theorem St.nilOwn{c:Cx}{env:Env}{L:List It}{a:Act}{w:World}{α:Type}(e:TypeId)(t:TR α)(st:St c env L a w):St c env (L++[own e t (.slice none 0 0) []]) a w:=
 st.note fun _ _ _ _=>⟨[],⟨by simp,.inl ⟨rfl,rfl⟩⟩,rfl⟩
theorem z77{α:Type}{t:TR α}{v:Value}{l:List α}(S:Hp)(h:t.sl.vrep S v l):l.length≤9223372036854775807:=by
 obtain⟨cs,_,u,xs,_,⟨_,cap,_,h1,h2,_⟩,_⟩:=h
 simp only[maxLen] at h2;omega
theorem GL.lenOwn{P:Program}{Q:Exit→Act→World→Prop}{c:Cx}{r:List Code}{env:Env}{L:List It}{α:Type}{e:TypeId}{t:TR α}{v:Value}{l:List α}(n:Nat)(hA:L[n]?=some (own e t v l))(k:l.length≤9223372036854775807→GL P Q c r env L):GL P Q c r env L:=by
 intro a w st
 obtain⟨S,f,_,_,h⟩:=st.has hA
 obtain⟨xs,h1,_⟩:=h
 obtain⟨_,cap,_,h3,h4,_⟩:=z8m h1
 exact k (by simp only[maxLen] at h4;omega) a w st
end Go.Fw
set_option linter.all false
namespace Go.Fw
theorem Ln.of{P:Program}{T:TypeId}{z:Option Value}{sz b:Nat}{d:TypeDesc}{ag:Bool}(h:(P.info? T).map (fun i=>(i.zero,i.size,i.bytes))=some (z,sz,b))(hu:P.underlying T=some d)(hd:aggDesc d=ag):Ln P T sz ag:=by
 cases hi:P.info? T with
 |none=>rw[hi] at h;cases h
 |some i=>
  rw[hi] at h
  simp at h
  exact⟨i,d,hi,h.2.1,hu,hd⟩
theorem LnO.of{P:Program}{T:TypeId}{z:Value}{sz b:Nat}{zc:List Value}(h:(P.info? T).map (fun i=>(i.zero,i.size,i.bytes))=some (some z,sz,b))(hz:z.cells.toList=zc)(hl:zc.length=sz)(h0:0<sz)(hb:b≤1024):LnO P T sz zc:=by
 cases hi:P.info? T with
 |none=>rw[hi] at h;cases h
 |some i=>
  rw[hi] at h
  simp at h
  exact⟨i,z,hi,h.2.1,h.1,hz,hl,h0,by rw[h.2.2];exact hb⟩
theorem Fit.of{P:Program}{f:FuncId}{fn:Func}(h:P.funcs[f]?=some fn)(h1:(fn.name == "runtime.NumGoroutine")=false)(h2:fn.body.isNone=false):Fit P f:=⟨fn,h,h1,h2⟩
open Go.RowKit
section
variable {md:Md}{P:Program}{ops:Array Oper}{Q:Exit→Act→World→Prop}{c:Cx}{rest:List Oper}{env:Env}{L:List It}
variable {d:Nat}{ty:TypeId}{pos:String}{af:Array Edge}{g:Option (Nat×Bool)}
theorem RL.eqNil{α:Type}{t:TR α}{l:List α}{v:Value}{x y:Operand}{T E yt:TypeId}(n:Nat){A:It}(hT:P.underlying T=some (.slice E))(hg:wanted ops env g=some true)(hd:Slot c d)(hx:opv env x=some v)(hy:opv env y=some (.slice none 0 0))
  (hA:L[n]?=some A)(hs:SlOf A t v l)(k:∀ b:Bool,(b=true→l=[])→RL md P ops Q c rest (put env d (.bool b)) L):RL md P ops Q c (⟨some d,.binOp .eql T x y yt,ty,pos,af,g⟩::rest) env L:=
 RL.rd (X:=fun u Lx=>∃ b,u=.bool b∧(b=true→l=[])∧Lx=[]) hg hd (fun S f hi _=>by
  obtain⟨h,xs,_,⟨ad,cap,rfl,_,_,h2⟩,_⟩:=hs S _ (hi n A hA)
  refine⟨.bool ad.isNone,[],⟨ad.isNone,rfl,?_,rfl⟩,fun i A hA=>by simp at hA,fun a w vw=>?_⟩
  ·intro hb
   rcases h2 with⟨h2,_⟩|⟨b,off,C,ty,fz,rfl,_⟩
   ·exact List.eq_nil_of_length_eq_zero h2
   ·simp at hb
  ·simp[execOp,zf vw.env hx,zf vw.env hy,eqGuard_at_slice,Lib.run_eql_slice_nil w T E ad _ _ _ _ hT]) (by rintro _ _ ⟨b,rfl,hb,rfl⟩;rw[List.append_nil];exact k b hb)
end
def gone:It:=⟨fun _ _=>True,fun _ h=>h⟩
def both(A B:It):It:=⟨fun S f=>∃ f1 f2,f=Hp.cup f1 f2∧Hp.dj f1 f2∧A.P S f1∧B.P S f2,fun l ⟨f1,f2,e,h,a,b⟩=>⟨f1,f2,e,h,A.mono l a,B.mono l b⟩⟩
theorem St.map{c:Cx}{env:Env}{L:List It}{a:Act}{w:World}{A C:It}(n:Nat)(hA:L[n]?=some A)(hC:∀ S f,A.P S f→C.P S f)(st:St c env L a w):St c env (L.set n C) a w:=by
 obtain⟨S,f,e1,e2,e3,e4⟩:=st.heap
 have hn:=(List.getElem?_eq_some_iff.1 hA).1
 refine⟨st.defers,st.size,st.env,st.below,st.calm,S,f,e1,e2,by rw[List.length_set];exact e3,?_⟩
 intro i B hB
 by_cases hin:i=n
 ·subst hin
  rw[List.getElem?_set_self hn] at hB
  cases hB
  exact hC S _ (e4 i A hA)
 ·rw[List.getElem?_set_ne (Ne.symm hin)] at hB
  exact e4 i B hB
theorem St.melt{c:Cx}{env:Env}{L:List It}{a:Act}{w:World}{A C:It}(n:Nat)(hA:L[n]?=some A)(hC:∀ S f,Hp.dj S f→A.P S f→C.P (S.cup f) Hp.emp)(st:St c env L a w):St c env (L.set n C) a w:=by
 obtain⟨S,f,e1,e2,e3,e4⟩:=st.heap
 have hn:=(List.getElem?_eq_some_iff.1 hA).1
 have dj:=e3.dS n hn
 refine⟨st.defers,st.size,st.env,st.below,st.calm,S.cup (f n),fun i=>if i=n then Hp.emp else f i,Hp.le_trans e1 (Hp.le_cup_left _ _),?_,⟨Hp.sub_cup e3.sub (e3.subf n hn),?_,?_,?_,?_⟩,?_⟩
 ·intro b hb
  by_cases hs:S b=none
  ·right
   have:f n b≠none:=fun hf=>hb (by simp[Hp.cup,hs,hf])
   exact e3.lo n hn b this
  ·exact e2 b hs
 ·intro i hi
  rw[List.length_set] at hi
  split
  ·exact Hp.sub_emp w
  ·exact e3.subf i hi
 ·intro i hi
  rw[List.length_set] at hi
  split
  ·exact Hp.dj_emp _
  ·rename_i hin
   intro b
   rcases e3.dS i hi b with h|h
   ·rcases e3.df n i hn hi (Ne.symm hin) b with h'|h'
    ·left;simp[Hp.cup,h,h']
    ·exact .inr h'
   ·exact .inr h
 ·intro i j hi hj hij
  rw[List.length_set] at hi hj
  split
  ·exact Hp.dj_comm (Hp.dj_emp _)
  ·split
   ·exact Hp.dj_emp _
   ·exact e3.df i j hi hj hij
 ·intro i hi b hb
  rw[List.length_set] at hi
  split at hb
  ·exact absurd rfl hb
  ·exact e3.lo i hi b hb
 ·intro i B hB
  by_cases hin:i=n
  ·subst hin
   rw[List.getElem?_set_self hn] at hB
   cases hB
   show C.P (S.cup (f i)) (if i=i then Hp.emp else f i)
   rw[if_pos rfl]
   exact hC S _ dj (e4 i A hA)
  ·rw[List.getElem?_set_ne (Ne.symm hin)] at hB
   show B.P (S.cup (f n)) (if i=n then Hp.emp else f i)
   rw[if_neg hin]
   exact B.mono (Hp.le_cup_left _ _) (e4 i B hB)
def TR.raw:TR Value where
 size:=1
 agg:=false
 rep _ cs x:=cs=[x]∧x.oneCell'=true
 len h:=by rw[h.1];rfl
 mono _ h:=h
 flat h u hu:=by obtain⟨rfl,h⟩:=h;simp at hu;rw[hu];exact h
 one _:=rfl
def rowv(vs:List Value)(i:Nat):Value:=vs.getD i (.slice none 0 0)
def Bl(v:Value)(b:Nat):Prop:=∃ n cap,v=.slice (some ⟨b,0,none⟩) n cap
structure Rows{α:Type}(es e:TypeId)(t:TR α)(v:Value)(vs:List Value)(d:List (List α))(S f:Hp):Prop where
 sp:ze0 es 1 f v vs.length vs
 len:vs.length=d.length
 row:∀ i r,d[i]?=some r→∃ xs,ze0 e t.size f (rowv vs i) r.length xs∧reps t S xs r
 ap:∀ i j,i<d.length→j<d.length→i≠j→∀ b,Bl (rowv vs i) b→¬ Bl (rowv vs j) b
 as:∀ i,i<d.length→∀ b,Bl (rowv vs i) b→¬ Bl v b
open Go.RowKit Go.Region
section
variable {P:Program}{ops:Array Oper}{md:Region.Mode}{w:World}
def hdB(ops:Array Oper)(hd:List Nat)(n:Nat)(l0:Array Bool):Bool:=
 decide (l0.size=ops.size) && !(hd.contains n) &&
 hd.all (fun i=>decide (i<ops.size)&&(List.range ops.size).any fun j=>decide (i<j)&&(hd.contains j||j==n)&&Region.waitsFor .any ops j i) &&
 (List.range ops.size).all (fun t=>hd.contains t||l0.getD t true||t==n||(List.range ops.size).any fun s => !(hd.contains s) && !(l0.getD s true)&&Region.waitsFor .any ops t s)
def lexHd(ops:Array Oper):List Nat→Array Bool→Bool
 | [],_=>true
 |k::r,l=>(Region.ready .any ops l).contains k&&Region.free .any ops l k&&lexHd ops r (l.setIfInBounds k true)
def setAll:List Nat→Array Bool→Array Bool
 | [],l=>l
 |k::r,l=>setAll r (l.setIfInBounds k true)
structure HdInv(ops:Array Oper)(hd:List Nat)(l0 listed:Array Bool):Prop where
 size:listed.size=ops.size
 closed:∀ j oj,hd.contains j=true→ops[j]?=some oj→listed.getD j false=true→∀ e∈oj.after,Region.binds .any e=true→listed.getD e.on false=true
 late:∀ t,t<ops.size→hd.contains t=false→l0.getD t true=false→listed.getD t true=false
theorem HdInv.set{hd:List Nat}{l0 listed:Array Bool}{i:Nat}(inv:HdInv ops hd l0 listed)(hi:i∈Region.ready .any ops listed)(hin:hd.contains i=true):HdInv ops hd l0 (listed.setIfInBounds i true):=by
 obtain⟨_,oi,hoi,hall⟩:=mem_ready.1 hi
 refine⟨by simp[inv.size],fun j oj hjh hj hl e he hb=>?_,fun t ht h1 h2=>?_⟩
 ·by_cases hij:i=j
  ·subst hij
   have:oj=oi:=Option.some.inj (hj.symm.trans hoi)
   subst this
   exact getD_set_true (hall e he hb)
  ·rw[getD_set_ne false hij] at hl
   exact getD_set_true (inv.closed j oj hjh hj hl e he hb)
 ·have hne:i≠t:=fun e=>by subst e;rw[hin] at h1;cases h1
  rw[getD_set_ne true hne];exact inv.late t ht h1 h2
theorem late_waits{hd:List Nat}{n:Nat}{l0 listed:Array Bool}(hB:hdB ops hd n l0=true)(inv:HdInv ops hd l0 listed) :
  ∀ (d i:Nat),ops.size-i=d→hd.contains i=true→listed.getD i true=false→∀ t,hd.contains t=false→l0.getD t true=false→t∉Region.ready .any ops listed:=by
 simp only[hdB,Bool.and_eq_true,decide_eq_true_eq] at hB
 obtain⟨⟨⟨hsz,hnn⟩,hs⟩,hc⟩:=hB
 intro d
 induction d using Nat.strongRecOn with
 |_ d ih=>
  intro i hd' hi hun t ht h0 hr
  obtain⟨_,ot,hot,hall⟩:=mem_ready.1 hr
  have htlt:t<ops.size:=(Array.getElem?_eq_some_iff.1 hot).1
  by_cases htn:t=n
  ·subst htn
   have h1:=List.all_eq_true.1 hs i (by simpa using hi)
   simp only[Bool.and_eq_true,decide_eq_true_eq] at h1
   obtain⟨hilt,h1⟩:=h1
   obtain⟨j,hj,hj2⟩:=List.any_eq_true.1 h1
   simp only[Bool.and_eq_true,decide_eq_true_eq,Bool.or_eq_true,beq_iff_eq] at hj2
   obtain⟨⟨hij,hj3⟩,hj4⟩:=hj2
   obtain⟨oj,hoj,e,he,hb,hon⟩:=Region.waitsFor_spec hj4
   have hjs:j<ops.size:=List.mem_range.1 hj
   by_cases hjt:j=t
   ·subst hjt
    have:oj=ot:=Option.some.inj (hoj.symm.trans hot)
    subst this
    have h2:=hall e he hb
    rw[hon,getD_both hun] at h2
    cases h2
   ·have hjh:hd.contains j=true:=by
     rcases hj3 with h|h
     ·exact h
     ·exact absurd h hjt
    cases hl:listed.getD j false with
    |true=>
     have h2:=inv.closed j oj hjh hoj hl e he hb
     rw[hon,getD_both hun] at h2
     cases h2
    |false=>
     exact ih (ops.size-j) (by omega) j rfl hjh (getD_in (by rw[inv.size];exact hjs) hl) t ht h0 hr
  ·have h1:=List.all_eq_true.1 hc t (List.mem_range.2 htlt)
   simp only[Bool.or_eq_true,beq_iff_eq] at h1
   rcases h1 with((h1|h1)|h1)|h1
   ·rw[ht] at h1;cases h1
   ·rw[h0] at h1;cases h1
   ·exact htn h1
   ·obtain⟨s,hs1,hs2⟩:=List.any_eq_true.1 h1
    simp only[Bool.and_eq_true,Bool.not_eq_true'] at hs2
    obtain⟨⟨hs3,hs4⟩,hs5⟩:=hs2
    obtain⟨o',ho',e,he,hb,hon⟩:=Region.waitsFor_spec hs5
    have:o'=ot:=Option.some.inj (ho'.symm.trans hot)
    subst this
    have h2:=hall e he hb
    rw[hon,getD_both (inv.late s (List.mem_range.1 hs1) hs3 hs4)] at h2
    cases h2
def wpAnyH(P:Program)(ops:Array Oper)(w:World)(hd:List Nat)(Lq:Array Bool→Act→Prop):Nat→Array Bool→Act→Prop
 |0,listed,a=>Lq listed a
 |f+1,listed,a=>
  Region.ready .any ops listed≠[]∧∀ i∈Region.ready .any ops listed,hd.contains i=true∧stOp P ops w i (wpAnyH P ops w hd Lq f (listed.setIfInBounds i true)) a
theorem zd6{hd:List Nat}{g:Nat}{Lq:Array Bool→Act→Prop}{Q':Exit→Act→World→Prop}(hL:∀ listed a,Lq listed a→wpAny P .any ops Q' g listed a w) :
  ∀ (f:Nat) (listed:Array Bool) (a:Act),wpAnyH P ops w hd Lq f listed a→wpAny P .any ops Q' (f+g) listed a w
 |0,listed,a,h=>by rw[Nat.zero_add];exact hL _ _ h
 |f+1,listed,a,h=>by
  rw[show f+1+g=(f+g)+1 by omega]
  exact⟨fun h0=>absurd h0 h.1,fun i hi=>wpOp_of_stOp (fun a' h'=>zd6 hL f _ a' h') (h.2 i hi).2⟩
theorem wpAnyH_first{hd:List Nat}{n i:Nat}{l0:Array Bool}{oi:Oper}{v:Value}{Lq:Array Bool→Act→Prop}(hi:ops[i]?=some oi)(hsel:∀ (j:Nat) (o:Oper) cs b,ops[j]?=some o→o.op≠.select cs b)
  (hB:hdB ops hd n l0=true)(hin:hd.contains i=true)(hl0:∀ t,l0.getD t true=true→t∉hd→∀ listed:Array Bool,HdInv ops hd l0 listed→(∀ k,l0.getD k true=true→listed.getD k true=true)→listed.getD t true=true)
  (hdone:∀ listed a,Lq listed a→∀ j∈Region.ready .any ops listed,hd.contains j=false) :
  ∀ (f:Nat) (listed:Array Bool) (a:Act),HdInv ops hd l0 listed→(∀ k,l0.getD k true=true→listed.getD k true=true) →
   (∀ j oj,ops[j]?=some oj→j≠i→listed.getD j true=false→(∀ e∈oj.after,Region.binds .any e=true→e.on≠i)→oi.apart ops oj=true) →
   i∈Region.ready .any ops listed→YieldsAt P ops w oi v a →
   wpAnyH P ops w hd Lq f (listed.setIfInBounds i true) (a.put oi.dst v)→wpAnyH P ops w hd Lq (f+1) listed a:=by
 intro f
 have inhd:∀ listed:Array Bool,HdInv ops hd l0 listed→(∀ k,l0.getD k true=true→listed.getD k true=true)→listed.getD i true=false→∀ j∈Region.ready .any ops listed,hd.contains j=true:=by
  intro listed inv hk hun j hj
  cases hc:hd.contains j with
  |true=>rfl
  |false=>
   exfalso
   have hju:=(mem_ready.1 hj).1
   cases h0:l0.getD j true with
   |true=>rw[hk j h0] at hju;cases hju
   |false=>exact late_waits hB inv _ i rfl hin hun j hc h0 hj
 have hset:∀ (listed:Array Bool) (q:Nat),(∀ k,l0.getD k true=true→listed.getD k true=true)→(∀ k,l0.getD k true=true→(listed.setIfInBounds q true).getD k true=true):=by
  intro listed q hk k h
  by_cases hqk:q=k
  ·subst hqk
   rcases Nat.lt_or_ge q listed.size with h'|h'
   ·simp[h']
   ·simp[Array.getElem?_eq_none,h']
  ·rw[getD_set_ne true hqk];exact hk k h
 induction f with
 |zero=>
  intro listed a inv hk _ hr hy H
  have hun:=(mem_ready.1 hr).1
  refine⟨fun h=>(by rw[h] at hr;cases hr),fun j hj=>?_⟩
  refine⟨inhd listed inv hk hun j hj,?_⟩
  by_cases hji:j=i
  ·subst hji;exact hy.stOp hi H
  ·have h1:=hdone _ _ H j (ready_mono hj hji)
   rw[inhd listed inv hk hun j hj] at h1
   cases h1
 |succ f ih=>
  intro listed a inv hk hfree hr hy H
  have hun:=(mem_ready.1 hr).1
  refine⟨fun h=>(by rw[h] at hr;cases hr),fun j hj=>?_⟩
  have hjh:=inhd listed inv hk hun j hj
  refine⟨hjh,?_⟩
  by_cases hji:j=i
  ·subst hji;exact hy.stOp hi H
  ·have h1:=(H.2 j (ready_mono hj hji)).2
   obtain⟨hjun,oj,hoj,hall⟩:=mem_ready.1 hj
   have hnot:∀ e∈oj.after,Region.binds .any e=true→e.on≠i:=fun e he hb heq=>by
    have h1:=hall e he hb
    rw[heq,getD_both hun] at h1
    cases h1
   have h2:=stOp_put hoj (hfree j oj hoj hji hjun hnot) (fun cs b=>hsel i oi cs b hi) (fun cs b=>hsel j oj cs b hoj) hy h1
   have hfree':∀ k ok,ops[k]?=some ok→k≠i→(listed.setIfInBounds j true).getD k true=false →
     (∀ e∈ok.after,Region.binds .any e=true→e.on≠i)→oi.apart ops ok=true:=fun k ok hk hki hun hno=>by
    refine hfree k ok hk hki ?_ hno
    by_cases hjk:j=k
    ·subst hjk;exact hjun
    ·rw[getD_set_ne true hjk] at hun;exact hun
   refine stOp_mono (fun a' h3=>ih (listed.setIfInBounds j true) a' (inv.set hj hjh) (hset listed j hk) hfree' (ready_mono hr (Ne.symm hji)) h3.1 ?_) h2
   rw[Array.setIfInBounds_comm _ _ hji]
   exact h3.2
def z6h(ops:Array Oper):List Nat→List Oper
 | []=>[]
 |k::r=>match ops[k]? with
  |some o=>o::z6h ops r
  |none=>[]
theorem zed{hd:List Nat}{n:Nat}{l0 le:Array Bool}{K:Act→Prop}(hsel:Region.noSelect ops=true)(hB:hdB ops hd n l0=true)(hend:(Region.ready .any ops le).all (fun j => !(hd.contains j))=true) :
  ∀ (l:List Nat) (listed:Array Bool) (a:Act),(∀ k∈l,hd.contains k=true)→setAll l listed=le→HdInv ops hd l0 listed→(∀ k,l0.getD k true=true→listed.getD k true=true) →
  lexHd ops l listed=true→wpStill P ops w K (z6h ops l) a→wpAnyH P ops w hd (fun listed' a'=>listed'=le∧K a') l.length listed a
 | [],listed,a,_,hs,_,_,_,h=>⟨hs,h⟩
 |k::l,listed,a,hin,hs,inv,hk,hlex,h=>by
  simp only[lexHd,Bool.and_eq_true] at hlex
  obtain⟨⟨hr,hf⟩,hlex'⟩:=hlex
  have hr':k∈Region.ready .any ops listed:=by simpa using hr
  obtain⟨_,o,h0,_⟩:=mem_ready.1 hr'
  simp only[z6h,h0] at h
  have hst:stOp P ops w k (wpStill P ops w K (z6h ops l)) a:=by unfold stOp;simp only[h0];exact h
  obtain⟨v,hy,hK⟩:=yieldsAt_of_stOp h0 hst
  have hkin:=hin k (by simp)
  have hset:∀ q,l0.getD q true=true→(listed.setIfInBounds k true).getD q true=true:=by
   intro q h
   by_cases hqk:k=q
   ·subst hqk
    rcases Nat.lt_or_ge k listed.size with h'|h'
    ·simp[h']
    ·simp[Array.getElem?_eq_none,h']
   ·rw[getD_set_ne true hqk];exact hk q h
  refine wpAnyH_first h0 (Region.noSelect_spec hsel) hB hkin (fun t h1 _ listed _ h3=>h3 t h1) (fun listed a hL j hj=>?_) l.length listed a inv hk (Region.free_spec h0 hf) hr' hy
   (zed hsel hB hend l _ _ (fun q hq=>hin q (by simp[hq])) hs (inv.set hr' hkin) hset hlex' hK)
  rw[hL.1] at hj
  have:=List.all_eq_true.1 hend j hj
  simpa using this
end
def agree(ops:Array Oper)(t t':Array Value):Prop:=∀ i,(ops.any fun o=>o.dst==some i)=false→t[i]?=t'[i]?
def z50(ops:Array Oper)(K:Act→World→Prop)(Q0:Exit→Act→World→Prop):Exit→Act→World→Prop:=fun e a w=>match e with|.normal=>K a w|.panic ch=>∀ t,agree ops t a.tmps→Q0 (.panic ch) {a with tmps:=t} w|e=>Q0 e a w
theorem zd5{ops:Array Oper}{i d:Nat}{op:Op}{ty:TypeId}{pos:String}{af:Array Edge}{g:Option (Nat×Bool)}{v:Value}{a:Act}{t:Array Value}(hi:ops[i]?=some ⟨some d,op,ty,pos,af,g⟩)(ht:agree ops t a.tmps):agree ops t (a.put (some d) v).tmps:=fun j hj=>by
 rw[ht j hj]
 by_cases e:d=j
 ·subst e
  obtain⟨h1,h2⟩:=Array.getElem?_eq_some_iff.1 hi
  have:=Array.any_eq_false.1 hj i h1
  rw[h2] at this
  simp at this
 ·simp[Act.put,Array.getElem?_setIfInBounds,e]
def RA(P:Program)(ops:Array Oper)(K:Act→World→Prop)(Q0:Exit→Act→World→Prop)(c:Cx)(f:Nat)(listed:Array Bool)(env:Env)(L:List It):Prop:=∀ a w,St c env L a w→wpAny P .any ops (z50 ops K Q0) f listed a w
section
variable {P:Program}{Q Q0:Exit→Act→World→Prop}{c:Cx}{env env':Env}{L L':List It}{r:List Code}{ops:Array Oper}{K:Act→World→Prop}{f:Nat}{listed:Array Bool}
theorem GL.regionA{id:Nat}{l:List Oper}(hq:c.still=false)(hm:P.follows .mixedOrders=true)
  (h:RA P l.toArray (wps P Q r) Q c l.length (Array.replicate l.length false) env L):GL P Q c (.region id l.toArray true::r) env L:=fun a w st=>by
 refine Go.Code.wp_mono (Q:=z50 l.toArray (wps P Q r) Q) (fun e a w q=>by cases e<;>first|exact q|exact q a.tmps (fun _ _=>rfl)) (wp_region_any hm ?_)
 have:=h a {w with drawn:=w.drawn+1} (st.drew hq)
 simpa using this
theorem RA.done(hr:(Region.ready .any ops listed).isEmpty=true)(h:∀ a w,St c env L a w→K a w):RA P ops K Q0 c f listed env L:=fun a w st=>wpAny_done (List.isEmpty_iff.1 hr) (h a w st) f
theorem RA.weak(h:∀ a w,St c env L a w→St c env' L' a w)(k:RA P ops K Q0 c f listed env' L'):RA P ops K Q0 c f listed env L:=fun a w st=>k a w (h a w st)
theorem RA.pure{d:Nat}{op:Op}{ty:TypeId}{pos:String}{af:Array Edge}{g:Option (Nat×Bool)}{v:Value}(i:Nat)(hi:ops[i]?=some ⟨some d,op,ty,pos,af,g⟩)(hB:(Region.noSelect ops&&(Region.ready .any ops listed).contains i&&Region.free .any ops listed i)=true)(hg:wanted ops env g=some true)(hd:Slot c d)
  (hr:∀ a w,St c env L a w→∀ w',(execOp a.eval ⟨some d,op,ty,pos,af,g⟩).run P w'=.ok (.value v) w')(k:RA P ops K Q0 c f (listed.setIfInBounds i true) (put env d v) L):RA P ops K Q0 c (f+1) listed env L:=fun a w st=>by
 simp only[Bool.and_eq_true] at hB
 exact wpAny_take hi hB.1.1 hB.2 hB.1.2 (fun c a w h t ht=>h t (zd5 hi ht)) (.inl ⟨zw (o:=⟨some d,op,ty,pos,af,g⟩) st.env hg,hr a w st⟩) (k _ _ (st.put v hd))
theorem RA.mv{d:Nat}{x:Operand}{ty:TypeId}{pos:String}{af:Array Edge}{g:Option (Nat×Bool)}{v:Value}(i:Nat)(hi:ops[i]?=some ⟨some d,.move x,ty,pos,af,g⟩)(hB:(Region.noSelect ops&&(Region.ready .any ops listed).contains i&&Region.free .any ops listed i)=true)(hg:wanted ops env g=some true)(hd:Slot c d)
  (hx:opv env x=some v)(k:RA P ops K Q0 c f (listed.setIfInBounds i true) (put env d v) L):RA P ops K Q0 c (f+1) listed env L:=
 RA.pure i hi hB hg hd (fun a w st w'=>by simp[execOp,zf st.env hx]) k
theorem RA.binI{d:Nat}{op:BinOp}{xt yt:TypeId}{x y:Operand}{kd:IntKind}{m n:Int}{ty:TypeId}{pos:String}{af:Array Edge}{g:Option (Nat×Bool)}{v:Value}(i:Nat)(hi:ops[i]?=some ⟨some d,.binOp op xt x y yt,ty,pos,af,g⟩)(hB:(Region.noSelect ops&&(Region.ready .any ops listed).contains i&&Region.free .any ops listed i)=true)(hg:wanted ops env g=some true)(hd:Slot c d)
  (hx:opv env x=some (.int kd m))(hy:opv env y=some (.int kd n))(hv:binI op kd m n=some v)(k:RA P ops K Q0 c f (listed.setIfInBounds i true) (put env d v) L):RA P ops K Q0 c (f+1) listed env L:=
 RA.pure i hi hB hg hd (fun a w st w'=>by simp[execOp,zf st.env hx,zf st.env hy,eqGuard_at_int,zfe hv]) k
theorem RA.idxS{α:Type}{t:TR α}{l:List α}{v:Value}{x y:Operand}{T E:TypeId}{kd:IntKind}{q:Int}{sz:Nat}{ag:Bool}{d:Nat}{ty:TypeId}{pos:String}{af:Array Edge}{g:Option (Nat×Bool)}(n:Nat){A:It}(hT:P.underlying T=some (.slice E))(hE:Ln P E sz ag)(i:Nat)(hi:ops[i]?=some ⟨some d,.indexAddr T x y,ty,pos,af,g⟩)(hB:(Region.noSelect ops&&(Region.ready .any ops listed).contains i&&Region.free .any ops listed i)=true)(hg:wanted ops env g=some true)(hd:Slot c d)
  (hx:opv env x=some v)(hy:opv env y=some (.int kd q))(hA:L[n]?=some A)(hs:SlOf A t v l)(h0:0≤q)(h1:q<l.length)(k:RA P ops K Q0 c f (listed.setIfInBounds i true) (put env d (adr v (q.toNat*sz))) L):RA P ops K Q0 c (f+1) listed env L:=
 RA.pure i hi hB hg hd (fun a w st w'=>by
  obtain⟨S,f,_,_,h⟩:=st.has hA
  obtain⟨_,xs,_,⟨ad,cap,rfl,_,_,h2⟩,_⟩:=hs S f h
  rcases h2 with⟨h2,_⟩|⟨b,off,C,ty,fz,rfl,_⟩
  ·omega
  ·simp[execOp,zf st.env hx,zf st.env hy,Instr.indexAt,asIntOf,run_underlying hT,h0,h1,run_sizeOf hE,adr]) k
def RAs(P:Program)(ops:Array Oper)(K:Act→World→Prop)(Q0:Exit→Act→World→Prop)(c:Cx)(f:Nat)(listed:Array Bool)(env:Env)(L:List It):List Nat→Prop
 | []=>True
 |i::r=>(∃ o,ops[i]?=some o∧RL .plain P ops (Exit.then (wpAny P .any ops (z50 ops K Q0) f (listed.setIfInBounds i true)) (z50 ops K Q0)) c [o] env L)∧RAs P ops K Q0 c f listed env L r
theorem RAs.at:∀ {is:List Nat},RAs P ops K Q0 c f listed env L is→∀ i∈is,∃ o,ops[i]?=some o∧RL .plain P ops (Exit.then (wpAny P .any ops (z50 ops K Q0) f (listed.setIfInBounds i true)) (z50 ops K Q0)) c [o] env L
 | [],_,i,h=>by simp at h
 |j::r,h,i,hi=>by
  rcases List.mem_cons.1 hi with rfl|hi
  ·exact h.1
  ·exact RAs.at h.2 i hi
theorem RA.many(is:List Nat)(hB:(decide (Region.ready .any ops listed=is) && !is.isEmpty)=true)(h:RAs P ops K Q0 c f listed env L is):RA P ops K Q0 c (f+1) listed env L:=fun a w st=>by
 simp only[Bool.and_eq_true,decide_eq_true_eq,Bool.not_eq_true',List.isEmpty_eq_false_iff] at hB
 refine wpAny_all hB.1 hB.2 fun q hq=>?_
 obtain⟨o,ho,h'⟩:=h.at q hq
 have:=h' a w st
 unfold wpOp
 simp only[ho]
 unfold wpList at this
 exact this
theorem RA.meet{ι:Type}(E:ι→Env)(M:ι→List It)(f':Nat)(le:Array Bool)(h1:(∀ p a w,St c (E p) (M p) a w→wpAny P .any ops (z50 ops K Q0) f' le a w)→RA P ops K Q0 c f listed env L)
  (h2:∀ p,RA P ops K Q0 c f' le (E p) (M p)):RA P ops K Q0 c f listed env L:=h1 fun p a w st=>h2 p a w st
theorem RA.meetU(env':Env)(L':List It)(f':Nat)(le:Array Bool)(h1:(∀ (_:Unit) a w,St c env' L' a w→wpAny P .any ops (z50 ops K Q0) f' le a w)→RA P ops K Q0 c f listed env L)
  (h2:RA P ops K Q0 c f' le env' L'):RA P ops K Q0 c f listed env L:=h1 fun _ a w st=>h2 a w st
theorem RA.relist(f':Nat)(le:Array Bool)(hf:f=f')(hB:decide (listed=le)=true)(h:RA P ops K Q0 c f' le env L):RA P ops K Q0 c f listed env L:=by
 have:=of_decide_eq_true hB
 subst this;subst hf;exact h
theorem RA.rl(f':Nat)(le:Array Bool)(h:RA P ops K Q0 c f' le env L)(hf:f=f':=by rfl)(hB:decide (listed=le)=true:=by kernel_rfl):RA P ops K Q0 c f listed env L:=RA.relist f' le hf hB h
theorem RA.seq{o:Oper}(i:Nat)(hi:ops[i]?=some o)(hB:decide (Region.ready .any ops listed=[i])=true)
  (h:RL .plain P ops (Exit.then (wpAny P .any ops (z50 ops K Q0) f (listed.setIfInBounds i true)) (z50 ops K Q0)) c [o] env L):RA P ops K Q0 c (f+1) listed env L:=fun a w st=>by
 have hr:=of_decide_eq_true hB
 refine wpAny_all hr (by simp) fun j hj=>?_
 have:j=i:=by simpa using hj
 subst this
 have:=h a w st
 unfold wpOp
 simp only[hi]
 unfold wpList at this
 exact this
theorem RA.next(h:RA P ops K Q0 c f listed env L):Gx (Exit.then (wpAny P .any ops (z50 ops K Q0) f listed) (z50 ops K Q0)) c .normal env L:=h
theorem RA.still{le:Array Bool}{fl:Nat}(hd:List Nat)(n:Nat)(hf:hd.length+f=fl)(hB:(Region.noSelect ops&&hdB ops hd n listed&&lexHd ops hd listed&&decide (setAll hd listed=le)&&(Region.ready .any ops le).all (fun j => !(hd.contains j))&&hd.all (fun j => !(listed.getD j true)))=true)
  (h:RL (.head []) P ops (Exit.then (wpAny P .any ops (z50 ops K Q0) f le) (z50 ops K Q0)) c (z6h ops hd) env L):RA P ops K Q0 c fl listed env L:=fun a w st=>by
 subst hf
 simp only[Bool.and_eq_true,decide_eq_true_eq] at hB
 obtain⟨⟨⟨⟨⟨h1,h2⟩,h3⟩,h4⟩,h5⟩,h6⟩:=hB
 have hsz:listed.size=ops.size:=by
  have:=h2
  simp only[hdB,Bool.and_eq_true,decide_eq_true_eq] at this
  exact this.1.1.1
 refine zd6 (Lq:=fun listed' a'=>listed'=le∧wpAny P .any ops (z50 ops K Q0) f le a' w) (fun l a h=>by rw[h.1];exact h.2) _ _ _ (zed h1 h2 h5 hd listed a (fun k hk=>by simpa using hk) h4 ⟨hsz,?_,fun t _ _ h=>h⟩ (fun k h=>h) h3 (h a w st))
 intro j oj hj _ hl
 have:=List.all_eq_true.1 h6 j (by simpa using hj)
 simp only[Bool.not_eq_true'] at this
 rw[getD_both this] at hl
 cases hl
theorem RA.quiet(k:Nat)(hq:c.still=false)(hf:(ops.toList.drop k).length=f)(hB:(Region.noSelect ops&&Region.lexFrom .any ops f k listed)=true)
  (h:RL (.quiet L.length) P ops (z50 ops K Q0) c (ops.toList.drop k) env L):RA P ops K Q0 c f listed env L:=fun a w st=>by
 subst hf
 simp only[Bool.and_eq_true] at hB
 obtain⟨S,f,e1,e2,e3,e4⟩:=st.heap
 have hits:Its L S (fcat f L.length fun _=>Hp.emp):=fun i A hA=>by
  have hi:=(List.getElem?_eq_some_iff.1 hA).1
  unfold fcat;rw[if_pos hi];exact e4 i A hA
 have h':=h S f e1 e2 (Nat.le_refl _) hits a st.defers st.size st.env
 refine wpAny_of_quiet (C:=Cl c S f L.length) (Q:=fun a'=>∀ w',Cl c S f L.length w'→z50 ops K Q0 .normal a' w') (fun a w hw h=>h w hw) _ _ _ _ ⟨e3,st.below,hq⟩ (wpAnyQ_lex hB.1 _ k listed a (fun j=>?_) hB.2 h')
 simp
theorem RA.doneG{r:List Code}(hr:(Region.ready .any ops listed).isEmpty=true)(h:GL P Q c r env L):RA P ops (wps P Q r) Q0 c f listed env L:=RA.done hr h
theorem RA.outQ{r:List Code}(h:GL P Q c r env L):Gx (z50 ops (wps P Q r) Q) c .normal env L:=h
end
end Go.Fw
