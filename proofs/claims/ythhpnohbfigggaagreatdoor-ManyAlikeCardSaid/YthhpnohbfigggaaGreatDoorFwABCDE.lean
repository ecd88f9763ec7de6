/- A small frame for walks: partial heaps, readings of Go data in them, and what a call owns. No program in sight. -/
import Derived.WalkKit
import Derived.Deep.Quiet
import Derived.StillTail
set_option linter.all false
namespace Go.Fw
open Go.RowKit
abbrev Hp:=Nat→Option Obj
def Hp.sub(h:Hp)(w:World):Prop:=∀ b o,h b=some o→w.heap[b]?=some o
def Hp.le(h k:Hp):Prop:=∀ b o,h b=some o→k b=some o
def Hp.dj(h k:Hp):Prop:=∀ b,h b=none∨k b=none
def Hp.emp:Hp:=fun _=>none
def Hp.one(g:Nat)(o:Obj):Hp:=fun b=>if b=g then some o else none
def Hp.cup(h k:Hp):Hp:=fun b=>(h b).or (k b)
theorem Hp.le_refl(h:Hp):Hp.le h h:=fun _ _ e=>e
theorem Hp.le_trans{a b c:Hp}(h:Hp.le a b)(k:Hp.le b c):Hp.le a c:=fun x o e=>k x o (h x o e)
theorem Hp.le_sub{a b:Hp}{w:World}(h:Hp.le a b)(k:b.sub w):a.sub w:=fun x o e=>k x o (h x o e)
theorem Hp.sub_emp(w:World):Hp.emp.sub w:=fun _ _ e=>by cases e
theorem Hp.dj_emp(h:Hp):Hp.dj h Hp.emp:=fun _=>.inr rfl
theorem Hp.dj_comm{h k:Hp}(d:Hp.dj h k):Hp.dj k h:=fun b=>(d b).symm
theorem Hp.le_cup_left(h k:Hp):Hp.le h (h.cup k):=fun b o e=>by simp[Hp.cup,e]
theorem Hp.le_cup_right{h k:Hp}(d:Hp.dj h k):Hp.le k (h.cup k):=fun b o e=>by
 rcases d b with x|x
 ·simp[Hp.cup,x,e]
 ·rw[x] at e;cases e
theorem Hp.sub_cup{h k:Hp}{w:World}(a:h.sub w)(b:k.sub w):(h.cup k).sub w:=fun x o e=>by
 unfold Hp.cup at e
 cases hx:h x with
 |some y=>rw[hx] at e;simp at e;exact a x o (by rw[hx,e])
 |none=>rw[hx] at e;simp at e;exact b x o e
theorem Hp.lt_of_sub{h:Hp}{w:World}(a:h.sub w){b:Nat}(e:h b≠none):b<w.heap.size:=by
 cases hb:h b with
 |none=>exact absurd hb e
 |some o=>exact(Array.getElem?_eq_some_iff.1 (a b o hb)).1
theorem Hp.sub_below{h:Hp}{w w':World}{B:Nat}(a:h.sub w)(hb:Below B w w')(hd:∀ b,h b≠none→b<B):h.sub w':=fun b o e=>by
 rw[hb.block b (hd b (by rw[e];simp))];exact a b o e
theorem Hp.sub_grow{h:Hp}{w w':World}(a:h.sub w)(hb:Below w.heap.size w w'):h.sub w':=
 Hp.sub_below a hb fun _ e=>Hp.lt_of_sub a e
structure TR(α:Type) where
 size:Nat
 agg:Bool
 rep:Hp→List Value→α→Prop
 len:∀ {h cs d},rep h cs d→cs.length=size
 mono:∀ {h k cs d},Hp.le h k→rep h cs d→rep k cs d
 flat:∀ {h cs d},rep h cs d→∀ u∈cs,u.oneCell'=true
 one:agg=false→size=1
def mkv(ag:Bool)(cs:List Value):Value:=if ag then .agg cs.toArray else cs.headD undef
def TR.vrep{α:Type}(t:TR α)(h:Hp)(v:Value)(d:α):Prop:=∃ cs,v=mkv t.agg cs∧t.rep h cs d
theorem TR.vrep_mono{α:Type}{t:TR α}{h k:Hp}{v:Value}{d:α}(l:Hp.le h k):t.vrep h v d→t.vrep k v d:=
 fun⟨cs,a,b⟩=>⟨cs,a,t.mono l b⟩
theorem cells_mkv{α:Type}(t:TR α){h:Hp}{cs:List Value}{d:α}(r:t.rep h cs d):(mkv t.agg cs).cells.toList=cs:=by
 unfold mkv
 split
 ·rfl
 ·rename_i ha
  have h1:=t.one (by simpa using ha)
  have h2:=t.len r
  have h3:=t.flat r
  match cs,h1,h2,h3 with
  | [u],_,_,h3=>
   have:=h3 u (by simp)
   cases u<;>first|rfl|(simp[Value.oneCell'] at this)
  | [],h1,h2,_=>simp[h1] at h2
  |_::_::_,h1,h2,_=>simp[h1] at h2
def TR.ik(k:IntKind):TR Int where
 size:=1
 agg:=false
 rep _ cs x:=cs=[.int k x]
 len h:=by rw[h];rfl
 mono _ h:=h
 flat h u hu:=by rw[h] at hu;simp at hu;rw[hu];rfl
 one _:=rfl
abbrev TR.int:TR Int:=TR.ik .i64
def TR.str:TR (List UInt8) where
 size:=1
 agg:=false
 rep _ cs x:=cs=[.string ⟨x.toArray⟩]
 len h:=by rw[h];rfl
 mono _ h:=h
 flat h u hu:=by rw[h] at hu;simp at hu;rw[hu];rfl
 one _:=rfl
def TR.pair{α β:Type}(a:TR α)(b:TR β):TR (α×β) where
 size:=a.size+b.size
 agg:=true
 rep h cs d:=∃ c1 c2,cs=c1++c2∧a.rep h c1 d.1∧b.rep h c2 d.2
 len h:=by obtain⟨c1,c2,rfl,h1,h2⟩:=h;rw[List.length_append,a.len h1,b.len h2]
 mono l h:=by obtain⟨c1,c2,e,h1,h2⟩:=h;exact⟨c1,c2,e,a.mono l h1,b.mono l h2⟩
 flat h u hu:=by
  obtain⟨c1,c2,rfl,h1,h2⟩:=h
  rcases List.mem_append.1 hu with h|h
  ·exact a.flat h1 u h
  ·exact b.flat h2 u h
 one h:=by cases h
def reps{α:Type}(t:TR α)(h:Hp):List Value→List α→Prop
 |xs,[]=>xs=[]
 |xs,x::l=>∃ c r,xs=c++r∧t.rep h c x∧reps t h r l
section reps
variable {α:Type}{t:TR α}{h k:Hp}
theorem z9l:∀ {l:List α} {xs:List Value},reps t h xs l→xs.length=l.length*t.size
 | [],xs,r=>by simp only[reps] at r;simp[r]
 |x::l,xs,r=>by
  obtain⟨c,q,rfl,r1,r2⟩:=r
  rw[List.length_append,t.len r1,z9l r2,List.length_cons,Nat.add_mul];omega
theorem z68(le:Hp.le h k):∀ {l:List α} {xs:List Value},reps t h xs l→reps t k xs l
 | [],_,r=>r
 |_::_,_,⟨c,q,e,r1,r2⟩=>⟨c,q,e,t.mono le r1,z68 le r2⟩
theorem z99:∀ {l:List α} {xs:List Value},reps t h xs l→∀ u∈xs,u.oneCell'=true
 | [],xs,r=>by simp only[reps] at r;simp[r]
 |x::l,xs,r=>by
  obtain⟨c,q,rfl,r1,r2⟩:=r
  intro u hu
  rcases List.mem_append.1 hu with h|h
  ·exact t.flat r1 u h
  ·exact z99 r2 u h
theorem zao:∀ {l:List α} {xs:List Value} (i:Nat) (x:α),reps t h xs l→l[i]?=some x →
  ∃ a c b,xs=a++c++b∧a.length=i*t.size∧t.rep h c x
 | [],_,_,_,_,e=>by simp at e
 |y::l,xs,0,x,r,e=>by
  obtain⟨c,q,rfl,r1,r2⟩:=r
  simp at e;subst e
  exact⟨[],c,q,by simp,by simp,r1⟩
 |y::l,xs,i+1,x,r,e=>by
  obtain⟨c,q,rfl,r1,r2⟩:=r
  simp at e
  obtain⟨a,c',b,rfl,ha,hr⟩:=zao i x r2 e
  exact⟨c++a,c',b,by simp,by rw[List.length_append,t.len r1,ha,Nat.add_mul];omega,hr⟩
theorem z7h:∀ {l m:List α} {xs ys:List Value},reps t h xs l→reps t h ys m→reps t h (xs++ys) (l++m)
 | [],_,xs,_,r,s=>by simp only[reps] at r;subst r;simpa using s
 |x::l,m,xs,ys,r,s=>by
  obtain⟨c,q,rfl,r1,r2⟩:=r
  exact⟨c,q++ys,by simp,r1,z7h r2 s⟩
theorem reps_one{c:List Value}{x:α}(r:t.rep h c x):reps t h c [x]:=⟨c,[],by simp,r,rfl⟩
theorem zff:∀ {l:List α} {xs:List Value} (i:Nat) (x y:α) (c':List Value),reps t h xs l→l[i]?=some x→t.rep h c' y →
  ∃ a c b,xs=a++c++b∧a.length=i*t.size∧c.length=t.size∧reps t h (a++c'++b) (l.set i y)
 | [],_,_,_,_,_,_,e,_=>by simp at e
 |z::l,xs,0,x,y,c',r,e,hy=>by
  obtain⟨c,q,rfl,r1,r2⟩:=r
  exact⟨[],c,q,by simp,by simp,t.len r1,⟨c',q,by simp,hy,r2⟩⟩
 |z::l,xs,i+1,x,y,c',r,e,hy=>by
  obtain⟨c,q,rfl,r1,r2⟩:=r
  simp at e
  obtain⟨a,d,b,rfl,ha,hd,hr⟩:=zff i x y c' r2 e hy
  exact⟨c++a,d,b,by simp,by rw[List.length_append,t.len r1,ha,Nat.add_mul];omega,hd,⟨c,a++c'++b,by simp,r1,hr⟩⟩
theorem z6w:∀ {l:List α} {xs:List Value} (n:Nat),reps t h xs l→n≤l.length →
  ∃ a b,xs=a++b∧a.length=n*t.size∧reps t h a (l.take n)∧reps t h b (l.drop n)
 |l,xs,0,r,_=>⟨[],xs,by simp,by simp,rfl,by simpa using r⟩
 | [],_,n+1,_,e=>by simp at e
 |x::l,xs,n+1,r,e=>by
  obtain⟨c,q,rfl,r1,r2⟩:=r
  obtain⟨a,b,rfl,ha,hl,hb⟩:=z6w n r2 (by simpa using e)
  exact⟨c++a,b,by simp,by rw[List.length_append,t.len r1,ha,Nat.add_mul];omega,⟨c,a,rfl,r1,by simpa using hl⟩,by simpa using hb⟩
theorem ze6{z:α}{c:List Value}(r:t.rep h c z):∀ n,reps t h (List.replicate n c).flatten (List.replicate n z)
 |0=>rfl
 |n+1=>⟨c,(List.replicate n c).flatten,by simp[List.replicate_succ],r,ze6 r n⟩
end reps
def slAt(h:Hp)(v:Value)(n:Nat)(xs:List Value):Prop:=
 ∃ a cap,v=.slice a n cap∧n≤cap∧cap≤maxLen ∧
  ((n=0∧xs=[])∨∃ b off C ty fz,a=some ⟨b,off,none⟩∧h b=some (.cells C ty fz)∧∀ j u,xs[j]?=some u→C[off+j]?=some u)
theorem zau{h k:Hp}{v:Value}{n:Nat}{xs:List Value}(l:Hp.le h k):slAt h v n xs→slAt k v n xs
 |⟨a,cap,e,h1,h2,r⟩=>⟨a,cap,e,h1,h2,r.imp id fun⟨b,off,C,ty,fz,e1,e2,e3⟩=>⟨b,off,C,ty,fz,e1,l _ _ e2,e3⟩⟩
def TR.sl{α:Type}(t:TR α):TR (List α) where
 size:=1
 agg:=false
 rep h cs l:=∃ v xs,cs=[v]∧slAt h v l.length xs∧reps t h xs l
 len h:=by obtain⟨v,xs,rfl,_⟩:=h;rfl
 mono l h:=by obtain⟨v,xs,e,h1,h2⟩:=h;exact⟨v,xs,e,zau l h1,z68 l h2⟩
 flat h u hu:=by
  obtain⟨v,xs,rfl,⟨a,cap,rfl,_⟩,_⟩:=h
  simp at hu;rw[hu];rfl
 one _:=rfl
def TR.arr{α:Type}(n:Nat)(t:TR α):TR (List α) where
 size:=n*t.size
 agg:=true
 rep h cs l:=l.length=n∧reps t h cs l
 len h:=by rw[z9l h.2,h.1]
 mono l h:=⟨h.1,z68 l h.2⟩
 flat h:=z99 h.2
 one h:=by cases h
def TR.ptr{α:Type}(t:TR α):TR α where
 size:=1
 agg:=false
 rep h cs d:=∃ b off C ty fz xs,cs=[.pointer (some ⟨b,off,none⟩)]∧h b=some (.cells C ty fz)∧t.rep h xs d∧∀ j u,xs[j]?=some u→C[off+j]?=some u
 len h:=by obtain⟨b,off,C,ty,fz,xs,rfl,_⟩:=h;rfl
 mono l h:=by obtain⟨b,off,C,ty,fz,xs,e,h1,h2,h3⟩:=h;exact⟨b,off,C,ty,fz,xs,e,l _ _ h1,t.mono l h2,h3⟩
 flat h u hu:=by
  obtain⟨b,off,C,ty,fz,xs,rfl,_⟩:=h
  simp at hu;rw[hu];rfl
 one _:=rfl
def ze0(e:TypeId)(size:Nat)(f:Hp)(v:Value)(n:Nat)(xs:List Value):Prop:=
 xs.length=n*size∧((v=.slice none 0 0∧n=0) ∨
  ∃ b cap C,v=.slice (some ⟨b,0,none⟩) n cap∧f b=some (.cells C e (0,0))∧n≤cap∧cap≤maxLen∧C.size=cap*size∧C.toList.take (n*size)=xs)
theorem z8m{e:TypeId}{size:Nat}{f:Hp}{v:Value}{n:Nat}{xs:List Value}(h:ze0 e size f v n xs):slAt f v n xs:=by
 obtain⟨h0,⟨rfl,rfl⟩|⟨b,cap,C,rfl,hf,h1,h2,h3,h4⟩⟩:=h
 ·exact⟨none,0,rfl,Nat.le_refl _,by simp[maxLen],.inl ⟨rfl,List.eq_nil_of_length_eq_zero (by simpa using h0)⟩⟩
 ·refine⟨_,cap,rfl,h1,h2,.inr ⟨b,0,C,e,_,rfl,hf,fun j u hu=>?_⟩⟩
  rw[← h4,List.getElem?_take] at hu
  split at hu
  ·simpa using hu
  ·cases hu
structure It where
 P:Hp→Hp→Prop
 mono:∀ {S S' f},Hp.le S S'→P S f→P S' f
def imm{α:Type}(t:TR α)(v:Value)(d:α):It:=⟨fun S _=>t.vrep S v d,fun l h=>TR.vrep_mono l h⟩
def own{α:Type}(e:TypeId)(t:TR α)(v:Value)(l:List α):It:=
 ⟨fun S f=>∃ xs,ze0 e t.size f v l.length xs∧reps t S xs l,fun l h=>let ⟨xs,a,b⟩:=h;⟨xs,a,z68 l b⟩⟩
def obox{α:Type}(e:TypeId)(t:TR α)(v:Value)(d:α):It:=
 ⟨fun S f=>∃ b cs,v=.pointer (some ⟨b,0,none⟩)∧f b=some (.cells (List.toArray cs) e (0,0))∧t.rep S cs d,fun l h=>by obtain⟨b,cs,a,c,r⟩:=h;exact⟨b,cs,a,c,t.mono l r⟩⟩
def Its(L:List It)(S:Hp)(f:Nat→Hp):Prop:=∀ (i:Nat) (A:It),L[i]?=some A→A.P S (f i)
structure z2h(B:Nat)(S:Hp)(f:Nat→Hp)(n:Nat)(w:World):Prop where
 sub:S.sub w
 subf:∀ i,i<n→(f i).sub w
 dS:∀ i,i<n→Hp.dj S (f i)
 df:∀ i j,i<n→j<n→i≠j→Hp.dj (f i) (f j)
 lo:∀ i,i<n→∀ b,f i b≠none→B≤b
abbrev Env:=List (Nat×Value)
def look:Env→Nat→Option Value
 | [],_=>none
 |p::e,t=>if p.1=t then some p.2 else look e t
def z2g(env:Env)(a:Act):Prop:=∀ t v,look env t=some v→a.tmps[t]?=some v
def put(env:Env)(d:Nat)(v:Value):Env:=(d,v)::env
def opv(env:Env):Operand→Option Value
 |.tmp t=>look env t
 |.const v=>some v
 |.func f=>some (.func (.func f) #[] #[])
 |.global g=>some (.pointer (some ⟨g,0,none⟩))
theorem look_ok{env:Env}{a:Act}(h:z2g env a){t:Nat}{v:Value}(e:look env t=some v):a.tmps[t]?=some v:=h t v e
theorem zf{env:Env}{a:Act}(h:z2g env a){x:Operand}{v:Value}(e:opv env x=some v):a.eval x=v:=by
 cases x with
 |tmp t=>
  have:=look_ok h (show look env t=some v from e)
  obtain⟨ht,hv⟩:=Array.getElem?_eq_some_iff.1 this
  simp[Act.eval,ht,hv]
 |const u=>simpa[opv,Act.eval] using e
 |func f=>simpa[opv,Act.eval] using e
 |global g=>simpa[opv,Act.eval] using e
theorem z2g.put{env:Env}{a:Act}{d:Nat}(v:Value)(h:z2g env a)(hd:d<a.tmps.size):z2g (Fw.put env d v) (a.put (some d) v):=by
 intro t u e
 simp only[Fw.put,look] at e
 simp only[Act.put]
 split at e
 ·rename_i hdt
  subst hdt
  cases e
  simp[hd]
 ·rename_i hdt
  rw[Array.getElem?_setIfInBounds,if_neg hdt]
  exact h t u e
theorem ol{α:Type}{a:α}{p:Prop}:a=a∨p:=.inl rfl
theorem oi{α β:Type}{a:α}{b:β}{p:Prop}:p∨a=a∧b=b:=.inr ⟨rfl,rfl⟩
def z81(env:Env):Env→Prop
 | []=>True
 |p::r=>look env p.1=some p.2∧z81 env r
theorem z81.look{env:Env}:∀ {env':Env},z81 env env'→∀ {t:Nat} {v:Value},Fw.look env' t=some v→Fw.look env t=some v
 | [],_,_,_,e=>by cases e
 |p::r,h,t,v,e=>by
  simp only[Fw.look] at e
  split at e
  ·rename_i hp
   cases e
   rw[← hp];exact h.1
  ·exact z81.look h.2 e
theorem z2g.subset{env env':Env}{a:Act}(h:z2g env a)(hs:z81 env env'):z2g env' a:=fun t v e=>h t v (hs.look e)
structure Cx where
 w0:World
 S0:Hp
 nt:Nat
 still:Bool
 dfs:List Deferred
def Slot(c:Cx)(d:Nat):Prop:=Nat.blt d c.nt=true
theorem Slot.lt{c:Cx}{d:Nat}(h:Slot c d):d<c.nt:=Nat.le_of_ble_eq_true h
structure St(c:Cx)(env:Env)(L:List It)(a:Act)(w:World):Prop where
 defers:a.defers=c.dfs
 size:a.tmps.size=c.nt
 env:z2g env a
 below:Below c.w0.heap.size c.w0 w
 calm:c.still=true→w=c.w0
 heap:∃ S f,Hp.le c.S0 S∧(∀ b,S b≠none→c.S0 b≠none∨c.w0.heap.size≤b)∧z2h c.w0.heap.size S f L.length w∧Its L S f
theorem St.mk_env{c:Cx}{env env':Env}{L:List It}{a a':Act}{w:World}(h:St c env L a w)(h1:a'.defers=a.defers)(h2:a'.tmps.size=a.tmps.size)(h3:z2g env' a'):St c env' L a' w:=
 ⟨h1.trans h.defers,h2.trans h.size,h3,h.below,h.calm,h.heap⟩
theorem St.put{c:Cx}{env:Env}{L:List It}{a:Act}{w:World}(h:St c env L a w){d:Nat}(v:Value)(hd:Slot c d):St c (Fw.put env d v) L (a.put (some d) v) w:=
 h.mk_env rfl (by simp[Act.put]) (h.env.put v (by rw[h.size];exact hd.lt))
theorem St.shrink{c:Cx}{env env':Env}{L:List It}{a:Act}{w:World}(h:St c env L a w)(hs:z81 env env'):St c env' L a w:=
 h.mk_env rfl rfl (h.env.subset hs)
theorem St.pick{c:Cx}{env:Env}{L L':List It}{a:Act}{w:World}(h:St c env L a w)(is:List Nat)(hn:is.Nodup)(hL:is.map (fun i=>L[i]?)=L'.map some):St c env L' a w:=by
 obtain⟨S,f,h1,h2,h3,h4⟩:=h.heap
 have hlen:is.length=L'.length:=by have:=congrArg List.length hL;simpa using this
 have key:∀ i,i<L'.length→∃ k,is[i]?=some k∧k<L.length∧L[k]?=L'[i]? := by
  intro i hi
  have hi':i<is.length:=by omega
  have e:=congrArg (fun l=>l[i]?) hL
  simp[List.getElem?_eq_getElem hi',List.getElem?_eq_getElem hi] at e
  refine⟨is[i],by simp[hi'],?_,by rw[e];simp[hi]⟩
  exact(List.getElem?_eq_some_iff.1 e).1
 refine⟨h.defers,h.size,h.env,h.below,h.calm,S,fun i=>f (is.getD i 0),h1,h2,⟨h3.sub,?_,?_,?_,?_⟩,?_⟩
 ·intro i hi;obtain⟨k,e1,e2,_⟩:=key i hi;simp[List.getD,e1];exact h3.subf k e2
 ·intro i hi;obtain⟨k,e1,e2,_⟩:=key i hi;simp[List.getD,e1];exact h3.dS k e2
 ·intro i j hi hj hij
  obtain⟨k,e1,e2,_⟩:=key i hi
  obtain⟨m,e3,e4,_⟩:=key j hj
  simp[List.getD,e1,e3]
  refine h3.df k m e2 e4 fun e=>hij ?_
  subst e
  exact(List.getElem?_inj (by omega) hn).1 (by rw[e1,e3])
 ·intro i hi;obtain⟨k,e1,e2,_⟩:=key i hi;simp[List.getD,e1];exact h3.lo k e2
 ·intro i A hA
  have hi:i<L'.length:=(List.getElem?_eq_some_iff.1 hA).1
  obtain⟨k,e1,e2,e3⟩:=key i hi
  simp only[List.getD,e1,Option.getD_some]
  exact h4 k A (by rw[e3,hA])
def fcat(f:Nat→Hp)(n:Nat)(g:Nat→Hp):Nat→Hp:=fun i=>if i<n then f i else g (i-n)
theorem z2h.cat{B:Nat}{S S':Hp}{f g:Nat→Hp}{n m:Nat}{w w':World}(h:z2h B S f n w)(hB:B≤w.heap.size)(h2:S'.sub w')(h3:∀ i,i<n→(f i).sub w')
  (h4:∀ b,S' b≠none→S b≠none∨w.heap.size≤b)(h5:∀ i,i<m→(g i).sub w'∧Hp.dj S' (g i)∧∀ b,g i b≠none→w.heap.size≤b)
  (h6:∀ i j,i<m→j<m→i≠j→Hp.dj (g i) (g j)):z2h B S' (fcat f n g) (n+m) w':=by
 have hlow:∀ i,i<n→∀ b,f i b≠none→b<w.heap.size:=fun i hi b hb=>Hp.lt_of_sub (h.subf i hi) hb
 refine⟨h2,?_,?_,?_,?_⟩
 ·intro i hi;unfold fcat;split
  ·rename_i h';exact h3 i h'
  ·exact(h5 _ (by omega)).1
 ·intro i hi;unfold fcat;split
  ·rename_i h'
   intro b
   by_cases hb:S' b=none
   ·exact .inl hb
   ·right
    rcases h4 b hb with hs|hs
    ·rcases h.dS i h' b with e|e
     ·exact absurd e hs
     ·exact e
    ·refine Classical.byContradiction fun hn=>?_
     have:=hlow i h' b hn
     omega
  ·exact(h5 _ (by omega)).2.1
 ·intro i j hi hj hij;unfold fcat;split
  ·rename_i h1
   split
   ·rename_i h2';exact h.df i j h1 h2' hij
   ·intro b
    by_cases hb:f i b=none
    ·exact .inl hb
    ·right
     have hlt:=hlow i h1 b hb
     refine Classical.byContradiction fun hn=>?_
     have:=(h5 _ (by omega)).2.2 b hn
     omega
  ·rename_i h1
   split
   ·rename_i h2'
    intro b
    by_cases hb:f j b=none
    ·exact .inr hb
    ·left
     have hlt:=hlow j h2' b hb
     refine Classical.byContradiction fun hn=>?_
     have:=(h5 _ (by omega)).2.2 b hn
     omega
   ·exact h6 _ _ (by omega) (by omega) (by omega)
 ·intro i hi b hb;unfold fcat at hb;split at hb
  ·rename_i h';exact h.lo i h' b hb
  ·have:=(h5 _ (by omega)).2.2 b hb;omega
theorem Its.cat{L L':List It}{S S':Hp}{f g:Nat→Hp}(h:Its L S f)(l:Hp.le S S')(h':Its L' S' g):Its (L++L') S' (fcat f L.length g):=by
 intro i A hA
 unfold fcat
 by_cases hi:i<L.length
 ·rw[if_pos hi];rw[List.getElem?_append_left hi] at hA;exact A.mono l (h i A hA)
 ·rw[if_neg hi];rw[List.getElem?_append_right (by omega)] at hA;exact h' _ A hA
theorem St.grow{c:Cx}{env env':Env}{L L':List It}{a a':Act}{w w':World}(st:St c env L a w)(h1:a'.defers=c.dfs)(h2:a'.tmps.size=c.nt)(h3:z2g env' a')
  (hb:Below w.heap.size w w')(hq:c.still=true→w'=w)
  (hn:∀ S f,S.sub w→z2h c.w0.heap.size S f L.length w→Its L S f→∃ S' g,Hp.le S S'∧S'.sub w'∧(∀ b,S' b≠none→S b≠none∨w.heap.size≤b) ∧
   (∀ i,i<L'.length→(g i).sub w'∧Hp.dj S' (g i)∧∀ b,g i b≠none→w.heap.size≤b)∧(∀ i j,i<L'.length→j<L'.length→i≠j→Hp.dj (g i) (g j))∧Its L' S' g):St c env' (L++L') a' w':=by
 obtain⟨S,f,e1,e2,e3,e4⟩:=st.heap
 obtain⟨S',g,k1,k2,k3,k4,k5,k6⟩:=hn S f e3.sub e3 e4
 have hB:=st.below.size
 refine⟨h1,h2,h3,st.below.trans (hb.mono hB),fun hs=>(hq hs).trans (st.calm hs),S',fcat f L.length g,Hp.le_trans e1 k1,?_,?_,e4.cat k1 k6⟩
 ·intro b hb'
  rcases k3 b hb' with h|h
  ·exact e2 b h
  ·right;omega
 ·rw[List.length_append]
  exact e3.cat hB k2 (fun i hi=>Hp.sub_grow (e3.subf i hi) hb) k3 k4 k5
theorem below_refl(w:World):Below w.heap.size w w:=Below.refl _ _
theorem St.note{c:Cx}{env:Env}{L:List It}{a:Act}{w:World}(st:St c env L a w){A:It}(h:∀ S f,S.sub w→Its L S f→A.P S Hp.emp):St c env (L++[A]) a w:=
 st.grow (L':=[A]) st.defers st.size st.env (below_refl w) (fun _=>rfl) fun S f hs _ hi=>⟨S,fun _=>Hp.emp,Hp.le_refl S,hs,fun b hb=>.inl hb,fun i _=>⟨Hp.sub_emp w,Hp.dj_emp S,fun b hb=>absurd rfl hb⟩,fun _ _ _ _ _=>Hp.dj_emp _,fun i B hB=>by
  match i,hB with
  |0,hB=>simp at hB;subst hB;exact h S f hs hi⟩
inductive Md where
 |plain
 |head (tail:List Oper)
 |quiet (n0:Nat)
def Cl(c:Cx)(S:Hp)(f:Nat→Hp)(n0:Nat)(w:World):Prop:=z2h c.w0.heap.size S f n0 w∧Below c.w0.heap.size c.w0 w∧c.still=false
section
variable (m:Md)(P:Program)(ops:Array Oper)(Q:Exit→Act→World→Prop)(c:Cx)
def RL(rest:List Oper)(env:Env)(L:List It):Prop:=match m with
 |.plain=>∀ a w,St c env L a w→wpList P ops Q rest a w
 |.head tail=>∀ a w,St c env L a w→wpStill P ops w (fun a'=>wpList P ops Q tail a' w) rest a
 |.quiet n0=>∀ S f,Hp.le c.S0 S→(∀ b,S b≠none→c.S0 b≠none∨c.w0.heap.size≤b)→n0≤L.length→Its L S (fcat f n0 fun _=>Hp.emp) →
   ∀ a,a.defers=c.dfs→a.tmps.size=c.nt→z2g env a→wpQuiet P ops (Cl c S f n0) (fun a'=>∀ w',Cl c S f n0 w'→Q .normal a' w') rest a
def Gx(x:Exit)(env:Env)(L:List It):Prop:=∀ a w,St c env L a w→Q x a w
def Go(code:Code)(env:Env)(L:List It):Prop:=∀ a w,St c env L a w→code.wp P Q a w
end
structure Vw(env:Env)(L:List It)(S:Hp)(f:Nat→Hp)(a:Act)(w:World):Prop where
 env:z2g env a
 sub:S.sub w
 subf:∀ i,i<L.length→(f i).sub w
 its:Its L S f
theorem Vw.has{env:Env}{L:List It}{S:Hp}{f:Nat→Hp}{a:Act}{w:World}(h:Vw env L S f a w){k:Nat}{A:It}(hA:L[k]?=some A):A.P S (f k):=h.its k A hA
theorem z2h.emp{B:Nat}{S:Hp}{f:Nat→Hp}{n0:Nat}{w:World}(h:z2h B S f n0 w)(hB:B≤w.heap.size)(m:Nat):z2h B S (fcat f n0 fun _=>Hp.emp) (n0+m) w:=
 h.cat hB h.sub h.subf (fun b hb=>.inl hb) (fun _ _=>⟨Hp.sub_emp w,Hp.dj_emp S,fun b hb=>absurd rfl hb⟩) (fun _ _ _ _ _=>Hp.dj_emp _)
theorem Cl.st{c:Cx}{S:Hp}{f:Nat→Hp}{n0:Nat}{w:World}{env:Env}{L:List It}{a:Act}(h:Cl c S f n0 w)(h1:Hp.le c.S0 S)(h2:∀ b,S b≠none→c.S0 b≠none∨c.w0.heap.size≤b)(h3:n0≤L.length)(h4:Its L S (fcat f n0 fun _=>Hp.emp))
  (d:a.defers=c.dfs)(s:a.tmps.size=c.nt)(e:z2g env a):St c env L a w:=
 ⟨d,s,e,h.2.1,fun q=>by rw[h.2.2] at q;(exact absurd q (by simp)),S,fcat f n0 fun _=>Hp.emp,h1,h2,by have:=h.1.emp h.2.1.size (L.length-n0);rwa [show n0+(L.length-n0)=L.length from by omega] at this,h4⟩
theorem Cl.vw{c:Cx}{S:Hp}{f:Nat→Hp}{n0:Nat}{w:World}{env:Env}{L:List It}{a:Act}(h:Cl c S f n0 w)(h4:Its L S (fcat f n0 fun _=>Hp.emp))(e:z2g env a):Vw env L S (fcat f n0 fun _=>Hp.emp) a w:=
 ⟨e,h.1.sub,fun i _=>by unfold fcat;split;(· rename_i h';exact h.1.subf i h');(· exact Hp.sub_emp w),h4⟩
def wanted(ops:Array Oper)(env:Env):Option (Nat×Bool)→Option Bool
 |none=>some true
 |some (j,b)=>match((ops[j]?).bind (·.dst)).bind (look env) with
  |some (.bool x)=>some (x==b)
  |some (.tuple _)=>some false
  |_=>none
theorem zw{ops:Array Oper}{env:Env}{a:Act}(h:z2g env a){o:Oper}{b:Bool}(e:wanted ops env o.guard=some b):Region.wanted o (yielded ops a.tmps)=b:=by
 unfold Region.wanted
 cases hg:o.guard with
 |none=>rw[hg] at e;simp[wanted] at e;simp[e]
 |some p=>
  obtain⟨j,q⟩:=p
  rw[hg] at e
  simp only[wanted] at e
  cases hj:(ops[j]?).bind (·.dst) with
  |none=>rw[hj] at e;simp at e
  |some d=>
   rw[hj] at e
   simp only[Option.bind_some] at e
   cases hl:look env d with
   |none=>rw[hl] at e;simp at e
   |some u=>
    rw[hl] at e
    have ht:=look_ok h hl
    cases u<;>simp at e<;>simp[yielded,hj,ht,e]
section
variable {md:Md}{P:Program}{ops:Array Oper}{Q:Exit→Act→World→Prop}{c:Cx}{rest:List Oper}{env:Env}{L:List It}
theorem RL.fin(h:Gx Q c .normal env L):RL .plain P ops Q c [] env L:=fun a w st=>wpList_nil (h a w st)
theorem RL.finQ{n0:Nat}(h:Gx Q c .normal env L):RL (.quiet n0) P ops Q c [] env L:=fun _ _ h1 h2 h3 h4 a d s e=>wpQuiet_nil fun w' hw'=>h a w' (hw'.st h1 h2 h3 h4 d s e)
theorem RL.finH{tail:List Oper}(h:RL .plain P ops Q c tail env L):RL (.head tail) P ops Q c [] env L:=fun a w st=>wpStill_nil (h a w st)
theorem RL.skip{d:Nat}{op:Op}{ty:TypeId}{pos:String}{af:Array Edge}{g:Option (Nat×Bool)}(hg:wanted ops env g=some false)(hd:Slot c d)
  (k:RL md P ops Q c rest (put env d undef) L):RL md P ops Q c (⟨some d,op,ty,pos,af,g⟩::rest) env L:=by
 cases md with
 |plain=>
  intro a w st
  have hw:=zw (o:=⟨some d,op,ty,pos,af,g⟩) st.env hg
  unfold wpList
  rw[if_neg (by rw[hw];simp)]
  exact k _ _ (st.put undef hd)
 |head tail=>
  intro a w st
  have hw:=zw (o:=⟨some d,op,ty,pos,af,g⟩) st.env hg
  unfold wpStill
  rw[if_neg (by rw[hw];simp)]
  exact k _ _ (st.put undef hd)
 |quiet n0=>
  intro S f h1 h2 h3 h4 a de s e
  have hw:=zw (o:=⟨some d,op,ty,pos,af,g⟩) e hg
  unfold wpQuiet
  rw[if_neg (by rw[hw];simp)]
  exact k S f h1 h2 h3 h4 _ de (by simpa[Act.put] using s) (e.put undef (by rw[s];exact hd.lt))
theorem z6g{o:Oper}{a:Act}{w w':World}{v:Value}(hw:Region.wanted o (yielded ops a.tmps)=true)(hr:(execOp a.eval o).run P w=.ok (.value v) w')
  (k:wpList P ops Q rest (a.put o.dst v) w'):wpList P ops Q (o::rest) a w:=by
 unfold wpList
 rw[if_pos hw]
 left
 unfold Oper.wp
 rw[hr]
 exact k
theorem wpl_skip{o:Oper}{a:Act}{w w':World}(hw:Region.wanted o (yielded ops a.tmps)=true)(hr:(execOp a.eval o).run P w=.ok .skip w')
  (k:wpList P ops Q rest (a.put o.dst undef) w'):wpList P ops Q (o::rest) a w:=by
 unfold wpList
 rw[if_pos hw]
 left
 unfold Oper.wp
 rw[hr]
 exact k
theorem RL.rd{d:Nat}{op:Op}{ty:TypeId}{pos:String}{af:Array Edge}{g:Option (Nat×Bool)}{X:Value→List It→Prop}(hg:wanted ops env g=some true)(hd:Slot c d)
  (hr:∀ S f,Its L S f→(∃ w,S.sub w∧∀ i,i<L.length→(f i).sub w)→∃ v Lx,X v Lx∧Its Lx S (fun _=>Hp.emp)∧∀ a w,Vw env L S f a w→(execOp a.eval ⟨some d,op,ty,pos,af,g⟩).run P w=.ok (.value v) w)
  (k:∀ v Lx,X v Lx→RL md P ops Q c rest (put env d v) (L++Lx)):RL md P ops Q c (⟨some d,op,ty,pos,af,g⟩::rest) env L:=by
 have grow:∀ a w,St c env L a w→∃ v Lx,X v Lx∧(execOp a.eval ⟨some d,op,ty,pos,af,g⟩).run P w=.ok (.value v) w∧St c (put env d v) (L++Lx) (a.put (some d) v) w:=by
  intro a w st
  obtain⟨S,f,e1,e2,e3,e4⟩:=st.heap
  obtain⟨v,Lx,hx,hl,hr'⟩:=hr S f e4 ⟨w,e3.sub,e3.subf⟩
  have st':=st.put v hd
  refine⟨v,Lx,hx,hr' a w ⟨st.env,e3.sub,e3.subf,e4⟩,st'.defers,st'.size,st'.env,st'.below,st'.calm,S,fcat f L.length fun _=>Hp.emp,e1,e2,?_,e4.cat (Hp.le_refl S) hl⟩
  rw[List.length_append];exact e3.emp st.below.size _
 cases md with
 |plain=>
  intro a w st
  obtain⟨v,Lx,hx,hrun,st'⟩:=grow a w st
  exact z6g (zw (o:=⟨some d,op,ty,pos,af,g⟩) st.env hg) hrun (k v Lx hx _ _ st')
 |head tail=>
  intro a w st
  obtain⟨v,Lx,hx,hrun,st'⟩:=grow a w st
  have hw:=zw (o:=⟨some d,op,ty,pos,af,g⟩) st.env hg
  unfold wpStill
  rw[if_pos hw]
  unfold Oper.still
  rw[hrun]
  exact⟨rfl,k v Lx hx _ _ st'⟩
 |quiet n0=>
  intro S f h1 h2 h3 h4 a de s e
  have hw:=zw (o:=⟨some d,op,ty,pos,af,g⟩) e hg
  by_cases hex:∃ w,Cl c S f n0 w
  ·obtain⟨w0,hw0⟩:=hex
   obtain⟨v,Lx,hx,hl,hr'⟩:=hr S _ h4 ⟨w0,(hw0.vw (env:=env) (a:=a) h4 e).sub,(hw0.vw (env:=env) (a:=a) h4 e).subf⟩
   unfold wpQuiet
   rw[if_pos hw]
   refine⟨v,fun w hw'=>?_,k v Lx hx S f h1 h2 (by rw[List.length_append];omega) ?_ _ de (by simpa[Act.put] using s) (e.put v (by rw[s];exact hd.lt))⟩
   ·unfold Oper.quietAt
    rw[hr' a w (hw'.vw h4 e)]
    exact⟨rfl,rfl⟩
   ·have:=h4.cat (Hp.le_refl S) hl
    intro i A hA
    have h5:=this i A hA
    have h6:fcat (fcat f n0 fun _=>Hp.emp) L.length (fun _=>Hp.emp) i=fcat f n0 (fun _=>Hp.emp) i:=by
     unfold fcat
     split
     ·rfl
     ·rw[if_neg (by omega)]
    rwa [h6] at h5
  ·have:∀ (l:List Oper) (a:Act),wpQuiet P ops (Cl c S f n0) (fun a'=>∀ w',Cl c S f n0 w'→Q .normal a' w') l a:=by
    intro l
    induction l with
    |nil=>exact fun a w' hw'=>absurd ⟨w',hw'⟩ hex
    |cons o l ih=>
     intro a
     unfold wpQuiet
     split
     ·exact⟨undef,fun w hw'=>absurd ⟨w,hw'⟩ hex,ih _⟩
     ·exact ih _
   exact this _ a
theorem RL.val{d:Nat}{op:Op}{ty:TypeId}{pos:String}{af:Array Edge}{g:Option (Nat×Bool)}{v:Value}(hg:wanted ops env g=some true)(hd:Slot c d)
  (hr:∀ S f a w,Vw env L S f a w→(execOp a.eval ⟨some d,op,ty,pos,af,g⟩).run P w=.ok (.value v) w)
  (k:RL md P ops Q c rest (put env d v) L):RL md P ops Q c (⟨some d,op,ty,pos,af,g⟩::rest) env L:=
 RL.rd (X:=fun u Lx=>u=v∧Lx=[]) hg hd (fun S f _ _=>⟨v,[],⟨rfl,rfl⟩,fun i A hA=>by simp at hA,fun a w vw=>hr S f a w vw⟩) (by rintro _ _ ⟨rfl,rfl⟩;rw[List.append_nil];exact k)
section vals
variable {d:Nat}{ty:TypeId}{pos:String}{af:Array Edge}{g:Option (Nat×Bool)}{v:Value}
theorem RL.mv{x:Operand}(hg:wanted ops env g=some true)(hd:Slot c d)(hx:opv env x=some v)
  (k:RL md P ops Q c rest (put env d v) L):RL md P ops Q c (⟨some d,.move x,ty,pos,af,g⟩::rest) env L:=
 RL.val hg hd (fun S f a w st=>by simp[execOp,zf st.env hx]) k
theorem RL.asg{x:Operand}(hg:wanted ops env g=some true)(hd:Slot c d)(hx:opv env x=some v)
  (k:RL md P ops Q c rest (put env d v) L):RL md P ops Q c (⟨some d,.assign x,ty,pos,af,g⟩::rest) env L:=
 RL.val hg hd (fun S f a w st=>by simp[execOp,zf st.env hx]) k
theorem RL.ext{x:Operand}{vs:Array Value}{i:Nat}(hg:wanted ops env g=some true)(hd:Slot c d)(hx:opv env x=some (.tuple vs))(hv:vs[i]?=some v)
  (k:RL md P ops Q c rest (put env d v) L):RL md P ops Q c (⟨some d,.extract x i,ty,pos,af,g⟩::rest) env L:=
 RL.val hg hd (fun S f a w st=>by simp[execOp,zf st.env hx,Instr.extract,hv]) k
def binI:BinOp→IntKind→Int→Int→Option Value
 |.add,k,x,y=>some (.int k (k.wrap (x+y)))
 |.sub,k,x,y=>some (.int k (k.wrap (x-y)))
 |.mul,k,x,y=>some (.int k (k.wrap (x*y)))
 |.and,k,x,y=>some (.int k (bits .and k x y))
 |.or,k,x,y=>some (.int k (bits .or k x y))
 |.xor,k,x,y=>some (.int k (bits .xor k x y))
 |.andNot,k,x,y=>some (.int k (bits .andNot k x y))
 |.eql,_,x,y=>some (.bool (x==y))
 |.neq,_,x,y=>some (.bool (x != y))
 |.lss,_,x,y=>some (.bool (decide (x<y)))
 |.leq,_,x,y=>some (.bool (decide (x≤y)))
 |.gtr,_,x,y=>some (.bool (decide (x>y)))
 |.geq,_,x,y=>some (.bool (decide (x≥y)))
 |_,_,_,_=>none
theorem zfe{op:BinOp}{k:IntKind}{x y:Int}{v:Value}(h:binI op k x y=some v)(t:TypeId)(w:World):(binOp op t (.int k x) (.int k y)).run P w=.ok v w:=by
 cases op<;>simp[binI] at h<;>subst h<;>simp[binOp_add,binOp_sub,binOp_mul,binOp_and,binOp_or,binOp_xor,binOp_andNot,binOp_eql,binOp_neq,binOp_lss,binOp_leq,binOp_gtr,binOp_geq,Op.intArith,intBits_and,intBits_or,intBits_xor,intBits_andNot]
theorem RL.binI{op:BinOp}{xt yt:TypeId}{x y:Operand}{kd:IntKind}{m n:Int}(hg:wanted ops env g=some true)(hd:Slot c d)(hx:opv env x=some (.int kd m))(hy:opv env y=some (.int kd n))(hv:binI op kd m n=some v)
  (k:RL md P ops Q c rest (put env d v) L):RL md P ops Q c (⟨some d,.binOp op xt x y yt,ty,pos,af,g⟩::rest) env L:=
 RL.val hg hd (fun S f a w st=>by simp[execOp,zf st.env hx,zf st.env hy,eqGuard_at_int,zfe hv]) k
theorem RL.rem{xt yt:TypeId}{x y:Operand}{kd:IntKind}{m n:Int}(hg:wanted ops env g=some true)(hd:Slot c d)(hx:opv env x=some (.int kd m))(hy:opv env y=some (.int kd n))(hn:n≠0)
  (k:RL md P ops Q c rest (put env d (.int kd (m.tmod n))) L):RL md P ops Q c (⟨some d,.binOp .rem xt x y yt,ty,pos,af,g⟩::rest) env L:=
 RL.val hg hd (fun S f a w st=>by simp[execOp,zf st.env hx,zf st.env hy,eqGuard_at_int,binOp_rem,Op.intDiv,hn]) k
def shv(op:BinOp)(kd:IntKind)(m n:Int):Value:=match op with
 |.shl=>.int kd (kd.wrap (m*2 ^ (min n.toNat kd.bits)))
 |_=>.int kd (m.fdiv (2 ^ (min n.toNat kd.bits)))
theorem RL.sh{op:BinOp}{xt yt:TypeId}{x y:Operand}{kd ke:IntKind}{m n:Int}(hop:op=.shl∨op=.shr)(hg:wanted ops env g=some true)(hd:Slot c d)(hx:opv env x=some (.int kd m))(hy:opv env y=some (.int ke n))(hn:0≤n)
  (k:RL md P ops Q c rest (put env d (shv op kd m n)) L):RL md P ops Q c (⟨some d,.binOp op xt x y yt,ty,pos,af,g⟩::rest) env L:=
 RL.val hg hd (fun S f a w st=>by
  have h':¬ n<0:=by omega
  rcases hop with rfl|rfl<;>simp[execOp,zf st.env hx,zf st.env hy,eqGuard_at_int,binOp_shl,binOp_shr,Op.shift,h',shv]) k
theorem RL.notB{xt:TypeId}{x:Operand}{m:Bool}(hg:wanted ops env g=some true)(hd:Slot c d)(hx:opv env x=some (.bool m))
  (k:RL md P ops Q c rest (put env d (.bool (!m))) L):RL md P ops Q c (⟨some d,.unOp .not xt x,ty,pos,af,g⟩::rest) env L:=
 RL.val hg hd (fun S f a w st=>by simp[execOp,zf st.env hx,Op.unary]) k
end vals
end
def SlOf{α:Type}(A:It)(t:TR α)(v:Value)(l:List α):Prop:=∀ S f,A.P S f→∃ h xs,(h=S∨h=f)∧slAt h v l.length xs∧reps t S xs l
theorem SlOf.imm{α:Type}{t:TR α}{v:Value}{l:List α}:SlOf (imm t.sl v l) t v l:=fun S _ h=>by
 obtain⟨cs,e,u,xs,rfl,h1,h2⟩:=h
 have:v=u:=by rw[e];rfl
 subst this
 exact⟨S,xs,.inl rfl,h1,h2⟩
theorem SlOf.own{α:Type}{e:TypeId}{t:TR α}{v:Value}{l:List α}:SlOf (own e t v l) t v l:=fun _ f h=>by
 obtain⟨xs,h1,h2⟩:=h
 exact⟨f,xs,.inr rfl,z8m h1,h2⟩
def PtOf{α:Type}(A:It)(t:TR α)(v:Value)(d:α):Prop:=∀ S f,A.P S f→∃ h b off C ty fz cs,(h=S∨h=f)∧v=.pointer (some ⟨b,off,none⟩)∧h b=some (.cells C ty fz)∧t.rep S cs d∧∀ j u,cs[j]?=some u→C[off+j]?=some u
theorem PtOf.imm{α:Type}{t:TR α}{v:Value}{d:α}:PtOf (imm t.ptr v d) t v d:=fun S _ h=>by
 obtain⟨cs,e,b,off,C,ty,fz,xs,rfl,h1,h2,h3⟩:=h
 exact⟨S,b,off,C,ty,fz,xs,.inl rfl,by rw[e];rfl,h1,h2,h3⟩
theorem PtOf.obox{α:Type}{e:TypeId}{t:TR α}{v:Value}{d:α}:PtOf (obox e t v d) t v d:=fun _ f h=>by
 obtain⟨b,cs,e1,e2,r⟩:=h
 exact⟨f,b,0,cs.toArray,e,_,cs,.inr rfl,e1,e2,r,fun j u hu=>by simpa using hu⟩
def adr(v:Value)(k:Nat):Value:=match v with
 |.slice (some a) _ _=>.pointer (some (a.add k))
 |.pointer (some a)=>.pointer (some (a.add k))
 |_=>undef
theorem z3h(b off k:Nat):(⟨b,off,none⟩:Addr).add k=⟨b,off+k,none⟩:=Addr.add_lit b off k
theorem St.has{c:Cx}{env:Env}{L:List It}{a:Act}{w:World}(h:St c env L a w){k:Nat}{A:It}(hA:L[k]?=some A):∃ S f,S.sub w∧f.sub w∧A.P S f:=by
 obtain⟨S,f,_,_,h3,h4⟩:=h.heap
 exact⟨S,f k,h3.sub,h3.subf k (List.getElem?_eq_some_iff.1 hA).1,h4 k A hA⟩
theorem z7l{h:Hp}{w:World}(hs:h.sub w){b off:Nat}{C:Array Value}{ty:TypeId}{fz:Nat×Nat}{u:Value}(hb:h b=some (.cells C ty fz))(hu:C[off]?=some u):w.cell? ⟨b,off,none⟩=some u:=by
 rw[cell_of_row w b off C ty fz (hs b _ hb)];exact hu
def aggDesc:TypeDesc→Bool|.struct _|.array _ _=>true|_=>false
structure Ln(P:Program)(T:TypeId)(sz:Nat)(ag:Bool):Prop where
 ex:∃ i d,P.info? T=some i∧i.size=sz∧P.underlying T=some d∧aggDesc d=ag
theorem run_isAgg{P:Program}{T:TypeId}{sz:Nat}{ag:Bool}(l:Ln P T sz ag)(w:World):(isAgg T).run P w=.ok ag w:=by
 obtain⟨i,d,_,_,h3,h4⟩:=l.ex
 unfold isAgg
 simp only[Sem.run_bind,run_underlying h3,Result.andThen_ok]
 cases d<;>simp_all [aggDesc]
theorem run_sizeOf{P:Program}{T:TypeId}{sz:Nat}{ag:Bool}(l:Ln P T sz ag)(w:World):(sizeOf T).run P w=.ok sz w:=by
 obtain⟨i,d,h1,h2,_,_⟩:=l.ex
 simp[sizeOf,typeInfo,h1,h2]
theorem z6v{P:Program}{T:TypeId}{sz:Nat}{ag:Bool}(l:Ln P T sz ag)(w:World)(b off:Nat)(cs:List Value)(hl:cs.length=sz)(h1:ag=false→sz=1)
  (hc:∀ j u,cs[j]?=some u→w.cell? ⟨b,off+j,none⟩=some u):(Instr.loadAt T (.pointer (some ⟨b,off,none⟩))).run P w=.ok (mkv ag cs) w:=by
 unfold Instr.loadAt Instr.sureAddr loadVar
 simp only[Sem.run_bind,Sem.run_pure,Result.andThen_ok,run_isAgg l]
 cases ag
 ·have:=h1 rfl
  match cs,hl with
  | [u],_=>have h2:w.cell? ⟨b,off,none⟩=some u:=hc 0 u rfl;simp[run_load,h2,mkv]
  | [],hl=>simp at hl;omega
  |_::_::_,hl=>simp at hl;omega
 ·have hh:(loadCells ⟨b,off,none⟩ sz).run P w=.ok cs.toArray w:=by
   rw[← hl];exact run_loadCells_list w ⟨b,off,none⟩ cs (fun j u hu=>by rw[z3h];exact hc j u hu)
  simp[run_sizeOf l,hh,mkv]
section
variable {md:Md}{P:Program}{ops:Array Oper}{Q:Exit→Act→World→Prop}{c:Cx}{rest:List Oper}{env:Env}{L:List It}
variable {d:Nat}{ty:TypeId}{pos:String}{af:Array Edge}{g:Option (Nat×Bool)}
theorem RL.lenS{α:Type}{t:TR α}{l:List α}{v:Value}{x:Operand}{T E:TypeId}(n:Nat){A:It}(hT:P.underlying T=some (.slice E))(hg:wanted ops env g=some true)(hd:Slot c d)(hx:opv env x=some v)
  (hA:L[n]?=some A)(hs:SlOf A t v l)(k:RL md P ops Q c rest (put env d (.int .i64 l.length)) L):RL md P ops Q c (⟨some d,.call ⟨.builtin .len,#[x],#[T]⟩,ty,pos,af,g⟩::rest) env L:=
 RL.val hg hd (fun S f a w st=>by
  have h:=st.has hA
  obtain⟨_,xs,_,⟨ad,cap,rfl,_⟩,_⟩:=hs S _ h
  simp[execOp,resolve,invoke,builtin,zf st.env hx,Builtin.len_,run_underlying hT,goInt]) k
theorem RL.idxS{α:Type}{t:TR α}{l:List α}{v:Value}{x y:Operand}{T E:TypeId}{kd:IntKind}{i:Int}{sz:Nat}{ag:Bool}(n:Nat){A:It}(hT:P.underlying T=some (.slice E))(hE:Ln P E sz ag)(hg:wanted ops env g=some true)(hd:Slot c d)
  (hx:opv env x=some v)(hy:opv env y=some (.int kd i))(hA:L[n]?=some A)(hs:SlOf A t v l)(h0:0≤i)(h1:i<l.length)
  (k:RL md P ops Q c rest (put env d (adr v (i.toNat*sz))) L):RL md P ops Q c (⟨some d,.indexAddr T x y,ty,pos,af,g⟩::rest) env L:=
 RL.val hg hd (fun S f a w st=>by
  have h:=st.has hA
  obtain⟨_,xs,_,⟨ad,cap,rfl,_,_,h2⟩,_⟩:=hs S _ h
  rcases h2 with⟨h2,_⟩|⟨b,off,C,ty,fz,rfl,_⟩
  ·omega
  ·simp[execOp,zf st.env hx,zf st.env hy,Instr.indexAt,asIntOf,run_underlying hT,h0,h1,run_sizeOf hE,adr]) k
end
def VR{α:Type}(t:TR α)(u:Value)(e:α)(L:List It):Prop:=∀ S f,Its L S f→t.vrep S u e
theorem VR.int{k:IntKind}{x:Int}{L:List It}:VR (TR.ik k) (.int k x) x L:=fun _ _ _=>⟨[.int k x],rfl,rfl⟩
theorem VR.str{x:List UInt8}{L:List It}:VR TR.str (.string ⟨x.toArray⟩) x L:=fun _ _ _=>⟨[.string ⟨x.toArray⟩],rfl,rfl⟩
theorem VR.nil{α:Type}{t:TR α}{L:List It}:VR t.sl (.slice none 0 0) [] L:=fun _ _ _=>⟨[.slice none 0 0],rfl,.slice none 0 0,[],rfl,⟨none,0,rfl,Nat.le_refl _,by simp[maxLen],.inl ⟨rfl,rfl⟩⟩,rfl⟩
theorem VR.item{α:Type}{t:TR α}{u:Value}{e:α}{L:List It}(n:Nat)(h:L[n]?=some (imm t u e)):VR t u e L:=fun S f hi=>hi n _ h
def Part{α β:Type}(t:TR α)(d:α)(off:Nat)(u:TR β)(e:β):Prop:=∀ h cs,t.rep h cs d→∃ p m q,cs=p++m++q∧p.length=off∧u.rep h m e
theorem Part.self{α:Type}{t:TR α}{d:α}:Part t d 0 t d:=fun h cs r=>⟨[],cs,[],by simp,rfl,r⟩
theorem Part.fst{α β γ:Type}{a:TR α}{b:TR β}{u:TR γ}{d:α×β}{off:Nat}{e:γ}(h:Part a d.1 off u e):Part (a.pair b) d off u e:=fun hp cs r=>by
 obtain⟨c1,c2,rfl,r1,_⟩:=r
 obtain⟨p,m,q,rfl,hl,hr⟩:=h hp c1 r1
 exact⟨p,m,q++c2,by simp,hl,hr⟩
theorem Part.snd{α β γ:Type}{a:TR α}{b:TR β}{u:TR γ}{d:α×β}{off:Nat}{e:γ}(h:Part b d.2 off u e):Part (a.pair b) d (a.size+off) u e:=fun hp cs r=>by
 obtain⟨c1,c2,rfl,r1,r2⟩:=r
 obtain⟨p,m,q,rfl,hl,hr⟩:=h hp c2 r2
 exact⟨c1++p,m,q,by simp,by rw[List.length_append,a.len r1,hl],hr⟩
theorem Part.arr{α γ:Type}{n:Nat}{t:TR α}{u:TR γ}{l:List α}{i off:Nat}{x:α}{e:γ}(hi:l[i]?=some x)(h:Part t x off u e):Part (TR.arr n t) l (i*t.size+off) u e:=fun hp cs r=>by
 obtain⟨p,m,q,rfl,hl,hr⟩:=zao i x r.2 hi
 obtain⟨p',m',q',rfl,hl',hr'⟩:=h hp m hr
 exact⟨p++p',m',q'++q,by simp,by rw[List.length_append,hl,hl'],hr'⟩
def Upd{α β:Type}(t:TR α)(d:α)(off:Nat)(u:TR β)(e:β)(d':α):Prop:=∀ h cs n,t.rep h cs d→u.rep h n e→∃ p m q,cs=p++m++q∧p.length=off∧m.length=u.size∧t.rep h (p++n++q) d'
theorem Upd.self{α:Type}{t:TR α}{d d':α}:Upd t d 0 t d' d':=fun h cs n r s=>⟨[],cs,[],by simp,rfl,t.len r,by simpa using s⟩
theorem Upd.fst{α β γ:Type}{a:TR α}{b:TR β}{u:TR γ}{d:α×β}{x:α}{off:Nat}{e:γ}(h:Upd a d.1 off u e x):Upd (a.pair b) d off u e (x,d.2):=fun hp cs n r s=>by
 obtain⟨c1,c2,rfl,r1,r2⟩:=r
 obtain⟨p,m,q,rfl,hl,hm,hr⟩:=h hp c1 n r1 s
 exact⟨p,m,q++c2,by simp,hl,hm,⟨p++n++q,c2,by simp,hr,r2⟩⟩
theorem Upd.snd{α β γ:Type}{a:TR α}{b:TR β}{u:TR γ}{d:α×β}{y:β}{off:Nat}{e:γ}(h:Upd b d.2 off u e y):Upd (a.pair b) d (a.size+off) u e (d.1,y):=fun hp cs n r s=>by
 obtain⟨c1,c2,rfl,r1,r2⟩:=r
 obtain⟨p,m,q,rfl,hl,hm,hr⟩:=h hp c2 n r2 s
 exact⟨c1++p,m,q,by simp,by rw[List.length_append,a.len r1,hl],hm,⟨c1,p++n++q,by simp,r1,hr⟩⟩
theorem Upd.arr{α γ:Type}{n:Nat}{t:TR α}{u:TR γ}{l:List α}{i off:Nat}{x y:α}{e:γ}(hi:l[i]?=some x)(h:Upd t x off u e y):Upd (TR.arr n t) l (i*t.size+off) u e (l.set i y):=fun hp cs k r s=>by
 obtain⟨rl,r⟩:=r
 obtain⟨p,m,q,e1,hl,hr⟩:=zao i x r hi
 obtain⟨p',m',q',e2,hl',hm',hr'⟩:=h hp m k hr s
 obtain⟨a,b,d,e3,ha,hb,hc⟩:=zff i x y (p'++k++q') r hi hr'
 subst e2
 have hlen:p.length=a.length:=by omega
 have hmid:(p'++m'++q').length=b.length:=by rw[hb,t.len hr]
 have e4:p++((p'++m'++q')++q)=a++(b++d):=by rw[← List.append_assoc,← e1,e3,List.append_assoc]
 obtain⟨e5,e6⟩:=List.append_inj e4 hlen
 obtain⟨e7,e8⟩:=List.append_inj e6 hmid
 refine⟨p++p',m',q'++q,by rw[e1];simp,by rw[List.length_append,hl,hl'],hm',by simpa using rl,?_⟩
 rw[e5,e8]
 simpa using hc
section
variable {md:Md}{P:Program}{ops:Array Oper}{Q:Exit→Act→World→Prop}{c:Cx}{rest:List Oper}{env:Env}{L:List It}
variable {d:Nat}{ty:TypeId}{pos:String}{af:Array Edge}{g:Option (Nat×Bool)}
theorem ldS_rd{α β:Type}{t:TR α}{r:TR β}{l:List α}{v:Value}{x:Operand}{T:TypeId}{i off:Nat}{e:α}{e':β}(n:Nat){A:It}(hE:Ln P T r.size r.agg)
  (hx:opv env x=some (adr v (i*t.size+off)))(hA:L[n]?=some A)(hs:SlOf A t v l)(he:l[i]?=some e)(hp:Part t e off r e')(S:Hp)(f:Nat→Hp)(hi:Its L S f) :
  ∃ cs,r.rep S cs e'∧∀ a w,Vw env L S f a w→(execOp a.eval ⟨some d,.load T x,ty,pos,af,g⟩).run P w=.ok (.value (mkv r.agg cs)) w:=by
 have hn:=(List.getElem?_eq_some_iff.1 hA).1
 obtain⟨h,xs,hh,⟨ad,cap,rfl,_,_,h2⟩,hr⟩:=hs S (f n) (hi n A hA)
 obtain⟨p,cs,q,rfl,hpl,hc⟩:=zao i e hr he
 obtain⟨p',cs',q',rfl,hpl',hc'⟩:=hp S cs hc
 have hi':i<l.length:=(List.getElem?_eq_some_iff.1 he).1
 rcases h2 with⟨h2,_⟩|⟨b,o,C,tb,fz,rfl,hb,hC⟩
 ·omega
 refine⟨cs',hc',fun a w st=>?_⟩
 have hsub:h.sub w:=by
  rcases hh with rfl|rfl
  ·exact st.sub
  ·exact st.subf n hn
 have hcell:∀ j u,cs'[j]?=some u→w.cell? ⟨b,o+(i*t.size+off)+j,none⟩=some u:=fun j u hu=>by
  rw[Nat.add_assoc]
  refine z7l hsub hb (hC (i*t.size+off+j) u ?_)
  have hj:=(List.getElem?_eq_some_iff.1 hu).1
  rw[show p++(p'++cs'++q')++q=(p++p')++(cs'++(q'++q)) from by simp]
  rw[List.getElem?_append_right (by rw[List.length_append];omega),List.length_append,List.getElem?_append_left (by omega)]
  rw[show i*t.size+off+j-(p.length+p'.length)=j from by omega];exact hu
 have hrun:=z6v hE w b (o+(i*t.size+off)) cs' (r.len hc') r.one hcell
 simp only[execOp,zf st.env hx,adr,z3h,Sem.run_bind,hrun];rfl
theorem RL.ldS{α β:Type}{t:TR α}{r:TR β}{l:List α}{v:Value}{x:Operand}{T:TypeId}{i off:Nat}{e:α}{e':β}(n:Nat){A:It}(hE:Ln P T r.size r.agg)(hg:wanted ops env g=some true)(hd:Slot c d)
  (hx:opv env x=some (adr v (i*t.size+off)))(hA:L[n]?=some A)(hs:SlOf A t v l)(he:l[i]?=some e)(hp:Part t e off r e')
  (k:∀ u,RL md P ops Q c rest (put env d u) (L++[imm r u e'])):RL md P ops Q c (⟨some d,.load T x,ty,pos,af,g⟩::rest) env L:=
 RL.rd (X:=fun u Lx=>Lx=[imm r u e']) hg hd (fun S f hi _=>by
  obtain⟨cs,h1,h2⟩:=ldS_rd (ty:=ty) (pos:=pos) (af:=af) (g:=g) (d:=d) n hE hx hA hs he hp S f hi
  refine⟨_,_,rfl,?_,h2⟩
  intro j B hB
  match j,hB with
  |0,hB=>simp at hB;subst hB;exact⟨cs,rfl,h1⟩) (by rintro u _ rfl;exact k u)
theorem ldP_rd{α β:Type}{t:TR α}{r:TR β}{dt:α}{v:Value}{x:Operand}{T:TypeId}{off:Nat}{e':β}(n:Nat){A:It}(hE:Ln P T r.size r.agg)
  (hx:opv env x=some (adr v off)∨(opv env x=some v∧off=0))(hA:L[n]?=some A)(hs:PtOf A t v dt)(hp:Part t dt off r e')(S:Hp)(f:Nat→Hp)(hi:Its L S f) :
  ∃ cs,r.rep S cs e'∧∀ a w,Vw env L S f a w→(execOp a.eval ⟨some d,.load T x,ty,pos,af,g⟩).run P w=.ok (.value (mkv r.agg cs)) w:=by
 have hn:=(List.getElem?_eq_some_iff.1 hA).1
 obtain⟨h,b,o,C,tb,fz,cs,hh,rfl,hb,hc,hC⟩:=hs S (f n) (hi n A hA)
 obtain⟨p',cs',q',rfl,hpl',hc'⟩:=hp S cs hc
 refine⟨cs',hc',fun a w st=>?_⟩
 have hsub:h.sub w:=by
  rcases hh with rfl|rfl
  ·exact st.sub
  ·exact st.subf n hn
 have hcell:∀ j u,cs'[j]?=some u→w.cell? ⟨b,o+off+j,none⟩=some u:=fun j u hu=>by
  rw[Nat.add_assoc]
  refine z7l hsub hb (hC (off+j) u ?_)
  have hj:=(List.getElem?_eq_some_iff.1 hu).1
  rw[List.append_assoc,List.getElem?_append_right (by omega),List.getElem?_append_left (by omega)]
  rw[show off+j-p'.length=j from by omega];exact hu
 have hrun:=z6v hE w b (o+off) cs' (r.len hc') r.one hcell
 have hx':a.eval x=.pointer (some ⟨b,o+off,none⟩):=by
  rcases hx with hx|⟨hx,rfl⟩
  ·rw[zf st.env hx,adr,z3h]
  ·rw[zf st.env hx];rfl
 simp only[execOp,hx',Sem.run_bind,hrun];rfl
theorem RL.ldP{α β:Type}{t:TR α}{r:TR β}{dt:α}{v:Value}{x:Operand}{T:TypeId}{off:Nat}{e':β}(n:Nat){A:It}(hE:Ln P T r.size r.agg)(hg:wanted ops env g=some true)(hd:Slot c d)
  (hx:opv env x=some (adr v off)∨(opv env x=some v∧off=0))(hA:L[n]?=some A)(hs:PtOf A t v dt)(hp:Part t dt off r e')
  (k:∀ u,RL md P ops Q c rest (put env d u) (L++[imm r u e'])):RL md P ops Q c (⟨some d,.load T x,ty,pos,af,g⟩::rest) env L:=
 RL.rd (X:=fun u Lx=>Lx=[imm r u e']) hg hd (fun S f hi _=>by
  obtain⟨cs,h1,h2⟩:=ldP_rd (ty:=ty) (pos:=pos) (af:=af) (g:=g) (d:=d) n hE hx hA hs hp S f hi
  refine⟨_,_,rfl,?_,h2⟩
  intro j B hB
  match j,hB with
  |0,hB=>simp at hB;subst hB;exact⟨cs,rfl,h1⟩) (by rintro u _ rfl;exact k u)
end
theorem St.upd{c:Cx}{env env':Env}{L:List It}{a a':Act}{w w':World}{S:Hp}{f:Nat→Hp}(st:St c env L a w)(h1:a'.defers=c.dfs)(h2:a'.tmps.size=c.nt)(h3:z2g env' a')
  (e1:Hp.le c.S0 S)(e2:∀ b,S b≠none→c.S0 b≠none∨c.w0.heap.size≤b)(e3:z2h c.w0.heap.size S f L.length w)(e4:Its L S f)
  (k:Nat)(A:It)(h':Hp)(hk:k<L.length)(hq:c.still=false)(hos:w'.os=w.os)(htape:w'.tape=w.tape)(hout:w'.output=w.output)(hsz:w.heap.size≤w'.heap.size)
  (hsub:h'.sub w')(hdom:∀ b,h' b≠none→f k b≠none∨w.heap.size≤b)(hkeep:∀ b,b<w.heap.size→f k b=none→w'.heap[b]?=w.heap[b]?)(hA:A.P S h'):St c env' (L.set k A) a' w':=by
 have hB:=st.below.size
 have hS:S.sub w':=fun b o hb=>by
  have hlt:=Hp.lt_of_sub e3.sub (b:=b) (by rw[hb];simp)
  rcases e3.dS k hk b with h|h
  ·rw[h] at hb;cases hb
  ·rw[hkeep b hlt h];exact e3.sub b o hb
 have hf:∀ i,i<L.length→i≠k→(f i).sub w':=fun i hi hik b o hb=>by
  have hlt:=Hp.lt_of_sub (e3.subf i hi) (b:=b) (by rw[hb];simp)
  rcases e3.df i k hi hk hik b with h|h
  ·rw[h] at hb;cases hb
  ·rw[hkeep b hlt h];exact e3.subf i hi b o hb
 refine⟨h1,h2,h3,?_,(fun q=>by rw[hq] at q;cases q),S,fun i=>if i=k then h' else f i,e1,e2,⟨hS,?_,?_,?_,?_⟩,?_⟩
 ·refine st.below.trans ⟨hos,htape,hout,hsz,fun b hb=>hkeep b (by omega) ?_⟩
  refine Classical.byContradiction fun hn=>?_
  have:=e3.lo k hk b hn
  omega
 ·intro i hi
  rw[List.length_set] at hi
  split
  ·exact hsub
  ·rename_i h;exact hf i hi h
 ·intro i hi b
  rw[List.length_set] at hi
  split
  ·by_cases hb:S b=none
   ·exact .inl hb
   ·right
    refine Classical.byContradiction fun hn=>?_
    rcases hdom b hn with h|h
    ·rcases e3.dS k hk b with h'|h'
     ·exact hb h'
     ·exact h h'
    ·have:=Hp.lt_of_sub e3.sub hb;omega
  ·exact e3.dS i hi b
 ·intro i j hi hj hij b
  rw[List.length_set] at hi hj
  have key:∀ m,m<L.length→m≠k→h' b=none∨f m b=none:=by
   intro m hm hmk
   by_cases hb:h' b=none
   ·exact .inl hb
   ·right
    refine Classical.byContradiction fun hn=>?_
    rcases hdom b hb with h|h
    ·rcases e3.df m k hm hk hmk b with h'|h'
     ·exact hn h'
     ·exact h h'
    ·have:=Hp.lt_of_sub (e3.subf m hm) hn;omega
  split
  ·rename_i hik
   rw[if_neg (by omega)]
   exact key j hj (by omega)
  ·rename_i hik
   split
   ·exact(key i hi hik).symm
   ·exact e3.df i j hi hj hij b
 ·intro i hi b hb
  rw[List.length_set] at hi
  replace hb:(if i=k then h' else f i) b≠none:=hb
  split at hb
  ·rcases hdom b hb with h|h
   ·exact e3.lo k hk b h
   ·omega
  ·exact e3.lo i hi b hb
 ·intro i B hB
  by_cases hik:i=k
  ·subst hik
   rw[List.getElem?_set_self hk] at hB
   cases hB
   show A.P S (if i=i then h' else f i)
   rw[if_pos rfl];exact hA
  ·rw[List.getElem?_set_ne (Ne.symm hik)] at hB
   show B.P S (if i=k then h' else f i)
   rw[if_neg hik];exact e4 i B hB
theorem Hp.one_ne{g b:Nat}{o:Obj}(h:Hp.one g o b≠none):b=g:=by
 unfold Hp.one at h
 split at h
 ·assumption
 ·exact absurd rfl h
theorem Hp.one_sub{g:Nat}{o:Obj}{w:World}(h:w.heap[g]?=some o):(Hp.one g o).sub w:=fun b o' hb=>by
 have:b=g:=Hp.one_ne (by rw[hb];simp)
 subst this
 simp[Hp.one] at hb;subst hb;exact h
theorem Hp.one_self(g:Nat)(o:Obj):Hp.one g o g=some o:=by simp[Hp.one]
structure LnO(P:Program)(T:TypeId)(sz:Nat)(zc:List Value):Prop where
 ex:∃ i z,P.info? T=some i∧i.size=sz∧i.zero=some z∧z.cells.toList=zc∧zc.length=sz∧0<sz∧i.bytes≤1024
theorem z28{α:Type}{t:TR α}{S:Hp}{u:Value}{e:α}(h:t.vrep S u e):∃ cs,u.cells.toList=cs∧t.rep S cs e:=by
 obtain⟨cs,rfl,r⟩:=h
 exact⟨cs,cells_mkv t r,r⟩
theorem zdb{P:Program}{T:TypeId}{sz:Nat}{ag:Bool}(l:Ln P T sz ag)(w:World)(g o:Nat)(C:Array Value)(e:TypeId)(u:Value)(cs:List Value)(hu:u.cells.toList=cs)(hl:cs.length=sz)
  (hf:∀ x∈cs,x.oneCell'=true)(hg:w.heap[g]?=some (.cells C e (0,0)))(ho:o+sz≤C.size) :
  (Instr.storeAt T (.pointer (some ⟨g,o,none⟩)) u).run P w=.ok () (w.setRow g (C.toList.take o++cs++C.toList.drop (o+sz)).toArray):=by
 have hs:=run_storeCells_at P g o e cs 0 C w hg (by omega) hf
 have hsz:u.cells.size=sz:=by rw[← hl,← hu];simp
 simp only[Nat.add_zero] at hs
 rw[hl] at hs
 unfold Instr.storeAt Instr.sureAddr storeVar
 simp only[Sem.run_bind,Sem.run_pure,Result.andThen_ok,run_sizeOf l,hsz,hu]
 simpa using hs
theorem zfq:∀ (vs m a b:List Value) (k:Nat),m.length=vs.length→(vs.zipIdx k).foldl (fun cs (p:Value×Nat)=>cs.setIfInBounds (a.length-k+p.2) p.1) (a++m++b).toArray=(a++vs++b).toArray∨a.length<k:=by
 intro vs
 induction vs with
 |nil=>intro m a b k h;simp at h;subst h;left;simp
 |cons v vs ih=>
  intro m a b k h
  by_cases hk:a.length<k
  ·exact .inr hk
  ·left
   match m,h with
   |x::m,h=>
    simp at h
    rw[List.zipIdx_cons,List.foldl_cons]
    have e1:(a++x::m++b).toArray.setIfInBounds (a.length-k+k) v=((a++[v])++m++b).toArray:=by
     rw[show a.length-k+k=a.length from by omega]
     apply Array.ext'
     simp
    dsimp only
    rw[e1]
    rcases ih m (a++[v]) b (k+1) h with h2|h2
    ·have e2:(a++[v]).length-(k+1)=a.length-k:=by simp
     rw[e2] at h2
     rw[h2]
     simp
    ·simp at h2;omega
theorem foldl_set(vs m a b:List Value)(h:m.length=vs.length):(vs.toArray.zipIdx).foldl (fun cs (p:Value×Nat)=>cs.setIfInBounds (a.length+p.2) p.1) (a++m++b).toArray=(a++vs++b).toArray:=by
 have:=zfq vs m a b 0 h
 rcases this with h|h
 ·simpa using h
 ·omega
def segs:List (List Value)→List (Nat×Value)→List (List Value)
 |ss,[]=>ss
 |ss,(i,v)::r=>segs (ss.set i v.cells.toList) r
theorem zd4(place:Nat→Option (Nat×Nat)):∀ (parts:List (Nat×Value)) (ss:List (List Value)),(∀ i s,ss[i]?=some s→place i=some ((ss.take i).flatten.length,s.length)) →
  (∀ p∈parts,∃ s,ss[p.1]?=some s∧p.2.cells.toList.length=s.length)→Instr.fill place ss.flatten.toArray parts=some (segs ss parts).flatten.toArray
 | [],ss,_,_=>rfl
 | (i,v)::r,ss,h1,h2=>by
  obtain⟨s,hs,hl⟩:=h2 (i,v) (by simp)
  have hi:i<ss.length:=(List.getElem?_eq_some_iff.1 hs).1
  have hsplit:ss=ss.take i++s::ss.drop (i+1):=by
   have h3:=(List.getElem?_eq_some_iff.1 hs).2
   rw[← h3];simp
  have hflat:ss.flatten=(ss.take i).flatten++s++(ss.drop (i+1)).flatten:=by
   conv=>lhs;rw[hsplit]
   simp
  have hset:ss.set i v.cells.toList=ss.take i++v.cells.toList::ss.drop (i+1):=by
   rw[List.set_eq_take_append_cons_drop,if_pos hi]
  have hv:v.cells.size=s.length:=by rw[← hl];simp
  have hlen:∀ j,((ss.set i v.cells.toList).take j).flatten.length=(ss.take j).flatten.length:=by
   intro j
   simp only[List.length_flatten]
   congr 1
   rw[List.map_take,List.map_take,List.map_set]
   congr 1
   apply List.ext_getElem?
   intro k
   by_cases hk:k=i
   ·subst hk;rw[List.getElem?_set_self (by simpa using hi)];simpa[hs] using hl
   ·rw[List.getElem?_set_ne (Ne.symm hk)]
  simp only[Instr.fill,h1 i s hs,segs]
  rw[if_neg (by
   have hfl:ss.flatten.length=(ss.take i).flatten.length+s.length+(ss.drop (i+1)).flatten.length:=by rw[hflat];simp only[List.length_append]
   simp only[hv,List.size_toArray,hfl,ne_eq,not_true_eq_false,decide_false,Bool.false_or,decide_eq_true_eq]
   omega)]
  have hspl:=foldl_set v.cells.toList s (ss.take i).flatten (ss.drop (i+1)).flatten hl.symm
  simp only[Array.toArray_toList] at hspl
  rw[hflat,hspl]
  have hnew:((ss.take i).flatten++v.cells.toList++(ss.drop (i+1)).flatten)=(ss.set i v.cells.toList).flatten:=by rw[hset];simp
  rw[hnew]
  refine zd4 place r _ ?_ ?_
  ·intro j s' hj
   rw[hlen j]
   by_cases hji:j=i
   ·subst hji
    rw[List.getElem?_set_self hi] at hj
    cases hj
    rw[h1 j s hs,hl]
   ·rw[List.getElem?_set_ne (Ne.symm hji)] at hj
    exact h1 j s' hj
  ·intro p hp
   obtain⟨s',hs',hl'⟩:=h2 p (List.mem_cons_of_mem _ hp)
   by_cases hpi:p.1=i
   ·refine⟨v.cells.toList,by rw[hpi];exact List.getElem?_set_self hi,?_⟩
    rw[hl',hl]
    rw[hpi,hs] at hs';cases hs';rfl
   ·exact⟨s',by rw[List.getElem?_set_ne (Ne.symm hpi)];exact hs',hl'⟩
theorem ze8(z:Array Value):∀ n,(madeCells z (n*z.size)).toList=(List.replicate n z.toList).flatten:=by
 intro n
 apply List.ext_getElem?
 intro i
 induction n generalizing i with
 |zero=>simp[madeCells]
 |succ n ih=>
  have hlen:(madeCells z ((n+1)*z.size)).toList.length=(n+1)*z.size:=by simp[size_madeCells]
  by_cases hi:i<(n+1)*z.size
  ·have e1:(madeCells z ((n+1)*z.size)).toList[i]?=some (z[i%z.size]!):=by
    simp[madeCells,hi]
   rw[e1]
   rw[List.replicate_succ',List.flatten_append,List.flatten_singleton]
   have hfl:(List.replicate n z.toList).flatten.length=n*z.size:=by simp
   by_cases hi2:i<n*z.size
   ·rw[List.getElem?_append_left (by omega),← ih i]
    simp[madeCells,hi2]
   ·rw[List.getElem?_append_right (by omega),hfl]
    have hm:i%z.size=i-n*z.size:=by
     have h3:i=(i-n*z.size)+n*z.size:=by omega
     have h4:i-n*z.size<z.size:=by rw[Nat.add_mul] at hi;omega
     conv=>lhs;rw[h3]
     rw[Nat.add_mul_mod_self_right,Nat.mod_eq_of_lt h4]
    have h4:i-n*z.size<z.size:=by rw[Nat.add_mul] at hi;omega
    rw[hm]
    simp[h4]
  ·rw[List.getElem?_eq_none (by omega),List.getElem?_eq_none (by simp;omega)]
section
variable {md:Md}{P:Program}{ops:Array Oper}{Q:Exit→Act→World→Prop}{c:Cx}{rest:List Oper}{env:Env}{L:List It}
variable {d:Nat}{ty:TypeId}{pos:String}{af:Array Edge}{g:Option (Nat×Bool)}
theorem RL.fadr{v:Value}{x:Operand}{T:TypeId}{off fi fo:Nat}{α:Type}{t:TR α}{dt:α}(n:Nat){A:It}(hF:∀ (ad:Addr) (w:World),(Instr.fieldAt T (.pointer (some ad)) fi).run P w=.ok (.pointer (some (ad.add fo))) w)(hg:wanted ops env g=some true)(hd:Slot c d)
  (hA:L[n]?=some A)(hs:PtOf A t v dt)(hx:opv env x=some (adr v off)∨(opv env x=some v∧off=0))(k:RL md P ops Q c rest (put env d (adr v (off+fo))) L):RL md P ops Q c (⟨some d,.fieldAddr T x fi,ty,pos,af,g⟩::rest) env L:=
 RL.val hg hd (fun S f a w st=>by
  have h:=st.has hA
  obtain⟨_,b,o,_,_,_,_,_,rfl,_⟩:=hs S _ h
  rcases hx with hx|⟨hx,rfl⟩
  ·simp[execOp,zf st.env hx,adr,z3h,hF,Nat.add_assoc]
  ·simp[execOp,zf st.env hx,adr,z3h,hF]) k
theorem RL.fadrS{v:Value}{x:Operand}{T:TypeId}{off fi fo:Nat}{α:Type}{t:TR α}{l:List α}(n:Nat){A:It}(hF:∀ (ad:Addr) (w:World),(Instr.fieldAt T (.pointer (some ad)) fi).run P w=.ok (.pointer (some (ad.add fo))) w)(hg:wanted ops env g=some true)(hd:Slot c d)
  (hA:L[n]?=some A)(hs:SlOf A t v l)(hl:0<l.length)(hx:opv env x=some (adr v off))(k:RL md P ops Q c rest (put env d (adr v (off+fo))) L):RL md P ops Q c (⟨some d,.fieldAddr T x fi,ty,pos,af,g⟩::rest) env L:=
 RL.val hg hd (fun S f a w st=>by
  have h:=st.has hA
  obtain⟨_,xs,_,⟨ad,cap,rfl,_,_,h2⟩,_⟩:=hs S _ h
  rcases h2 with⟨h2,_⟩|⟨b,o,C,ty,fz,rfl,_⟩
  ·omega
  ·simp[execOp,zf st.env hx,adr,z3h,hF,Nat.add_assoc]) k
theorem RL.idxA0{v:Value}{x y:Operand}{T E:TypeId}{sz len:Nat}{ag:Bool}{kd:IntKind}{i:Int}{α:Type}{t:TR α}{dt:α}(n:Nat){A:It}(hT:P.underlying T=some (.array len E))(hE:Ln P E sz ag)(hg:wanted ops env g=some true)(hd:Slot c d)
  (hA:L[n]?=some A)(hs:PtOf A t v dt)(hx:opv env x=some v)(hy:opv env y=some (.int kd i)){β:Type}{t':TR β}{l:List β}(hp:Part t dt 0 (TR.arr len t') l)(h0:0≤i)(h1':i<l.length)
  (k:RL md P ops Q c rest (put env d (adr v (i.toNat*sz))) L):RL md P ops Q c (⟨some d,.indexAddr T x y,ty,pos,af,g⟩::rest) env L:=
 RL.val hg hd (fun S f a w st=>by
  have h:=st.has hA
  obtain⟨_,b,o,_,_,_,_,_,rfl,_,hrep,_⟩:=hs S _ h
  obtain⟨_,_,_,_,_,hl⟩:=hp S _ hrep
  have h1:i<len:=by rw[← hl.1];exact h1'
  simp[execOp,zf st.env hx,zf st.env hy,Instr.indexAt,asIntOf,run_underlying hT,Instr.sureAddr,h0,h1,run_sizeOf hE,adr,z3h]) k
theorem RL.stS{α β:Type}{t:TR α}{r:TR β}{l:List α}{v u:Value}{x y:Operand}{T e:TypeId}{i off:Nat}{e0 e1:α}{e':β}(n:Nat)(hE:Ln P T r.size r.agg)(hq:c.still=false)(hg:wanted ops env g=some true)
  (hx:opv env x=some (adr v (i*t.size+off)))(hy:opv env y=some u)(hu:VR r u e' L)(hA:L[n]?=some (own e t v l))(he:l[i]?=some e0)(hp:Upd t e0 off r e' e1)
  (k:RL .plain P ops Q c rest env (L.set n (own e t v (l.set i e1)))):RL .plain P ops Q c (⟨none,.store T x y,ty,pos,af,g⟩::rest) env L:=by
 intro a w st
 obtain⟨S,f,hS0,hS1,h3,h4⟩:=st.heap
 have hn:=(List.getElem?_eq_some_iff.1 hA).1
 obtain⟨xs,⟨hxl,hown⟩,hr⟩:=h4 n _ hA
 have hi:i<l.length:=(List.getElem?_eq_some_iff.1 he).1
 rcases hown with⟨_,h2⟩|⟨b,cap,C,rfl,hb,hcap,hmax,hC,htk⟩
 ·omega
 obtain⟨cs',hcu,hcr⟩:=z28 (hu S f h4)
 obtain⟨p0,m0,q0,e2,hp0,hm0⟩:=zao i e0 hr he
 obtain⟨p',m',q',rfl,hpl',hm',hup⟩:=hp S m0 cs' hm0 hcr
 obtain⟨p,m,q,e3,hpl,hml,hset⟩:=zff i e0 e1 _ hr he hup
 have hwb:=h3.subf n hn b _ hb
 have hlen0:p0.length=p.length:=by omega
 have hmid:(p'++m'++q').length=m.length:=by rw[hml,t.len hm0]
 have e4:p0++((p'++m'++q')++q0)=p++(m++q):=by rw[← List.append_assoc,← e2,e3,List.append_assoc]
 obtain⟨e5,e6⟩:=List.append_inj e4 hlen0
 obtain⟨e7,e8⟩:=List.append_inj e6 hmid
 subst e5 e8
 have hxs:xs=(p0++p')++m'++(q'++q0):=by rw[e2];simp
 have hCl:C.toList=xs++C.toList.drop (l.length*t.size):=by rw[← htk];simp
 have hfit:i*t.size+off+r.size≤C.size:=by
  have h5:xs.length=i*t.size+off+r.size+(q'++q0).length:=by rw[hxs];simp[List.length_append];omega
  have h6:C.size=C.toList.length:=by simp
  rw[h6,hCl,List.length_append];omega
 have hrun:=zdb (P:=P) hE w b (i*t.size+off) C e u cs' hcu (r.len hcr) (r.flat hcr) hwb hfit
 have hval:(execOp a.eval ⟨none,.store T x y,ty,pos,af,g⟩).run P w=.ok .skip (w.setRow b (C.toList.take (i*t.size+off)++cs'++C.toList.drop (i*t.size+off+r.size)).toArray):=by
  simp only[execOp,zf st.env hx,zf st.env hy,adr,z3h,Nat.zero_add,Sem.run_bind,hrun];rfl
 refine wpl_skip (zw (o:=⟨none,.store T x y,ty,pos,af,g⟩) st.env hg) hval (k _ _ ?_)
 have hC':C.toList.take (i*t.size+off)++cs'++C.toList.drop (i*t.size+off+r.size)=(p0++p')++cs'++(q'++q0)++C.toList.drop (l.length*t.size):=by
  have hl1:(p0++p').length=i*t.size+off:=by rw[List.length_append];omega
  have hl2:((p0++p')++m').length=i*t.size+off+r.size:=by rw[List.length_append];omega
  have e9:C.toList=(p0++p')++(m'++(q'++q0)++C.toList.drop (l.length*t.size)):=by
   conv=>lhs;rw[hCl,hxs]
   simp
  have e10:C.toList=((p0++p')++m')++((q'++q0)++C.toList.drop (l.length*t.size)):=by
   conv=>lhs;rw[hCl,hxs]
   simp
  have t1:C.toList.take (i*t.size+off)=p0++p':=by
   conv=>lhs;rw[e9,← hl1]
   exact List.take_left
  have t2:C.toList.drop (i*t.size+off+r.size)=(q'++q0)++C.toList.drop (l.length*t.size):=by
   conv=>lhs;rw[e10,← hl2]
   exact List.drop_left
  rw[t1,t2];simp
 have hnl:((p0++p')++cs'++(q'++q0)).length=l.length*t.size:=by
  rw[← hxl,hxs]
  have:=r.len hcr
  simp only[List.length_append];omega
 have hlen':((p0++p')++cs'++(q'++q0)++C.toList.drop (l.length*t.size)).length=C.toList.length:=by
  rw[List.length_append,hnl]
  conv=>rhs;rw[hCl,List.length_append,hxl]
 rw[hC']
 refine st.upd (S:=S) (f:=f) (by simpa[Act.put] using st.defers) (by simpa[Act.put] using st.size) (by simpa[Act.put] using st.env) hS0 hS1 h3 h4 n _ (Hp.one b (.cells ((p0++p')++cs'++(q'++q0)++C.toList.drop (l.length*t.size)).toArray e (0,0))) hn hq rfl rfl rfl (by simp)
  (Hp.one_sub (setRow_heap w b C _ e _ hwb)) (fun b' hb'=>.inl (by rw[Hp.one_ne hb',hb];simp)) (fun b' _ hb'=>setRow_other w b b' _ (fun e=>by subst e;rw[hb] at hb';cases hb')) ?_
 refine⟨(p0++p')++cs'++(q'++q0),⟨by rw[List.length_set];exact hnl,.inr ⟨b,cap,_,by rw[List.length_set],Hp.one_self b _,by rw[List.length_set];exact hcap,hmax,?_,?_⟩⟩,?_⟩
 ·rw[List.size_toArray,hlen',← hC];simp
 ·rw[List.length_set,← hnl];exact List.take_left
 ·simpa using hset
theorem RL.stP{α β:Type}{t:TR α}{r:TR β}{dt d1:α}{v u:Value}{x y:Operand}{T e:TypeId}{off:Nat}{e':β}(n:Nat)(hE:Ln P T r.size r.agg)(hq:c.still=false)(hg:wanted ops env g=some true)
  (hx:opv env x=some (adr v off)∨(opv env x=some v∧off=0))(hy:opv env y=some u)(hu:VR r u e' L)(hA:L[n]?=some (obox e t v dt))(hp:Upd t dt off r e' d1)
  (k:RL .plain P ops Q c rest env (L.set n (obox e t v d1))):RL .plain P ops Q c (⟨none,.store T x y,ty,pos,af,g⟩::rest) env L:=by
 intro a w st
 obtain⟨S,f,hS0,hS1,h3,h4⟩:=st.heap
 have hn:=(List.getElem?_eq_some_iff.1 hA).1
 obtain⟨b,cs,rfl,hb,hr⟩:=h4 n _ hA
 obtain⟨cs',hcu,hcr⟩:=z28 (hu S f h4)
 obtain⟨p,m,q,rfl,hpl,hml,hup⟩:=hp S cs cs' hr hcr
 have hwb:=h3.subf n hn b _ hb
 have hrun:=zdb (P:=P) hE w b off (p++m++q).toArray e u cs' hcu (r.len hcr) (r.flat hcr) hwb (by simp;omega)
 have hC':(p++m++q).toArray.toList.take off++cs'++(p++m++q).toArray.toList.drop (off+r.size)=p++cs'++q:=by
  have t1:(p++m++q).take off=p:=by rw[List.append_assoc,← hpl];exact List.take_left
  have t2:(p++m++q).drop (off+r.size)=q:=by rw[show off+r.size=(p++m).length from by rw[List.length_append];omega];exact List.drop_left
  simp only[t1,t2]
 rw[hC'] at hrun
 have hx':a.eval x=.pointer (some ⟨b,off,none⟩):=by
  rcases hx with hx|⟨hx,rfl⟩
  ·rw[zf st.env hx,adr,z3h,Nat.zero_add]
  ·rw[zf st.env hx]
 have hval:(execOp a.eval ⟨none,.store T x y,ty,pos,af,g⟩).run P w=.ok .skip (w.setRow b (p++cs'++q).toArray):=by
  simp only[execOp,hx',zf st.env hy,Sem.run_bind,hrun];rfl
 refine wpl_skip (zw (o:=⟨none,.store T x y,ty,pos,af,g⟩) st.env hg) hval (k _ _ ?_)
 refine st.upd (S:=S) (f:=f) (by simpa[Act.put] using st.defers) (by simpa[Act.put] using st.size) (by simpa[Act.put] using st.env) hS0 hS1 h3 h4 n _ (Hp.one b (.cells (p++cs'++q).toArray e (0,0))) hn hq rfl rfl rfl (by simp)
  (Hp.one_sub (setRow_heap w b _ _ e _ hwb)) (fun b' hb'=>.inl (by rw[Hp.one_ne hb',hb];simp)) (fun b' _ hb'=>setRow_other w b b' _ (fun e=>by subst e;rw[hb] at hb';cases hb')) ?_
 exact⟨b,p++cs'++q,rfl,Hp.one_self b _,hup⟩
theorem zac(w:World)(o:Obj):Below w.heap.size w (w.alloc o):=(Below.refl _ _).alloc (Nat.le_refl _) o
theorem St.alloc{c:Cx}{env env':Env}{L:List It}{a a':Act}{w w':World}{o:Obj}{A:It}(st:St c env L a w)(hq:c.still=false)(h1:a'.defers=c.dfs)(h2:a'.tmps.size=c.nt)(h3:z2g env' a')(hw:w'=w.alloc o∨w'=w.drew.alloc o)
  (hA:∀ S f,S.sub w→Its L S f→A.P S (Hp.one w.heap.size o)):St c env' (L++[A]) a' w':=by
 have hheap:w'.heap[w.heap.size]?=some o:=by rcases hw with rfl|rfl<;>exact heap_alloc_new _ o
 have hb:Below w.heap.size w w':=by
  rcases hw with rfl|rfl
  ·exact zac w o
  ·exact((Below.refl _ _).drew).alloc (Nat.le_refl _) o
 refine st.grow (L':=[A]) h1 h2 h3 hb (fun q=>by rw[hq] at q;cases q) fun S f hs _ hi=>⟨S,fun _=>Hp.one w.heap.size o,Hp.le_refl S,Hp.sub_grow hs hb,fun b hb=>.inl hb,fun i _=>⟨Hp.one_sub hheap,fun b=>?_,fun b hb=>by rw[Hp.one_ne hb];exact Nat.le_refl _⟩,fun i j hi hj hij=>by simp at hi hj;omega,fun i B hB=>?_⟩
 ·by_cases hb':S b=none
  ·exact .inl hb'
  ·right
   have:=Hp.lt_of_sub hs hb'
   unfold Hp.one;exact if_neg (by omega)
 ·match i,hB with
  |0,hB=>simp at hB;subst hB;exact hA S f hs hi
theorem RL.alloc{α:Type}{t:TR α}{z:α}{zc:List Value}{T:TypeId}(hO:LnO P T t.size zc)(hz:∀ S,t.rep S zc z)(hq:c.still=false)(hg:wanted ops env g=some true)(hd:Slot c d)
  (k:∀ v,RL .plain P ops Q c rest (put env d v) (L++[obox T t v z])):RL .plain P ops Q c (⟨some d,.alloc T,ty,pos,af,g⟩::rest) env L:=by
 intro a w st
 obtain⟨i,zv,h1,h2,h3,h4,h5,h6,h7⟩:=hO.ex
 have hrun:(execOp a.eval ⟨some d,.alloc T,ty,pos,af,g⟩).run P w=.ok (.value (.pointer (some ⟨w.heap.size,0,none⟩))) (w.alloc (.cells zv.cells T)):=by
  simp[execOp,Instr.alloc,zeroValue,typeInfo,h1,h3,newVar,newRow]
 refine z6g (zw (o:=⟨some d,.alloc T,ty,pos,af,g⟩) st.env hg) hrun (k (.pointer (some ⟨w.heap.size,0,none⟩)) _ _ ?_)
 have st':=st.put (.pointer (some ⟨w.heap.size,0,none⟩)) hd
 exact st.alloc hq st'.defers st'.size st'.env (.inl rfl) fun S f _ _=>⟨w.heap.size,zc,rfl,by rw[Hp.one_self,← h4],hz S⟩
theorem RL.box{α:Type}{t:TR α}{e:α}{u:Value}{x:Operand}{T:TypeId}(hq:c.still=false)(hg:wanted ops env g=some true)(hd:Slot c d)(hx:opv env x=some u)(hu:VR t u e L)
  (k:∀ v,RL .plain P ops Q c rest (put env d v) (L++[obox T t v e])):RL .plain P ops Q c (⟨some d,.box T x,ty,pos,af,g⟩::rest) env L:=by
 intro a w st
 have hrun:(execOp a.eval ⟨some d,.box T x,ty,pos,af,g⟩).run P w=.ok (.value (.pointer (some ⟨w.heap.size,0,none⟩))) (w.alloc (.cells u.cells T)):=by
  simp[execOp,Instr.box,zf st.env hx,newVar,newRow]
 refine z6g (zw (o:=⟨some d,.box T x,ty,pos,af,g⟩) st.env hg) hrun (k (.pointer (some ⟨w.heap.size,0,none⟩)) _ _ ?_)
 have st':=st.put (.pointer (some ⟨w.heap.size,0,none⟩)) hd
 refine st.alloc hq st'.defers st'.size st'.env (.inl rfl) fun S f _ hi=>?_
 obtain⟨cs,h1,h2⟩:=z28 (hu S f hi)
 exact⟨w.heap.size,cs,rfl,by rw[Hp.one_self,← h1],h2⟩
end
def zfg{α:Type}(t:TR α)(L:List It):List Value→List α→Prop
 | [],[]=>True
 |v::vs,e::es=>VR t v e L∧zfg t L vs es
 |_,_=>False
theorem z7y{α:Type}{t:TR α}{L:List It}{S:Hp}{f:Nat→Hp}(hi:Its L S f):∀ {vs:List Value} {es:List α},zfg t L vs es →
  reps t S (vs.map fun v=>v.cells.toList).flatten es∧vs.length=es.length∧∀ v∈vs,v.cells.toList.length=t.size
 | [],[],_=>⟨rfl,rfl,by simp⟩
 |v::vs,e::es,⟨h1,h2⟩=>by
  obtain⟨cs,hc,hr⟩:=z28 (h1 S f hi)
  obtain⟨k1,k2,k3⟩:=z7y hi h2
  refine⟨⟨cs,_,by simp[hc],hr,k1⟩,by simp[k2],?_⟩
  intro u hu
  rcases List.mem_cons.1 hu with rfl|hu
  ·rw[hc,t.len hr]
  ·exact k3 u hu
 | [],_::_,h=>h.elim
 |_::_,[],h=>h.elim
theorem segs_all:∀ (vs:List Value) (pre post:List (List Value)),vs.length=post.length→segs (pre++post) ((vs.zipIdx pre.length).map fun p=>(p.2,p.1))=pre++vs.map fun v=>v.cells.toList
 | [],pre,[],_=>by simp[segs]
 |v::vs,pre,s::post,h=>by
  rw[List.zipIdx_cons,List.map_cons,segs]
  have e:(pre++s::post).set pre.length v.cells.toList=(pre++[v.cells.toList])++post:=by simp
  have:=segs_all vs (pre++[v.cells.toList]) post (by simpa using h)
  rw[e]
  rw[show pre.length+1=(pre++[v.cells.toList]).length from by simp,this]
  simp
 | [],_,_::_,h=>by simp at h
 |_::_,_,[],h=>by simp at h
theorem fill_all(vs:List Value)(zc:List Value)(n sz:Nat)(hz:zc.length=sz)(hn:vs.length=n)(hl:∀ v∈vs,v.cells.toList.length=sz) :
  Instr.fill (fun i=>some (i*sz,sz)) (List.replicate n zc).flatten.toArray (vs.zipIdx.map fun p=>(p.2,p.1))=some (vs.map fun v=>v.cells.toList).flatten.toArray:=by
 have h:=zd4 (fun i=>some (i*sz,sz)) (vs.zipIdx.map fun p=>(p.2,p.1)) (List.replicate n zc) ?_ ?_
 ·rw[h]
  have:=segs_all vs [] (List.replicate n zc) (by simp[hn])
  simp only[List.nil_append,List.length_nil] at this
  rw[this]
 ·intro i s hs
  obtain⟨h1,h2⟩:=List.getElem?_eq_some_iff.1 hs
  simp at h1 h2
  subst h2
  simp[List.take_replicate,Nat.min_eq_left (Nat.le_of_lt h1),hz]
 ·intro p hp
  obtain⟨q,hq,rfl⟩:=List.mem_map.1 hp
  have hq':=List.mem_zipIdx' (x:=q.1) (i:=q.2) (by simpa using hq)
  refine⟨zc,?_,?_⟩
  ·have h5:q.2<n:=by rw[← hn];exact hq'.1
   simp[h5]
  ·rw[hz];dsimp only;rw[hq'.2];exact hl _ (List.getElem_mem _)
section
variable {P:Program}{ops:Array Oper}{Q:Exit→Act→World→Prop}{c:Cx}{rest:List Oper}{env:Env}{L:List It}
variable {d:Nat}{ty:TypeId}{pos:String}{af:Array Edge}{g:Option (Nat×Bool)}
theorem RL.bS{α:Type}{t:TR α}{zc:List Value}{T E:TypeId}{n:Nat}{parts:Array (Nat×Operand)}{vs:List Value}(es:List α)(hT:P.underlying T=some (.slice E))(hO:LnO P E t.size zc)(hq:c.still=false)(hg:wanted ops env g=some true)(hd:Slot c d)
  (hx:parts.toList.map (fun p=>(p.1,opv env p.2))=(vs.zipIdx.map fun p=>(p.2,some p.1)))(hp:zfg t L vs es)(hn:vs.length=n)(hb:n*t.size≤4096)
  (k:∀ v,RL .plain P ops Q c rest (put env d v) (L++[own E t v es])):RL .plain P ops Q c (⟨some d,.buildSlice T n parts,ty,pos,af,g⟩::rest) env L:=by
 intro a w st
 obtain⟨i,zv,i1,i2,i3,i4,i5,i6,i7⟩:=hO.ex
 obtain⟨S,f,hS0,hS1,h3,h4⟩:=st.heap
 obtain⟨k1,k2,k3⟩:=z7y h4 hp
 have hpv:(parts.map fun(x:Nat×Operand)=>(x.1,a.eval x.2)).toList=vs.zipIdx.map fun p=>(p.2,p.1):=by
  rw[Array.toList_map]
  apply List.ext_getElem?
  intro j
  have:=congrArg (fun l=>l[j]?) hx
  simp only[List.getElem?_map] at this ⊢
  cases hj:parts.toList[j]? with
  |none=>
   rw[hj] at this
   cases hv:(vs.zipIdx)[j]? with
   |none=>rfl
   |some q=>rw[hv] at this;simp at this
  |some p=>
   rw[hj] at this
   cases hv:(vs.zipIdx)[j]? with
   |none=>rw[hv] at this;simp at this
   |some q=>
    rw[hv] at this
    simp at this ⊢
    exact⟨this.1,zf st.env this.2⟩
 have hzs:zv.cells.size=t.size:=by rw[← i5,← i4];simp
 have hmk:((Array.range (n*t.size)).map fun x=>zv.cells[x%zv.cells.size]!)=(List.replicate n zc).flatten.toArray:=by
  have:=ze8 zv.cells n
  unfold madeCells at this
  rw[hzs,i4] at this
  rw[← hzs] at this ⊢
  apply Array.toList_inj.1
  rw[hzs] at this ⊢
  rw[this]
 have hfill:=fill_all vs zc n t.size i5 hn k3
 have hrun:(execOp a.eval ⟨some d,.buildSlice T n parts,ty,pos,af,g⟩).run P w=.ok (.value (.slice (some ⟨w.heap.size,0,none⟩) n n)) (w.alloc (.cells (vs.map fun v=>v.cells.toList).flatten.toArray E)):=by
  have h16:¬ (16777216<n*t.size):=by omega
  by_cases h0:n*t.size=0
  ·have hn0:n=0:=by
    rcases Nat.mul_eq_zero.1 h0 with h|h
    ·exact h
    ·omega
   subst hn0
   have hv0:vs=[]:=List.eq_nil_of_length_eq_zero hn
   subst hv0
   have hp0:parts=#[]:=by
    have:parts.toList=[]:=by simpa using hx
    exact Array.toList_inj.1 this
   subst hp0
   simp[execOp,Instr.buildSlice,run_underlying hT,sizeOf,typeInfo,i1,newRow,Instr.fill,Array.range_zero']
  ·simp only[execOp,Instr.buildSlice,Sem.run_bind,run_underlying hT,Result.andThen_ok,sizeOf,typeInfo,run_program,i1,Sem.run_pure,i2]
   have hpv':List.map (fun(x:Nat×Operand)=>(x.1,a.eval x.2)) parts.toList=vs.zipIdx.map fun p=>(p.2,p.1):=by rw[← hpv];simp
   simp[h16,h0,zeroValue,typeInfo,i1,i3,hmk,hpv',hfill,newRow]
 refine z6g (zw (o:=⟨some d,.buildSlice T n parts,ty,pos,af,g⟩) st.env hg) hrun (k (.slice (some ⟨w.heap.size,0,none⟩) n n) _ _ ?_)
 have st':=st.put (.slice (some ⟨w.heap.size,0,none⟩) n n) hd
 refine st.alloc hq st'.defers st'.size st'.env (.inl rfl) fun S f _ hi=>?_
 obtain⟨k1,k2,k3⟩:=z7y hi hp
 have hlen:=z9l k1
 have hes:es.length=n:=by rw[← k2,hn]
 refine⟨(vs.map fun v=>v.cells.toList).flatten,⟨hlen,.inr ⟨w.heap.size,n,(vs.map fun v=>v.cells.toList).flatten.toArray,by rw[hes],Hp.one_self _ _,by rw[hes];exact Nat.le_refl _,?_,?_,?_⟩⟩,k1⟩
 ·have:n≤n*t.size:=Nat.le_mul_of_pos_right n (by omega)
  simp[maxLen];omega
 ·rw[List.size_toArray,hlen,hes]
 ·rw[← hlen];exact List.take_of_length_le (by simp)
end
theorem run_app{P:Program}(w:World)(T ty E:TypeId)(i:TypeInfo)(z:Value)(size:Nat)(ht:P.underlying T=some (.slice E))(hi:P.info? E=some i)(hz:i.zero=some z)(hsize:i.size=size)(hzs:z.cells.size=size)
  (f:Hp)(hfs:f.sub w)(v:Value)(n:Nat)(xs:List Value)(hown:ze0 E size f v n xs)(a:Addr)(m c:Nat)(news:List Value)(hl:news.length=m*size)(hnews:∀ j u,news[j]?=some u→w.cell? (a.add j)=some u)(h1:∀ u∈news,u.oneCell'=true)
  (hm:0<m)(h63:n+m≤maxLen)(hbytes:(n+m)*i.bytes≤140737488355328) :
  ∃ w' b C cap,(Builtin.append_ #[T,T] ty #[v,.slice (some a) m c]).run P w=.ok (.slice (some ⟨b,0,none⟩) (n+m) cap) w'∧w'.heap[b]?=some (.cells C E (0,0))∧n+m≤cap∧cap≤maxLen∧C.size=cap*size ∧
   C.toList.take ((n+m)*size)=xs++news∧(f b≠none∨w.heap.size≤b)∧(∀ b',b'<w.heap.size→f b'=none→w'.heap[b']?=w.heap[b']?)∧w'.os=w.os∧w'.tape=w.tape∧w'.output=w.output∧w.heap.size≤w'.heap.size:=by
 subst hsize
 obtain⟨hxl,hown⟩:=hown
 have hlen:(xs++news).length=(n+m)*i.size:=by rw[List.length_append,hxl,hl,Nat.add_mul]
 have hsmall:n+m≤9223372036854775807:=by simp only[maxLen] at h63;omega
 have grown:∀ old,∃ C:Array Value,C=xs.toArray++news.toArray++Builtin.zeroCells z.cells (grownCap w (n+m) old E-(n+m))∧C.size=grownCap w (n+m) old E*i.size∧C.toList.take ((n+m)*i.size)=xs++news:=fun old=>by
  have hge:=grownCap_ge w (n+m) old E
  refine⟨_,rfl,?_,?_⟩
  ·simp only[Array.size_append,List.size_toArray,size_zeroCells,hzs,hxl,hl,← Nat.add_mul]
   congr 1;omega
  ·simp only[Array.toList_append]
   rw[← hlen]
   exact List.take_left
 rcases hown with⟨rfl,rfl⟩|⟨b,cap,C,rfl,hb,hcap,hmax,hC,htk⟩
 ·have hx:xs=[]:=List.eq_nil_of_length_eq_zero (by simpa using hxl)
  subst hx
  have hr:=run_append_nil (P:=P) w T ty E i z ht hi hz a m c news hl hnews hm (by omega) (by have hb:=hbytes;simp only[Nat.zero_add] at hb;omega)
  obtain⟨C,hC,hC1,hC2⟩:=grown 0
  simp only[Nat.zero_add,Array.empty_append] at hC hC1 hC2 ⊢
  have hge:=grownCap_ge w m 0 E
  rw[show(news.toArray++Builtin.zeroCells z.cells (grownCap w m 0 E-m))=C from by rw[hC]] at hr
  exact⟨_,w.heap.size,C,_,hr,heap_alloc_new w.drew _,hge,grownCap_le_maxLen w m 0 E (by simpa using h63),hC1,hC2,.inr (Nat.le_refl _),fun b' hb' _=>Go.heap_alloc_old w.drew _ hb',rfl,rfl,rfl,by simp⟩
 ·have hwb:=hfs b _ hb
  by_cases hroom:n+m≤cap
  ·have hfit:n*i.size+news.length≤C.size:=by rw[hl,hC,← Nat.add_mul];exact Nat.mul_le_mul_right _ hroom
   have hr:=run_append_room (P:=P) w T ty E i ht hi b n cap C hwb a m c news hl hnews h1 hroom hfit
   refine⟨_,b,_,cap,hr,setRow_heap w b C _ E _ hwb,hroom,hmax,?_,?_,.inl (by rw[hb];simp),fun b' _ hb'=>setRow_other w b b' _ (fun e=>by subst e;rw[hb] at hb';cases hb'),rfl,rfl,rfl,by simp⟩
   ·have:C.size=C.toList.length:=by simp
    simp only[List.size_toArray,List.length_append,List.length_take,List.length_drop,Array.length_toList]
    omega
   ·rw[htk,← hlen]
    exact List.take_left
  ·have holds:∀ j u,xs[j]?=some u→w.cell? ((⟨b,0,none⟩:Addr).add j)=some u:=fun j u hu=>by
    rw[z3h,Nat.zero_add,cell_of_row w b j C E (0,0) hwb]
    rw[← htk,List.getElem?_take] at hu
    split at hu
    ·simpa using hu
    ·cases hu
   have hr:=run_append_grow (P:=P) w T ty E i z ht hi hz ⟨b,0,none⟩ n cap xs hxl holds a m c news hl hnews (by omega) (by omega) (growslice_fits (by omega) hbytes)
   obtain⟨C',hC',hC1,hC2⟩:=grown cap
   rw[← hC'] at hr
   exact⟨_,w.heap.size,C',_,hr,heap_alloc_new w.drew _,grownCap_ge w (n+m) cap E,grownCap_le_maxLen w (n+m) cap E h63,hC1,hC2,.inr (Nat.le_refl _),fun b' hb' _=>Go.heap_alloc_old w.drew _ hb',rfl,rfl,rfl,by simp⟩
section
variable {P:Program}{ops:Array Oper}{Q:Exit→Act→World→Prop}{c:Cx}{rest:List Oper}{env:Env}{L:List It}
variable {d:Nat}{ty:TypeId}{pos:String}{af:Array Edge}{g:Option (Nat×Bool)}
theorem RL.app{α:Type}{t:TR α}{zc:List Value}{T E:TypeId}{x y:Operand}{v u:Value}{l m:List α}(n q:Nat){A:It}(hT:P.underlying T=some (.slice E))(hO:LnO P E t.size zc)(hq:c.still=false)(hg:wanted ops env g=some true)(hd:Slot c d)
  (hx:opv env x=some v)(hy:opv env y=some u)(hA:L[n]?=some (own E t v l))(hB:L[q]?=some A)(hs:SlOf A t u m)(hb:l.length+m.length≤68719476736)
  (k:∀ v',RL .plain P ops Q c rest (put env d v') (L.set n (own E t v' (l++m)))):RL .plain P ops Q c (⟨some d,.call ⟨.builtin .append,#[x,y],#[T,T]⟩,ty,pos,af,g⟩::rest) env L:=by
 intro a w st
 obtain⟨i,zv,i1,i2,i3,i4,i5,i6,i7⟩:=hO.ex
 obtain⟨S,f,hS0,hS1,h3,h4⟩:=st.heap
 have hn:=(List.getElem?_eq_some_iff.1 hA).1
 have hql:=(List.getElem?_eq_some_iff.1 hB).1
 obtain⟨xs,hown,hr⟩:=h4 n _ hA
 obtain⟨h,ys,hh,⟨ad,cap2,rfl,hc2,_,h2⟩,hr2⟩:=hs S (f q) (h4 q A hB)
 have hsub:h.sub w:=by
  rcases hh with rfl|rfl
  ·exact h3.sub
  ·exact h3.subf q hql
 have hyl:=z9l hr2
 by_cases hm0:m.length=0
 ·have hm:m=[]:=List.eq_nil_of_length_eq_zero hm0
  subst hm
  have hrun:(execOp a.eval ⟨some d,.call ⟨.builtin .append,#[x,y],#[T,T]⟩,ty,pos,af,g⟩).run P w=.ok (.value v) w:=by
   have hfc:(Builtin.firstCells i.size 0 (.slice ad 0 cap2)).run P w=.ok #[] w:=by
    cases ad<;>simp[Builtin.firstCells,loadCells,loadCellsFrom]
   rcases hown.2 with⟨rfl,hl0⟩|⟨b,cap,C,rfl,hb',hcap,hmax,hC,htk⟩
   ·simp[execOp,resolve,invoke,builtin,zf st.env hx,zf st.env hy,Builtin.append_,run_underlying hT,sizeOf,typeInfo,i1,Builtin.lenOf,hfc]
   ·simp[execOp,resolve,invoke,builtin,zf st.env hx,zf st.env hy,Builtin.append_,run_underlying hT,sizeOf,typeInfo,i1,Builtin.lenOf,hfc,hcap,storeCells]
  refine z6g (zw (o:=⟨some d,.call ⟨.builtin .append,#[x,y],#[T,T]⟩,ty,pos,af,g⟩) st.env hg) hrun (k v _ _ ?_)
  have st':=st.put v hd
  have hL:L.set n (own E t v (l++[]))=L:=by
   rw[List.append_nil]
   apply List.ext_getElem?
   intro j
   by_cases hj:j=n
   ·subst hj;rw[List.getElem?_set_self hn,hA]
   ·rw[List.getElem?_set_ne (Ne.symm hj)]
  rw[hL];exact st'
 ·rcases h2 with⟨h2,_⟩|⟨b2,o2,C2,tb,fz,rfl,hb2,hC2⟩
  ·omega
  have hnews:∀ j z,ys[j]?=some z→w.cell? ((⟨b2,o2,none⟩:Addr).add j)=some z:=fun j z hz=>by
   rw[z3h];exact z7l hsub hb2 (hC2 j z hz)
  have hzs:zv.cells.size=t.size:=by rw[← i5,← i4];simp
  have hbyte:(l.length+m.length)*i.bytes≤140737488355328:=by
   calc (l.length+m.length)*i.bytes≤68719476736*1024:=Nat.mul_le_mul hb i7
    _≤140737488355328:=by omega
  obtain⟨w',b,C,cap,hrun',hwb,hcap,hmax,hC,htk,hdom,hkeep,k1,k2,k3,k4⟩:=run_app (P:=P) w T ty E i zv t.size hT i1 i3 i2 hzs (f n) (h3.subf n hn) v l.length xs hown ⟨b2,o2,none⟩ m.length cap2 ys hyl hnews (z99 hr2) (by omega) (by simp[maxLen];omega) hbyte
  have hrun:(execOp a.eval ⟨some d,.call ⟨.builtin .append,#[x,y],#[T,T]⟩,ty,pos,af,g⟩).run P w=.ok (.value (.slice (some ⟨b,0,none⟩) (l.length+m.length) cap)) w':=by
   simp[execOp,resolve,invoke,builtin,zf st.env hx,zf st.env hy,hrun']
  refine z6g (zw (o:=⟨some d,.call ⟨.builtin .append,#[x,y],#[T,T]⟩,ty,pos,af,g⟩) st.env hg) hrun (k (.slice (some ⟨b,0,none⟩) (l.length+m.length) cap) _ _ ?_)
  have st':=st.put (.slice (some ⟨b,0,none⟩) (l.length+m.length) cap) hd
  refine st.upd (S:=S) (f:=f) st'.defers st'.size st'.env hS0 hS1 h3 h4 n _ (Hp.one b (.cells C E (0,0))) hn hq k1 k2 k3 k4 (Hp.one_sub hwb) (fun b' hb'=>by rw[Hp.one_ne hb'];exact hdom) hkeep ?_
  refine⟨xs++ys,⟨?_,.inr ⟨b,cap,C,by rw[List.length_append],Hp.one_self b _,by rw[List.length_append];exact hcap,hmax,hC,by rw[List.length_append];exact htk⟩⟩,z7h hr hr2⟩
  rw[List.length_append,hown.1,hyl,List.length_append,Nat.add_mul]
end
section
variable {md:Md}{P:Program}{ops:Array Oper}{Q:Exit→Act→World→Prop}{c:Cx}{rest:List Oper}{env env':Env}{L L':List It}
theorem RL.weak(h:∀ a w,St c env L a w→St c env' L' a w)(k:RL .plain P ops Q c rest env' L'):RL .plain P ops Q c rest env L:=fun a w st=>k a w (h a w st)
end
theorem St.cut{c:Cx}{env env':Env}{L L':List It}{a:Act}{w:World}(is:List Nat)(hs:z81 env env')(hn:is.Nodup)(hL:is.map (fun i=>L[i]?)=L'.map some)(h:St c env L a w):St c env' L' a w:=
 (h.shrink hs).pick is hn hL
theorem St.cu{c:Cx}{env env':Env}{L L':List It}{a:Act}{w:World}(h:St c env L a w)(is:List Nat)(hs:z81 env env':=by repeat (first|exact trivial|refine⟨rfl,?_⟩))(hn:is.Nodup:=by decide)(hL:is.map (fun i=>L[i]?)=L'.map some:=by rfl):St c env' L' a w:=St.cut is hs hn hL h
theorem St.via{c:Cx}{env env':Env}{L L':List It}{X:Act→World→Prop}(is:List Nat)(h:∀ (_:Unit) (a:Act) (w:World),St c env' L' a w→X a w)(hs:z81 env env':=by repeat (first|exact trivial|refine⟨rfl,?_⟩))(hn:is.Nodup:=by decide)(hL:is.map (fun i=>L[i]?)=L'.map some:=by rfl):∀ a w,St c env L a w→X a w:=fun a w st=>h () a w (St.cut is hs hn hL st)
theorem St.freeze{c:Cx}{env:Env}{L:List It}{a:Act}{w:World}{α:Type}{e:TypeId}{t:TR α}{v:Value}{l:List α}(n:Nat)(hA:L[n]?=some (own e t v l))(st:St c env L a w):St c env (L.set n (imm t.sl v l)) a w:=by
 obtain⟨S,f,e1,e2,e3,e4⟩:=st.heap
 have hn:=(List.getElem?_eq_some_iff.1 hA).1
 obtain⟨xs,h1,h2⟩:=e4 n _ hA
 have dj:=e3.dS n hn
 refine⟨st.defers,st.size,st.env,st.below,st.calm,S.cup (f n),fun i=>if i=n then Hp.emp else f i,Hp.le_trans e1 (Hp.le_cup_left _ _),?_,⟨Hp.sub_cup e3.sub (e3.subf n hn),?_,?_,?_,?_⟩,?_⟩
 ·intro b hb
  by_cases hs:S b=none
  ·right
   have:f n b≠none:=fun hf=>hb (by simp[Hp.cup,hs,hf])
   exact e3.lo n hn b this
  ·exact e2 b hs
 ·intro i hi
  rw[List.length_set] at hi
  split
  ·exact Hp.sub_emp w
  ·exact e3.subf i hi
 ·intro i hi
  rw[List.length_set] at hi
  split
  ·exact Hp.dj_emp _
  ·rename_i hin
   intro b
   rcases e3.dS i hi b with h|h
   ·rcases e3.df n i hn hi (Ne.symm hin) b with h'|h'
    ·left;simp[Hp.cup,h,h']
    ·exact .inr h'
   ·exact .inr h
 ·intro i j hi hj hij
  rw[List.length_set] at hi hj
  split
  ·exact Hp.dj_comm (Hp.dj_emp _)
  ·split
   ·exact Hp.dj_emp _
   ·exact e3.df i j hi hj hij
 ·intro i hi b hb
  rw[List.length_set] at hi
  split at hb
  ·exact absurd rfl hb
  ·exact e3.lo i hi b hb
 ·intro i B hB
  by_cases hin:i=n
  ·subst hin
   rw[List.getElem?_set_self hn] at hB
   cases hB
   show(t.sl).vrep (S.cup (f i)) v l
   exact⟨[v],rfl,v,xs,rfl,zau (Hp.le_cup_right dj) (z8m h1),z68 (Hp.le_cup_left _ _) h2⟩
  ·rw[List.getElem?_set_ne (Ne.symm hin)] at hB
   show B.P (S.cup (f n)) (if i=n then Hp.emp else f i)
   rw[if_neg hin]
   exact B.mono (Hp.le_cup_left _ _) (e4 i B hB)
def za2(S:Hp)(f:Nat→Hp):Nat→Hp
 |0=>S
 |n+1=>(za2 S f n).cup (f n)
theorem z6a(S:Hp)(f:Nat→Hp):∀ n,Hp.le S (za2 S f n)
 |0=>Hp.le_refl S
 |n+1=>Hp.le_trans (z6a S f n) (Hp.le_cup_left _ _)
theorem zab{S:Hp}{f:Nat→Hp}{b:Nat}:∀ n,S b=none→(∀ i,i<n→f i b=none)→za2 S f n b=none
 |0,h,_=>h
 |n+1,h,h'=>by simp[za2,Hp.cup,zab n h (fun i hi=>h' i (by omega)),h' n (by omega)]
theorem z9a{B:Nat}{S:Hp}{f:Nat→Hp}{m:Nat}{w:World}(h:z2h B S f m w):∀ n,n≤m→∀ i,i<n→Hp.le (f i) (za2 S f n)
 |0,_,i,hi=>by omega
 |n+1,hn,i,hi=>by
  by_cases hin:i=n
  ·subst hin
   refine Hp.le_cup_right fun b=>?_
   by_cases hb:f i b=none
   ·exact .inr hb
   ·left
    refine zab i ((h.dS i (by omega) b).resolve_right hb) fun j hj=>?_
    exact(h.df j i (by omega) (by omega) (by omega) b).resolve_right hb
  ·exact Hp.le_trans (z9a h n (by omega) i (by omega)) (Hp.le_cup_left _ _)
theorem z8e{B:Nat}{S:Hp}{f:Nat→Hp}{m:Nat}{w:World}(h:z2h B S f m w):∀ n,n≤m→(za2 S f n).sub w
 |0,_=>h.sub
 |n+1,hn=>Hp.sub_cup (z8e h n (by omega)) (h.subf n (by omega))
def Seen(A:It)(B:Hp→Prop):Prop:=∀ S f U,Hp.le S U→Hp.le f U→A.P S f→B U
theorem Seen.imm{α:Type}{t:TR α}{v:Value}{d:α}:Seen (imm t v d) (fun U=>t.vrep U v d):=fun _ _ _ h _ k=>TR.vrep_mono h k
theorem Seen.own{α:Type}{e:TypeId}{t:TR α}{v:Value}{l:List α}:Seen (own e t v l) (fun U=>t.sl.vrep U v l):=fun _ _ _ h h' ⟨xs,k1,k2⟩=>⟨[v],rfl,v,xs,rfl,zau h' (z8m k1),z68 h k2⟩
theorem Seen.obox{α:Type}{e:TypeId}{t:TR α}{v:Value}{d:α}:Seen (obox e t v d) (fun U=>t.ptr.vrep U v d):=fun _ _ _ h h' ⟨b,cs,k1,k2,k3⟩=>⟨[v],rfl,b,0,cs.toArray,e,(0,0),cs,by rw[k1],h' _ _ k2,t.mono h k3,fun j u hu=>by simpa using hu⟩
def Post{O:Type}(w:World)(S:Hp)(V:O→Value)(LR:O→List It):Ending→World→Prop:=fun e w'=>
 ∃ o,e=.returned (V o)∧Below w.heap.size w w'∧∃ S' g,Hp.le S S'∧S'.sub w'∧(∀ b,S' b≠none→S b≠none∨w.heap.size≤b) ∧
  (∀ i,i<(LR o).length→(g i).sub w'∧Hp.dj S' (g i)∧∀ b,g i b≠none→w.heap.size≤b)∧(∀ i j,i<(LR o).length→j<(LR o).length→i≠j→Hp.dj (g i) (g j))∧Its (LR o) S' g
def z45(w:World)(v:Value):Ending→World→Prop:=fun e w'=>e=.returned v∧Below w.heap.size w w'
def PostC(w:World)(v:Value):Ending→World→Prop:=fun e w'=>e=.returned v∧w'=w
def Fit(P:Program)(f:FuncId):Prop:=∃ fn,P.funcs[f]?=some fn∧(fn.name == "runtime.NumGoroutine")=false∧fn.body.isNone=false
theorem zbu{P:Program}{f:FuncId}(h:Fit P f)(args:Array Value)(w:World):(callFunc f args).run P w=.ok (.enter f args) w:=by
 obtain⟨fn,h1,h2,h3⟩:=h
 unfold callFunc
 simp only[Sem.run_bind,run_program,Result.andThen_ok,h1,h2,h3,Bool.false_eq_true,if_false,Sem.run_pure]
section
variable {md:Md}{P:Program}{ops:Array Oper}{Q:Exit→Act→World→Prop}{c:Cx}{rest:List Oper}{env:Env}{L:List It}
variable {d:Nat}{ty:TypeId}{pos:String}{af:Array Edge}{g:Option (Nat×Bool)}
theorem zct{a:Act}{args:Array Operand}{vs:List Value}(he:z2g env a)(h:args.toList.map (opv env)=vs.map some):args.map a.eval=vs.toArray:=by
 apply Array.toList_inj.1
 rw[Array.toList_map]
 apply List.ext_getElem?
 intro j
 have:=congrArg (fun l=>l[j]?) h
 simp only[List.getElem?_map] at this ⊢
 cases hj:args.toList[j]? with
 |none=>
  rw[hj] at this
  cases hv:vs[j]? with
  |none=>simp
  |some q=>rw[hv] at this;simp at this
 |some p=>
  rw[hj] at this
  cases hv:vs[j]? with
  |none=>rw[hv] at this;simp at this
  |some q=>
   rw[hv] at this
   simp at this
   simp[zf he this]
theorem z9j{x:Operand}{fid:FuncId}{cap:Array Value}{args:Array Operand}{vs:List Value}{ts:Array TypeId}{a:Act}(w:World)(hf:Fit P fid)(he:z2g env a)(hx:opv env x=some (.func (.func fid) #[] cap))(ha:args.toList.map (opv env)=vs.map some) :
  (execOp a.eval ⟨some d,.call ⟨.value x,args,ts⟩,ty,pos,af,g⟩).run P w=.ok (.enter fid (vs.toArray++cap)) w:=by
 simp[execOp,resolve,zf he hx,Deferred.ofValue,invoke,zct he ha,zbu hf]
theorem RL.call{O:Type}{V:O→Value}{LR:O→List It}{x:Operand}{fid:FuncId}{cap:Array Value}{args:Array Operand}{vs:List Value}{ts:Array TypeId}(hf:Fit P fid)(hq:c.still=false)(hg:wanted ops env g=some true)(hd:Slot c d)
  (hx:opv env x=some (.func (.func fid) #[] cap))(ha:args.toList.map (opv env)=vs.map some)
  (hc:∀ S f w,S.sub w→Hp.le c.S0 S→Its L S f→Calls P fid (vs.toArray++cap) w (Post w S V LR))
  (k:∀ o,RL .plain P ops Q c rest (put env d (V o)) (L++LR o)):RL .plain P ops Q c (⟨some d,.call ⟨.value x,args,ts⟩,ty,pos,af,g⟩::rest) env L:=by
 intro a w st
 unfold wpList
 rw[if_pos (zw (o:=⟨some d,.call ⟨.value x,args,ts⟩,ty,pos,af,g⟩) st.env hg)]
 left
 unfold Oper.wp
 rw[z9j w hf st.env hx ha]
 obtain⟨S,f,e1,e2,e3,e4⟩:=st.heap
 refine(hc S f w e3.sub e1 e4).mono ?_
 rintro e w' ⟨o,rfl,hb,S',h,k1,k2,k3,k4,k5,k6⟩
 refine k o _ _ ?_
 have st':=st.put (V o) hd
 refine⟨st'.defers,st'.size,st'.env,st.below.trans (hb.mono st.below.size),(fun q=>by rw[hq] at q;cases q),S',fcat f L.length h,Hp.le_trans e1 k1,?_,?_,e4.cat k1 k6⟩
 ·intro b hb'
  rcases k3 b hb' with h|h
  ·exact e2 b h
  ·right;have:=st.below.size;omega
 ·rw[List.length_append]
  exact e3.cat st.below.size k2 (fun i hi=>Hp.sub_grow (e3.subf i hi) hb) k3 k4 k5
theorem RL.callV{v:Value}{x:Operand}{fid:FuncId}{cap:Array Value}{args:Array Operand}{vs:List Value}{ts:Array TypeId}(hf:Fit P fid)(hq:c.still=false)(hm:md=.plain∨∃ n0,md=.quiet n0)(hg:wanted ops env g=some true)(hd:Slot c d)
  (hx:opv env x=some (.func (.func fid) #[] cap))(ha:args.toList.map (opv env)=vs.map some)
  (hc:∀ U w,U.sub w→Hp.le c.S0 U→(∀ (n:Nat) (A:It) (B:Hp→Prop),L[n]?=some A→Seen A B→B U)→Calls P fid (vs.toArray++cap) w (z45 w v))
  (k:RL md P ops Q c rest (put env d v) L):RL md P ops Q c (⟨some d,.call ⟨.value x,args,ts⟩,ty,pos,af,g⟩::rest) env L:=by
 have key:∀ S f n w,Hp.le c.S0 S→n≤L.length→z2h c.w0.heap.size S f n w→Its L S (fcat f n fun _=>Hp.emp)→c.w0.heap.size≤w.heap.size→Calls P fid (vs.toArray++cap) w (z45 w v):=by
  intro S f n w hS0 hn h hi hB
  have h':=h.emp hB (L.length-n)
  rw[show n+(L.length-n)=L.length from by omega] at h'
  refine hc (za2 S (fcat f n fun _=>Hp.emp) L.length) w (z8e h' _ (Nat.le_refl _)) (Hp.le_trans hS0 (z6a _ _ _)) fun i A B hA hs=>?_
  exact hs S _ _ (z6a _ _ _) (z9a h' _ (Nat.le_refl _) i (List.getElem?_eq_some_iff.1 hA).1) (hi i A hA)
 rcases hm with rfl|⟨n0,rfl⟩
 ·intro a w st
  unfold wpList
  rw[if_pos (zw (o:=⟨some d,.call ⟨.value x,args,ts⟩,ty,pos,af,g⟩) st.env hg)]
  left
  unfold Oper.wp
  rw[z9j w hf st.env hx ha]
  obtain⟨S,f,e1,e2,e3,e4⟩:=st.heap
  refine(key S f L.length w e1 (Nat.le_refl _) e3 (fun i A hA=>by
   have hi:=(List.getElem?_eq_some_iff.1 hA).1
   unfold fcat;rw[if_pos hi];exact e4 i A hA) st.below.size).mono ?_
  rintro e w' ⟨rfl,hb⟩
  refine k _ _ ?_
  have st':=st.put v hd
  refine⟨st'.defers,st'.size,st'.env,st.below.trans (hb.mono st.below.size),(fun q=>by rw[hq] at q;cases q),S,f,e1,e2,⟨Hp.sub_grow e3.sub hb,fun i hi=>Hp.sub_grow (e3.subf i hi) hb,e3.dS,e3.df,e3.lo⟩,e4⟩
 ·intro S f h1 h2 h3 h4 a de s e
  have hw:=zw (o:=⟨some d,.call ⟨.value x,args,ts⟩,ty,pos,af,g⟩) e hg
  unfold wpQuiet
  rw[if_pos hw]
  refine⟨v,fun w hw'=>?_,k S f h1 h2 h3 h4 _ de (by simpa[Act.put] using s) (e.put v (by rw[s];exact hd.lt))⟩
  unfold Oper.quietAt
  rw[z9j w hf e hx ha]
  refine⟨rfl,(key S f n0 w h1 h3 hw'.1 h4 hw'.2.1.size).mono ?_⟩
  rintro e' w' ⟨rfl,hb⟩
  refine⟨rfl,⟨Hp.sub_grow hw'.1.sub hb,fun i hi=>Hp.sub_grow (hw'.1.subf i hi) hb,hw'.1.dS,hw'.1.df,hw'.1.lo⟩,hw'.2.1.trans (hb.mono hw'.2.1.size),hw'.2.2⟩
theorem RL.callC{v:Value}{x:Operand}{fid:FuncId}{cap:Array Value}{args:Array Operand}{vs:List Value}{ts:Array TypeId}(hf:Fit P fid)(hg:wanted ops env g=some true)(hd:Slot c d)
  (hx:opv env x=some (.func (.func fid) #[] cap))(ha:args.toList.map (opv env)=vs.map some)
  (hc:∀ U w,U.sub w→Hp.le c.S0 U→(∀ (n:Nat) (A:It) (B:Hp→Prop),L[n]?=some A→Seen A B→B U)→Calls P fid (vs.toArray++cap) w (PostC w v))
  (k:RL md P ops Q c rest (put env d v) L):RL md P ops Q c (⟨some d,.call ⟨.value x,args,ts⟩,ty,pos,af,g⟩::rest) env L:=by
 have key:∀ S f n w,Hp.le c.S0 S→n≤L.length→z2h c.w0.heap.size S f n w→Its L S (fcat f n fun _=>Hp.emp)→c.w0.heap.size≤w.heap.size→Calls P fid (vs.toArray++cap) w (PostC w v):=by
  intro S f n w hS0 hn h hi hB
  have h':=h.emp hB (L.length-n)
  rw[show n+(L.length-n)=L.length from by omega] at h'
  refine hc (za2 S (fcat f n fun _=>Hp.emp) L.length) w (z8e h' _ (Nat.le_refl _)) (Hp.le_trans hS0 (z6a _ _ _)) fun i A B hA hs=>?_
  exact hs S _ _ (z6a _ _ _) (z9a h' _ (Nat.le_refl _) i (List.getElem?_eq_some_iff.1 hA).1) (hi i A hA)
 have key2:∀ a w,St c env L a w→Calls P fid (vs.toArray++cap) w (PostC w v):=by
  intro a w st
  obtain⟨S,f,e1,e2,e3,e4⟩:=st.heap
  exact key S f L.length w e1 (Nat.le_refl _) e3 (fun i A hA=>by
   have hi:=(List.getElem?_eq_some_iff.1 hA).1
   unfold fcat;rw[if_pos hi];exact e4 i A hA) st.below.size
 cases md with
 |plain=>
  intro a w st
  unfold wpList
  rw[if_pos (zw (o:=⟨some d,.call ⟨.value x,args,ts⟩,ty,pos,af,g⟩) st.env hg)]
  left
  unfold Oper.wp
  rw[z9j w hf st.env hx ha]
  refine(key2 a w st).mono ?_
  rintro e w' ⟨rfl,rfl⟩
  exact k _ _ (st.put v hd)
 |head tail=>
  intro a w st
  unfold wpStill
  rw[if_pos (zw (o:=⟨some d,.call ⟨.value x,args,ts⟩,ty,pos,af,g⟩) st.env hg)]
  unfold Oper.still
  rw[z9j w hf st.env hx ha]
  exact⟨rfl,v,key2 a w st,k _ _ (st.put v hd)⟩
 |quiet n0=>
  intro S f h1 h2 h3 h4 a de s e
  have hw:=zw (o:=⟨some d,.call ⟨.value x,args,ts⟩,ty,pos,af,g⟩) e hg
  unfold wpQuiet
  rw[if_pos hw]
  refine⟨v,fun w hw'=>?_,k S f h1 h2 h3 h4 _ de (by simpa[Act.put] using s) (e.put v (by rw[s];exact hd.lt))⟩
  unfold Oper.quietAt
  rw[z9j w hf e hx ha]
  refine⟨rfl,(key S f n0 w h1 h3 hw'.1 h4 hw'.2.1.size).mono ?_⟩
  rintro e' w' ⟨rfl,rfl⟩
  exact⟨rfl,hw'⟩
theorem RL.slc{α:Type}{t:TR α}{l:List α}{v:Value}{x:Operand}{lo hi:Option Operand}{T E:TypeId}{sz:Nat}{ag:Bool}{i j:Nat}(n:Nat)(hT:P.underlying T=some (.slice E))(hE:Ln P E sz ag)(hsz:sz=t.size)(hg:wanted ops env g=some true)(hd:Slot c d)
  (hx:opv env x=some v)(hlo:(lo=none∧i=0)∨∃ y kd,lo=some y∧opv env y=some (.int kd i))(hhi:(hi=none∧j=l.length)∨∃ y kd,hi=some y∧opv env y=some (.int kd j))
  (hA:L[n]?=some (imm t.sl v l))(hij:i≤j)(hj:j≤l.length)
  (k:∀ u,RL md P ops Q c rest (put env d u) (L++[imm t.sl u ((l.take j).drop i)])):RL md P ops Q c (⟨some d,.slice T x lo hi none,ty,pos,af,g⟩::rest) env L:=by
 refine RL.rd (X:=fun u Lx=>Lx=[imm t.sl u ((l.take j).drop i)]) hg hd (fun S f hi' _=>?_) (by rintro u _ rfl;exact k u)
 obtain⟨cs,e,u,xs,rfl,⟨ad,cap,rfl,hc1,hc2,h2⟩,hr⟩:=hi' n _ hA
 have hv:v=.slice ad l.length cap:=by rw[e];rfl
 subst hv
 clear e
 refine⟨.slice (if cap=i then ad else ad.map (·.add (i*t.size))) (j-i) (cap-i),_,rfl,?_,fun a w st=>?_⟩
 ·intro q B hB
  match q,hB with
  |0,hB=>
   simp at hB;subst hB
   have hr2:∃ p m q,xs=p++m++q∧p.length=i*t.size∧reps t S m ((l.take j).drop i):=by
    obtain⟨a,b,rfl,ha,hl1,hl2⟩:=z6w j hr hj
    obtain⟨a1,b1,rfl,ha1,hl3,hl4⟩:=z6w i hl1 (by simp;omega)
    exact⟨a1,b1,b,rfl,ha1,hl4⟩
   obtain⟨p,m,q,rfl,hp,hm⟩:=hr2
   have hln:((l.take j).drop i).length=j-i:=by simp;omega
   refine⟨[.slice (if cap=i then ad else ad.map (·.add (i*t.size))) (j-i) (cap-i)],rfl,_,m,rfl,⟨_,cap-i,by rw[hln],by rw[hln];omega,by omega,?_⟩,hm⟩
   by_cases h0:j-i=0
   ·left
    refine⟨by rw[hln,h0],?_⟩
    have:(l.take j).drop i=[]:=List.eq_nil_of_length_eq_zero (by rw[hln,h0])
    rw[this] at hm
    exact hm
   ·right
    rcases h2 with⟨h2,_⟩|⟨b,o,C,tb,fz,rfl,hb,hC⟩
    ·omega
    ·rw[if_neg (by omega)]
     refine⟨b,o+i*t.size,C,tb,fz,by simp[z3h],hb,fun q u hu=>?_⟩
     rw[Nat.add_assoc]
     refine hC (i*t.size+q) u ?_
     have hq:=(List.getElem?_eq_some_iff.1 hu).1
     rw[List.append_assoc,List.getElem?_append_right (by omega),List.getElem?_append_left (by omega)]
     rw[show i*t.size+q-p.length=q from by omega];exact hu
 ·have hsz':sz=t.size:=hsz
  have b1:∀ (z y:Nat) (kd:IntKind) (code:BoundsCode),z≤y→(Instr.sliceBound (.int kd z) y code).run P w=.ok z w:=fun z y kd code h1=>by
   rw[run_sliceBound w kd z y code (by omega) (by omega)];simp
  rcases hlo with⟨rfl,rfl⟩|⟨y,kd,rfl,hy⟩<;>rcases hhi with⟨rfl,rfl⟩|⟨z,ke,rfl,hz⟩
  ·simp[execOp,Instr.sliceAt,Instr.slice,run_underlying hT,zf st.env hx,Instr.sliceBounds,run_sizeOf hE,hsz']
  ·have q1:=b1 j cap ke .sliceAcap (by omega)
   simp[execOp,Instr.sliceAt,Instr.slice,run_underlying hT,zf st.env hx,zf st.env hz,Instr.sliceBounds,run_sizeOf hE,hsz',q1]
  ·have q1:=b1 i l.length kd .sliceB (by omega)
   simp[execOp,Instr.sliceAt,Instr.slice,run_underlying hT,zf st.env hx,zf st.env hy,Instr.sliceBounds,run_sizeOf hE,hsz',q1]
  ·have q1:=b1 j cap ke .sliceAcap (by omega)
   have q2:=b1 i j kd .sliceB (by omega)
   simp[execOp,Instr.sliceAt,Instr.slice,run_underlying hT,zf st.env hx,zf st.env hy,zf st.env hz,Instr.sliceBounds,run_sizeOf hE,hsz',q1,q2]
end
end Go.Fw
