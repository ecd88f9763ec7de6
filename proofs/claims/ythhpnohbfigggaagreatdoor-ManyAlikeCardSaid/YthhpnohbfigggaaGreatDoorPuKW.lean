/- Plain lemmas about the small language of the models: loops that keep an invariant, loops that fold. -/
import Derived.Test.YthhpnohbfigggaaGreatDoorFwFGH
import Derived.Test.YthhpnohbfigggaaGreatDoorMwModels
set_option linter.all false
namespace Go.Pu
open Go.Fw
section
variable {ρ σ α β γ:Type}
def lk{β:Type}:Option ρ→Option (Fl ρ β Unit)
 |some r=>some (.rt r)
 |none=>some (.nx ())
theorem z9e{body:Nat→α→Unit→Option (Fl Int Unit Unit)}(q:α→Bool)(l:List α)(h:∀ i x,x∈l→body i x ()=if q x then some (.rt (i:Int)) else some (.nx ())) :
  ∀ i,z2w (γ:=γ) body l i ()=if l.any q then some (.rt ((i+l.findIdx q:Nat):Int)) else some (.nx ()):=by
 induction l with
 |nil=>intro i;rfl
 |cons x l ih=>
  intro i
  unfold z2w
  rw[h i x (by simp)]
  by_cases hx:q x=true
  ·simp[hx,List.findIdx_cons]
  ·have hx':q x=false:=by simpa using hx
   rw[hx']
   simp only[Bool.false_eq_true,if_false]
   rw[ih (fun i y hy=>h i y (by simp[hy])) (i+1)]
   simp only[List.any_cons,hx',Bool.false_or,List.findIdx_cons,cond_false]
   split
   ·congr 3;omega
   ·rfl
theorem idx_nat{l:List α}{i:Nat}:idx l (i:Int)=l[i]? := by
 unfold idx
 rw[if_pos (by omega)]
 simp
theorem idx_at{l:List α}{i:Int}(h0:0≤i):idx l i=l[i.toNat]? := by unfold idx;rw[if_pos h0]
theorem z2l{x y:Int}(h0:-9223372036854775808≤x+y)(h1:x+y≤9223372036854775807):wadd x y=x+y:=by
 unfold wadd;rw[IntKind.wrap_i64];omega
theorem z7v{x y:Int}(h0:-9223372036854775808≤x-y)(h1:x-y≤9223372036854775807):wsub x y=x-y:=by
 unfold wsub;rw[IntKind.wrap_i64];omega
theorem wmul_of{x y:Int}(h0:-9223372036854775808≤x*y)(h1:x*y≤9223372036854775807):wmul x y=x*y:=by
 unfold wmul;rw[IntKind.wrap_i64];omega
theorem z3f{p:Prop}[Decidable p](h:p):chk p=some ():=if_pos h
end
def Ok{α:Type}(x:Option α)(P:α→Prop):Prop:=∃ v,x=some v∧P v
def FlOk{ρ β σ:Type}(N:σ→Prop)(B:β→Prop)(R:ρ→Prop):Fl ρ β σ→Prop
 |.nx s=>N s
 |.br b=>B b
 |.rt r=>R r
def nth{α:Type}[Inhabited α](l:List α)(k:Nat):α:=l.getD k default
section
variable {ρ σ α β γ τ:Type}{P:α→Prop}{N:σ→Prop}{B:β→Prop}{R:ρ→Prop}
theorem Ok.mono{x:Option α}{Q:α→Prop}(h:Ok x P)(hPQ:∀ v,P v→Q v):Ok x Q:=let ⟨v,e,p⟩:=h;⟨v,e,hPQ v p⟩
theorem Ok.eq{x:Option α}{v:α}(h:Ok x (fun y=>y=v)):x=some v:=by obtain⟨y,e,rfl⟩:=h;exact e
theorem zg{v:α}:Ok (some v) P↔P v:=⟨fun⟨_,e,p⟩=>by cases e;exact p,fun p=>⟨v,rfl,p⟩⟩
theorem ok_bind{x:Option τ}{k:τ→Option α}:Ok (x.bind k) P↔Ok x (fun v=>Ok (k v) P):=by
 constructor
 ·rintro⟨v,e,p⟩
  obtain⟨y,hy,hk⟩:=Option.bind_eq_some_iff.1 e
  exact⟨y,hy,v,hk,p⟩
 ·rintro⟨y,rfl,v,e,p⟩;exact⟨v,e,p⟩
theorem z96{p:Prop}[Decidable p]{x y:Option α}:Ok (if p then x else y) P↔(p→Ok x P)∧(¬ p→Ok y P):=by
 split
 ·rename_i h;simp[h]
 ·rename_i h;simp[h]
theorem z1j{s:σ}:FlOk N B R (.nx s)↔N s:=Iff.rfl
theorem flok_br{b:β}:FlOk N B R (.br b)↔B b:=Iff.rfl
theorem z6i{r:ρ}:FlOk N B R (.rt r)↔R r:=Iff.rfl
theorem z22{x:Option (Fl ρ β σ)}{k:σ→Option ρ}{P:ρ→Prop}:Ok (z2f x k) P↔Ok x (FlOk (fun s=>Ok (k s) P) (fun _=>False) P):=by
 constructor
 ·rintro⟨v,e,p⟩
  cases x with
  |none=>cases e
  |some y=>
   cases y with
   |nx s=>exact⟨_,rfl,v,e,p⟩
   |br b=>cases e
   |rt r=>cases e;exact⟨_,rfl,p⟩
 ·rintro⟨y,rfl,h⟩
  cases y with
  |nx s=>exact h
  |br b=>exact h.elim
  |rt r=>exact⟨r,rfl,h⟩
theorem z5h{x:Option (Fl ρ β σ)}{k:σ→Option (Fl ρ β τ)}{P:Fl ρ β τ→Prop}:Ok (z5e x k) P↔Ok x (FlOk (fun s=>Ok (k s) P) (fun b=>P (.br b)) (fun r=>P (.rt r))):=by
 constructor
 ·rintro⟨v,e,p⟩
  cases x with
  |none=>cases e
  |some y=>
   cases y with
   |nx s=>exact⟨_,rfl,v,e,p⟩
   |br b=>cases e;exact⟨_,rfl,p⟩
   |rt r=>cases e;exact⟨_,rfl,p⟩
 ·rintro⟨y,rfl,h⟩
  cases y with
  |nx s=>exact h
  |br b=>exact⟨_,rfl,h⟩
  |rt r=>exact⟨_,rfl,h⟩
theorem z4o[Inhabited α]{l:List α}{k:Nat}(h:k<l.length):l[k]?=some (nth l k):=by
 unfold nth;rw[List.getD_eq_getElem?_getD,List.getElem?_eq_getElem h];rfl
theorem z41[Inhabited α]{l:List α}{k:Nat}(h:k<l.length):nth l k=l[k]:=by
 unfold nth;rw[List.getD_eq_getElem?_getD,List.getElem?_eq_getElem h];rfl
theorem zcj[Inhabited α]{l:List α}{k:Nat}{x:α}(h:l[k]?=some x):nth l k=x∧k<l.length:=by
 unfold nth;rw[List.getD_eq_getElem?_getD,h];exact⟨rfl,(List.getElem?_eq_some_iff.1 h).1⟩
theorem z7w[Inhabited α]{l:List α}{k:Nat}(h:k<l.length):nth l k∈l:=List.mem_of_getElem? (z4o h)
theorem z8h[Inhabited α]{l:List α}{x:α}(h:x∈l):∃ k,k<l.length∧nth l k=x:=by
 obtain⟨k,hk,e⟩:=List.mem_iff_getElem.1 h
 exact⟨k,hk,by rw[z41 hk,e]⟩
theorem zb7[Inhabited α]{l:List α}{i k:Nat}{x:α}(h:i<l.length):nth (l.set i x) k=if k=i then x else nth l k:=by
 unfold nth
 simp only[List.getD_eq_getElem?_getD]
 split
 ·rename_i e;subst e;rw[List.getElem?_set_self h];rfl
 ·rename_i e;rw[List.getElem?_set_ne (Ne.symm e)]
theorem z6y[Inhabited α]{l m:List α}{k:Nat}:nth (l++m) k=if k<l.length then nth l k else nth m (k-l.length):=by
 unfold nth
 simp only[List.getD_eq_getElem?_getD]
 split
 ·rename_i h;rw[List.getElem?_append_left h]
 ·rename_i h;rw[List.getElem?_append_right (by omega)]
theorem zaq[Inhabited α]{l:List α}{n k:Nat}(h:k<n):nth (l.take n) k=nth l k:=by
 unfold nth;simp only[List.getD_eq_getElem?_getD];rw[List.getElem?_take_of_lt h]
theorem nth_drop[Inhabited α]{l:List α}{n k:Nat}:nth (l.drop n) k=nth l (n+k):=by
 unfold nth;simp only[List.getD_eq_getElem?_getD,List.getElem?_drop]
theorem nth_map[Inhabited α][Inhabited β]{l:List α}{f:α→β}{k:Nat}(h:k<l.length):nth (l.map f) k=f (nth l k):=by
 rw[z41 (by simpa using h),z41 h];simp
theorem zb2[Inhabited α]{l:List α}{x:α}{k:Nat}:nth (x::l) (k+1)=nth l k:=rfl
theorem z3i{body:Nat→τ→σ→Option (Fl ρ σ σ)}{l:List τ}(I:Nat→σ→Prop){s:σ}{B:γ→Prop}(h0:I 0 s)
  (hs:∀ k x s,l[k]?=some x→I k s→Ok (body k x s) (FlOk (I (k+1)) N R))(he:∀ s,I l.length s→N s):Ok (z2w (γ:=γ) body l 0 s) (FlOk N B R):=by
 have key:∀ (d i:Nat) (s:σ),i+d=l.length→I i s→Ok (z2w (γ:=γ) body (l.drop i) i s) (FlOk N B R):=by
  intro d
  induction d with
  |zero=>
   intro i s hi hI
   rw[List.drop_of_length_le (by omega)]
   have:i=l.length:=by omega
   subst this
   exact⟨_,rfl,he s hI⟩
  |succ d ih=>
   intro i s hi hI
   have hlt:i<l.length:=by omega
   rw[List.drop_eq_getElem_cons hlt]
   unfold z2w
   obtain⟨v,e,p⟩:=hs i l[i] s (List.getElem?_eq_getElem hlt) hI
   rw[e]
   cases v with
   |nx s'=>exact ih (i+1) s' (by omega) p
   |br s'=>exact⟨_,rfl,p⟩
   |rt r=>exact⟨_,rfl,p⟩
 have:=key l.length 0 s (by omega) h0
 simpa using this
theorem zcz{body:Nat→σ→Option (Fl ρ σ σ)}{n:Nat}(I:Nat→σ→Prop){s:σ}{B:γ→Prop}(h0:I 0 s)
  (hs:∀ k s,k<n→I k s→Ok (body k s) (FlOk (I (k+1)) N R))(he:∀ s,I n s→N s):Ok (z5s (γ:=γ) body n 0 s) (FlOk N B R):=by
 have key:∀ (d i:Nat) (s:σ),i+d=n→I i s→Ok (z5s (γ:=γ) body d i s) (FlOk N B R):=by
  intro d
  induction d with
  |zero=>
   intro i s hi hI
   have:i=n:=by omega
   subst this
   exact⟨_,rfl,he s hI⟩
  |succ d ih=>
   intro i s hi hI
   unfold z5s
   obtain⟨v,e,p⟩:=hs i s (by omega) hI
   rw[e]
   cases v with
   |nx s'=>exact ih (i+1) s' (by omega) p
   |br s'=>exact⟨_,rfl,p⟩
   |rt r=>exact⟨_,rfl,p⟩
 exact key n 0 s (by omega) h0
theorem zfh{body:σ→Option (Fl ρ β σ)}(I:σ→Prop)(μ:σ→Nat){C:γ→Prop}(hs:∀ s,I s→Ok (body s) (FlOk (fun s'=>I s'∧μ s'<μ s) B R)):∀ (n:Nat) (s:σ),I s→μ s<n→Ok (z40 (γ:=γ) body n s) (FlOk B C R):=by
 intro n
 induction n with
 |zero=>intro s _ h;omega
 |succ n ih=>
  intro s hI hn
  unfold z40
  obtain⟨v,e,p⟩:=hs s hI
  rw[e]
  cases v with
  |nx s'=>exact ih s' p.1 (by have:=p.2;omega)
  |br b=>exact⟨_,rfl,p⟩
  |rt r=>exact⟨_,rfl,p⟩
end
theorem Ok.fl{ρ σ β:Type}{x:Option (Fl ρ β σ)}{N N':σ→Prop}{B B':β→Prop}{R R':ρ→Prop}(h:Ok x (FlOk N B R))(hN:∀ s,N s→N' s)(hB:∀ s,B s→B' s)(hR:∀ s,R s→R' s):Ok x (FlOk N' B' R'):=h.mono fun v hv=>by
 cases v with
 |nx s=>exact hN s hv
 |br b=>exact hB b hv
 |rt r=>exact hR r hv
open Go.Fw Go.Mo
end Go.Pu
