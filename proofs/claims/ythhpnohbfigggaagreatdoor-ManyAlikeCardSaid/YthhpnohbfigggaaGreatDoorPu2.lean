/- What the library's functions on lists of numbers answer. -/
import Derived.Test.YthhpnohbfigggaaGreatDoorMwModels
import Derived.Test.YthhpnohbfigggaaGreatDoorPuKW
import Derived.Test.YthhpnohbfigggaaGreatDoorPu1
set_option linter.all false
namespace Go.Pu
open Go.Fw Go.Mo
theorem cancel_le{a b c:Int}(hc:0<c)(h:a*c≤b*c):a≤b:=Int.le_of_mul_le_mul_right h hc
theorem zax{a b c:Int}(hc:0<c)(h:a*c<b*c):a<b:=Int.lt_of_mul_lt_mul_right h (by omega)
theorem z74{a b c:Int}(hc:0≤c)(h:a≤b):a*c≤b*c:=Int.mul_le_mul_of_nonneg_right h hc
theorem mul_lt{a b c:Int}(hc:0<c)(h:a<b):a*c<b*c:=Int.mul_lt_mul_of_pos_right h hc
theorem zcx{u w:Nat→Int}:∀ {n:Nat},(∀ k,k<n→u k≤0→0<w k)→(∃ k,k<n∧u k≤0)→∃ i,i<n∧u i≤0∧∀ k,k<n→u k≤0→u i*w k≤u k*w i
 |n+1,hw,⟨k0,hk0,hu0⟩=>by
  by_cases ex:∃ k,k<n∧u k≤0
  ·obtain⟨i,hi,hui,hb⟩:=zcx (u:=u) (w:=w) (n:=n) (fun k hk=>hw k (by omega)) ex
   by_cases hn:u n≤0
   ·by_cases hc:u i*w n≤u n*w i
    ·refine⟨i,by omega,hui,fun k hk hku=>?_⟩
     by_cases e:k=n
     ·subst e;exact hc
     ·exact hb k (by omega) hku
    ·refine⟨n,by omega,hn,fun k hk hku=>?_⟩
     by_cases e:k=n
     ·subst e;exact Int.le_refl _
     ·have h1:=hb k (by omega) hku
      have wi:=hw i (by omega) hui
      have wk:=hw k hk hku
      have wn:=hw n (by omega) hn
      refine cancel_le wi ?_
      have a1:=z74 (show 0≤w n by omega) h1
      have a2:=z74 (show 0≤w k by omega) (show u n*w i≤u i*w n by omega)
      grind
   ·exact⟨i,by omega,hui,fun k hk hku=>by
     by_cases e:k=n
     ·subst e;exact absurd hku hn
     ·exact hb k (by omega) hku⟩
  ·have e:k0=n:=by
    by_cases e:k0=n
    ·exact e
    ·exact absurd ⟨k0,by omega,hu0⟩ ex
   subst e
   exact⟨k0,by omega,hu0,fun k hk hku=>by
    by_cases e:k=k0
    ·subst e;exact Int.le_refl _
    ·exact absurd ⟨k,by omega,hku⟩ ex⟩
theorem zej{a b:Int}(hb:0≤b)(h:0<a*b):0<a:=by
 rcases Int.lt_or_le 0 a with h'|h'
 ·exact h'
 ·have:=z74 hb h';omega
theorem cross{u w:Nat→Int}{n:Nat}{p r:Int}(hp:0≤p)(hr:0≤r)(hx:∀ k,k<n→0<w k*p+u k*r)(hu:∃ k,k<n∧u k≤0)(hw:∃ k,k<n∧w k≤0) :
  ∃ i j,i<n∧j<n∧0<u j-u i∧0<w i-w j∧∀ k,k<n→0<w k*(u j-u i)+u k*(w i-w j):=by
 have pu:∀ k,k<n→u k≤0→0<w k:=fun k hk h=>by
  have h1:=hx k hk
  have h2:=z74 hr h
  exact zej hp (by omega)
 have pw:∀ k,k<n→w k≤0→0<u k:=fun k hk h=>by
  have h1:=hx k hk
  have h2:=z74 hp h
  exact zej hr (by omega)
 obtain⟨i,hi,ui,bi⟩:=zcx pu hu
 obtain⟨j,hj,wj,bj⟩:=zcx (u:=w) (w:=u) pw hw
 have wi:=pu i hi ui
 have uj:=pw j hj wj
 have main:u i*w j<w i*u j:=by
  have h1:=hx i hi
  have h2:=hx j hj
  rcases Int.lt_or_le 0 p with hp'|hp'
  ·rcases Int.lt_or_le 0 r with hr'|hr'
   ·have a1:(- (u i))*r<w i*p:=by rw[Int.neg_mul];omega
    have a2:(- (w j))*p<u j*r:=by rw[Int.neg_mul];omega
    have b1:(- (u i))*r*((- (w j))*p)≤w i*p*((- (w j))*p):=z74 (Int.mul_nonneg (by omega) hp) (by omega)
    have b2:(- (w j))*p*(w i*p)<u j*r*(w i*p):=mul_lt (Int.mul_pos wi hp') a2
    have b3:u i*w j*(p*r)<w i*u j*(p*r):=by grind
    exact zax (Int.mul_pos hp' hr') b3
   ·have:r=0:=by omega
    subst this
    have:w j*p≤0*p:=z74 hp wj
    rw[Int.mul_zero] at h2;omega
  ·have:p=0:=by omega
   subst this
   have:u i*r≤0*r:=z74 hr ui
   rw[Int.mul_zero] at h1;omega
 refine⟨i,j,hi,hj,by omega,by omega,fun k hk=>?_⟩
 have ei:w i*(u j-u i)+u i*(w i-w j)=w i*u j-u i*w j:=by grind
 have ej:w j*(u j-u i)+u j*(w i-w j)=w i*u j-u i*w j:=by grind
 rcases Int.lt_or_le 0 (u k) with huk|huk
 ·rcases Int.lt_or_le 0 (w k) with hwk|hwk
  ·have a:=Int.mul_pos hwk (show 0<u j-u i by omega)
   have b:=Int.mul_pos huk (show 0<w i-w j by omega)
   omega
  ·have hb:=bj k hk hwk
   refine zax uj ?_
   have a1:=z74 (show 0≤u j-u i by omega) hb
   have a2:=Int.mul_pos (show 0<u k from huk) (show 0<w i*u j-u i*w j by omega)
   rw[Int.zero_mul]
   grind
 ·have hb:=bi k hk huk
  have hwk:=pu k hk huk
  refine zax wi ?_
  have a1:=z74 (show 0≤w i-w j by omega) hb
  have a2:=Int.mul_pos hwk (show 0<w i*u j-u i*w j by omega)
  rw[Int.zero_mul]
  grind
theorem rt_code{d:Deal}(h:z4p d):rt d≠4:=by
 have:Ok (z29 d) (fun e=>e≠4):=by
  unfold z29
  rw[z6q h.1,z6q h.2]
  simp only[Option.bind_some,z22,z96,zg,z1j]
  simp
 obtain⟨e,he,hf⟩:=this
 have:rt d=e:=by unfold rt;rw[he];rfl
 omega
theorem checkQ_code{l:List Deal}(hs:∀ d∈l,z4p d):Ok (z2d l) (fun e=>e≠4):=by
 unfold z2d
 by_cases h20:(l.length:Int)>20
 ·rw[if_pos (by rw[decide_eq_true_eq];exact h20),zg];decide
 ·rw[if_neg (by rw[decide_eq_true_eq];exact h20),z22]
  refine z3i (fun _ _=>True) trivial (fun k d t hk _=>?_) fun t _=>by rw[zg];decide
  obtain⟨hd,hkl⟩:=zcj hk
  have hsd:=hs d (List.mem_of_getElem? hk)
  unfold z4w
  rw[z9k hsd,Option.bind_some]
  by_cases hr:rt d=0
  ·rw[if_neg (by rw[bne_iff_ne];exact fun h=>h hr),z3f (by omega),Option.bind_some,zcb,Option.bind_some]
   simp only[z96,zg,z6i,z1j]
   exact⟨fun _=>by decide,fun _=>trivial⟩
  ·rw[if_pos (by rw[bne_iff_ne];exact hr),zg,z6i];exact rt_code hsd
theorem checkA_code{l:List Acct}(hs:z4q l):Ok (z1c l) (fun e=>e≠4):=by
 unfold z1c
 by_cases h6:(l.length:Int)>6
 ·rw[if_pos (by rw[decide_eq_true_eq];exact h6),zg];decide
 ·rw[if_neg (by rw[decide_eq_true_eq];exact h6),z22]
  refine z3i (fun _ _=>True) trivial (fun k a t hk _=>?_) fun t _=>by rw[zg];decide
  obtain⟨ha,hkl⟩:=zcj hk
  unfold z3n
  rw[z6q (hs a (List.mem_of_getElem? hk)),Option.bind_some,z5h]
  have fin:∀ b:Bool,Ok (if b=true then some (Fl.rt (3:Int)) else z5e (ρ:=Int) (β:=Unit) (σ:=Bool) (if decide (a.2.1<(0:Int)) then some (.nx true) else(if decide (a.2.1>(1000000:Int)) then some (.nx true) else(if decide (a.2.2<(0:Int)) then some (.nx true) else some (.nx (decide (a.2.2>(1000000:Int))))))) fun x121=>(if x121 then some (.rt (1:Int)) else some (.nx ()))) (FlOk (fun(_:Unit)=>True) (fun _=>False) (fun e=>e≠4)):=fun b=>by
   simp only[z96,zg,z5h,z1j,z6i]
   simp
  by_cases hn:nm a.1=true
  ·rw[if_neg (by simp[hn])]
   by_cases hk0:(k:Int)>0
   ·rw[if_pos (by rw[decide_eq_true_eq];exact hk0),z7v (by omega) (by omega),show(k:Int)-1=((k-1:Nat):Int) by omega,idx_nat,z4o (by omega),Option.bind_some,zg,z1j]
    exact(fin _).fl (fun _ h=>h) (fun _ h=>h.elim) (fun _ h=>h)
   ·rw[if_neg (by rw[decide_eq_true_eq];exact hk0),zg,z1j]
    exact(fin _).fl (fun _ h=>h) (fun _ h=>h.elim) (fun _ h=>h)
  ·rw[if_pos (by simpa using hn),zg,z1j]
   exact(fin _).fl (fun _ h=>h) (fun _ h=>h.elim) (fun _ h=>h)
def tk(l:List Acct)(d:Deal)(t:List UInt8):List Acct×Int:=(z1k l d t).getD ([],1)
theorem tk_ok{l:List Acct}{d:Deal}{t:List UInt8}(hs:z4q l)(hd:z4p d):z1k l d t=some (tk l d t)∧Took l d t (tk l d t):=by
 obtain⟨p,e,hp⟩:=take_ok (t:=t) hs hd
 have:tk l d t=p:=by unfold tk;rw[e];rfl
 rw[this];exact⟨e,hp⟩
theorem tk_yes{l:List Acct}{d:Deal}{t:List UInt8}(hs:z4q l)(hd:z4p d)(h0:(tk l d t).2=0):∃ i j k,z3w l∧rt d=0∧i<l.length∧j<l.length∧k<l.length∧(nth l i).1=d.1∧(nth l j).1=d.2.1∧(nth l k).1=t∧d.2.2.1=(nth l i).2.2∧d.2.2.2.1+d.2.2.2.2.1≤(nth l i).2.1∧Moved l i j k d.2.2.2.1 d.2.2.2.2.1 (tk l d t).1∧z3w (tk l d t).1:=by
 have h:=(tk_ok (t:=t) hs hd).2
 generalize tk l d t=p at *
 cases h with
 |no e he=>exact absurd h0 he
 |yes i j k m hA hr hi hj hk ei ej ek hn hp hm hA'=>exact⟨i,j,k,hA,hr,hi,hj,hk,ei,ej,ek,hn,hp,hm,hA'⟩
def moneyS(l:List Acct):Int:=sumN l.length fun q=>(nth l q).2.1
theorem Moved.money{l m:List Acct}{i j k:Nat}{a b:Int}(h:Moved l i j k a b m)(hi:i<l.length)(hj:j<l.length)(hk:k<l.length):moneyS m=moneyS l:=by
 unfold moneyS
 rw[h.len]
 have:sumN l.length (fun q=>(nth m q).2.1)=sumN l.length (fun q=>(nth l q).2.1-(if q=i then a+b else 0)+(if q=j then a else 0)+(if q=k then b else 0)):=zbc fun q hq=>by rw[h.at_ q hq]
 rw[this,sumN_add,sumN_add,sumN_sub,za9 hi,za9 hj,za9 hk]
 omega
def good(x0:List Deal)(l:List Acct)(t:List UInt8)(room:Int)(i:Nat):Prop:=(nth x0 i).2.2.2.2.2≤room∧(tk l (nth x0 i) t).2=0
def fee(x0:List Deal)(i:Nat):Int:=(nth x0 i).2.2.2.2.1
def size(x0:List Deal)(i:Nat):Int:=(nth x0 i).2.2.2.2.2
inductive zcl(x0:List Deal)(l:List Acct)(t:List UInt8)(room:Int):Int×Int→Prop
 |no (e:Int):e≠0→e≠4→¬ (z6m x0∧z3w l∧0≤room∧room≤1000)→zcl x0 l t room (0,e)
 |none:z6m x0→z3w l→0≤room→room≤1000→(∀ i,i<x0.length→¬ good x0 l t room i)→zcl x0 l t room (0,4)
 |some (k:Nat):z6m x0→z3w l→0≤room→room≤1000→k<x0.length→good x0 l t room k→(∀ i,i<x0.length→good x0 l t room i→fee x0 i*size x0 k≤fee x0 k*size x0 i∧(i<k→fee x0 i*size x0 k<fee x0 k*size x0 i))→zcl x0 l t room (k,0)
theorem ratio_step{fi si fb sb fk sk:Int}(h1:fi*sb≤fb*si)(h2:fb*sk<fk*sb)(hi:1≤si)(hb:1≤sb)(hk:1≤sk):fi*sk<fk*si:=by
 have a1:=z74 (c:=sk) (by omega) h1
 have a2:=mul_lt (c:=si) (by omega) h2
 refine zax (c:=sb) (by omega) ?_
 have e1:fi*sk*sb=fi*sb*sk:=by rw[Int.mul_assoc,Int.mul_comm sk,← Int.mul_assoc]
 have e2:fk*si*sb=fk*sb*si:=by rw[Int.mul_assoc,Int.mul_comm si,← Int.mul_assoc]
 have e3:fb*si*sk=fb*sk*si:=by rw[Int.mul_assoc,Int.mul_comm si,← Int.mul_assoc]
 omega
theorem next_ok{x0:List Deal}{l:List Acct}{t:List UInt8}{room:Int}(hs:∀ d∈x0,z4p d)(ha:z4q l):Ok (z5w x0 l t room) (zcl x0 l t room):=by
 obtain⟨e,he,hq⟩:=zaw hs
 obtain⟨e1,he1,hc⟩:=checkQ_code hs
 rw[he] at he1;cases he1
 obtain⟨f,hf,hA⟩:=z9b ha
 obtain⟨f1,hf1,hd⟩:=checkA_code ha
 rw[hf] at hf1;cases hf1
 unfold z5w
 rw[he,Option.bind_some]
 by_cases h0:e=0
 ·have hQ:=hq.1 h0
  rw[if_neg (by rw[bne_iff_ne];exact fun h=>h h0),hf,Option.bind_some]
  by_cases h1:f=0
  ·have hAl:=hA.1 h1
   rw[if_neg (by rw[bne_iff_ne];exact fun h=>h h1)]
   by_cases hr:0≤room∧room≤1000
   ·rw[if_neg (by rw[decide_eq_true_eq];omega),z22,zg,z1j,if_neg (by rw[decide_eq_true_eq];omega),z22]
    have szs:∀ i,i<x0.length→(0≤fee x0 i∧fee x0 i≤1000000)∧1≤size x0 i∧size x0 i≤100:=fun i hi=>by
     have:=z8j (hs _ (z7w hi)) (hQ.right _ (z7w hi))
     exact⟨this.2.2.1,this.2.2.2.1⟩
    refine z3i (fun k (b:Int)=>(b = -1∧∀ i,i<k→¬ good x0 l t room i)∨∃ q:Nat,b=(q:Int)∧q<k∧good x0 l t room q∧∀ i,i<k→good x0 l t room i→fee x0 i*size x0 q≤fee x0 q*size x0 i∧(i<q→fee x0 i*size x0 q<fee x0 q*size x0 i)) (.inl ⟨rfl,fun i hi=>by omega⟩) (fun k d b hk hI=>?_) fun b hb=>?_
    ·obtain⟨hdk,hkl⟩:=zcj hk
     have hsd:=hs d (List.mem_of_getElem? hk)
     have htk:=tk_ok (t:=t) ha hsd
     have skip:¬ good x0 l t room k→Ok (some (Fl.nx (ρ:=Int×Int) (β:=Int) b)) (FlOk (fun(b:Int)=>(b = -1∧∀ i,i<k+1→¬ good x0 l t room i)∨∃ q:Nat,b=(q:Int)∧q<k+1∧good x0 l t room q∧∀ i,i<k+1→good x0 l t room i→fee x0 i*size x0 q≤fee x0 q*size x0 i∧(i<q→fee x0 i*size x0 q<fee x0 q*size x0 i)) (fun _=>False) (fun _=>False)):=fun hg=>by
      rw[zg,z1j]
      rcases hI with⟨rfl,h⟩|⟨q,rfl,hqk,hgq,h⟩
      ·refine .inl ⟨rfl,fun i hi=>?_⟩
       by_cases e:i=k
       ·subst e;exact hg
       ·exact h i (by omega)
      ·refine .inr ⟨q,rfl,by omega,hgq,fun i hi hgi=>?_⟩
       by_cases e:i=k
       ·subst e;exact absurd hgi hg
       ·exact h i (by omega) hgi
     unfold z7p
     by_cases hz:d.2.2.2.2.2>room
     ·rw[if_pos (by rw[decide_eq_true_eq];exact hz)]
      exact(skip fun h=>by unfold good at h;rw[hdk] at h;omega).fl (fun _ h=>h) (fun _ h=>h.elim) (fun _ h=>h.elim)
     ·rw[if_neg (by rw[decide_eq_true_eq];exact hz),htk.1,Option.bind_some]
      by_cases ht:(tk l d t).2=0
      ·have hgk:good x0 l t room k:=⟨by rw[hdk];omega,by rw[hdk];exact ht⟩
       rw[if_neg (by rw[bne_iff_ne];exact fun h=>h ht),z5h]
       rcases hI with⟨rfl,h⟩|⟨q,rfl,hqk,hgq,h⟩
       ·rw[if_pos (by decide),zg,z1j,if_pos rfl,zg,z1j]
        refine .inr ⟨k,rfl,by omega,hgk,fun i hi hgi=>?_⟩
        by_cases e:i=k
        ·subst e;exact⟨Int.le_refl _,fun h=>by omega⟩
        ·exact absurd hgi (h i (by omega))
       ·have hql:q<x0.length:=by omega
        have sq:=szs q hql;have sk:=szs k hkl
        have efk:d.2.2.2.2.1=fee x0 k:=by unfold fee;rw[hdk]
        have esk:d.2.2.2.2.2=size x0 k:=by unfold size;rw[hdk]
        have m1:=z74 (c:=size x0 q) (by omega) sk.1.2
        have m2:=z74 (c:=size x0 q) (by omega) sk.1.1
        have m3:=z74 (c:=size x0 k) (by omega) sq.1.2
        have m4:=z74 (c:=size x0 k) (by omega) sq.1.1
        rw[if_neg (by rw[decide_eq_true_eq];omega),idx_nat,z4o hql,Option.bind_some,Option.bind_some,zg,z1j]
        have e1:(nth x0 q).2.2.2.2.2=size x0 q:=rfl
        have e2:(nth x0 q).2.2.2.2.1=fee x0 q:=rfl
        rw[e1,e2,efk,esk,wmul_of (by omega) (by omega),wmul_of (by omega) (by omega)]
        by_cases hgt:fee x0 k*size x0 q>fee x0 q*size x0 k
        ·rw[if_pos (by rw[decide_eq_true_eq];exact hgt),zg,z1j]
         refine .inr ⟨k,rfl,by omega,hgk,fun i hi hgi=>?_⟩
         by_cases e:i=k
         ·subst e;exact⟨Int.le_refl _,fun h=>by omega⟩
         ·have si:=szs i (by omega)
          have:=ratio_step (h i (by omega) hgi).1 hgt (by omega) (by omega) (by omega)
          exact⟨by omega,fun _=>this⟩
        ·rw[if_neg (by rw[decide_eq_true_eq];exact hgt),zg,z1j]
         refine .inr ⟨q,rfl,by omega,hgq,fun i hi hgi=>?_⟩
         by_cases e:i=k
         ·subst e;exact⟨by omega,fun h=>by omega⟩
         ·exact h i (by omega) hgi
      ·rw[if_pos (by rw[bne_iff_ne];exact ht)]
       exact(skip fun h=>by unfold good at h;rw[hdk] at h;exact ht h.2).fl (fun _ h=>h) (fun _ h=>h.elim) (fun _ h=>h.elim)
    ·rcases hb with⟨rfl,h⟩|⟨q,rfl,hqk,hgq,h⟩
     ·rw[if_pos (by decide),zg];exact .none hQ hAl hr.1 hr.2 h
     ·rw[if_neg (by rw[decide_eq_true_eq];omega),zg];exact .some q hQ hAl hr.1 hr.2 hqk hgq h
   ·have:(if decide (room<(0:Int)) then some (Fl.nx (ρ:=Int×Int) (β:=Unit) true) else some (.nx (decide (room>(1000:Int)))))=some (.nx true):=by
     by_cases h:room<0
     ·rw[if_pos (by rw[decide_eq_true_eq];exact h)]
     ·rw[if_neg (by rw[decide_eq_true_eq];exact h),decide_eq_true (by omega)]
    rw[this,z22,zg,z1j,if_pos rfl,zg]
    exact .no 1 (by decide) (by decide) fun h=>hr ⟨h.2.2.1,h.2.2.2⟩
  ·rw[if_pos (by rw[bne_iff_ne];exact h1),zg];exact .no _ h1 hd fun h=>h1 (hA.2 h.2.1)
 ·rw[if_pos (by rw[bne_iff_ne];exact h0),zg];exact .no _ h0 hc fun h=>h0 (hq.2 h.1)
def runL(x0:List Deal)(t:List UInt8)(l:List Acct)(ks:List Int):List Acct:=ks.foldl (fun l k=>(tk l (nth x0 k.toNat) t).1) l
def sizes(x0:List Deal)(ks:List Int):Int:=sumN ks.length fun j=>size x0 (nth ks j).toNat
structure Built(x0:List Deal)(l:List Acct)(t:List UInt8)(room:Int)(ks:List Int)(left:Int)(out:List Acct):Prop where
 len:(ks.length:Int)≤room-left
 idx:∀ j,j<ks.length→0≤nth ks j∧nth ks j<x0.length
 run:out=runL x0 t l ks
 each:∀ j,j<ks.length→z4q (runL x0 t l (ks.take j))∧(tk (runL x0 t l (ks.take j)) (nth x0 (nth ks j).toNat) t).2=0
 lft:left=room-sizes x0 ks
 lo:0≤left
 accts:z3w out
 short:z4q out
 past:∀ j,j<ks.length→∀ i,i<out.length→(nth out i).1=(nth x0 (nth ks j).toNat).1→(nth x0 (nth ks j).toNat).2.2.1<(nth out i).2.2
 nodup:∀ i j,i<j→j<ks.length→nth ks i≠nth ks j
 money:moneyS out=moneyS l
theorem build_ok{x0:List Deal}{l:List Acct}{t:List UInt8}{room:Int}(hs:∀ d∈x0,z4p d)(ha:z4q l) :
  Ok (z6c x0 l t room) (fun p=>(p.2.2≠0∧p.1=[]∧p.2.1=[])∨(p.2.2=0∧z3w l∧0≤room∧room≤1000∧∃ left,Built x0 l t room p.1 left p.2.1∧zcl x0 p.2.1 t left (0,4))):=by
 unfold z6c
 rw[ok_bind]
 refine(next_ok hs ha).mono fun p hp=>?_
 have go:z6m x0→z3w l→0≤room→room≤1000→(p.2=0∨p.2=4)→Ok ((chk ((([]:(List ((List UInt8)×(Int×Int))))).length+(l).length≤68719476736)).bind fun _=>z2f (ρ:=(List Int)×(List ((List UInt8)×(Int×Int)))×Int) (β:=Unit) (σ:=Int×Int×Int×(List ((List UInt8)×(Int×Int)))×(List Int)) (z40 (γ:=Unit) (z5n x0 t) 1048576 (room,p.1,p.2,(([]:(List ((List UInt8)×(Int×Int))))++l),[])) fun(x31,x32,x33,l34,l36)=>some (l36,l34,(0:Int))) (fun p=>(p.2.2≠0∧p.1=[]∧p.2.1=[])∨(p.2.2=0∧z3w l∧0≤room∧room≤1000∧∃ left,Built x0 l t room p.1 left p.2.1∧zcl x0 p.2.1 t left (0,4))):=fun hQ hA r0 r1 hpe=>by
  have h6:=hA.len
  have hnx:=hp
  rw[z3f (by simp only[List.length_nil];omega),Option.bind_some,List.nil_append,z22]
  refine zfh (fun(s:Int×Int×Int×List Acct×List Int)=>Built x0 l t room s.2.2.2.2 s.1 s.2.2.2.1∧zcl x0 s.2.2.2.1 t s.1 (s.2.1,s.2.2.1)∧(s.2.2.1=0∨s.2.2.1=4)) (fun s=>s.1.toNat+1) (fun s hs'=>?_) _ _ ⟨⟨by simp,fun j hj=>by simp at hj,rfl,fun j hj=>by simp at hj,by unfold sizes;simp[sumN],r0,hA,ha,fun j hj=>by simp at hj,fun i j _ hj=>by simp at hj,rfl⟩,hnx,hpe⟩ (by dsimp only;omega)
  obtain⟨left,k,e,out,ks⟩:=s
  obtain⟨hB,hN,he⟩:=hs'
  dsimp only at hB hN he
  unfold z5n
  dsimp only
  by_cases h0:e=0
  ·subst h0
   rw[if_pos (by decide)]
   generalize hp2:(k,(0:Int))=p2 at hN
   cases hN with
   |no e he1 he2=>cases hp2;exact absurd rfl he1
   |none=>cases hp2
   |some k' hQ' hA' l0 l1 hk hg hbest=>
    cases hp2
    have hsd:=hs _ (z7w hk)
    have htk:=tk_ok (t:=t) hB.short hsd
    obtain⟨i,j,q,_,hr,hi,hj,hq,ei,ej,eq,hn,hpay,hm,hA2⟩:=tk_yes hB.short hsd hg.2
    have hsz:=z8j hsd hr
    have hsz1:(nth x0 k').2.2.2.2.2≤left:=hg.1
    have hll:ks.length≤1000:=by have:=hB.len;omega
    rw[idx_nat,z4o hk,Option.bind_some,htk.1,Option.bind_some,Option.bind_some,z3f (by simp only[List.length_cons,List.length_nil];omega),Option.bind_some,z7v (by omega) (by omega),ok_bind]
    have hshort:=hm.short hB.short
    have hmlen:=hm.len
    refine(next_ok hs hshort).mono fun p' hp'=>?_
    rw[zg,z1j]
    have nk:∀ y,nth (ks++[(k':Int)]) y=if y<ks.length then nth ks y else if y=ks.length then(k':Int) else default:=fun y=>by
     rw[z6y]
     by_cases e:y<ks.length
     ·rw[if_pos e,if_pos e]
     ·rw[if_neg e,if_neg e]
      by_cases e2:y=ks.length
      ·rw[if_pos e2,e2,Nat.sub_self];rfl
      ·rw[if_neg e2]
       unfold nth;rw[List.getD_eq_getElem?_getD,List.getElem?_eq_none (by simp;omega)];rfl
    have hrun:runL x0 t l (ks++[(k':Int)])=(tk out (nth x0 k') t).1:=by
     unfold runL
     rw[List.foldl_append]
     show(tk (List.foldl _ l ks) (nth x0 ((k':Int)).toNat) t).1=_
     rw[Int.toNat_natCast,← show out=List.foldl _ l ks from hB.run]
    refine⟨⟨?_,?_,?_⟩,?_⟩
    ·dsimp only
     refine⟨by have:=hB.len;rw[List.length_append,List.length_singleton];omega,fun y hy=>?_,hrun.symm,fun y hy=>?_,?_,by omega,hA2,hshort,fun y hy z hz hzn=>?_,fun a b hab hb=>?_,?_⟩
     ·rw[List.length_append,List.length_singleton] at hy
      rw[nk]
      by_cases e:y<ks.length
      ·rw[if_pos e];exact hB.idx y e
      ·rw[if_neg e,if_pos (by omega)];omega
     ·rw[List.length_append,List.length_singleton] at hy
      rw[nk]
      by_cases e:y<ks.length
      ·rw[if_pos e,List.take_append_of_le_length (by omega)];exact hB.each y e
      ·have:y=ks.length:=by omega
       subst this
       rw[if_neg (by omega),if_pos rfl,List.take_left,Int.toNat_natCast,← hB.run]
       exact⟨hB.short,hg.2⟩
     ·have hleft:=hB.lft
      have:sizes x0 (ks++[(k':Int)])=sizes x0 ks+size x0 k':=by
       unfold sizes
       rw[List.length_append,List.length_singleton]
       simp only[sumN]
       rw[nk,if_neg (by omega),if_pos rfl,Int.toNat_natCast]
       congr 1
       exact zbc fun y hy=>by rw[nk,if_pos hy]
      rw[this];unfold size;omega
     ·rw[List.length_append,List.length_singleton] at hy
      rw[nk] at hzn ⊢
      rw[hmlen] at hz
      have hmz:=hm.at_ z hz
      rw[hmz] at hzn ⊢
      dsimp only at hzn ⊢
      by_cases e:y<ks.length
      ·rw[if_pos e] at hzn ⊢
       have:=hB.past y e z hz hzn
       split<;>omega
      ·rw[if_neg e,if_pos (by omega),Int.toNat_natCast] at hzn ⊢
       have:z=i:=hB.accts.inj hz hi (hzn.trans ei.symm)
       subst this
       rw[if_pos rfl,hn];omega
     ·rw[List.length_append,List.length_singleton] at hb
      rw[nk,nk,if_pos (show a<ks.length by omega)]
      by_cases e:b<ks.length
      ·rw[if_pos e];exact hB.nodup a b hab e
      ·rw[if_neg e,if_pos (by omega)]
       intro h
       have:=hB.past a (by omega) i hi (by rw[h,Int.toNat_natCast];exact ei)
       rw[h,Int.toNat_natCast] at this
       omega
     ·rw[hm.money hi hj hq,hB.money]
    ·dsimp only;exact hp'
    ·dsimp only
     cases hp' with
     |no e he1 he2 hno=>exact absurd ⟨hQ,hA2,by omega,by omega⟩ hno
     |none=>exact .inr rfl
     |some=>exact .inl rfl
    ·dsimp only;omega
  ·have h4:e=4:=by omega
   subst h4
   rw[if_neg (by decide),zg,flok_br]
   dsimp only
   rw[zg]
   refine .inr ⟨rfl,hA,r0,r1,left,hB,?_⟩
   generalize hp2:(k,(4:Int))=p2 at hN
   cases hN with
   |no e he1 he2=>cases hp2;exact absurd rfl he2
   |none a b c d f=>cases hp2;exact .none a b c d f
   |some=>cases hp2
 cases hp with
 |no e he1 he2 hno=>
  rw[z22]
  dsimp only
  rw[if_pos (by rw[bne_iff_ne];exact he1),zg,z1j,if_pos (by rw[bne_iff_ne];exact he2),zg]
  exact .inl ⟨he1,rfl,rfl⟩
 |none hQ hA r0 r1 hn=>
  rw[z22]
  dsimp only
  rw[if_pos (by decide),zg,z1j,if_neg (by decide)]
  exact go hQ hA r0 r1 (.inr rfl)
 |some k hQ hA r0 r1 hk hg hb=>
  rw[z22]
  dsimp only
  rw[if_neg (by decide),zg,z1j,if_neg (by decide)]
  exact go hQ hA r0 r1 (.inl rfl)
section
variable {α:Type}{ρ:Type}
structure Weak(lt:α→α→Bool):Prop where
 asymm:∀ a b,lt a b=true→lt b a=false
 ntrans:∀ a b c,lt a b=false→lt b c=false→lt a c=false
structure zeb(lt:α→α→Bool)(l m:List α):Prop where
 perm:m.Perm l
 asc:m.Pairwise fun a b=>lt b a=false
 stable:∀ q:α→Bool,(∀ a b,q a=true→q b=true→lt a b=false)→m.filter q=l.filter q
theorem last_of{A:List α}(h:0<A.length):∃ A' y,A=A'++[y]:=by
 refine⟨A.dropLast,A.getLast (List.ne_nil_of_length_pos h),(List.dropLast_concat_getLast _).symm⟩
theorem ins_in{M:α→Prop}{lt:α→α→Bool}(hw:Weak lt){b2:List α×Int→Option (Fl ρ (List α×Int) (List α×Int))}{n:Nat}
  (h2:∀ (A:List α) (y e:α) (r:List α),(A++y::e::r).length=n→(∀ x∈A++y::e::r,M x)→b2 (A++y::e::r,((A.length+1:Nat):Int))=if lt e y=true then some (.nx (A++e::y::r,(A.length:Int))) else some (.br (A++y::e::r,((A.length+1:Nat):Int))))
  (h20:∀ (e:α) (r:List α),(e::r).length=n→b2 (e::r,0)=some (.br (e::r,0)))(hn:n≤1000)
  (A C D:List α)(e:α)(hl:(A++e::(C++D)).length=n)(hM:∀ x∈A++e::(C++D),M x)(hs:(A++C).Pairwise fun a b=>lt b a=false)(hC:∀ c∈C,lt e c=true)(f:Nat)(hf:A.length<f) :
  ∃ A' C',z40 (γ:=List α×Int) b2 f (A++e::(C++D),(A.length:Int))=some (.nx (A'++e::(C'++D),(A'.length:Int)))∧A'++C'=A++C∧(∀ c∈C',lt e c=true)∧∀ a∈A',lt e a=false:=by
 induction f generalizing A C with
 |zero=>omega
 |succ f ih=>
  unfold z40
  by_cases h0:A.length=0
  ·have hA:A=[]:=List.eq_nil_of_length_eq_zero h0
   subst hA
   have:=h20 e (C++D) hl
   refine⟨[],C,?_,rfl,hC,fun a ha=>by cases ha⟩
   rw[show((([]:List α).length:Nat):Int)=0 from rfl,List.nil_append,this]
  ·obtain⟨A',y,rfl⟩:=last_of (A:=A) (by omega)
   have e1:A'++[y]++e::(C++D)=A'++y::e::(C++D):=by simp
   have e2:(A'++[y]).length=A'.length+1:=by simp
   rw[e1] at hl hM ⊢
   rw[e2] at hf ⊢
   rw[h2 A' y e (C++D) hl hM]
   by_cases hlt:lt e y=true
   ·rw[if_pos hlt]
    have e3:A'++e::y::(C++D)=A'++e::((y::C)++D):=by simp
    have e4:A'++(y::C)=A'++[y]++C:=by simp
    have hl':(A'++e::((y::C)++D)).length=n:=by rw[← hl];simp
    have hM':∀ x∈A'++e::((y::C)++D),M x:=fun x hx=>hM x (by simp at hx ⊢;rcases hx with h|h|h|h|h<;>simp[h])
    obtain⟨A2,C2,q1,q2,q3,q4⟩:=ih A' (y::C) hl' hM' (by rw[e4];exact hs) (fun c hc=>by
     rcases List.mem_cons.1 hc with rfl|hc
     ·exact hlt
     ·exact hC c hc) (by omega)
    exact⟨A2,C2,by rw[e3];exact q1,by rw[q2,e4],q3,q4⟩
   ·rw[if_neg hlt]
    have hlt':lt e y=false:=by simpa using hlt
    refine⟨A'++[y],C,by rw[e1,e2],rfl,hC,fun a ha=>?_⟩
    rcases List.mem_append.1 ha with ha|ha
    ·rw[List.append_assoc,List.pairwise_append] at hs
     exact hw.ntrans e y a hlt' (hs.2.2 a ha y (by simp))
    ·rw[List.mem_singleton] at ha;subst ha;exact hlt'
theorem sorted_put{lt:α→α→Bool}(hw:Weak lt){A C:List α}{e:α}(hs:(A++C).Pairwise fun a b=>lt b a=false)(hC:∀ c∈C,lt e c=true)(hA:∀ a∈A,lt e a=false):(A++e::C).Pairwise fun a b=>lt b a=false:=by
 rw[List.pairwise_append] at hs ⊢
 refine⟨hs.1,List.pairwise_cons.2 ⟨fun c hc=>hw.asymm _ _ (hC c hc),hs.2.1⟩,fun a ha b hb=>?_⟩
 rcases List.mem_cons.1 hb with rfl|hb
 ·exact hA a ha
 ·exact hs.2.2 a ha b hb
theorem filter_put{lt:α→α→Bool}{A C:List α}{e:α}(hC:∀ c∈C,lt e c=true){q:α→Bool}(hq:∀ a b,q a=true→q b=true→lt a b=false):(A++e::C).filter q=(A++C).filter q++[e].filter q:=by
 rw[List.filter_append,List.filter_append,List.filter_cons]
 by_cases he:q e=true
 ·have:C.filter q=[]:=List.filter_eq_nil_iff.2 fun c hc hqc=>by have:=hq e c he hqc;rw[hC c hc] at this;cases this
  rw[if_pos he,this];simp[he]
 ·rw[if_neg he];simp[he]
theorem ins_all{γ:Type}{M:α→Prop}{lt:α→α→Bool}(hw:Weak lt){b1 b2:List α×Int→Option (Fl ρ (List α×Int) (List α×Int))}{n:Nat}
  (h2:∀ (A:List α) (y e:α) (r:List α),(A++y::e::r).length=n→(∀ x∈A++y::e::r,M x)→b2 (A++y::e::r,((A.length+1:Nat):Int))=if lt e y=true then some (.nx (A++e::y::r,(A.length:Int))) else some (.br (A++y::e::r,((A.length+1:Nat):Int))))
  (h20:∀ (e:α) (r:List α),(e::r).length=n→b2 (e::r,0)=some (.br (e::r,0)))
  (h1:∀ (l:List α) (k:Nat),k<n→b1 (l,(k:Int))=z5e (z40 (γ:=List α×Int) b2 1048576 (l,(k:Int))) fun s=>some (.nx (s.1,((k+1:Nat):Int))))
  (h1e:∀ l:List α,b1 (l,(n:Int))=some (.br (l,(n:Int))))(hn:n≤1000) :
  ∀ (d k:Nat) (l0 p:List α) (f:Nat),k+d=n→l0.length=n→(∀ x∈l0,M x)→zeb lt (l0.take k) p→d<f→∃ m,z40 (γ:=γ) b1 f (p++l0.drop k,(k:Int))=some (.nx (m,(n:Int)))∧zeb lt l0 m
 |0,k,l0,p,f,hk,hl,hM,hS,hf=>by
  obtain⟨f,rfl⟩:∃ g,f=g+1:=⟨f-1,by omega⟩
  have:k=n:=by omega
  subst this
  have e1:l0.take k=l0:=List.take_of_length_le (by omega)
  have e2:l0.drop k=[]:=List.drop_of_length_le (by omega)
  rw[e1] at hS
  rw[e2,List.append_nil]
  refine⟨p,?_,hS⟩
  unfold z40
  rw[h1e p]
 |d+1,k,l0,p,f,hk,hl,hM,hS,hf=>by
  obtain⟨f,rfl⟩:∃ g,f=g+1:=⟨f-1,by omega⟩
  have hkl:k<l0.length:=by omega
  have hpl:p.length=k:=by rw[hS.perm.length_eq,List.length_take];omega
  have hdr:l0.drop k=l0[k]::l0.drop (k+1):=List.drop_eq_getElem_cons hkl
  have htk:l0.take (k+1)=l0.take k++[l0[k]]:=by rw[List.take_succ,List.getElem?_eq_getElem hkl];rfl
  unfold z40
  rw[h1 _ k (by omega),hdr]
  have hlen:(p++l0[k]::([]++l0.drop (k+1))).length=n:=by simp[hpl];omega
  have hM1:∀ x∈p++l0[k]::([]++l0.drop (k+1)),M x:=fun x hx=>by
   rcases List.mem_append.1 hx with hx|hx
   ·exact hM x (List.mem_of_mem_take (hS.perm.mem_iff.1 hx))
   ·rw[List.nil_append,← hdr] at hx;exact hM x (List.mem_of_mem_drop hx)
  obtain⟨A,C,q1,q2,q3,q4⟩:=ins_in hw h2 h20 hn p [] (l0.drop (k+1)) l0[k] hlen hM1 (by rw[List.append_nil];exact hS.asc) (fun c hc=>by cases hc) 1048576 (by omega)
  rw[List.append_nil] at q2
  rw[List.nil_append,hpl] at q1
  rw[q1]
  simp only[z5e]
  have hS':zeb lt (l0.take (k+1)) (A++l0[k]::C):=by
   refine⟨?_,sorted_put hw (by rw[q2];exact hS.asc) q3 q4,fun q hq=>?_⟩
   ·rw[htk]
    have hp:(A++C).Perm (l0.take k):=by rw[q2];exact hS.perm
    refine(List.perm_middle).trans ?_
    refine(List.Perm.cons _ hp).trans ?_
    exact(List.perm_append_singleton _ _).symm
   ·rw[filter_put q3 hq,q2,hS.stable q hq,htk,List.filter_append]
  obtain⟨m,e,hm⟩:=ins_all hw h2 h20 h1 h1e hn d (k+1) l0 (A++l0[k]::C) f (by omega) hl hM hS' (by omega)
  refine⟨m,?_,hm⟩
  rw[show A++l0[k]::(C++l0.drop (k+1))=A++l0[k]::C++l0.drop (k+1) by simp]
  exact e
theorem idx_snd{A r:List α}{y e:α}:idx (A++y::e::r) ((A.length+1:Nat):Int)=some e:=by
 unfold idx;rw[if_pos (by omega),Int.toNat_natCast,List.getElem?_append_right (by omega),show A.length+1-A.length=1 by omega];rfl
theorem idx_fst{A r:List α}{y:α}:idx (A++y::r) (A.length:Int)=some y:=by
 unfold idx;rw[if_pos (by omega),Int.toNat_natCast,List.getElem?_append_right (by omega),Nat.sub_self];rfl
theorem set_snd{A r:List α}{y e z:α}:(A++y::e::r).set (A.length+1) z=A++y::z::r:=by
 rw[List.set_append_right _ _ (by omega),show A.length+1-A.length=1 by omega];rfl
theorem set_fst{A r:List α}{y z:α}:(A++y::r).set A.length z=A++z::r:=by
 rw[List.set_append_right _ _ (by omega),Nat.sub_self];rfl
theorem sorted_first{lt:α→α→Bool}{l:List α}(h:1≤l.length):zeb lt (l.take 1) (l.take 1)∧(l.take 1).length=1:=by
 cases l with
 |nil=>simp at h
 |cons a l=>exact⟨⟨List.Perm.refl _,by simp,fun q _=>rfl⟩,rfl⟩
end
theorem len_ok:∀ n:Nat,n≤12→∃ k,z4j (IntKind.wrap .u64 (n:Int))=some k:=by
 have h:∀ n:Nat,n≤12→(z4j (IntKind.wrap .u64 (n:Int))).isSome=true:=by decide +kernel
 intro n hn
 exact Option.isSome_iff_exists.1 (h n hn)
theorem zfm{l:List (List UInt8×Int×Int)}{g:List UInt8×Int×Int→List UInt8×Int×Int→Option Int}{lt:List UInt8×Int×Int→List UInt8×Int×Int→Bool}(hw:Weak lt)(hg:∀ a b,∃ c,g a b=some c∧decide (c<0)=lt a b)(hl:l.length≤12):∃ m,z19 l g=some m∧zeb lt l m:=by
 obtain⟨k,ek⟩:=len_ok l.length hl
 have ins:∃ m,z18 l 0 (l.length:Int) g=some m∧zeb lt l m:=by
  unfold z18
  rw[z2l (by omega) (by omega),show(0:Int)+1=((1:Nat):Int) by omega]
  by_cases h1:1≤l.length
  ·obtain⟨s1,_⟩:=sorted_first (lt:=lt) h1
   obtain⟨m,e,hm⟩:=ins_all (ρ:=List (List UInt8×Int×Int)) (γ:=Unit) (M:=fun _=>True) hw (b1:=zk (l.length:Int) 0 g) (b2:=zn 0 g) (n:=l.length)
    (fun A y e r _ _=>by
     obtain⟨c,ec,hc⟩:=hg e y
     unfold zn
     dsimp only
     rw[if_pos (by rw[decide_eq_true_eq];omega),idx_snd,Option.bind_some,z7v (by omega) (by simp at *;omega),show((A.length+1:Nat):Int)-1=(A.length:Int) by omega,idx_fst,Option.bind_some,ec,Option.bind_some,hc]
     by_cases hlt:lt e y=true
     ·simp only[z5e]
      rw[if_pos hlt,if_pos hlt,Option.bind_some,Option.bind_some,Option.bind_some,Int.toNat_natCast,Int.toNat_natCast,set_snd,idx_fst,Option.bind_some,set_fst]
     ·simp only[z5e]
      rw[if_neg hlt,if_neg hlt])
    (fun e r _=>by unfold zn;rfl)
    (fun l' k hk=>by
     unfold zk
     dsimp only
     rw[if_pos (by rw[decide_eq_true_eq];omega),z2l (by omega) (by omega),show(k:Int)+1=((k+1:Nat):Int) by omega])
    (fun l'=>by unfold zk;dsimp only;rw[if_neg (by rw[decide_eq_true_eq];omega)]) (by omega) (l.length-1) 1 l (l.take 1) 1048576 (by omega) rfl (fun _ _=>trivial) s1 (by omega)
   rw[List.take_append_drop] at e
   rw[e]
   exact⟨m,rfl,hm⟩
  ·have:l=[]:=List.eq_nil_of_length_eq_zero (by omega)
   subst this
   refine⟨[],?_,⟨List.Perm.refl _,List.Pairwise.nil,fun q _=>rfl⟩⟩
   unfold z40 zk
   dsimp only
   rw[if_neg (by decide)];rfl
 obtain⟨m,e,hm⟩:=ins
 refine⟨m,?_,hm⟩
 unfold z19 z1r
 rw[ek,Option.bind_some]
 unfold z40 z1q
 dsimp only
 rw[z7v (by omega) (by omega),if_pos (by rw[decide_eq_true_eq];omega),e]
 rfl
theorem acctWeak:Weak (fun a b:Acct=>bls a.1 b.1):=by
 refine⟨fun a b h=>?_,fun a b c h1 h2=>?_⟩
 ·cases e:bls b.1 a.1 with
  |false=>rfl
  |true=>have:=z9c _ _ _ h e;rw[z8f] at this;cases this
 ·cases e:bls a.1 c.1 with
  |false=>rfl
  |true=>
   rcases zay a.1 b.1 with h|h|h
   ·rw[h1] at h;cases h
   ·rw[h,h2] at e;cases e
   ·have:=z9c _ _ _ h e
    rw[h2] at this;cases this
inductive Opened(l:List Acct)(s:List UInt8)(n:Int):List Acct×Int→Prop
 |no (e:Int):e≠0→Opened l s n ([],e)
 |yes (m:List Acct):z3w l→0≤n→n≤1000000→m.Perm (l++[(s,n,0)])→z3w m→Opened l s n (m,0)
theorem open_ok{l:List Acct}{s:List UInt8}{n:Int}(hs:z4q l)(hsh:za0 s):Ok (z2r l s n) (Opened l s n):=by
 obtain⟨e,he,hq⟩:=z9b hs
 unfold z2r
 rw[he,Option.bind_some]
 by_cases h0:e=0
 ·have hA:=hq.1 h0
  have h6:=hA.len
  rw[if_neg (by rw[bne_iff_ne];exact fun h=>h h0),z6q hsh,Option.bind_some]
  by_cases hn:nm s=true
  ·rw[if_neg (by simp[hn]),z22]
   by_cases hr:0≤n∧n≤1000000
   ·rw[if_neg (by rw[decide_eq_true_eq];omega),zg,z1j,if_neg (by rw[decide_eq_true_eq];omega)]
    rcases z8r hA s with⟨i,hi,ei,f⟩|⟨hno,f⟩
    ·rw[f,Option.bind_some,if_pos (by rw[decide_eq_true_eq];omega),zg];exact .no 7 (by decide)
    ·rw[f,Option.bind_some,if_neg (by decide)]
     by_cases h66:l.length=6
     ·rw[if_pos (by rw[beq_iff_eq];omega),zg];exact .no 8 (by decide)
     ·rw[if_neg (by rw[beq_iff_eq];omega),cloneA l (by omega),Option.bind_some,z3f (by simp only[List.length_cons,List.length_nil];omega),Option.bind_some]
      obtain⟨m,em,hm⟩:=zfm (l:=l++[(s,n,0)]) (g:=fun a0 a1=>z3m a0 a1) acctWeak (fun a b=>by
       unfold z3m
       by_cases h:bls a.1 b.1=true
       ·exact⟨-1,by rw[if_pos h],by rw[h];rfl⟩
       ·exact⟨1,by rw[if_neg h],by rw[show bls a.1 b.1=false by simpa using h];rfl⟩) (by simp;omega)
      rw[em,Option.bind_some,zg]
      refine .yes m hA hr.1 hr.2 hm.perm ⟨by rw[hm.perm.length_eq];simp;omega,fun a ha=>?_,fun k hk=>?_,fun a ha=>?_⟩
      ·rcases List.mem_append.1 (hm.perm.mem_iff.1 ha) with h|h
       ·exact hA.name a h
       ·rw[List.mem_singleton] at h;subst h;exact hn
      ·have hp:=(List.pairwise_iff_getElem.1 hm.asc) k (k+1) (by omega) hk (by omega)
       rw[← z41 hk,← z41 (by omega:k<m.length)] at hp
       rcases zay (nth m k).1 (nth m (k+1)).1 with h|h|h
       ·exact h
       ·exfalso
        have hnd:(l++[(s,n,0)]).Pairwise (fun a b:Acct=>a.1≠b.1):=by
         rw[List.pairwise_append]
         refine⟨?_,by simp,fun a ha b hb=>?_⟩
         ·rw[List.pairwise_iff_getElem]
          intro i j hi hj hij
          rw[← z41 hi,← z41 hj];exact hA.ne hij hj
         ·rw[List.mem_singleton] at hb;subst hb
          obtain⟨i,hi,rfl⟩:=z8h ha
          exact hno i hi
        have hnd2:=(hm.perm.pairwise_iff (fun {a b} (h:a.1≠b.1)=>h.symm)).2 hnd
        have:=(List.pairwise_iff_getElem.1 hnd2) k (k+1) (by omega) hk (by omega)
        rw[← z41 hk,← z41 (by omega:k<m.length)] at this
        exact this h
       ·rw[hp] at h;cases h
      ·rcases List.mem_append.1 (hm.perm.mem_iff.1 ha) with h|h
       ·exact hA.val a h
       ·rw[List.mem_singleton] at h;subst h;exact⟨hr,Int.le_refl _,by dsimp only;omega⟩
   ·have:(if decide (n<(0:Int)) then some (Fl.nx (ρ:=List Acct×Int) (β:=Unit) true) else some (.nx (decide (n>(1000000:Int)))))=some (.nx true):=by
     by_cases h:n<0
     ·rw[if_pos (by rw[decide_eq_true_eq];exact h)]
     ·rw[if_neg (by rw[decide_eq_true_eq];exact h),decide_eq_true (by omega)]
    rw[this,zg,z1j,if_pos rfl,zg];exact .no 1 (by decide)
  ·rw[if_pos (by simpa using hn),zg];exact .no 3 (by decide)
 ·rw[if_pos (by rw[bne_iff_ne];exact h0),zg];exact .no _ h0
end Go.Pu
