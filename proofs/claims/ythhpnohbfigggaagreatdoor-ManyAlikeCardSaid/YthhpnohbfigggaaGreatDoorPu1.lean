/- What is offered: what the queue's functions answer. -/
import Derived.Test.YthhpnohbfigggaaGreatDoorMwModels
import Derived.Test.YthhpnohbfigggaaGreatDoorPuKW
set_option linter.all false
namespace Go.Pu
open Go.Fw Go.Mo
abbrev Deal:=List UInt8×List UInt8×Int×Int×Int×Int
abbrev Acct:=List UInt8×Int×Int
def za0(s:List UInt8):Prop:=s.length≤9223372036854775807
def z4p(d:Deal):Prop:=za0 d.1∧za0 d.2.1
def nm(s:List UInt8):Bool:=(z26 s).getD false
theorem z6q{s:List UInt8}(h:za0 s):z26 s=some (nm s):=by
 have:Ok (z26 s) (fun _=>True):=by
  unfold z26
  rw[z3f (show s.length≤9223372036854775807 from h),Option.bind_some,z22]
  refine z3i (fun _ _=>True) trivial (fun i x t hi _=>?_) fun t _=>?_
  ·unfold z4k
   simp only[z5h,z96,zg,z1j,z6i]
   simp
  ·simp only[z22,z96,zg,z1j,z6i]
   simp
 obtain⟨b,e,_⟩:=this
 unfold nm;rw[e];rfl
def rt(d:Deal):Int:=(z29 d).getD 0
theorem right_all{d:Deal}(h:z4p d):Ok (z29 d) (fun e=>e=0→(0≤d.2.2.1∧d.2.2.1≤1000000)∧(0≤d.2.2.2.1∧d.2.2.2.1≤1000000)∧(0≤d.2.2.2.2.1∧d.2.2.2.2.1≤1000000)∧(1≤d.2.2.2.2.2∧d.2.2.2.2.2≤100)∧nm d.1=true∧nm d.2.1=true∧d.1≠d.2.1):=by
 unfold z29
 rw[z6q h.1,z6q h.2]
 simp only[Option.bind_some,z22,z96,zg,z1j,decide_eq_true_eq,Bool.not_eq_true',beq_iff_eq]
 grind
theorem z9k{d:Deal}(h:z4p d):z29 d=some (rt d):=by
 obtain⟨e,he,_⟩:=right_all h
 unfold rt;rw[he];rfl
theorem z8j{d:Deal}(h:z4p d)(h0:rt d=0):(0≤d.2.2.1∧d.2.2.1≤1000000)∧(0≤d.2.2.2.1∧d.2.2.2.1≤1000000)∧(0≤d.2.2.2.2.1∧d.2.2.2.2.1≤1000000)∧(1≤d.2.2.2.2.2∧d.2.2.2.2.2≤100)∧nm d.1=true∧nm d.2.1=true∧d.1≠d.2.1:=by
 obtain⟨e,he,hf⟩:=right_all h
 have:rt d=e:=by unfold rt;rw[he];rfl
 exact hf (by omega)
def key(d:Deal):List UInt8×Int:=(d.1,d.2.2.1)
theorem zcb(l:List Deal)(s:List UInt8)(n:Int):z4f l s n=some (if l.any (fun d=>key d==(s,n)) then(l.findIdx (fun d=>key d==(s,n)):Int) else -1):=by
 unfold z4f zp
 rw[z9e (γ:=Unit) (fun d=>key d==(s,n)) l (fun i x _=>by
  unfold z1e z4v
  have:(key x==(s,n))=(x.1==s&&x.2.2.1==n):=rfl
  rw[this]
  dsimp only
  by_cases h1:(x.1==s)=true
  ·rw[if_pos h1,h1,Bool.true_and];rfl
  ·rw[if_neg h1]
   have h1':(x.1==s)=false:=by simpa using h1
   rw[h1'];rfl)]
 by_cases h:l.any (fun d=>key d==(s,n))=true
 ·rw[if_pos h,if_pos h];simp[z2f]
 ·rw[if_neg h,if_neg h];rfl
structure z6m(l:List Deal):Prop where
 len:l.length≤20
 right:∀ d∈l,rt d=0
 once:∀ i j,i<j→j<l.length→key (nth l i)≠key (nth l j)
theorem zba{l:List Deal}{k:List UInt8×Int}:l.any (fun d=>key d==k)=true↔∃ i,i<l.length∧key (nth l i)=k:=by
 rw[List.any_eq_true]
 constructor
 ·rintro⟨d,hd,e⟩
  obtain⟨i,hi,rfl⟩:=z8h hd
  exact⟨i,hi,by simpa using e⟩
 ·rintro⟨i,hi,e⟩
  exact⟨nth l i,z7w hi,by simpa using e⟩
theorem zaw{l:List Deal}(hs:∀ d∈l,z4p d):∃ e,z2d l=some e∧(e=0↔z6m l):=by
 have:Ok (z2d l) (fun e=>e=0↔z6m l):=by
  unfold z2d
  by_cases h20:(l.length:Int)>20
  ·rw[if_pos (by rw[decide_eq_true_eq];exact h20),zg]
   exact⟨fun h=>by (cases h),fun h=>by have:=h.len;omega⟩
  ·rw[if_neg (by rw[decide_eq_true_eq];exact h20),z22]
   refine z3i (fun k _=>(∀ i,i<k→rt (nth l i)=0)∧∀ i j,i<j→j<k→key (nth l i)≠key (nth l j)) ⟨fun i hi=>by omega,fun i j _ hj=>by omega⟩ (fun k d t hk hI=>?_) fun t ht=>?_
   ·obtain⟨hd,hkl⟩:=zcj hk
    have hsd:=hs d (List.mem_of_getElem? hk)
    unfold z4w
    rw[z9k hsd,Option.bind_some]
    by_cases hr:rt d=0
    ·rw[if_neg (by rw[bne_iff_ne];exact fun h=>h hr),z3f (by omega),Option.bind_some,zcb,Option.bind_some,Int.toNat_natCast,List.drop_zero]
     by_cases ha:(l.take k).any (fun x=>key x==(d.1,d.2.2.1))=true
     ·rw[if_pos ha,if_pos (by rw[decide_eq_true_eq];omega),zg,z6i]
      obtain⟨i,hi,e⟩:=zba.1 ha
      rw[List.length_take] at hi
      rw[zaq (by omega)] at e
      exact⟨fun h=>by (cases h),fun h=>absurd (e.trans (show(d.1,d.2.2.1)=key (nth l k) by rw[hd];rfl)) (h.once i k (by omega) hkl)⟩
     ·rw[if_neg ha,if_neg (by decide),zg,z1j]
      refine⟨fun i hi=>?_,fun i j hij hj=>?_⟩
      ·by_cases e:i=k
       ·subst e;rw[hd];exact hr
       ·exact hI.1 i (by omega)
      ·by_cases e:j=k
       ·subst e
        intro h
        refine ha (zba.2 ⟨i,by rw[List.length_take];omega,?_⟩)
        rw[zaq hij,h,hd];rfl
       ·exact hI.2 i j hij (by omega)
    ·rw[if_pos (by rw[bne_iff_ne];exact hr),zg,z6i]
     exact⟨fun h=>absurd h hr,fun h=>absurd (h.right d (List.mem_of_getElem? hk)) hr⟩
   ·rw[zg]
    refine⟨fun _=>⟨by omega,fun d hd=>?_,ht.2⟩,fun _=>rfl⟩
    obtain⟨i,hi,rfl⟩:=z8h hd
    exact ht.1 i hi
 exact this
theorem z6m.idx{l:List Deal}(h:z6m l){i:Nat}(hi:i<l.length):l.any (fun d=>key d==key (nth l i))=true∧l.findIdx (fun d=>key d==key (nth l i))=i:=by
 have ha:l.any (fun d=>key d==key (nth l i))=true:=zba.2 ⟨i,hi,rfl⟩
 refine⟨ha,?_⟩
 have hlt:l.findIdx (fun d=>key d==key (nth l i))<l.length:=List.findIdx_lt_length.2 (by rw[List.any_eq_true] at ha;exact ha)
 have hk:=List.findIdx_getElem (w:=hlt)
 rw[← z41 hlt,beq_iff_eq] at hk
 by_cases e:l.findIdx (fun d=>key d==key (nth l i))=i
 ·exact e
 ·rcases Nat.lt_or_gt_of_ne e with h1|h1
  ·exact absurd hk (h.once _ _ h1 hi)
  ·exact absurd hk.symm (h.once _ _ h1 hlt)
inductive Added(l:List Deal)(d:Deal):List Deal×Int→Prop
 |no (e:Int):e≠0→Added l d ([],e)
 |at (i:Nat):z6m l→rt d=0→i<l.length→key (nth l i)=key d→(nth l i).2.2.2.2.1<d.2.2.2.2.1→Added l d (l.set i d,0)
 |end_:z6m l→rt d=0→(∀ i,i<l.length→key (nth l i)≠key d)→l.length<20→Added l d (l++[d],0)
theorem cloneQ(l:List Deal)(h:l.length≤1000):zq l=some l:=by unfold zq;rw[z3f (by omega)];rfl
theorem add_ok{l:List Deal}{d:Deal}(hs:∀ d∈l,z4p d)(hd:z4p d):Ok (z7i l d) (Added l d):=by
 obtain⟨e,he,hq⟩:=zaw hs
 unfold z7i
 rw[he,Option.bind_some]
 by_cases h0:e=0
 ·have hQ:=hq.1 h0
  have hlen:=hQ.len
  rw[if_neg (by rw[bne_iff_ne];exact fun h=>h h0),z9k hd,Option.bind_some]
  by_cases hr:rt d=0
  ·rw[if_neg (by rw[bne_iff_ne];exact fun h=>h hr),zcb,Option.bind_some]
   by_cases ha:l.any (fun x=>key x==(d.1,d.2.2.1))=true
   ·obtain⟨i,hi,ei⟩:=zba.1 ha
    have hx:=(hQ.idx hi).2
    rw[ei] at hx
    rw[if_pos ha,if_pos (by rw[decide_eq_true_eq];omega),hx,idx_nat,z4o hi,Option.bind_some]
    by_cases hf:d.2.2.2.2.1≤(nth l i).2.2.2.2.1
    ·rw[if_pos (by rw[decide_eq_true_eq];exact hf),zg];exact .no 7 (by decide)
    ·rw[if_neg (by rw[decide_eq_true_eq];exact hf),cloneQ l (by omega),Option.bind_some,idx_nat,z4o hi,Option.bind_some,zg,Int.toNat_natCast]
     exact .at i hQ hr hi ei (by omega)
   ·rw[if_neg ha,if_neg (by decide)]
    by_cases h20:l.length=20
    ·rw[if_pos (by rw[beq_iff_eq];omega),zg];exact .no 8 (by decide)
    ·rw[if_neg (by rw[beq_iff_eq];omega),cloneQ l (by omega),Option.bind_some,z3f (by simp only[List.length_cons,List.length_nil];omega),Option.bind_some,zg]
     exact .end_ hQ hr (fun i hi e=>ha (zba.2 ⟨i,hi,e⟩)) (by omega)
  ·rw[if_pos (by rw[bne_iff_ne];exact hr),zg];exact .no _ hr
 ·rw[if_pos (by rw[bne_iff_ne];exact h0),zg];exact .no _ h0
theorem z6m.set{l:List Deal}(h:z6m l){i:Nat}{d:Deal}(hi:i<l.length)(hr:rt d=0)(hk:key (nth l i)=key d):z6m (l.set i d):=by
 have kk:∀ j,key (nth (l.set i d) j)=key (nth l j):=fun j=>by
  rw[zb7 hi]
  split
  ·rename_i e;subst e;exact hk.symm
  ·rfl
 refine⟨by rw[List.length_set];exact h.len,fun x hx=>?_,fun a b hab hb=>by rw[kk,kk];exact h.once a b hab (by rw[List.length_set] at hb;exact hb)⟩
 rcases List.mem_or_eq_of_mem_set hx with hx|hx
 ·exact h.right x hx
 ·subst hx;exact hr
theorem z6m.snoc{l:List Deal}(h:z6m l){d:Deal}(hr:rt d=0)(hk:∀ i,i<l.length→key (nth l i)≠key d)(hl:l.length<20):z6m (l++[d]):=by
 refine⟨by simp;omega,fun x hx=>?_,fun a b hab hb=>?_⟩
 ·rcases List.mem_append.1 hx with hx|hx
  ·exact h.right x hx
  ·rw[List.mem_singleton] at hx;subst hx;exact hr
 ·rw[List.length_append,List.length_singleton] at hb
  rw[z6y,z6y,if_pos (by omega)]
  by_cases e:b<l.length
  ·rw[if_pos e];exact h.once a b hab e
  ·rw[if_neg e,show b-l.length=0 by omega];exact hk a (by omega)
theorem Added.queue{l:List Deal}{d:Deal}{p:List Deal×Int}(h:Added l d p)(h0:p.2=0):z6m p.1:=by
 cases h with
 |no e he=>exact absurd h0 he
 | «at» i hQ hr hi hk hf=>exact hQ.set hi hr hk
 |end_ hQ hr hk hl=>exact hQ.snoc hr hk hl
def past(accts:List Acct)(d:Deal):Bool:=accts.any fun a=>a.1==d.1&&decide (d.2.2.1<a.2.2)
theorem indexA(l:List Acct)(g:Acct→Option Bool)(q:Acct→Bool)(h:∀ a,g a=some (q a)):zl l g=some (if l.any q then(l.findIdx q:Int) else -1):=by
 unfold zl
 rw[z9e (γ:=Unit) q l (fun i x _=>by unfold z1h;rw[h];rfl)]
 by_cases ha:l.any q=true
 ·rw[if_pos ha,if_pos ha];simp[z2f]
 ·rw[if_neg ha,if_neg ha];rfl
theorem containsA(l:List Acct)(g:Acct→Option Bool)(q:Acct→Bool)(h:∀ a,g a=some (q a)):zx l g=some (l.any q):=by
 unfold zx
 rw[indexA l g q h,Option.bind_some]
 by_cases ha:l.any q=true
 ·rw[if_pos ha,ha];simp
 ·have:l.any q=false:=by simpa using ha
  rw[if_neg ha,this];rfl
theorem clean1_ok(accts:List Acct)(d:Deal):z3k d accts=some (past accts d):=by
 unfold z3k
 rw[containsA accts _ (fun a=>a.1==d.1&&decide (d.2.2.1<a.2.2)) (fun a=>by
  unfold z3o
  by_cases h:(a.1==d.1)=true
  ·rw[if_pos h,h];rfl
  ·have h':(a.1==d.1)=false:=by simpa using h
   rw[if_neg h,h'];rfl)]
 rfl
theorem indexD(l:List Deal)(g:Deal→Option Bool)(q:Deal→Bool)(h:∀ a,g a=some (q a)):zp l g=some (if l.any q then(l.findIdx q:Int) else -1):=by
 unfold zp
 rw[z9e (γ:=Unit) q l (fun i x _=>by unfold z1e;rw[h];rfl)]
 by_cases ha:l.any q=true
 ·rw[if_pos ha,if_pos ha];simp[z2f]
 ·rw[if_neg ha,if_neg ha];rfl
theorem zfr(l:List Deal)(g:Deal→Option Bool)(q:Deal→Bool)(h:∀ a,g a=some (q a))(hl:l.length≤1000):z1f l g=some (l.filter fun d => !q d):=by
 unfold z1f
 rw[indexD l g q h,Option.bind_some]
 by_cases ha:l.any q=true
 ·rw[if_pos ha,if_neg (by rw[beq_iff_eq];omega)]
  have hlt:l.findIdx q<l.length:=List.findIdx_lt_length.2 (by rw[List.any_eq_true] at ha;exact ha)
  generalize hi:l.findIdx q=i at *
  apply Ok.eq
  have hpre:∀ k,k<i→q (nth l k)=false:=fun k hk=>by
   have:=List.not_of_lt_findIdx (xs:=l) (p:=q) (i:=k) (by omega)
   rw[z41 (by omega)];simpa using this
  have hat:q (nth l i)=true:=by
   have:=List.findIdx_getElem (xs:=l) (p:=q) (w:=by omega)
   rw[z41 hlt];simpa[hi] using this
  rw[z22]
  refine zfh (fun(s:List Deal×Int×Int)=>∃ a b:Nat,s.2.1=(a:Int)∧s.2.2=(b:Int)∧a<b∧b≤l.length∧s.1.length=l.length∧s.1.take a=(l.take b).filter (fun d => !q d)∧∀ k,b≤k→nth s.1 k=nth l k) (fun s=>1000-s.2.2.toNat) (fun s hs=>?_) _ _ ⟨i,i+1,rfl,by (try dsimp only);rw[z2l (by omega) (by omega)];omega,by omega,by omega,rfl,?_,fun k _=>rfl⟩ (by dsimp only;omega)
  ·obtain⟨m,x,y⟩:=s
   obtain⟨a,b,rfl,rfl,hab,hb,hm,hf,hr⟩:=hs
   dsimp only at hm hf hr
   unfold z1n
   dsimp only
   by_cases hlt2:b<l.length
   ·rw[hm,if_pos (by rw[decide_eq_true_eq];omega),idx_nat,z4o (by omega),Option.bind_some,h,Option.bind_some,hr b (Nat.le_refl _)]
    have hts:l.take (b+1)=l.take b++[nth l b]:=by rw[List.take_succ,z4o hlt2];rfl
    by_cases hq:q (nth l b)=true
    ·rw[if_neg (by simp[hq]),zg,z1j,z2l (by omega) (by omega)]
     refine⟨⟨a,b+1,rfl,by (try dsimp only);omega,by omega,by omega,hm,?_,fun k hk=>hr k (by omega)⟩,by dsimp only;omega⟩
     rw[hts,List.filter_append,← hf];simp[hq]
    ·rw[if_pos (by simpa using hq),idx_nat,z4o (by omega),Option.bind_some,zg,z1j,Int.toNat_natCast,z2l (by omega) (by omega),z2l (by omega) (by omega)]
     refine⟨⟨a+1,b+1,by (try dsimp only);omega,by (try dsimp only);omega,by omega,by omega,by dsimp only;rw[List.length_set];exact hm,?_,fun k hk=>by dsimp only;rw[zb7 (by omega),if_neg (by omega)];exact hr k (by omega)⟩,by dsimp only;omega⟩
     dsimp only
     rw[hts,List.filter_append,← hf,List.take_succ,List.getElem?_set_self (by omega),List.take_set_of_le (by omega)]
     simp[hq]
   ·rw[hm,if_neg (by rw[decide_eq_true_eq];omega),zg,flok_br]
    dsimp only
    have hbl:b=l.length:=by omega
    subst hbl
    rw[z3f (by omega),Option.bind_some,z3f (by omega),Option.bind_some,zg,Int.toNat_natCast,hf,List.take_length]
  ·dsimp only
   have hts:l.take (i+1)=l.take i++[nth l i]:=by rw[List.take_succ,z4o hlt];rfl
   rw[hts,List.filter_append]
   have h2:(l.take i).filter (fun d => !q d)=l.take i:=List.filter_eq_self.2 fun d hd=>by
    obtain⟨k,hk,rfl⟩:=z8h hd
    rw[List.length_take] at hk
    rw[zaq (by omega),hpre k (by omega)];rfl
   rw[h2];simp[hat]
 ·rw[if_neg ha,if_pos (by decide)]
  congr 1
  refine(List.filter_eq_self.2 fun d hd=>?_).symm
  cases e:q d with
  |false=>rfl
  |true=>exact absurd (List.any_eq_true.2 ⟨d,hd,e⟩) ha
theorem z6m.filter{l:List Deal}(h:z6m l)(q:Deal→Bool):z6m (l.filter q):=by
 have hsub:=List.filter_sublist (l:=l) (p:=q)
 refine⟨Nat.le_trans hsub.length_le h.len,fun d hd=>h.right d (List.mem_filter.1 hd).1,?_⟩
 have hp:l.Pairwise (fun a b=>key a≠key b):=by
  rw[List.pairwise_iff_getElem]
  intro i j hi hj hij
  have:=h.once i j hij hj
  rw[z41 hi,z41 hj] at this;exact this
 have hp':=hp.sublist hsub
 rw[List.pairwise_iff_getElem] at hp'
 intro i j hij hj
 rw[z41 (by omega),z41 hj]
 exact hp' i j (by omega) hj hij
theorem clean_ok{l:List Deal}{accts:List Acct}(hs:∀ d∈l,z4p d)(hc:∃ e,z1c accts=some e):∃ p,z4m l accts=some p∧((p.1=[]∧p.2≠0)∨(p=(l.filter (fun d => !past accts d),0)∧z6m l∧z1c accts=some 0)):=by
 obtain⟨e,he,hq⟩:=zaw hs
 obtain⟨e',he'⟩:=hc
 unfold z4m
 rw[he,Option.bind_some]
 by_cases h0:e=0
 ·have hQ:=hq.1 h0
  have h20:=hQ.len
  rw[if_neg (by rw[bne_iff_ne];exact fun h=>h h0),he',Option.bind_some]
  by_cases h1:e'=0
  ·rw[if_neg (by rw[bne_iff_ne];exact fun h=>h h1),cloneQ l (by omega),Option.bind_some,zfr l _ (past accts) (fun d=>clean1_ok accts d) (by omega),Option.bind_some]
   subst h1
   exact⟨_,rfl,.inr ⟨rfl,hQ,by first|rfl|exact he'⟩⟩
  ·rw[if_pos (by rw[bne_iff_ne];exact h1)];exact⟨_,rfl,.inl ⟨rfl,h1⟩⟩
 ·rw[if_pos (by rw[bne_iff_ne];exact h0)];exact⟨_,rfl,.inl ⟨rfl,h0⟩⟩
theorem check_some{accts:List Acct}(h:∀ a∈accts,za0 a.1):∃ e,z1c accts=some e:=by
 have:Ok (z1c accts) (fun _=>True):=by
  unfold z1c
  simp only[z96,zg,z22,decide_eq_true_eq]
  refine⟨fun _=>trivial,fun h6=>z3i (fun _ _=>True) trivial (fun k a _ hk _=>?_) fun _ _=>trivial⟩
  obtain⟨ha,hkl⟩:=zcj hk
  unfold z3n
  rw[z6q (h a (List.mem_of_getElem? hk)),Option.bind_some,z5h]
  have fin:∀ b:Bool,Ok (if b=true then some (Fl.rt (3:Int)) else z5e (ρ:=Int) (β:=Unit) (σ:=Bool) (if decide (a.2.1<(0:Int)) then some (.nx true) else(if decide (a.2.1>(1000000:Int)) then some (.nx true) else(if decide (a.2.2<(0:Int)) then some (.nx true) else some (.nx (decide (a.2.2>(1000000:Int))))))) fun x121=>(if x121 then some (.rt (1:Int)) else some (.nx ()))) (FlOk (fun(_:Unit)=>True) (fun _=>True) (fun _=>True)):=fun b=>by
   simp only[z96,zg,z5h,z1j,z6i]
   simp
  by_cases hn:nm a.1=true
  ·rw[if_neg (by simp[hn])]
   by_cases hk0:(k:Int)>0
   ·rw[if_pos (by rw[decide_eq_true_eq];exact hk0),z7v (by omega) (by have:=Nat.le_of_lt hkl;omega),show(k:Int)-1=((k-1:Nat):Int) by omega,idx_nat,z4o (by omega),Option.bind_some,zg,z1j]
    exact(fin _).fl (fun _ h=>h) (fun _ _=>trivial) (fun _ h=>h)
   ·rw[if_neg (by rw[decide_eq_true_eq];exact hk0),zg,z1j]
    exact(fin _).fl (fun _ h=>h) (fun _ _=>trivial) (fun _ h=>h)
  ·rw[if_pos (by simpa using hn),zg,z1j]
   exact(fin _).fl (fun _ h=>h) (fun _ _=>trivial) (fun _ h=>h)
 obtain⟨e,he,_⟩:=this
 exact⟨e,he⟩
end Go.Pu
namespace Go.Pu
open Go.Fw
structure Vec(n:Nat)(l:List Int)(f:Nat→Int):Prop where
 len:l.length=n
 at_:∀ x,x<n→nth l x=f x
section
variable {n:Nat}{l:List Int}{f g:Nat→Int}
theorem Vec.nil:Vec 0 [] f:=⟨rfl,fun x hx=>by omega⟩
end
def sumN(n:Nat)(f:Nat→Int):Int:=match n with|0=>0|n+1=>sumN n f+f n
theorem zbc{n:Nat}{f g:Nat→Int}(h:∀ x,x<n→f x=g x):sumN n f=sumN n g:=by
 induction n with
 |zero=>rfl
 |succ n ih=>simp only[sumN];rw[ih fun x hx=>h x (by omega),h n (by omega)]
theorem sumN_add{n:Nat}{f g:Nat→Int}:sumN n (fun x=>f x+g x)=sumN n f+sumN n g:=by
 induction n with
 |zero=>rfl
 |succ n ih=>simp only[sumN];omega
theorem sumN_zero{n:Nat}:sumN n (fun _=>0)=0:=by
 induction n with
 |zero=>rfl
 |succ n ih=>simp only[sumN];omega
theorem sumN_sub{n:Nat}{f g:Nat→Int}:sumN n (fun x=>f x-g x)=sumN n f-sumN n g:=by
 induction n with
 |zero=>rfl
 |succ n ih=>simp only[sumN];omega
theorem za9{n k:Nat}{c:Int}(h:k<n):sumN n (fun x=>if x=k then c else 0)=c:=by
 induction n with
 |zero=>omega
 |succ n ih=>
  simp only[sumN]
  by_cases hk:k=n
  ·subst hk
   rw[if_pos rfl,zbc (g:=fun _=>0) (fun x hx=>if_neg (by omega)),sumN_zero];omega
  ·rw[ih (by omega),if_neg (Ne.symm hk)];omega
open Go.Fw Go.Mo
theorem bls_nil(x:List UInt8):bls x []=false:=by cases x<;>rfl
theorem zce(a b:UInt8)(x y:List UInt8):bls (a::x) (b::y)=(decide (a<b)||(a==b&&bls x y)):=rfl
theorem z8f:∀ x:List UInt8,bls x x=false
 | []=>rfl
 |a::x=>by
  rw[zce,z8f x]
  have:¬ a<a:=UInt8.lt_irrefl a
  simp[this]
theorem z9c:∀ x y z:List UInt8,bls x y=true→bls y z=true→bls x z=true
 |x,y,[],_,h=>by rw[bls_nil] at h;cases h
 |x,[],z,h,_=>by rw[bls_nil] at h;cases h
 | [],b::y,c::z,_,_=>rfl
 |a::x,b::y,c::z,h1,h2=>by
  rw[zce] at h1 h2 ⊢
  have ih:=z9c x y z
  simp only[Bool.or_eq_true,decide_eq_true_eq,Bool.and_eq_true,beq_iff_eq] at h1 h2 ⊢
  rcases h1 with h1|⟨rfl,h1⟩<;>rcases h2 with h2|⟨rfl,h2⟩
  ·exact .inl (UInt8.lt_trans h1 h2)
  ·exact .inl h1
  ·exact .inl h2
  ·exact .inr ⟨rfl,ih h1 h2⟩
theorem zay:∀ x y:List UInt8,bls x y=true∨x=y∨bls y x=true
 | [],[]=>.inr (.inl rfl)
 | [],_::_=>.inl rfl
 |_::_,[]=>.inr (.inr rfl)
 |a::x,b::y=>by
  rw[zce,zce]
  have ih:=zay x y
  simp only[Bool.or_eq_true,decide_eq_true_eq,Bool.and_eq_true,beq_iff_eq]
  by_cases hab:a=b
  ·subst hab
   rcases ih with h|h|h
   ·exact .inl (.inr ⟨rfl,h⟩)
   ·exact .inr (.inl (by rw[h]))
   ·exact .inr (.inr (.inr ⟨rfl,h⟩))
  ·rcases Nat.lt_or_gt_of_ne (fun e:a.toNat=b.toNat=>hab (UInt8.toNat_inj.1 e)) with h|h
   ·exact .inl (.inl (UInt8.lt_iff_toNat_lt.2 h))
   ·exact .inr (.inr (.inl (UInt8.lt_iff_toNat_lt.2 h)))
theorem bls_le{x y:List UInt8}:(bls x y||x==y)=false↔bls y x=true:=by
 constructor
 ·intro h
  simp only[Bool.or_eq_false_iff,beq_eq_false_iff_ne] at h
  rcases zay x y with h'|h'|h'
  ·rw[h.1] at h';cases h'
  ·exact absurd h' h.2
  ·exact h'
 ·intro h
  have h1:bls x y=false:=by
   cases e:bls x y with
   |false=>rfl
   |true=>have:=z9c _ _ _ e h;rw[z8f] at this;cases this
  have h2:x≠y:=fun e=>by subst e;rw[z8f] at h;cases h
  rw[h1,Bool.false_or,beq_eq_false_iff_ne];exact h2
structure z3w(l:List Acct):Prop where
 len:l.length≤6
 name:∀ a∈l,nm a.1=true
 asc:∀ k,k+1<l.length→bls (nth l k).1 (nth l (k+1)).1=true
 val:∀ a∈l,(0≤a.2.1∧a.2.1≤1000000)∧0≤a.2.2∧a.2.2≤1000000
def z4q(l:List Acct):Prop:=∀ a∈l,za0 a.1
theorem z9b{l:List Acct}(hs:z4q l):∃ e,z1c l=some e∧(e=0↔z3w l):=by
 have:Ok (z1c l) (fun e=>e=0↔z3w l):=by
  unfold z1c
  by_cases h6:(l.length:Int)>6
  ·rw[if_pos (by rw[decide_eq_true_eq];exact h6),zg]
   exact⟨fun h=>by (cases h),fun h=>by have:=h.len;omega⟩
  ·rw[if_neg (by rw[decide_eq_true_eq];exact h6),z22]
   refine z3i (fun k _=>(∀ i,i<k→nm (nth l i).1=true∧(0≤(nth l i).2.1∧(nth l i).2.1≤1000000)∧0≤(nth l i).2.2∧(nth l i).2.2≤1000000)∧∀ i,i+1<k→bls (nth l i).1 (nth l (i+1)).1=true) ⟨fun i hi=>by omega,fun i hi=>by omega⟩ (fun k a t hk hI=>?_) fun t ht=>?_
   ·obtain⟨ha,hkl⟩:=zcj hk
    have hsa:=hs a (List.mem_of_getElem? hk)
    have hmem:=List.mem_of_getElem? hk
    unfold z3n
    rw[z6q hsa,Option.bind_some,z5h]
    have bad:¬ z3w l→Ok (some (Fl.nx (ρ:=Int) (β:=Unit) true)) (FlOk (fun x98:Bool=>Ok (if x98 then some (.rt (3:Int)) else z5e (ρ:=Int) (β:=Unit) (σ:=Bool) (if decide (a.2.1<(0:Int)) then some (.nx true) else(if decide (a.2.1>(1000000:Int)) then some (.nx true) else(if decide (a.2.2<(0:Int)) then some (.nx true) else some (.nx (decide (a.2.2>(1000000:Int))))))) fun x121=>(if x121 then some (.rt (1:Int)) else some (.nx ()))) (FlOk (fun(_:Unit)=>(∀ i,i<k+1→nm (nth l i).1=true∧(0≤(nth l i).2.1∧(nth l i).2.1≤1000000)∧0≤(nth l i).2.2∧(nth l i).2.2≤1000000)∧∀ i,i+1<k+1→bls (nth l i).1 (nth l (i+1)).1=true) (fun _=>False) (fun e=>e=0↔z3w l))) (fun _=>False) (fun _=>False)):=fun hb=>by
     rw[zg,z1j,if_pos rfl,zg,z6i]
     exact⟨fun h=>by (cases h),fun h=>absurd h hb⟩
    have good:nm a.1=true→(0<k→bls (nth l (k-1)).1 a.1=true)→Ok (some (Fl.nx (ρ:=Int) (β:=Unit) false)) (FlOk (fun x98:Bool=>Ok (if x98 then some (.rt (3:Int)) else z5e (ρ:=Int) (β:=Unit) (σ:=Bool) (if decide (a.2.1<(0:Int)) then some (.nx true) else(if decide (a.2.1>(1000000:Int)) then some (.nx true) else(if decide (a.2.2<(0:Int)) then some (.nx true) else some (.nx (decide (a.2.2>(1000000:Int))))))) fun x121=>(if x121 then some (.rt (1:Int)) else some (.nx ()))) (FlOk (fun(_:Unit)=>(∀ i,i<k+1→nm (nth l i).1=true∧(0≤(nth l i).2.1∧(nth l i).2.1≤1000000)∧0≤(nth l i).2.2∧(nth l i).2.2≤1000000)∧∀ i,i+1<k+1→bls (nth l i).1 (nth l (i+1)).1=true) (fun _=>False) (fun e=>e=0↔z3w l))) (fun _=>False) (fun _=>False)):=fun hn hb=>by
     rw[zg,z1j,if_neg (by decide),z5h]
     by_cases hv:(0≤a.2.1∧a.2.1≤1000000)∧0≤a.2.2∧a.2.2≤1000000
     ·rw[if_neg (by rw[decide_eq_true_eq];omega),if_neg (by rw[decide_eq_true_eq];omega),if_neg (by rw[decide_eq_true_eq];omega),zg,z1j,if_neg (by rw[decide_eq_true_eq];omega),zg,z1j]
      refine⟨fun i hi=>?_,fun i hi=>?_⟩
      ·by_cases e:i=k
       ·subst e;rw[ha];exact⟨hn,hv⟩
       ·exact hI.1 i (by omega)
      ·by_cases e:i+1=k
       ·subst e;rw[ha];exact hb (by omega)
       ·exact hI.2 i (by omega)
     ·have nb:Ok (if decide (a.2.1<(0:Int)) then some (Fl.nx (ρ:=Int) (β:=Unit) true) else(if decide (a.2.1>(1000000:Int)) then some (.nx true) else(if decide (a.2.2<(0:Int)) then some (.nx true) else some (.nx (decide (a.2.2>(1000000:Int))))))) (FlOk (fun b=>b=true) (fun _=>False) (fun _=>False)):=by
       simp only[z96,zg,z1j,decide_eq_true_eq]
       exact⟨fun _=>trivial,fun _=>⟨fun _=>trivial,fun _=>⟨fun _=>trivial,fun _=>by omega⟩⟩⟩
      refine nb.fl (fun b hb'=>?_) (fun _ h=>h.elim) (fun _ h=>h.elim)
      subst hb'
      rw[if_pos rfl,zg,z6i]
      exact⟨fun h=>by (cases h),fun h=>absurd (h.val a hmem) hv⟩
    by_cases hn:nm a.1=true
    ·rw[if_neg (by simp[hn])]
     by_cases hk0:(k:Int)>0
     ·rw[if_pos (by rw[decide_eq_true_eq];exact hk0),z7v (by omega) (by omega),show(k:Int)-1=((k-1:Nat):Int) by omega,idx_nat,z4o (by omega),Option.bind_some]
      cases hb:(bls a.1 (nth l (k-1)).1||a.1==(nth l (k-1)).1) with
      |true=>
       refine(bad fun h=>?_).fl (fun _ h=>h.fl (fun _ h=>h) (fun _ h=>h.elim) (fun _ h=>h)) (fun _ h=>h.elim) (fun _ h=>h.elim)
       have:=h.asc (k-1) (by omega)
       rw[show k-1+1=k by omega,ha] at this
       rw[bls_le.2 this] at hb;cases hb
      |false=>
       exact(good hn fun _=>bls_le.1 hb).fl (fun _ h=>h.fl (fun _ h=>h) (fun _ h=>h.elim) (fun _ h=>h)) (fun _ h=>h.elim) (fun _ h=>h.elim)
     ·rw[if_neg (by rw[decide_eq_true_eq];exact hk0)]
      exact(good hn fun h=>by omega).fl (fun _ h=>h.fl (fun _ h=>h) (fun _ h=>h.elim) (fun _ h=>h)) (fun _ h=>h.elim) (fun _ h=>h.elim)
    ·rw[if_pos (by simpa using hn)]
     exact(bad fun h=>hn (h.name a hmem)).fl (fun _ h=>h.fl (fun _ h=>h) (fun _ h=>h.elim) (fun _ h=>h)) (fun _ h=>h.elim) (fun _ h=>h.elim)
   ·rw[zg]
    refine⟨fun _=>⟨by omega,fun a ha=>?_,ht.2,fun a ha=>?_⟩,fun _=>rfl⟩
    ·obtain⟨i,hi,rfl⟩:=z8h ha;exact(ht.1 i hi).1
    ·obtain⟨i,hi,rfl⟩:=z8h ha;exact(ht.1 i hi).2
 exact this
section
variable {l:List Acct}
theorem z3w.at(h:z3w l){i:Nat}(hi:i<l.length):(0≤(nth l i).2.1∧(nth l i).2.1≤1000000)∧0≤(nth l i).2.2∧(nth l i).2.2≤1000000:=h.val _ (z7w hi)
theorem z3w.chain(h:z3w l):∀ d i,i+(d+1)<l.length→bls (nth l i).1 (nth l (i+(d+1))).1=true
 |0,i,hd=>h.asc i hd
 |d+1,i,hd=>z9c _ _ _ (h.chain d i (by omega)) (h.asc (i+(d+1)) (by omega))
theorem z3w.ne(h:z3w l){i j:Nat}(hij:i<j)(hj:j<l.length):(nth l i).1≠(nth l j).1:=fun e=>by
 have:=h.chain (j-i-1) i (by omega)
 rw[show i+(j-i-1+1)=j by omega,e,z8f] at this;cases this
theorem z3w.inj(h:z3w l){i j:Nat}(hi:i<l.length)(hj:j<l.length)(e:(nth l i).1=(nth l j).1):i=j:=by
 by_cases hij:i=j
 ·exact hij
 ·rcases Nat.lt_or_gt_of_ne hij with h1|h1
  ·exact absurd e (h.ne h1 hj)
  ·exact absurd e.symm (h.ne h1 hi)
theorem findA_ok(l:List Acct)(s:List UInt8):z2b l s=some (if l.any (fun a=>a.1==s) then(l.findIdx (fun a=>a.1==s):Int) else -1):=by
 unfold z2b
 rw[indexA l (fun a0=>z4l a0 s) (fun a=>a.1==s) (fun a=>rfl)];rfl
theorem zcc(h:z3w l){i:Nat}(hi:i<l.length){s:List UInt8}(e:(nth l i).1=s):z2b l s=some (i:Int):=by
 have ha:l.any (fun a=>a.1==s)=true:=List.any_eq_true.2 ⟨nth l i,z7w hi,by simpa using e⟩
 rw[findA_ok,if_pos ha]
 have hlt:l.findIdx (fun a=>a.1==s)<l.length:=List.findIdx_lt_length.2 (by rw[List.any_eq_true] at ha;exact ha)
 have hk:=List.findIdx_getElem (w:=hlt)
 rw[← z41 hlt,beq_iff_eq] at hk
 rw[h.inj hlt hi (hk.trans e.symm)]
theorem findA_no{s:List UInt8}(h:∀ i,i<l.length→(nth l i).1≠s):z2b l s=some (-1):=by
 rw[findA_ok,if_neg]
 intro ha
 obtain⟨a,ha,e⟩:=List.any_eq_true.1 ha
 obtain⟨i,hi,rfl⟩:=z8h ha
 exact h i hi (by simpa using e)
theorem z8r(h:z3w l)(s:List UInt8):(∃ i,i<l.length∧(nth l i).1=s∧z2b l s=some (i:Int))∨((∀ i,i<l.length→(nth l i).1≠s)∧z2b l s=some (-1)):=by
 by_cases ex:∃ i,i<l.length∧(nth l i).1=s
 ·obtain⟨i,hi,e⟩:=ex;exact .inl ⟨i,hi,e,zcc h hi e⟩
 ·have hn:∀ i,i<l.length→(nth l i).1≠s:=fun i hi e=>ex ⟨i,hi,e⟩
  exact .inr ⟨hn,findA_no hn⟩
end
theorem cloneA(l:List Acct)(h:l.length≤1000):zz l=some l:=by unfold zz;rw[z3f (by omega)];rfl
structure Moved(l:List Acct)(i j k:Nat)(a b:Int)(m:List Acct):Prop where
 len:m.length=l.length
 at_:∀ q,q<l.length→nth m q=((nth l q).1,(nth l q).2.1-(if q=i then a+b else 0)+(if q=j then a else 0)+(if q=k then b else 0),(nth l q).2.2+(if q=i then 1 else 0))
inductive Took(l:List Acct)(d:Deal)(t:List UInt8):List Acct×Int→Prop
 |no (e:Int):e≠0→Took l d t ([],e)
 |yes (i j k:Nat) (m:List Acct):z3w l→rt d=0→i<l.length→j<l.length→k<l.length→(nth l i).1=d.1→(nth l j).1=d.2.1→(nth l k).1=t→d.2.2.1=(nth l i).2.2→d.2.2.2.1+d.2.2.2.2.1≤(nth l i).2.1→Moved l i j k d.2.2.2.1 d.2.2.2.2.1 m→z3w m→Took l d t (m,0)
theorem take_three{l:List Acct}{d:Deal}{t:List UInt8}(hA:z3w l)(hs:z4q l)(hd:z4p d)(hr:rt d=0){i j k:Nat}(hi:i<l.length)(hj:j<l.length)(hk:k<l.length)(ei:(nth l i).1=d.1)(ej:(nth l j).1=d.2.1)(ek:(nth l k).1=t) :
  ∃ m,Moved l i j k d.2.2.2.1 d.2.2.2.2.1 m∧z1k l d t=if d.2.2.1≠(nth l i).2.2 then some ([],6) else if(nth l i).2.1<d.2.2.2.1+d.2.2.2.2.1 then some ([],11) else(z1c m).bind fun e=>if e != 0 then some ([],8) else some (m,0):=by
 obtain⟨e,he,hq⟩:=z9b hs
 have h0:=hq.2 hA
 subst h0
 obtain⟨r1,r2,r3,r4,r5,r6,r7⟩:=z8j hd hr
 have h6:=hA.len
 have vi:=hA.at hi;have vj:=hA.at hj;have vk:=hA.at hk
 have hij:i≠j:=fun e=>by subst e;exact r7 (ei.symm.trans ej)
 unfold z1k
 rw[he,Option.bind_some,if_neg (by decide),z9k hd,hr,Option.bind_some,if_neg (by decide),zcc hA hi ei,Option.bind_some,zcc hA hj ej,Option.bind_some,zcc hA hk ek,Option.bind_some,if_neg (by rw[decide_eq_true_eq];omega),if_neg (by rw[decide_eq_true_eq];omega)]
 have hdk:decide ((k:Int)<0)=false:=by rw[decide_eq_false_iff_not];omega
 simp only[z2f,hdk,Bool.false_eq_true,if_false]
 rw[idx_nat,z4o hi,Option.bind_some]
 generalize hl1:l.set i ((nth l i).1,(nth l i).2.1-(d.2.2.2.1+d.2.2.2.2.1),(nth l i).2.2)=l1
 generalize hl2:l1.set i ((nth l1 i).1,(nth l1 i).2.1,(nth l1 i).2.2+1)=l2
 generalize hl3:l2.set j ((nth l2 j).1,(nth l2 j).2.1+d.2.2.2.1,(nth l2 j).2.2)=l3
 generalize hl4:l3.set k ((nth l3 k).1,(nth l3 k).2.1+d.2.2.2.2.1,(nth l3 k).2.2)=l4
 have n1:l1.length=l.length:=by rw[← hl1,List.length_set]
 have n2:l2.length=l.length:=by rw[← hl2,List.length_set,n1]
 have n3:l3.length=l.length:=by rw[← hl3,List.length_set,n2]
 have n4:l4.length=l.length:=by rw[← hl4,List.length_set,n3]
 have q1:∀ q,nth l1 q=if q=i then((nth l i).1,(nth l i).2.1-(d.2.2.2.1+d.2.2.2.2.1),(nth l i).2.2) else nth l q:=fun q=>by rw[← hl1,zb7 hi]
 have q2:∀ q,nth l2 q=if q=i then((nth l i).1,(nth l i).2.1-(d.2.2.2.1+d.2.2.2.2.1),(nth l i).2.2+1) else nth l q:=fun q=>by
  rw[← hl2,zb7 (by omega)]
  by_cases e:q=i
  ·rw[if_pos e,if_pos e,q1,if_pos rfl]
  ·rw[if_neg e,if_neg e,q1,if_neg e]
 have q2j:nth l2 j=nth l j:=by rw[q2,if_neg (fun e=>hij e.symm)]
 have q3:∀ q,nth l3 q=if q=j then((nth l j).1,(nth l j).2.1+d.2.2.2.1,(nth l j).2.2) else nth l2 q:=fun q=>by rw[← hl3,zb7 (by omega),q2j]
 have b3:-4000000≤(nth l3 k).2.1∧(nth l3 k).2.1≤4000000:=by
  rw[q3]
  split
  ·dsimp only;omega
  ·rw[q2];split
   ·dsimp only;omega
   ·omega
 refine⟨l4,⟨n4,fun q hq=>?_⟩,?_⟩
 ·rw[← hl4,zb7 (by omega)]
  by_cases e1:q=k
  ·subst e1
   rw[if_pos rfl,if_pos rfl,q3]
   by_cases e2:q=j
   ·subst e2
    rw[if_pos rfl,if_pos rfl,if_neg (fun e=>hij e.symm),if_neg (fun e=>hij e.symm)]
    dsimp only
    refine Prod.ext rfl (Prod.ext ?_ ?_)<;>dsimp only<;>omega
   ·rw[if_neg e2,if_neg e2,q2]
    by_cases e3:q=i
    ·subst e3;simp only[if_true]
     refine Prod.ext rfl (Prod.ext ?_ ?_)<;>dsimp only<;>omega
    ·rw[if_neg e3,if_neg e3,if_neg e3]
     refine Prod.ext rfl (Prod.ext ?_ ?_)<;>dsimp only<;>omega
  ·rw[if_neg e1,if_neg e1,q3]
   by_cases e2:q=j
   ·subst e2
    rw[if_pos rfl,if_pos rfl,if_neg (fun e=>hij e.symm),if_neg (fun e=>hij e.symm)]
    refine Prod.ext rfl (Prod.ext ?_ ?_)<;>dsimp only<;>omega
   ·rw[if_neg e2,if_neg e2,q2]
    by_cases e3:q=i
    ·subst e3;simp only[if_true]
     refine Prod.ext rfl (Prod.ext ?_ ?_)<;>dsimp only<;>omega
    ·rw[if_neg e3,if_neg e3,if_neg e3]
     refine Prod.ext rfl (Prod.ext ?_ ?_)<;>dsimp only<;>omega
 ·by_cases hn:d.2.2.1=(nth l i).2.2
  ·rw[if_neg (by rw[bne_iff_ne];exact fun h=>h hn),if_neg (by exact fun h=>h hn),Option.bind_some,z2l (by omega) (by omega)]
   by_cases hp:(nth l i).2.1<d.2.2.2.1+d.2.2.2.2.1
   ·rw[if_pos (by rw[decide_eq_true_eq];exact hp),if_pos hp]
   ·rw[if_neg (by rw[decide_eq_true_eq];exact hp),if_neg hp,cloneA l (by omega),Option.bind_some,idx_nat,z4o hi,Option.bind_some,Option.bind_some,Int.toNat_natCast,Int.toNat_natCast,Int.toNat_natCast,z7v (by omega) (by omega),hl1,idx_nat,z4o (by omega),Option.bind_some,Option.bind_some]
    have e22:(nth l1 i).2.2=(nth l i).2.2:=by rw[q1,if_pos rfl]
    rw[z2l (x:=(nth l1 i).2.2) (by omega) (by omega),hl2,idx_nat,z4o (by omega),Option.bind_some,Option.bind_some,z2l (x:=(nth l2 j).2.1) (by rw[q2j];omega) (by rw[q2j];omega),hl3,idx_nat,z4o (by omega),Option.bind_some,Option.bind_some,z2l (x:=(nth l3 k).2.1) (by omega) (by omega),hl4]
  ·rw[if_pos (by rw[bne_iff_ne];exact hn),if_pos hn]
theorem Moved.short{l m:List Acct}{i j k:Nat}{a b:Int}(h:Moved l i j k a b m)(hs:z4q l):z4q m:=fun x hx=>by
 obtain⟨q,hq,rfl⟩:=z8h hx
 rw[h.len] at hq
 rw[h.at_ q hq]
 show za0 (nth l q).1
 exact hs _ (z7w hq)
theorem take_ok{l:List Acct}{d:Deal}{t:List UInt8}(hs:z4q l)(hd:z4p d):Ok (z1k l d t) (Took l d t):=by
 obtain⟨e,he,hq⟩:=z9b hs
 by_cases h0:e=0
 ·have hA:=hq.1 h0
  subst h0
  by_cases hr:rt d=0
  ·have miss:(¬ ∃ i j k,i<l.length∧j<l.length∧k<l.length∧(nth l i).1=d.1∧(nth l j).1=d.2.1∧(nth l k).1=t)→z1k l d t=some ([],4):=fun hno=>by
    unfold z1k
    rw[he,Option.bind_some,if_neg (by decide),z9k hd,hr,Option.bind_some,if_neg (by decide)]
    rcases z8r hA d.1 with⟨i,hi,ei,f1⟩|⟨_,f1⟩<;>rcases z8r hA d.2.1 with⟨j,hj,ej,f2⟩|⟨_,f2⟩<;>rcases z8r hA t with⟨k,hk,ek,f3⟩|⟨_,f3⟩
    ·exact absurd ⟨i,j,k,hi,hj,hk,ei,ej,ek⟩ hno
    all_goals
     rw[f1,Option.bind_some,f2,Option.bind_some,f3,Option.bind_some]
     simp[z2f]
     try omega
   by_cases ex:∃ i j k,i<l.length∧j<l.length∧k<l.length∧(nth l i).1=d.1∧(nth l j).1=d.2.1∧(nth l k).1=t
   ·obtain⟨i,j,k,hi,hj,hk,ei,ej,ek⟩:=ex
    obtain⟨m,hm,e⟩:=take_three hA hs hd hr hi hj hk ei ej ek
    rw[e]
    by_cases hn:d.2.2.1=(nth l i).2.2
    ·rw[if_neg (by exact fun h=>h hn)]
     by_cases hp:(nth l i).2.1<d.2.2.2.1+d.2.2.2.2.1
     ·rw[if_pos hp,zg];exact .no 11 (by decide)
     ·rw[if_neg hp]
      obtain⟨e2,he2,hq2⟩:=z9b (hm.short hs)
      rw[he2,Option.bind_some]
      by_cases hz:e2=0
      ·rw[if_neg (by rw[bne_iff_ne];exact fun h=>h hz),zg]
       exact .yes i j k m hA hr hi hj hk ei ej ek hn (by omega) hm (hq2.1 hz)
      ·rw[if_pos (by rw[bne_iff_ne];exact hz),zg];exact .no 8 (by decide)
    ·rw[if_pos hn,zg];exact .no 6 (by decide)
   ·rw[miss ex,zg];exact .no 4 (by decide)
  ·unfold z1k
   rw[he,Option.bind_some,if_neg (by decide),z9k hd,Option.bind_some,if_pos (by rw[bne_iff_ne];exact hr),zg]
   exact .no _ hr
 ·unfold z1k
  rw[he,Option.bind_some,if_pos (by rw[bne_iff_ne];exact h0),zg]
  exact .no _ h0
open Go.Fw Go.Mo
def zai:List (List UInt8)→List UInt8
 | []=>[]
 | [w]=>w
 |w::v::r=>w++32::zai (v::r)
theorem index_w(j:List UInt8):∀ w:List UInt8,(32:UInt8)∉w→Lib.index (w++32::j) [32]=(w.length:Int)
 | [],_=>by simp[Lib.index,List.isPrefixOf]
 |b::w,h=>by
  have hb:b≠32:=fun e=>h (by simp[e])
  have ih:=index_w j w (fun e=>h (by simp[e]))
  have:([32]:List UInt8).isPrefixOf (b::(w++32::j))=false:=by simp[List.isPrefixOf,Ne.symm hb]
  rw[List.cons_append,Lib.index,ih,this,if_neg (by simp),if_neg (by rw[beq_iff_eq];omega),List.length_cons]
  omega
theorem zda:∀ ws:List (List UInt8),ws≠[]→(∀ w∈ws,(32:UInt8)∉w)→Lib.splitK [32] 0 (Lib.count (zai ws) [32]) (zai ws)=ws
 | [],h,_=>absurd rfl h
 | [w],_,h=>by
  rw[zai,Lib.count_one,List.count_eq_zero.2 (h w (by simp))];rfl
 |w::v::r,_,h=>by
  have hw:=h w (by simp)
  have ih:=zda (v::r) (by simp) (fun x hx=>h x (List.mem_cons_of_mem _ hx))
  rw[Lib.count_one] at ih
  rw[zai,Lib.count_one,List.count_append,List.count_eq_zero.2 hw,List.count_cons_self,Nat.zero_add,Lib.splitK,index_w _ _ hw,if_neg (by rw[beq_iff_eq];omega),Int.toNat_natCast]
  rw[show(w++32::zai (v::r)).take (w.length+0)=w by simp,show(w++32::zai (v::r)).drop (w.length+[(32:UInt8)].length)=zai (v::r) by simp,ih]
theorem zd9{ws:List (List UInt8)}(h0:ws≠[])(h:∀ w∈ws,(32:UInt8)∉w):zci (zai ws) [32]=ws:=by
 unfold zci
 rw[Lib.splitB_data];exact zda ws h0 h
theorem dig_val:∀ d,d<10→Lib.digitVal (UInt8.ofNat (48+d))=some d:=by decide
theorem dig_rng:∀ d,d<10→48≤(UInt8.ofNat (48+d)).toNat∧(UInt8.ofNat (48+d)).toNat≤57:=by decide
theorem zeq(m:List UInt8):∀ (l:List UInt8) (a:Nat),Lib.decFrom a (l++m)=(Lib.decFrom a l).bind fun x=>Lib.decFrom x m
 | [],a=>rfl
 |b::l,a=>by
  rw[List.cons_append,Lib.decFrom,Lib.decFrom]
  cases Lib.digitVal b with
  |none=>rfl
  |some d=>exact zeq m l _
theorem dec_digits(u:Nat):Lib.decFrom 0 (Lib.decDigits u)=some u:=by
 induction u using Nat.strongRecOn with
 |_ u ih=>
  rw[Lib.decDigits]
  by_cases h:u<10
  ·rw[dif_pos h,Lib.decFrom,dig_val u h];simp[Lib.decFrom]
  ·rw[dif_neg h,zeq,ih (u / 10) (by omega),Option.bind_some,Lib.decFrom,dig_val _ (by omega)]
   simp[Lib.decFrom];omega
theorem dec_rng(u:Nat):∀ b∈Lib.decDigits u,48≤b.toNat∧b.toNat≤57:=by
 induction u using Nat.strongRecOn with
 |_ u ih=>
  rw[Lib.decDigits]
  by_cases h:u<10
  ·rw[dif_pos h];intro b hb;rw[List.mem_singleton] at hb;subst hb;exact dig_rng u h
  ·rw[dif_neg h];intro b hb
   rcases List.mem_append.1 hb with hb|hb
   ·exact ih (u / 10) (by omega) b hb
   ·rw[List.mem_singleton] at hb;subst hb;exact dig_rng _ (by omega)
theorem dec_len:∀ (k u:Nat),u<10 ^ (k+1)→(Lib.decDigits u).length≤k+1
 |0,u,h=>by rw[Lib.decDigits,dif_pos (by omega)];simp
 |k+1,u,h=>by
  rw[Lib.decDigits]
  by_cases h':u<10
  ·rw[dif_pos h'];simp
  ·rw[dif_neg h',List.length_append]
   have:(10:Nat) ^ (k+1+1)=10 ^ (k+1)*10:=Nat.pow_succ ..
   have:=dec_len k (u / 10) (by omega)
   simp only[List.length_cons,List.length_nil];omega
theorem dec_pos(u:Nat):1≤(Lib.decDigits u).length:=by
 rw[Lib.decDigits]
 by_cases h:u<10
 ·rw[dif_pos h];simp
 ·rw[dif_neg h];simp
theorem zf8{n:Int}(h0:0≤n):Lib.itoa n=Lib.decDigits n.toNat:=by unfold Lib.itoa;rw[if_neg (by omega)]
theorem z60{n:Int}(h0:0≤n)(h1:n≤1000000):(Lib.itoa n).length≤7:=by rw[zf8 h0];exact dec_len 6 _ (by omega)
theorem itoa_len3{n:Int}(h0:0≤n)(h1:n≤100):(Lib.itoa n).length≤3:=by rw[zf8 h0];exact dec_len 2 _ (by omega)
theorem zcr{n:Int}(h0:0≤n):(32:UInt8)∉Lib.itoa n:=by
 rw[zf8 h0];intro h
 have:=(dec_rng _ _ h).1
 exact absurd this (by decide)
theorem atoi_itoa{n:Int}(h0:0≤n):Lib.atoi (Lib.itoa n)=some n:=by
 rw[zf8 h0]
 have h1:=dec_pos n.toNat;have h2:=dec_rng n.toNat;have h3:=dec_digits n.toNat
 cases hl:Lib.decDigits n.toNat with
 |nil=>rw[hl] at h1;simp at h1
 |cons b r=>
  rw[hl] at h2 h3
  have hb:=(h2 b (by simp)).1
  rw[Lib.atoi,if_neg,if_neg,Lib.decNat,if_neg (by simp),h3,Option.map_some,Int.toNat_of_nonneg h0]
  ·intro e;rw[beq_iff_eq] at e;subst e;exact absurd hb (by decide)
  ·intro e;rw[beq_iff_eq] at e;subst e;exact absurd hb (by decide)
theorem atoi_m{n:Int}(h0:0≤n)(h1:n≤1000000):z3z (Lib.itoa n)=some n:=by
 have:=z60 h0 h1
 unfold z3z
 rw[z3f (by omega),Option.bind_some,atoi_itoa h0]
theorem itoa_m{n:Int}(h0:0≤n)(h1:n≤1000000):z3y n=some (Lib.itoa n):=by
 unfold z3y;rw[z3f (by omega),Option.bind_some]
theorem z6p{s:List UInt8}(hs:za0 s)(h:nm s=true):s.length≤8∧1≤s.length∧∀ b∈s,97≤b.toNat∧b.toNat≤122:=by
 have hn:=z6q hs
 rw[h] at hn
 have hl:(z1o s).length=s.length:=by unfold z1o;simp
 have:Ok (z26 s) (fun r=>r=true→s.length≤8∧1≤s.length∧∀ i,i<s.length→97≤nth (z1o s) i∧nth (z1o s) i≤122):=by
  unfold z26
  rw[z3f (show s.length≤9223372036854775807 from hs),Option.bind_some,z22]
  refine z3i (fun k _=>∀ i,i<k→97≤nth (z1o s) i∧nth (z1o s) i≤122) (fun i hi=>by omega) (fun k a t hk hI=>?_) fun t ht=>?_
  ·obtain⟨ha,hkl⟩:=zcj hk
   unfold z4k
   simp only[z5h,z96,zg,z1j,z6i,decide_eq_true_eq]
   refine⟨fun h1=>⟨fun _=>fun e=>by simp at e,fun e=>absurd trivial e⟩,fun h1=>⟨fun _ e=>by simp at e,fun h2 i hi=>?_⟩⟩
   by_cases e:i=k
   ·subst e;rw[ha];omega
   ·exact hI i (by omega)
  ·rw[hl] at ht
   simp only[z22,z96,zg,z1j,z6i,decide_eq_true_eq]
   exact⟨fun h1 h2=>⟨by omega,by omega,ht⟩,fun h1 h2=>by simp at h2⟩
 obtain⟨b,e,hb⟩:=this
 rw[hn] at e;cases e
 obtain⟨h1,h2,h3⟩:=hb rfl
 refine⟨h1,h2,fun b hb=>?_⟩
 obtain⟨i,hi,rfl⟩:=z8h hb
 have:=h3 i hi
 rw[show nth (z1o s) i=((nth s i).toNat:Int) by unfold z1o;exact nth_map hi] at this
 omega
theorem nm_no{s:List UInt8}(hs:za0 s)(h:nm s=true):(32:UInt8)∉s:=fun hm=>by
 have:=((z6p hs h).2.2 _ hm).1
 exact absurd this (by decide)
open Go.Fw Go.Mo
abbrev Bs:=List UInt8
theorem wrap_u16(n:Int):0≤IntKind.wrap .u16 n∧IntKind.wrap .u16 n<65536:=by
 unfold IntKind.wrap
 have a0:=Int.emod_nonneg n (b:=65536) (by decide)
 have a1:=Int.emod_lt_of_pos n (b:=65536) (by decide)
 exact⟨a0,a1⟩
theorem wrap_u8(n:Int):IntKind.wrap .u8 n=n%256:=rfl
theorem xor_u16(a b:Int):0≤bits .xor .u16 a b∧bits .xor .u16 a b<65536:=by
 unfold bits;exact wrap_u16 _
theorem sum_ok(s:Bs)(h:s.length≤9223372036854775807):Ok (z69 s) (fun v=>0≤v∧v<65536):=by
 unfold z69
 rw[z3f h,Option.bind_some,z22]
 refine z3i (fun _ v=>0≤v∧v<65536) (by decide) (fun k a t hk hI=>?_) fun v hv=>by rw[zg];exact hv
 unfold z9v
 rw[z3f (by decide),Option.bind_some,z5h]
 refine Ok.fl (N:=fun s:Int×Int=>0≤s.1∧s.1<65536) (B:=fun _=>False) (R:=fun _=>False) (zfh (fun s:Int×Int=>(0≤s.1∧s.1<65536)∧0≤s.2∧s.2≤8) (fun s=>(8-s.2).toNat) (fun s hs=>?_) _ _ ⟨xor_u16 _ _,Int.le_refl _,by dsimp only;omega⟩ (by dsimp only;omega)) (fun s hs=>by rw[zg,z1j];exact hs) (fun _ h=>h.elim) (fun _ h=>h.elim)
 obtain⟨x,y⟩:=s
 obtain⟨⟨h1,h2⟩,h3,h4⟩:=hs
 dsimp only at h1 h2 h3 h4
 unfold z9u
 dsimp only
 by_cases h8:y<8
 ·rw[if_pos (by rw[decide_eq_true_eq];exact h8),z3f (by decide),Option.bind_some]
  split
  ·rw[z3f (by decide),Option.bind_some,z2l (by omega) (by omega),zg,z1j]
   exact⟨⟨xor_u16 _ _,by dsimp only;omega,by dsimp only;omega⟩,by dsimp only;omega⟩
  ·rw[z3f (by decide),Option.bind_some,z2l (by omega) (by omega),zg,z1j]
   exact⟨⟨wrap_u16 _,by dsimp only;omega,by dsimp only;omega⟩,by dsimp only;omega⟩
 ·rw[if_neg (by rw[decide_eq_true_eq];exact h8),zg,flok_br]
  exact⟨h1,h2⟩
def crc(s:Bs):Int:=(z69 s).getD 0
theorem sum_crc{s:Bs}(h:s.length≤9223372036854775807):z69 s=some (crc s)∧0≤crc s∧crc s<65536:=by
 obtain⟨v,e,hv⟩:=sum_ok s h
 have:crc s=v:=by unfold crc;rw[e];rfl
 rw[this];exact⟨e,hv⟩
def byt(n:Int):UInt8:=UInt8.ofNat n.toNat
def z7u(r:Bs):Bs:=byt r.length::r
def hi_(r:Bs):UInt8:=byt (crc (z7u r) / 256%256)
def lo_(r:Bs):UInt8:=byt (crc (z7u r)%256)
def fr(r:Bs):Bs:=z7u r++[hi_ r,lo_ r]
theorem z4t(r:Bs):(fr r).length=r.length+3:=by simp[fr,z7u]
theorem zeo(v:Int):Int.fdiv v (2 ^ (min (8:Int).toNat (IntKind.bits .u16)))=v / 256:=by
 show Int.fdiv v 256=v / 256
 rw[Int.fdiv_eq_ediv_of_nonneg _ (by decide)]
theorem zfb{n:Int}(h0:0≤n)(h1:n<256):((byt n).toNat:Int)=n:=by
 unfold byt
 rw[UInt8.toNat_ofNat',Nat.mod_eq_of_lt (by omega)];omega
theorem frame_ok(r:Bs):z7j r=some (if r.length≤64 then(fr r,0) else([],2)):=by
 unfold z7j
 by_cases h:r.length≤64
 ·rw[if_neg (by rw[decide_eq_true_eq];omega),if_pos h]
  have e1:bytesOf [IntKind.wrap .u8 (r.length:Int)]++r=z7u r:=by
   show byt (IntKind.wrap .u8 (r.length:Int))::r=_
   rw[wrap_u8,Int.emod_eq_of_lt (by omega) (by omega)];rfl
  have hl:(z7u r).length≤9223372036854775807:=by simp[z7u];omega
  rw[e1,(sum_crc hl).1]
  have e2:bytesOf [IntKind.wrap .u8 (Int.fdiv (crc (z7u r)) (2 ^ (min (8:Int).toNat (IntKind.bits .u16)))),IntKind.wrap .u8 (crc (z7u r))]=[hi_ r,lo_ r]:=by
   rw[zeo,wrap_u8,wrap_u8];rfl
  rw[z3f (by show 1+r.length≤_;omega),Option.bind_some,Option.bind_some,z3f (by decide),Option.bind_some,e2,z3f (by simp[z7u];omega),Option.bind_some]
  rfl
 ·rw[if_pos (by rw[decide_eq_true_eq];omega),if_neg h]
def cat:List Bs→Bs
 | []=>[]
 |r::l=>fr r++cat l
theorem cat_append(l m:List Bs):cat (l++m)=cat l++cat m:=by
 induction l with
 |nil=>rfl
 |cons r l ih=>simp[cat,ih]
theorem zcd(l:List Bs)(r:Bs):cat (l++[r])=cat l++fr r:=by rw[cat_append];simp[cat]
theorem cat_len(l:List Bs):3*l.length≤(cat l).length:=by
 induction l with
 |nil=>simp[cat]
 |cons r l ih=>simp only[cat,List.length_append,z4t,List.length_cons];omega
def z3d:List Bs→Nat→Nat
 | [],_=>0
 |r::l,k=>if r.length+3≤k then z3d l (k-(r.length+3))+1 else 0
theorem whole_le:∀ (l:List Bs) (k:Nat),z3d l k≤l.length
 | [],_=>Nat.le_refl _
 |r::l,k=>by
  unfold z3d
  split
  ·have:=whole_le l (k-(r.length+3));simp only[List.length_cons];omega
  ·omega
theorem zfa{α:Type}[Inhabited α]{A B:List α}{j:Int}(h0:0≤j)(h:j.toNat<B.length):idx (A++B) ((A.length:Int)+j)=some (nth B j.toNat):=by
 rw[idx_at (by omega),List.getElem?_append_right (by omega),show((A.length:Int)+j).toNat-A.length=j.toNat by omega,z4o h]
theorem cut_mid{α:Type}{A B:List α}{a b:Nat}(hb:a≤b):((A++B).take (A.length+b)).drop (A.length+a)=(B.take b).drop a:=by
 rw[List.take_append,List.take_of_length_le (by omega),show A.length+b-A.length=b by omega,List.drop_append,List.drop_of_length_le (by omega),show A.length+a-A.length=a by omega];rfl
theorem wrap_i64(b:UInt8):IntKind.wrap .i64 (b.toNat:Int)=(b.toNat:Int):=by
 have:=b.toNat_lt
 rw[IntKind.wrap_i64];omega
theorem scan_step{A B:Bs}{r:Bs}(hr:r.length≤64)(l2:List Bs)(hl:(A++(fr r++B)).length≤9223372036854775807)(h2:l2.length<68719476736):z2y (A++(fr r++B)) (l2,(A.length:Int))=some (.nx (l2++[r],((A.length+(r.length+3):Nat):Int))):=by
 have hB:(fr r++B).length=r.length+3+B.length:=by rw[List.length_append,z4t]
 rw[List.length_append,hB] at hl
 have eb:fr r++B=byt r.length::(r++([hi_ r,lo_ r]++B)):=by simp[fr,z7u]
 have hb0:nth (fr r++B) 0=byt r.length:=by rw[eb];rfl
 have hn:((byt (r.length:Int)).toNat:Int)=r.length:=zfb (by omega) (by omega)
 have hAl:((A++(fr r++B)).length:Int)=A.length+(r.length+3+B.length):=by rw[List.length_append,hB];omega
 have hc:=sum_crc (s:=z7u r) (by simp[z7u];omega)
 have g1:nth (fr r++B) (r.length+1)=hi_ r:=by rw[eb,zb2,z6y,if_neg (by omega),Nat.sub_self];rfl
 have g2:nth (fr r++B) (r.length+2)=lo_ r:=by rw[eb,zb2,z6y,if_neg (by omega),show r.length+1-r.length=1 by omega];rfl
 have c1:((A++(fr r++B)).take (A.length+(r.length+1))).drop (A.length+0)=z7u r:=by
  rw[cut_mid (by omega),eb]
  simp[z7u]
 have c2:((A++(fr r++B)).take (A.length+(r.length+1))).drop (A.length+1)=r:=by
  rw[cut_mid (by omega),eb]
  simp
 unfold z2y
 dsimp only
 rw[if_pos (by rw[decide_eq_true_eq];omega),show(A.length:Int)=(A.length:Int)+0 by omega,zfa (by decide) (by rw[hB];exact Nat.lt_of_lt_of_le (by decide:(0:Int).toNat<1) (by omega)),Option.bind_some,show nth (fr r++B) (0:Int).toNat=byt r.length from hb0,wrap_i64,hn,Int.add_zero]
 rw[if_neg (by rw[decide_eq_true_eq];omega),z7v (by omega) (by omega),z2l (by omega:-9223372036854775808≤(r.length:Int)+3) (by omega),z2l (by omega:-9223372036854775808≤(A.length:Int)+r.length) (by omega),z2l (by omega:-9223372036854775808≤(A.length:Int)+r.length+1) (by omega),z2l (by omega:-9223372036854775808≤(A.length:Int)+r.length+2) (by omega),z2l (by omega:-9223372036854775808≤(A.length:Int)+1) (by omega),z2l (by omega:-9223372036854775808≤(A.length:Int)+1+r.length) (by omega),z2l (by omega:-9223372036854775808≤(A.length:Int)+(r.length+3)) (by omega)]
 rw[decide_eq_false (by omega)]
 simp only[z5e,Bool.false_eq_true,if_false]
 rw[z3f (by omega),Option.bind_some,show((A.length:Int)+r.length+1).toNat=A.length+(r.length+1) by omega,show(A.length:Int).toNat=A.length+0 by omega,c1,hc.1,Option.bind_some]
 rw[show(A.length:Int)+r.length+1=(A.length:Int)+((r.length+1:Nat):Int) by omega,zfa (by omega) (by omega),Option.bind_some,z3f (by decide),Option.bind_some,Int.toNat_natCast,g1,zeo,wrap_u8,wrap_u8]
 have d1:=Int.emod_nonneg (crc (z7u r) / 256) (b:=256) (by decide)
 have d2:=Int.emod_lt_of_pos (crc (z7u r) / 256) (b:=256) (by decide)
 have d3:=Int.emod_nonneg (crc (z7u r)) (b:=256) (by decide)
 have d4:=Int.emod_lt_of_pos (crc (z7u r)) (b:=256) (by decide)
 have k1:((hi_ r).toNat:Int)=crc (z7u r) / 256%256:=zfb d1 d2
 have k2:((lo_ r).toNat:Int)=crc (z7u r)%256:=zfb d3 d4
 rw[k1,if_neg (by simp),show(A.length:Int)+r.length+2=(A.length:Int)+((r.length+2:Nat):Int) by omega,zfa (by omega) (by omega),Option.bind_some,Int.toNat_natCast,g2,k2]
 simp only[bne_self_eq_false,Bool.false_eq_true,if_false]
 rw[z3f (by omega),Option.bind_some,z3f (by simp;omega),Option.bind_some,show((A.length:Int)+1+r.length).toNat=A.length+(r.length+1) by omega,show((A.length:Int)+1).toNat=A.length+1 by omega,c2]
 congr 3
theorem scan_stop{A:Bs}{r:Bs}(hr:r.length≤64)(l2:List Bs){k:Nat}(hk:k<r.length+3)(hl:A.length+k≤9223372036854775807):z2y (A++(fr r).take k) (l2,(A.length:Int))=some (.br (l2,(A.length:Int))):=by
 have hT:((fr r).take k).length=k:=by rw[List.length_take,z4t];omega
 have hAl:((A++(fr r).take k).length:Int)=A.length+k:=by rw[List.length_append,hT];omega
 unfold z2y
 dsimp only
 by_cases h0:k=0
 ·rw[if_neg (by rw[decide_eq_true_eq];omega)]
 ·have hn:((byt (r.length:Int)).toNat:Int)=r.length:=zfb (by omega) (by omega)
  rw[if_pos (by rw[decide_eq_true_eq];omega),show(A.length:Int)=(A.length:Int)+0 by omega,zfa (by decide) (by rw[hT];exact Nat.pos_of_ne_zero h0),Option.bind_some,show nth ((fr r).take k) (0:Int).toNat=byt r.length by rw[show(0:Int).toNat=0 from rfl,zaq (by omega)];rfl,wrap_i64,hn,Int.add_zero]
  rw[if_neg (by rw[decide_eq_true_eq];omega),z7v (by omega) (by omega),z2l (by omega:-9223372036854775808≤(r.length:Int)+3) (by omega),decide_eq_true (by omega)]
  simp only[z5e,if_true]
theorem scan_loop:∀ (l:List Bs) (k:Nat) (A:Bs) (l2:List Bs) (f:Nat),(∀ r∈l,r.length≤64)→k≤(cat l).length→A.length+k≤9223372036854775807→l2.length+l.length≤68719476736→l.length<f →
  z40 (γ:=Unit) (z2y (A++(cat l).take k)) f (l2,(A.length:Int))=some (.nx (l2++l.take (z3d l k),((A.length+(cat (l.take (z3d l k))).length:Nat):Int)))
 | [],k,A,l2,f,hr,hk,hA,h2,hf=>by
  obtain⟨f,rfl⟩:∃ g,f=g+1:=⟨f-1,by simp at hf;omega⟩
  unfold z40
  have:z2y (A++(cat []).take k) (l2,(A.length:Int))=some (.br (l2,(A.length:Int))):=by
   unfold z2y
   dsimp only
   rw[if_neg (by rw[decide_eq_true_eq];simp[cat])]
  rw[this]
  simp[cat,z3d]
 |r::l,k,A,l2,f,hr,hk,hA,h2,hf=>by
  obtain⟨f,rfl⟩:∃ g,f=g+1:=⟨f-1,by simp at hf;omega⟩
  have hrl:=hr r (by simp)
  have hfl:=z4t r
  have hk':k≤r.length+3+(cat l).length:=by simpa[cat,z4t] using hk
  have h2':l2.length+(l.length+1)≤68719476736:=by simpa using h2
  have hf':l.length<f:=by simpa using hf
  unfold z40
  by_cases hw:r.length+3≤k
  ·have e1:(cat (r::l)).take k=fr r++(cat l).take (k-(r.length+3)):=by
    rw[cat,List.take_append,List.take_of_length_le (by omega),z4t]
   rw[e1,scan_step hrl l2 (by simp only[List.length_append,List.length_take];omega) (by omega)]
   dsimp only
   have ih:=scan_loop l (k-(r.length+3)) (A++fr r) (l2++[r]) f (fun x hx=>hr x (by simp[hx])) (by omega) (by rw[List.length_append];omega) (by simp;omega) hf'
   rw[List.length_append,z4t,List.append_assoc] at ih
   rw[ih]
   have e2:z3d (r::l) k=z3d l (k-(r.length+3))+1:=by rw[z3d,if_pos hw]
   rw[e2,List.take_succ_cons,cat,List.length_append,z4t,Nat.add_assoc,List.append_assoc];rfl
  ·have e1:(cat (r::l)).take k=(fr r).take k:=by
    rw[cat,List.take_append_of_le_length (by omega)]
   rw[e1,scan_stop hrl l2 (by omega) (by omega)]
   have e2:z3d (r::l) k=0:=by rw[z3d,if_neg hw]
   rw[e2];simp[cat]
theorem scan_ok{l:List Bs}{k:Nat}(hr:∀ r∈l,r.length≤64)(hk:k≤(cat l).length)(hl:l.length<4194304):z6z ((cat l).take k)=some (l.take (z3d l k),((cat (l.take (z3d l k))).length:Int)):=by
 have hc:∀ l:List Bs,(∀ r∈l,r.length≤64)→(cat l).length≤67*l.length:=by
  intro l
  induction l with
  |nil=>intro _;simp[cat]
  |cons r l ih=>
   intro h
   have:=ih fun x hx=>h x (by simp[hx])
   have:=h r (by simp)
   simp only[cat,List.length_append,z4t,List.length_cons];omega
 have:=hc l hr
 have hloop:∀ f,l.length<f→z40 (γ:=Unit) (z2y ((cat l).take k)) f ([],((0:Nat):Int))=some (.nx (l.take (z3d l k),((cat (l.take (z3d l k))).length:Int))):=fun f hf=>by
  have:=scan_loop l k [] [] f hr hk (by simp only[List.length_nil];omega) (by simp only[List.length_nil];omega) hf
  rw[List.nil_append,List.length_nil,List.nil_append,Nat.zero_add] at this
  exact this
 unfold z6z
 rw[show(0:Int)=((0:Nat):Int) from rfl,hloop _ (by omega)];rfl
theorem whole_all:∀ (l:List Bs),z3d l (cat l).length=l.length
 | []=>rfl
 |r::l=>by
  rw[z3d,cat,List.length_append,z4t,if_pos (by omega),show r.length+3+(cat l).length-(r.length+3)=(cat l).length by omega,whole_all l];rfl
theorem append_ok(l:List Bs)(safe:Int)(r:Bs)(hd:(cat l).length≤4000):z33 (cat l,safe) r=some (if r.length≤64 then(if(cat l).length+(r.length+3)≤4000 then(0,(cat (l++[r]),safe)) else(8,(cat l,safe))) else(2,(cat l,safe))):=by
 unfold z33
 rw[frame_ok,Option.bind_some]
 by_cases h:r.length≤64
 ·rw[if_pos h,if_pos h]
  dsimp only
  have hfl:=z4t r
  rw[if_neg (by decide),z2l (by omega) (by omega)]
  by_cases hb:(cat l).length+(r.length+3)≤4000
  ·rw[if_neg (by rw[decide_eq_true_eq];omega),if_pos hb,z3f (by omega),Option.bind_some,zcd]
  ·rw[if_pos (by rw[decide_eq_true_eq];omega),if_neg hb]
 ·rw[if_neg h,if_neg h];rfl
open Go.Fw Go.Mo
theorem whole_ge:∀ (l:List Bs) (s k:Nat),s≤l.length→(cat (l.take s)).length≤k→s≤z3d l k
 | [],s,k,hs,_=>by simp at hs;omega
 |r::l,0,k,_,_=>Nat.zero_le _
 |r::l,s+1,k,hs,hk=>by
  rw[List.take_succ_cons,cat,List.length_append,z4t] at hk
  have:=whole_ge l s (k-(r.length+3)) (by simpa using hs) (by omega)
  rw[z3d,if_pos (by omega)];omega
theorem z8t:∀ (l:List Bs) (s:Nat),(cat (l.take s)).length≤(cat l).length
 | [],s=>by simp
 |r::l,0=>by simp[cat]
 |r::l,s+1=>by
  have:=z8t l s
  rw[List.take_succ_cons,cat,cat,List.length_append,List.length_append];omega
theorem cat_take:∀ (l:List Bs) (k:Nat),k≤(cat l).length→(cat (l.take (z3d l k))).length≤k∧((cat l).take k).take (cat (l.take (z3d l k))).length=cat (l.take (z3d l k))
 | [],k,_=>by simp[cat,z3d]
 |r::l,k,hk=>by
  have hfl:=z4t r
  by_cases hw:r.length+3≤k
  ·have hk':k-(r.length+3)≤(cat l).length:=by rw[cat,List.length_append,z4t] at hk;omega
   obtain⟨h1,h2⟩:=cat_take l (k-(r.length+3)) hk'
   rw[z3d,if_pos hw,List.take_succ_cons,cat,List.length_append,z4t]
   refine⟨by omega,?_⟩
   have e1:(fr r++cat l).take k=fr r++(cat l).take (k-(r.length+3)):=by
    rw[List.take_append,List.take_of_length_le (l:=fr r) (by omega),z4t]
   rw[cat,e1,List.take_append,List.take_of_length_le (l:=fr r) (by omega),z4t,show r.length+3+(cat (l.take (z3d l (k-(r.length+3))))).length-(r.length+3)=(cat (l.take (z3d l (k-(r.length+3))))).length by omega,h2]
  ·rw[z3d,if_neg hw];simp[cat]
theorem all_ok(l:List Bs)(safe:Int)(hr:∀ r∈l,r.length≤64)(hd:(cat l).length≤4000):z5o (cat l,safe)=some l:=by
 have h3:=cat_len l
 have:=scan_ok (k:=(cat l).length) hr (Nat.le_refl _) (by omega)
 rw[List.take_length,whole_all,List.take_length] at this
 unfold z5o
 dsimp only
 rw[this];rfl
theorem crash_ok(l:List Bs)(s:Nat)(k:Int)(hr:∀ r∈l,r.length≤64)(hd:(cat l).length≤4000)(hs:s≤l.length):z3l (cat l,((cat (l.take s)).length:Int)) k=some (1,(cat l,((cat (l.take s)).length:Int)))∨∃ w,s≤w∧w≤l.length∧z3l (cat l,((cat (l.take s)).length:Int)) k=some (0,(cat (l.take w),((cat (l.take w)).length:Int))):=by
 have hle:=z8t l s
 have h3:=cat_len l
 unfold z3l
 dsimp only
 by_cases h0:k<0
 ·left;rw[if_pos (by rw[decide_eq_true_eq];exact h0)];simp[z2f]
 ·rw[if_neg (by rw[decide_eq_true_eq];exact h0),z7v (by omega) (by omega)]
  by_cases h1:k>((cat l).length:Int)-((cat (l.take s)).length:Int)
  ·left;rw[decide_eq_true h1];simp[z2f]
  ·right
   rw[decide_eq_false h1]
   simp only[z2f,Bool.false_eq_true,if_false]
   rw[z2l (by omega) (by omega),z3f ⟨by omega,by omega⟩,Option.bind_some,List.drop_zero]
   obtain⟨K,hK⟩:∃ K:Nat,((cat (l.take s)).length:Int)+k=K:=⟨(((cat (l.take s)).length:Int)+k).toNat,by omega⟩
   rw[hK,Int.toNat_natCast,scan_ok hr (by omega) (by omega),Option.bind_some]
   dsimp only
   obtain⟨q1,q2⟩:=cat_take l K (by omega)
   refine⟨z3d l K,whole_ge l s K hs (by omega),whole_le l K,?_⟩
   rw[z3f ⟨by rw[List.length_take];omega,by omega⟩,Option.bind_some,List.drop_zero,Int.toNat_natCast,q2]
end Go.Pu
