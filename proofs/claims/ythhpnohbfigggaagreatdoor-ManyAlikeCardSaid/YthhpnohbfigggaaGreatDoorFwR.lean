/- A region that draws its order, with reads among allotments: reads may be taken first, as long as whoever writes waits for them. -/
import Derived.Test.YthhpnohbfigggaaGreatDoorFwIKS
import Derived.OrdersHeld
set_option linter.all false
namespace Go.Fw
open Go.RowKit
section
variable {P:Program}{ops:Array Oper}{Q:Exit→Act→World→Prop}{md:Region.Mode}{S:World→Prop}{Nd:List Nat}
def z8y(P:Program)(md:Region.Mode)(ops:Array Oper)(Q:Exit→Act→World→Prop)(S:World→Prop)(Nd:List Nat):Nat→Array Bool→Act→World→Prop
 |0,listed,a,w=>Region.ready md ops listed=[]∧Q .normal a w
 |fuel+1,listed,a,w=>(Region.ready md ops listed=[]→Q .normal a w)∧∀ i∈Region.ready md ops listed,wpOp P ops Q i (fun a' w'=>(i∈Nd→S w')∧z8y P md ops Q S Nd fuel (listed.setIfInBounds i true) a' w') a w
theorem zec:∀ (fuel:Nat) (listed:Array Bool) (a:Act) (w:World),z8y P md ops Q S Nd fuel listed a w→wpAny P md ops Q fuel listed a w
 |0,_,_,_,h=>h
 |fuel+1,_,_,_,h=>⟨h.1,fun i hi=>wpOp_mono (fun a' w' h'=>zec fuel _ a' w' h'.2) (h.2 i hi)⟩
def okRd(md:Region.Mode)(ops:Array Oper)(Nd:List Nat)(listed:Array Bool)(i:Nat):Bool:=Nd.contains i&&(List.range ops.size).all fun j=>listed.getD j true||Nd.contains j||(ops[j]?).any fun o=>o.after.any fun e=>Region.binds md e&&e.on==i
theorem zbp{i:Nat}{oi:Oper}{v:Value}{S':World→Prop}(hi:ops[i]?=some oi)(hsel:∀ (j:Nat) (o:Oper) cs b,ops[j]?=some o→o.op≠.select cs b)
  (hQ:∀ c a w,Q (.panic c) (a.put oi.dst v) w→Q (.panic c) a w) :
  ∀ (fuel:Nat) (listed:Array Bool) (a:Act) (w:World),((S'=S∧okRd md ops Nd listed i=true)∨(S'=(fun _=>True)∧i∉Nd)) →
   (∀ j oj,ops[j]?=some oj→j≠i→listed.getD j true=false→(∀ e∈oj.after,Region.binds md e=true→e.on≠i)→oi.apart ops oj=true) →
   i∈Region.ready md ops listed→YieldsIf P ops S' oi v a→S' w →
   z8y P md ops Q S Nd fuel (listed.setIfInBounds i true) (a.put oi.dst v) w→z8y P md ops Q S Nd (fuel+1) listed a w:=by
 intro fuel
 induction fuel with
 |zero=>
  intro listed a w hk _ hr hy hS H
  refine⟨fun h=>(by rw[h] at hr;cases hr),fun j hj=>?_⟩
  by_cases hji:j=i
  ·subst hji
   exact hy.wpOp hi hS ⟨fun hn=>hk.elim (fun h=>h.1▸hS) fun h=>absurd hn h.2,H⟩
  ·have:=ready_mono hj hji
   rw[H.1] at this
   cases this
 |succ fuel ih=>
  intro listed a w hk hfree hr hy hS H
  refine⟨fun h=>(by rw[h] at hr;cases hr),fun j hj=>?_⟩
  by_cases hji:j=i
  ·subst hji
   exact hy.wpOp hi hS ⟨fun hn=>hk.elim (fun h=>h.1▸hS) fun h=>absurd hn h.2,H⟩
  ·have h1:=H.2 j (ready_mono hj hji)
   obtain⟨hjun,oj,hoj,hall⟩:=mem_ready.1 hj
   have hnot:∀ e∈oj.after,Region.binds md e=true→e.on≠i:=fun e he hb heq=>by
    have h1:=hall e he hb
    have h0:=(mem_ready.1 hr).1
    rw[heq] at h1
    rcases Nat.lt_or_ge i listed.size with h'|h'
    ·simp[h'] at h0 h1;rw[h0] at h1;cases h1
    ·simp[Array.getElem?_eq_none h'] at h1
   have hjN:okRd md ops Nd listed i=true→j∈Nd:=fun hok=>by
    simp only[okRd,Bool.and_eq_true] at hok
    have:=List.all_eq_true.1 hok.2 j (List.mem_range.2 (Array.getElem?_eq_some_iff.1 hoj).1)
    rw[hoj,hjun] at this
    simp only[Bool.false_or,Option.any_some,Bool.or_eq_true,List.contains_iff_mem,Array.any_eq_true',Bool.and_eq_true,beq_iff_eq] at this
    rcases this with h|⟨e,he,hb,ho⟩
    ·exact h
    ·exact absurd ho (hnot e he hb)
   have h2:=wpOp_putIf hoj (hfree j oj hoj hji hjun hnot) (fun cs b=>hsel i oi cs b hi) (fun cs b=>hsel j oj cs b hoj) hQ hy h1
   have hfree':∀ k ok,ops[k]?=some ok→k≠i→(listed.setIfInBounds j true).getD k true=false →
     (∀ e∈ok.after,Region.binds md e=true→e.on≠i)→oi.apart ops ok=true:=fun k ok hk hki hun hno=>by
    refine hfree k ok hk hki ?_ hno
    by_cases hjk:j=k
    ·subst hjk;exact hjun
    ·rw[getD_set_ne true hjk] at hun;exact hun
   have hk':(S'=S∧okRd md ops Nd (listed.setIfInBounds j true) i=true)∨(S'=(fun _=>True)∧i∉Nd):=hk.imp (fun h=>⟨h.1,by
    simp only[okRd,Bool.and_eq_true] at h ⊢
    refine⟨h.2.1,List.all_eq_true.2 fun k hk=>?_⟩
    have:=List.all_eq_true.1 h.2.2 k hk
    simp only[Bool.or_eq_true] at this ⊢
    rcases this with(h|h)|h
    ·left;left
     by_cases hjk:j=k
     ·subst hjk;rw[hjun] at h;cases h
     ·rw[getD_set_ne true hjk];exact h
    ·exact .inl (.inr h)
    ·exact .inr h⟩) id
   have hSj:∀ w',(j∈Nd→S w')→S' w':=fun w' hw=>by
    rcases hk with h|h
    ·rw[h.1];exact hw (hjN h.2)
    ·rw[h.1];trivial
   refine wpOp_mono (fun a' w' h3=>⟨h3.2.1,ih (listed.setIfInBounds j true) a' w' hk' hfree' (ready_mono hr (Ne.symm hji)) h3.1 (hSj w' h3.2.1) ?_⟩) h2
   rw[Array.setIfInBounds_comm _ _ hji]
   exact h3.2.2
end
def RR(P:Program)(ops:Array Oper)(K:Act→World→Prop)(Q0:Exit→Act→World→Prop)(c:Cx)(S:World→Prop)(Nd:List Nat)(f:Nat)(listed:Array Bool)(env:Env)(L:List It):Prop:=
 ∀ a w,St c env L a w→S w→z8y P .any ops (z50 ops K Q0) S Nd f listed a w
section
variable {P:Program}{Q Q0:Exit→Act→World→Prop}{c:Cx}{env env':Env}{L L':List It}{r:List Code}{ops:Array Oper}{K:Act→World→Prop}{S:World→Prop}{Nd:List Nat}{f:Nat}{listed:Array Bool}
theorem GL.regionR{id:Nat}{l:List Oper}(hq:c.still=false)(hm:P.follows .mixedOrders=true)
  (h:∀ a w,St c env L a w→∃ S Nd,S w∧RR P l.toArray (wps P Q r) Q c S Nd l.length (Array.replicate l.length false) env L):GL P Q c (.region id l.toArray true::r) env L:=fun a w st=>by
 refine Go.Code.wp_mono (Q:=z50 l.toArray (wps P Q r) Q) (fun e a w q=>by cases e<;>first|exact q|exact q a.tmps (fun _ _=>rfl)) (wp_region_any hm ?_)
 obtain⟨S,Wr,hS,h⟩:=h a {w with drawn:=w.drawn+1} (st.drew hq)
 have:=zec _ _ _ _ (h a {w with drawn:=w.drawn+1} (st.drew hq) hS)
 simpa using this
theorem RR.rd{d:Nat}{op:Op}{ty:TypeId}{pos:String}{af:Array Edge}{g:Option (Nat×Bool)}{v:Value}(i:Nat)(hi:ops[i]?=some ⟨some d,op,ty,pos,af,g⟩)
  (hB:(Region.noSelect ops&&(Region.ready .any ops listed).contains i&&Region.free .any ops listed i&&okRd .any ops Nd listed i)=true)(hg:wanted ops env g=some true)(hd:Slot c d)
  (hr:∀ a w,St c env L a w→∀ w',S w'→(execOp a.eval ⟨some d,op,ty,pos,af,g⟩).run P w'=.ok (.value v) w')(k:RR P ops K Q0 c S Nd f (listed.setIfInBounds i true) (put env d v) L):RR P ops K Q0 c S Nd (f+1) listed env L:=fun a w st hS=>by
 simp only[Bool.and_eq_true] at hB
 exact zbp hi (Region.noSelect_spec hB.1.1.1) (fun c a w h t ht=>h t (zd5 hi ht)) f listed a w (.inl ⟨rfl,hB.2⟩) (Region.free_spec hi hB.1.2) (by simpa using hB.1.1.2) (.inl ⟨zw (o:=⟨some d,op,ty,pos,af,g⟩) st.env hg,hr a w st⟩) hS (k _ _ (st.put v hd) hS)
theorem RR.pure{d:Nat}{op:Op}{ty:TypeId}{pos:String}{af:Array Edge}{g:Option (Nat×Bool)}{v:Value}(i:Nat)(hi:ops[i]?=some ⟨some d,op,ty,pos,af,g⟩)
  (hB:(Region.noSelect ops&&(Region.ready .any ops listed).contains i&&Region.free .any ops listed i && !(Nd.contains i))=true)(hg:wanted ops env g=some true)(hd:Slot c d)
  (hr:∀ a w,St c env L a w→∀ w',(execOp a.eval ⟨some d,op,ty,pos,af,g⟩).run P w'=.ok (.value v) w')(k:RR P ops K Q0 c S Nd f (listed.setIfInBounds i true) (put env d v) L):RR P ops K Q0 c S Nd (f+1) listed env L:=fun a w st hS=>by
 simp only[Bool.and_eq_true] at hB
 exact zbp (S':=fun _=>True) hi (Region.noSelect_spec hB.1.1.1) (fun c a w h t ht=>h t (zd5 hi ht)) f listed a w (.inr ⟨rfl,by simpa using hB.2⟩) (Region.free_spec hi hB.1.2) (by simpa using hB.1.1.2) (.inl ⟨zw (o:=⟨some d,op,ty,pos,af,g⟩) st.env hg,fun w' _=>hr a w st w'⟩) trivial (k _ _ (st.put v hd) hS)
theorem RR.done(hr:(Region.ready .any ops listed).isEmpty=true)(h:∀ a w,St c env L a w→K a w):∀ a w,St c env L a w→z8y P .any ops (z50 ops K Q0) S Nd f listed a w:=fun a w st=>by
 have e:=List.isEmpty_iff.1 hr
 cases f with
 |zero=>exact⟨e,h a w st⟩
 |succ f=>exact⟨fun _=>h a w st,by rw[e];simp⟩
theorem wpOp_of_RL{o:Oper}{i:Nat}{Kx:Act→World→Prop}{Qx:Exit→Act→World→Prop}(hi:ops[i]?=some o){a:Act}{w:World}(h:RL .plain P ops (Exit.then Kx Qx) c [o] env L)(st:St c env L a w):wpOp P ops Qx i Kx a w:=by
 have:=h a w st
 unfold wpOp
 simp only[hi]
 unfold wpList at this
 exact this
def RRs(P:Program)(ops:Array Oper)(K:Act→World→Prop)(Q0:Exit→Act→World→Prop)(c:Cx)(S:World→Prop)(Nd:List Nat)(f:Nat)(listed:Array Bool)(env:Env)(L:List It):List Nat→Prop
 | []=>True
 |i::r=>(∃ o,ops[i]?=some o∧RL .plain P ops (Exit.then (fun a w=>(i∈Nd→S w)∧z8y P .any ops (z50 ops K Q0) S Nd f (listed.setIfInBounds i true) a w) (z50 ops K Q0)) c [o] env L)∧RRs P ops K Q0 c S Nd f listed env L r
theorem RRs.at:∀ {is:List Nat},RRs P ops K Q0 c S Nd f listed env L is→∀ i∈is,∃ o,ops[i]?=some o∧RL .plain P ops (Exit.then (fun a w=>(i∈Nd→S w)∧z8y P .any ops (z50 ops K Q0) S Nd f (listed.setIfInBounds i true) a w) (z50 ops K Q0)) c [o] env L
 | [],_,i,h=>by simp at h
 |j::r,⟨h1,h2⟩,i,h=>by
  rcases List.mem_cons.1 h with rfl|h
  ·exact h1
  ·exact RRs.at h2 i h
theorem RR.all{rs:List Nat}(hB:decide (Region.ready .any ops listed=rs)=true)(hne:rs≠[])(h:RRs P ops K Q0 c S Nd f listed env L rs):∀ a w,St c env L a w→z8y P .any ops (z50 ops K Q0) S Nd (f+1) listed a w:=fun a w st=>by
 have hr:=of_decide_eq_true hB
 refine⟨fun e=>absurd (hr▸e) hne,fun i hi=>?_⟩
 rw[hr] at hi
 obtain⟨o,ho,h⟩:=h.at i hi
 exact wpOp_of_RL ho h st
theorem RR.next{i:Nat}(hS:∀ a w,St c env L a w→S w)(k:RR P ops K Q0 c S Nd f listed env L):RL .plain P ops (Exit.then (fun a w=>(i∈Nd→S w)∧z8y P .any ops (z50 ops K Q0) S Nd f listed a w) (z50 ops K Q0)) c [] env L:=
 fun a w st=>⟨fun _=>hS a w st,k a w st (hS a w st)⟩
theorem RR.wrote{i:Nat}(hi:Nd.contains i=false)(k:∀ a w,St c env L a w→z8y P .any ops (z50 ops K Q0) S Nd f listed a w):RL .plain P ops (Exit.then (fun a w=>(i∈Nd→S w)∧z8y P .any ops (z50 ops K Q0) S Nd f listed a w) (z50 ops K Q0)) c [] env L:=
 fun a w st=>⟨fun h=>by simp at hi;exact absurd h hi,k a w st⟩
end
end Go.Fw
