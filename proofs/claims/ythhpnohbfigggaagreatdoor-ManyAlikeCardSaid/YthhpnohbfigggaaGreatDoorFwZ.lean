/- A struct with a pointer to memory of the call's own; numbers in decimal and texts cut up, by the library's contracts. No program in sight. -/
import Derived.Test.YthhpnohbfigggaaGreatDoorFwIKS
import Derived.Shelf.Strconv.Itoa3
import Derived.Shelf.Strconv.Atoi
import Derived.Shelf.Strings.Split
import Derived.Lib.LaidTab
import Derived.Lib.SmallJoins
import Derived.Lib.SplitLaws
set_option linter.all false
namespace Go.Fw
open Go.RowKit
theorem VR.rawPt{α:Type}{t:TR α}{u:Value}{d:α}{L:List It}(n:Nat){A:It}(hA:L[n]?=some A)(hp:PtOf A t u d):VR TR.raw u u L:=fun S f hi=>by
 obtain⟨_,b,off,C,ty,fz,cs,_,rfl,_⟩:=hp S _ (hi n A hA)
 exact⟨[_],rfl,rfl,rfl⟩
theorem z90.raw{α:Type}{r:TR α}{u:Value}{l:α}(hr:r.agg=false):z90 TR.raw u r u l r l:=fun S cs ⟨e,_⟩ ⟨ds,e2,k⟩=>by
 have hl:=r.len k
 have h1:=r.one hr
 match ds,hl,e2,k with
 | [x],_,e2,k=>
  rw[hr] at e2
  have:u=x:=e2
  rw[e,this];exact k
 | [],hl,_,_=>simp at hl;omega
 |_::_::_,hl,_,_=>simp at hl;omega
theorem ptr_held{α β γ:Type}{t':TR β}{d':β}{r:TR γ}{u:Value}{l:γ}{t:TR α}{d:α}{U:Hp}{v:Value}(h:z90 t' d' r u l t d)(a:t'.ptr.vrep U v d')(k:r.vrep U u l):t.ptr.vrep U v d:=by
 obtain⟨cs,e,b,off,C,ty,fz,xs,rfl,h1,h2,h3⟩:=a
 exact⟨_,e,b,off,C,ty,fz,xs,rfl,h1,h U xs h2 k,h3⟩
structure Tab(P:Program)(g:Nat)(S:Hp):Prop where
 pow:∀ w,S.sub w→Lib.TabIs P w "internal/strconv.uint64pow10" .u64 Lib.pow10Tab
 max:∃ m,∀ w,S.sub w→w.cell? ⟨g,0,none⟩=some (.int .i64 m)
theorem Tab.mono{P:Program}{g:Nat}{S U:Hp}(h:Tab P g S)(le:Hp.le S U):Tab P g U:=⟨fun w hw=>h.pow w (Hp.le_sub le hw),let ⟨m,k⟩:=h.max;⟨m,fun w hw=>k w (Hp.le_sub le hw)⟩⟩
def zci(s sep:List UInt8):List (List UInt8):=(Lib.splitB ⟨sep.toArray⟩ 0 (Lib.countB ⟨s.toArray⟩ ⟨sep.toArray⟩) ⟨s.toArray⟩).map fun b=>b.data.toList
theorem reps_str{h:Hp}:∀ l:List (List UInt8),reps TR.str h (l.map fun x=>Value.string ⟨x.toArray⟩) l
 | []=>rfl
 |x::l=>⟨[_],_,rfl,rfl,reps_str l⟩
theorem post_alloc{α:Type}{t:TR α}{E:TypeId}{w:World}{S:Hp}{C:List Value}{l:List α}(hS:S.sub w)(hl:C.length=l.length*t.size)(hr:reps t S C l)(hm:l.length≤maxLen) :
  Post w S (fun(o:Value)=>o) (fun(o:Value)=>[own E t o l]) (.returned (.slice (some ⟨w.heap.size,0,none⟩) l.length l.length)) (w.alloc (.cells C.toArray E)):=by
 refine⟨_,rfl,zac w _,S,fun _=>Hp.one w.heap.size (.cells C.toArray E (0,0)),Hp.le_refl S,Hp.sub_grow hS (zac w _),fun b hb=>.inl hb,fun i hi=>⟨Hp.one_sub (heap_alloc_new w _),fun b=>?_,fun b hb=>by rw[Hp.one_ne hb];exact Nat.le_refl _⟩,fun i j hi hj hij=>by simp at hi hj;omega,fun i A hA=>?_⟩
 ·by_cases hb:S b=none
  ·exact .inl hb
  ·right
   have:=Hp.lt_of_sub hS hb
   simp[Hp.one];omega
 ·match i,hA with
  |0,hA=>
   simp at hA;subst hA
   exact⟨C,⟨hl,.inr ⟨w.heap.size,l.length,C.toArray,rfl,Hp.one_self _ _,Nat.le_refl _,hm,by simp[hl],by rw[← hl];simp⟩⟩,hr⟩
theorem belowGrow0(w:World)(k:Nat)(os:Array Obj):Below w.heap.size w (Go.Sort.grow (w.drewN k) os):=
 ⟨rfl,rfl,rfl,by show w.heap.size≤(w.heap++os).size;rw[Array.size_append];omega,fun j hj=>Array.getElem?_append_left (xs:=w.heap) (ys:=os) hj⟩
theorem laid_tail{P:Program}{x:String×DataW Unit}{r:List (String×DataW Unit)}{w:World}(h:laidMet P (x::r) w):laidMet P r w:=by
 obtain⟨ps,hv,hnd,hrows⟩:=h
 obtain⟨n,d⟩:=x
 obtain⟨g,t,cs,fuel,p,q,_,_,_,_,hq,rfl⟩:=hv
 exact⟨q,hq,List.Nodup.sublist (List.sublist_append_right _ _) hnd,fun b off hm=>hrows b off (List.mem_append_right _ hm)⟩
end Go.Fw
