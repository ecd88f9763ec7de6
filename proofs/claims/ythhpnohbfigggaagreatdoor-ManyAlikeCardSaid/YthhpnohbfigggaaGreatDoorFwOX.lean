/- From the reading of an argument (the form's own) to the frame's. No program in sight. -/
import Derived.Test.YthhpnohbfigggaaGreatDoorFwFGH
import Derived.ProofKit
import Derived.ChangeOld
import Derived.OpenShut
set_option linter.all false
namespace Go.Fw
open Go.RowKit
def whole(w:World):Hp:=fun b=>w.heap[b]?
theorem whole_sub(w:World):(whole w).sub w:=fun _ _ e=>e
def z6f{α:Type}(P:Program)(T:TypeId)(t:TR α)(R:α→Prop):Prop:=
 ∀ (H:Type) (enc:TypeId×Value→H) (w:World) (spare:Nat→Bool) (held:Bool) (fuel:Nat) (cs:List Value) (d:DataW H×List MemPlace),
  DataW.trod enc P w 0 spare held fuel T cs=some d→∃ x,t.rep (whole w) cs x∧R x
theorem z6f.int{P:Program}{T:TypeId}{k:IntKind}(hu:P.underlying T=some (.int k)):z6f P T (TR.ik k) (fun x=>(Lit.int k x).wf=true):=fun H enc w spare held fuel cs d e=>by
 obtain⟨n,rfl,_,h⟩:=DataW.trod_int hu e
 exact⟨n,rfl,h⟩
theorem z6f.str{P:Program}{T:TypeId}(hu:P.underlying T=some .string):z6f P T TR.str (fun x=>x.length≤maxLen):=fun H enc w spare held fuel cs d e=>by
 obtain⟨s,rfl,_,h⟩:=DataW.trod_string hu e
 exact⟨s.data.toList,by show[Value.string s]=[Value.string ⟨s.data.toList.toArray⟩];simp,by simpa using h⟩
theorem z8v{α:Type}{t:TR α}{h:Hp}{R:α→Prop}:∀ (n:Nat) (C:Nat→List Value),(∀ i,i<n→∃ x,t.rep h (C i) x∧R x)→∃ l:List α,l.length=n∧reps t h ((List.range n).flatMap C) l∧∀ x∈l,R x
 |0,_,_=>⟨[],rfl,rfl,by simp⟩
 |n+1,C,hC=>by
  obtain⟨l,h1,h2,h3⟩:=z8v n C fun i hi=>hC i (by omega)
  obtain⟨x,hx,hr⟩:=hC n (by omega)
  refine⟨l++[x],by simp[h1],?_,?_⟩
  ·rw[List.range_succ,List.flatMap_append]
   simp only[List.flatMap_cons,List.flatMap_nil,List.append_nil]
   exact z7h h2 (reps_one hx)
  ·intro y hy
   rcases List.mem_append.1 hy with hy|hy
   ·exact h3 y hy
   ·simp at hy;subst hy;exact hr
theorem zen{n sz:Nat}{C:Nat→List Value}(hl:∀ i,i<n→(C i).length=sz):∀ {j:Nat} {u:Value},((List.range n).flatMap C)[j]?=some u→∃ i q,i<n∧j=i*sz+q∧(C i)[q]?=some u:=by
 induction n with
 |zero=>intro j u h;simp at h
 |succ n ih=>
  intro j u h
  rw[List.range_succ,List.flatMap_append] at h
  simp only[List.flatMap_cons,List.flatMap_nil,List.append_nil] at h
  have hlen:((List.range n).flatMap C).length=n*sz:=by
   clear ih h
   induction n with
   |zero=>simp
   |succ n ih2=>
    rw[List.range_succ,List.flatMap_append,List.length_append,ih2 fun i hi=>hl i (by omega)]
    simp[hl n (by omega),Nat.add_mul]
  by_cases hj:j<n*sz
  ·rw[List.getElem?_append_left (by omega)] at h
   obtain⟨i,q,h1,h2,h3⟩:=ih (fun i hi=>hl i (by omega)) h
   exact⟨i,q,by omega,h2,h3⟩
  ·rw[List.getElem?_append_right (by omega),hlen] at h
   exact⟨n,j-n*sz,by omega,by omega,h⟩
theorem z9n{w:World}{a:Addr}{n:Nat}{cs:List Value}(h:w.cells? 0 a n=some cs):cs.length=n∧∀ j u,cs[j]?=some u→w.cell? (a.add j)=some u:=by
 unfold World.cells? at h
 rw[if_pos (Nat.zero_le _)] at h
 have h1:cs.length=n:=by have:=mapM_some_length h;simpa using this
 refine⟨h1,fun j u hu=>?_⟩
 have hj:j<n:=by rw[← h1];exact(List.getElem?_eq_some_iff.1 hu).1
 have:=mapM_some_get h j j (by simp[hj])
 rw[hu] at this
 exact this
theorem z6f.sl{α:Type}{P:Program}{T E:TypeId}{t:TR α}{R:α→Prop}(hu:P.underlying T=some (.slice E))(hE:z6f P E t R)(hsz:P.cellsOf E=t.size)(h0:0<t.size) :
  z6f P T t.sl (fun l=>(∀ x∈l,R x)∧l.length≤maxLen):=fun H enc w spare held fuel cs d e=>by
 rcases DataW.trod_slice hu e with⟨rfl,_⟩|⟨a,len,cap,elems,rest,n,_,rfl,_,_,hlc,hcm,hel,hat,_⟩
 ·exact⟨[],⟨.slice none 0 0,[],rfl,⟨none,0,rfl,Nat.le_refl _,Nat.zero_le _,.inl ⟨rfl,rfl⟩⟩,rfl⟩,by simp,Nat.zero_le _⟩
 ·rw[hsz] at hat
  have each:∀ i,i<len→∃ C,w.cells? 0 (a.add (i*t.size)) t.size=some C∧∃ x,t.rep (whole w) C x∧R x:=by
   intro i hi
   have h1:=hat i hi
   have h2:elems[i]?=some (elems[i]'(by omega)):=List.getElem?_eq_getElem (by omega)
   rw[h2] at h1
   cases hc:w.cells? 0 (a.add (i*t.size)) t.size with
   |none=>rw[hc] at h1;cases h1
   |some C=>rw[hc] at h1;exact⟨C,rfl,hE H enc w spare held n C _ h1⟩
  have hfun:∃ C:Nat→List Value,∀ i,i<len→w.cells? 0 (a.add (i*t.size)) t.size=some (C i)∧∃ x,t.rep (whole w) (C i) x∧R x:=by
   refine⟨fun i=>if hi:i<len then Classical.choose (each i hi) else[],fun i hi=>?_⟩
   simp only[dif_pos hi]
   exact Classical.choose_spec (each i hi)
  obtain⟨C,hC⟩:=hfun
  obtain⟨l,hl1,hl2,hl3⟩:=z8v (t:=t) (h:=whole w) (R:=R) len C fun i hi=>(hC i hi).2
  refine⟨l,⟨_,_,rfl,⟨some a,cap,by rw[hl1],by rw[hl1];exact hlc,hcm,?_⟩,hl2⟩,hl3,by rw[hl1];omega⟩
  by_cases hz:len=0
  ·subst hz;left;exact⟨hl1,by simp⟩
  ·right
   have cellAt:∀ i j u,i<len→(C i)[j]?=some u→w.cell? ((a.add (i*t.size)).add j)=some u:=fun i j u hi hu=>(z9n (hC i hi).1).2 j u hu
   have hlenC:∀ i,i<len→(C i).length=t.size:=fun i hi=>(z9n (hC i hi).1).1
   have h00:0<(C 0).length:=by rw[hlenC 0 (by omega)];exact h0
   have hc0:=cellAt 0 0 ((C 0)[0]) (by omega) (List.getElem?_eq_getElem h00)
   have hspot:a.spot=none:=by
    simp only[Nat.zero_mul,Addr.add_zero'] at hc0
    unfold World.cell? at hc0
    split at hc0
    ·split at hc0
     ·cases hc0
     ·rename_i hs;cases hsp:a.spot<;>simp_all
    ·cases hc0
   obtain⟨b,off,sp⟩:=a
   simp only at hspot
   subst hspot
   have hblk:∃ X ty fz,w.heap[b]?=some (.cells X ty fz):=by
    unfold World.cell? at hc0
    split at hc0
    ·rename_i X ty fz hx
     simp only[Nat.zero_mul,Addr.add_zero'] at hx
     exact⟨X,ty,fz,hx⟩
    ·cases hc0
   obtain⟨X,ty,fz,hX⟩:=hblk
   refine⟨b,off,X,ty,fz,rfl,hX,fun j u hu=>?_⟩
   obtain⟨i,q,hi,rfl,hq⟩:=zen (C:=C) hlenC hu
   have:=cellAt i q u hi hq
   rw[z3h,z3h,cell_of_row w b _ X ty fz hX,Nat.add_assoc] at this
   exact this
def OpensD{α:Type}(P:Program)(T:TypeId)(t:TR α)(R:α→Prop)(D:(H:Type)→DataW H→α→Prop):Prop:=
 ∀ (H:Type) (enc:TypeId×Value→H) (w:World) (spare:Nat→Bool) (held:Bool) (fuel:Nat) (cs:List Value) (d:DataW H×List MemPlace),
  DataW.trod enc P w 0 spare held fuel T cs=some d→∃ x,t.rep (whole w) cs x∧R x∧D H d.1 x
theorem z6f.d{α:Type}{P:Program}{T:TypeId}{t:TR α}{R:α→Prop}(h:z6f P T t R):OpensD P T t R (fun _ _ _=>True):=fun H enc w spare held fuel cs d e=>
 let ⟨x,a,b⟩:=h H enc w spare held fuel cs d e;⟨x,a,b,trivial⟩
def SlD{α:Type}(D:(H:Type)→DataW H→α→Prop)(H:Type)(d:DataW H)(l:List α):Prop:=
 l=[]∨∃ elems rest,d=.slice elems rest∧elems.length=l.length∧∀ x∈l,∃ e,e∈elems∧D H e x
theorem OpensD.sl{α:Type}{P:Program}{T E:TypeId}{t:TR α}{R:α→Prop}{D:(H:Type)→DataW H→α→Prop}(hu:P.underlying T=some (.slice E))(hE:OpensD P E t R D)(hsz:P.cellsOf E=t.size)(h0:0<t.size) :
  OpensD P T t.sl (fun l=>(∀ x∈l,R x)∧l.length≤maxLen) (SlD D):=fun H enc w spare held fuel cs d e=>by
 rcases DataW.trod_slice hu e with⟨rfl,_⟩|⟨a,len,cap,elems,rest,n,_,rfl,hde,_,hlc,hcm,hel,hat,_⟩
 ·exact⟨[],⟨.slice none 0 0,[],rfl,⟨none,0,rfl,Nat.le_refl _,Nat.zero_le _,.inl ⟨rfl,rfl⟩⟩,rfl⟩,⟨by simp,Nat.zero_le _⟩,.inl rfl⟩
 ·rw[hsz] at hat
  have each:∀ i,i<len→∃ C,w.cells? 0 (a.add (i*t.size)) t.size=some C∧∃ x,t.rep (whole w) C x∧R x∧∃ e,e∈elems.map (·.1)∧D H e x:=by
   intro i hi
   have h1:=hat i hi
   have h2:elems[i]?=some (elems[i]'(by omega)):=List.getElem?_eq_getElem (by omega)
   rw[h2] at h1
   cases hc:w.cells? 0 (a.add (i*t.size)) t.size with
   |none=>rw[hc] at h1;cases h1
   |some C=>rw[hc] at h1;obtain⟨x,q1,q2,q3⟩:=hE H enc w spare held n C _ h1;exact⟨C,rfl,x,q1,q2,_,List.mem_map_of_mem (List.getElem_mem _),q3⟩
  have hfun:∃ C:Nat→List Value,∀ i,i<len→w.cells? 0 (a.add (i*t.size)) t.size=some (C i)∧∃ x,t.rep (whole w) (C i) x∧R x∧∃ e,e∈elems.map (·.1)∧D H e x:=by
   refine⟨fun i=>if hi:i<len then Classical.choose (each i hi) else[],fun i hi=>?_⟩
   simp only[dif_pos hi]
   exact Classical.choose_spec (each i hi)
  obtain⟨C,hC⟩:=hfun
  obtain⟨l,hl1,hl2,hl3⟩:=z8v (t:=t) (h:=whole w) (R:=fun x=>R x∧∃ e,e∈elems.map (·.1)∧D H e x) len C fun i hi=>(hC i hi).2
  refine⟨l,⟨_,_,rfl,⟨some a,cap,by rw[hl1],by rw[hl1];exact hlc,hcm,?_⟩,hl2⟩,⟨fun x hx=>(hl3 x hx).1,by rw[hl1];omega⟩,.inr ⟨_,_,congrArg Prod.fst hde,by rw[List.length_map,hl1,hel],fun x hx=>(hl3 x hx).2⟩⟩
  by_cases hz:len=0
  ·subst hz;left;exact⟨hl1,by simp⟩
  ·right
   have cellAt:∀ i j u,i<len→(C i)[j]?=some u→w.cell? ((a.add (i*t.size)).add j)=some u:=fun i j u hi hu=>(z9n (hC i hi).1).2 j u hu
   have hlenC:∀ i,i<len→(C i).length=t.size:=fun i hi=>(z9n (hC i hi).1).1
   have h00:0<(C 0).length:=by rw[hlenC 0 (by omega)];exact h0
   have hc0:=cellAt 0 0 ((C 0)[0]) (by omega) (List.getElem?_eq_getElem h00)
   have hspot:a.spot=none:=by
    simp only[Nat.zero_mul,Addr.add_zero'] at hc0
    unfold World.cell? at hc0
    split at hc0
    ·split at hc0
     ·cases hc0
     ·rename_i hs;cases hsp:a.spot<;>simp_all
    ·cases hc0
   obtain⟨b,off,sp⟩:=a
   simp only at hspot
   subst hspot
   have hblk:∃ X ty fz,w.heap[b]?=some (.cells X ty fz):=by
    unfold World.cell? at hc0
    split at hc0
    ·rename_i X ty fz hx
     simp only[Nat.zero_mul,Addr.add_zero'] at hx
     exact⟨X,ty,fz,hx⟩
    ·cases hc0
   obtain⟨X,ty,fz,hX⟩:=hblk
   refine⟨b,off,X,ty,fz,rfl,hX,fun j u hu=>?_⟩
   obtain⟨i,q,hi,rfl,hq⟩:=zen (C:=C) hlenC hu
   have:=cellAt i q u hi hq
   rw[z3h,z3h,cell_of_row w b _ X ty fz hX,Nat.add_assoc] at this
   exact this
def z6k{α:Type}(P:Program)(fs:List Field)(o:Nat)(t:TR α)(R:α→Prop):Prop:=
 ∀ (H:Type) (enc:TypeId×Value→H) (w:World) (spare:Nat→Bool) (held:Bool) (n:Nat) (cs:List Value),cs.length=o+t.size →
  (∀ f∈fs,∃ d,DataW.trod enc P w 0 spare held n f.type ((cs.drop f.offset).take (P.cellsOf f.type))=some d)→∃ x,t.rep (whole w) (cs.drop o) x∧R x
theorem z6k.last{α:Type}{P:Program}{f:Field}{o:Nat}{t:TR α}{R:α→Prop}(ho:f.offset=o)(h:z6f P f.type t R)(hs:P.cellsOf f.type=t.size):z6k P [f] o t R:=fun H enc w spare held n cs hl hf=>by
 obtain⟨d,hd⟩:=hf f (by simp)
 rw[ho,hs,List.take_of_length_le (by simp;omega)] at hd
 exact h H enc w spare held n _ d hd
theorem z6k.cons{α β:Type}{P:Program}{f:Field}{fs:List Field}{o:Nat}{a:TR α}{b:TR β}{R:α→Prop}{R':β→Prop}(ho:f.offset=o)(h:z6f P f.type a R)(hs:P.cellsOf f.type=a.size)(h':z6k P fs (o+a.size) b R') :
  z6k P (f::fs) o (a.pair b) (fun x=>R x.1∧R' x.2):=fun H enc w spare held n cs hl hf=>by
 obtain⟨d,hd⟩:=hf f (by simp)
 rw[ho,hs] at hd
 obtain⟨x,hx,hr⟩:=h H enc w spare held n _ d hd
 have hl':cs.length=o+a.size+b.size:=by rw[hl];show o+(a.size+b.size)=_;omega
 obtain⟨y,hy,hr'⟩:=h' H enc w spare held n cs hl' fun g hg=>hf g (by simp[hg])
 refine⟨(x,y),⟨_,_,?_,hx,hy⟩,hr,hr'⟩
 rw[← List.drop_drop]
 exact(List.take_append_drop _ _).symm
theorem z6f.struct{α:Type}{P:Program}{T:TypeId}{fs:List Field}{t:TR α}{R:α→Prop}(hu:P.underlying T=some (.struct fs.toArray))(h:z6k P fs 0 t R)(hs:P.cellsOf T=t.size):z6f P T t R:=fun H enc w spare held fuel cs d e=>by
 obtain⟨xs,n,_,_,hl,hn,hat⟩:=DataW.trod_struct hu e
 have:=h H enc w spare held n cs (by rw[hl,hs];omega) fun f hf=>by
  obtain⟨i,hi,he⟩:=List.getElem_of_mem hf
  have h1:=hat i f (by simp[hi,he])
  have hi':i<xs.length:=by rw[hn];simpa using hi
  rw[List.getElem?_eq_getElem hi'] at h1
  exact⟨_,h1⟩
 simpa using this
end Go.Fw
