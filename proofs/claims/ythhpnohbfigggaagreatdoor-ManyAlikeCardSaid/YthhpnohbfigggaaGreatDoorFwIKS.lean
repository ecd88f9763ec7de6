/- Calls that are lent memory of the caller's own and give it back changed; slices.Delete. No program in sight. -/
import Derived.Test.YthhpnohbfigggaaGreatDoorFwFGH
import Derived.ChangeKeysEq
import Derived.Laws.Strings3
import Derived.Laws.Cover1
import Derived.Laws.Concat
import Derived.Laws.BytesString
import Derived.Lib.ConvBytes
set_option linter.all false
namespace Go.Fw
open Go.RowKit
def zaj{O:Type}(B:World)(S:Hp)(V:O→Value)(LR:O→List It):Ending→World→Prop:=fun e w'=>
 ∃ o,e=.returned (V o)∧Below B.heap.size B w'∧∃ S' g,Hp.le S S'∧(∀ b,S' b≠none→S b≠none∨B.heap.size≤b)∧z2h B.heap.size S' g (LR o).length w'∧Its (LR o) S' g
theorem St.toPostM{c:Cx}{env:Env}{a:Act}{w:World}{O:Type}{V:O→Value}{LR:O→List It}(o:O)(st:St c env (LR o) a w):zaj c.w0 c.S0 V LR (.returned (V o)) w:=by
 obtain⟨S,f,e1,e2,e3,e4⟩:=st.heap
 exact⟨o,rfl,st.below,S,f,e1,e2,e3,e4⟩
theorem z2e{P:Program}{fid:FuncId}{fn:Func}{code:Code}(nt:Nat)(hf:P.funcs[fid]?=some fn)(hnt:fn.ntmps=nt)(hb:fn.body=some code){args:Array Value}{w:World}{R:Ending→World→Prop}(B:World)(S:Hp)(f:Nat→Hp)(env:Env)(L L':List It)
  (hn:Nat.ble args.size nt=true)(he:zbb args env)(hB:Below B.heap.size B w)(hO:z2h B.heap.size S f L.length w)(hI:Its L S f)(hL:AllP S L')
  (h:GL P (bodyPost P fn R) ⟨B,S,nt,false,[]⟩ [code] env (L++L')):Calls P fid args w R:=by
 refine calls_of_wp hf hb (Go.Code.wp_mono (fun e a w q=>by cases e<;>exact q) (h _ w ?_))
 have hn':=Nat.le_of_ble_eq_true hn
 refine⟨rfl,by simp[hnt];omega,?_,hB,(fun q=>by cases q),S,fcat f L.length fun _=>Hp.emp,Hp.le_refl S,fun b hb=>.inl hb,?_,hI.cat (Hp.le_refl S) (fun i A hA=>hL.at i A hA)⟩
 ·intro t v e
  have:=he.look e
  obtain⟨h1,h2⟩:=Array.getElem?_eq_some_iff.1 this
  simp only
  rw[Array.getElem?_append_left h1]
  exact this
 ·rw[List.length_append];exact hO.emp hB.size _
def keep(X:Hp):It:=⟨fun _ f=>f=X,fun _ h=>h⟩
def zbo(L:List It)(ns:List Nat):List It:=ns.foldl (fun L n=>L.set n gone) L
theorem z4n:∀ (ns:List Nat) (L:List It),(zbo L ns).length=L.length
 | [],_=>rfl
 |n::ns,L=>by show(zbo (L.set n gone) ns).length=_;rw[z4n ns,List.length_set]
theorem zbh:∀ (ns:List Nat) (L:List It) (i:Nat),i∉ns→(zbo L ns)[i]?=L[i]?
 | [],_,_,_=>rfl
 |n::ns,L,i,h=>by
  show(zbo (L.set n gone) ns)[i]?=_
  rw[zbh ns _ i (fun h'=>h (List.mem_cons_of_mem _ h')),List.getElem?_set_ne (fun e=>h (by rw[e];exact List.mem_cons_self))]
theorem goneAt_in:∀ (ns:List Nat) (L:List It) (i:Nat) (A:It),ns.Nodup→i∈ns→(zbo L ns)[i]?=some A→A=gone
 |n::ns,L,i,A,hn,h,e=>by
  replace e:(zbo (L.set n gone) ns)[i]?=some A:=e
  obtain⟨h1,h2⟩:=List.nodup_cons.1 hn
  rcases List.mem_cons.1 h with rfl|h'
  ·rw[zbh ns _ i h1] at e
   rw[List.getElem?_set] at e
   simp at e
   exact e.2.symm
  ·exact goneAt_in ns _ i A h2 h' e
def Sure(A:It)(R:Hp→Prop):Prop:=∀ S f,A.P S f→R S
theorem Sure.imm{α:Type}{t:TR α}{v:Value}{d:α}:Sure (imm t v d) (fun S=>t.vrep S v d):=fun _ _ h=>h
theorem St.lendK{c:Cx}{env:Env}{L:List It}{a:Act}{w:World}(st:St c env L a w)(ns:List Nat)(hns:ns.Nodup){Ls:List It}(hLs:ns.map (fun i=>L[i]?)=Ls.map some) :
  ∃ (S:Hp) (f:Nat→Hp) (X:Hp),Hp.le c.S0 S∧(∀ b,S b≠none→c.S0 b≠none∨c.w0.heap.size≤b)∧z2h c.w0.heap.size S f L.length w∧Its L S f ∧
   (∀ i,i<L.length→i∉ns→Hp.le (f i) X)∧z2h c.w0.heap.size S (fun j=>if j<ns.length then f (ns.getD j 0) else X) (Ls++[keep X]).length w∧Its (Ls++[keep X]) S (fun j=>if j<ns.length then f (ns.getD j 0) else X):=by
 obtain⟨S,f,e1,e2,e3,e4⟩:=st.heap
 have hlen:ns.length=Ls.length:=by have:=congrArg List.length hLs;simpa using this
 have key:∀ j,j<ns.length→ns.getD j 0<L.length∧L[ns.getD j 0]?=Ls[j]?∧ns.getD j 0∈ns:=by
  intro j hj
  have e:=congrArg (fun l=>l[j]?) hLs
  have hj':j<Ls.length:=by omega
  simp[List.getElem?_eq_getElem hj,List.getElem?_eq_getElem hj'] at e
  have hg:ns.getD j 0=ns[j]:=by simp[List.getD,List.getElem?_eq_getElem hj]
  rw[hg]
  exact⟨(List.getElem?_eq_some_iff.1 e).1,by rw[e,List.getElem?_eq_getElem hj'],List.getElem_mem hj⟩
 have inj:∀ i j,i<ns.length→j<ns.length→i≠j→ns.getD i 0≠ns.getD j 0:=by
  intro i j hi hj hij e
  simp[List.getD,List.getElem?_eq_getElem hi,List.getElem?_eq_getElem hj] at e
  exact hij ((List.getElem_inj hns).1 e)
 let f':Nat→Hp:=fun i=>if i∈ns then Hp.emp else f i
 have h':z2h c.w0.heap.size Hp.emp f' L.length w:=by
  refine⟨Hp.sub_emp w,fun i hi=>?_,fun i hi=>Hp.dj_comm (Hp.dj_emp _),fun i j hi hj hij=>?_,fun i hi b hb=>?_⟩
  ·show(if i∈ns then Hp.emp else f i).sub w
   split
   ·exact Hp.sub_emp w
   ·exact e3.subf i hi
  ·show Hp.dj (if i∈ns then Hp.emp else f i) (if j∈ns then Hp.emp else f j)
   split
   ·exact Hp.dj_comm (Hp.dj_emp _)
   ·split
    ·exact Hp.dj_emp _
    ·exact e3.df i j hi hj hij
  ·replace hb:(if i∈ns then Hp.emp else f i) b≠none:=hb
   split at hb
   ·exact absurd rfl hb
   ·exact e3.lo i hi b hb
 let X:=za2 Hp.emp f' L.length
 have hX:∀ i,i<L.length→i∉ns→Hp.le (f i) X:=fun i hi hin=>by
  have:=z9a h' _ (Nat.le_refl _) i hi
  have e:f' i=f i:=if_neg hin
  rw[e] at this;exact this
 have hXn:∀ b,(∀ i,i<L.length→i∉ns→f i b=none)→X b=none:=fun b hb=>by
  refine zab _ rfl fun j hj=>?_
  show(if j∈ns then Hp.emp else f j) b=none
  split
  ·rfl
  ·rename_i h;exact hb j hj h
 refine⟨S,f,X,e1,e2,e3,e4,hX,⟨e3.sub,fun j hj=>?_,fun j hj=>?_,fun i j hi hj hij=>?_,fun j hj b hb=>?_⟩,fun j A hA=>?_⟩
 ·show(if j<ns.length then f (ns.getD j 0) else X).sub w
  split
  ·rename_i h;exact e3.subf _ (key j h).1
  ·exact z8e h' _ (Nat.le_refl _)
 ·show Hp.dj S (if j<ns.length then f (ns.getD j 0) else X)
  split
  ·rename_i h;exact e3.dS _ (key j h).1
  ·intro b
   by_cases hb:S b=none
   ·exact .inl hb
   ·exact .inr (hXn b fun i hi _=>(e3.dS i hi b).resolve_left hb)
 ·have hXf:∀ j,j<ns.length→Hp.dj (f (ns.getD j 0)) X:=fun j hj b=>by
   by_cases hb:f (ns.getD j 0) b=none
   ·exact .inl hb
   ·exact .inr (hXn b fun i hi hin=>(e3.df _ i (key j hj).1 hi (fun e=>hin (e▸(key j hj).2.2)) b).resolve_left hb)
  show Hp.dj (if i<ns.length then f (ns.getD i 0) else X) (if j<ns.length then f (ns.getD j 0) else X)
  simp only[List.length_append,List.length_cons,List.length_nil] at hi hj
  split
  ·rename_i h
   split
   ·rename_i h2;exact e3.df _ _ (key i h).1 (key j h2).1 (inj i j h h2 hij)
   ·exact hXf i h
  ·split
   ·rename_i h2;exact Hp.dj_comm (hXf j h2)
   ·omega
 ·replace hb:(if j<ns.length then f (ns.getD j 0) else X) b≠none:=hb
  split at hb
  ·rename_i h;exact e3.lo _ (key j h).1 b hb
  ·refine Classical.byContradiction fun hlt=>hb (hXn b fun i hi _=>?_)
   exact Classical.byContradiction fun h2=>hlt (e3.lo i hi b h2)
 ·show A.P S (if j<ns.length then f (ns.getD j 0) else X)
  split
  ·rename_i h
   rw[List.getElem?_append_left (by omega)] at hA
   exact e4 _ A (by rw[(key j h).2.1,hA])
  ·rename_i h
   rw[List.getElem?_append_right (by omega)] at hA
   have hj0:j-Ls.length=0:=by
    have:=(List.getElem?_eq_some_iff.1 hA).1
    simp at this;omega
   rw[hj0] at hA
   simp at hA
   subst hA
   rfl
theorem St.backK{c:Cx}{env env':Env}{L LR:List It}{a a':Act}{w w':World}{S X S':Hp}{f g:Nat→Hp}{ns:List Nat}(st:St c env L a w)(hns:ns.Nodup)(hq:c.still=false)
  (h1:a'.defers=c.dfs)(h2:a'.tmps.size=c.nt)(h3:z2g env' a')(e1:Hp.le c.S0 S)(e2:∀ b,S b≠none→c.S0 b≠none∨c.w0.heap.size≤b)(e3:z2h c.w0.heap.size S f L.length w)(e4:Its L S f)
  (hX:∀ i,i<L.length→i∉ns→Hp.le (f i) X)(hb:Below c.w0.heap.size c.w0 w')(hS:Hp.le S S')(hS2:∀ b,S' b≠none→S b≠none∨c.w0.heap.size≤b)(hO:z2h c.w0.heap.size S' g (LR++[keep X]).length w')(hI:Its (LR++[keep X]) S' g):St c env' (zbo L ns++LR) a' w':=by
 have hgX:g LR.length=X:=hI LR.length (keep X) (by simp)
 have hlen:(LR++[keep X]).length=LR.length+1:=by simp
 let f':Nat→Hp:=fun i=>if i∈ns then Hp.emp else f i
 have hf':∀ i,i<L.length→Hp.le (f' i) X:=fun i hi=>by
  show Hp.le (if i∈ns then Hp.emp else f i) X
  split
  ·intro b o e;cases e
  ·rename_i h;exact hX i hi h
 have djl:∀ {x y z:Hp},Hp.le x y→Hp.dj z y→Hp.dj z x:=fun {x y z} hxy hzy b=>by
  rcases hzy b with h|h
  ·exact .inl h
  ·right
   cases hx:x b with
   |none=>rfl
   |some o=>rw[hxy b o hx] at h;cases h
 have hXs:X.sub w':=hgX▸hO.subf LR.length (by omega)
 have hXS:Hp.dj S' X:=hgX▸hO.dS LR.length (by omega)
 have hXg:∀ j,j<LR.length→Hp.dj (g j) X:=fun j hj=>hgX▸hO.df j LR.length (by omega) (by omega) (by omega)
 refine⟨h1,h2,h3,hb,(fun q=>by rw[hq] at q;cases q),S',fun i=>if i<L.length then f' i else g (i-L.length),Hp.le_trans e1 hS,fun b hb'=>(hS2 b hb').elim (fun h=>e2 b h) .inr,⟨hO.sub,fun i hi=>?_,fun i hi=>?_,fun i j hi hj hij=>?_,fun i hi b hb'=>?_⟩,fun i B hB=>?_⟩
 all_goals try rw[List.length_append,z4n] at hi
 all_goals try rw[List.length_append,z4n] at hj
 ·show(if i<L.length then f' i else g (i-L.length)).sub w'
  split
  ·rename_i h;exact Hp.le_sub (hf' i h) hXs
  ·exact hO.subf _ (by omega)
 ·show Hp.dj S' (if i<L.length then f' i else g (i-L.length))
  split
  ·rename_i h;exact djl (hf' i h) hXS
  ·exact hO.dS _ (by omega)
 ·show Hp.dj (if i<L.length then f' i else g (i-L.length)) (if j<L.length then f' j else g (j-L.length))
  split
  ·rename_i h
   split
   ·rename_i h'
    show Hp.dj (if i∈ns then Hp.emp else f i) (if j∈ns then Hp.emp else f j)
    split
    ·exact Hp.dj_comm (Hp.dj_emp _)
    ·split
     ·exact Hp.dj_emp _
     ·exact e3.df i j h h' hij
   ·exact Hp.dj_comm (djl (hf' i h) (hXg _ (by omega)))
  ·split
   ·rename_i h';exact djl (hf' j h') (hXg _ (by omega))
   ·exact hO.df _ _ (by omega) (by omega) (by omega)
 ·replace hb':(if i<L.length then f' i else g (i-L.length)) b≠none:=hb'
  split at hb'
  ·rename_i h
   replace hb':(if i∈ns then Hp.emp else f i) b≠none:=hb'
   split at hb'
   ·exact absurd rfl hb'
   ·exact e3.lo i h b hb'
  ·exact hO.lo _ (by omega) b hb'
 ·show B.P S' (if i<L.length then f' i else g (i-L.length))
  split
  ·rename_i h
   rw[List.getElem?_append_left (by rw[z4n];exact h)] at hB
   by_cases hin:i∈ns
   ·rw[goneAt_in ns L i B hns hin hB];trivial
   ·rw[zbh ns L i hin] at hB
    show B.P S' (if i∈ns then Hp.emp else f i)
    rw[if_neg hin];exact B.mono hS (e4 i B hB)
  ·rename_i h
   rw[List.getElem?_append_right (by rw[z4n];omega),z4n] at hB
   exact hI _ B (by rw[List.getElem?_append_left (List.getElem?_eq_some_iff.1 hB).1];exact hB)
def Loc(A:It):Prop:=∀ S S' f,A.P S f→A.P S' f
def TR.flatT{α:Type}(t:TR α):Prop:=∀ h k cs d,t.rep h cs d→t.rep k cs d
theorem zei{α:Type}{t:TR α}(ht:t.flatT){h k:Hp}:∀ {l:List α} {xs:List Value},reps t h xs l→reps t k xs l
 | [],_,r=>r
 |_::_,_,⟨c,q,e,r1,r2⟩=>⟨c,q,e,ht _ _ _ _ r1,zei ht r2⟩
theorem Loc.own{α:Type}{e:TypeId}{t:TR α}{v:Value}{l:List α}(ht:t.flatT):Loc (own e t v l):=fun _ _ _ ⟨xs,a,b⟩=>⟨xs,a,zei ht b⟩
theorem Loc.obox{α:Type}{e:TypeId}{t:TR α}{v:Value}{d:α}(ht:t.flatT):Loc (obox e t v d):=fun _ _ _ ⟨b,cs,a,c,r⟩=>⟨b,cs,a,c,ht _ _ _ _ r⟩
theorem TR.flatT_ik{k:IntKind}:(TR.ik k).flatT:=fun _ _ _ _ h=>h
theorem TR.flatT_str:TR.str.flatT:=fun _ _ _ _ h=>h
theorem TR.flatT_pair{α β:Type}{a:TR α}{b:TR β}(ha:a.flatT)(hb:b.flatT):(a.pair b).flatT:=fun _ _ _ _ ⟨c1,c2,e,h1,h2⟩=>⟨c1,c2,e,ha _ _ _ _ h1,hb _ _ _ _ h2⟩
section
variable {md:Md}{P:Program}{ops:Array Oper}{Q:Exit→Act→World→Prop}{c:Cx}{rest:List Oper}{env:Env}{L:List It}
variable {ty:TypeId}{pos:String}{af:Array Edge}{g:Option (Nat×Bool)}
theorem run_call'{dst:Option Nat}{x:Operand}{fid:FuncId}{cap:Array Value}{args:Array Operand}{vs:List Value}{ts:Array TypeId}{a:Act}(w:World)(hf:Fit P fid)(he:z2g env a)(hx:opv env x=some (.func (.func fid) #[] cap))(ha:args.toList.map (opv env)=vs.map some) :
  (execOp a.eval ⟨dst,.call ⟨.value x,args,ts⟩,ty,pos,af,g⟩).run P w=.ok (.enter fid (vs.toArray++cap)) w:=by
 simp[execOp,resolve,zf he hx,Deferred.ofValue,invoke,zct he ha,zbu hf]
theorem RL.callK{d:Nat}{O:Type}{V:O→Value}{LR:O→List It}{Ls:List It}(ns:List Nat)(hns:ns.Nodup){x:Operand}{fid:FuncId}{cap:Array Value}{args:Array Operand}{vs:List Value}{ts:Array TypeId}(hf:Fit P fid)(hq:c.still=false)(hg:wanted ops env g=some true)(hd:Slot c d)
  (hx:opv env x=some (.func (.func fid) #[] cap))(ha:args.toList.map (opv env)=vs.map some)(hLs:ns.map (fun i=>L[i]?)=Ls.map some)
  (hc:∀ S f X w,z2h c.w0.heap.size S f (Ls++[keep X]).length w→Below c.w0.heap.size c.w0 w→Hp.le c.S0 S→Its (Ls++[keep X]) S f→(∀ (i:Nat) (B:It) (R:Hp→Prop),L[i]?=some B→Sure B R→R S)→Calls P fid (vs.toArray++cap) w (zaj c.w0 S V (fun o=>LR o++[keep X])))
  (k:∀ o,RL .plain P ops Q c rest (put env d (V o)) (zbo L ns++LR o)):RL .plain P ops Q c (⟨some d,.call ⟨.value x,args,ts⟩,ty,pos,af,g⟩::rest) env L:=by
 intro a w st
 unfold wpList
 rw[if_pos (zw (o:=⟨some d,.call ⟨.value x,args,ts⟩,ty,pos,af,g⟩) st.env hg)]
 left
 unfold Oper.wp
 rw[run_call' w hf st.env hx ha]
 obtain⟨S,f,X,e1,e2,e3,e4,k1,k2,k3⟩:=st.lendK ns hns hLs
 refine(hc S _ X w k2 st.below e1 k3 (fun i B R hB hs=>hs S (f i) (e4 i B hB))).mono ?_
 rintro e w' ⟨o,rfl,hb,S',g',hS,hS2,hO,hI⟩
 refine k o _ _ ?_
 have st':=st.put (V o) hd
 exact st.backK hns hq st'.defers st'.size st'.env e1 e2 e3 e4 k1 hb hS hS2 hO hI
def AllLoc:List It→Prop
 | []=>True
 |A::r=>Loc A∧AllLoc r
theorem AllLoc.at:∀ {L:List It},AllLoc L→∀ (i:Nat) (A:It),L[i]?=some A→Loc A
 | [],_,_,_,e=>by simp at e
 |B::r,h,0,A,e=>by simp at e;subst e;exact h.1
 |B::r,h,i+1,A,e=>AllLoc.at h.2 i A (by simpa using e)
theorem RL.callU{d:Nat}{O:Type}{V:O→Value}{LR:O→List It}{x:Operand}{fid:FuncId}{cap:Array Value}{args:Array Operand}{vs:List Value}{ts:Array TypeId}(hl:∀ o,AllLoc (LR o))(hf:Fit P fid)(hq:c.still=false)(hg:wanted ops env g=some true)(hd:Slot c d)
  (hx:opv env x=some (.func (.func fid) #[] cap))(ha:args.toList.map (opv env)=vs.map some)
  (hc:∀ U w,U.sub w→Hp.le c.S0 U→(∀ (n:Nat) (A:It) (B:Hp→Prop),L[n]?=some A→Seen A B→B U)→Calls P fid (vs.toArray++cap) w (Post w U V LR))
  (k:∀ o,RL .plain P ops Q c rest (put env d (V o)) (L++LR o)):RL .plain P ops Q c (⟨some d,.call ⟨.value x,args,ts⟩,ty,pos,af,g⟩::rest) env L:=by
 intro a w st
 unfold wpList
 rw[if_pos (zw (o:=⟨some d,.call ⟨.value x,args,ts⟩,ty,pos,af,g⟩) st.env hg)]
 left
 unfold Oper.wp
 rw[run_call' w hf st.env hx ha]
 obtain⟨S,f,e1,e2,e3,e4⟩:=st.heap
 refine(hc (za2 S f L.length) w (z8e e3 _ (Nat.le_refl _)) (Hp.le_trans e1 (z6a _ _ _)) fun i A B hA hs=>hs S _ _ (z6a _ _ _) (z9a e3 _ (Nat.le_refl _) i (List.getElem?_eq_some_iff.1 hA).1) (e4 i A hA)).mono ?_
 rintro e w' ⟨o,rfl,hb,S',h,k1,k2,k3,k4,k5,k6⟩
 refine k o _ _ ?_
 have st':=st.put (V o) hd
 have hSS:Hp.le S S':=Hp.le_trans (z6a _ _ _) k1
 refine⟨st'.defers,st'.size,st'.env,st.below.trans (hb.mono st.below.size),(fun q=>by rw[hq] at q;cases q),S,fcat f L.length h,e1,e2,?_,e4.cat (Hp.le_refl S) (fun i A hA=>(hl o).at i A hA _ _ _ (k6 i A hA))⟩
 rw[List.length_append]
 refine e3.cat st.below.size (Hp.sub_grow e3.sub hb) (fun i hi=>Hp.sub_grow (e3.subf i hi) hb) (fun b hb'=>.inl hb') (fun i hi=>?_) k5
 obtain⟨q1,q2,q3⟩:=k4 i hi
 refine⟨q1,fun b=>?_,q3⟩
 by_cases hbS:S b=none
 ·exact .inl hbS
 ·right
  obtain⟨y,hy⟩:=Option.ne_none_iff_exists'.1 hbS
  exact(q2 b).resolve_left (by rw[hSS b y hy];simp)
end
theorem Gx.retN{P:Program}{fn:Func}{c:Cx}{env:Env}{L:List It}{R:Ending→World→Prop}{v:Value}(hr:∀ a w,z2g env a→(results fn a.tmps).run P w=.ok v w)(h:∀ a w,St c env L a w→R (.returned v) w)(hd:c.dfs=[]:=by rfl):Gx (bodyPost P fn R) c .normal env L:=fun a w st=>⟨st.defers.trans hd,v,hr a w st.env,h a w st⟩
theorem res0{P:Program}{fn:Func}{env:Env}(h:fn.results=#[])(a:Act)(w:World)(_:z2g env a):(results fn a.tmps).run P w=.ok (.tuple #[]) w:=by
 rw[results_none h]
theorem RL.reL{md:Md}{P:Program}{ops:Array Oper}{Q:Exit→Act→World→Prop}{c:Cx}{rest:List Oper}{env:Env}{L L':List It}(h:L=L')(k:RL md P ops Q c rest env L'):RL md P ops Q c rest env L:=by subst h;exact k
def capv:Value→Nat|.slice _ _ c=>c|_=>0
def z73(v:Value)(k:Nat):Value:=match v with|.slice a _ c=>.slice a k c|_=>undef
def cutv(sz:Nat)(v:Value)(i j:Nat):Value:=match v with|.slice a _ c=>.slice (if c=i then a else a.map (·.add (i*sz))) (j-i) (c-i)|_=>undef
theorem relen_self{e:TypeId}{size:Nat}{f:Hp}{v:Value}{n:Nat}{xs:List Value}(h:ze0 e size f v n xs):z73 v n=v:=by
 rcases h.2 with⟨rfl,rfl⟩|⟨b,cap,C,rfl,_⟩<;>rfl
theorem z5x{e:TypeId}{size:Nat}{f:Hp}{v:Value}{n:Nat}{xs:List Value}(h:ze0 e size f v n xs):∃ a,v=.slice a n (capv v)∧n≤capv v∧capv v≤maxLen:=by
 rcases h.2 with⟨rfl,rfl⟩|⟨b,cap,C,rfl,_,h1,h2,_⟩
 ·exact⟨none,rfl,Nat.le_refl _,Nat.zero_le _⟩
 ·exact⟨_,rfl,h1,h2⟩
theorem GL.capO{P:Program}{Q:Exit→Act→World→Prop}{c:Cx}{r:List Code}{env:Env}{L:List It}{α:Type}{e:TypeId}{t:TR α}{v:Value}{l:List α}(n:Nat)(hA:L[n]?=some (own e t v l))(k:l.length≤capv v→capv v≤maxLen→z73 v l.length=v→(∀ q,capv (z73 v q)=capv v)→GL P Q c r env L):GL P Q c r env L:=by
 intro a w st
 obtain⟨S,f,_,_,xs,h,_⟩:=st.has hA
 obtain⟨ad,h1,h2,h3⟩:=z5x h
 exact k h2 h3 (relen_self h) (fun q=>by rw[h1];rfl) a w st
section
variable {md:Md}{P:Program}{ops:Array Oper}{Q:Exit→Act→World→Prop}{c:Cx}{rest:List Oper}{env:Env}{L:List It}
variable {d:Nat}{ty:TypeId}{pos:String}{af:Array Edge}{g:Option (Nat×Bool)}
theorem RL.cutO{α:Type}{t:TR α}{l:List α}{v:Value}{x:Operand}{lo hi:Option Operand}{T E:TypeId}{sz e:Nat}{ag:Bool}{i j:Nat}(n:Nat)(hT:P.underlying T=some (.slice E))(hE:Ln P E sz ag)(hg:wanted ops env g=some true)(hd:Slot c d)
  (hx:opv env x=some v)(hlo:(lo=none∧i=0)∨∃ y kd,lo=some y∧opv env y=some (.int kd i))(hhi:(hi=none∧j=l.length)∨∃ y kd,hi=some y∧opv env y=some (.int kd j))
  (hA:L[n]?=some (own e t v l))(hij:i≤j)(hj:j≤capv v)
  (k:RL md P ops Q c rest (put env d (cutv sz v i j)) L):RL md P ops Q c (⟨some d,.slice T x lo hi none,ty,pos,af,g⟩::rest) env L:=
 RL.val hg hd (fun S f a w st=>by
  obtain⟨xs,h,_⟩:=st.has hA
  obtain⟨ad,hv,hc1,hc2⟩:=z5x h
  generalize hcap:capv v=cap at *
  subst hv
  have b1:∀ (z y:Nat) (kd:IntKind) (code:BoundsCode),z≤y→(Instr.sliceBound (.int kd z) y code).run P w=.ok z w:=fun z y kd code h1=>by
   rw[run_sliceBound w kd z y code (by omega) (by omega)];simp
  rcases hlo with⟨rfl,rfl⟩|⟨y,kd,rfl,hy⟩<;>rcases hhi with⟨rfl,rfl⟩|⟨z,ke,rfl,hz⟩
  ·simp[execOp,Instr.sliceAt,Instr.slice,run_underlying hT,zf st.env hx,Instr.sliceBounds,run_sizeOf hE,cutv]
  ·have q1:=b1 j cap ke .sliceAcap (by omega)
   simp[execOp,Instr.sliceAt,Instr.slice,run_underlying hT,zf st.env hx,zf st.env hz,Instr.sliceBounds,run_sizeOf hE,q1,cutv]
  ·have q1:=b1 i l.length kd .sliceB (by omega)
   simp[execOp,Instr.sliceAt,Instr.slice,run_underlying hT,zf st.env hx,zf st.env hy,Instr.sliceBounds,run_sizeOf hE,q1,cutv]
  ·have q1:=b1 j cap ke .sliceAcap (by omega)
   have q2:=b1 i j kd .sliceB (by omega)
   simp[execOp,Instr.sliceAt,Instr.slice,run_underlying hT,zf st.env hx,zf st.env hy,zf st.env hz,Instr.sliceBounds,run_sizeOf hE,q1,q2,cutv]) k
theorem RL.cut3{α:Type}{t:TR α}{l:List α}{v:Value}{x y z q:Operand}{T E:TypeId}{sz e:Nat}{ag:Bool}{k1 k2 k3:IntKind}{i j m:Nat}(n:Nat)(hT:P.underlying T=some (.slice E))(hE:Ln P E sz ag)(hg:wanted ops env g=some true)(hd:Slot c d)
  (hx:opv env x=some v)(hy:opv env y=some (.int k1 i))(hz:opv env z=some (.int k2 j))(hq:opv env q=some (.int k3 m))
  (hA:L[n]?=some (own e t v l))(hij:i≤j)(hj:j≤m)(hm:m≤l.length)
  (k:∀ u,RL md P ops Q c rest (put env d u) L):RL md P ops Q c (⟨some d,.slice T x (some y) (some z) (some q),ty,pos,af,g⟩::rest) env L:=
 RL.rd (X:=fun _ Lx=>Lx=[]) hg hd (fun S f hi _=>by
  obtain⟨xs,h,_⟩:=hi n _ hA
  obtain⟨ad,hv,hc1,hc2⟩:=z5x h
  generalize hcap:capv v=cap at *
  subst hv
  refine⟨.slice (if m=i then ad else ad.map (·.add (i*sz))) (j-i) (m-i),[],rfl,fun i A hA=>by simp at hA,fun a w st=>?_⟩
  have b1:∀ (z y:Nat) (kd:IntKind) (code:BoundsCode),z≤y→(Instr.sliceBound (.int kd z) y code).run P w=.ok z w:=fun z y kd code h1=>by
   rw[run_sliceBound w kd z y code (by omega) (by omega)];simp
  have q1:=b1 m cap k3 .slice3Acap (by omega)
  have q2:=b1 j m k2 .slice3B (by omega)
  have q3:=b1 i j k1 .slice3C (by omega)
  simp[execOp,Instr.sliceAt,Instr.slice,run_underlying hT,zf st.env hx,zf st.env hy,zf st.env hz,zf st.env hq,Instr.sliceBounds,run_sizeOf hE,q1,q2,q3]) (by rintro u _ rfl;rw[List.append_nil];exact k u)
theorem RL.del{α:Type}{t:TR α}{zc:List Value}{T E:TypeId}{x y:Operand}{v:Value}{l:List α}{i j:Nat}(n:Nat)(hT:P.underlying T=some (.slice E))(hO:LnO P E t.size zc)(hq:c.still=false)(hg:wanted ops env g=some true)(hd:Slot c d)
  (hx:opv env x=some (cutv t.size v 0 i))(hy:opv env y=some (cutv t.size v j l.length))(hA:L[n]?=some (own E t v l))(hij:i<j)(hj:j≤l.length)
  (k:RL .plain P ops Q c rest (put env d (z73 v (i+(l.length-j)))) (L.set n (own E t (z73 v (i+(l.length-j))) (l.take i++l.drop j)))):RL .plain P ops Q c (⟨some d,.call ⟨.builtin .append,#[x,y],#[T,T]⟩,ty,pos,af,g⟩::rest) env L:=by
 intro a w st
 obtain⟨iT,zv,i1,i2,i3,i4,i5,i6,i7⟩:=hO.ex
 obtain⟨S,f,hS0,hS1,h3,h4⟩:=st.heap
 have hn:=(List.getElem?_eq_some_iff.1 hA).1
 obtain⟨xs,⟨hxl,hown⟩,hr⟩:=h4 n _ hA
 rcases hown with⟨_,h0⟩|⟨b,cap,C,rfl,hb,hcap,hmax,hC,htk⟩
 ·omega
 have hwb:=h3.subf n hn b _ hb
 obtain⟨p1,p2,rfl,hp1,hr1,hr2⟩:=z6w i hr (by omega)
 obtain⟨p3,p4,hp3,hp3l,hr3,hr4⟩:=z6w j hr hj
 have hl4:p4.length=(l.length-j)*t.size:=by rw[z9l hr4,List.length_drop]
 have hCl:C.toList=(p1++p2)++C.toList.drop (l.length*t.size):=by rw[← htk];exact(List.take_append_drop _ _).symm
 have hCl':C.toList=p3++(p4++C.toList.drop (l.length*t.size)):=by rw[← List.append_assoc,← hp3];exact hCl
 have hcut0:cutv t.size (.slice (some ⟨b,0,none⟩) l.length cap) 0 i=.slice (some ⟨b,0,none⟩) i cap:=by
  simp[cutv,z3h]
 have hcutj:∃ ad,cutv t.size (.slice (some ⟨b,0,none⟩) l.length cap) j l.length=.slice (some ad) (l.length-j) (cap-j)∧(0<l.length-j→ad=⟨b,j*t.size,none⟩):=by
  by_cases hcj:cap=j
  ·exact⟨⟨b,0,none⟩,by simp[cutv,hcj],fun h=>by omega⟩
  ·exact⟨⟨b,j*t.size,none⟩,by simp[cutv,hcj,z3h],fun _=>rfl⟩
 obtain⟨ad,hcutj,had⟩:=hcutj
 rw[hcut0] at hx
 rw[hcutj] at hy
 have hrl:z73 (.slice (some ⟨b,0,none⟩) l.length cap) (i+(l.length-j))=.slice (some ⟨b,0,none⟩) (i+(l.length-j)) cap:=rfl
 rw[hrl] at k
 have hnews:∀ q z,p4[q]?=some z→w.cell? (ad.add q)=some z:=fun q z hz=>by
  have hq4:=(List.getElem?_eq_some_iff.1 hz).1
  have hpos:0<l.length-j:=by
   refine Nat.pos_of_ne_zero fun h=>?_
   rw[h] at hl4;omega
  rw[had hpos,z3h,cell_of_row w b _ C E (0,0) hwb,← Array.getElem?_toList,hCl',List.getElem?_append_right (by omega),List.getElem?_append_left (by omega)]
  rw[show j*t.size+q-p3.length=q by omega];exact hz
 have hfl:∀ u∈p4,u.oneCell'=true:=z99 hr4
 have hfit:i*t.size+p4.length≤C.size:=by
  rw[hl4,hC,← Nat.add_mul];exact Nat.mul_le_mul_right _ (by omega)
 have hrun:(Builtin.append_ #[T,T] ty #[.slice (some ⟨b,0,none⟩) i cap,.slice (some ad) (l.length-j) (cap-j)]).run P w=.ok (.slice (some ⟨b,0,none⟩) (i+(l.length-j)) cap) (w.setRow b (C.toList.take (i*t.size)++p4++C.toList.drop (i*t.size+p4.length)).toArray):=by
  have:=run_append_room (P:=P) w T ty E iT hT i1 b i cap C hwb ad (l.length-j) (cap-j) p4 (by rw[hl4,i2]) hnews hfl (by omega) (by rw[i2];exact hfit)
  rw[i2] at this;exact this
 have hex:(execOp a.eval ⟨some d,.call ⟨.builtin .append,#[x,y],#[T,T]⟩,ty,pos,af,g⟩).run P w=.ok (.value (.slice (some ⟨b,0,none⟩) (i+(l.length-j)) cap)) (w.setRow b (C.toList.take (i*t.size)++p4++C.toList.drop (i*t.size+p4.length)).toArray):=by
  simp[execOp,resolve,invoke,builtin,zf st.env hx,zf st.env hy,hrun]
 refine z6g (zw (o:=⟨some d,.call ⟨.builtin .append,#[x,y],#[T,T]⟩,ty,pos,af,g⟩) st.env hg) hex (k _ _ ?_)
 have st':=st.put (.slice (some ⟨b,0,none⟩) (i+(l.length-j)) cap) hd
 have t1:C.toList.take (i*t.size)=p1:=by
  have e9:C.toList=p1++(p2++C.toList.drop (l.length*t.size)):=by rw[← List.append_assoc];exact hCl
  conv=>lhs;rw[e9,← hp1]
  exact List.take_left
 have hpl:(p1++p4).length=(i+(l.length-j))*t.size:=by rw[List.length_append,hp1,hl4,Nat.add_mul]
 have hll:(l.take i++l.drop j).length=i+(l.length-j):=by rw[List.length_append,List.length_take,List.length_drop];omega
 refine st.upd (S:=S) (f:=f) st'.defers st'.size st'.env hS0 hS1 h3 h4 n _ (Hp.one b (.cells (C.toList.take (i*t.size)++p4++C.toList.drop (i*t.size+p4.length)).toArray E (0,0))) hn hq rfl rfl rfl (by simp)
  (Hp.one_sub (setRow_heap w b C _ E _ hwb)) (fun b' hb'=>by rw[Hp.one_ne hb'];left;rw[hb];simp) (fun b' _ hb'=>setRow_other w b b' _ (fun e=>by subst e;rw[hb] at hb';cases hb')) ?_
 refine⟨p1++p4,⟨by rw[hll];exact hpl,.inr ⟨b,cap,_,by rw[hll],Hp.one_self b _,by rw[hll];omega,hmax,?_,?_⟩⟩,z7h hr1 hr4⟩
 ·have:C.size=C.toList.length:=by simp
  simp only[List.size_toArray,List.length_append,List.length_take,List.length_drop,Array.length_toList]
  omega
 ·rw[hll,← hpl,t1];exact List.take_left
theorem RL.clr{α:Type}{t:TR α}{zc:List Value}{T E:TypeId}{x:Operand}{v:Value}{l:List α}{j:Nat}(n:Nat)(hT:P.underlying T=some (.slice E))(hO:LnO P E t.size zc)(hzf:∀ u∈zc,u.oneCell'=true)(hq:c.still=false)(hg:wanted ops env g=some true)
  (hx:opv env x=some (cutv t.size v l.length j))(hA:L[n]?=some (own E t v l))(hij:l.length≤j)(hj:j≤capv v)
  (k:RL .plain P ops Q c rest env L):RL .plain P ops Q c (⟨none,.call ⟨.builtin .clear,#[x],#[T]⟩,ty,pos,af,g⟩::rest) env L:=by
 intro a w st
 obtain⟨iT,zv,i1,i2,i3,i4,i5,i6,i7⟩:=hO.ex
 obtain⟨S,f,hS0,hS1,h3,h4⟩:=st.heap
 have hn:=(List.getElem?_eq_some_iff.1 hA).1
 obtain⟨xs,⟨hxl,hown⟩,hr⟩:=h4 n _ hA
 have nothing:∀ v0,cutv t.size v l.length j=v0→(∃ a0 c0,v0=.slice a0 0 c0)∨(∃ c0,v0=.slice none 0 c0)→wpList P ops Q (⟨none,.call ⟨.builtin .clear,#[x],#[T]⟩,ty,pos,af,g⟩::rest) a w:=by
  intro v0 hv0 hh
  rw[hv0] at hx
  have hex:(execOp a.eval ⟨none,.call ⟨.builtin .clear,#[x],#[T]⟩,ty,pos,af,g⟩).run P w=.ok (.value (.tuple #[])) w:=by
   rcases hh with⟨a0,c0,rfl⟩|⟨c0,rfl⟩
   ·cases a0<;>simp[execOp,resolve,invoke,builtin,zf st.env hx,Builtin.clear_,run_underlying hT]
   ·simp[execOp,resolve,invoke,builtin,zf st.env hx,Builtin.clear_,run_underlying hT]
  refine z6g (zw (o:=⟨none,.call ⟨.builtin .clear,#[x],#[T]⟩,ty,pos,af,g⟩) st.env hg) hex (k _ _ ?_)
  exact st.mk_env rfl rfl st.env
 rcases hown with⟨rfl,h0⟩|⟨b,cap,C,rfl,hb,hcap,hmax,hC,htk⟩
 ·refine nothing _ rfl (.inl ⟨if(0:Nat)=l.length then none else none,0-l.length,?_⟩)
  have:j=0:=by simpa[capv] using hj
  simp[cutv,this,h0]
 by_cases hj0:j-l.length=0
 ·exact nothing _ rfl (.inl ⟨(if cap=l.length then some ⟨b,0,none⟩ else(some (⟨b,0,none⟩:Addr)).map (·.add (l.length*t.size))),cap-l.length,by simp[cutv,hj0]⟩)
 have hjc:j≤cap:=hj
 have hne:cap≠l.length:=by omega
 have hcut:cutv t.size (.slice (some ⟨b,0,none⟩) l.length cap) l.length j=.slice (some ⟨b,l.length*t.size,none⟩) (j-l.length) (cap-l.length):=by
  simp[cutv,hne,z3h]
 rw[hcut] at hx
 have hwb:=h3.subf n hn b _ hb
 have hzl:(Builtin.zeroCells zv.cells (j-l.length)).toList.length=(j-l.length)*t.size:=by
  rw[Array.length_toList,size_zeroCells]
  have:zv.cells.size=t.size:=by rw[← i5,← i4];simp
  rw[this]
 have hzflat:∀ u∈(Builtin.zeroCells zv.cells (j-l.length)).toList,u.oneCell'=true:=fun u hu=>by
  refine hzf u ?_
  rw[← i4]
  simp only[Builtin.zeroCells,Array.toList_map,List.mem_map,Array.toList_range,List.mem_range] at hu
  obtain⟨q,hq1,rfl⟩:=hu
  have hpos:0<zv.cells.size:=Nat.pos_of_ne_zero fun h=>by rw[h] at hq1;omega
  have hlt:=Nat.mod_lt q hpos
  rw[getElem!_pos zv.cells (q%zv.cells.size) hlt]
  simp
 have hst:=run_storeCells_at P b (l.length*t.size) E (Builtin.zeroCells zv.cells (j-l.length)).toList 0 C w hwb (by rw[hzl,hC,Nat.add_zero,← Nat.add_mul];exact Nat.mul_le_mul_right _ (by omega)) hzflat
 simp only[Nat.add_zero] at hst
 have hzz:(zeroValue E).run P w=.ok zv w:=by simp[zeroValue,typeInfo,i1,i3]
 have hex:(execOp a.eval ⟨none,.call ⟨.builtin .clear,#[x],#[T]⟩,ty,pos,af,g⟩).run P w=.ok (.value (.tuple #[])) (w.setRow b (C.toList.take (l.length*t.size)++(Builtin.zeroCells zv.cells (j-l.length)).toList++C.toList.drop (l.length*t.size+(Builtin.zeroCells zv.cells (j-l.length)).toList.length)).toArray):=by
  obtain⟨m,hm⟩:∃ m,j-l.length=m+1:=⟨j-l.length-1,by omega⟩
  rw[hm] at hx hst ⊢
  simp[execOp,resolve,invoke,builtin,zf st.env hx,Builtin.clear_,run_underlying hT,hzz,hst]
 refine z6g (zw (o:=⟨none,.call ⟨.builtin .clear,#[x],#[T]⟩,ty,pos,af,g⟩) st.env hg) hex (k _ _ ?_)
 have hLn:L.set n (own E t (.slice (some ⟨b,0,none⟩) l.length cap) l)=L:=by
  apply List.ext_getElem?
  intro q
  by_cases hq':q=n
  ·subst hq';rw[List.getElem?_set_self hn,hA]
  ·rw[List.getElem?_set_ne (Ne.symm hq')]
 rw[← hLn]
 refine st.upd (S:=S) (f:=f) (by simpa[Act.put] using st.defers) (by simpa[Act.put] using st.size) (by simpa[Act.put] using st.env) hS0 hS1 h3 h4 n _ (Hp.one b (.cells (C.toList.take (l.length*t.size)++(Builtin.zeroCells zv.cells (j-l.length)).toList++C.toList.drop (l.length*t.size+(Builtin.zeroCells zv.cells (j-l.length)).toList.length)).toArray E (0,0))) hn hq rfl rfl rfl (by simp)
  (Hp.one_sub (setRow_heap w b C _ E _ hwb)) (fun b' hb'=>by rw[Hp.one_ne hb'];left;rw[hb];simp) (fun b' _ hb'=>setRow_other w b b' _ (fun e=>by subst e;rw[hb] at hb';cases hb')) ?_
 have hle:l.length*t.size≤C.size:=by rw[hC];exact Nat.mul_le_mul_right _ hcap
 refine⟨xs,⟨hxl,.inr ⟨b,cap,_,rfl,Hp.one_self b _,hcap,hmax,?_,?_⟩⟩,hr⟩
 ·have hs:C.size=C.toList.length:=by simp
  have h5:(j-l.length)*t.size+l.length*t.size≤C.size:=by rw[hC,← Nat.add_mul];exact Nat.mul_le_mul_right _ (by omega)
  simp only[List.size_toArray,List.length_append,List.length_take,List.length_drop,hzl]
  rw[← hC]
  generalize (j-l.length)*t.size=q1 at *
  generalize l.length*t.size=q2 at *
  rw[← hs]
  omega
 ·have hlen:(C.toList.take (l.length*t.size)).length=l.length*t.size:=by rw[List.length_take,Array.length_toList];exact Nat.min_eq_left hle
  have e9:(C.toList.take (l.length*t.size)++(Builtin.zeroCells zv.cells (j-l.length)).toList++C.toList.drop (l.length*t.size+(Builtin.zeroCells zv.cells (j-l.length)).toList.length)).take (l.length*t.size)=C.toList.take (l.length*t.size):=by
   rw[List.append_assoc]
   exact List.take_left' hlen
  rw[show ∀ l:List Value,l.toArray.toList=l from fun l=>rfl,e9];exact htk
end
theorem zc9{P:Program}{E:TypeId}{sz:Nat}{ag:Bool}(l:Ln P E sz ag)(w:World)(xs:Array Value)(off:Nat)(a c b:List Value)(hx:xs.toList=a++c++b)(ha:a.length=off)(hc:c.length=sz)(h1:ag=false→sz=1) :
  (part E xs off).run P w=.ok (mkv ag c) w:=by
 unfold part
 simp only[Sem.run_bind,run_isAgg l,Result.andThen_ok]
 cases ag with
 |true=>
  simp only[if_true,Sem.run_bind,run_sizeOf l,Result.andThen_ok,Sem.run_pure]
  congr 1
  show Value.agg _=Value.agg _
  congr 1
  apply Array.toList_inj.1
  rw[Array.toList_extract,hx]
  simp only[List.extract_eq_take_drop]
  rw[List.append_assoc,List.drop_left' ha,Nat.add_sub_cancel_left,List.take_left' hc]
 |false=>
  have h1':=h1 rfl
  match c,hc with
  | [u],hc=>
   have:xs[off]?=some u:=by
    rw[← Array.getElem?_toList,hx,List.append_assoc,List.getElem?_append_right (by omega),ha];simp
   simp only[Bool.false_eq_true,if_false,this];rfl
  | [],hc=>simp at hc;omega
  |_::_::_,hc=>simp at hc;omega
def EqT{α:Type}[DecidableEq α](P:Program)(T:TypeId)(t:TR α)(k:Nat):Prop:=
 ∀ n,k≤n→∀ (h h':Hp) (cs ds:List Value) (x y:α) (w:World),t.rep h cs x→t.rep h' ds y→(Op.equalIn n T (mkv t.agg cs) (mkv t.agg ds)).run P w=.ok (decide (x=y)) w
theorem EqT.int{P:Program}{T:TypeId}{k:IntKind}(hu:P.underlying T=some (.int k)):EqT P T (TR.ik k) 1:=by
 intro n hn h h' cs ds x y w hx hy
 have hx':cs=[.int k x]:=hx
 have hy':ds=[.int k y]:=hy
 subst hx' hy'
 obtain⟨m,rfl⟩:∃ m,n=m+1:=⟨n-1,by omega⟩
 show(Op.equalIn (m+1) T (.int k x) (.int k y)).run P w=_
 rw[run_equalIn_int w m T k k x y hu];rfl
def EqF{α:Type}[DecidableEq α](P:Program)(fs:List Field)(off:Nat)(t:TR α)(k:Nat):Prop:=
 ∀ n,k≤n→∀ (h h':Hp) (xs ys:Array Value) (a b cs ds:List Value) (x y:α) (w:World),xs.toList=a++cs→ys.toList=b++ds→a.length=off→b.length=off→t.rep h cs x→t.rep h' ds y→(Op.eqFields n xs ys fs).run P w=.ok (decide (x=y)) w
theorem EqF.last{α:Type}[DecidableEq α]{P:Program}{f:Field}{off k:Nat}{t:TR α}(hn:f.name≠ "_")(ho:f.offset=off)(hl:Ln P f.type t.size t.agg)(hE:EqT P f.type t k):EqF P [f] off t k:=by
 intro n hk h h' xs ys a b cs ds x y w hx hy ha hb rx ry
 have ec:=zc9 hl w xs f.offset a cs [] (by rw[hx];simp) (by rw[ha,ho]) (t.len rx) t.one
 have ed:=zc9 hl w ys f.offset b ds [] (by rw[hy];simp) (by rw[hb,ho]) (t.len ry) t.one
 simp only[Op.eqFields,hn,ne_eq,not_false_eq_true,if_true,Sem.run_bind,ec,ed,hE n hk h h' cs ds x y w rx ry,Result.andThen_ok]
 by_cases e:x=y<;>simp[e]
theorem EqF.cons{α β:Type}[DecidableEq α][DecidableEq β]{P:Program}{f:Field}{fs:List Field}{off k:Nat}{t:TR α}{r:TR β}(hn:f.name≠ "_")(ho:f.offset=off)(hl:Ln P f.type t.size t.agg)(hE:EqT P f.type t k)(hr:EqF P fs (off+t.size) r k):EqF P (f::fs) off (t.pair r) k:=by
 intro n hk h h' xs ys a b cs ds x y w hx hy ha hb rx ry
 obtain⟨c1,c2,rfl,x1,x2⟩:=rx
 obtain⟨d1,d2,rfl,y1,y2⟩:=ry
 have ec:=zc9 hl w xs f.offset a c1 c2 (by rw[hx];simp) (by rw[ha,ho]) (t.len x1) t.one
 have ed:=zc9 hl w ys f.offset b d1 d2 (by rw[hy];simp) (by rw[hb,ho]) (t.len y1) t.one
 have ih:=hr n hk h h' xs ys (a++c1) (b++d1) c2 d2 x.2 y.2 w (by rw[hx];simp) (by rw[hy];simp) (by rw[List.length_append,ha,t.len x1]) (by rw[List.length_append,hb,t.len y1]) x2 y2
 simp only[Op.eqFields,hn,ne_eq,not_false_eq_true,if_true,Sem.run_bind,ec,ed,hE n hk h h' c1 d1 x.1 y.1 w x1 y1,Result.andThen_ok]
 by_cases e:x.1=y.1
 ·simp only[e,decide_true,Bool.not_true,Bool.false_eq_true,if_false,ih]
  congr 1
  by_cases e2:x.2=y.2
  ·rw[decide_eq_true e2,decide_eq_true (Prod.ext e e2)]
  ·rw[decide_eq_false e2,decide_eq_false (fun h=>e2 (by rw[h]))]
 ·simp only[e,decide_false,Bool.not_false,if_true,Sem.run_pure]
  rw[decide_eq_false (fun h=>e (by rw[h]))]
theorem EqT.struct{α:Type}[DecidableEq α]{P:Program}{T:TypeId}{fs:Array Field}{t:TR α}{k:Nat}(hu:P.underlying T=some (.struct fs))(hs:P.stoodInHeld T=false)(hag:t.agg=true)(hF:EqF P fs.toList 0 t k):EqT P T t (k+1):=by
 intro m hm h h' cs ds x y w hx hy
 obtain⟨d,rfl⟩:∃ d,m=d+1:=⟨m-1,by omega⟩
 have hf:P.fieldsOf T=fs:=by unfold Program.fieldsOf;rw[hu]
 rw[hag]
 show(Op.equalIn (d+1) T (.agg cs.toArray) (.agg ds.toArray)).run P w=_
 rw[run_equalIn_agg w d T _ _ (by rw[hf];exact hu) hs,hf]
 exact hF d (by omega) h h' cs.toArray ds.toArray [] [] cs ds x y w (by simp) (by simp) rfl rfl hx hy
section
variable {md:Md}{P:Program}{ops:Array Oper}{Q:Exit→Act→World→Prop}{c:Cx}{rest:List Oper}{env:Env}{L:List It}
variable {d:Nat}{ty:TypeId}{pos:String}{af:Array Edge}{g:Option (Nat×Bool)}
theorem RL.neG{α:Type}[DecidableEq α]{t:TR α}{T T':TypeId}{x y:Operand}{u u':Value}{e e':α}{k:Nat}(hag:t.agg=true)(hE:EqT P T t k)(hk:k≤10000)(hgd:P.eqGuardType P.depth T=false)(hg:wanted ops env g=some true)(hd:Slot c d)
  (hx:opv env x=some u)(hy:opv env y=some u')(hu:VR t u e L)(hu':VR t u' e' L)(k:RL md P ops Q c rest (put env d (.bool (!decide (e=e')))) L):RL md P ops Q c (⟨some d,.binOp .neq T x y T',ty,pos,af,g⟩::rest) env L:=
 RL.val hg hd (fun S f a w st=>by
  obtain⟨cs,rfl,r⟩:=hu S f st.its
  obtain⟨ds,rfl,s⟩:=hu' S f st.its
  have h:=hE 10000 hk S S cs ds e e' w r s
  rw[hag] at h
  simp only[mkv,if_true] at h
  simp[execOp,zf st.env hx,zf st.env hy,hag,mkv,run_eqGuard_agg w .neq T x y _ _ hgd,run_neq_struct,h]) k
end
theorem St.freezeB{c:Cx}{env:Env}{L:List It}{a:Act}{w:World}{α:Type}{e:TypeId}{t:TR α}{v:Value}{d:α}(n:Nat)(hA:L[n]?=some (obox e t v d))(st:St c env L a w):St c env (L.set n (imm t.ptr v d)) a w:=
 st.melt n hA fun S f dj ⟨b,cs,k1,k2,k3⟩=>⟨[v],rfl,b,0,cs.toArray,e,(0,0),cs,by rw[k1],Hp.le_cup_right dj _ _ k2,t.mono (Hp.le_cup_left _ _) k3,fun j u hu=>by simpa using hu⟩
theorem VR.rawOf{α:Type}{t:TR α}{u:Value}{l:List α}{L:List It}(n:Nat){A:It}(hA:L[n]?=some A)(hs:SlOf A t u l):VR TR.raw u u L:=fun S f hi=>by
 obtain⟨_,xs,_,⟨ad,cap,rfl,_⟩,_⟩:=hs S _ (hi n A hA)
 exact⟨[_],rfl,rfl,rfl⟩
theorem Ex.raw:Ex TR.raw (fun x=>x):=fun _ cs e h=>by rw[h.1];rfl
def zdz(tmps:Array Value):ResultVar→Sem Value
 |.tmp t=>pure (tmps.getD t undef)
 |.cell a t=>do loadVar t (← asAddr (tmps.getD a undef))
def ResRun(P:Program)(tmps:Array Value)(w:World):List ResultVar→List Value→Prop
 | [],[]=>True
 |r::rs,v::vs=>(zdz tmps r).run P w=.ok v w∧ResRun P tmps w rs vs
 |_,_=>False
def tupv:List Value→Value
 | [v]=>v
 |vs=>.tuple vs.toArray
theorem zbt{P:Program}{tmps:Array Value}{w:World}:∀ {rs:List ResultVar} {vs:List Value},ResRun P tmps w rs vs→(rs.mapM (zdz tmps)).run P w=.ok vs w
 | [],[],_=>by simp
 |r::rs,v::vs,⟨h1,h2⟩=>by
  rw[List.mapM_cons]
  simp only[Sem.run_bind,h1,Result.andThen_ok,zbt h2,Sem.run_pure]
theorem results_run{P:Program}{fn:Func}{rs:List ResultVar}{vs:List Value}{tmps:Array Value}{w:World}(h:fn.results=rs.toArray)(hr:ResRun P tmps w rs vs):(results fn tmps).run P w=.ok (tupv vs) w:=by
 have e:results fn tmps=(rs.toArray.mapM (zdz tmps) >>= fun vs=>pure (if h:vs.size=1 then vs[0] else .tuple vs)):=by
  unfold results
  rw[h]
  congr 1
 rw[e]
 have e2:(rs.toArray.mapM (zdz tmps)).run P w=.ok vs.toArray w:=by
  have:rs.toArray.mapM (zdz tmps)=(rs.mapM (zdz tmps) >>= fun l=>pure l.toArray):=by
   rw[List.mapM_toArray];rfl
  rw[this]
  simp only[Sem.run_bind,zbt hr,Result.andThen_ok,Sem.run_pure]
 simp only[Sem.run_bind,e2,Result.andThen_ok,Sem.run_pure]
 match vs with
 | []=>rfl
 | [v]=>rfl
 |_::_::_=>rfl
section
variable {P:Program}{fn:Func}{c:Cx}{env:Env}{L:List It}
theorem z6j{P:Program}{env:Env}{a:Act}{w:World}{t:Tmp}{v:Value}(he:z2g env a)(hv:look env t=some v):(zdz a.tmps (.tmp t)).run P w=.ok v w:=by
 obtain⟨h1,h2⟩:=Array.getElem?_eq_some_iff.1 (look_ok he hv)
 simp[zdz,h1,h2]
theorem St.cellRes{P:Program}{a:Act}{w:World}{α:Type}{e:TypeId}{t:TR α}{v:Value}{d:α}{p:Tmp}{T:TypeId}(n:Nat)(hE:Ln P T t.size true)(hag:t.agg=true)(hA:L[n]?=some (obox e t v d))(hv:look env p=some v)(st:St c env L a w) :
  ∃ u,(zdz a.tmps (.cell p T)).run P w=.ok u w∧St c env (L++[imm t u d]) a w:=by
 obtain⟨S,f,h1,h2,h3,h4⟩:=st.heap
 have hn:=(List.getElem?_eq_some_iff.1 hA).1
 obtain⟨b,cs,e1,e2,e3⟩:=h4 n _ hA
 obtain⟨q1,q2⟩:=Array.getElem?_eq_some_iff.1 (look_ok st.env hv)
 have hb:=h3.subf n hn b _ e2
 have hl:=t.len e3
 have hld:(loadCells ⟨b,0,none⟩ t.size).run P w=.ok cs.toArray w:=by
  rw[← hl]
  exact run_loadCells_list w ⟨b,0,none⟩ cs (fun j u hu=>by
   rw[z3h,cell_of_row w b (0+j) cs.toArray e (0,0) hb]
   simpa using hu)
 refine⟨.agg cs.toArray,?_,?_⟩
 ·subst e1
  simp[zdz,q1,q2,asAddr,loadVar,run_isAgg hE,run_sizeOf hE,hld]
 ·refine⟨st.defers,st.size,st.env,st.below,st.calm,S,fcat f L.length fun _=>Hp.emp,h1,h2,?_,h4.cat (Hp.le_refl S) fun i A hA=>?_⟩
  ·rw[List.length_append];exact h3.emp st.below.size _
  ·match i,hA with
   |0,hA=>simp at hA;subst hA;exact⟨cs,by simp[mkv,hag],e3⟩
theorem Gx.retX{R:Ending→World→Prop}(rs:List ResultVar)(hr:fn.results=rs.toArray)(h:∀ a w,St c env L a w→∃ vs,ResRun P a.tmps w rs vs∧R (.returned (tupv vs)) w)(hd:c.dfs=[]:=by rfl):Gx (bodyPost P fn R) c .ret env L:=fun a w st=>by
 obtain⟨vs,h1,h2⟩:=h a w st
 exact⟨st.defers.trans hd,tupv vs,results_run hr h1,h2⟩
end
def bls(x y:List UInt8):Bool:=Op.bytesLess x y
def binS:BinOp→List UInt8→List UInt8→Option Value
 |.eql,x,y=>some (.bool (x==y))
 |.neq,x,y=>some (.bool (!(x==y)))
 |.lss,x,y=>some (.bool (bls x y))
 |.leq,x,y=>some (.bool (bls x y||x==y))
 |.gtr,x,y=>some (.bool (!(bls x y||x==y)))
 |.geq,x,y=>some (.bool (!(bls x y)))
 |_,_,_=>none
theorem run_binS{P:Program}{op:BinOp}{x y:List UInt8}{v:Value}(h:binS op x y=some v)(t:TypeId)(w:World):(binOp op t (.string ⟨x.toArray⟩) (.string ⟨y.toArray⟩)).run P w=.ok v w:=by
 have ex:(⟨x.toArray⟩:ByteArray).toList=x:=ByteArray.toList_mk x
 have ey:(⟨y.toArray⟩:ByteArray).toList=y:=ByteArray.toList_mk y
 cases op<;>simp[binS] at h<;>subst h<;>simp[binOp_string_eql,binOp_string_neq,binOp_string_lss,binOp_string_leq,binOp_string_gtr,binOp_string_geq,ex,ey,bls]
theorem zdh{P:Program}{op:BinOp}{t:TypeId}{x y:Operand}{a b:ByteArray}(w:World):(eqGuard op t x y (.string a) (.string b)).run P w=.ok () w:=by
 unfold eqGuard
 cases op<;>simp
section
variable {md:Md}{P:Program}{ops:Array Oper}{Q:Exit→Act→World→Prop}{c:Cx}{rest:List Oper}{env:Env}{L:List It}
variable {d:Nat}{ty:TypeId}{pos:String}{af:Array Edge}{g:Option (Nat×Bool)}{v:Value}
theorem RL.binS{op:BinOp}{xt yt:TypeId}{x y:Operand}{m n:List UInt8}(hg:wanted ops env g=some true)(hd:Slot c d)(hx:opv env x=some (.string ⟨m.toArray⟩))(hy:opv env y=some (.string ⟨n.toArray⟩))(hv:binS op m n=some v)
  (k:RL md P ops Q c rest (put env d v) L):RL md P ops Q c (⟨some d,.binOp op xt x y yt,ty,pos,af,g⟩::rest) env L:=
 RL.val hg hd (fun S f a w st=>by simp[execOp,zf st.env hx,zf st.env hy,zdh,run_binS hv]) k
theorem RL.cat{xt yt:TypeId}{x y:Operand}{m n:List UInt8}(hg:wanted ops env g=some true)(hd:Slot c d)(hx:opv env x=some (.string ⟨m.toArray⟩))(hy:opv env y=some (.string ⟨n.toArray⟩))(hl:m.length+n.length≤9223372036854775807)
  (k:RL md P ops Q c rest (put env d (.string ⟨(m++n).toArray⟩)) L):RL md P ops Q c (⟨some d,.binOp .add xt x y yt,ty,pos,af,g⟩::rest) env L:=
 RL.val hg hd (fun S f a w st=>by
  have e:(⟨m.toArray⟩:ByteArray)++⟨n.toArray⟩=⟨(m++n).toArray⟩:=by apply ByteArray.ext;simp
  have hs:(⟨m.toArray⟩:ByteArray).size+(⟨n.toArray⟩:ByteArray).size≤9223372036854775807:=by simpa[ByteArray.size] using hl
  have hr:=run_string_add_sum (P:=P) (w:=w) ⟨m.toArray⟩ ⟨n.toArray⟩ hs
  simp[execOp,zf st.env hx,zf st.env hy,zdh,binOp_string_add,hr,e]) k
theorem RL.lenT{x:Operand}{T:TypeId}{m:List UInt8}(hT:P.underlying T=some .string)(hg:wanted ops env g=some true)(hd:Slot c d)(hx:opv env x=some (.string ⟨m.toArray⟩))
  (k:RL md P ops Q c rest (put env d (.int .i64 m.length)) L):RL md P ops Q c (⟨some d,.call ⟨.builtin .len,#[x],#[T]⟩,ty,pos,af,g⟩::rest) env L:=
 RL.val hg hd (fun S f a w st=>by
  have hs:(⟨m.toArray⟩:ByteArray).size=m.length:=by simp[ByteArray.size]
  simp[execOp,resolve,invoke,builtin,zf st.env hx,run_len_string _ _ _ _ hT,goInt,hs]) k
theorem RL.idxT{x y:Operand}{T:TypeId}{kd:IntKind}{m:List UInt8}{i:Int}{b:UInt8}(hT:P.underlying T=some .string)(hg:wanted ops env g=some true)(hd:Slot c d)(hx:opv env x=some (.string ⟨m.toArray⟩))(hy:opv env y=some (.int kd i))(h0:0≤i)(hb:m[i.toNat]?=some b)
  (k:RL md P ops Q c rest (put env d (.int .u8 (b.toNat:Int))) L):RL md P ops Q c (⟨some d,.index T x y,ty,pos,af,g⟩::rest) env L:=
 RL.val hg hd (fun S f a w st=>by
  obtain⟨h1,h2⟩:=List.getElem?_eq_some_iff.1 hb
  have hs:(⟨m.toArray⟩:ByteArray).size=m.length:=by simp[ByteArray.size]
  have hr:=run_index_string (P:=P) w T ⟨m.toArray⟩ kd i hT
  rw[dif_pos ⟨h0,by rw[hs];omega⟩] at hr
  have e:((⟨m.toArray⟩:ByteArray)[i.toNat]'(by rw[hs];exact h1))=b:=by rw[← h2];rfl
  rw[e] at hr
  simp[execOp,zf st.env hx,zf st.env hy,hr]) k
theorem RL.cutT{x:Operand}{lo hi:Option Operand}{T:TypeId}{m:List UInt8}{i j:Nat}(hT:P.underlying T=some .string)(hg:wanted ops env g=some true)(hd:Slot c d)(hx:opv env x=some (.string ⟨m.toArray⟩))
  (hlo:(lo=none∧i=0)∨∃ y kd,lo=some y∧opv env y=some (.int kd i))(hhi:(hi=none∧j=m.length)∨∃ y kd,hi=some y∧opv env y=some (.int kd j))(hij:i≤j)(hj:j≤m.length)
  (k:RL md P ops Q c rest (put env d (.string ⟨((m.take j).drop i).toArray⟩)) L):RL md P ops Q c (⟨some d,.slice T x lo hi none,ty,pos,af,g⟩::rest) env L:=
 RL.val hg hd (fun S f a w st=>by
  have hs:(⟨m.toArray⟩:ByteArray).size=m.length:=by simp[ByteArray.size]
  have e:∀ q,q≤m.length→i≤q→(⟨m.toArray⟩:ByteArray).extract i q=⟨((m.take q).drop i).toArray⟩:=fun q _ _=>by
   rw[ByteArray.extract_mk,List.drop_take]
  have b1:∀ (z y:Nat) (kd:IntKind) (code:BoundsCode),z≤y→(Instr.sliceBound (.int kd z) y code).run P w=.ok z w:=fun z y kd code h1=>by
   rw[run_sliceBound w kd z y code (by omega) (by omega)];simp
  rcases hlo with⟨rfl,rfl⟩|⟨y,kd,rfl,hy⟩<;>rcases hhi with⟨rfl,rfl⟩|⟨z,ke,rfl,hz⟩
  ·have e':=e m.length (Nat.le_refl _) (Nat.zero_le _)
   simp[execOp,Instr.sliceAt,Instr.slice,run_underlying hT,zf st.env hx,Instr.sliceBounds,hs,e']
  ·have q1:=b1 j m.length ke .sliceAlen (by omega)
   have e':=e j hj (Nat.zero_le _)
   simp[execOp,Instr.sliceAt,Instr.slice,run_underlying hT,zf st.env hx,zf st.env hz,Instr.sliceBounds,hs,q1,e']
  ·have q1:=b1 i m.length kd .sliceB (by omega)
   have e':=e m.length (Nat.le_refl _) hij
   simp[execOp,Instr.sliceAt,Instr.slice,run_underlying hT,zf st.env hx,zf st.env hy,Instr.sliceBounds,hs,q1,e']
  ·have q1:=b1 j m.length ke .sliceAlen (by omega)
   have q2:=b1 i j kd .sliceB hij
   have e':=e j hj hij
   simp[execOp,Instr.sliceAt,Instr.slice,run_underlying hT,zf st.env hx,zf st.env hy,zf st.env hz,Instr.sliceBounds,hs,q1,q2,e']) k
theorem RL.cvI{x:Operand}{src dst:TypeId}{u:TypeDesc}{kd kx:IntKind}{n:Int}(hS:P.underlying src=some u)(hT:P.underlying dst=some (.int kd))(hg:wanted ops env g=some true)(hd:Slot c d)(hx:opv env x=some (.int kx n))
  (k:RL md P ops Q c rest (put env d (.int kd (kd.wrap n))) L):RL md P ops Q c (⟨some d,.convert src dst x,ty,pos,af,g⟩::rest) env L:=
 RL.val hg hd (fun S f a w st=>by simp[execOp,zf st.env hx,convert,run_underlying hS,run_underlying hT,Conv.intToInt]) k
theorem RL.nilk{α:Type}{t:TR α}{dt:α}{v:Value}{x:Operand}(n:Nat){A:It}(hg:wanted ops env g=some true)(hd:Slot c d)(hx:opv env x=some v)(hA:L[n]?=some A)(hp:PtOf A t v dt)
  (k:RL md P ops Q c rest (put env d v) L):RL md P ops Q c (⟨some d,.nilCheck x,ty,pos,af,g⟩::rest) env L:=
 RL.val hg hd (fun S f a w st=>by
  obtain⟨_,b,off,C,ty,fz,cs,_,rfl,_⟩:=hp S _ (st.has hA)
  simp[execOp,zf st.env hx]) k
def bytesOf(l:List Int):List UInt8:=l.map fun n=>UInt8.ofNat n.toNat
theorem zem:∀ (l:List Int) (m:List UInt8),l.foldl (fun(r:ByteArray) n=>r.push (UInt8.ofNat n.toNat)) ⟨m.toArray⟩=⟨(m++bytesOf l).toArray⟩
 | [],m=>by simp[bytesOf]
 |x::l,m=>by
  rw[List.foldl_cons]
  have e:(⟨m.toArray⟩:ByteArray).push (UInt8.ofNat x.toNat)=⟨(m++[UInt8.ofNat x.toNat]).toArray⟩:=by apply ByteArray.ext;simp[ByteArray.push]
  rw[e,zem l (m++[UInt8.ofNat x.toNat])]
  simp[bytesOf]
theorem reps_u8{h:Hp}:∀ {xs:List Value} {l:List Int},reps (TR.ik .u8) h xs l→xs=l.map (Value.int .u8)
 |xs,[],r=>by simp only[reps] at r;simp[r]
 |xs,x::l,⟨c,q,e,r1,r2⟩=>by
  have h1:c=[.int .u8 x]:=r1
  rw[e,h1,reps_u8 r2];rfl
theorem RL.cvBS{x:Operand}{src dst E:TypeId}{l:List Int}{v:Value}(n:Nat){A:It}(hS:P.underlying src=some (.slice E))(hE:P.underlying E=some (.int .u8))(hT:P.underlying dst=some .string)(hg:wanted ops env g=some true)(hd:Slot c d)
  (hx:opv env x=some v)(hA:L[n]?=some A)(hs:SlOf A (TR.ik .u8) v l)
  (k:RL md P ops Q c rest (put env d (.string ⟨(bytesOf l).toArray⟩)) L):RL md P ops Q c (⟨some d,.convert src dst x,ty,pos,af,g⟩::rest) env L:=
 RL.val hg hd (fun S f a w st=>by
  have h:=st.has hA
  have hn:=(List.getElem?_eq_some_iff.1 hA).1
  obtain⟨H,xs,hH,⟨ad,cap,rfl,_,_,h2⟩,hr⟩:=hs S _ h
  have hsub:H.sub w:=by
   rcases hH with rfl|rfl
   ·exact st.sub
   ·exact st.subf n hn
  have hxs:=reps_u8 hr
  have hrun:(Conv.bytesToString (.slice ad l.length cap)).run P w=.ok (.string ⟨(bytesOf l).toArray⟩) w:=by
   rcases h2 with⟨h0,_⟩|⟨b,off,C,ty,fz,rfl,hb,hC⟩
   ·have hl:l=[]:=List.eq_nil_of_length_eq_zero h0
    subst hl
    cases ad with
    |none=>rfl
    |some a=>
     have:=run_bytesToString (P:=P) w a 0 cap [] (by simp[loadCells,loadCellsFrom])
     exact this
   ·have hl:(loadCells ⟨b,off,none⟩ l.length).run P w=.ok (l.map (Value.int .u8)).toArray w:=by
     have:=run_loadCells_list (P:=P) w ⟨b,off,none⟩ (l.map (Value.int .u8)) (fun j u hu=>by
      rw[z3h];exact z7l hsub hb (hC j u (by rw[hxs];exact hu)))
     simpa using this
    rw[run_bytesToString w _ _ cap l hl]
    have:=zem l []
    simp only[List.nil_append] at this
    rw[← this];rfl
  simp[execOp,zf st.env hx,run_convert_bytes_string w src dst E ad l.length cap hS hE hT,hrun]) k
end
theorem St.allocG{c:Cx}{env env':Env}{L:List It}{a a':Act}{w w':World}{o:Obj}{A:It}(st:St c env L a w)(hq:c.still=false)(h1:a'.defers=c.dfs)(h2:a'.tmps.size=c.nt)(h3:z2g env' a')(hheap:w'.heap[w.heap.size]?=some o)(hb:Below w.heap.size w w')
  (hA:∀ S f,S.sub w→Its L S f→A.P S (Hp.one w.heap.size o)):St c env' (L++[A]) a' w':=by
 refine st.grow (L':=[A]) h1 h2 h3 hb (fun q=>by rw[hq] at q;cases q) fun S f hs _ hi=>⟨S,fun _=>Hp.one w.heap.size o,Hp.le_refl S,Hp.sub_grow hs hb,fun b hb=>.inl hb,fun i _=>⟨Hp.one_sub hheap,fun b=>?_,fun b hb=>by rw[Hp.one_ne hb];exact Nat.le_refl _⟩,fun i j hi hj hij=>by simp at hi hj;omega,fun i B hB=>?_⟩
 ·by_cases hb':S b=none
  ·exact .inl hb'
  ·right
   have:=Hp.lt_of_sub hs hb'
   unfold Hp.one;exact if_neg (by omega)
 ·match i,hB with
  |0,hB=>simp at hB;subst hB;exact hA S f hs hi
def rom{α:Type}(t:TR α)(v:Value)(l:List α):It:=⟨fun S f=>∃ xs,slAt f v l.length xs∧reps t S xs l,fun le ⟨xs,a,b⟩=>⟨xs,a,z68 le b⟩⟩
def z1o(x:List UInt8):List Int:=x.map fun b=>(b.toNat:Int)
theorem reps_ints{h:Hp}:∀ x:List UInt8,reps (TR.ik .u8) h ((z1o x).map (Value.int .u8)) (z1o x)
 | []=>rfl
 |b::x=>⟨[.int .u8 (b.toNat:Int)],_,rfl,rfl,reps_ints x⟩
theorem zdi(w:World)(e:TypeId)(s:ByteArray):Below w.heap.size w (Lib.bytesWorld w e s):=
 ⟨rfl,rfl,rfl,by rw[Lib.bytesWorld_size];omega,fun k hk=>Lib.bytesWorld_at_old w e s k hk⟩
section
variable {P:Program}{ops:Array Oper}{Q:Exit→Act→World→Prop}{c:Cx}{rest:List Oper}{env:Env}{L:List It}
variable {d:Nat}{ty:TypeId}{pos:String}{af:Array Edge}{g:Option (Nat×Bool)}
theorem RL.cvSB{x:Operand}{src dst E:TypeId}{u:TypeDesc}{m:List UInt8}(hS:P.underlying src=some u)(hT:P.underlying dst=some (.slice E))(hE:P.underlying E=some (.int .u8))(hq:c.still=false)(hg:wanted ops env g=some true)(hd:Slot c d)
  (hx:opv env x=some (.string ⟨m.toArray⟩))(hl:m.length≤9223372036854775807)
  (k:∀ v,RL .plain P ops Q c rest (put env d v) (L++[imm (TR.ik .u8).sl v (z1o m)])):RL .plain P ops Q c (⟨some d,.convert src dst x,ty,pos,af,g⟩::rest) env L:=by
 intro a w st
 have hsz:(⟨m.toArray⟩:ByteArray).size=m.length:=by simp[ByteArray.size]
 have hr:=Lib.run_convert_string_bytes (P:=P) w src dst E ⟨m.toArray⟩ hS hT hE
 rw[hsz] at hr
 have hrun:(execOp a.eval ⟨some d,.convert src dst x,ty,pos,af,g⟩).run P w=.ok (.value (.slice (some ⟨w.heap.size,0,none⟩) m.length (grownCap w m.length 0 E))) (Lib.bytesWorld w E ⟨m.toArray⟩):=by
  simp[execOp,zf st.env hx,hr]
 refine z6g (zw (o:=⟨some d,.convert src dst x,ty,pos,af,g⟩) st.env hg) hrun (k (.slice (some ⟨w.heap.size,0,none⟩) m.length (grownCap w m.length 0 E)) _ _ ?_)
 have st':=st.put (.slice (some ⟨w.heap.size,0,none⟩) m.length (grownCap w m.length 0 E)) hd
 have hil:(z1o m).length=m.length:=by simp[z1o]
 have s2:=st.allocG (A:=rom (TR.ik .u8) (.slice (some ⟨w.heap.size,0,none⟩) m.length (grownCap w m.length 0 E)) (z1o m)) hq st'.defers st'.size st'.env (Lib.bytesWorld_at_new w E ⟨m.toArray⟩) (zdi w E ⟨m.toArray⟩) fun S f _ _=>by
  refine⟨(z1o m).map (Value.int .u8),⟨_,grownCap w m.length 0 E,by rw[hil],by rw[hil];exact grownCap_ge w m.length 0 E,grownCap_le_maxLen w m.length 0 E (by simp[maxLen];omega),.inr ⟨w.heap.size,0,_,E,_,rfl,Hp.one_self _ _,fun j u hu=>?_⟩⟩,reps_ints m⟩
  have hj:=(List.getElem?_eq_some_iff.1 hu).1
  simp only[List.length_map] at hj
  rw[hil] at hj
  rw[List.getElem?_map] at hu
  unfold Lib.bytesCells
  rw[Array.getElem?_append_left (by simpa using hj)]
  simp only[z1o,List.getElem?_map] at hu
  simp only[Nat.zero_add,Array.getElem?_map,List.getElem?_toArray]
  rw[← hu];cases m[j]?<;>rfl
 have s3:=s2.melt (A:=rom (TR.ik .u8) (.slice (some ⟨w.heap.size,0,none⟩) m.length (grownCap w m.length 0 E)) (z1o m)) (C:=imm (TR.ik .u8).sl (.slice (some ⟨w.heap.size,0,none⟩) m.length (grownCap w m.length 0 E)) (z1o m)) L.length (by simp) fun S f hdj ⟨xs,h1,h2⟩=>
  ⟨[_],rfl,_,xs,rfl,zau (Hp.le_cup_right hdj) h1,z68 (Hp.le_cup_left S f) h2⟩
 have e:(L++[rom (TR.ik .u8) (.slice (some ⟨w.heap.size,0,none⟩) m.length (grownCap w m.length 0 E)) (z1o m)]).set L.length (imm (TR.ik .u8).sl (.slice (some ⟨w.heap.size,0,none⟩) m.length (grownCap w m.length 0 E)) (z1o m))=L++[imm (TR.ik .u8).sl (.slice (some ⟨w.heap.size,0,none⟩) m.length (grownCap w m.length 0 E)) (z1o m)]:=by
  rw[List.set_append_right _ _ (Nat.le_refl _),Nat.sub_self];rfl
 rw[e] at s3
 exact s3
end
end Go.Fw
namespace Go.Fw
open Go.RowKit
theorem cutv_relen(sz:Nat)(v:Value)(k i j:Nat):cutv sz (z73 v k) i j=cutv sz v i j:=by cases v<;>rfl
theorem ownAt_front{e:TypeId}{size:Nat}{f:Hp}{v:Value}{n:Nat}{xs:List Value}(h:ze0 e size f v n xs){j:Nat}(hj:j≤n):ze0 e size f (z73 v j) j (xs.take (j*size)):=by
 obtain⟨h0,h⟩:=h
 have hle:j*size≤xs.length:=by rw[h0];exact Nat.mul_le_mul_right _ hj
 refine⟨by rw[List.length_take];omega,?_⟩
 rcases h with⟨rfl,rfl⟩|⟨b,cap,C,rfl,hb,h1,h2,h3,h4⟩
 ·have:j=0:=by omega
  subst this
  exact .inl ⟨rfl,rfl⟩
 ·refine .inr ⟨b,cap,C,rfl,hb,by omega,h2,h3,?_⟩
  rw[← h4,List.take_take];congr 1
  have:=Nat.mul_le_mul_right size hj
  omega
theorem reps_front{α:Type}{t:TR α}{h:Hp}{l:List α}{xs:List Value}(r:reps t h xs l){j:Nat}(hj:j≤l.length):reps t h (xs.take (j*t.size)) (l.take j):=by
 obtain⟨a,b,rfl,ha,h1,h2⟩:=z6w j r hj
 rw[← ha,List.take_left];exact h1
theorem St.frontO{c:Cx}{env:Env}{L:List It}{a:Act}{w:World}{α:Type}{e:TypeId}{t:TR α}{v:Value}{l:List α}{j:Nat}(n:Nat)(hA:L[n]?=some (own e t v l))(hj:j≤l.length)(st:St c env L a w):St c env (L.set n (own e t (z73 v j) (l.take j))) a w:=
 st.map n hA fun S f ⟨xs,h1,h2⟩=>by
  refine⟨xs.take (j*t.size),?_,reps_front h2 hj⟩
  have:=ownAt_front h1 hj
  rw[List.length_take,Nat.min_eq_left hj];exact this
section
variable {md:Md}{P:Program}{ops:Array Oper}{Q:Exit→Act→World→Prop}{c:Cx}{rest:List Oper}{env:Env}{L:List It}
variable {d:Nat}{ty:TypeId}{pos:String}{af:Array Edge}{g:Option (Nat×Bool)}
theorem RL.cutL{α:Type}{t:TR α}{l:List α}{v:Value}{x y:Operand}{T E:TypeId}{kd:IntKind}{e:Nat}{ag:Bool}{i:Nat}(n:Nat)(hT:P.underlying T=some (.slice E))(hE:Ln P E t.size ag)(hg:wanted ops env g=some true)(hd:Slot c d)
  (hx:opv env x=some v)(hy:opv env y=some (.int kd i))(hA:L[n]?=some (own e t v l))(hi:i≤l.length)
  (k:RL md P ops Q c rest (put env d (cutv t.size v i l.length)) L):RL md P ops Q c (⟨some d,.slice T x (some y) none none,ty,pos,af,g⟩::rest) env L:=
 RL.val hg hd (fun S f a w st=>by
  obtain⟨xs,h,_⟩:=st.has hA
  obtain⟨ad,hv,hc1,hc2⟩:=z5x h
  generalize hcap:capv v=cap at *
  subst hv
  have q1:(Instr.sliceBound (.int kd i) l.length .sliceB).run P w=.ok i w:=by
   rw[run_sliceBound w kd i l.length .sliceB (by omega) (by omega)];simp
  simp[execOp,Instr.sliceAt,Instr.slice,run_underlying hT,zf st.env hx,zf st.env hy,Instr.sliceBounds,run_sizeOf hE,q1,cutv]) k
theorem RL.cutP{α:Type}{t:TR α}{l:List α}{v:Value}{x y:Operand}{T E:TypeId}{kd:IntKind}{e:Nat}{ag:Bool}{i:Nat}(n:Nat)(hT:P.underlying T=some (.slice E))(hE:Ln P E t.size ag)(hg:wanted ops env g=some true)(hd:Slot c d)
  (hx:opv env x=some v)(hy:opv env y=some (.int kd i))(hA:L[n]?=some (own e t (z73 v i) l))(hi:l.length=i)
  (k:RL md P ops Q c rest (put env d (z73 v i)) L):RL md P ops Q c (⟨some d,.slice T x none (some y) none,ty,pos,af,g⟩::rest) env L:=
 RL.val hg hd (fun S f a w st=>by
  obtain⟨xs,h,_⟩:=st.has hA
  obtain⟨ad,hv,hc1,hc2⟩:=z5x h
  rw[hi] at hv hc1
  cases v with
  |slice a0 n0 cap=>
   have hc1':i≤cap:=hc1
   have hc2':cap≤maxLen:=hc2
   have q1:(Instr.sliceBound (.int kd i) cap .sliceAcap).run P w=.ok i w:=by
    rw[run_sliceBound w kd i cap .sliceAcap (by omega) (by omega)];simp[hc1']
   have ha:(if cap=0 then a0 else a0.map fun z=>z.add (0*t.size))=a0:=by
    split
    ·rfl
    ·rcases h.2 with⟨h1,h2⟩|⟨b,cap',C,h1,_⟩
     ·have:a0=none:=by simpa[z73] using congrArg (fun u=>match u with|Value.slice q _ _=>q|_=>none) h1
      rw[this];rfl
     ·have:a0=some ⟨b,0,none⟩:=by simpa[z73] using congrArg (fun u=>match u with|Value.slice q _ _=>q|_=>none) h1
      rw[this];simp[z3h]
   simp only[Nat.zero_mul] at ha
   simp[execOp,Instr.sliceAt,Instr.slice,run_underlying hT,zf st.env hx,zf st.env hy,Instr.sliceBounds,run_sizeOf hE,q1,z73,ha]
  |_=>simp[z73,undef] at hv) k
end
section
variable {P:Program}{ops:Array Oper}{Q:Exit→Act→World→Prop}{c:Cx}{rest:List Oper}{env:Env}{L:List It}
variable {d:Nat}{ty:TypeId}{pos:String}{af:Array Edge}{g:Option (Nat×Bool)}
theorem RL.clrL{α:Type}{t:TR α}{zc:List Value}{T E:TypeId}{x:Operand}{v:Value}{l:List α}{i:Nat}(n:Nat)(hT:P.underlying T=some (.slice E))(hO:LnO P E t.size zc)(hzf:∀ u∈zc,u.oneCell'=true)(hq:c.still=false)(hg:wanted ops env g=some true)
  (hx:opv env x=some (cutv t.size v i l.length))(hA:L[n]?=some (own E t v l))(hi:i≤l.length)
  (k:RL .plain P ops Q c rest env (L.set n (own E t (z73 v i) (l.take i)))):RL .plain P ops Q c (⟨none,.call ⟨.builtin .clear,#[x],#[T]⟩,ty,pos,af,g⟩::rest) env L:=by
 have hn:=(List.getElem?_eq_some_iff.1 hA).1
 have hlen:(l.take i).length=i:=by rw[List.length_take];omega
 intro a w st
 have hcap:l.length≤capv v:=by
  obtain⟨S,f,_,_,xs,h,_⟩:=st.has hA
  obtain⟨ad,h1,h2,h3⟩:=z5x h
  exact h2
 have hcv:capv (z73 v i)=capv v:=by cases v<;>rfl
 refine RL.clr (t:=t) (v:=z73 v i) (l:=l.take i) (j:=l.length) n hT hO hzf hq hg ?_ (List.getElem?_set_self hn) ?_ ?_ k a w (st.frontO n hA hi)
 ·rw[hlen,cutv_relen];exact hx
 ·rw[hlen];exact hi
 ·rw[hcv];exact hcap
end
variable {P:Program}{ops:Array Oper}{Q:Exit→Act→World→Prop}{c:Cx}{rest:List Oper}{env:Env}{L:List It}
def z90{α β γ:Type}(t':TR β)(d':β)(r:TR γ)(u:Value)(l:γ)(t:TR α)(d:α):Prop:=∀ S cs,t'.rep S cs d'→r.vrep S u l→t.rep S cs d
theorem z90.snd{α β γ δ:Type}{a:TR δ}{b':TR β}{d':δ×β}{r:TR γ}{u:Value}{l:γ}{b:TR α}{d2:α}(h:z90 b' d'.2 r u l b d2):z90 (a.pair b') d' r u l (a.pair b) (d'.1,d2):=fun S cs ⟨c1,c2,e,h1,h2⟩ k=>⟨c1,c2,e,h1,h S c2 h2 k⟩
def zby(P:Program)(E:TypeId)(N:Nat):Prop:=N≤140737488355328∧∀ i,P.info? E=some i→N*i.bytes≤140737488355328
theorem zby.of{P:Program}{E:TypeId}{N sz B:Nat}{zc:Value}(h:(P.info? E).map (fun i=>(i.zero,i.size,i.bytes))=some (some zc,sz,B))(h1:N≤140737488355328)(h2:N*B≤140737488355328):zby P E N:=by
 refine⟨h1,fun i hi=>?_⟩
 rw[hi] at h
 have hB:i.bytes=B:=congrArg (fun x:Option Value×Nat×Nat=>x.2.2) (Option.some.inj h)
 rw[hB];exact h2
section
variable {P:Program}{ops:Array Oper}{Q:Exit→Act→World→Prop}{c:Cx}{rest:List Oper}{env:Env}{L:List It}
variable {d:Nat}{ty:TypeId}{pos:String}{af:Array Edge}{g:Option (Nat×Bool)}
theorem RL.appB{α:Type}{t:TR α}{zc:List Value}{T E:TypeId}{x y:Operand}{v u:Value}{l m:List α}(n q:Nat){A:It}(hT:P.underlying T=some (.slice E))(hO:LnO P E t.size zc)(hq:c.still=false)(hg:wanted ops env g=some true)(hd:Slot c d)
  (hx:opv env x=some v)(hy:opv env y=some u)(hA:L[n]?=some (own E t v l))(hB:L[q]?=some A)(hs:SlOf A t u m){N:Nat}(hN:zby P E N)(hb:l.length+m.length≤N)
  (k:∀ v',RL .plain P ops Q c rest (put env d v') (L.set n (own E t v' (l++m)))):RL .plain P ops Q c (⟨some d,.call ⟨.builtin .append,#[x,y],#[T,T]⟩,ty,pos,af,g⟩::rest) env L:=by
 intro a w st
 obtain⟨i,zv,i1,i2,i3,i4,i5,i6,i7⟩:=hO.ex
 obtain⟨S,f,hS0,hS1,h3,h4⟩:=st.heap
 have hn:=(List.getElem?_eq_some_iff.1 hA).1
 have hql:=(List.getElem?_eq_some_iff.1 hB).1
 obtain⟨xs,hown,hr⟩:=h4 n _ hA
 obtain⟨h,ys,hh,⟨ad,cap2,rfl,hc2,_,h2⟩,hr2⟩:=hs S (f q) (h4 q A hB)
 have hsub:h.sub w:=by
  rcases hh with rfl|rfl
  ·exact h3.sub
  ·exact h3.subf q hql
 have hyl:=z9l hr2
 by_cases hm0:m.length=0
 ·have hm:m=[]:=List.eq_nil_of_length_eq_zero hm0
  subst hm
  have hrun:(execOp a.eval ⟨some d,.call ⟨.builtin .append,#[x,y],#[T,T]⟩,ty,pos,af,g⟩).run P w=.ok (.value v) w:=by
   have hfc:(Builtin.firstCells i.size 0 (.slice ad 0 cap2)).run P w=.ok #[] w:=by
    cases ad<;>simp[Builtin.firstCells,loadCells,loadCellsFrom]
   rcases hown.2 with⟨rfl,hl0⟩|⟨b,cap,C,rfl,hb',hcap,hmax,hC,htk⟩
   ·simp[execOp,resolve,invoke,builtin,zf st.env hx,zf st.env hy,Builtin.append_,run_underlying hT,sizeOf,typeInfo,i1,Builtin.lenOf,hfc]
   ·simp[execOp,resolve,invoke,builtin,zf st.env hx,zf st.env hy,Builtin.append_,run_underlying hT,sizeOf,typeInfo,i1,Builtin.lenOf,hfc,hcap,storeCells]
  refine z6g (zw (o:=⟨some d,.call ⟨.builtin .append,#[x,y],#[T,T]⟩,ty,pos,af,g⟩) st.env hg) hrun (k v _ _ ?_)
  have st':=st.put v hd
  have hL:L.set n (own E t v (l++[]))=L:=by
   rw[List.append_nil]
   apply List.ext_getElem?
   intro j
   by_cases hj:j=n
   ·subst hj;rw[List.getElem?_set_self hn,hA]
   ·rw[List.getElem?_set_ne (Ne.symm hj)]
  rw[hL];exact st'
 ·rcases h2 with⟨h2,_⟩|⟨b2,o2,C2,tb,fz,rfl,hb2,hC2⟩
  ·omega
  have hnews:∀ j z,ys[j]?=some z→w.cell? ((⟨b2,o2,none⟩:Addr).add j)=some z:=fun j z hz=>by
   rw[z3h];exact z7l hsub hb2 (hC2 j z hz)
  have hzs:zv.cells.size=t.size:=by rw[← i5,← i4];simp
  have hN1:=hN.1
  have hbyte:(l.length+m.length)*i.bytes≤140737488355328:=by
   calc (l.length+m.length)*i.bytes≤N*i.bytes:=Nat.mul_le_mul hb (Nat.le_refl _)
    _≤140737488355328:=hN.2 i i1
  obtain⟨w',b,C,cap,hrun',hwb,hcap,hmax,hC,htk,hdom,hkeep,k1,k2,k3,k4⟩:=run_app (P:=P) w T ty E i zv t.size hT i1 i3 i2 hzs (f n) (h3.subf n hn) v l.length xs hown ⟨b2,o2,none⟩ m.length cap2 ys hyl hnews (z99 hr2) (by omega) (by simp[maxLen];omega) hbyte
  have hrun:(execOp a.eval ⟨some d,.call ⟨.builtin .append,#[x,y],#[T,T]⟩,ty,pos,af,g⟩).run P w=.ok (.value (.slice (some ⟨b,0,none⟩) (l.length+m.length) cap)) w':=by
   simp[execOp,resolve,invoke,builtin,zf st.env hx,zf st.env hy,hrun']
  refine z6g (zw (o:=⟨some d,.call ⟨.builtin .append,#[x,y],#[T,T]⟩,ty,pos,af,g⟩) st.env hg) hrun (k (.slice (some ⟨b,0,none⟩) (l.length+m.length) cap) _ _ ?_)
  have st':=st.put (.slice (some ⟨b,0,none⟩) (l.length+m.length) cap) hd
  refine st.upd (S:=S) (f:=f) st'.defers st'.size st'.env hS0 hS1 h3 h4 n _ (Hp.one b (.cells C E (0,0))) hn hq k1 k2 k3 k4 (Hp.one_sub hwb) (fun b' hb'=>by rw[Hp.one_ne hb'];exact hdom) hkeep ?_
  refine⟨xs++ys,⟨?_,.inr ⟨b,cap,C,by rw[List.length_append],Hp.one_self b _,by rw[List.length_append];exact hcap,hmax,hC,by rw[List.length_append];exact htk⟩⟩,z7h hr hr2⟩
  rw[List.length_append,hown.1,hyl,List.length_append,Nat.add_mul]
end
end Go.Fw
