/- The plain law: a list is equal to itself. -/
import Derived.Test.YthhpnohbfigggaaGreatDoorMwModels
import Derived.Test.YthhpnohbfigggaaGreatDoorPuKW
import Derived.Test.YthhpnohbfigggaaGreatDoorMp5
set_option linter.all false
namespace Go.Pu
open Go.Fw Go.Mo
theorem zep(l:List (Int×Int)):z16 l l=some true:=by
 have:Ok (z16 l l) (fun r=>r=true):=by
  unfold z16
  rw[if_neg (by simp),z22]
  refine z3i (fun _ _=>True) trivial (fun k d st hk _=>?_) fun st _=>?_
  ·unfold z1x
   have e:idx l (k:Int)=some d:=by unfold idx;rw[if_pos (by omega)];simpa using hk
   rw[e,Option.bind_some,if_neg (by simp),zg,z1j]
   trivial
  ·rw[zg]
 obtain⟨r,e,rfl⟩:=this
 exact e
theorem equal_errno(l:List Int):z1b l l=some true:=by
 have:Ok (z1b l l) (fun r=>r=true):=by
  unfold z1b
  rw[if_neg (by simp),z22]
  refine z3i (fun _ _=>True) trivial (fun k d st hk _=>?_) fun st _=>?_
  ·unfold z1s
   have e:idx l (k:Int)=some d:=by unfold idx;rw[if_pos (by omega)];simpa using hk
   rw[e,Option.bind_some,if_neg (by simp),zg,z1j]
   trivial
  ·rw[zg]
 obtain⟨r,e,rfl⟩:=this
 exact e
end Go.Pu
set_option maxRecDepth 100000
namespace Go.Mn
open Go.Conc Go.ConcN Go.RowKit Go.Fw Go.Proofs Go.Mo
theorem Own3.cells{S:Nat→Prop}{W:World}(h:Own3 S W):∀ g,TX.G g=true→S g∧∃ c e fz,W.heap[g]?=some (.cells c e fz):=fun g hg=>h.glob g (Nat.le_of_ble_eq_true hg)
structure Kept(S:Nat→Prop)(W:World)(S':Nat→Prop)(W2:World):Prop where
 grow:∀ b,S b→S' b
 low:∀ b,S' b→b<W2.heap.size
 size:W.heap.size≤W2.heap.size
 same:∀ b,S b→W2.heap[b]?=W.heap[b]?
theorem call_plain{Post:Value→World→Prop}{S Q:Nat→Prop}{W:World}{f r:Nat}{fn:Func}{cb:Code}{args:List Value}{v:Value}{c:Frame}{cs:List Frame}(ho:Own3 S W)(hQ:∀ b,Q b→S b∧∃ c e fz,W.heap[b]?=some (.cells c e fz))(hG:∀ g,g≤7→Q g)
  (hF:TF f)(hfn:Tryz.prog.funcs[f]?=some fn)(hb:fn.body=some cb)(hr:fn.results=#[.tmp r])(ha:∀ v∈args,VR TF (idOn Q) v v)
  (hc:∀ w:World,(w.heap=(z2n TF Q true W).heap∨w.heap=(z2n TF Q false W).heap)→Calls Tryz.prog f args.toArray w (fun e w'=>e=.returned v∧Below w.heap.size w w'))
  (hv:∀ (σ:Bij) (v':Value),VR TF σ v v'→v'=v)(kk:∀ S' W2,Kept S W S' W2→MX Tryz.prog Post ⟨.idle,S',G (c.finish v) cs,W2⟩) :
  MX Tryz.prog Post ⟨.idle,S,G ((base f).at {tmps:=args.toArray++Array.replicate (fn.ntmps-args.toArray.size) undef,defers:=[]} [.code cb]) (c::cs),W⟩:=by
 have hrun:∀ (xs:Array Value) (w:World),(results fn xs).run Tryz.prog w=.ok (xs.getD r undef) w:=fun xs w=>results_tmp hr _ _ w
 have tr:=call_tr (F:=TF) (T:=TX) (main:=true) (RO:=Tg.idle.ro) (S0:=S) (Q:=Q) (W0:=W) (f:=f) (fn:=fn) (args:=args.toArray) (R:=fun w e w'=>e=.returned v∧Below w.heap.size w w') (c:=c) (cs:=cs) pg
  (fun b hb=>⟨.inr (hQ b hb).1,(hQ b hb).2⟩) ho.low (fun b hb=>(show False from hb).elim) (fun g hg=>hG g (Nat.le_of_ble_eq_true hg)) hF hfn hb (by rw[glob8];have:=ho.low 7 (ho.glob 7 (by omega)).1;omega) (fun v hv=>ha v (by simpa using hv)) hc
  (fun w e w' h=>⟨⟨_,h.1⟩,h.2⟩) (fun xs v w τ h=>by rw[hrun] at h ⊢;cases h;rfl) (fun xs v w w' h=>by rw[hrun] at h;cases h;rfl)
 refine Tr.mx tr fun S' g W2 hst=>?_
 obtain⟨v',rfl,⟨⟨w0,w,σ,u,e0,⟨hu,_⟩,_,hvr,_,_⟩,h1,_,h3,h4,h5⟩⟩:=hst W2 (.refl _ _ _)
 cases hu
 rw[hv σ v' hvr]
 exact kk S' W2 ⟨h1,h3,h4,fun b hb=>h5 b (.inr hb)⟩
structure z94(S Q:Nat→Prop)(W:World)(js:Value)(n:Nat)(jv:Nat→Value)(xs:Nat→List DeT):Prop where
 big:n≤5864062014805
 one:js.oneCell'=true
 jsl:∃ a cap,js=.slice a n cap
 cp:∀ a l k,js=.slice a l k→l≤k
 jr:∀ b o s l k,js=.slice (some ⟨b,o,s⟩) l k→Q b∨l=0∧k=0
 job:∀ i,i<n→∃ Jb jo cap,js=.slice (some ⟨Jb,jo,none⟩) n cap∧Q Jb∧W.cell? ⟨Jb,jo+i,none⟩=some (jv i)
 q:∀ b,Q b→S b∧∃ c e fz,W.heap[b]?=some (.cells c e fz)
 qg:∀ g,g≤7→Q g
 hx:∀ j,j<n→(TR.sl Go.Wk.TrE).vrep (z4s S W) (jv j) (xs j)
 hQj:∀ j,j<n→∀ b o s n' k,jv j=.slice (some ⟨b,o,s⟩) n' k→0<k→Q b
theorem z94.keep{S Q S':Nat→Prop}{W W':World}{js:Value}{n:Nat}{jv:Nat→Value}{xs:Nat→List DeT}(h:z94 S Q W js n jv xs)(hs:∀ b,S b→S' b)(hk:∀ b,S b→W'.heap[b]?=W.heap[b]?):z94 S' Q W' js n jv xs:=by
 refine⟨h.big,h.one,h.jsl,h.cp,h.jr,fun i hi=>?_,fun b hb=>?_,h.qg,fun j hj=>TR.vrep_mono (fun b o hb=>?_) (h.hx j hj),h.hQj⟩
 ·obtain⟨Jb,jo,cap,e1,e2,e3⟩:=h.job i hi
  exact⟨Jb,jo,cap,e1,e2,(z5i (hk Jb (h.q Jb e2).1)).trans e3⟩
 ·obtain⟨a,c,e,fz,x⟩:=h.q b hb
  exact⟨hs b a,c,e,fz,(hk b a).trans x⟩
 ·have hS:S b:=zbg (by rw[hb];simp)
  rw[z6o hS] at hb
  rw[z6o (hs b hS),hk b hS]
  exact hb
theorem run_any{Post:Value→World→Prop}{S Q:Nat→Prop}{W:World}{h:Int}{n:Nat}{js:Value}{jv:Nat→Value}{xs:Nat→List DeT}{res:Nat→List (Int×Int)×List Int}{c:Frame}{cs:List Frame}(ho:Own3 S W)(hj:z94 S Q W js n jv xs)(hm:∀ j,j<n→many_do_m (xs j)=some (res j))
  (kE:¬ (1≤h∧h≤8)→∀ S' W2,Kept S W S' W2→MX Tryz.prog Post ⟨.idle,S',G (c.finish (.tuple #[.slice none 0 0,.int .i64 1])) cs,W2⟩)
  (kO:(1≤h∧h≤8)→∀ OB S' W2,zck S W n (RsOf res) OB S' W2→MX Tryz.prog Post ⟨.idle,S',G (c.finish (.tuple #[.slice (some ⟨OB,0,none⟩) n n,.int .i64 0])) cs,W2⟩) :
  MX Tryz.prog Post ⟨.idle,S,G ((base 4).at {tmps:=[Value.int .i64 h,js].toArray++Array.replicate (Tryz.f4.ntmps - [Value.int .i64 h,js].toArray.size) undef,defers:=[]} [.code zch]) (c::cs),W⟩:=by
 by_cases hh:1≤h∧h≤8
 ·obtain⟨k,rfl⟩:∃ k:Nat,h=(k:Int):=⟨h.toNat,by omega⟩
  exact run_jobs (hd:=k) (Q:=Q) (by omega) ⟨hj.big,ho.low,fun b hb=>(hj.q b hb).1,hj.jsl,hj.job⟩ (fun b hb=>(hj.q b hb).2) hj.qg ho.pow ho.max (fun j hj'=>TR.vrep_mono (fun b o hb=>by
   have hS:S b:=zbg (by rw[hb];simp)
   rw[z6o hS] at hb
   exact hb) (hj.hx j hj')) hj.hQj hm (kO hh)
 ·exact run_err hh ho.low hj.one fun S' W2 g1 g2 g3 g4=>kE hh S' W2 ⟨g1,g2,g4,g3⟩
def Res3(S:Nat→Prop)(W:World)(h:Int)(n:Nat)(res:Nat→List (Int×Int)×List Int)(v:Value)(e:Int):Prop:=
 ((1≤h∧h≤8)∧e=0∧∃ OB,v=.slice (some ⟨OB,0,none⟩) n n∧Outs S W OB n res) ∨
 (¬ (1≤h∧h≤8)∧e=1∧v=.slice none 0 0)
theorem Res3.keep{S S':Nat→Prop}{W W':World}{h:Int}{n:Nat}{res:Nat→List (Int×Int)×List Int}{v:Value}{e:Int}(r:Res3 S W h n res v e)(k:Kept S W S' W'):Res3 S' W' h n res v e:=by
 rcases r with⟨h1,h2,OB,h3,h4⟩|r
 ·exact .inl ⟨h1,h2,OB,h3,h4.keep k.grow k.same⟩
 ·exact .inr r
theorem Res3.of_out{S S':Nat→Prop}{W W':World}{h:Int}{n OB:Nat}{res:Nat→List (Int×Int)×List Int}(hh:1≤h∧h≤8)(hn:n≤maxLen)(r:zck S W n (RsOf res) OB S' W'):Res3 S' W' h n res (.slice (some ⟨OB,0,none⟩) n n) 0:=
 .inl ⟨hh,rfl,OB,rfl,hn,r.ob,r.out,r.res⟩
theorem zck.kept{S S':Nat→Prop}{W W':World}{n OB:Nat}{Rs:Nat→Value→Value→PH→Prop}(r:zck S W n Rs OB S' W'):Kept S W S' W':=⟨r.grow,r.low,r.size,r.same⟩
theorem Kept.trans{S S' S'':Nat→Prop}{W W' W'':World}(a:Kept S W S' W')(b:Kept S' W' S'' W''):Kept S W S'' W'':=
 ⟨fun x h=>b.grow x (a.grow x h),b.low,Nat.le_trans a.size b.size,fun x h=>(b.same x (a.grow x h)).trans (a.same x h)⟩
theorem Kept.own{S S':Nat→Prop}{W W':World}(a:Kept S W S' W')(h:Own3 S W):Own3 S' W':=h.keep a.grow a.low a.same
theorem run_res{Post:Value→World→Prop}{S Q:Nat→Prop}{W:World}{h:Int}{n:Nat}{js:Value}{jv:Nat→Value}{xs:Nat→List DeT}{res:Nat→List (Int×Int)×List Int}{c:Frame}{cs:List Frame}(ho:Own3 S W)(hj:z94 S Q W js n jv xs)(hm:∀ j,j<n→many_do_m (xs j)=some (res j))
  (kk:∀ S' W2 v e,Kept S W S' W2→Res3 S' W2 h n res v e→MX Tryz.prog Post ⟨.idle,S',G (c.finish (.tuple #[v,.int .i64 e])) cs,W2⟩) :
  MX Tryz.prog Post ⟨.idle,S,G ((base 4).at {tmps:=[Value.int .i64 h,js].toArray++Array.replicate (Tryz.f4.ntmps - [Value.int .i64 h,js].toArray.size) undef,defers:=[]} [.code zch]) (c::cs),W⟩:=
 run_any ho hj hm (fun hh S' W2 k=>kk S' W2 _ _ k (.inr ⟨hh,rfl,rfl⟩)) fun hh OB S' W2 r=>kk S' W2 _ _ r.kept (Res3.of_out hh (by have:=hj.big;simp[maxLen];omega) r)
noncomputable def Z3:Code:=match Y3 with|.seq _ (.seq _ z)=>z|_=>.skip
section
variable {Post:Value→World→Prop}{S Q:Nat→Prop}{W:World}{h1 h2 pk:Int}{js:Value}{n:Nat}{jv:Nat→Value}{xs:Nat→List DeT}{res:Nat→List (Int×Int)×List Int}
theorem alike45(ho:Own3 S W)(hj:z94 S Q W js n jv xs)(hm:∀ j,j<n→many_do_m (xs j)=some (res j)){env:Env}(he:E3 h1 h2 pk js env)
  (kk:∀ S' W2 env va ea vb eb,E3 h1 h2 pk js env→Fw.look env 11=some va→Fw.look env 12=some (.int .i64 ea)→Fw.look env 13=some vb→Fw.look env 14=some (.int .i64 eb)→Kept S W S' W2→Res3 S' W2 h1 n res va ea→Res3 S' W2 h2 n res vb eb→CE (coM Tryz.prog Post .idle) S' W2 (base 3) 157 env [.code Z3] []) :
  CE (coM Tryz.prog Post .idle) S W (base 3) 157 env [.code Y3] []:=by
 have hk:(base 3).kind≠.early:=by simp[base]
 refine CE.seq (CE.reg ?_)
 refine CE.mv (v:=.int .i64 h1) hk rfl rfl rfl he.e0 (CE.mv (v:=js) hk rfl rfl rfl ((zo rfl).trans he.e2) ?_)
 refine CE.enter Tryz.func4 rfl rfl hk rfl rfl (vs:=[.int .i64 h1,js]) (by simp only[List.map_cons,List.map_nil,opv];rw[(zo rfl).trans (z17 _ _ _),z17]) fun a x1 x2 x3=>?_
 refine run_res ho hj hm fun S1 W1 va ea k1 ra=>?_
 refine CE.back (X:=coM Tryz.prog Post .idle) (nt:=157) rfl rfl rfl x1 x2 x3 ?_
 refine CE.mv (v:=.tuple #[va,.int .i64 ea]) hk rfl rfl rfl (z17 _ _ _) (CE.ext (v:=va) hk rfl rfl rfl (z17 _ _ _) rfl (CE.ext (v:=.int .i64 ea) hk rfl rfl rfl ((zo rfl).trans (z17 _ _ _)) rfl (CE.asg (v:=va) hk rfl rfl rfl ((zo rfl).trans (z17 _ _ _)) (CE.asg (v:=.int .i64 ea) hk rfl rfl rfl ((zo rfl).trans (z17 _ _ _)) (CE.regE ?_)))))
 have he1:E3 h1 h2 pk js (Fw.put (Fw.put (Fw.put (Fw.put (Fw.put (Fw.put (Fw.put (Fw.put env 52 (.int .i64 h1)) 53 js) 54 (.tuple #[va,.int .i64 ea])) 51 (.tuple #[va,.int .i64 ea])) 55 va) 56 (.int .i64 ea)) 11 va) 12 (.int .i64 ea)):=
  (((((((he.put rfl).put rfl).put rfl).put rfl).put rfl).put rfl).put rfl).put rfl
 have l11:Fw.look (Fw.put (Fw.put (Fw.put (Fw.put (Fw.put (Fw.put (Fw.put (Fw.put env 52 (.int .i64 h1)) 53 js) 54 (.tuple #[va,.int .i64 ea])) 51 (.tuple #[va,.int .i64 ea])) 55 va) 56 (.int .i64 ea)) 11 va) 12 (.int .i64 ea)) 11=some va:=(zo rfl).trans (z17 _ _ _)
 have l12:Fw.look (Fw.put (Fw.put (Fw.put (Fw.put (Fw.put (Fw.put (Fw.put (Fw.put env 52 (.int .i64 h1)) 53 js) 54 (.tuple #[va,.int .i64 ea])) 51 (.tuple #[va,.int .i64 ea])) 55 va) 56 (.int .i64 ea)) 11 va) 12 (.int .i64 ea)) 12=some (.int .i64 ea):=z17 _ _ _
 generalize Fw.put (Fw.put (Fw.put (Fw.put (Fw.put (Fw.put (Fw.put (Fw.put env 52 (.int .i64 h1)) 53 js) 54 (.tuple #[va,.int .i64 ea])) 51 (.tuple #[va,.int .i64 ea])) 55 va) 56 (.int .i64 ea)) 11 va) 12 (.int .i64 ea)=env1 at he1 l11 l12 ⊢
 have ho1:=k1.own ho
 have hj1:=hj.keep k1.grow k1.same
 refine CE.seq (CE.reg ?_)
 refine CE.mv (v:=.int .i64 h2) hk rfl rfl rfl he1.e1 (CE.mv (v:=js) hk rfl rfl rfl ((zo rfl).trans he1.e2) ?_)
 refine CE.enter Tryz.func4 rfl rfl hk rfl rfl (vs:=[.int .i64 h2,js]) (by simp only[List.map_cons,List.map_nil,opv];rw[(zo rfl).trans (z17 _ _ _),z17]) fun a y1 y2 y3=>?_
 refine run_res ho1 hj1 hm fun S2 W2 vb eb k2 rb=>?_
 refine CE.back (X:=coM Tryz.prog Post .idle) (nt:=157) rfl rfl rfl y1 y2 y3 ?_
 refine CE.mv (v:=.tuple #[vb,.int .i64 eb]) hk rfl rfl rfl (z17 _ _ _) (CE.ext (v:=vb) hk rfl rfl rfl (z17 _ _ _) rfl (CE.ext (v:=.int .i64 eb) hk rfl rfl rfl ((zo rfl).trans (z17 _ _ _)) rfl (CE.asg (v:=vb) hk rfl rfl rfl ((zo rfl).trans (z17 _ _ _)) (CE.asg (v:=.int .i64 eb) hk rfl rfl rfl ((zo rfl).trans (z17 _ _ _)) (CE.regE ?_)))))
 refine kk S2 W2 _ va ea vb eb ((((((((he1.put rfl).put rfl).put rfl).put rfl).put rfl).put rfl).put rfl).put rfl) ?_ ?_ ((zo rfl).trans (z17 _ _ _)) (z17 _ _ _) (k1.trans k2) (ra.keep k2) rb
 ·exact(zo rfl).trans ((zo rfl).trans ((zo rfl).trans ((zo rfl).trans ((zo rfl).trans ((zo rfl).trans ((zo rfl).trans ((zo rfl).trans l11)))))))
 ·exact(zo rfl).trans ((zo rfl).trans ((zo rfl).trans ((zo rfl).trans ((zo rfl).trans ((zo rfl).trans ((zo rfl).trans ((zo rfl).trans l12)))))))
end
end Go.Mn
namespace Go.Mn
open Go.Fw Go.RowKit Go.Proofs Go.Mo
def zal(nt:Nat)(envO:Env)(w:World):Exit→Act→World→Prop:=fun e a' w'=>e=.normal∧a'.tmps.size=nt∧z2g envO a'∧Below w.heap.size w w'
theorem gl_piece{P:Program}{C:Code}{nt:Nat}{env envO:Env}{L:List It}{w:World}{a0:Act}{Sp:Hp}(hS:Sp.sub w)(hL:AllP Sp L)(h1:a0.defers=[])(h2:a0.tmps.size=nt)(h3:z2g env a0)
  (h:GL P (zal nt envO w) ⟨w,Sp,nt,false,[]⟩ [C] env L):C.wp P (zal nt envO w) a0 w:=by
 refine Go.Code.wp_mono (fun e a w q=>by cases e<;>exact q) (h a0 w ?_)
 exact⟨h1,h2,h3,Below.refl _ _,(fun q=>by cases q),Sp,fun _=>Hp.emp,Hp.le_refl Sp,fun b hb=>.inl hb,⟨hS,fun _ _=>Hp.sub_emp w,fun _ _=>Hp.dj_emp Sp,fun _ _ _ _ _=>Hp.dj_emp _,fun _ _ b hb=>absurd rfl hb⟩,fun i A hA=>hL.at i A hA⟩
theorem gl_end{P:Program}{nt:Nat}{env envO:Env}{L:List It}{w:World}{Sp:Hp}(hc:z81 env envO):GL P (zal nt envO w) ⟨w,Sp,nt,false,[]⟩ [] env L:=GL.nil fun a w' st=>⟨rfl,st.size,st.env.subset hc,st.below⟩
theorem CE.pieceG{Post:Value→World→Prop}{S:Nat→Prop}{W:World}{b:Frame}{nt:Nat}{env envO:Env}{C:Code}{k:List Item}{cs:List Frame}(ho:Own3 S W)(hk:k≠[])(hb1:b.kind=.normal)(hb4:∃ fn,Tryz.prog.funcs[b.fn]?=some fn)(hok:okC Tryz.prog TX C=true)
  (hsv:∀ t v,Fw.look env t=some v→VR TF (idOn (Qc S W)) v v)(hsvO:∀ t v,Fw.look envO t=some v→Sv (Qc S W) v∧∀ b o s l k,v=.slice (some ⟨b,o,s⟩) l k→0<k)(L:List It)(hL:∀ full,AllP (z4s (Qc S W) (z2n TF (Qc S W) full W)) L)
  (h:∀ (w:World) (Sp:Hp),Sp.sub w→AllP Sp L→GL Tryz.prog (zal nt envO w) ⟨w,Sp,nt,false,[]⟩ [C] env L)
  (k1:∀ S' W2,Kept S W S' W2→CE (coM Tryz.prog Post .idle) S' W2 b nt envO k cs):CE (coM Tryz.prog Post .idle) S W b nt env (.code C::k) cs:=by
 refine CE.piece (F:=TF) (T:=TX) (Q:=Qc S W) pg (fun b hb=>hb) ho.low (fun g hg=>ho.cells g hg) (by rw[glob8];have:=ho.low 7 (ho.glob 7 (by omega)).1;omega) hk hb1 hb4 hok hsv hsvO (fun w a0 hw d s e=>?_) fun S' W2 g1 _ g3 g4 g5=>k1 S' W2 ⟨g1,g3,g4,g5⟩
 have hAll:AllP (z4s (Qc S W) w) L:=by
  rcases hw with hw|hw
  ·rw[zan (w':=z2n TF (Qc S W) true W) fun b _=>by rw[hw]];exact hL true
  ·rw[zan (w':=z2n TF (Qc S W) false W) fun b _=>by rw[hw]];exact hL false
 exact gl_piece (z86 _ w) hAll d s e (h w _ (z86 _ w) hAll)
end Go.Mn
set_option maxHeartbeats 1000000
namespace Go.Mn
open Go.Conc Go.ConcN Go.RowKit Go.Fw Go.Proofs Go.Mo
def EqJ(js js':Value):Prop:=js'=js∨∃ a a',js=.slice (some a) 0 0∧js'=.slice (some a') 0 0
theorem eqJ_of{F:Nat→Prop}{P:Program}{Q:Nat→Prop}{σ:Bij}{js v':Value}{n:Nat}(hl:(idOn Q).le σ)(hb:Bi P σ)(h1:∃ a cap,js=.slice a n cap)(h2:∀ b o s l k,js=.slice (some ⟨b,o,s⟩) l k→Q b∨l=0∧k=0)(hv:VR F σ js v'):EqJ js v':=by
 obtain⟨a,cap,rfl⟩:=h1
 cases hv with
 |nilsl _ _=>exact .inl rfl
 |@sl b c o s _ _ hr=>
  rcases h2 _ _ _ _ _ rfl with h|⟨rfl,rfl⟩
  ·obtain rfl:=hb.fn (hl b b ⟨rfl,h⟩) hr;exact .inl rfl
  ·exact .inr ⟨_,_,rfl,rfl⟩
 |slE a a'=>exact .inr ⟨_,_,rfl,rfl⟩
theorem js_vr{F:Nat→Prop}{Q:Nat→Prop}{js:Value}{n:Nat}(h1:∃ a cap,js=.slice a n cap)(h2:∀ b o s l k,js=.slice (some ⟨b,o,s⟩) l k→Q b∨l=0∧k=0):VR F (idOn Q) js js:=by
 obtain⟨a,cap,rfl⟩:=h1
 match a with
 |none=>exact .nilsl _ _
 |some ⟨b,o,s⟩=>
  rcases h2 _ _ _ _ _ rfl with h|⟨rfl,rfl⟩
  ·exact .sl o s _ _ ⟨rfl,h⟩
  ·exact .slE _ _
theorem z94.eqJ{S Q:Nat→Prop}{W:World}{js js':Value}{n:Nat}{jv:Nat→Value}{xs:Nat→List DeT}(h:z94 S Q W js n jv xs)(e:EqJ js js'):z94 S Q W js' n jv xs:=by
 rcases e with rfl|⟨a,a',rfl,rfl⟩
 ·exact h
 ·obtain⟨_,_,e⟩:=h.jsl
  cases e
  exact⟨by omega,rfl,⟨_,_,rfl⟩,fun a l k e=>by cases e;exact Nat.le_refl _,fun b o s l k e=>by cases e;exact .inr ⟨rfl,rfl⟩,fun i hi=>absurd hi (Nat.not_lt_zero _),h.q,h.qg,fun i hi=>absurd hi (Nat.not_lt_zero _),fun i hi=>absurd hi (Nat.not_lt_zero _)⟩
theorem CE.pieceJ{Post:Value→World→Prop}{S Q:Nat→Prop}{W:World}{b:Frame}{nt n:Nat}{env envO:Env}{js:Value}{jv:Nat→Value}{xs:Nat→List DeT}{C:Code}{k:List Item}{cs:List Frame}(ho:Own3 S W)(hj:z94 S Q W js n jv xs)(hk:k≠[])(hb1:b.kind=.normal)(hb4:∃ fn,Tryz.prog.funcs[b.fn]?=some fn)(hok:okC Tryz.prog TX C=true)
  (hsv:∀ t v,Fw.look env t=some v→VR TF (idOn (Qc S W)) v v)(hsvO:∀ t v,Fw.look envO t=some v→Sv (Qc S W) v∧∀ b o s l k,v=.slice (some ⟨b,o,s⟩) l k→0<k)(L:List It)(hL:∀ full,AllP (z4s (Qc S W) (z2n TF (Qc S W) full W)) L)
  (h:∀ (w:World) (Sp:Hp),Sp.sub w→AllP Sp L→GL Tryz.prog (zal nt ((2,js)::envO) w) ⟨w,Sp,nt,false,[]⟩ [C] env L)
  (k1:∀ S' W2 js',Kept S W S' W2→EqJ js js'→CE (coM Tryz.prog Post .idle) S' W2 b nt ((2,js')::envO) k cs):CE (coM Tryz.prog Post .idle) S W b nt env (.code C::k) cs:=by
 have hQ:∀ b,Qc S W b→S b∧∃ c e fz,W.heap[b]?=some (.cells c e fz):=fun b hb=>hb
 have hS:=ho.low
 have hG:∀ g,TX.G g=true→Qc S W g:=fun g hg=>ho.cells g hg
 have hg:Tryz.prog.globals.size≤W.heap.size:=by rw[glob8];have:=ho.low 7 (ho.glob 7 (by omega)).1;omega
 have hwp:∀ (w:World) (a0:Act),(w.heap=(z2n TF (Qc S W) true W).heap∨w.heap=(z2n TF (Qc S W) false W).heap)→a0.defers=[]→a0.tmps.size=nt→z2g env a0→C.wp Tryz.prog (zal nt ((2,js)::envO) w) a0 w:=fun w a0 hw d s e=>by
  have hAll:AllP (z4s (Qc S W) w) L:=by
   rcases hw with hw|hw
   ·rw[zan (w':=z2n TF (Qc S W) true W) fun b _=>by rw[hw]];exact hL true
   ·rw[zan (w':=z2n TF (Qc S W) false W) fun b _=>by rw[hw]];exact hL false
  exact gl_piece (z86 _ w) hAll d s e (h w _ (z86 _ w) hAll)
 intro a h1 h2 he
 let a0:Act:=⟨a.tmps.map (fill TF (idOn (Qc S W))),[]⟩
 have har:AR TF (idOn (Qc S W)) a0.tmps a.tmps:=⟨by simp[a0],fun i v v' e e'=>by
  simp only[a0,Array.getElem?_map,e'] at e
  simp at e
  subst e
  exact fill_vr v'⟩
 have he0:z2g env a0:=fun t v hv=>by
  simp only[a0,Array.getElem?_map,he t v hv]
  simp[z88 (hsv t v hv)]
 have tr:=piece_tr (F:=TF) (T:=TX) (main:=true) (RO:=Tg.idle.ro) (S0:=S) (Q:=Qc S W) (W0:=W) (b:=b) (a0:=a0) (a:=a) (C:=C) (k:=k) (cs:=cs) (R:=fun w a' w'=>a'.tmps.size=nt∧z2g ((2,js)::envO) a'∧Below w.heap.size w w') pg
  (fun b hb=>⟨.inr (hQ b hb).1,(hQ b hb).2⟩) hS (fun b hb=>(show False from hb).elim) hG hk hb1 hb4 hok hg har rfl h1 (fun w hw=>by
   obtain⟨e,a',w',⟨rfl,q1,q2,q3⟩,h⟩:=hwp w a0 hw rfl (by simp[a0,h2]) he0 b [] [cbot Tryz.prog]
   exact⟨a',w',h,q1,q2,q3⟩) (fun w a' w' h=>h.2.2)
 refine Tr.mx tr fun S' g W2 hst=>?_
 obtain⟨a'',rfl,⟨⟨w0,w,σ,a',e0,⟨q1,q2,_⟩,hwr,hta,hle,hown⟩,hdf,hgr,hfr,hlo,hsz,hsm⟩⟩:=hst W2 (.refl _ _ _)
 have h2':=q2 2 js rfl
 obtain⟨js',hj',hEq⟩:∃ js',a''.tmps[2]?=some js'∧EqJ js js':=by
  rcases hta.get? 2 with⟨y,_⟩|⟨z,z',y,y',hz⟩
  ·rw[h2'] at y;cases y
  ·rw[h2'] at y;cases y
   exact⟨z',y',eqJ_of hle hwr.bi hj.jsl (fun b o s l k e=>(hj.jr b o s l k e).imp (fun h=>hj.q b h) id) hz⟩
 refine k1 S' W2 js' ⟨hgr,hlo,hsz,fun b hb=>hsm b (.inr hb)⟩ hEq a'' hdf (by rw[← hta.size];exact q1) fun t v hv=>?_
 by_cases ht:2=t
 ·subst ht
  simp[Fw.look] at hv
  subst hv
  exact hj'
 ·have hv:Fw.look envO t=some v:=by simpa[Fw.look,ht] using hv
  have hv1:=q2 t v (by simpa[Fw.look,ht] using hv)
  rcases hta.get? t with⟨y,_⟩|⟨z,z',y,y',hz⟩
  ·rw[hv1] at y;cases y
  ·rw[hv1] at y;cases y
   rw[y',(hsvO t v hv).1.eq hle hwr.bi hz (hsvO t v hv).2]
end Go.Mn
