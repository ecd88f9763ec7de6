/- ManyAlike in company: the first check; the plain laws of the three pieces. -/
import Derived.Test.YthhpnohbfigggaaGreatDoorMqG
import Derived.Test.YthhpnohbfigggaaGreatDoorFwOX
import Derived.Test.YthhpnohbfigggaaGreatDoorMp1
set_option linter.all false
set_option maxRecDepth 100000
namespace Go.Mn
open Go.Conc Go.ConcN Go.RowKit Go.Fw Go.Proofs Go.Mo Go.Pu
theorem idx_nat{α:Type}{l:List α}{k:Nat}{d:α}(h:l[k]?=some d):idx l (k:Int)=some d:=by
 unfold idx;rw[if_pos (by omega)];simpa using h
theorem zTwo_ok:zcy [([(0,0),(1,0)],[0,0])] 0=some false:=by decide +kernel
theorem zSame_ok(l:List (List (Int×Int)×List Int)):z8c l l=some true:=by
 have:Ok (z8c l l) (fun r=>r=true):=by
  unfold z8c
  rw[z22]
  refine z3i (fun _ _=>True) trivial (fun k d st hk _=>?_) fun st _=>?_
  ·unfold z8o
   have e:=idx_nat hk
   rw[z5h]
   simp only[e,Option.bind_some,zep,equal_errno,Bool.not_true,Bool.false_eq_true,if_false,zg,z1j]
  ·rw[zg]
 obtain⟨r,e,rfl⟩:=this
 exact e
theorem zLast_ok{l:List (List (Int×Int)×List Int)}{m:Nat}{d:List (Int×Int)×List Int}(h:l[m]?=some d):z9s (m:Int) l [d] 0=some true:=by
 have e:=idx_nat h
 unfold z9s
 have e0:idx [d] (0:Int)=some d:=by simp[idx]
 simp only[e,e0,Option.bind_some,zep]
 rfl
theorem vr_sl{S:Nat→Prop}{W:World}{OB n:Nat}{res:Nat→List (Int×Int)×List Int}(o:Outs S W OB n res):Sv (Qc S W) (.slice (some ⟨OB,0,none⟩) n n):=by
 obtain⟨cc,hc,_⟩:=o.out
 exact .sl _ _ _ _ _ ⟨o.ob,_,_,_,hc⟩
theorem z94.vr{S Q:Nat→Prop}{W:World}{js:Value}{n:Nat}{jv:Nat→Value}{xs:Nat→List DeT}(h:z94 S Q W js n jv xs){F:Nat→Prop}:VR F (idOn (Qc S W)) js js:=
 js_vr h.jsl fun b o s l k e=>(h.jr b o s l k e).imp (fun hq=>h.q b hq) id
def AllE(p:Value→Prop):Env→Prop
 | []=>True
 |x::r=>p x.2∧AllE p r
theorem AllE.at{p:Value→Prop}:∀ {env:Env},AllE p env→∀ t v,Fw.look env t=some v→p v
 | [],_,_,_,e=>by cases e
 |x::r,h,t,v,e=>by
  unfold Fw.look at e
  split at e
  ·cases e;exact h.1
  ·exact AllE.at h.2 t v e
section
variable {Post:Value→World→Prop}{S Q:Nat→Prop}{W:World}{h1 h2 pk:Int}{js:Value}{n:Nat}{jv:Nat→Value}{xs:Nat→List DeT}{env:Env}
theorem hb3:∃ fn,Tryz.prog.funcs[(base 3).fn]?=some fn:=⟨_,Tryz.func3⟩
def OkO(Q:Nat→Prop)(v:Value):Prop:=Sv Q v∧∀ b o s l k,v=.slice (some ⟨b,o,s⟩) l k→0<k
theorem OkO.int{Q:Nat→Prop}{k:IntKind}{i:Int}:OkO Q (.int k i):=⟨.int _ _,fun _ _ _ _ _ e=>by cases e⟩
theorem OkO.bool{Q:Nat→Prop}{i:Bool}:OkO Q (.bool i):=⟨.bool _,fun _ _ _ _ _ e=>by cases e⟩
theorem alike2{OB:Nat}(ho:Own3 S W)(hj:z94 S Q W js n jv xs)(he:E3 h1 h2 pk js env)(e9:Fw.look env 9=some (.slice (some ⟨OB,0,none⟩) 1 1))(e10:Fw.look env 10=some (.int .i64 0))
  (o:Outs S W OB 1 (fun _=>([(0,0),(1,0)],[0,0])))
  (kk:∀ S' W2 env js',Kept S W S' W2→EqJ js js'→E3 h1 h2 pk js' env→CE (coM Tryz.prog Post .idle) S' W2 (base 3) 157 env [.code Y3] []) :
  CE (coM Tryz.prog Post .idle) S W (base 3) 157 env [.code X3,.code Y3] []:=by
 refine CE.seq (x:=R2c) (y:=C2c) (CE.weak (env':=[(0,.int .i64 h1),(1,.int .i64 h2),(2,js),(3,.int .i64 pk),(9,.slice (some ⟨OB,0,none⟩) 1 1),(10,.int .i64 0)]) ⟨he.e0,he.e1,he.e2,he.e3,e9,e10,trivial⟩ ?_)
 refine CE.pieceJ (envO:=[(50,.bool false),(0,.int .i64 h1),(1,.int .i64 h2),(3,.int .i64 pk)]) ho hj (by simp) rfl hb3 ok2 (AllE.at ⟨.int _ _,.int _ _,hj.vr,.int _ _,(vr_sl o).vr,.int _ _,trivial⟩)
  (AllE.at (p:=OkO (Qc S W)) ⟨.bool,.int,.int,.int,trivial⟩)
  [imm (TR.sl TrDn) (.slice (some ⟨OB,0,none⟩) 1 1) [([(0,0),(1,0)],[0,0])]] (fun full=>⟨zap o,trivial⟩)
  (fun w Sp hS hL=>two_gl hS zTwo_ok ⟨rfl,rfl,rfl,rfl,rfl,trivial⟩) fun S' W2 js' k hE=>?_
 refine CE.cond (t:=false) rfl (CE.skip ?_)
 exact kk S' W2 _ js' k hE ⟨rfl,rfl,rfl,rfl⟩
end
section
variable {Post:Value→World→Prop}{S:Nat→Prop}{W:World}{h1 h2 pk:Int}{js:Value}{n:Nat}{env:Env}
theorem zaz{k:List Item}(e8:Fw.look env 8=some (.bool true))(hp:∀ W1,Rly (fun _=>False) S W W1→Post (.bool true) W1):CE (coM Tryz.prog Post .idle) S W (base 3) 157 env (.code .ret::k) []:=
 CE.fin (fn:=Tryz.f3) (r:=8) rfl Tryz.func3 (by kernel_rfl) rfl e8 hp
theorem alike6{aj aa ab:Option Addr}{cj ca cb:Nat}(he:E3 h1 h2 pk (.slice aj n cj) env)(e11:Fw.look env 11=some (.slice aa n ca))(e12:Fw.look env 12=some (.int .i64 0))(e13:Fw.look env 13=some (.slice ab n cb))(e14:Fw.look env 14=some (.int .i64 0))
  (kk:∀ env,E3 h1 h2 pk (.slice aj n cj) env→Fw.look env 11=some (.slice aa n ca)→Fw.look env 13=some (.slice ab n cb)→CE (coM Tryz.prog Post .idle) S W (base 3) 157 env [.code Z4] []) :
  CE (coM Tryz.prog Post .idle) S W (base 3) 157 env [.code Z3] []:=by
 have hk:(base 3).kind≠.early:=by simp[base]
 refine CE.seq (x:=P6) (y:=Z4) (CE.weak (env':=[(0,.int .i64 h1),(1,.int .i64 h2),(2,.slice aj n cj),(3,.int .i64 pk),(11,.slice aa n ca),(12,.int .i64 0),(13,.slice ab n cb),(14,.int .i64 0)]) ⟨he.e0,he.e1,he.e2,he.e3,e11,e12,e13,e14,trivial⟩ ?_)
 refine CE.seq (CE.reg ?_)
 refine CE.mv hk rfl rfl rfl rfl (CE.binI (v:=.bool false) hk rfl rfl rfl rfl rfl rfl (CE.mv hk rfl rfl rfl rfl ?_))
 refine CE.mv hk rfl rfl rfl rfl (CE.binI (v:=.bool false) hk rfl rfl rfl rfl rfl rfl (CE.pick (t:=false) hk rfl rfl rfl rfl rfl (CE.mv hk rfl rfl rfl rfl ?_)))
 refine CE.mv hk rfl rfl rfl rfl (CE.lenS hk Tryz.underlying23 rfl rfl rfl rfl (CE.mv hk rfl rfl rfl rfl (CE.lenS hk Tryz.underlying22 rfl rfl rfl rfl (CE.binI (v:=.bool false) hk rfl rfl rfl rfl rfl (by simp[Fw.binI]) (CE.pick (t:=false) hk rfl rfl rfl rfl rfl (CE.mv hk rfl rfl rfl rfl ?_))))))
 refine CE.mv hk rfl rfl rfl rfl (CE.lenS hk Tryz.underlying23 rfl rfl rfl rfl (CE.mv hk rfl rfl rfl rfl (CE.lenS hk Tryz.underlying22 rfl rfl rfl rfl (CE.binI (v:=.bool false) hk rfl rfl rfl rfl rfl (by simp[Fw.binI]) (CE.pick (t:=false) hk rfl rfl rfl rfl rfl (CE.regE ?_))))))
 refine CE.cond (t:=false) rfl (CE.skip ?_)
 exact kk _ ⟨rfl,rfl,rfl,rfl⟩ rfl rfl
theorem alike6e{va vb:Value}{ea eb:Int}(he:E3 h1 h2 pk js env)(e11:Fw.look env 11=some va)(e12:Fw.look env 12=some (.int .i64 ea))(e13:Fw.look env 13=some vb)(e14:Fw.look env 14=some (.int .i64 eb))
  (hx:ea=1∨(ea=0∧eb=1))(hp:∀ W1,Rly (fun _=>False) S W W1→Post (.bool true) W1) :
  CE (coM Tryz.prog Post .idle) S W (base 3) 157 env [.code Z3] []:=by
 have hk:(base 3).kind≠.early:=by simp[base]
 refine CE.seq (x:=P6) (y:=Z4) (CE.weak (env':=[(0,.int .i64 h1),(1,.int .i64 h2),(2,js),(3,.int .i64 pk),(11,va),(12,.int .i64 ea),(13,vb),(14,.int .i64 eb)]) ⟨he.e0,he.e1,he.e2,he.e3,e11,e12,e13,e14,trivial⟩ ?_)
 refine CE.seq (CE.reg ?_)
 rcases hx with rfl|⟨rfl,rfl⟩
 ·refine CE.mv hk rfl rfl rfl rfl (CE.binI (v:=.bool true) hk rfl rfl rfl rfl rfl rfl (CE.mv hk rfl rfl rfl rfl ?_))
  refine CE.skipO rfl rfl rfl (CE.skipO rfl rfl rfl (CE.pick (t:=true) hk rfl rfl rfl rfl rfl (CE.mv hk rfl rfl rfl rfl ?_)))
  refine CE.skipO rfl rfl rfl (CE.skipO rfl rfl rfl (CE.skipO rfl rfl rfl (CE.skipO rfl rfl rfl (CE.skipO rfl rfl rfl (CE.pick (t:=true) hk rfl rfl rfl rfl rfl (CE.mv hk rfl rfl rfl rfl ?_))))))
  refine CE.skipO rfl rfl rfl (CE.skipO rfl rfl rfl (CE.skipO rfl rfl rfl (CE.skipO rfl rfl rfl (CE.skipO rfl rfl rfl (CE.pick (t:=true) hk rfl rfl rfl rfl rfl (CE.regE ?_))))))
  refine CE.cond (t:=true) rfl (CE.seq (CE.reg ?_))
  refine CE.mv hk rfl rfl rfl rfl (CE.binI (v:=.bool true) hk rfl rfl rfl rfl rfl rfl (CE.mv hk rfl rfl rfl rfl ?_))
  refine CE.skipO rfl rfl rfl (CE.skipO rfl rfl rfl (CE.pick (t:=true) hk rfl rfl rfl rfl rfl (CE.asg hk rfl rfl rfl rfl (CE.regE ?_))))
  exact zaz rfl hp
 ·refine CE.mv hk rfl rfl rfl rfl (CE.binI (v:=.bool false) hk rfl rfl rfl rfl rfl rfl (CE.mv hk rfl rfl rfl rfl ?_))
  refine CE.mv hk rfl rfl rfl rfl (CE.binI (v:=.bool true) hk rfl rfl rfl rfl rfl rfl (CE.pick (t:=false) hk rfl rfl rfl rfl rfl (CE.mv hk rfl rfl rfl rfl ?_)))
  refine CE.skipO rfl rfl rfl (CE.skipO rfl rfl rfl (CE.skipO rfl rfl rfl (CE.skipO rfl rfl rfl (CE.skipO rfl rfl rfl (CE.pick (t:=true) hk rfl rfl rfl rfl rfl (CE.mv hk rfl rfl rfl rfl ?_))))))
  refine CE.skipO rfl rfl rfl (CE.skipO rfl rfl rfl (CE.skipO rfl rfl rfl (CE.skipO rfl rfl rfl (CE.skipO rfl rfl rfl (CE.pick (t:=true) hk rfl rfl rfl rfl rfl (CE.regE ?_))))))
  refine CE.cond (t:=true) rfl (CE.seq (CE.reg ?_))
  refine CE.mv hk rfl rfl rfl rfl (CE.binI (v:=.bool false) hk rfl rfl rfl rfl rfl rfl (CE.mv hk rfl rfl rfl rfl ?_))
  refine CE.mv hk rfl rfl rfl rfl (CE.binI (v:=.bool true) hk rfl rfl rfl rfl rfl rfl (CE.pick (t:=false) hk rfl rfl rfl rfl rfl (CE.asg hk rfl rfl rfl rfl (CE.regE ?_))))
  exact zaz rfl hp
end
section
variable {Post:Value→World→Prop}{S Q:Nat→Prop}{W:World}{h1 h2 pk:Int}{js:Value}{n:Nat}{jv:Nat→Value}{xs:Nat→List DeT}{res:Nat→List (Int×Int)×List Int}{env:Env}
theorem alike8{OA OB:Nat}(ho:Own3 S W)(hj:z94 S Q W js n jv xs)(he:E3 h1 h2 pk js env)(e11:Fw.look env 11=some (.slice (some ⟨OA,0,none⟩) n n))(e13:Fw.look env 13=some (.slice (some ⟨OB,0,none⟩) n n))(oa:Outs S W OA n res)(ob:Outs S W OB n res)
  (hp:∀ S' W2,Kept S W S' W2→∀ W1,Rly (fun _=>False) S' W2 W1→Post (.bool true) W1)
  (kk:0<n→∀ S' W2 env,Kept S W S' W2→E3 h1 h2 pk js env→Fw.look env 11=some (.slice (some ⟨OA,0,none⟩) n n)→CE (coM Tryz.prog Post .idle) S' W2 (base 3) 157 env [.code Z6] []) :
  CE (coM Tryz.prog Post .idle) S W (base 3) 157 env [.code Z4] []:=by
 have hk:(base 3).kind≠.early:=by simp[base]
 refine CE.seq (x:=B8) (y:=Z5) (CE.weak (env':=[(0,.int .i64 h1),(1,.int .i64 h2),(2,js),(3,.int .i64 pk),(11,.slice (some ⟨OA,0,none⟩) n n),(13,.slice (some ⟨OB,0,none⟩) n n)]) ⟨he.e0,he.e1,he.e2,he.e3,e11,e13,trivial⟩ ?_)
 have hL:∀ full,AllP (z4s (Qc S W) (z2n TF (Qc S W) full W)) [imm (TR.sl TrDn) (.slice (some ⟨OA,0,none⟩) n n) ((List.range n).map res),imm (TR.sl TrDn) (.slice (some ⟨OB,0,none⟩) n n) ((List.range n).map res)]:=fun full=>⟨zap oa,zap ob,trivial⟩
 have hv:AllE (fun v=>VR TF (idOn (Qc S W)) v v) [(0,.int .i64 h1),(1,.int .i64 h2),(2,js),(3,.int .i64 pk),(11,.slice (some ⟨OA,0,none⟩) n n),(13,.slice (some ⟨OB,0,none⟩) n n)]:=⟨.int _ _,.int _ _,hj.vr,.int _ _,(vr_sl oa).vr,(vr_sl ob).vr,trivial⟩
 obtain⟨aj,cj,rfl⟩:=hj.jsl
 by_cases hn:0<n
 ·refine CE.pieceJ (envO:=[(0,.int .i64 h1),(1,.int .i64 h2),(3,.int .i64 pk),(11,.slice (some ⟨OA,0,none⟩) n n)]) ho hj (by simp) rfl hb3 ok8 (AllE.at hv)
   (AllE.at (p:=OkO (Qc S W)) ⟨.int,.int,.int,⟨vr_sl oa,fun b o s l k e=>by cases e;exact hn⟩,trivial⟩) _ hL (fun w Sp hS hL=>same_gl hS (zSame_ok _) ⟨rfl,rfl,rfl,rfl,rfl,trivial⟩) fun S' W2 js' k hE=>?_
  have hE:js'=.slice aj n cj:=by
   rcases hE with h|⟨a,a',e,_⟩
   ·exact h
   ·cases e;omega
  subst hE
  refine CE.seq (x:=P14) (y:=Z6) (CE.seq (CE.reg ?_))
  refine CE.mv hk rfl rfl rfl rfl (CE.lenS hk Tryz.underlying22 rfl rfl rfl rfl (CE.binI (v:=.bool false) hk rfl rfl rfl rfl rfl (by simp[Fw.binI];omega) (CE.regE (CE.cond (t:=false) rfl (CE.skip ?_)))))
  exact kk hn S' W2 _ k ⟨rfl,rfl,rfl,rfl⟩ rfl
 ·obtain rfl:n=0:=by omega
  refine CE.pieceJ (envO:=[(0,.int .i64 h1),(1,.int .i64 h2),(3,.int .i64 pk)]) ho hj (by simp) rfl hb3 ok8 (AllE.at hv)
   (AllE.at (p:=OkO (Qc S W)) ⟨.int,.int,.int,trivial⟩) _ hL (fun w Sp hS hL=>same_gl hS (zSame_ok _) ⟨rfl,rfl,rfl,rfl,trivial⟩) fun S' W2 js' k hE=>?_
  obtain⟨a',c',rfl⟩:∃ a' c',js'=.slice a' 0 c':=by
   rcases hE with h|⟨a,a',e,e'⟩
   ·exact⟨_,_,h⟩
   ·exact⟨_,_,e'⟩
  refine CE.seq (x:=P14) (y:=Z6) (CE.seq (CE.reg ?_))
  refine CE.mv hk rfl rfl rfl rfl (CE.lenS hk Tryz.underlying22 rfl rfl rfl rfl (CE.binI (v:=.bool true) hk rfl rfl rfl rfl rfl (by simp[Fw.binI]) (CE.regE (CE.cond (t:=true) rfl (CE.seq (CE.reg (CE.asg hk rfl rfl rfl rfl (CE.regE ?_))))))))
  exact zaz rfl (hp S' W2 k)
end
section
variable {Post:Value→World→Prop}{S Q:Nat→Prop}{W:World}{h1 h2 pk:Int}{js:Value}{n:Nat}{jv:Nat→Value}{xs:Nat→List DeT}{res:Nat→List (Int×Int)×List Int}{env:Env}
theorem alike16{OA m:Nat}(ho:Own3 S W)(hj:z94 S Q W js n jv xs)(hm:∀ j,j<n→many_do_m (xs j)=some (res j))(hw:m<n)(hwm:z55 pk n=some (m:Int))(hh:1≤h1∧h1≤8)
  (he:E3 h1 h2 pk js env)(e11:Fw.look env 11=some (.slice (some ⟨OA,0,none⟩) n n))(oa:Outs S W OA n res)
  (hp:∀ S' W2,Kept S W S' W2→∀ W1,Rly (fun _=>False) S' W2 W1→Post (.bool true) W1) :
  CE (coM Tryz.prog Post .idle) S W (base 3) 157 env [.code Z6] []:=by
 have hk:(base 3).kind≠.early:=by simp[base]
 refine CE.weak (env':=[(0,.int .i64 h1),(1,.int .i64 h2),(2,js),(3,.int .i64 pk),(11,.slice (some ⟨OA,0,none⟩) n n)]) ⟨he.e0,he.e1,he.e2,he.e3,e11,trivial⟩ ?_
 obtain⟨Jb,jo,cap,rfl,qJ,cJ⟩:=hj.job m hw
 have hcap:n≤cap:=hj.cp _ _ _ rfl
 refine CE.seq (CE.reg ?_)
 refine CE.mv hk rfl rfl rfl rfl (CE.mv hk rfl rfl rfl rfl (CE.lenS hk Tryz.underlying22 rfl rfl rfl rfl ?_))
 refine CE.enter Tryz.func7 rfl rfl hk rfl rfl (vs:=[.int .i64 pk,.int .i64 n]) rfl fun a x1 x2 x3=>?_
 refine call_plain (Q:=Qc S W) (f:=7) (args:=[.int .i64 pk,.int .i64 n]) (v:=.int .i64 m) ho (fun b hb=>hb) (fun g hg=>ho.glob g hg) rfl Tryz.func7 rfl rfl (fun v hv=>?_) (fun w _=>?_) (fun σ v' h=>by cases h;rfl) fun S1 W1 k1=>?_
 ·simp at hv;rcases hv with rfl|rfl<;>exact .int _ _
 ·exact(Go.Wk.pk_Within_c (whole w) w (whole_sub w) pk n m hwm).mono fun e w' h=>⟨h.1,by rw[h.2];exact Below.refl _ _⟩
 refine CE.back (X:=coM Tryz.prog Post .idle) (nt:=157) rfl rfl rfl x1 x2 x3 ?_
 refine CE.asg hk rfl rfl rfl rfl (CE.regE (CE.seq (CE.reg ?_)))
 refine CE.mv hk rfl rfl rfl rfl (CE.mv hk rfl rfl rfl rfl (CE.mv hk rfl rfl rfl rfl (CE.mv hk rfl rfl rfl rfl ?_)))
 have hbig:=hj.big
 refine CE.binI (n:=1) hk rfl rfl rfl rfl rfl (binI_succ (by omega)) ?_
 refine CE.slc1 (m:=m) Tryz.underlying22 tl31 hk rfl rfl rfl rfl rfl rfl (by omega) ?_
 have ho1:=k1.own ho
 have hj1:=hj.keep k1.grow k1.same
 refine CE.enter Tryz.func4 rfl rfl hk rfl rfl (vs:=[.int .i64 h1,.slice (some ⟨Jb,jo+m,none⟩) 1 (cap-m)]) rfl fun a y1 y2 y3=>?_
 have hj2:z94 S1 Q W1 (.slice (some ⟨Jb,jo+m,none⟩) 1 (cap-m)) 1 (fun _=>jv m) (fun _=>xs m):=
  ⟨by omega,rfl,⟨_,_,rfl⟩,fun a l k e=>by cases e;omega,fun b o s l k e=>by cases e;exact .inl qJ,fun i hi=>⟨Jb,jo+m,cap-m,rfl,qJ,by
   obtain rfl:i=0:=by omega
   obtain⟨Jb',jo',cap',e1,e2,e3⟩:=hj1.job m hw
   cases e1
   exact e3⟩,hj1.q,hj1.qg,fun j _=>hj1.hx m hw,fun j _=>hj1.hQj m hw⟩
 refine run_res (res:=fun _=>res m) ho1 hj2 (fun _ _=>hm m hw) fun S2 W2 v e k2 r=>?_
 rcases r.symm with⟨h,_⟩|⟨_,rfl,OB,rfl,ob⟩
 ·exact absurd hh h
 refine CE.back (X:=coM Tryz.prog Post .idle) (nt:=157) rfl rfl rfl y1 y2 y3 ?_
 refine CE.mv hk rfl rfl rfl rfl (CE.ext hk rfl rfl rfl rfl rfl (CE.ext hk rfl rfl rfl rfl rfl (CE.asg hk rfl rfl rfl rfl (CE.asg hk rfl rfl rfl rfl (CE.regE ?_)))))
 have ho2:=k2.own ho1
 have oa2:Outs S2 W2 OA n res:=(oa.keep k1.grow k1.same).keep k2.grow k2.same
 refine CE.seq (x:=R18) (y:=.ret) (CE.weak (env':=[(3,.int .i64 m),(11,.slice (some ⟨OA,0,none⟩) n n),(16,.slice (some ⟨OB,0,none⟩) ((1:Nat)) 1),(17,.int .i64 0)]) ⟨rfl,rfl,rfl,rfl,trivial⟩ ?_)
 refine CE.pieceG (envO:=[(8,.bool true)]) ho2 (by simp) rfl hb3 ok18 (AllE.at ⟨.int _ _,(vr_sl oa2).vr,(vr_sl ob).vr,.int _ _,trivial⟩) (AllE.at (p:=OkO (Qc S2 W2)) ⟨.bool,trivial⟩)
  [imm (TR.sl TrDn) (.slice (some ⟨OA,0,none⟩) n n) ((List.range n).map res),imm (TR.sl TrDn) (.slice (some ⟨OB,0,none⟩) 1 1) [res m]] (fun full=>⟨zap oa2,zap ob,trivial⟩)
  (fun w Sp hS hL=>last_gl hS (zLast_ok (by simp[hw]))) fun S3 W3 k3=>?_
 exact zaz rfl (hp S3 W3 (k1.trans (k2.trans k3)))
theorem alike_all{m:Nat}(ho:Own3 S W)(hj:z94 S Q W js n jv xs)(hm2:many_do_m job2=some ([(0,0),(1,0)],[0,0]))(hm:∀ j,j<n→many_do_m (xs j)=some (res j))(hw:0<n→m<n∧z55 pk n=some (m:Int))
  (hp:∀ S' W2,Kept S W S' W2→∀ W1,Rly (fun _=>False) S' W2 W1→Post (.bool true) W1) :
  CE (coM Tryz.prog Post .idle) S W (base 3) 157 [(0,.int .i64 h1),(1,.int .i64 h2),(2,js),(3,.int .i64 pk)] [.code body3] []:=by
 refine alike1 ho hm2 fun S1 W1 OB env e3 e8 e9 e10 o1 g1 s1 z1 sO cc r1=>?_
 have k1:Kept S W S1 W1:=⟨g1,o1.low,z1,s1⟩
 have hj1:=hj.keep g1 s1
 refine alike2 o1 hj1 e3 e9 e10 ⟨by simp[maxLen],sO,cc,fun i hi=>by obtain rfl:i=0:=(by omega);exact r1⟩ fun S2 W2 env js' k2 hE e3=>?_
 have k12:=k1.trans k2
 have o2:=k2.own o1
 have hj2:=(hj1.keep k2.grow k2.same).eqJ hE
 refine alike45 o2 hj2 hm e3 fun S3 W3 env va ea vb eb e3 l11 l12 l13 l14 k3 ra rb=>?_
 have k13:=k12.trans k3
 have o3:=k3.own o2
 have hj3:=hj2.keep k3.grow k3.same
 have hE':¬ ((1≤h1∧h1≤8)∧(1≤h2∧h2≤8))→ea=1∨(ea=0∧eb=1):=fun hn=>by
  rcases ra with⟨x1,x2,_⟩|⟨x1,x2,_⟩
  ·rcases rb with⟨y1,_⟩|⟨_,y2,_⟩
   ·exact absurd ⟨x1,y1⟩ hn
   ·exact .inr ⟨x2,y2⟩
  ·exact .inl x2
 rcases(Classical.em ((1≤h1∧h1≤8)∧(1≤h2∧h2≤8))).symm with hh|hh
 ·exact alike6e e3 l11 l12 l13 l14 (hE' hh) (hp S3 W3 k13)
 rcases ra.symm with⟨x1,_⟩|⟨_,rfl,OA,rfl,oa⟩
 ·exact absurd hh.1 x1
 rcases rb.symm with⟨x1,_⟩|⟨_,rfl,OB,rfl,ob⟩
 ·exact absurd hh.2 x1
 obtain⟨aj,cj,rfl⟩:=hj3.jsl
 refine alike6 e3 l11 l12 l13 l14 fun env e3 l11 l13=>?_
 refine alike8 o3 hj3 e3 l11 l13 oa ob (fun S4 W4 k4=>hp S4 W4 (k13.trans k4)) fun hn S4 W4 env k4 e3 l11=>?_
 obtain⟨w1,w2⟩:=hw hn
 exact alike16 (k4.own o3) (hj3.keep k4.grow k4.same) hm w1 w2 hh.1 e3 l11 (oa.keep k4.grow k4.same) fun S5 W5 k5=>hp S5 W5 (k13.trans (k4.trans k5))
end
end Go.Mn
namespace Go.Fw
open Go.RowKit
def Cells(w:World)(b:Nat):Prop:=∃ c e fz,w.heap[b]?=some (.cells c e fz)
theorem zer{w:World}{a:Addr}{u:Value}(h:w.cell? a=some u):a.spot=none∧Cells w a.block:=by
 unfold World.cell? at h
 split at h
 ·rename_i X ty fz hx
  split at h
  ·cases h
  ·rename_i hs
   exact⟨by cases hsp:a.spot<;>simp_all,X,ty,fz,hx⟩
 ·cases h
section
variable {H:Type}{enc:TypeId×Value→H}{P:Program}{w:World}{held:Bool}{fuel:Nat}
theorem row_block{T E:TypeId}{a:Addr}{len cap:Nat}{d:DataW H×List MemPlace}(hu:P.underlying T=some (.slice E))(h0:0<P.cellsOf E)(e:DataW.trod enc P w 0 (fun _=>true) held fuel T [.slice (some a) len cap]=some d)(hc:0<cap):a.spot=none∧Cells w a.block:=by
 rcases DataW.trod_slice hu e with⟨h,_⟩|⟨a',len',cap',elems,rest,n,_,hcs,_,_,hlc,_,hel,hat,hsp,_⟩
 ·simp at h
 ·simp at hcs
  obtain⟨rfl,rfl,rfl⟩:=hcs
  have key:∃ C,w.cells? 0 a (P.cellsOf E)=some C:=by
   by_cases hl:0<len
   ·have h1:=hat 0 hl
    rw[List.getElem?_eq_getElem (by omega),Nat.zero_mul,Addr.add_zero'] at h1
    cases hcc:w.cells? 0 a (P.cellsOf E) with
    |none=>rw[hcc] at h1;cases h1
    |some C=>exact⟨C,rfl⟩
   ·obtain⟨hr,h2⟩:=hsp rfl
    have h1:=h2 0 (by omega)
    have hl0:len=0:=by omega
    rw[List.getElem?_eq_getElem (by omega),show(len+0)*P.cellsOf E=0 by rw[hl0];simp,Addr.add_zero'] at h1
    cases hcc:w.cells? 0 a (P.cellsOf E) with
    |none=>rw[hcc] at h1;cases h1
    |some C=>exact⟨C,rfl⟩
  obtain⟨C,hC⟩:=key
  obtain⟨c1,c2⟩:=z9n hC
  have:=c2 0 (C[0]'(by omega)) (List.getElem?_eq_getElem (by omega))
  rw[Addr.add_zero'] at this
  exact zer this
structure RowsOf{α:Type}(w:World)(t:TR α)(R:α→Prop)(v:Value)(n:Nat)(jv:Nat→Value)(xs:Nat→List α):Prop where
 sl:∃ a cap,v=.slice a n cap
 cp:∀ a l k,v=.slice a l k→l≤k
 jr:∀ b o s l k,v=.slice (some ⟨b,o,s⟩) l k→Cells w b∨l=0∧k=0
 job:∀ i,i<n→∃ Jb jo cap,v=.slice (some ⟨Jb,jo,none⟩) n cap∧Cells w Jb∧w.cell? ⟨Jb,jo+i,none⟩=some (jv i)
 hx:∀ i,i<n→t.sl.vrep (whole w) (jv i) (xs i)
 hr:∀ i,i<n→(∀ x∈xs i,R x)∧(xs i).length≤maxLen
 hq:∀ i,i<n→∀ b o s n' k,jv i=.slice (some ⟨b,o,s⟩) n' k→0<k→Cells w b
theorem open_rows{α:Type}{T E X:TypeId}{t:TR α}{R:α→Prop}{v:Value}{d:DataW H×List MemPlace}(hT:P.underlying T=some (.slice E))(hE:P.underlying E=some (.slice X))(hX:z6f P X t R)(hsz:P.cellsOf X=t.size)(h0:0<t.size)(h1:P.cellsOf E=1)
  (e:DataW.trod enc P w 0 (fun _=>true) held fuel T [v]=some d) :
  ∃ n jv xs,RowsOf w t R v n jv xs∧(n=0∨∃ elems rest,d.1=.slice elems rest∧elems.length=n∧∀ i,i<n→∃ x,x∈elems∧(xs i=[]∨∃ es rs,x=.slice es rs∧es.length=(xs i).length)):=by
 rcases DataW.trod_slice hT e with⟨hc,_⟩|⟨a,len,cap,elems,rest,m,_,hcs,hd,_,hlc,_,hel,hat,_⟩
 ·simp at hc
  subst hc
  exact⟨0,fun _=>undef,fun _=>[],⟨⟨none,0,rfl⟩,fun a l k e=>by cases e;exact Nat.le_refl _,fun b o s l k e=>(by cases e),fun i hi=>absurd hi (Nat.not_lt_zero _),fun i hi=>absurd hi (Nat.not_lt_zero _),fun i hi=>absurd hi (Nat.not_lt_zero _),fun i hi=>absurd hi (Nat.not_lt_zero _)⟩,.inl rfl⟩
 ·simp at hcs
  subst hcs
  rw[h1] at hat
  have each:∀ i,i<len→∃ q:Value×List α,w.cell? (a.add (i*1))=some q.1∧t.sl.vrep (whole w) q.1 q.2∧((∀ x∈q.2,R x)∧q.2.length≤maxLen)∧(∀ b o s n' k,q.1=.slice (some ⟨b,o,s⟩) n' k→0<k→Cells w b) ∧
    ∃ x,x∈elems.map (·.1)∧(q.2=[]∨∃ es rs,x=.slice es rs∧es.length=q.2.length):=by
   intro i hi
   have h2:=hat i hi
   rw[List.getElem?_eq_getElem (by omega)] at h2
   cases hc:w.cells? 0 (a.add (i*1)) 1 with
   |none=>rw[hc] at h2;cases h2
   |some C=>
    rw[hc] at h2
    simp only[Option.bind_some] at h2
    obtain⟨c1,c2⟩:=z9n hc
    obtain⟨u,rfl⟩:∃ u,C=[u]:=by
     match C,c1 with
     | [u],_=>exact⟨u,rfl⟩
    have hu:=c2 0 u rfl
    obtain⟨x,y1,y2,y3⟩:=OpensD.sl hE hX.d hsz h0 H enc w _ held m _ _ h2
    refine⟨(u,x),hu,⟨[u],rfl,y1⟩,y2,fun b o s n' k e hk=>?_,_,List.mem_map_of_mem (List.getElem_mem (by omega:i<elems.length)),?_⟩
    ·simp only at e
     subst e
     exact(row_block (a:=⟨b,o,s⟩) hE (by rw[hsz];exact h0) h2 hk).2
    ·rcases y3 with y3|⟨es,rs,z1,z2,_⟩
     ·exact .inl y3
     ·exact .inr ⟨es,rs,z1,z2⟩
  have hf:∃ f:Nat→Value×List α,∀ i,i<len→w.cell? (a.add (i*1))=some (f i).1∧t.sl.vrep (whole w) (f i).1 (f i).2∧((∀ x∈(f i).2,R x)∧(f i).2.length≤maxLen)∧(∀ b o s n' k,(f i).1=.slice (some ⟨b,o,s⟩) n' k→0<k→Cells w b) ∧
    ∃ x,x∈elems.map (·.1)∧((f i).2=[]∨∃ es rs,x=.slice es rs∧es.length=(f i).2.length):=by
   refine⟨fun i=>if hi:i<len then Classical.choose (each i hi) else(undef,[]),fun i hi=>?_⟩
   simp only[dif_pos hi]
   exact Classical.choose_spec (each i hi)
  obtain⟨f,hf⟩:=hf
  refine⟨len,fun i=>(f i).1,fun i=>(f i).2,⟨⟨some a,cap,rfl⟩,fun a l k e=>by cases e;exact hlc,fun b o s l k e'=>?_,fun i hi=>?_,fun i hi=>(hf i hi).2.1,fun i hi=>(hf i hi).2.2.1,fun i hi=>(hf i hi).2.2.2.1⟩,.inr ⟨_,_,congrArg Prod.fst hd,by rw[List.length_map,hel],fun i hi=>(hf i hi).2.2.2.2⟩⟩
  ·by_cases hk:0<k
   ·left
    cases e'
    exact(row_block hT (by rw[h1];exact Nat.one_pos) e hk).2
   ·right;cases e';omega
  ·have hc:=(hf i hi).1
   obtain⟨b,o,s⟩:=a
   have hc0:=(hf 0 (by omega)).1
   rw[Nat.zero_mul,Addr.add_zero'] at hc0
   obtain⟨q1,q2⟩:=zer hc0
   have q1:s=none:=q1
   subst q1
   exact⟨b,o,cap,rfl,q2,by rw[Nat.mul_one,z3h] at hc;exact hc⟩
end
end Go.Fw
namespace Go.Mn
open Go.Conc Go.ConcN Go.RowKit Go.Fw Go.Proofs Go.Mo Go.Pu
theorem whole_restr{W:World}:Hp.le (whole W) (z4s (fun b=>b<W.heap.size) W):=fun b o hb=>by
 have hb:W.heap[b]?=some o:=hb
 have:b<W.heap.size:=(Array.getElem?_eq_some_iff.1 hb).1
 exact(z6o (Q:=fun b=>b<W.heap.size) this).trans hb
theorem jobs_of{W:World}{R:DeT→Prop}{js:Value}{n:Nat}{jv:Nat→Value}{xs:Nat→List DeT}(h:RowsOf W Go.Wk.TrE R js n jv xs)(hn:n≤5864062014805)(ho:Own3 (fun b=>b<W.heap.size) W) :
  z94 (fun b=>b<W.heap.size) (Qc (fun b=>b<W.heap.size) W) W js n jv xs:=by
 have hq:∀ b,Cells W b→Qc (fun b=>b<W.heap.size) W b:=fun b ⟨c,e,fz,hb⟩=>⟨(Array.getElem?_eq_some_iff.1 hb).1,c,e,fz,hb⟩
 exact⟨hn,by obtain⟨a,c,rfl⟩:=h.sl;rfl,h.sl,h.cp,fun b o s l k e=>(h.jr b o s l k e).imp (hq b) id,fun i hi=>let ⟨Jb,jo,cap,e1,e2,e3⟩:=h.job i hi;⟨Jb,jo,cap,e1,hq _ e2,e3⟩,fun b hb=>hb,fun g hg=>ho.glob g hg,fun j hj=>TR.vrep_mono whole_restr (h.hx j hj),fun j hj b o s n' k e hk=>hq b (h.hq j hj b o s n' k e hk)⟩
def LeftBy(W:World)(v:Value)(w:World):Prop:=v=.bool true∧W.heap.size≤w.heap.size∧(∀ b,b<W.heap.size→w.heap[b]?=W.heap[b]?)∧w.os=W.os∧w.output=W.output
theorem alike_ends{W:World}{R:DeT→Prop}{h1 h2 pk:Int}{js:Value}{n m:Nat}{jv:Nat→Value}{xs:Nat→List DeT}{res:Nat→List (Int×Int)×List Int}(h:RowsOf W Go.Wk.TrE R js n jv xs)(hn:n≤5864062014805)(ho:Own3 (fun b=>b<W.heap.size) W)
  (hm2:many_do_m job2=some ([(0,0),(1,0)],[0,0]))(hm:∀ j,j<n→many_do_m (xs j)=some (res j))(hw:0<n→m<n∧z55 pk n=some (m:Int)) :
  ∃ N last o w' t',runNT Tryz.prog (N+1) (_root_.Go.Conc.solo (G (Frame.enter Tryz.prog 3 #[.int .i64 h1,.int .i64 h2,js,.int .i64 pk] .normal) []) W) #[]=(.ended o w',t')∧runN Tryz.prog N (_root_.Go.Conc.solo (G (Frame.enter Tryz.prog 3 #[.int .i64 h1,.int .i64 h2,js,.int .i64 pk] .normal) []) W)=.next last∧step Tryz.prog last=.ended o w'∧_root_.Go.Conc.Good Tryz.prog (LeftBy W) last o w' t':=by
 have hc:=alike_all (Post:=fun v w=>v=.bool true∧W.heap.size≤w.heap.size∧∀ b,b<W.heap.size→w.heap[b]?=W.heap[b]?) (h1:=h1) (h2:=h2) (pk:=pk) ho (jobs_of h hn ho) hm2 hm hw
  fun S' W2 k W1 r=>⟨rfl,Nat.le_trans k.size r.size,fun b hb=>(r.own b (k.grow b hb)).trans (k.same b hb)⟩
 have hent:=_root_.Go.Conc.enter_at (P:=Tryz.prog) (f:=3) (fn:=Tryz.f3) (c:=body3) #[.int .i64 h1,.int .i64 h2,js,.int .i64 pk] Tryz.func3 rfl
 have hx:MX Tryz.prog (fun v w=>v=.bool true∧W.heap.size≤w.heap.size∧∀ b,b<W.heap.size→w.heap[b]?=W.heap[b]?) ⟨.idle,fun b=>b<W.heap.size,G (Frame.enter Tryz.prog 3 #[.int .i64 h1,.int .i64 h2,js,.int .i64 pk] .normal) [],W⟩:=by
  rw[hent]
  exact hc ⟨[Value.int .i64 h1,.int .i64 h2,js,.int .i64 pk].toArray++Array.replicate 153 undef,[]⟩ rfl (by simp) (zar (vs:=[Value.int .i64 h1,.int .i64 h2,js,.int .i64 pk]) (n:=153))
 have hx2:MX Tryz.prog (LeftBy W) ⟨.idle,fun b=>b<W.heap.size,G (Frame.enter Tryz.prog 3 #[.int .i64 h1,.int .i64 h2,js,.int .i64 pk] .normal) [],W⟩:=by
  obtain⟨r,k⟩:=hx.so
  refine⟨r,MT.post (fun v w h=>?_) r _ k⟩
  obtain⟨⟨a,b,c⟩,d,e⟩:=h
  exact⟨a,b,c,d,e⟩
 exact ends (fun b hb=>hb) hx2
end Go.Mn
