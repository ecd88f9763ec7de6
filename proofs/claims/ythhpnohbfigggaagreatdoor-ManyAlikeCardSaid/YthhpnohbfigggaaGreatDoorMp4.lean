/- many.Run in company. -/
import Derived.Test.YthhpnohbfigggaaGreatDoorMp3
import Derived.Test.YthhpnohbfigggaaGreatDoorMp2
set_option linter.all false
set_option maxRecDepth 100000
namespace Go.Mn
open Go.Conc Go.ConcN Go.RowKit Go.Fw Go.Proofs Go.Conc.Lib Go.ConcR.Gen
theorem ti3:(Tryz.prog.info? 3).map (fun i=>(i.zero,i.size,i.bytes))=some (some (.int .i64 0),1,8):=by kernel_rfl
noncomputable def zch:Code:=Tryz.f4.body.getD .skip
noncomputable def rest4:Code:=match zch with|.seq _ (.seq _ (.seq _ (.seq _ c)))=>c|_=>.skip
theorem z61{W:World}{B:Nat}{u:Value}{T:TypeId}{fz:Nat×Nat}(h:W.heap[B]?=some (.cells #[u] T fz)):W.cell? ⟨B,0,none⟩=some u:=by simp[World.cell?,h]
theorem zcs{P:Program}{T:TypeId}{z:Option Value}{sz b:Nat}(h:(P.info? T).map (fun i=>(i.zero,i.size,i.bytes))=some (z,sz,b)):∃ ti,P.info? T=some ti∧ti.zero=z∧ti.size=sz∧ti.bytes=b:=by
 cases hi:P.info? T with
 |none=>rw[hi] at h;cases h
 |some i=>rw[hi] at h;simp at h;exact⟨i,rfl,h.1,h.2.1,h.2.2⟩
theorem z97{P:Program}{Post:Value→World→Prop}(W:World):∀ b,(coM P Post .idle).ro b→b<W.heap.size:=fun b h=>(show False from h).elim
structure RunIn(S:Nat→Prop)(W:World)(js:Value)(n:Nat)(ro0:Nat→Prop)(jv:Nat→Value):Prop where
 big:n≤5864062014805
 low:∀ b,S b→b<W.heap.size
 ro:∀ b,ro0 b→S b
 jsl:∃ a cap,js=.slice a n cap
 job:∀ i,i<n→∃ Jb jo cap,js=.slice (some ⟨Jb,jo,none⟩) n cap∧ro0 Jb∧W.cell? ⟨Jb,jo+i,none⟩=some (jv i)
def ints(k:Nat):Array Value:=(Array.range k).map fun(i:Nat)=>Value.int .i64 i
theorem ints_push(k:Nat):(ints k).push (.int .i64 k)=ints (k+1):=by simp[ints,Array.range_succ]
section
variable {Post:Value→World→Prop}{js:Value}{n:Nat}{ro0:Nat→Prop}{jv:Nat→Value}{Rs:Nat→Value→Value→PH→Prop}
theorem run1{S:Nat→Prop}{W:World}{hd:Int}{c:Frame}{cs:List Frame}(hh:1≤hd∧hd≤8)(hi:RunIn S W js n ro0 jv)
  (k1:∀ (W2:World) (B3 OB B6 C B7:Nat) (env:Env),(∀ b,S b→W2.heap[b]?=W.heap[b]?)→W.heap.size≤B3→B3<OB→OB<B6→B6<C→C<B7→B7<W2.heap.size→W2.heap[B3]?=some (.cells #[js] 22) →
   (∃ cc,W2.heap[OB]?=some (.cells cc 35)∧cc.size=2*n)→W2.heap[B6]?=some (.cells #[.slice (some ⟨OB,0,none⟩) n n] 23)→W2.heap[C]?=some (.chan n #[] false 0 0 false)→W2.heap[B7]?=some (.cells #[.chan (some C)] 42) →
   Fw.look env 0=some (.int .i64 hd)→Fw.look env 3=some (.pointer (some ⟨B3,0,none⟩))→Fw.look env 6=some (.pointer (some ⟨B6,0,none⟩))→Fw.look env 7=some (.pointer (some ⟨B7,0,none⟩)) →
   CE (coM Tryz.prog Post .idle) (fun b=>((((S b∨b=B3)∨b=OB)∨b=B6)∨b=C)∨b=B7) W2 (base 4) 39 env [.code rest4] (c::cs)) :
  CE (coM Tryz.prog Post .idle) S W (base 4) 39 [(0,.int .i64 hd),(1,js)] [.code zch] (c::cs):=by
 have hk:(base 4).kind≠.early:=by simp[base]
 obtain⟨ja,jc,rfl⟩:=hi.jsl
 refine CE.seq (CE.reg (CE.box (z97 _) hk rfl rfl rfl rfl fun W2 B3 g1=>?_))
 refine CE.asg hk rfl rfl rfl rfl (CE.asg hk rfl rfl rfl rfl (CE.regE (CE.seq (CE.seq (CE.reg ?_)))))
 refine CE.mv hk rfl rfl rfl rfl (CE.binI (v:=.bool false) hk rfl rfl rfl rfl rfl (by simp[Fw.binI];omega) ?_)
 refine CE.mv hk rfl rfl rfl rfl (CE.mv hk rfl rfl rfl rfl (CE.binI (v:=.bool false) hk rfl rfl rfl rfl rfl (by simp[Fw.binI];omega) ?_))
 refine CE.pick (t:=false) hk rfl rfl rfl rfl rfl (CE.regE (CE.cond (t:=false) rfl (CE.skip (CE.seq (CE.reg ?_)))))
 obtain⟨t35,i35,z35,s35,b35⟩:=zcs ti35
 obtain⟨t23,i23,z23,s23,b23⟩:=zcs ti23
 obtain⟨t42,i42,z42,s42,b42⟩:=zcs ti42
 obtain⟨t3,i3,z3,s3,b3⟩:=zcs ti3
 refine CE.ld tl22 (.inl (.inr rfl)) hk rfl rfl rfl rfl (z61 g1.new) (CE.lenS hk Tryz.underlying22 rfl rfl rfl rfl ?_)
 refine CE.mkS (z:=.agg #[.slice none 0 0,.slice none 0 0]) Tryz.underlying23 i35 z35 (by have:=hi.big;rw[b35];omega) (by have:=hi.big;omega) (z97 _) hk rfl rfl rfl rfl fun W3 OB g2=>?_
 refine CE.alloc i23 z23 (z97 _) hk rfl rfl rfl fun W4 B6 g3=>?_
 refine CE.st (u0:=.slice none 0 0) tl23 (.inr rfl) rfl rfl hk rfl rfl rfl rfl g3.new fun W5 w1=>CE.regE (CE.seq (CE.reg ?_))
 have l1:=g1.size
 have l2:=g2.size
 have l2':=g1.size'
 have l3:=g3.size
 have l3':=g2.size'
 have l4:=w1.size
 have l4':=g3.size'
 have hB3:W5.heap[B3]?=some (.cells #[.slice ja n jc] 22):=by
  rw[w1.own B3 (.inl (.inl (.inr rfl))) (by omega),g3.own B3 (.inl (.inr rfl)) (by omega),g2.own B3 (.inr rfl) (by omega)];exact g1.new
 refine CE.ld tl22 (.inl (.inl (.inl (.inr rfl)))) hk rfl rfl rfl rfl (z61 hB3) (CE.lenS hk Tryz.underlying22 rfl rfl rfl rfl ?_)
 refine CE.mkC Tryz.underlying42 i3 (by have:=hi.big;rw[b3];omega) (by have:=hi.big;omega) (z97 _) hk rfl rfl rfl rfl fun W6 C g4=>?_
 refine CE.alloc i42 z42 (z97 _) hk rfl rfl rfl fun W7 B7 g5=>?_
 refine CE.st (u0:=.chan none) tl42 (.inr rfl) rfl rfl hk rfl rfl rfl rfl g5.new fun W8 w2=>CE.regE ?_
 have l5:=g4.size
 have l5':=g4.size'
 have l6:=g5.size
 have l6':=g5.size'
 have l7:=w2.size
 have old:∀ b,((S b∨b=B3)∨b=OB)∨b=B6→b<C→W8.heap[b]?=W5.heap[b]? := fun b hb hl=>by
  rw[w2.own b (.inl (.inl hb)) (by omega),g5.own b (.inl hb) (by omega),g4.own b hb (by omega)]
 refine k1 W8 B3 OB B6 C B7 _ (fun b hb=>?_) l1 (by omega) (by omega) (by omega) (by omega) (by omega) ?_ ?_ ?_ ?_ w2.now rfl rfl rfl rfl
 ·have:=hi.low b hb
  rw[old b (.inl (.inl (.inl hb))) (by omega),w1.own b (.inl (.inl (.inl hb))) (by omega),g3.own b (.inl (.inl hb)) (by omega),g2.own b (.inl hb) (by omega),g1.own b hb (by omega)]
 ·rw[old B3 (.inl (.inl (.inr rfl))) (by omega)];exact hB3
 ·refine⟨madeCells (Value.agg #[.slice none 0 0,.slice none 0 0]).cells (n*t35.size),?_,by rw[size_madeCells,s35];omega⟩
  rw[old OB (.inl (.inr rfl)) (by omega),w1.own OB (.inl (.inr rfl)) (by omega),g3.own OB (.inr rfl) (by omega)];exact g2.new
 ·rw[old B6 (.inr rfl) (by omega)];exact w1.now
 ·rw[w2.own C (.inl (.inr rfl)) (by omega),g5.own C (.inr rfl) (by omega)];exact g4.new
end
structure E4(hd:Int)(B3 B6 B7:Nat)(env:Env):Prop where
 e0:Fw.look env 0=some (.int .i64 hd)
 e3:Fw.look env 3=some (.pointer (some ⟨B3,0,none⟩))
 e6:Fw.look env 6=some (.pointer (some ⟨B6,0,none⟩))
 e7:Fw.look env 7=some (.pointer (some ⟨B7,0,none⟩))
theorem E4.put{hd:Int}{B3 B6 B7:Nat}{env:Env}(h:E4 hd B3 B6 B7 env){d:Nat}{v:Value}(hq:(d==0||d==3||d==6||d==7)=false):E4 hd B3 B6 B7 (Fw.put env d v):=by
 simp at hq
 obtain⟨⟨⟨d1,d2⟩,d3⟩,d5⟩:=hq
 exact⟨by simp[Fw.put,Fw.look,d1,h.e0],by simp[Fw.put,Fw.look,d2,h.e3],by simp[Fw.put,Fw.look,d3,h.e6],by simp[Fw.put,Fw.look,d5,h.e7]⟩
theorem zo{env:Env}{d t:Nat}{v:Value}(h:(d==t)=false):Fw.look (Fw.put env d v) t=Fw.look env t:=by
 simp at h;simp[Fw.put,Fw.look,h]
theorem binI_succ{k:Nat}(h:k≤5864062014805):Fw.binI .add .i64 (k:Int) 1=some (.int .i64 ((k+1:Nat):Int)):=by
 simp only[Fw.binI,Option.some.injEq,Value.int.injEq,true_and]
 rw[IntKind.wrap_i64];omega
theorem zfc{k n:Nat}(kd:IntKind):Fw.binI .lss kd (k:Int) (n:Int)=some (.bool (decide (k<n))):=by
 simp[Fw.binI]
noncomputable def Ls:Code:=match rest4 with|.seq (.seq _ (.block _ (.loop c))) _=>c|_=>.skip
noncomputable def rest10:Code:=match rest4 with|.seq _ c=>c|_=>.skip
noncomputable def rest11:Code:=match rest10 with|.seq _ c=>c|_=>.skip
section
variable {Post:Value→World→Prop}{n:Nat}{S:Nat→Prop}{hd:Int}{B3 B6 C B7:Nat}{c:Frame}{cs:List Frame}
theorem sends{W:World}(hn:n≤5864062014805)(hC:S C)(h7:S B7)(h7C:B7≠C)(hB7:W.heap[B7]?=some (.cells #[.chan (some C)] 42))
  (kk:∀ env W2,E4 hd B3 B6 B7 env→W.heap.size≤W2.heap.size→(∀ b,S b→b≠C→W2.heap[b]?=W.heap[b]?)→W2.heap[C]?=some (.chan n (ints n) false n 0 false)→CE (coM Tryz.prog Post .idle) S W2 (base 4) 39 env [.code rest10] (c::cs)) :
  ∀ (m k:Nat) (env:Env) (W1:World),k+m=n→E4 hd B3 B6 B7 env→Fw.look env 23=some (.int .i64 n)→Fw.look env 24=some (.int .i64 k)→W.heap.size≤W1.heap.size→(∀ b,S b→b≠C→W1.heap[b]?=W.heap[b]?)→W1.heap[C]?=some (.chan n (ints k) false k 0 false) →
   CE (coM Tryz.prog Post .idle) S W1 (base 4) 39 env [.code Ls,.inLoop Ls,.inBlock 0,.code rest10] (c::cs):=by
 have hk:(base 4).kind≠.early:=by simp[base]
 intro m
 induction m with
 |zero=>
  intro k env W1 hkm he e23 e24 hs hW hc
  obtain rfl:k=n:=by omega
  refine CE.seq (CE.reg (CE.binI hk rfl rfl rfl e24 e23 (zfc _) (CE.regE (CE.seq (CE.cond (t:=false) (by simp[opv,z17]) (CE.exit rfl ?_))))))
  exact kk _ _ (he.put rfl) hs hW hc
 |succ m ih=>
  intro k env W1 hkm he e23 e24 hs hW hc
  refine CE.seq (CE.reg (CE.binI hk rfl rfl rfl e24 e23 (zfc _) (CE.regE (CE.seq (CE.cond (t:=true) (by simp[opv,z17];omega) (CE.skip (CE.seq (CE.block (CE.seq (CE.reg ?_))))))))))
  refine CE.mv (v:=.int .i64 k) hk rfl rfl rfl ((zo rfl).trans e24) (CE.asg (v:=.int .i64 k) hk rfl rfl rfl (z17 _ _ _) (CE.regE (CE.reg ?_)))
  have he1:E4 hd B3 B6 B7 (Fw.put (Fw.put (Fw.put env 25 (.bool (decide (k<n)))) 26 (.int .i64 k)) 8 (.int .i64 k)):=((he.put rfl).put rfl).put rfl
  refine CE.ld (v:=.chan (some C)) tl42 (.inl h7) hk rfl rfl rfl he1.e7 (z61 ((hW B7 h7 h7C).trans hB7)) ?_
  refine CE.mv (v:=.int .i64 k) hk rfl rfl rfl ((zo rfl).trans (z17 _ _ _)) ?_
  refine CE.send (c:=C) (v:=.int .i64 k) hk rfl rfl ((zo rfl).trans (z17 _ _ _)) (z17 _ _ _) hC hc (by simp[ints];omega) fun W2 w=>CE.regE (CE.inBlock (CE.reg ?_))
  have e24':Fw.look (Fw.put (Fw.put (Fw.put (Fw.put (Fw.put env 25 (.bool (decide (k<n)))) 26 (.int .i64 k)) 8 (.int .i64 k)) 27 (.chan (some C))) 28 (.int .i64 k)) 24=some (.int .i64 k):=(zo rfl).trans ((zo rfl).trans ((zo rfl).trans ((zo rfl).trans ((zo rfl).trans e24))))
  have e23':Fw.look (Fw.put (Fw.put (Fw.put (Fw.put (Fw.put env 25 (.bool (decide (k<n)))) 26 (.int .i64 k)) 8 (.int .i64 k)) 27 (.chan (some C))) 28 (.int .i64 k)) 23=some (.int .i64 n):=(zo rfl).trans ((zo rfl).trans ((zo rfl).trans ((zo rfl).trans ((zo rfl).trans e23))))
  refine CE.binI (n:=1) hk rfl rfl rfl e24' rfl (binI_succ (by omega)) (CE.mv (v:=.int .i64 ((k+1:Nat):Int)) hk rfl rfl rfl (z17 _ _ _) (CE.regE (CE.inLoop ?_)))
  refine ih (k+1) _ W2 (by omega) ((((he1.put rfl).put rfl).put rfl).put rfl) ((zo rfl).trans ((zo rfl).trans e23')) (z17 _ _ _) (Nat.le_trans hs w.size) (fun b hb hne=>(w.own b hb hne).trans (hW b hb hne)) ?_
  rw[← ints_push];exact w.now
theorem run2{W:World}{js:Value}(hn:n≤5864062014805)(hjs:∃ a cap,js=.slice a n cap)(h3:S B3)(hC:S C)(h7:S B7)(h7C:B7≠C)(hB3:W.heap[B3]?=some (.cells #[js] 22))(hB7:W.heap[B7]?=some (.cells #[.chan (some C)] 42))(hCC:W.heap[C]?=some (.chan n #[] false 0 0 false)){env:Env}(he:E4 hd B3 B6 B7 env)
  (kk:∀ env W2,E4 hd B3 B6 B7 env→W.heap.size≤W2.heap.size→(∀ b,S b→b≠C→W2.heap[b]?=W.heap[b]?)→W2.heap[C]?=some (.chan n (ints n) true n 0 false)→CE (coM Tryz.prog Post .idle) S W2 (base 4) 39 env [.code rest11] (c::cs)) :
  CE (coM Tryz.prog Post .idle) S W (base 4) 39 env [.code rest4] (c::cs):=by
 have hk:(base 4).kind≠.early:=by simp[base]
 obtain⟨ja,jc,rfl⟩:=hjs
 refine CE.seq (CE.seq (CE.reg (CE.ld tl22 (.inl h3) hk rfl rfl rfl he.e3 (z61 hB3) (CE.lenS hk Tryz.underlying22 rfl rfl rfl rfl ?_))))
 refine CE.mv (v:=.int .i64 ((0:Nat):Int)) hk rfl rfl rfl rfl (CE.regE (CE.block (CE.loop ?_)))
 refine sends hn hC h7 h7C hB7 (fun env W2 he2 hs hW hc=>?_) n 0 _ W (by omega) (((he.put rfl).put rfl).put rfl) rfl rfl (Nat.le_refl _) (fun _ _ _=>rfl) (by rw[hCC];simp[ints])
 refine CE.seq (CE.reg (CE.ld (v:=.chan (some C)) tl42 (.inl h7) hk rfl rfl rfl he2.e7 (z61 ((hW B7 h7 h7C).trans hB7)) ?_))
 refine CE.close (c:=C) hk rfl rfl (z17 _ _ _) (by kernel_rfl) hC hc fun W3 w=>CE.regE ?_
 exact kk _ W3 (he2.put rfl) (Nat.le_trans hs w.size) (fun b hb hne=>(w.own b hb hne).trans (hW b hb hne)) w.now
end
open Go.ConcR (KK WgAt stA smA rd wr mk DC0)
theorem ti52:(Tryz.prog.info? 52).map (fun i=>(i.zero,i.size,i.bytes))=some (some (.agg #[.int .u64 0,.int .u32 0]),2,16):=by kernel_rfl
noncomputable def Lh:Code:=match rest11 with|.seq _ (.seq (.seq _ (.block _ (.loop c))) _)=>c|_=>.skip
noncomputable def rest17:Code:=match rest11 with|.seq _ (.seq _ c)=>c|_=>.skip
section
variable {Post:Value→World→Prop}{p:Ph}{S:Nat→Prop}{hd:Nat}{B3 B6 B7:Nat}{c:Frame}{cs:List Frame}{js:Value}{jv:Nat→Value}{E:World→Prop}
theorem hands{W:World}(hh:1≤hd∧hd≤8)(hty:p.ty=52)(hS:¬ S p.Wg)(hR:¬ p.ro p.Wg)(hdo:DoOk p (WkIn p B7 B3 B6 js jv E) jv)(hw:WkIn p B7 B3 B6 js jv E W)
  (kk:∀ env W1,E4 hd B3 B6 B7 env→Fw.look env 9=some (.pointer (some ⟨p.Wg,0,none⟩))→Rly p.ro S W W1→WgLive p.ty p.Wg W1→CE (coM Tryz.prog Post (.op p hd 0 false)) S W1 (base 4) 39 env [.code rest17] (c::cs)) :
  ∀ (m k:Nat) (env:Env) (W1:World),k+m=hd→E4 hd B3 B6 B7 env→Fw.look env 9=some (.pointer (some ⟨p.Wg,0,none⟩))→Fw.look env 31=some (.int .i64 hd)→Fw.look env 32=some (.int .i64 k)→Rly p.ro S W W1→WgLive p.ty p.Wg W1 →
   CE (coM Tryz.prog Post (.op p k 0 false)) S W1 (base 4) 39 env [.code Lh,.inLoop Lh,.inBlock 2,.code rest17] (c::cs):=by
 have hk:(base 4).kind≠.early:=by simp[base]
 intro m
 induction m with
 |zero=>
  intro k env W1 hkm he e9 e31 e32 r hl
  obtain rfl:k=hd:=by omega
  refine CE.seq (CE.reg (CE.binI hk rfl rfl rfl e32 e31 (zfc _) (CE.regE (CE.seq (CE.cond (t:=false) (by simp[opv,z17]) (CE.exit rfl ?_))))))
  exact kk _ _ (he.put rfl) ((zo rfl).trans e9) r hl
 |succ m ih=>
  intro k env W1 hkm he e9 e31 e32 r hl
  refine CE.seq (CE.reg (CE.binI hk rfl rfl rfl e32 e31 (zfc _) (CE.regE (CE.seq (CE.cond (t:=true) (by simp[opv,z17];omega) (CE.skip (CE.seq (CE.block (CE.seq (CE.reg ?_))))))))))
  have he1:E4 hd B3 B6 B7 (Fw.put env 33 (.bool (decide (k<hd)))):=he.put rfl
  have e9':Fw.look (Fw.put env 33 (.bool (decide (k<hd)))) 9=some (.pointer (some ⟨p.Wg,0,none⟩)):=(zo rfl).trans e9
  have e31':Fw.look (Fw.put env 33 (.bool (decide (k<hd)))) 31=some (.int .i64 hd):=(zo rfl).trans e31
  have e32':Fw.look (Fw.put env 33 (.bool (decide (k<hd)))) 32=some (.int .i64 k):=(zo rfl).trans e32
  generalize Fw.put env 33 (.bool (decide (k<hd)))=env1 at he1 e9' e31' e32'
  refine CE.enter Tryz.func8 rfl rfl hk rfl rfl (vs:=[.pointer (some ⟨p.Wg,0,none⟩),.int .i64 1]) (by simp[opv,e9']) fun a h1 h2 h3=>?_
  refine addPos_mx (s:=k) (W0:=W) hS hR (addPos wgl hty (b₀:=base 4) (a₀:=a) (i₀:=0) (rest₀:=[]) (cs:=c::cs) (fun _ _=>rfl) W1 hl) r hl fun W2 r2 hl2=>?_
  refine(?_:CE (coM Tryz.prog Post (.op p k 1 false)) S W2 (base 4) 39 (Fw.put env1 34 (.tuple #[])) _ _) (a.put (some 34) (.tuple #[])) h1 (by simp[Act.put,h2]) (za8 h3 h2 rfl)
  refine CE.regE (CE.reg ?_)
  refine CE.mkF hk rfl rfl rfl (cv:=[.pointer (some ⟨B7,0,none⟩),.pointer (some ⟨B3,0,none⟩),.pointer (some ⟨B6,0,none⟩),.pointer (some ⟨p.Wg,0,none⟩)]) (by
   simp only[List.map_cons,List.map_nil,opv]
   rw[(zo rfl).trans he1.e7,(zo rfl).trans he1.e3,(zo rfl).trans he1.e6,(zo rfl).trans e9']) ?_
  refine CE.go_ (by omega) hk rfl rfl (z17 _ _ _) (fun W3 r3 hl3=>kid_wx (B7:=B7) (B3:=B3) (B6:=B6) hty hl3 hdo (hw.rely (r2.trans r3).w)) (CE.regE (CE.inBlock (CE.reg ?_)))
  refine CE.binI (n:=1) hk rfl rfl rfl ((zo rfl).trans ((zo rfl).trans e32')) rfl (binI_succ (by omega)) (CE.mv (v:=.int .i64 ((k+1:Nat):Int)) hk rfl rfl rfl (z17 _ _ _) (CE.regE (CE.inLoop ?_)))
  exact ih (k+1) _ W2 (by omega) ((((he1.put rfl).put rfl).put rfl).put rfl) ((zo rfl).trans ((zo rfl).trans ((zo rfl).trans ((zo rfl).trans e9')))) ((zo rfl).trans ((zo rfl).trans ((zo rfl).trans ((zo rfl).trans e31')))) (z17 _ _ _) r2 hl2
end
open Go.ConcR (KK WgAt stA smA rd wr mk DC0)
def phOf(ro0:Nat→Prop)(Rs:Nat→Value→Value→PH→Prop)(n B3 OB B6 C B7 Wg:Nat):Ph:=⟨52,Wg,C,OB,35,n,fun b=>ro0 b∨b=B3∨b=B6∨b=B7,Rs⟩
section
variable {Post:Value→World→Prop}{hd n:Nat}{B3 OB B6 C B7:Nat}{c:Frame}{cs:List Frame}{js:Value}{jv:Nat→Value}{ro0 S0:Nat→Prop}{Rs:Nat→Value→Value→PH→Prop}{Wz:World}
structure zck(S0:Nat→Prop)(Wz:World)(n:Nat)(Rs:Nat→Value→Value→PH→Prop)(OB:Nat)(S:Nat→Prop)(W:World):Prop where
 size:Wz.heap.size≤W.heap.size
 grow:∀ b,S0 b→S b
 low:∀ b,S b→b<W.heap.size
 same:∀ b,S0 b→W.heap[b]?=Wz.heap[b]?
 ob:S OB
 obN:Wz.heap.size≤OB
 out:∃ cc,W.heap[OB]?=some (.cells cc 35)∧cc.size=2*n
 res:∀ i,i<n→∃ v0 v1 h,Rs i v0 v1 h∧h.sub W∧(∀ b,h b≠none→S b)∧W.cell? ⟨OB,2*i,none⟩=some v0∧W.cell? ⟨OB,2*i+1,none⟩=some v1
theorem run3{W:World}(hh:1≤hd∧hd≤8)(hro:∀ b,ro0 b→S0 b)(hlow:∀ b,S0 b→b<Wz.heap.size)(hsz:Wz.heap.size≤B3)(o1:B3<OB)(o2:OB<B6)(o3:B6<C)(o4:C<B7)(o5:B7<W.heap.size)
  (hold:∀ b,S0 b→W.heap[b]?=Wz.heap[b]?)(h3:W.heap[B3]?=some (.cells #[js] 22))(hO:∃ cc,W.heap[OB]?=some (.cells cc 35)∧cc.size=2*n)(h6:W.heap[B6]?=some (.cells #[.slice (some ⟨OB,0,none⟩) n n] 23))(hC:W.heap[C]?=some (.chan n (ints n) true n 0 false))(h7:W.heap[B7]?=some (.cells #[.chan (some C)] 42))
  (hjob:∀ i,i<n→∃ Jb jo cap,js=.slice (some ⟨Jb,jo,none⟩) n cap∧ro0 Jb∧Wz.cell? ⟨Jb,jo+i,none⟩=some (jv i))
  (hdo:∀ Wg,DoOk (phOf ro0 Rs n B3 OB B6 C B7 Wg) (WkIn (phOf ro0 Rs n B3 OB B6 C B7 Wg) B7 B3 B6 js jv fun W=>∀ b,ro0 b→W.heap[b]?=Wz.heap[b]?) jv)
  (kk:∀ S W2,zck S0 Wz n Rs OB S W2→MX Tryz.prog Post ⟨.idle,S,G (c.finish (.tuple #[.slice (some ⟨OB,0,none⟩) n n,.int .i64 0])) cs,W2⟩){env:Env}(he:E4 hd B3 B6 B7 env) :
  CE (coM Tryz.prog Post .idle) (fun b=>((((S0 b∨b=B3)∨b=OB)∨b=B6)∨b=C)∨b=B7) W (base 4) 39 env [.code rest11] (c::cs):=by
 have hk:(base 4).kind≠.early:=by simp[base]
 obtain⟨t52,i52,z52,s52,b52⟩:=zcs ti52
 have dj:∀ b,S0 b→b≠B3∧b≠OB∧b≠B6∧b≠C∧b≠B7:=fun b hb=>by have:=hlow b hb;omega
 refine CE.seq (CE.reg (CE.opn i52 z52 hk rfl rfl rfl (fun B=>phOf ro0 Rs n B3 OB B6 C B7 B) (fun b=>S0 b∧¬ ro0 b) (fun B=>rfl) fun W2 B g1=>?_))
 have gB:=g1.size
 have w3:=(g1.own B3 (.inl (.inl (.inl (.inl (.inr rfl))))) (by omega)).trans h3
 have w6:=(g1.own B6 (.inl (.inl (.inr rfl))) (by omega)).trans h6
 have wC:=(g1.own C (.inl (.inr rfl)) (by omega)).trans hC
 have w7:=(g1.own B7 (.inr rfl) (by omega)).trans h7
 have wO:∃ cc,W2.heap[OB]?=some (.cells cc 35)∧cc.size=2*n:=let ⟨cc,e1,e2⟩:=hO;⟨cc,(g1.own OB (.inl (.inl (.inl (.inr rfl)))) (by omega)).trans e1,e2⟩
 have wS:∀ b,S0 b→W2.heap[b]?=Wz.heap[b]? := fun b hb=>by have:=hlow b hb;exact(g1.own b (.inl (.inl (.inl (.inl (.inl hb))))) (by omega)).trans (hold b hb)
 have hwg:WgAt 52 B W2 0 0:=g1.new
 refine⟨⟨fun b hb=>.inl (.inl (.inl (.inl (.inl (.inl hb.1))))),fun b hb=>?_,.inr rfl,.inl (.inl (.inr rfl)),.inl (.inl (.inl (.inl (.inr rfl)))),fun b hb=>?_,?_,?_,hwg,⟨_,_,wC⟩,wO⟩,?_⟩
 ·rcases hb with hb|rfl|rfl|rfl
  ·exact .inl (.inl (.inl (.inl (.inl (.inl (hro b hb))))))
  ·exact .inl (.inl (.inl (.inl (.inl (.inr rfl)))))
  ·exact .inl (.inl (.inl (.inr rfl)))
  ·exact .inl (.inr rfl)
 ·obtain⟨d1,d2,d3,d4,d5⟩:=dj b hb.1
  have:=hlow b hb.1
  refine⟨fun h=>?_,show b≠B by omega,d4,d2⟩
  rcases h with h|h|h|h
  ·exact hb.2 h
  ·exact d1 h
  ·exact d3 h
  ·exact d5 h
 ·refine⟨fun h=>?_,fun h=>?_,fun h=>?_⟩
  ·rcases h with h|h|h|h
   ·have:=hlow _ (hro _ h);simp only[phOf] at this;omega
   all_goals simp only[phOf] at h;omega
  ·rcases h with h|h|h|h
   ·exact(dj _ (hro _ h)).2.2.2.1 rfl
   all_goals simp only[phOf] at h;omega
  ·rcases h with h|h|h|h
   ·exact(dj _ (hro _ h)).2.1 rfl
   all_goals simp only[phOf] at h;omega
 ·simp only[phOf];omega
 have hSW:¬ (S0 B∧¬ ro0 B):=fun h=>by have:=hlow _ h.1;omega
 have hRW:¬ (phOf ro0 Rs n B3 OB B6 C B7 B).ro B:=fun h=>by
  rcases h with h|h|h|h
  ·have:=hlow _ (hro _ h);omega
  all_goals omega
 have hwk:WkIn (phOf ro0 Rs n B3 OB B6 C B7 B) B7 B3 B6 js jv (fun W=>∀ b,ro0 b→W.heap[b]?=Wz.heap[b]?) W2:=
  ⟨fun b hb=>wS b (hro b hb),fun S W W1 h r b hb=>(r.ro b (.inl hb)).trans (h b hb),.inr (.inr (.inr rfl)),.inr (.inl rfl),.inr (.inr (.inl rfl)),z61 w7,z61 w3,z61 w6,fun i hi=>let ⟨Jb,jo,cap,e1,e2,e3⟩:=hjob i hi;⟨Jb,jo,cap,e1,.inl e2,(z5i (wS Jb (hro Jb e2))).trans e3⟩⟩
 refine CE.regE (CE.seq (CE.seq (CE.reg ?_)))
 have he1:E4 hd B3 B6 B7 (Fw.put env 9 (.pointer (some ⟨B,0,none⟩))):=he.put rfl
 refine CE.mv (v:=.int .i64 hd) hk rfl rfl rfl he1.e0 (CE.mv (v:=.int .i64 ((0:Nat):Int)) hk rfl rfl rfl rfl (CE.regE (CE.block (CE.loop ?_))))
 refine hands (W:=W2) hh rfl hSW hRW (hdo B) hwk (fun env W3 he2 e9 r3 hl3=>?_) hd 0 _ W2 (by omega) ((he1.put rfl).put rfl) ((zo rfl).trans ((zo rfl).trans (z17 _ _ _))) ((zo rfl).trans (z17 _ _ _)) (z17 _ _ _) (.refl _ _ _) ⟨_,_,hwg⟩
 refine CE.seq (CE.reg (CE.enter Tryz.func12 rfl rfl hk rfl rfl (vs:=[.pointer (some ⟨B,0,none⟩)]) (by simp[opv];exact e9) fun a h1 h2 h3=>?_))
 refine wait_mx (s:=hd) (W0:=W2) hSW hRW hh.1 (by omega) (fun g W hl hL _=>⟨_,waitRound wgl rfl (b₀:=base 4) (a₀:=a) (i₀:=0) (rest₀:=[]) (cs:=c::cs) (fun _=>rfl) g W hl hL⟩) (waitStart wgl rfl W3 hl3) r3 hl3 fun W4 fz r4 hj ho hf=>?_
 refine(?_:CE (coM Tryz.prog Post .idle) _ W4 (base 4) 39 (Fw.put env 37 (.tuple #[])) _ _) (a.put (some 37) (.tuple #[])) h1 (by simp[Act.put,h2]) (za8 h3 h2 rfl)
 have r6:W4.heap[B6]?=some (.cells #[.slice (some ⟨OB,0,none⟩) n n] 23):=(r4.ro B6 (.inr (.inr (.inl rfl)))).trans w6
 refine CE.regE (CE.seq (CE.reg (CE.ld (v:=.slice (some ⟨OB,0,none⟩) n n) tl23 (.inl (.inr (.inl (.inr (.inr (.inl rfl)))))) hk rfl rfl rfl ((zo rfl).trans he2.e6) (z61 r6) ?_)))
 refine CE.asg hk rfl rfl rfl (z17 _ _ _) (CE.asg hk rfl rfl rfl rfl (CE.regE ?_))
 refine CE.ret (v:=.tuple #[.slice (some ⟨OB,0,none⟩) n n,.int .i64 0]) rfl Tryz.func4 (results2 rfl rfl rfl) (kk _ W4 ?_)
 have sz4:=r4.size
 have oldS:∀ b,S0 b→W4.heap[b]?=Wz.heap[b]? := fun b hb=>by
  by_cases h:ro0 b
  ·exact(r4.ro b (.inl h)).trans (wS b hb)
  ·exact(r4.own b ⟨hb,h⟩).trans (wS b hb)
 refine⟨by have:=g1.size';omega,fun b hb=>?_,fun b hb=>?_,oldS,.inr (.inr (.inl rfl)),by omega,ho,fun i hi=>?_⟩
 ·by_cases h:ro0 b
  ·exact .inr (.inl (.inl h))
  ·exact .inl ⟨hb,h⟩
 ·have g1':=g1.size'
  rcases hb with hb|hb|hb|hb
  ·have:=hlow b hb.1;omega
  ·rcases hb with h|h|h|h
   ·have:=hlow b (hro b h);omega
   all_goals omega
  ·simp only[phOf] at hb;omega
  ·exact(hf b hb).1
 ·obtain⟨v0,v1,h,x1,x2,x3,x4,x5⟩:=hj i hi
  refine⟨v0,v1,h,x1,x2,fun b hb=>?_,x4,x5⟩
  rcases x3 b hb with y|y
  ·exact .inr (.inr (.inr y))
  ·exact .inr (.inl y)
theorem run_mx{W:World}(hh:1≤hd∧hd≤8)(hi:RunIn S0 W js n ro0 jv)
  (hdo:∀ B3 OB B6 C B7 Wg,DoOk (phOf ro0 Rs n B3 OB B6 C B7 Wg) (WkIn (phOf ro0 Rs n B3 OB B6 C B7 Wg) B7 B3 B6 js jv fun W1=>∀ b,ro0 b→W1.heap[b]?=W.heap[b]?) jv)
  (kk:∀ OB S W2,zck S0 W n Rs OB S W2→MX Tryz.prog Post ⟨.idle,S,G (c.finish (.tuple #[.slice (some ⟨OB,0,none⟩) n n,.int .i64 0])) cs,W2⟩) :
  MX Tryz.prog Post ⟨.idle,S0,G ((base 4).at {tmps:=[Value.int .i64 hd,js].toArray++Array.replicate (Tryz.f4.ntmps - [Value.int .i64 hd,js].toArray.size) undef,defers:=[]} [.code zch]) (c::cs),W⟩:=by
 have hA:CE (coM Tryz.prog Post .idle) S0 W (base 4) 39 [(0,.int .i64 hd),(1,js)] [.code zch] (c::cs):=by
  refine run1 (by omega) hi fun W2 B3 OB B6 C B7 env hold l1 l2 l3 l4 l5 l6 h3 hO h6 hC h7 e0 e3 e6 e7=>?_
  have dj:∀ b,S0 b→b≠C:=fun b hb=>by have:=hi.low b hb;omega
  refine run2 hi.big hi.jsl (.inl (.inl (.inl (.inl (.inr rfl))))) (.inl (.inr rfl)) (.inr rfl) (by omega) h3 h7 hC ⟨e0,e3,e6,e7⟩ fun env W3 he hs hsm hC3=>?_
  refine run3 hh hi.ro hi.low l1 l2 l3 l4 l5 (by omega) (fun b hb=>(hsm b (.inl (.inl (.inl (.inl (.inl hb))))) (dj b hb)).trans (hold b hb)) ((hsm B3 (.inl (.inl (.inl (.inl (.inr rfl))))) (by omega)).trans h3) ?_ ((hsm B6 (.inl (.inl (.inr rfl))) (by omega)).trans h6) hC3 ((hsm B7 (.inr rfl) (by omega)).trans h7) hi.job (fun Wg=>hdo B3 OB B6 C B7 Wg) (kk OB) he
  obtain⟨cc,x1,x2⟩:=hO
  exact⟨cc,(hsm OB (.inl (.inl (.inl (.inr rfl)))) (by omega)).trans x1,x2⟩
 have e:Tryz.f4.ntmps - [Value.int .i64 hd,js].toArray.size=37:=rfl
 rw[e]
 exact hA ⟨[Value.int .i64 hd,js].toArray++Array.replicate 37 undef,[]⟩ rfl (by simp) (zar (vs:=[Value.int .i64 hd,js]) (n:=37))
end
end Go.Mn
namespace Go.Mn
open Go.Conc Go.ConcN Go.RowKit Go.Fw Go.Proofs
def ze2:Value:=.agg #[.int .i64 1,.int .i64 1,.string ⟨#[97]⟩,.string ⟨#[]⟩,.string ⟨#[]⟩,.int .i64 0,.int .i64 0,.int .i64 0,.int .i64 0]
def ze1:Value:=.agg #[.int .i64 6,.int .i64 0,.string ⟨#[97]⟩,.string ⟨#[]⟩,.string ⟨#[]⟩,.int .i64 0,.int .i64 0,.int .i64 0,.int .i64 0]
theorem runA(W:World):(Instr.build 30 #[(0,.int .i64 1),(2,.string ⟨#[97]⟩),(1,.int .i64 1)]).run Tryz.prog W=.ok ze2 W:=by kernel_rfl
theorem evA(W:World):(Instr.build 30 #[(0,.int .i64 1),(2,.string ⟨#[97]⟩),(1,.int .i64 1)]).events Tryz.prog W #[]=#[]:=by kernel_rfl
theorem runB(W:World):(Instr.build 30 #[(0,.int .i64 6),(2,.string ⟨#[97]⟩)]).run Tryz.prog W=.ok ze1 W:=by kernel_rfl
theorem evB(W:World):(Instr.build 30 #[(0,.int .i64 6),(2,.string ⟨#[97]⟩)]).events Tryz.prog W #[]=#[]:=by kernel_rfl
theorem runS(W:World):(Instr.buildSlice 31 2 #[(0,ze2),(1,ze1)]).run Tryz.prog W=.ok (.slice (some ⟨W.heap.size,0,none⟩) 2 2) (W.alloc (.cells (ze2.cells++ze1.cells) 30)):=by kernel_rfl
theorem evS(W:World):(Instr.buildSlice 31 2 #[(0,ze2),(1,ze1)]).events Tryz.prog W #[]=#[]:=by kernel_rfl
theorem runO(B:Nat)(W:World):(Instr.buildSlice 22 1 #[(0,.slice (some ⟨B,0,none⟩) 2 2)]).run Tryz.prog W=.ok (.slice (some ⟨W.heap.size,0,none⟩) 1 1) (W.alloc (.cells #[.slice (some ⟨B,0,none⟩) 2 2] 31)):=by kernel_rfl
theorem evO(B:Nat)(W:World):(Instr.buildSlice 22 1 #[(0,.slice (some ⟨B,0,none⟩) 2 2)]).events Tryz.prog W #[]=#[]:=by kernel_rfl
section
variable {P:Program}{X:Co P}{S:Nat→Prop}{W:World}{b:Frame}{nt:Nat}{env env':Env}{k:List Item}{cs:List Frame}
variable {ops:Array Oper}{i:Nat}{rest:List Nat}{d:Nat}{op:Op}{ty:TypeId}{pos:String}{af:Array Edge}{g:Option (Nat×Bool)}{v:Value}
theorem CE.build{T:TypeId}{parts:Array (Nat×Operand)}{ps:Array (Nat×Value)}(hk:b.kind≠.early)(ho:ops[i]?=some ⟨some d,.build T parts,ty,pos,af,g⟩)(hg:wanted ops env g=some true)(hd:Nat.blt d nt=true)
  (hp:∀ a,z2g env a→(parts.map fun(i,x)=>(i,a.eval x))=ps)(hr:∀ W,(Instr.build T ps).run P W=.ok v W)(he:∀ W,(Instr.build T ps).events P W #[]=#[])
  (k1:CE X S W b nt (put env d v) (.inRegion ops rest::k) cs):CE X S W b nt env (.inRegion ops (i::rest)::k) cs:=
 CE.val hk ho hg hd (fun a e W1 _=>by
  have:=hp a e
  constructor
  ·simp only[execOp,this,Sem.run_bind,hr];rfl
  ·intro e' he'
   simp only[execOp,this,Sem.events_bind,he,hr] at he'
   simp[Result.evThen] at he') k1
theorem CE.bldS{T E:TypeId}{n:Nat}{cl:Array Value}{parts:Array (Nat×Operand)}{ps:Array (Nat×Value)}(hro:∀ b,X.ro b→b<W.heap.size)(hk:b.kind≠.early)(ho:ops[i]?=some ⟨some d,.buildSlice T n parts,ty,pos,af,g⟩)(hg:wanted ops env g=some true)(hd:Nat.blt d nt=true)
  (hp:∀ a,z2g env a→(parts.map fun(i,x)=>(i,a.eval x))=ps)(hr:∀ W,(Instr.buildSlice T n ps).run P W=.ok (.slice (some ⟨W.heap.size,0,none⟩) n n) (W.alloc (.cells cl E)))(he:∀ W,(Instr.buildSlice T n ps).events P W #[]=#[])
  (k1:∀ W2 B,Grew X.ro S W W2 B (.cells cl E)→CE X (fun b=>S b∨b=B) W2 b nt (put env d (.slice (some ⟨B,0,none⟩) n n)) (.inRegion ops rest::k) cs):CE X S W b nt env (.inRegion ops (i::rest)::k) cs:=
 CE.new (f:=fun B=>.slice (some ⟨B,0,none⟩) n n) hro hk ho hg hd (fun a e W1 _=>by
  have:=hp a e
  constructor
  ·simp only[execOp,this,Sem.run_bind,hr];rfl
  ·intro e' he'
   simp only[execOp,this,Sem.events_bind,he,hr] at he'
   simp[Result.evThen] at he') k1
end
noncomputable def body3:Code:=Tryz.f3.body.getD .skip
end Go.Mn
