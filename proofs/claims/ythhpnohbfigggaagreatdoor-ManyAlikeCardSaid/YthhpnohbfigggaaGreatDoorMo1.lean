/- From walks to trees. -/
import Derived.Test.YthhpnohbfigggaaGreatDoorMn6
import Derived.Test.YthhpnohbfigggaaGreatDoorMnM
import Derived.Conc.WgWords
import Derived.Conc.WgGenAddNeg
import Derived.Conc.WgArith
set_option linter.all false
namespace Go.Mn
open Go.Conc Go.ConcN
open Go.ConcR (KK WgAt stA smA rd wr DC0 wgBlock)
section
variable {P:Program}{Post:Value→World→Prop}
theorem Tr.wx{p:Ph}{q:Nat}{h:Option Nat}{ex:Bool}{Stop:(Nat→Prop)→Goroutine→World→Prop}{S:Nat→Prop}{g:Goroutine}{W:World}(t:Tr P false p.ro Stop S g W)
  (hk:∀ S g W,(∀ W1,Rly p.ro S W W1→Stop S g W1)→WX P p ⟨q,h,S,ex,g,W⟩):WX P p ⟨q,h,S,ex,g,W⟩:=by
 induction t with
 |stop h=>exact hk _ _ _ h
 |step hg g' W' es S' h _ ih=>exact WX.intro ⟨hg,.inl fun W1 hr _=>⟨g' W1,W' W1,es W1,S' W1,(h W1 hr).1,(h W1 hr).2,ih W1 hr⟩⟩
theorem Tr.mx{tg:Tg}{Stop:(Nat→Prop)→Goroutine→World→Prop}{S:Nat→Prop}{g:Goroutine}{W:World}(t:Tr P true tg.ro Stop S g W)
  (hk:∀ S g W,(∀ W1,Rly tg.ro S W W1→Stop S g W1)→MX P Post ⟨tg,S,g,W⟩):MX P Post ⟨tg,S,g,W⟩:=by
 induction t with
 |stop h=>exact hk _ _ _ h
 |step hg g' W' es S' h _ ih=>exact MX.intro hg (.loc fun W1 hr=>⟨g' W1,W' W1,es W1,S' W1,(h W1 hr.rly).1,(h W1 hr.rly).2,ih W1 hr.rly⟩)
def RL0(p:Ph)(_ w1:World):Prop:=WgLive p.ty p.Wg w1
theorem z8k{p:Ph}{Stop:Goroutine→World→Prop}{Stop':Goroutine→Prop}{W0:World}(h0:WgLive p.ty p.Wg W0)(hs:∀ g,(∀ W,WgLive p.ty p.Wg W→Stop g W)→Stop' g):∀ {n:Nat} {main:Bool} {g:Goroutine} {w:World},Goes P main (RL0 p) DC0 Stop n g w→Sil P main p Stop' n g
 |0,_,_,_,h=>hs _ h
 |n+1,main,g,w,h=>by
  rcases h with h|⟨hr,h⟩
  ·exact .inl (hs _ h)
  ·refine .inr ⟨hr,fun W hW=>?_⟩
   have:=h W hW
   cases e:stepG P main g W with
   |go g' w' es=>
    rw[e,goes_go] at this
    obtain⟨⟨rfl,rfl⟩,hg⟩:=this
    exact⟨g',rfl,z8k h0 hs hg⟩
   |_=>rw[e] at this;exact this.elim
theorem z6r{RO S:Nat→Prop}{W:World}:Gua RO S S W W #[]:=⟨Nat.le_refl _,rfl,rfl,rfl,fun _ _ _ _=>rfl,fun _ _ _=>rfl,fun _ h=>h,fun _ h=>.inl h,fun e he=>by simp at he⟩
theorem Sil.wx{p:Ph}{q:Nat}{hh:Option Nat}{S:Nat→Prop}{ex:Bool}{Stop:Goroutine→Prop}(hk:∀ g W,Stop g→WX P p ⟨q,hh,S,ex,g,W⟩):∀ {n:Nat} {g:Goroutine} {W:World},Sil P false p Stop n g→WX P p ⟨q,hh,S,ex,g,W⟩
 |0,g,W,h=>hk g W h
 |n+1,g,W,h=>by
  rcases h with h|⟨hr,h⟩
  ·exact hk g W h
  ·refine WX.intro ⟨hr,.inl fun W1 hr1 hl=>?_⟩
   obtain⟨g',e,h'⟩:=h W1 hl
   exact⟨g',W1,#[],S,e,z6r,Sil.wx hk h'⟩
end
end Go.Mn
set_option maxRecDepth 100000
namespace Go.Mn
open Go.Conc Go.ConcN Go.RowKit Go.Conc.Lib Go.ConcR.Gen
open Go.ConcR (KK WgAt stA smA rd wr DC0 wgBlock)
section
variable (P:Program)(p:Ph)
def B4(g:Goroutine)(w:World):Prop:=
 g.status=.running∧mayWake P g=true∧(WgAt p.ty p.Wg w 0 0→∃ g',stepG P false g w=.go g' (w.setCell (smA p.Wg) (.int .u32 1)) (semEvents (smA p.Wg))∧∃ q,QuitsD P q 1 g')
def B3(g:Goroutine)(w:World):Prop:=
 g.status=.running∧(WgAt p.ty p.Wg w 1 0→∃ g',stepG P false g w=.go g' (w.setCell (stA p.Wg) (.int .u64 0)) #[wr (stA p.Wg)]∧∃ m,Goes P false (RL0 p) DC0 (B4 P p) m g' (w.setCell (stA p.Wg) (.int .u64 0)))
def B2(g:Goroutine)(w:World):Prop:=
 g.status=.running∧(WgAt p.ty p.Wg w 1 0→∃ g',stepG P false g w=.go g' w #[rd (stA p.Wg)]∧∃ m,Goes P false (RL0 p) DC0 (B3 P p) m g' w)
def B1(g:Goroutine)(w:World):Prop:=
 g.status=.running∧∀ v wt:Nat,wt≤1→v<2147483647→WgAt p.ty p.Wg w ((v+1)*KK+wt) 0 →
  ∃ g',stepG P false g w=.go g' (w.setCell (stA p.Wg) (.int .u64 (v*KK+wt))) #[rd (stA p.Wg),wr (stA p.Wg)] ∧
   ((v=0∧wt=1)→∃ m,Goes P false (RL0 p) DC0 (B2 P p) m g' (w.setCell (stA p.Wg) (.int .u64 (v*KK+wt))))∧(¬ (v=0∧wt=1)→∃ q,QuitsD P q 1 g')
def BK(g:Goroutine)(w:World):Prop:=
 g.status=.running∧∃ g',stepG P false g w=.go g' w #[Go.ConcR.mk .disable]∧∃ m,Goes P false (RL0 p) DC0 (B1 P p) m g' w
def BRl(g:Goroutine)(w:World):Prop:=
 g.status=.running∧∃ g',stepG P false g w=.go g' w #[Go.ConcR.mk (.releaseMerge (stA p.Wg))]∧∃ m,Goes P false (RL0 p) DC0 (BK P p) m g' w
end
section
variable {P:Program}{p:Ph}{W0:World}
theorem zb8{w:World}{st sm:Int}(h:WgAt p.ty p.Wg w st sm)(v:Int):WgLive p.ty p.Wg (w.setCell (stA p.Wg) (.int .u64 v)):=⟨_,_,h.setSt v⟩
theorem b4_d4(h0:WgLive p.ty p.Wg W0){g:Goroutine}(h:∀ W,WgLive p.ty p.Wg W→B4 P p g W):D4 P p g:=⟨(h W0 h0).1,(h W0 h0).2.1,fun W hw=>(h W ⟨_,_,hw⟩).2.2 hw⟩
theorem b3_d3(h0:WgLive p.ty p.Wg W0){g:Goroutine}(h:∀ W,WgLive p.ty p.Wg W→B3 P p g W):D3 P p g:=⟨(h W0 h0).1,fun W hw=>let ⟨g',a,m,b⟩:=(h W ⟨_,_,hw⟩).2 hw;⟨g',a,m,z8k h0 (fun _=>b4_d4 h0) b⟩⟩
theorem b2_d2(h0:WgLive p.ty p.Wg W0){g:Goroutine}(h:∀ W,WgLive p.ty p.Wg W→B2 P p g W):D2 P p g:=⟨(h W0 h0).1,fun W hw=>let ⟨g',a,m,b⟩:=(h W ⟨_,_,hw⟩).2 hw;⟨g',a,m,z8k h0 (fun _=>b3_d3 h0) b⟩⟩
theorem b1_d1(h0:WgLive p.ty p.Wg W0){g:Goroutine}(h:∀ W,WgLive p.ty p.Wg W→B1 P p g W):D1 P p g:=⟨(h W0 h0).1,fun W v wt hwt hv hw=>let ⟨g',a,b,c⟩:=(h W ⟨_,_,hw⟩).2 v wt hwt hv hw;⟨g',a,fun e=>let ⟨m,b⟩:=b e;⟨m,z8k h0 (fun _=>b2_d2 h0) b⟩,c⟩⟩
theorem bk_k1(h0:WgLive p.ty p.Wg W0){g:Goroutine}(h:∀ W,WgLive p.ty p.Wg W→BK P p g W):K1 P p g:=⟨(h W0 h0).1,fun W hw=>let ⟨g',a,m,b⟩:=(h W hw).2;⟨g',a,m,z8k h0 (fun _=>b1_d1 h0) b⟩⟩
end
theorem z6{p:Ph}{w w1:World}(_:WgLive p.ty p.Wg w)(r:RL0 p w w1):WgLive p.ty p.Wg w1:=r
open Go.ConcR (KK WgAt stA smA rd wr mk DC0 wgBlock)
theorem cell0{ty:TypeId}{Wg:Nat}{w:World}(h:WgLive ty Wg w):∃ v,w.cell? ⟨Wg,0,none⟩=some v:=let ⟨_,_,x⟩:=h;⟨_,x.cellSt⟩
theorem cell1{ty:TypeId}{Wg:Nat}{w:World}(h:WgLive ty Wg w):∃ v,w.cell? ⟨Wg,1,none⟩=some v:=let ⟨_,_,x⟩:=h;⟨_,x.cellSm⟩
noncomputable def fAdd(L:WgLink)(Wg:Nat)(d:Int):Frame:=(base L.add).at {tmps:=#[Value.pointer (some ⟨Wg,0,none⟩),.int .i64 d]++Array.replicate ((addFn L).ntmps-2) undef,defers:=[]} [.code (body_add L)]
noncomputable def fDone(L:WgLink)(Wg:Nat):Frame:=(base L.done).at {tmps:=#[Value.pointer (some ⟨Wg,0,none⟩)]++Array.replicate ((doneFn L).ntmps-1) undef,defers:=[]} [.code ((doneFn L).body.getD .skip)]
set_option maxHeartbeats 16000000 in
theorem addNeg{P:Program}{L:WgLink}(H:WgLib P L){p:Ph}(hty:p.ty=L.tWg){b₀:Frame}{a₀:Act}{ops₀:Array Oper}{i₀:Nat}{rest₀:List Nat}{k₀:List Item}{cs:List Frame}{qt:Nat}
  (hT:QuitsD P qt 0 (G (b₀.at (a₀.put ((ops₀[i₀]?).bind (·.dst)) (.tuple #[])) (.inRegion ops₀ rest₀::k₀)) cs))(w:World)(hF:WgLive p.ty p.Wg w) :
  Goes P false (RL0 p) DC0 (BRl P p) 20 (G (fAdd L p.Wg (-1)) (b₀.at a₀ (.inRegion ops₀ (i₀::rest₀)::k₀)::cs)) w:=by
 lib_facts
 simp only[fAdd,body_add,addFn,Option.getD_some]
 walk_nrm
 u_c stepG_seq z6 hF
 u_cond true z6 hF
 iterate 2 u_c stepG_seq z6 hF
 u_reg z6 hF
 iterate 2 u_op z6 hF
 u_c stepG_region_end z6 hF
 u_cond true z6 hF
 u_reg z6 hF
 u_op z6 hF
 u_conv H.underlying_tWgP H.room_tWg (cell0 hF).choose_spec z6 hF
 refine Goes.stop (fun w₁ h₁=>?_)
 replace hF:=z6 hF h₁
 clear h₁
 refine⟨rfl,_,stepG_markAt .releaseMerge (by simp) rfl rfl (by k_ne) rfl H.f_relMerge (x_relMerge_n L) (x_relMerge_b L) (x_relMerge_x L) (x_relMerge_f L) (by simp[Act.eval,stA]),10,?_⟩
 walk_nrm
 u_c stepG_region_end z6 hF
 u_c stepG_seq z6 hF
 u_reg z6 hF
 refine Goes.stop (fun w₁ h₁=>?_)
 replace hF:=z6 hF h₁
 clear h₁
 refine⟨rfl,_,stepG_mark0 .disable (by simp) rfl rfl (by k_ne) rfl H.f_disable (x_disable_n L) (x_disable_b L) (x_disable_x L) (x_disable_f L),50,?_⟩
 walk_nrm
 u_c stepG_region_end z6 hF
 u_reg z6 hF
 u_defer z6 hF
 u_c stepG_region_end z6 hF
 u_c stepG_seq z6 hF
 u_reg z6 hF
 u_op z6 hF
 u_c stepG_region_end z6 hF
 iterate 2 u_c stepG_seq z6 hF
 u_reg z6 hF
 u_bub z6 hF
 u_c stepG_region_end z6 hF
 u_cond false z6 hF
 u_c stepG_skip z6 hF
 u_c stepG_seq z6 hF
 u_reg z6 hF
 iterate 6 u_op z6 hF
 u_call H.f_uAdd (nm_uAdd L) uAddFn z6 hF
 u_c stepG_seq z6 hF
 u_reg z6 hF
 u_op z6 hF
 u_c stepG_region_end z6 hF
 u_c stepG_seq z6 hF
 u_reg z6 hF
 iterate 4 u_op z6 hF
 refine Goes.stop (fun w₁ h₁=>?_)
 clear h₁ hF
 refine⟨rfl,fun v wt hwt hv hw=>?_⟩
 have e0:IntKind.u64.wrap (KK+18446744069414584320)=0:=by decide
 have e1:IntKind.u64.wrap (KK+1+18446744069414584320)=1:=by decide
 rcases Nat.eq_zero_or_pos v with rfl|hvp
 ·obtain rfl|rfl:wt=0∨wt=1:=by omega
  ·replace hw:WgAt p.ty p.Wg w₁ KK 0:=by simpa using hw
   have z:((0:Nat):Int)*KK+((0:Nat):Int)=0:=by simp
   rw[z]
   refine⟨_,(stepG_add_atomic rfl rfl (by k_ne) rfl H.f_addU64 (x_addU64_n L) (x_addU64_b L) (x_addU64_x L) .u64 (x_addU64_f L) rfl rfl hw.cellSt (hw.thaw 0)).trans (by rw[e0];rfl),fun hl=>absurd hl.2 (by decide),fun _=>⟨qt+89,?_⟩⟩
   clear hw
   walk_nrm
   q_val (.int .u64 0)
   q_c stepG_region_end
   q_c stepG_ret'
   q_leave1 H.f_uAdd
   q_val (.int .u64 0)
   q_c stepG_region_end
   iterate 2 q_c stepG_seq
   q_reg
   iterate 2 q_val (.int .u64 0)
   iterate 2 q_val (.bool false)
   iterate 2 q_skip
   q_val (.bool false)
   q_c stepG_region_end
   q_cond false
   q_c stepG_skip
   q_c stepG_seq
   q_reg
   iterate 2 q_val (.int .u64 0)
   iterate 2 q_val (.int .i32 0)
   q_c stepG_region_end
   q_c stepG_seq
   q_reg
   iterate 2 q_val (.int .u64 0)
   iterate 2 q_val (.int .u32 0)
   q_c stepG_region_end
   iterate 2 q_c stepG_seq
   q_reg
   q_val (.bool true)
   q_val (.int .i64 (-1))
   iterate 3 q_val (.bool false)
   iterate 4 q_skip
   q_val (.bool false)
   q_c stepG_region_end
   q_cond false
   q_c stepG_skip
   iterate 2 q_c stepG_seq
   q_reg
   q_val (.int .i32 0)
   q_val (.bool false)
   q_c stepG_region_end
   q_cond false
   q_c stepG_skip
   iterate 2 q_c stepG_seq
   q_reg
   q_val (.int .u32 0)
   iterate 2 q_val (.bool false)
   iterate 2 q_skip
   iterate 2 q_val (.bool false)
   iterate 4 q_skip
   q_val (.bool false)
   q_c stepG_region_end
   q_cond false
   q_c stepG_skip
   iterate 2 q_c stepG_seq
   q_reg
   q_val (.int .i32 0)
   iterate 2 q_val (.bool false)
   q_val (.int .u32 0)
   iterate 2 q_val (.bool true)
   q_c stepG_region_end
   q_cond true
   q_c stepG_ret'
   q_enable
   q_leave0 H.f_add
   exact hT
  ·replace hw:WgAt p.ty p.Wg w₁ (KK+1) 0:=by simpa using hw
   have z:((0:Nat):Int)*KK+((1:Nat):Int)=1:=by simp
   rw[z]
   refine⟨_,(stepG_add_atomic rfl rfl (by k_ne) rfl H.f_addU64 (x_addU64_n L) (x_addU64_b L) (x_addU64_x L) .u64 (x_addU64_f L) rfl rfl hw.cellSt (hw.thaw 0)).trans (by rw[e1];rfl),fun _=>⟨120,?_⟩,fun hl=>absurd ⟨rfl,rfl⟩ hl⟩
   have hF:WgLive p.ty p.Wg (w₁.setCell (stA p.Wg) (.int .u64 1)):=⟨_,_,hw.setSt 1⟩
   clear hw
   walk_nrm
   u_op z6 hF
   u_c stepG_region_end z6 hF
   u_c stepG_ret' z6 hF
   u_leave1 H.f_uAdd z6 hF
   u_op z6 hF
   u_c stepG_region_end z6 hF
   iterate 2 u_c stepG_seq z6 hF
   u_reg z6 hF
   iterate 4 u_op z6 hF
   iterate 2 u_skip z6 hF
   u_op z6 hF
   u_c stepG_region_end z6 hF
   u_cond false z6 hF
   u_c stepG_skip z6 hF
   u_c stepG_seq z6 hF
   u_reg z6 hF
   iterate 4 u_op z6 hF
   u_c stepG_region_end z6 hF
   u_c stepG_seq z6 hF
   u_reg z6 hF
   iterate 4 u_op z6 hF
   u_c stepG_region_end z6 hF
   iterate 2 u_c stepG_seq z6 hF
   u_reg z6 hF
   iterate 5 u_op z6 hF
   iterate 4 u_skip z6 hF
   u_op z6 hF
   u_c stepG_region_end z6 hF
   u_cond false z6 hF
   u_c stepG_skip z6 hF
   iterate 2 u_c stepG_seq z6 hF
   u_reg z6 hF
   iterate 2 u_op z6 hF
   u_c stepG_region_end z6 hF
   u_cond false z6 hF
   u_c stepG_skip z6 hF
   iterate 2 u_c stepG_seq z6 hF
   u_reg z6 hF
   iterate 7 u_op z6 hF
   iterate 4 u_skip z6 hF
   u_op z6 hF
   u_c stepG_region_end z6 hF
   u_cond false z6 hF
   u_c stepG_skip z6 hF
   iterate 2 u_c stepG_seq z6 hF
   u_reg z6 hF
   iterate 6 u_op z6 hF
   u_c stepG_region_end z6 hF
   u_cond false z6 hF
   u_c stepG_skip z6 hF
   iterate 2 u_c stepG_seq z6 hF
   u_reg z6 hF
   iterate 3 u_op z6 hF
   u_call H.f_uLoad (nm_uLoad L) uLoadFn z6 hF
   u_c stepG_seq z6 hF
   u_reg z6 hF
   u_op z6 hF
   u_c stepG_region_end z6 hF
   u_c stepG_seq z6 hF
   u_reg z6 hF
   iterate 3 u_op z6 hF
   refine Goes.stop (fun w₂ h₂=>?_)
   clear h₂ hF
   refine⟨rfl,fun hw=>⟨_,stepG_load_atomic rfl rfl (by k_ne) rfl H.f_loadU64 (x_loadU64_n L) (x_loadU64_b L) (x_loadU64_x L) .u64 (x_loadU64_f L) rfl hw.cellSt,40,?_⟩⟩
   have hF:WgLive p.ty p.Wg w₂:=⟨_,_,hw⟩
   clear hw
   walk_nrm
   u_op z6 hF
   u_c stepG_region_end z6 hF
   u_c stepG_ret' z6 hF
   u_leave1 H.f_uLoad z6 hF
   iterate 2 u_op z6 hF
   u_c stepG_region_end z6 hF
   u_cond false z6 hF
   u_c stepG_skip z6 hF
   u_c stepG_seq z6 hF
   u_reg z6 hF
   iterate 3 u_op z6 hF
   u_call H.f_uStore (nm_uStore L) uStoreFn z6 hF
   u_reg z6 hF
   iterate 4 u_op z6 hF
   refine Goes.stop (fun w₃ h₃=>?_)
   clear h₃ hF
   refine⟨rfl,fun hw=>⟨_,stepG_store_atomic rfl rfl (by k_ne) rfl H.f_storeU64 (x_storeU64_n L) (x_storeU64_b L) (x_storeU64_x L) (x_storeU64_f L) rfl rfl hw.cellSt (hw.thaw 0),50,?_⟩⟩
   have hF:WgLive p.ty p.Wg (w₃.setCell (stA p.Wg) (.int .u64 0)):=⟨_,_,hw.setSt 0⟩
   clear hw
   walk_nrm
   u_c stepG_region_end z6 hF
   u_c stepG_end z6 hF
   u_leave0 H.f_uStore z6 hF
   u_c stepG_region_end z6 hF
   iterate 2 u_c stepG_seq z6 hF
   u_reg z6 hF
   u_op z6 hF
   u_c stepG_region_end z6 hF
   u_cond false z6 hF
   u_c stepG_skip z6 hF
   u_c stepG_block z6 hF
   u_c stepG_loop z6 hF
   iterate 2 u_c stepG_seq z6 hF
   u_reg z6 hF
   iterate 2 u_op z6 hF
   u_c stepG_region_end z6 hF
   u_cond true z6 hF
   u_c stepG_skip z6 hF
   u_c stepG_seq z6 hF
   u_c stepG_block z6 hF
   u_reg z6 hF
   iterate 3 u_op z6 hF
   refine Goes.stop (fun w₄ h₄=>?_)
   clear h₄ hF
   refine⟨rfl,mayWake_entry rfl rfl H.f_semrelease (x_semrelease_b L),fun hw=>⟨_,(stepG_semrelease rfl rfl (by k_ne) rfl H.f_semrelease (x_semrelease_n L) (x_semrelease_b L) (x_semrelease_x L) (x_semrelease_f L) (by simp[Act.eval,smA]) hw.cellSm (hw.thaw 1)).trans (by rfl),qt+19,?_⟩⟩
   clear hw
   walk_nrm
   q_c stepG_region_end
   q_c stepG_inBlock
   q_reg
   q_val (.int .u32 1)
   iterate 2 q_val (.int .u32 0)
   q_c stepG_region_end
   q_c stepG_inLoop
   iterate 2 q_c stepG_seq
   q_reg
   q_val (.int .u32 0)
   q_val (.bool false)
   q_c stepG_region_end
   q_cond false
   q_exit
   q_c stepG_end
   q_enable
   q_leave0 H.f_add
   exact hT
 ·have eS:IntKind.u64.wrap (((v:Nat)+1)*KK+wt+18446744069414584320)=(v:Int)*KK+wt:=by rw[IntKind.wrap_u64];simp only[KK];omega
  obtain⟨S,hS⟩:∃ S:Int,S=(v:Int)*KK+wt:=⟨_,rfl⟩
  rw[← hS] at eS ⊢
  have a1:S / 4294967296=(v:Int):=by rw[hS];simp only[KK];omega
  have b1:bits .and .u64 S 2147483648=0:=by rw[hS];have:=st_flag v wt (by omega) (by omega);simpa[KK] using this
  have b2:bits .and .u64 S 2147483647=wt:=by rw[hS];have:=st_waiters v wt (by omega) (by omega);simpa[KK] using this
  have c1:IntKind.i32.wrap (v:Int)=(v:Int):=by rw[IntKind.wrap_i32];omega
  have q3:decide ((v:Int)<0)=false:=decide_eq_false (by omega)
  have q4:decide (0<(v:Int))=true:=decide_eq_true (by omega)
  clear hS
  refine⟨_,(stepG_add_atomic rfl rfl (by k_ne) rfl H.f_addU64 (x_addU64_n L) (x_addU64_b L) (x_addU64_x L) .u64 (x_addU64_f L) rfl rfl hw.cellSt (hw.thaw 0)).trans (by rw[eS];rfl),fun hl=>absurd hl.1 (by omega),fun _=>⟨qt+89,?_⟩⟩
  clear hw eS
  obtain rfl|rfl:wt=0∨wt=1:=by omega
  ·simp only[Int.ofNat_zero,Int.cast_ofNat_Int] at b2
   walk_nrm
   q_val (.int .u64 S)
   q_c stepG_region_end
   q_c stepG_ret'
   q_leave1 H.f_uAdd
   q_val (.int .u64 S)
   q_c stepG_region_end
   iterate 2 q_c stepG_seq
   q_reg
   q_val (.int .u64 S)
   q_val (.int .u64 0)
   iterate 2 q_val (.bool false)
   iterate 2 q_skip
   q_val (.bool false)
   q_c stepG_region_end
   q_cond false
   q_c stepG_skip
   q_c stepG_seq
   q_reg
   q_val (.int .u64 S)
   q_val (.int .u64 (v:Int))
   iterate 2 q_val (.int .i32 (v:Int))
   q_c stepG_region_end
   q_c stepG_seq
   q_reg
   q_val (.int .u64 S)
   q_val (.int .u64 0)
   iterate 2 q_val (.int .u32 0)
   q_c stepG_region_end
   iterate 2 q_c stepG_seq
   q_reg
   q_val (.bool true)
   q_val (.int .i64 (-1))
   iterate 3 q_val (.bool false)
   iterate 4 q_skip
   q_val (.bool false)
   q_c stepG_region_end
   q_cond false
   q_c stepG_skip
   iterate 2 q_c stepG_seq
   q_reg
   q_val (.int .i32 (v:Int))
   q_val (.bool false)
   q_c stepG_region_end
   q_cond false
   q_c stepG_skip
   iterate 2 q_c stepG_seq
   q_reg
   q_val (.int .u32 0)
   iterate 2 q_val (.bool false)
   iterate 2 q_skip
   iterate 2 q_val (.bool false)
   iterate 4 q_skip
   q_val (.bool false)
   q_c stepG_region_end
   q_cond false
   q_c stepG_skip
   iterate 2 q_c stepG_seq
   q_reg
   q_val (.int .i32 (v:Int))
   iterate 2 q_val (.bool true)
   iterate 2 q_skip
   q_val (.bool true)
   q_c stepG_region_end
   q_cond true
   q_c stepG_ret'
   q_enable
   q_leave0 H.f_add
   exact hT
  ·simp only[Int.ofNat_one,Int.cast_ofNat_Int] at b2
   walk_nrm
   q_val (.int .u64 S)
   q_c stepG_region_end
   q_c stepG_ret'
   q_leave1 H.f_uAdd
   q_val (.int .u64 S)
   q_c stepG_region_end
   iterate 2 q_c stepG_seq
   q_reg
   q_val (.int .u64 S)
   q_val (.int .u64 0)
   iterate 2 q_val (.bool false)
   iterate 2 q_skip
   q_val (.bool false)
   q_c stepG_region_end
   q_cond false
   q_c stepG_skip
   q_c stepG_seq
   q_reg
   q_val (.int .u64 S)
   q_val (.int .u64 (v:Int))
   iterate 2 q_val (.int .i32 (v:Int))
   q_c stepG_region_end
   q_c stepG_seq
   q_reg
   q_val (.int .u64 S)
   q_val (.int .u64 1)
   iterate 2 q_val (.int .u32 1)
   q_c stepG_region_end
   iterate 2 q_c stepG_seq
   q_reg
   q_val (.bool true)
   q_val (.int .i64 (-1))
   iterate 3 q_val (.bool false)
   iterate 4 q_skip
   q_val (.bool false)
   q_c stepG_region_end
   q_cond false
   q_c stepG_skip
   iterate 2 q_c stepG_seq
   q_reg
   q_val (.int .i32 (v:Int))
   q_val (.bool false)
   q_c stepG_region_end
   q_cond false
   q_c stepG_skip
   iterate 2 q_c stepG_seq
   q_reg
   q_val (.int .u32 1)
   iterate 2 q_val (.bool true)
   q_val (.int .i64 (-1))
   iterate 3 q_val (.bool false)
   iterate 4 q_skip
   q_val (.bool false)
   q_c stepG_region_end
   q_cond false
   q_c stepG_skip
   iterate 2 q_c stepG_seq
   q_reg
   q_val (.int .i32 (v:Int))
   iterate 2 q_val (.bool true)
   iterate 2 q_skip
   q_val (.bool true)
   q_c stepG_region_end
   q_cond true
   q_c stepG_ret'
   q_enable
   q_leave0 H.f_add
   exact hT
end Go.Mn
