/- Add(1), as a starter calls it in company. (The words of the stretches are printed by wg.py.) -/
import Derived.Test.YthhpnohbfigggaaGreatDoorMo1
import Derived.Conc.WgGenWait
set_option linter.all false
set_option maxRecDepth 100000
namespace Go.Mn
open Go.Conc Go.ConcN Go.RowKit Go.Conc.Lib Go.ConcR.Gen
open Go.ConcR (KK WgAt stA smA rd wr mk DC0 wgBlock)
section
variable (P:Program)(p:Ph)(Next:Goroutine→World→Prop)
def A5(g:Goroutine)(w:World):Prop:=
 g.status=.running∧∃ g',stepG P true g w=.go g' w #[mk .enable]∧∃ m,Goes P true (RL0 p) DC0 Next m g' w
def AS(g:Goroutine)(w:World):Prop:=
 g.status=.running∧∃ g',stepG P true g w=.go g' w #[mk (.read (smA p.Wg))]∧∃ m,Goes P true (RL0 p) DC0 (A5 P p Next) m g' w
def A3(g:Goroutine)(w:World):Prop:=
 g.status=.running∧∀ v:Nat,v<2147483647→WgAt p.ty p.Wg w (v*KK) 0→∃ g',stepG P true g w=.go g' (w.setCell (stA p.Wg) (.int .u64 ((v+1)*KK))) #[rd (stA p.Wg),wr (stA p.Wg)] ∧
  ∃ m,Goes P true (RL0 p) DC0 (AS P p Next) m g' (w.setCell (stA p.Wg) (.int .u64 ((v+1)*KK)))∨Goes P true (RL0 p) DC0 (A5 P p Next) m g' (w.setCell (stA p.Wg) (.int .u64 ((v+1)*KK)))
def A1(g:Goroutine)(w:World):Prop:=
 g.status=.running∧∃ g',stepG P true g w=.go g' w #[mk .disable]∧∃ m,Goes P true (RL0 p) DC0 (A3 P p Next) m g' w
end
set_option maxHeartbeats 16000000 in
theorem addPos{P:Program}{L:WgLink}(H:WgLib P L){p:Ph}(hty:p.ty=L.tWg){Next:Goroutine→World→Prop}{b₀:Frame}{a₀:Act}{ops₀:Array Oper}{i₀:Nat}{rest₀:List Nat}{k₀:List Item}{cs:List Frame}
  (hT:∀ w,WgLive p.ty p.Wg w→Next (G (b₀.at (a₀.put ((ops₀[i₀]?).bind (·.dst)) (.tuple #[])) (.inRegion ops₀ rest₀::k₀)) cs) w)(w:World)(hF:WgLive p.ty p.Wg w) :
  Goes P true (RL0 p) DC0 (A1 P p Next) 20 (G (fAdd L p.Wg 1) (b₀.at a₀ (.inRegion ops₀ (i₀::rest₀)::k₀)::cs)) w:=by
 lib_facts
 simp only[fAdd,body_add,addFn,Option.getD_some]
 walk_nrm
 u_c stepG_seq z6 hF
 u_cond true z6 hF
 iterate 2 u_c stepG_seq z6 hF
 u_reg z6 hF
 iterate 2 u_op z6 hF
 u_c stepG_region_end z6 hF
 u_cond false z6 hF
 u_c stepG_skip z6 hF
 u_c stepG_seq z6 hF
 u_reg z6 hF
 refine Goes.stop (fun w₁ h₁=>?_)
 replace hF:=z6 hF h₁
 clear h₁
 refine⟨rfl,_,stepG_mark0 .disable (by simp) rfl rfl (by k_ne) rfl H.f_disable (x_disable_n L) (x_disable_b L) (x_disable_x L) (x_disable_f L),50,?_⟩
 walk_nrm
 u_c stepG_region_end z6 hF
 u_reg z6 hF
 u_defer z6 hF
 u_c stepG_region_end z6 hF
 u_c stepG_seq z6 hF
 u_reg z6 hF
 u_op z6 hF
 u_c stepG_region_end z6 hF
 iterate 2 u_c stepG_seq z6 hF
 u_reg z6 hF
 u_bub z6 hF
 u_c stepG_region_end z6 hF
 u_cond false z6 hF
 u_c stepG_skip z6 hF
 u_c stepG_seq z6 hF
 u_reg z6 hF
 iterate 6 u_op z6 hF
 u_call H.f_uAdd (nm_uAdd L) uAddFn z6 hF
 u_c stepG_seq z6 hF
 u_reg z6 hF
 u_op z6 hF
 u_c stepG_region_end z6 hF
 u_c stepG_seq z6 hF
 u_reg z6 hF
 iterate 4 u_op z6 hF
 refine Goes.stop (fun w₁ h₁=>?_)
 clear h₁ hF
 refine⟨rfl,fun v hv hw=>?_⟩
 rcases Nat.eq_zero_or_pos v with rfl|hvp
 ·replace hw:WgAt p.ty p.Wg w₁ 0 0:=by simpa using hw
  have z:(((0:Nat):Int)+1)*KK=KK:=by simp
  rw[z]
  have e0:IntKind.u64.wrap (0+4294967296)=KK:=by decide
  refine⟨_,(stepG_add_atomic rfl rfl (by k_ne) rfl H.f_addU64 (x_addU64_n L) (x_addU64_b L) (x_addU64_x L) .u64 (x_addU64_f L) rfl rfl hw.cellSt (hw.thaw 0)).trans (by rw[e0];rfl),110,.inl ?_⟩
  have hF:WgLive p.ty p.Wg (w₁.setCell (stA p.Wg) (.int .u64 KK)):=zb8 hw _
  clear hw
  simp only[KK] at hF ⊢
  walk_nrm
  u_op z6 hF
  u_c stepG_region_end z6 hF
  u_c stepG_ret' z6 hF
  u_leave1 H.f_uAdd z6 hF
  u_op z6 hF
  u_c stepG_region_end z6 hF
  iterate 2 u_c stepG_seq z6 hF
  u_reg z6 hF
  iterate 4 u_op z6 hF
  iterate 2 u_skip z6 hF
  u_op z6 hF
  u_c stepG_region_end z6 hF
  u_cond false z6 hF
  u_c stepG_skip z6 hF
  u_c stepG_seq z6 hF
  u_reg z6 hF
  iterate 4 u_op z6 hF
  u_c stepG_region_end z6 hF
  u_c stepG_seq z6 hF
  u_reg z6 hF
  iterate 4 u_op z6 hF
  u_c stepG_region_end z6 hF
  iterate 2 u_c stepG_seq z6 hF
  u_reg z6 hF
  iterate 10 u_op z6 hF
  u_c stepG_region_end z6 hF
  u_cond true z6 hF
  u_reg z6 hF
  iterate 3 u_op z6 hF
  u_conv H.underlying_tPU32 H.room_tU32 (cell1 hF).choose_spec z6 hF
  refine Goes.stop (fun w₂ h₂=>?_)
  replace hF:=z6 hF h₂
  clear h₂
  refine⟨rfl,_,stepG_markAt .read (by simp) rfl rfl (by k_ne) rfl H.f_raceRead (x_raceRead_n L) (x_raceRead_b L) (x_raceRead_x L) (x_raceRead_f L) (by simp[Act.eval,smA]),60,?_⟩
  walk_nrm
  u_c stepG_region_end z6 hF
  iterate 2 u_c stepG_seq z6 hF
  u_reg z6 hF
  iterate 2 u_op z6 hF
  u_c stepG_region_end z6 hF
  u_cond false z6 hF
  u_c stepG_skip z6 hF
  iterate 2 u_c stepG_seq z6 hF
  u_reg z6 hF
  iterate 3 u_op z6 hF
  iterate 2 u_skip z6 hF
  iterate 2 u_op z6 hF
  iterate 4 u_skip z6 hF
  u_op z6 hF
  u_c stepG_region_end z6 hF
  u_cond false z6 hF
  u_c stepG_skip z6 hF
  iterate 2 u_c stepG_seq z6 hF
  u_reg z6 hF
  iterate 3 u_op z6 hF
  iterate 2 u_skip z6 hF
  u_op z6 hF
  u_c stepG_region_end z6 hF
  u_cond true z6 hF
  u_c stepG_ret' z6 hF
  refine Goes.stop (fun w₃ h₃=>?_)
  replace hF:=z6 hF h₃
  clear h₃
  refine⟨rfl,_,stepG_unwind_entry (v:=.tuple #[]) (evs:=#[mk .enable]) rfl H.f_enable (x_enable_n L) (x_enable_b L) (x_enable_x L) (x_enable_f L) (by simp[Extern.Race.none_]) (by simp[mk]) (by simp[mk]),2,?_⟩
  u_leave0 H.f_add z6 hF
  exact Goes.stop (fun w₄ h₄=>hT _ (z6 hF h₄))
 ·obtain⟨V,hV⟩:∃ V:Int,V=(v:Int)+1:=⟨_,rfl⟩
  obtain⟨S,hS⟩:∃ S:Int,S=V*KK:=⟨_,rfl⟩
  have eS:IntKind.u64.wrap ((v:Int)*KK+4294967296)=S:=by rw[IntKind.wrap_u64,hS,hV];simp only[KK];omega
  rw[← hV,← hS]
  have a1:S / 4294967296=V:=by rw[hS];simp only[KK];omega
  have b1:bits .and .u64 S 2147483648=0:=by rw[hS,hV];have:=st_flag (v+1) 0 (by omega) (by omega);simpa[KK] using this
  have b2:bits .and .u64 S 2147483647=0:=by rw[hS,hV];have:=st_waiters (v+1) 0 (by omega) (by omega);simpa[KK] using this
  have c1:IntKind.i32.wrap V=V:=by rw[IntKind.wrap_i32];omega
  have q1:(V==1)=false:=by simp;omega
  have q2:decide (V=1)=false:=decide_eq_false (by omega)
  have q3:decide (V<0)=false:=decide_eq_false (by omega)
  have q4:decide (0<V)=true:=decide_eq_true (by omega)
  have q5:(V==0)=false:=by simp;omega
  have q6:decide (V=0)=false:=decide_eq_false (by omega)
  refine⟨_,(stepG_add_atomic rfl rfl (by k_ne) rfl H.f_addU64 (x_addU64_n L) (x_addU64_b L) (x_addU64_x L) .u64 (x_addU64_f L) rfl rfl hw.cellSt (hw.thaw 0)).trans (by rw[eS];rfl),110,.inr ?_⟩
  have hF:WgLive p.ty p.Wg (w₁.setCell (stA p.Wg) (.int .u64 S)):=zb8 hw _
  clear hw hS hV eS
  walk_nrm
  u_op z6 hF
  u_c stepG_region_end z6 hF
  u_c stepG_ret' z6 hF
  u_leave1 H.f_uAdd z6 hF
  u_op z6 hF
  u_c stepG_region_end z6 hF
  iterate 2 u_c stepG_seq z6 hF
  u_reg z6 hF
  iterate 4 u_op z6 hF
  iterate 2 u_skip z6 hF
  u_op z6 hF
  u_c stepG_region_end z6 hF
  u_cond false z6 hF
  u_c stepG_skip z6 hF
  u_c stepG_seq z6 hF
  u_reg z6 hF
  iterate 4 u_op z6 hF
  u_c stepG_region_end z6 hF
  u_c stepG_seq z6 hF
  u_reg z6 hF
  iterate 4 u_op z6 hF
  u_c stepG_region_end z6 hF
  iterate 2 u_c stepG_seq z6 hF
  u_reg z6 hF
  iterate 10 u_op z6 hF
  u_c stepG_region_end z6 hF
  u_cond false z6 hF
  u_c stepG_skip z6 hF
  iterate 2 u_c stepG_seq z6 hF
  u_reg z6 hF
  iterate 2 u_op z6 hF
  u_c stepG_region_end z6 hF
  u_cond false z6 hF
  u_c stepG_skip z6 hF
  iterate 2 u_c stepG_seq z6 hF
  u_reg z6 hF
  iterate 3 u_op z6 hF
  iterate 2 u_skip z6 hF
  iterate 2 u_op z6 hF
  iterate 4 u_skip z6 hF
  u_op z6 hF
  u_c stepG_region_end z6 hF
  u_cond false z6 hF
  u_c stepG_skip z6 hF
  iterate 2 u_c stepG_seq z6 hF
  u_reg z6 hF
  iterate 3 u_op z6 hF
  iterate 2 u_skip z6 hF
  u_op z6 hF
  u_c stepG_region_end z6 hF
  u_cond true z6 hF
  u_c stepG_ret' z6 hF
  refine Goes.stop (fun w₃ h₃=>?_)
  replace hF:=z6 hF h₃
  clear h₃
  refine⟨rfl,_,stepG_unwind_entry (v:=.tuple #[]) (evs:=#[mk .enable]) rfl H.f_enable (x_enable_n L) (x_enable_b L) (x_enable_x L) (x_enable_f L) (by simp[Extern.Race.none_]) (by simp[mk]) (by simp[mk]),2,?_⟩
  u_leave0 H.f_add z6 hF
  exact Goes.stop (fun w₄ h₄=>hT _ (z6 hF h₄))
open Go.ConcR (KK WgAt stA smA rd wr mk DC0 wgBlock)
def RT(_ _:World):Prop:=True
section
variable (P:Program)(p:Ph)(Next Loop:Goroutine→World→Prop)
def C6(g:Goroutine)(w:World):Prop:=
 g.status=.running∧∃ g',stepG P true g w=.go g' w #[mk (.acquire (stA p.Wg))]∧∃ m,Goes P true RT DC0 Next m g' w
def C5(g:Goroutine)(w:World):Prop:=
 g.status=.running∧∃ g',stepG P true g w=.go g' w #[mk .enable]∧∃ m,Goes P true (RL0 p) DC0 (C6 P p Next) m g' w
def C4(g:Goroutine)(w:World):Prop:=
 g.status=.running∧(WgAt p.ty p.Wg w 0 0→∃ g',stepG P true g w=.go g' w #[rd (stA p.Wg)]∧∃ m,Goes P true (RL0 p) DC0 (C5 P p Next) m g' w)
def C3(g:Goroutine)(w:World):Prop:=
 g.status=.running∧g.offers=none∧((∃ st,WgAt p.ty p.Wg w st 0)→stepG P true g w=.go {g with status:=.blocked} w #[]) ∧
  (WgAt p.ty p.Wg w 0 1→∃ g',stepG P true g w=.go g' (w.setCell (smA p.Wg) (.int .u32 0)) (semEvents (smA p.Wg))∧∃ m,Goes P true (RL0 p) DC0 (C4 P p Next) m g' (w.setCell (smA p.Wg) (.int .u32 0)))
def CS(g:Goroutine)(w:World):Prop:=
 g.status=.running∧∃ g',stepG P true g w=.go g' w #[mk (.write (smA p.Wg))]∧∃ m,Goes P true (RL0 p) DC0 (C3 P p Next) m g' w
def C2(vs:Nat)(g:Goroutine)(w:World):Prop:=
 g.status=.running∧∀ v:Nat,v≤vs→WgAt p.ty p.Wg w (v*KK) 0 →
  (v=vs→∃ g',stepG P true g w=.go g' (w.setCell (stA p.Wg) (.int .u64 (v*KK+1))) #[rd (stA p.Wg),wr (stA p.Wg)]∧∃ m,Goes P true (RL0 p) DC0 (CS P p Next) m g' (w.setCell (stA p.Wg) (.int .u64 (v*KK+1)))) ∧
  (v≠vs→∃ g',stepG P true g w=.go g' w #[rd (stA p.Wg)]∧∃ m,Goes P true (RL0 p) DC0 Loop m g' w)
def C1(g:Goroutine)(w:World):Prop:=
 g.status=.running∧∀ v:Nat,v<2147483647→WgAt p.ty p.Wg w (v*KK) 0→∃ g',stepG P true g w=.go g' w #[rd (stA p.Wg)] ∧
  (v=0→∃ m,Goes P true (RL0 p) DC0 (C5 P p Next) m g' w)∧(v≠0→∃ m,Goes P true (RL0 p) DC0 (C2 P p Next Loop v) m g' w)
def C0(g:Goroutine)(w:World):Prop:=
 g.status=.running∧∃ g',stepG P true g w=.go g' w #[mk .disable]∧∃ m,Goes P true (RL0 p) DC0 Loop m g' w
end
theorem z57{w w1:World}(_:True)(_:RT w w1):True:=trivial
noncomputable def fWait(L:WgLink)(Wg:Nat):Frame:=(base L.wait).at {tmps:=#[Value.pointer (some ⟨Wg,0,none⟩)]++Array.replicate ((waitFn L).ntmps-1) undef,defers:=[]} [.code (body_wait L)]
def CLoop(L:WgLink)(Wg:Nat)(c:Frame)(cs:List Frame)(g:Goroutine)(_:World):Prop:=
 ∃ T:Array Value,g=G ((base L.wait).at ⟨T,[]⟩ [.code (L7 L),.inLoop (L7 L),.inBlock 0]) (c::cs)∧T.size=84∧T[0]?=some (.pointer (some ⟨Wg,0,none⟩))
section
variable {P:Program}{L:WgLink}{p:Ph}{Next:Goroutine→World→Prop}{b₀:Frame}{a₀:Act}{ops₀:Array Oper}{i₀:Nat}{rest₀:List Nat}{k₀:List Item}{cs:List Frame}
theorem waitStart(H:WgLib P L)(hty:p.ty=L.tWg)(w:World)(hF:WgLive p.ty p.Wg w) :
  Goes P true (RL0 p) DC0 (C0 P p (CLoop L p.Wg (b₀.at a₀ (.inRegion ops₀ (i₀::rest₀)::k₀)) cs)) 6 (G (fWait L p.Wg) (b₀.at a₀ (.inRegion ops₀ (i₀::rest₀)::k₀)::cs)) w:=by
 lib_facts
 simp only[fWait,body_wait,waitFn,Option.getD_some]
 walk_nrm
 u_c stepG_seq z6 hF
 u_cond true z6 hF
 u_reg z6 hF
 refine Goes.stop (fun w₁ h₁=>?_)
 replace hF:=z6 hF h₁
 clear h₁
 refine⟨rfl,_,stepG_mark0 .disable (by simp) rfl rfl (by k_ne) rfl H.f_disable (x_disable_n L) (x_disable_b L) (x_disable_x L) (x_disable_f L),4,?_⟩
 walk_nrm
 u_c stepG_region_end z6 hF
 u_c stepG_block z6 hF
 u_c stepG_loop z6 hF
 exact Goes.stop (fun w₂ h₂=>⟨_,rfl,by simp,by simp⟩)
set_option maxHeartbeats 16000000 in
theorem waitRound(H:WgLib P L)(hty:p.ty=L.tWg)(hT:∀ w,Next (G (b₀.at (a₀.put ((ops₀[i₀]?).bind (·.dst)) (.tuple #[])) (.inRegion ops₀ rest₀::k₀)) cs) w)
  (g:Goroutine)(w:World)(hF:WgLive p.ty p.Wg w)(h:CLoop L p.Wg (b₀.at a₀ (.inRegion ops₀ (i₀::rest₀)::k₀)) cs g w) :
  Goes P true (RL0 p) DC0 (C1 P p Next (CLoop L p.Wg (b₀.at a₀ (.inRegion ops₀ (i₀::rest₀)::k₀)) cs)) 30 g w:=by
 lib_facts
 obtain⟨T,rfl,hT84,t0⟩:=h
 obtain⟨v0,v1,v2,v3,v4,v5,v6,v7,v8,v9,v10,v11,v12,v13,v14,v15,v16,v17,v18,v19,v20,v21,v22,v23,v24,v25,v26,v27,v28,v29,v30,v31,v32,v33,v34,v35,v36,v37,v38,v39,v40,v41,v42,v43,v44,v45,v46,v47,v48,v49,v50,v51,v52,v53,v54,v55,v56,v57,v58,v59,v60,v61,v62,v63,v64,v65,v66,v67,v68,v69,v70,v71,v72,v73,v74,v75,v76,v77,v78,v79,v80,v81,v82,v83,rfl⟩:=array84 T hT84
 simp only[List.getElem?_toArray,List.getElem?_cons_zero,Option.some.injEq] at t0
 subst t0
 simp only[L7,body_wait,waitFn,Option.getD_some]
 u_c stepG_block z6 hF
 u_c stepG_seq z6 hF
 u_reg z6 hF
 iterate 3 u_op z6 hF
 u_call H.f_uLoad (nm_uLoad L) uLoadFn z6 hF
 u_c stepG_seq z6 hF
 u_reg z6 hF
 u_op z6 hF
 u_c stepG_region_end z6 hF
 u_c stepG_seq z6 hF
 u_reg z6 hF
 iterate 3 u_op z6 hF
 refine Goes.stop (fun w₁ h₁=>?_)
 replace hF:=z6 hF h₁
 clear h₁
 refine⟨rfl,fun v hv hw=>?_⟩
 rcases Nat.eq_zero_or_pos v with rfl|hvp
 ·replace hw:WgAt p.ty p.Wg w₁ 0 0:=by simpa using hw
  refine⟨_,stepG_load_atomic (v:=0) rfl rfl (by k_ne) rfl H.f_loadU64 (x_loadU64_n L) (x_loadU64_b L) (x_loadU64_x L) .u64 (x_loadU64_f L) rfl hw.cellSt,fun _=>⟨50,?_⟩,fun h=>absurd rfl h⟩
  clear hw
  walk_nrm
  u_op z6 hF
  u_c stepG_region_end z6 hF
  u_c stepG_ret' z6 hF
  u_leave1 H.f_uLoad z6 hF
  u_op z6 hF
  u_c stepG_region_end z6 hF
  u_c stepG_seq z6 hF
  u_reg z6 hF
  iterate 4 u_op z6 hF
  u_c stepG_region_end z6 hF
  u_c stepG_seq z6 hF
  u_reg z6 hF
  iterate 4 u_op z6 hF
  u_c stepG_region_end z6 hF
  iterate 2 u_c stepG_seq z6 hF
  u_reg z6 hF
  iterate 2 u_op z6 hF
  u_c stepG_region_end z6 hF
  u_cond true z6 hF
  u_c stepG_seq z6 hF
  u_cond true z6 hF
  u_c stepG_seq z6 hF
  u_reg z6 hF
  refine Goes.stop (fun w₅ h₅=>?_)
  replace hF:=z6 hF h₅
  clear h₅
  refine⟨rfl,_,stepG_mark0 .enable (by simp) rfl rfl (by k_ne) rfl H.f_enable (x_enable_n L) (x_enable_b L) (x_enable_x L) (x_enable_f L),12,?_⟩
  walk_nrm
  u_c stepG_region_end z6 hF
  u_reg z6 hF
  u_op z6 hF
  u_conv H.underlying_tWgP H.room_tWg (cell0 hF).choose_spec z6 hF
  refine Goes.stop (fun w₆ h₆=>?_)
  replace hF:=z6 hF h₆
  clear h₆
  refine⟨rfl,_,stepG_markAt .acquire (by simp) rfl rfl (by k_ne) rfl H.f_acquire (x_acquire_n L) (x_acquire_b L) (x_acquire_x L) (x_acquire_f L) (by simp[Act.eval,stA]),30,?_⟩
  clear hF
  have hF:True:=trivial
  walk_nrm
  u_c stepG_region_end z57 hF
  iterate 2 u_c stepG_seq z57 hF
  u_reg z57 hF
  iterate 8 u_op z57 hF
  iterate 2 u_skip z57 hF
  u_op z57 hF
  u_c stepG_region_end z57 hF
  u_cond false z57 hF
  u_c stepG_skip z57 hF
  u_c stepG_ret' z57 hF
  u_leave0 H.f_wait z57 hF
  exact Goes.stop (fun w₄ _=>hT w₄)
 ·obtain⟨S,hS⟩:∃ S:Int,(v:Int)*KK=S:=⟨_,rfl⟩
  have a1:S / 4294967296=(v:Int):=by rw[← hS];simp only[KK];omega
  have b1:bits .and .u64 S 2147483648=0:=by rw[← hS];have:=st_flag v 0 (by omega) (by omega);simpa[KK] using this
  have b2:bits .and .u64 S 2147483647=0:=by rw[← hS];have:=st_waiters v 0 (by omega) (by omega);simpa[KK] using this
  have c1:IntKind.i32.wrap (v:Int)=(v:Int):=by rw[IntKind.wrap_i32];omega
  have w1:IntKind.u64.wrap (S+1)=S+1:=by rw[IntKind.wrap_u64,← hS];simp only[KK];omega
  have q3:decide ((v:Int)<0)=false:=decide_eq_false (by omega)
  have q4:decide (0<(v:Int))=true:=decide_eq_true (by omega)
  have q5:((v:Int)==0)=false:=by simp;omega
  have q6:decide ((v:Int)=0)=false:=decide_eq_false (by omega)
  rw[hS] at hw
  refine⟨_,stepG_load_atomic (v:=S) rfl rfl (by k_ne) rfl H.f_loadU64 (x_loadU64_n L) (x_loadU64_b L) (x_loadU64_x L) .u64 (x_loadU64_f L) rfl hw.cellSt,fun h0=>absurd h0 (by omega),fun _=>⟨60,?_⟩⟩
  clear hw
  walk_nrm
  u_op z6 hF
  u_c stepG_region_end z6 hF
  u_c stepG_ret' z6 hF
  u_leave1 H.f_uLoad z6 hF
  u_op z6 hF
  u_c stepG_region_end z6 hF
  u_c stepG_seq z6 hF
  u_reg z6 hF
  iterate 4 u_op z6 hF
  u_c stepG_region_end z6 hF
  u_c stepG_seq z6 hF
  u_reg z6 hF
  iterate 4 u_op z6 hF
  u_c stepG_region_end z6 hF
  iterate 2 u_c stepG_seq z6 hF
  u_reg z6 hF
  iterate 2 u_op z6 hF
  u_c stepG_region_end z6 hF
  u_cond false z6 hF
  u_c stepG_skip z6 hF
  u_c stepG_seq z6 hF
  u_reg z6 hF
  iterate 6 u_op z6 hF
  u_call H.f_uCas (nm_uCas L) uCasFn z6 hF
  u_c stepG_seq z6 hF
  u_reg z6 hF
  u_op z6 hF
  u_c stepG_region_end z6 hF
  u_c stepG_seq z6 hF
  u_reg z6 hF
  iterate 5 u_op z6 hF
  refine Goes.stop (fun w₂ h₂=>?_)
  replace hF:=z6 hF h₂
  clear h₂
  refine⟨rfl,fun v' hv' hw=>⟨fun e=>?_,fun e=>?_⟩⟩
  ·subst e
   rw[hS] at hw ⊢
   refine⟨_,(stepG_cas_hit (v:=S) (n:=S+1) rfl rfl (by k_ne) rfl H.f_casU64 (x_casU64_n L) (x_casU64_b L) (x_casU64_x L) .u64 (x_casU64_f L) rfl rfl rfl hw.cellSt (hw.thaw 0)).trans (by rfl),70,?_⟩
   replace hF:WgLive p.ty p.Wg (w₂.setCell (stA p.Wg) (.int .u64 (S+1))):=zb8 hw _
   clear hw
   walk_nrm
   u_op z6 hF
   u_c stepG_region_end z6 hF
   u_c stepG_ret' z6 hF
   u_leave1 H.f_uCas z6 hF
   u_c stepG_region_end z6 hF
   u_cond true z6 hF
   iterate 2 u_c stepG_seq z6 hF
   u_reg z6 hF
   iterate 4 u_op z6 hF
   u_c stepG_region_end z6 hF
   u_cond true z6 hF
   u_reg z6 hF
   iterate 3 u_op z6 hF
   u_conv H.underlying_tPU32 H.room_tU32 (cell1 hF).choose_spec z6 hF
   refine Goes.stop (fun w₃ h₃=>?_)
   replace hF:=z6 hF h₃
   clear h₃
   refine⟨rfl,_,stepG_markAt .write (by simp) rfl rfl (by k_ne) rfl H.f_raceWrite (x_raceWrite_n L) (x_raceWrite_b L) (x_raceWrite_x L) (x_raceWrite_f L) (by simp[Act.eval,smA]),60,?_⟩
   walk_nrm
   u_c stepG_region_end z6 hF
   u_c stepG_seq z6 hF
   u_reg z6 hF
   u_op z6 hF
   u_c stepG_region_end z6 hF
   iterate 2 u_c stepG_seq z6 hF
   u_reg z6 hF
   iterate 4 u_op z6 hF
   u_skip z6 hF
   u_op z6 hF
   u_c stepG_region_end z6 hF
   u_cond false z6 hF
   u_c stepG_skip z6 hF
   u_c stepG_seq z6 hF
   u_reg z6 hF
   iterate 4 u_op z6 hF
   refine Goes.stop (fun w₃ h₃=>?_)
   replace hF:=z6 hF h₃
   clear h₃
   refine⟨rfl,rfl,fun⟨st,hw⟩=>stepG_semacquire_wait rfl rfl rfl H.f_semacquire (x_semacquire_n L) (x_semacquire_b L) (x_semacquire_x L) (x_semacquire_f L) (by simp[Act.eval,smA]) hw.cellSm,fun hf=>?_⟩
   refine⟨_,(stepG_semacquire (n:=1) rfl rfl (by k_ne) rfl H.f_semacquire (x_semacquire_n L) (x_semacquire_b L) (x_semacquire_x L) (x_semacquire_f L) (by simp[Act.eval,smA]) hf.cellSm (by k_ne) (hf.thaw 1)).trans (by rfl),30,?_⟩
   replace hF:WgLive p.ty p.Wg (w₃.setCell (smA p.Wg) (.int .u32 0)):=⟨_,_,hf.setSm 0⟩
   clear hf
   walk_nrm
   u_c stepG_region_end z6 hF
   u_c stepG_seq z6 hF
   u_reg z6 hF
   iterate 3 u_op z6 hF
   u_call H.f_uLoad (nm_uLoad L) uLoadFn z6 hF
   u_c stepG_seq z6 hF
   u_reg z6 hF
   u_op z6 hF
   u_c stepG_region_end z6 hF
   u_c stepG_seq z6 hF
   u_reg z6 hF
   iterate 3 u_op z6 hF
   refine Goes.stop (fun w₄ h₄=>?_)
   replace hF:=z6 hF h₄
   clear h₄
   refine⟨rfl,fun hw=>⟨_,stepG_load_atomic (v:=0) rfl rfl (by k_ne) rfl H.f_loadU64 (x_loadU64_n L) (x_loadU64_b L) (x_loadU64_x L) .u64 (x_loadU64_f L) rfl hw.cellSt,30,?_⟩⟩
   clear hw
   walk_nrm
   u_op z6 hF
   u_c stepG_region_end z6 hF
   u_c stepG_ret' z6 hF
   u_leave1 H.f_uLoad z6 hF
   iterate 2 u_op z6 hF
   u_c stepG_region_end z6 hF
   u_c stepG_seq z6 hF
   u_cond true z6 hF
   u_c stepG_seq z6 hF
   u_reg z6 hF
   refine Goes.stop (fun w₅ h₅=>?_)
   replace hF:=z6 hF h₅
   clear h₅
   refine⟨rfl,_,stepG_mark0 .enable (by simp) rfl rfl (by k_ne) rfl H.f_enable (x_enable_n L) (x_enable_b L) (x_enable_x L) (x_enable_f L),12,?_⟩
   walk_nrm
   u_c stepG_region_end z6 hF
   u_reg z6 hF
   u_op z6 hF
   u_conv H.underlying_tWgP H.room_tWg (cell0 hF).choose_spec z6 hF
   refine Goes.stop (fun w₆ h₆=>?_)
   replace hF:=z6 hF h₆
   clear h₆
   refine⟨rfl,_,stepG_markAt .acquire (by simp) rfl rfl (by k_ne) rfl H.f_acquire (x_acquire_n L) (x_acquire_b L) (x_acquire_x L) (x_acquire_f L) (by simp[Act.eval,stA]),30,?_⟩
   clear hF
   have hF:True:=trivial
   walk_nrm
   u_c stepG_region_end z57 hF
   iterate 2 u_c stepG_seq z57 hF
   u_reg z57 hF
   u_op z57 hF
   u_c stepG_region_end z57 hF
   u_cond false z57 hF
   u_c stepG_skip z57 hF
   u_c stepG_ret' z57 hF
   u_leave0 H.f_wait z57 hF
   exact Goes.stop (fun w₄ _=>hT w₄)
  ·refine⟨_,stepG_cas_miss (v:=(v':Int)*KK) (old:=S) (n:=S+1) rfl rfl (by k_ne) rfl H.f_casU64 (x_casU64_n L) (x_casU64_b L) (x_casU64_x L) .u64 (x_casU64_f L) rfl rfl rfl hw.cellSt (hw.thaw 0) (by rw[← hS];simp only[KK];omega),20,?_⟩
   clear hw
   walk_nrm
   u_op z6 hF
   u_c stepG_region_end z6 hF
   u_c stepG_ret' z6 hF
   u_leave1 H.f_uCas z6 hF
   u_c stepG_region_end z6 hF
   u_cond false z6 hF
   u_c stepG_skip z6 hF
   u_c stepG_inBlock z6 hF
   u_c stepG_inLoop z6 hF
   exact Goes.stop (fun w₃ h₃=>⟨_,rfl,by simp,by simp⟩)
end
open Go.ConcR (KK WgAt stA smA rd wr mk DC0 wgBlock)
section
variable {P:Program}{Post:Value→World→Prop}
theorem Rly.setC{ro S:Nat→Prop}{W0 W:World}{a:Addr}{v:Value}(h:Rly ro S W0 W)(hS:¬ S a.block)(hR:¬ ro a.block):Rly ro S W0 (W.setCell a v):=by
 obtain⟨h1,h2⟩:=z5a W a v
 exact⟨by rw[h1];exact h.size,fun b hb=>by rw[h2 b fun e=>hS (e▸hb)];exact h.own b hb,fun b hb=>by rw[h2 b fun e=>hR (e▸hb)];exact h.ro b hb,(z6u W a v).1.trans h.so.1,(z6u W a v).2.trans h.so.2⟩
theorem MX.rely{tg:Tg}{S:Nat→Prop}{g:Goroutine}{W W1:World}(h:MX P Post ⟨tg,S,g,W⟩)(hr:RlyM ⟨tg,S,g,W⟩ W1):MX P Post ⟨tg,S,g,W1⟩:=by
 obtain⟨r,h⟩:=h
 cases r with
 |leaf=>exact h.elim
 |node f=>
  obtain⟨hg,h⟩:=h
  refine MX.intro hg ?_
  have h':=z6l.mono (K':=MX P Post) (fun y ⟨i,hy⟩=>⟨_,hy⟩) h
  have tr:∀ {W2},RlyM ⟨tg,S,g,W1⟩ W2→RlyM ⟨tg,S,g,W⟩ W2:=fun k=>⟨hr.rly.trans k.rly,k.live⟩
  have tr0:∀ {W2},tg=.idle→Rly (fun _=>False) S W1 W2→Rly (fun _=>False) S W W2:=fun e k=>by
   have:=hr.rly
   subst e
   exact this.trans k
  cases h' with
  |loc h=>exact .loc fun W2 k=>h W2 (tr k)
  |said p hp h=>exact .said p hp fun W2 k=>h W2 (tr k)
  |send h=>exact .send fun W2 k=>h W2 (tr0 rfl k)
  |shut h=>exact .shut fun W2 k=>h W2 (tr0 rfl k)
  |opn h=>exact .opn fun W2 k=>h W2 (tr0 rfl k)
  |dis h=>exact .dis fun W2 k=>h W2 (tr k)
  |add h=>exact .add fun W2 v k=>h W2 v (tr k)
  |ena h=>exact .ena fun W2 k=>h W2 (tr k)
  |spawn hs h=>exact .spawn hs fun W2 k=>h W2 (tr k)
  |ldw h=>exact .ldw fun W2 v k=>h W2 v (tr k)
  |cas h=>exact .cas fun W2 v k=>h W2 v (tr k)
  |sem ho h=>exact .sem ho fun W2 k=>h W2 (tr k)
  |ld4 h=>exact .ld4 fun W2 k=>h W2 (tr k)
  |ena2 h=>exact .ena2 fun W2 k=>h W2 (tr k)
  |acq h=>exact .acq fun W2 fz k=>h W2 fz (tr k)
  |fin h=>exact .fin fun W2 k=>h W2 (tr0 rfl k)
def RM(tg:Tg)(S:Nat→Prop)(w w1:World):Prop:=Rly tg.ro S w w1∧∀ p,tg.ph=some p→WgLive p.ty p.Wg w1
def RWk(p:Ph)(S:Nat→Prop)(w w1:World):Prop:=Rly p.ro S w w1∧WgLive p.ty p.Wg w1
theorem goes_less{main:Bool}{R R':World→World→Prop}{D:World→World→Array Event→Prop}{Stop:Goroutine→World→Prop}(h:∀ w w1,R' w w1→R w w1):∀ {n:Nat} {g:Goroutine} {w:World},Goes P main R D Stop n g w→Goes P main R' D Stop n g w
 |0,_,_,k=>fun w1 r=>k w1 (h _ _ r)
 |n+1,g,w,k=>by
  rcases k with k|⟨hr,k⟩
  ·exact .inl fun w1 r=>k w1 (h _ _ r)
  ·refine .inr ⟨hr,fun w1 r=>?_⟩
   have:=k w1 (h _ _ r)
   cases e:stepG P main g w1 with
   |go g' w' es=>rw[e,goes_go] at this;exact⟨this.1,goes_less h this.2⟩
   |_=>rw[e] at this;exact this.elim
theorem goes_mx{tg:Tg}{S:Nat→Prop}{Stop:Goroutine→World→Prop}{W0:World}(hk:∀ g W,Rly tg.ro S W0 W→(∀ W1,RM tg S W W1→Stop g W1)→MX P Post ⟨tg,S,g,W⟩):∀ {n:Nat} {g:Goroutine} {W:World},Rly tg.ro S W0 W→Goes P true (RM tg S) DC0 Stop n g W→MX P Post ⟨tg,S,g,W⟩
 |0,g,W,h0,h=>hk g W h0 h
 |n+1,g,W,h0,h=>by
  rcases h with h|⟨hr,h⟩
  ·exact hk g W h0 h
  ·refine MX.intro hr (.loc fun W1 r=>?_)
   have:=h W1 ⟨r.rly,r.live⟩
   cases e:stepG P true g W1 with
   |go g' w' es=>
    rw[e,goes_go] at this
    obtain⟨⟨rfl,rfl⟩,hg⟩:=this
    exact⟨g',w',#[],S,rfl,z6r,goes_mx hk (h0.trans r.rly) hg⟩
   |_=>rw[e] at this;exact this.elim
theorem z3v{p:Ph}{tg:Tg}(htg:tg.ph=some p){S:Nat→Prop}{Stop:Goroutine→World→Prop}{W0:World}(hk:∀ g W,Rly p.ro S W0 W→WgLive p.ty p.Wg W→(∀ W1,WgLive p.ty p.Wg W1→Stop g W1)→MX P Post ⟨tg,S,g,W⟩) :
  ∀ {n:Nat} {g:Goroutine} {W:World},Rly p.ro S W0 W→WgLive p.ty p.Wg W→Goes P true (RL0 p) DC0 Stop n g W→MX P Post ⟨tg,S,g,W⟩
 |0,g,W,h0,hl,h=>hk g W h0 hl h
 |n+1,g,W,h0,hl,h=>by
  rcases h with h|⟨hr,h⟩
  ·exact hk g W h0 hl h
  ·refine MX.intro hr (.loc fun W1 r=>?_)
   have hl1:=r.live p htg
   have hr1:Rly p.ro S W W1:=by have:=r.rly;rw[za7 (x:=⟨tg,S,g,W⟩) htg] at this;exact this
   have:=h W1 hl1
   cases e:stepG P true g W1 with
   |go g' w' es=>
    rw[e,goes_go] at this
    obtain⟨⟨rfl,rfl⟩,hg⟩:=this
    exact⟨g',w',#[],S,rfl,z6r,z3v htg hk (h0.trans hr1) hl1 hg⟩
   |_=>rw[e] at this;exact this.elim
theorem zag{p:Ph}{tg:Tg}(htg:tg.ph=some p){S:Nat→Prop}{g:Goroutine}{W W1:World}(r:RlyM ⟨tg,S,g,W⟩ W1):Rly p.ro S W W1:=by have:=r.rly;rw[za7 (x:=⟨tg,S,g,W⟩) htg] at this;exact this
section
variable {p:Ph}{S:Nat→Prop}{W0:World}
theorem addPos_mx(hS:¬ S p.Wg)(hR:¬ p.ro p.Wg){s:Nat}{gT g:Goroutine}{n:Nat}{W:World}(h:Goes P true (RL0 p) DC0 (A1 P p (fun g _=>g=gT)) n g W)(h0:Rly p.ro S W0 W)(hl:WgLive p.ty p.Wg W)
  (hk:∀ W',Rly p.ro S W0 W'→WgLive p.ty p.Wg W'→MX P Post ⟨.op p s 1 false,S,gT,W'⟩):MX P Post ⟨.op p s 0 false,S,g,W⟩:=by
 have e5:∀ {n:Nat} {g:Goroutine} {W:World},Rly p.ro S W0 W→WgLive p.ty p.Wg W→Goes P true (RL0 p) DC0 (A5 P p (fun g _=>g=gT)) n g W→MX P Post ⟨.op p s 1 true,S,g,W⟩:=
  z3v rfl fun g W r hl hs=>MX.intro (hs W hl).1 (.ena fun W1 k=>by
   obtain⟨_,g',e,m,hn⟩:=hs W1 (k.live p rfl)
   exact⟨g',e,z3v rfl (fun g W r hl hs=>(hs W hl)▸hk W r hl) (r.trans (zag rfl k)) (k.live p rfl) hn⟩)
 have es:∀ {n:Nat} {g:Goroutine} {W:World},Rly p.ro S W0 W→WgLive p.ty p.Wg W→Goes P true (RL0 p) DC0 (AS P p (fun g _=>g=gT)) n g W→MX P Post ⟨.op p s 1 true,S,g,W⟩:=
  z3v rfl fun g W r hl hs=>MX.intro (hs W hl).1 (.said p rfl fun W1 k=>by
   obtain⟨_,g',e,m,hn⟩:=hs W1 (k.live p rfl)
   exact⟨g',_,.inl rfl,e,e5 (r.trans (zag rfl k)) (k.live p rfl) hn⟩)
 have e3:∀ {n:Nat} {g:Goroutine} {W:World},Rly p.ro S W0 W→WgLive p.ty p.Wg W→Goes P true (RL0 p) DC0 (A3 P p (fun g _=>g=gT)) n g W→MX P Post ⟨.op p s 0 true,S,g,W⟩:=
  z3v rfl fun g W r hl hs=>MX.intro (hs W hl).1 (.add fun W1 v k hv hw=>by
   obtain⟨_,hs⟩:=hs W1 (k.live p rfl)
   obtain⟨g',e,m,hn⟩:=hs v hv hw
   have r1:Rly p.ro S W0 (W1.setCell (stA p.Wg) (.int .u64 ((v+1)*KK))):=(r.trans (zag rfl k)).setC hS hR
   exact⟨g',e,hn.elim (es r1 (zb8 hw _)) (e5 r1 (zb8 hw _))⟩)
 exact z3v (tg:=.op p s 0 false) rfl (fun g W r hl hs=>MX.intro (hs W hl).1 (.dis fun W1 k=>by
  obtain⟨_,g',e,m,hn⟩:=hs W1 (k.live p rfl)
  exact⟨g',e,.inl (e3 (r.trans (zag rfl k)) (k.live p rfl) hn)⟩)) h0 hl h
theorem wait_mx(hS:¬ S p.Wg)(hR:¬ p.ro p.Wg){s:Nat}{gT g:Goroutine}{n:Nat}{W:World}{Loop:Goroutine→World→Prop}(hs1:1≤s)(hs2:s<2147483647)(hloop:∀ g W,WgLive p.ty p.Wg W→Loop g W→(∀ W1,WgLive p.ty p.Wg W1→Loop g W1)→∃ n,Goes P true (RL0 p) DC0 (C1 P p (fun g _=>g=gT) Loop) n g W)
  (h:Goes P true (RL0 p) DC0 (C0 P p Loop) n g W)(h0:Rly p.ro S W0 W)(hl:WgLive p.ty p.Wg W)
  (hk:∀ W' fz,Rly p.ro S W0 W'→Joined p W' fz→(∃ cs,W'.heap[p.ob]?=some (.cells cs p.ety)∧cs.size=2*p.n)→(∀ b,fz b→b<W'.heap.size∧b≠p.Wg)→MX P Post ⟨.idle,fun b=>S b∨p.ro b∨b=p.ob∨fz b,gT,W'⟩):MX P Post ⟨.op p s 0 false,S,g,W⟩:=by
 have e6:∀ {n:Nat} {g:Goroutine} {W:World},Rly p.ro S W0 W→WgLive p.ty p.Wg W→Goes P true (RL0 p) DC0 (C6 P p (fun g _=>g=gT)) n g W→MX P Post ⟨.dn p false,S,g,W⟩:=
  z3v rfl fun g W r hl hs=>MX.intro (hs W hl).1 (.acq fun W1 fz k hj ho hf=>by
   obtain⟨_,g',e,m,hn⟩:=hs W1 (k.live p rfl)
   refine⟨g',e,goes_mx (tg:=.idle) (W0:=W1) (fun g W r2 hs=>?_) (.refl _ _ _) (goes_less (fun _ _ _=>trivial) hn)⟩
   have hg:g=gT:=hs W ⟨.refl _ _ _,fun p e=>by cases e⟩
   subst hg
   exact MX.rely (hk W1 fz (r.trans (zag rfl k)) hj ho hf) ⟨r2,fun p e=>by cases e⟩)
 have e5:∀ {n:Nat} {g:Goroutine} {W:World},Rly p.ro S W0 W→WgLive p.ty p.Wg W→Goes P true (RL0 p) DC0 (C5 P p (fun g _=>g=gT)) n g W→MX P Post ⟨.dn p true,S,g,W⟩:=
  z3v rfl fun g W r hl hs=>MX.intro (hs W hl).1 (.ena2 fun W1 k=>by
   obtain⟨_,g',e,m,hn⟩:=hs W1 (k.live p rfl)
   exact⟨g',e,e6 (r.trans (zag rfl k)) (k.live p rfl) hn⟩)
 have e4:∀ {n:Nat} {g:Goroutine} {W:World},Rly p.ro S W0 W→WgLive p.ty p.Wg W→Goes P true (RL0 p) DC0 (C4 P p (fun g _=>g=gT)) n g W→MX P Post ⟨.w4 p,S,g,W⟩:=
  z3v rfl fun g W r hl hs=>MX.intro (hs W hl).1 (.ld4 fun W1 k hw=>by
   obtain⟨_,hs⟩:=hs W1 (k.live p rfl)
   obtain⟨g',e,m,hn⟩:=hs hw
   exact⟨g',e,e5 (r.trans (zag rfl k)) (k.live p rfl) hn⟩)
 have e3:∀ {n:Nat} {g:Goroutine} {W:World},Rly p.ro S W0 W→WgLive p.ty p.Wg W→Goes P true (RL0 p) DC0 (C3 P p (fun g _=>g=gT)) n g W→MX P Post ⟨.w3 p,S,g,W⟩:=
  z3v rfl fun g W r hl hs=>MX.intro (hs W hl).1 (.sem (hs W hl).2.1 fun W1 k=>by
   obtain⟨_,_,ha,hb⟩:=hs W1 (k.live p rfl)
   refine⟨ha,fun hw=>?_⟩
   obtain⟨g',e,m,hn⟩:=hb hw
   exact⟨g',e,e4 ((r.trans (zag rfl k)).setC hS hR) ⟨_,_,hw.setSm 0⟩ hn⟩)
 have ew:∀ {n:Nat} {g:Goroutine} {W:World},Rly p.ro S W0 W→WgLive p.ty p.Wg W→Goes P true (RL0 p) DC0 (CS P p (fun g _=>g=gT)) n g W→MX P Post ⟨.w3 p,S,g,W⟩:=
  z3v rfl fun g W r hl hs=>MX.intro (hs W hl).1 (.said p rfl fun W1 k=>by
   obtain⟨_,g',e,m,hn⟩:=hs W1 (k.live p rfl)
   exact⟨g',_,.inr rfl,e,e3 (r.trans (zag rfl k)) (k.live p rfl) hn⟩)
 have el:∀ (B:Nat),B<2147483647→∀ {n:Nat} {g:Goroutine} {W:World},Rly p.ro S W0 W→WgLive p.ty p.Wg W→Goes P true (RL0 p) DC0 Loop n g W→MX P Post ⟨.wt p B,S,g,W⟩:=by
  intro B
  induction B using Nat.strongRecOn with
  |ind B ih=>
   intro hB n g W r hl h
   refine z3v (tg:=.wt p B) rfl (fun g W r hl hs=>?_) r hl h
   obtain⟨n,h1⟩:=hloop g W hl (hs W hl) hs
   refine z3v (tg:=.wt p B) rfl (fun g W r hl hs=>MX.intro (hs W hl).1 (.ldw fun W1 v k hv hw=>?_)) r hl h1
   obtain⟨_,hs⟩:=hs W1 (k.live p rfl)
   obtain⟨g',e,ha,hb⟩:=hs v (by omega) hw
   refine⟨g',e,fun hv0=>?_,fun hv0=>?_⟩
   ·obtain⟨m,hn⟩:=ha hv0
    exact e5 (r.trans (zag rfl k)) (k.live p rfl) hn
   ·obtain⟨m,hn⟩:=hb hv0
    refine z3v (tg:=.cas p v) rfl (fun g W r hl hs=>MX.intro (hs W hl).1 (.cas fun W1 v' k hv' hw=>?_)) (r.trans (zag rfl k)) (k.live p rfl) hn
    obtain⟨_,hs⟩:=hs W1 (k.live p rfl)
    obtain⟨ha,hb⟩:=hs v' hv' hw
    refine⟨fun e=>?_,fun e=>?_⟩
    ·obtain⟨g',e1,m,hn⟩:=ha e
     exact⟨g',e1,ew ((r.trans (zag rfl k)).setC hS hR) (zb8 hw _) hn⟩
    ·obtain⟨g',e1,m,hn⟩:=hb e
     exact⟨g',e1,ih v' (by omega) (by omega) (r.trans (zag rfl k)) (k.live p rfl) hn⟩
 exact z3v (tg:=.op p s 0 false) rfl (fun g W r hl hs=>MX.intro (hs W hl).1 (.dis fun W1 k=>by
  obtain⟨_,g',e,m,hn⟩:=hs W1 (k.live p rfl)
  exact⟨g',e,.inr ⟨hs1,el s hs2 (r.trans (zag rfl k)) (k.live p rfl) hn⟩⟩)) h0 hl h
end
end
end Go.Mn
