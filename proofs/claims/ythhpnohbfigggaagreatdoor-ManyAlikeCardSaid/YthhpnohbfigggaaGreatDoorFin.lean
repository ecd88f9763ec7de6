/-
  The statement Rows.ManyAlikeCardSaid: the law ManyAlike of the given program returns true for every input, and leaves its arguments as they were, on every schedule of its goroutines and without a data race. No condition.
-/
import Derived.Test.YthhpnohbfigggaaGreatDoorMq2
import Derived.Test.YthhpnohbfigggaaGreatDoorPu3
import Derived.Test.YthhpnohbfigggaaGreatDoorFwZ
import Derived.Conc.Holds
import Derived.SizedLaws
import Derived.Test.YthhpnohbfigggaaGreatDoorFwW
import Derived.Test.YthhpnohbfigggaaGreatDoorCards
import Derived.Test.YthhpnohbfigggaaGreatDoorTie
import Derived.JoinedCond
import Derived.Deep.DeepHandedRow
import Derived.Lib.LaidTab
import Derived.Lib.LaidIn
import Derived.Lib.LaidU8
import Derived.Lib.DecodeN
import Derived.Shelf.Vars
import Derived.ShutString
import Derived.Below
import Derived.Lib.SmallJoins
namespace Go.Proofs.YthhpnohbfigggaaGreatDoor
open Go.ChangeShapes Go.WideShapes Go.ChangeAt Go.RowKit Go.Fw
open Go.ChangeMaps (open_string shut_string)
namespace FinManyAlike
theorem own:ownKnob Tryz.prog.godebug=none:=by kernel_rfl
theorem laidOut:laidOutB Tryz.prog=true:=by kernel_rfl
section
variable {H:Type}{enc:TypeId×Value→H}
theorem z8x{a:Assume}{C:Checked}{os:Os}{f:FuncId}{fn:Func}{s:ChangeSpec}{conds:List PathCond}{apart fresh handsOn again:Bool}{laid:List (String×DataW Unit)}
  (own:ownKnob C.prog.godebug=none)(started:os.Started)(hfn:C.prog.funcs[f]?=some fn)
  (witness:∃ (w:World) (tape:Tape) (i:Input),w.os=os∧(w.forCall tape i).Shaped C.prog∧i.vars=[]∧Input.okWide C.prog (w.forCall tape i) .any w.heap.size f i ∧
   (OpenSpec.ofChange s).preRow enc C.prog fn conds apart laid (w.forCall tape i).memory i.args∧a.holds C.prog (lone (Frame.enter C.prog f i.args .normal) [] (w.forCall tape i)))
  (runs:∀ (W:World) (base:Nat) (args:Array Value) (ds gs:List (DataW H)) (before:List MemPlace),
   (∀ (j:Nat) t v,fn.params[j]?=some t→args[j]?=some v→Value.okWide C.prog W .any base t v) →
   DataW.Whole enc C.prog fn.params.toList s.vars apart W args.toList ds gs before →
   (DataW.weightsEach C.prog (fn.params.toList++s.plain.varTypes C.prog) (ds++gs)).all (·≤reachBytes)=true →
   laidMetH C.prog laid W→W.ShapedOpen C.prog →
   ∃ M last o w' t',runNT C.prog (M+1) (Conc.solo (Conc.G (Frame.enter C.prog f args .normal) []) W) #[]=(.ended o w',t')∧runN C.prog M (Conc.solo (Conc.G (Frame.enter C.prog f args .normal) []) W)=.next last ∧
    step C.prog last=.ended o w'∧Conc.Good C.prog (fun v W'=>s.post enc C.prog fn apart fresh handsOn again W args v W') last o w' t') :
  ReturnsInLeavingWide a C os f .any ((OpenSpec.ofChange s).preRow enc C.prog fn conds apart laid) (s.post enc C.prog fn apart fresh handsOn again):=by
 refine returnsInLeavingWide_of_good own started witness ?_
 intro w tape i _ hsh _ hok hpre _
 obtain⟨_,_,_,fn',hfn',_,_,_,_,hval⟩:=hok
 have e:fn'=fn:=Option.some.inj (hfn'.symm.trans hfn)
 subst e
 obtain⟨⟨hp,hl⟩,hz⟩:=hpre
 obtain⟨ds,gs,before,hw,hc,hk⟩:=OpenSpec.pre_parts hp
 have hw':=DataW.Whole.of_heap (w':=w.forCall tape i) (by rfl) hw
 obtain⟨M,last,o,w',t',h1,h2,h3,v,hv,hp,h4⟩:=runs (w.forCall tape i) w.heap.size i.args ds gs before hval hw' (hz.weights hw) (hl.of_heap (by rfl)) hsh
 exact⟨M,last,o,w',t',h1,h2,h3,v,hv,ChangeSpec.post_blind hp,h4⟩
end
theorem zdx(Lk:Looks){p:Pinned}{s:OpenSpec}{c:OpenClaim}(kinds:List LaidKind)(tests:Bool)(har:Bool×String)(lk:Bool)
  (hc:c.holds p s)(hw:c.wfByText s=true)(htie:c.laidByTextAt Lk p kinds tests)
  (hst:c.start=.entering)(hnb:c.noBlocks=false∧c.again=false)(hm:p.checked.prog.mainIs=some (har.1,har.2.toList))(hn:(!har.1&&har.2.isEmpty && !lk)=false)
  (hl:∀ f fn,p.checked.prog.funcNamed c.func=some f→p.checked.prog.funcs[f]?=some fn→lk=p.checked.prog.looks []∧∀ (j:Nat) t,fn.params[j]?=some t→p.checked.prog.wantsStandIn t=false)
  (hg:true=c.goesBy p.checked.prog) :
  Claim7.holds p (.plain s) {stood:={row:=c,standIns:=[],harness:=har,looks:=lk},kinds:=[],alts:=[],goes:=true,laidByText:=true,laidKinds:=kinds,laidTests:=tests,laidLooks:=Lk} := by
 have h6:∀ r:OpenClaim,Claim7.isSixth {stood:={row:=r,standIns:=[],harness:=har,looks:=lk},kinds:=[]} = false:=fun r=>by simpa[Claim7.isSixth] using hn
 exact⟨Claim7.tied_new_at Lk kinds tests (Claim7.new_of_sixth hc har lk hst hnb hm (h6 c) hl) hw,fun D hD=>(by cases hD),htie,(fun h=>by cases h),hg⟩
theorem gPow:Tryz.prog.globalNamed "internal/strconv.uint64pow10" = some 2:=by kernel_rfl
theorem gPowT:(Tryz.prog.globals[2]?).map (·.type)=some 188:=by kernel_rfl
theorem cellsPt:Tryz.prog.cellsOf 188=20:=by kernel_rfl
theorem cellsPe:Tryz.prog.cellsOf 47=1:=by kernel_rfl
theorem ren3:Tryz.lays146_ren.g 1=3:=by kernel_rfl
theorem globs8:((List.range 8).all fun g=>(((begin Tryz.prog (fun _ _=>0) default).world.heap[g]?).bind Obj.row?).isSome&&decide (g<Tryz.prog.globals.size))=true:=by kernel_rfl
theorem owns{W:World}(h:laidMetH Tryz.prog Rows.manyAlikeRow.laid W)(hs:W.ShapedOpen Tryz.prog):Mn.Own3 (fun b=>b<W.heap.size) W:=by
 have h0:laidMet Tryz.prog Rows.manyAlikeRow.laid W:=h
 refine⟨fun b hb=>hb,fun g hg=>?_,Lib.tabIs_of_head (rest:=Rows.manyAlikeRow.laid.drop 3) gPow gPowT Tryz.underlying188 Tryz.underlying47 cellsPe cellsPt (laid_tail (laid_tail h0)),?_⟩
 ·have hg8:=List.all_eq_true.1 globs8 g (List.mem_range.2 (by omega))
  simp only[Bool.and_eq_true,decide_eq_true_eq,Option.isSome_iff_exists] at hg8
  obtain⟨⟨⟨z,t⟩,hz⟩,hlt⟩:=hg8
  obtain⟨cs,hh,_⟩:=hs.1 g z t hlt hz
  exact⟨(Array.getElem?_eq_some_iff.1 hh).1,cs,t,_,hh⟩
 ·rw[ren3]
  exact cell_of_shapedOpen_int (P:=Tryz.prog) (g:=3) (t:=3) (zero:=#[.int .i64 0]) hs (of_decide_eq_true (by kernel_rfl)) (by kernel_rfl) rfl (by kernel_rfl) (by kernel_rfl) Tryz.underlying3
noncomputable def low:Nat:=(World.holding Tryz.prog default ⟨#[],#[],[]⟩).heap.size
noncomputable def zd2(os:Os):World:=
 let w0:=World.holding Tryz.prog os ⟨#[.cells #[.string ⟨#[105,110,118,97,108,105,100,32,115,121,110,116,97,120]⟩] 195,.cells #[.string ⟨#[118,97,108,117,101,32,111,117,116,32,111,102,32,114,97,110,103,101]⟩] 195],#[],[]⟩
 let put (h:Array Obj) (g:Nat) (cs:Array Value):Array Obj:=h.modify g fun
  |.cells _ t frozen=>.cells cs t frozen
  |o=>o
 {w0 with heap:=(put (put (put (put (put (put (put w0.heap 0 #[.iface 193 (.pointer (some ⟨low,0,none⟩))]) 1 #[.iface 193 (.pointer (some ⟨low+1,0,none⟩))]) 2 (Lib.pow10Tab.map fun z=>Value.int .u64 z).toArray) 4 (Lib.firstTab.map fun z=>Value.int .u8 z).toArray) 5 ((List.range 16).flatMap fun i=>[Value.int .u8 (Lib.accLo i),Value.int .u8 (Lib.accHi i)]).toArray) 6 #[.int .u8 0,.int .u8 1,.int .u8 28,.int .u8 2,.int .u8 29,.int .u8 14,.int .u8 24,.int .u8 3,.int .u8 30,.int .u8 22,.int .u8 20,.int .u8 15,.int .u8 25,.int .u8 17,.int .u8 4,.int .u8 8,.int .u8 31,.int .u8 27,.int .u8 13,.int .u8 23,.int .u8 21,.int .u8 19,.int .u8 16,.int .u8 7,.int .u8 26,.int .u8 12,.int .u8 18,.int .u8 6,.int .u8 11,.int .u8 5,.int .u8 10,.int .u8 9]) 7 #[.int .u8 0,.int .u8 1,.int .u8 56,.int .u8 2,.int .u8 57,.int .u8 49,.int .u8 28,.int .u8 3,.int .u8 61,.int .u8 58,.int .u8 42,.int .u8 50,.int .u8 38,.int .u8 29,.int .u8 17,.int .u8 4,.int .u8 62,.int .u8 47,.int .u8 59,.int .u8 36,.int .u8 45,.int .u8 43,.int .u8 51,.int .u8 22,.int .u8 53,.int .u8 39,.int .u8 33,.int .u8 30,.int .u8 24,.int .u8 18,.int .u8 12,.int .u8 5,.int .u8 63,.int .u8 55,.int .u8 48,.int .u8 27,.int .u8 60,.int .u8 41,.int .u8 37,.int .u8 16,.int .u8 46,.int .u8 35,.int .u8 44,.int .u8 21,.int .u8 52,.int .u8 32,.int .u8 23,.int .u8 11,.int .u8 54,.int .u8 26,.int .u8 40,.int .u8 15,.int .u8 34,.int .u8 20,.int .u8 31,.int .u8 10,.int .u8 25,.int .u8 14,.int .u8 19,.int .u8 9,.int .u8 13,.int .u8 8,.int .u8 7,.int .u8 6])}
theorem laid_met(os:Os):laidMet Tryz.prog Rows.manyAlikeRow.laid ((zd2 os).forCall (fun _ _=>0) ⟨#[],#[.int .i64 0,.int .i64 0,.slice none 0 0,.int .i64 0],[]⟩).memory:=
 (LaidIn.of_run (l:=Rows.manyAlikeRow.laid) [6,7,2,5,1,0,4,low,low+1] 8 (by kernel_rfl) (by kernel_rfl) (by kernel_rfl) (by kernel_rfl)).met
theorem reads(os:Os){H:Type}(enc:TypeId×Value→H):∃ places,DataW.whole enc Tryz.prog ((zd2 os).forCall (fun _ _=>0) ⟨#[],#[.int .i64 0,.int .i64 0,.slice none 0 0,.int .i64 0],[]⟩).memory Tryz.f3.params.toList Rows.manyAlikeSpec.vars false (#[.int .i64 0,.int .i64 0,.slice none 0 0,.int .i64 0]:Array Value).toList 8=some ([.lit (.int .i64 0),.lit (.int .i64 0),.nil,.lit (.int .i64 0)],[],places):=
 ⟨[],by kernel_rfl⟩
set_option maxRecDepth 100000 in
theorem lifted(os:Os)(started:os.Started)(H:Type)(enc:TypeId×Value→H) :
  ReturnsInLeavingWide {} Tryz.checked os 3 .any ((OpenSpec.ofChange Rows.manyAlikeSpec).preRow enc Tryz.prog Tryz.f3 Rows.manyAlikeRow.domain false Rows.manyAlikeRow.laid) (Rows.manyAlikeSpec.post enc Tryz.prog Tryz.f3 false true false false):=by
 obtain⟨places,hx⟩:=reads os enc
 refine z8x (C:=Tryz.checked) (s:=Rows.manyAlikeSpec) own started Tryz.func3
  (witness_row_at (enc:=enc) (C:=Tryz.checked) false (zd2 os) #[.int .i64 0,.int .i64 0,.slice none 0 0,.int .i64 0] rfl (by kernel_rfl) (by kernel_rfl) (by kernel_rfl)
   (OpenSpec.preRow_of_cond 8 hx (by kernel_rfl) (fun k hk=>by cases hk) (by kernel_rfl) (laid_met os))) ?_
 intro W base args ds gs before hval0 hW hsz hL hsh
 have hval:∀ (j:Nat) t v,Tryz.f3.params[j]?=some t→args[j]?=some v→Value.okWide Tryz.prog W .any base t v:=hval0
 have hW':=hW
 obtain⟨p,q,hA0,hV,rfl,hfz,hnd⟩:=hW
 have hA:DataW.TrodAll enc Tryz.prog W 0 (fun _=>true) true Tryz.f3.params.toList args.toList ds p:=hA0
 rw[Tryz.params3] at hA hval
 obtain⟨v0,vs0,d0,ds0,p0,q0,hargs,rfl,rfl,h0,r0⟩:=trodAll_cons hA
 obtain⟨v1,vs1,d1,ds1,p1,q1,rfl,rfl,rfl,h1,r1⟩:=trodAll_cons r0
 obtain⟨v2,vs2,d2,ds2,p2,q2,rfl,rfl,rfl,h2,r2⟩:=trodAll_cons r1
 obtain⟨v3,vs3,d3,ds3,p3,q3,rfl,rfl,rfl,h3,r3⟩:=trodAll_cons r2
 obtain⟨rfl,rfl,rfl⟩:=trodAll_nil r3
 obtain rfl:args=#[v0,v1,v2,v3]:=by cases args;simp_all
 obtain⟨rfl,rfl⟩:=trodVars_none hV
 obtain⟨a0,rfl,rfl,rfl,w0⟩:=open_int Tryz.underlying3 (hval 0 3 v0 rfl rfl) h0
 obtain⟨a1,rfl,rfl,rfl,w1⟩:=open_int Tryz.underlying3 (hval 1 3 v1 rfl rfl) h1
 obtain⟨b2,len2,cap2,rfl⟩:=okWide_slice Tryz.underlying22 (hval 2 22 v2 rfl rfl)
 have k2:=h2
 have lt2:∀ x∈p2,x.block<W.heap.size:=by obtain⟨m,hm⟩:=k2;exact DataW.trod_lt m _ _ _ hm
 obtain⟨fuel2,e2⟩:=k2
 obtain⟨n,jv,xs,hR,hn⟩:=open_rows (t:=Go.Wk.TrE) Tryz.underlying22 Tryz.underlying31 (z6f.struct Tryz.underlying30 (z6k.cons rfl (z6f.int Tryz.underlying3) (by kernel_rfl) (z6k.cons rfl (z6f.int Tryz.underlying3) (by kernel_rfl) (z6k.cons rfl (z6f.str Tryz.underlying9) (by kernel_rfl) (z6k.last rfl (z6f.struct Tryz.underlying28 (z6k.cons rfl (z6f.str Tryz.underlying9) (by kernel_rfl) (z6k.cons rfl (z6f.str Tryz.underlying9) (by kernel_rfl) (z6k.cons rfl (z6f.int Tryz.underlying3) (by kernel_rfl) (z6k.cons rfl (z6f.int Tryz.underlying3) (by kernel_rfl) (z6k.cons rfl (z6f.int Tryz.underlying3) (by kernel_rfl) (z6k.last rfl (z6f.int Tryz.underlying3) (by kernel_rfl))))))) (by kernel_rfl)) (by kernel_rfl))))) (by kernel_rfl)) (by kernel_rfl) (by decide) (by kernel_rfl) e2
 obtain⟨a3,rfl,rfl,rfl,w3⟩:=open_int Tryz.underlying3 (hval 3 3 v3 rfl rfl) h3
 clear hA0 hval0
 have wt2:=within_top hsz (j:=2) (t:=22) (d:=d2) (by kernel_rfl) rfl
 have b2:n≤5864062014805∧∀ i,i<n→(xs i).length≤1466015503701:=by
  rcases hn with e|⟨elems,rest,e,he,hr⟩
  ·exact⟨by omega,fun i hi=>by omega⟩
  ·dsimp only at e
   rw[e] at wt2
   obtain⟨q,qs⟩:=wt2.slice Tryz.underlying22
   rw[show Tryz.prog.bytesOf 31=24 by kernel_rfl] at q
   refine⟨by omega,fun i hi=>?_⟩
   obtain⟨x,hx,hd⟩:=hr i hi
   have h1:=qs x hx
   rcases hd with e2|⟨es,rs,e2,he2⟩
   ·rw[e2];exact Nat.zero_le _
   ·rw[e2] at h1
    have q2:=(h1.slice Tryz.underlying31).1
    rw[show Tryz.prog.bytesOf 30=96 by kernel_rfl] at q2
    omega
 have hm:∀ i,i<n→∃ r,Go.Mo.many_do_m (xs i)=some r:=fun i hi=>Go.Pu.many_any (xs i) (fun d hd=>by
  have hw:=(hR.hr i hi).1 d hd
  exact⟨hw.2.2.1,hw.2.2.2.1,hw.2.2.2.2.1⟩) (by have:=b2.2 i hi;omega)
 have hres:∃ res:Nat→List (Int×Int)×List Int,∀ i,i<n→Go.Mo.many_do_m (xs i)=some (res i):=
  ⟨fun i=>if hi:i<n then Classical.choose (hm i hi) else([],[]),fun i hi=>by simp only[dif_pos hi];exact Classical.choose_spec (hm i hi)⟩
 obtain⟨res,hres⟩:=hres
 obtain⟨M,last,o,W',t',r1,r2,r3,v,hv,hb,r4⟩:=Mn.alike_ends (h1:=a0) (h2:=a1) (pk:=a3) (m:=(a3%(n:Int)).toNat) (res:=res) hR b2.1 (owns hL hsh) Go.Pu.many_two' hres fun hn0=>by
  have q0:=Int.emod_nonneg a3 (b:=(n:Int)) (by omega)
  have q1:=Int.emod_lt_of_pos a3 (b:=(n:Int)) (by omega)
  exact⟨by omega,by rw[Go.Pu.within_any a3 n (by omega) (by have:=b2.1;omega),Int.toNat_of_nonneg q0]⟩
 refine⟨M,last,o,W',t',r1,r2,r3,v,hv,?_,r4⟩
 clear hv r1 r2 r3 r4
 obtain⟨rfl,hb1,hb2,hb3,hb4⟩:=hb
 obtain⟨W2,hh2,bel⟩:∃ W2:World,W2.heap=W'.heap∧Below W.heap.size W W2:=⟨{W' with tape:=W.tape},rfl,hb3,rfl,hb4,hb1,hb2⟩
 have kb:∀ may,W.keptBut W' may:=fun may=>⟨hb3,hb4,fun i hi=>by rw[hb2 i hi];split<;>simp_all⟩
 exact⟨_,_,_,[],_,[],hW',trodAll_mk1 (shut_bool Tryz.underlying4 _),(trodAll_cons_mk (shut_int Tryz.underlying3 w0) (trodAll_cons_mk (shut_int Tryz.underlying3 w1) (trodAll_cons_mk (DataW.Trod.of_heap hh2 (Below.trod laidOut (by kernel_rfl) (of_decide_eq_true (by kernel_rfl)) h2 bel lt2)) (trodAll_cons_mk (shut_int Tryz.underlying3 w3) trodAll_mk0)))),rfl,kb _,fun h=>by cases h⟩
theorem over:Rows.ManyAlikeSaid:=
 OpenClaim.holds_of_wide_leaving 3 Tryz.f3 rfl rfl rfl rfl rfl rfl rfl ⟨rfl,rfl,rfl,rfl,rfl⟩ rfl rfl rfl rfl rfl (by kernel_rfl) Tryz.func3 (by kernel_rfl)
  (of_decide_eq_true (by kernel_rfl)) (by unfold Func.isWrapper;first|(rw[if_pos (by decide +kernel)];kernel_rfl)|(rw[if_neg (by decide +kernel)];exact⟨rfl,rfl⟩))
  (fun os started H enc _=>by rw[OpenClaim.pre_eq_preRow];exact lifted os started H enc)
theorem plain(f:FuncId)(fn:Func)(hf:Tryz.pinned.checked.prog.funcNamed "feathermark/plumekeep.ManyAlike" = some f)(hfn:Tryz.pinned.checked.prog.funcs[f]?=some fn) :
  true=Tryz.pinned.checked.prog.looks []∧∀ (j:Nat) t,fn.params[j]?=some t→Tryz.pinned.checked.prog.wantsStandIn t=false:=by
 obtain rfl:f=3:=Option.some.inj ((show Tryz.prog.funcNamed "feathermark/plumekeep.ManyAlike" = some 3 by kernel_rfl).symm.trans hf) |>.symm
 obtain rfl:fn=Tryz.f3:=(Option.some.inj (Tryz.func3.symm.trans hfn)).symm
 refine⟨by kernel_rfl,fun j t ht=>?_⟩
 rw[Tryz.params3] at ht
 have hm:=Array.mem_of_getElem? ht
 simp only[List.mem_toArray,List.mem_cons,List.not_mem_nil,or_false] at hm
 rcases hm with rfl|rfl|rfl|rfl
 ·exact(show Tryz.prog.wantsStandIn 3=false by kernel_rfl)
 ·exact(show Tryz.prog.wantsStandIn 3=false by kernel_rfl)
 ·exact(show Tryz.prog.wantsStandIn 22=false by kernel_rfl)
 ·exact(show Tryz.prog.wantsStandIn 3=false by kernel_rfl)
theorem card:Rows.ManyAlikeCardSaid:=
 zdx .later _ _ _ _ over (by kernel_rfl) manyAlike_row_tie rfl ⟨rfl,rfl⟩ (by kernel_rfl) rfl plain (by kernel_rfl)
end FinManyAlike
theorem manyAlike_holds:Rows.ManyAlikeCardSaid:=FinManyAlike.card
#print axioms manyAlike_holds
end Go.Proofs.YthhpnohbfigggaaGreatDoor
