/- Each function comes to what its model says; printed by a program of this repository. -/
import Derived.Test.YthhpnohbfigggaaGreatDoorProg
import Derived.Test.YthhpnohbfigggaaGreatDoorMwModels
import Derived.Test.YthhpnohbfigggaaGreatDoorMwWalks1
namespace Go.Wk
open Go.Fw Go.Mo Go.Proofs Go.RowKit
set_option linter.all false
set_option maxRecDepth 100000
set_option maxHeartbeats 4000000
theorem z6s(S:Hp)(w:World)(hS:S.sub w)(v0:Value)(x0:(List TyD))(k0:((TR.sl TrD)).vrep S v0 x0)(res:Int)(hm:z2d x0=some res):Calls Tryz.prog 51 #[v0] w (z45 w (.int .i64 res)):=by
 refine zi 31 Tryz.func51 Tryz.ntmps51 rfl S false [(0,v0)] [imm (TR.sl TrD) v0 x0] rfl ⟨rfl,trivial⟩ hS ⟨k0,trivial⟩ ?_
 unfold z2d at hm
 refine GL.seq (GL.region (RL.asg rfl rfl rfl (RL.finG (GL.seq (GL.seq (GL.region (RL.mv rfl rfl rfl ?_)))))))
 refine RL.lenS 0 Tryz.underlying85 rfl rfl rfl rfl SlOf.imm (RL.binI (v:=.bool (decide (((x0).length:Int)>(20:Int)))) rfl rfl rfl rfl rfl (RL.finG (GL.cond rfl (fun b2=>?_) (fun b2=>?_))))
 ·replace hm:=z13 b2 hm
  refine GL.seq (GL.region (RL.asg rfl rfl rfl (RL.finG ?_)))
  have hm:=Option.some.inj hm
  subst hm
  exact GL.ret (Gx.ret (v:=.int .i64 (2:Int)) (res1 rfl rfl) (fun a w st=>st.toPostV))
 replace hm:=z14 b2 hm
 refine GL.skip (GL.seq (GL.seq (GL.region (RL.mv rfl rfl rfl (RL.lenS 0 Tryz.underlying85 rfl rfl rfl rfl SlOf.imm (RL.mv rfl rfl rfl (RL.finG ?_)))))))
 refine GL.open_ 0 rfl (fun S h=>z77 S h) (fun n29=>?_)
 obtain⟨y30,K31,h32,h33,h34,h35,h36⟩:=z1z hm
 refine GL.join (ι:=Unit) (fun(p:Unit)=>[]) (fun(p:Unit)=>[]) (fun(p:Unit)=>K31 (.nx ())) ?_ ?_
 ·refine GL.block (GL.loop (ι:=Nat×(List TyD)) (fun(p:Nat×(List TyD))=>[(0,v0),(9,v0),(10,.int .i64 ((x0).length:Int)),(11,.int .i64 (p.1:Int))]) (fun(p:Nat×(List TyD))=>[imm (TR.sl TrD) v0 x0]) (fun(p:Nat×(List TyD))=>p.1+p.2.length=(x0).length∧List.drop p.1 x0=p.2∧z2w (z4w x0) p.2 p.1 ()=some y30) (fun(p:Nat×(List TyD))=>p.2.length) (0,x0) ⟨by simp,by simp,h32⟩ (fun a w st=>St.cut [0] ⟨rfl,rfl,rfl,rfl,trivial⟩ (by decide) rfl st) ?_)
  rintro⟨i37,r38⟩ ⟨h43,h44,h42⟩
  try dsimp only at h43 h44 h42
  refine GL.weak (env':=[(0,v0),(9,v0),(10,.int .i64 ((x0).length:Int)),(11,.int .i64 (i37:Int))]) (L':=[imm (TR.sl TrD) v0 x0]) ss (GL.seq (GL.region (RL.binI (v:=.bool (decide ((i37:Int)<((x0).length:Int)))) rfl rfl rfl rfl rfl (RL.finG (GL.seq (GL.cond rfl (fun b45=>?_) (fun b45=>?_)))))))
  ·have h46:i37<(x0).length:=by have:=of_decide_eq_true b45;omega
   obtain⟨y47,r49,hr,e48,h50⟩:=z48 h44 rfl h46
   subst hr
   obtain⟨z39,h40,h41⟩:=z2x h42
   unfold z4w at h40
   try dsimp only at h40
   refine GL.skip (GL.seq (GL.block (GL.seq (GL.region (RL.mv rfl rfl rfl (RL.idxS (sz:=6) 0 Tryz.underlying85 zu rfl rfl rfl rfl rfl SlOf.imm (by omega) (by omega) (RL.ldS (i:=i37) (r:=TrD) (e':=y47) 0 zu rfl rfl rfl rfl SlOf.imm e48 Part.self ?_)))))))
   intro v53
   refine RL.alloc (t:=TrD) (z:=(([]:B8),([]:B8),(0:Int),(0:Int),(0:Int),(0:Int))) z49 (fun S=>⟨[.string ⟨#[]⟩],_,rfl,rfl,⟨[.string ⟨#[]⟩],_,rfl,rfl,⟨[.int .i64 0],_,rfl,rfl,⟨[.int .i64 0],_,rfl,rfl,⟨[.int .i64 0],_,rfl,rfl,rfl⟩⟩⟩⟩⟩) rfl rfl rfl ?_
   intro v54
   refine RL.reL (L':=[imm (TR.sl TrD) v0 x0,imm TrD v53 y47,obox 28 TrD v54 (([]:B8),([]:B8),(0:Int),(0:Int),(0:Int),(0:Int))]) rfl (RL.asg rfl rfl rfl (RL.stP (off:=0) (e':=y47) (d1:=y47) (r:=TrD) 2 zu rfl rfl oi rfl (VR.item 1 rfl) rfl Upd.self (RL.finG (GL.seq (GL.seq (GL.region (RL.ldP (off:=0) (r:=TrD) (e':=y47) 2 zu rfl rfl oi rfl PtOf.obox Part.self ?_)))))))
   intro v58
   refine RL.reL (L':=[imm (TR.sl TrD) v0 x0,imm TrD v53 y47,obox 28 TrD v54 y47,imm TrD v58 y47]) rfl ?_
   obtain⟨y59,e60,h40⟩:=z7 h40
   refine RL.callV (v:=.int .i64 y59) (vs:=[v58]) zbl rfl ol rfl rfl rfl rfl (fun U w hU hW hL=>z80 U w hU _ _ (hL 3 _ _ rfl Seen.imm) _ e60) (RL.asg rfl rfl rfl (RL.finG (GL.seq (GL.region (RL.mv rfl rfl rfl (RL.binI (v:=.bool (y59 != (0:Int))) rfl rfl rfl rfl rfl (RL.finG ?_)))))))
   refine GL.cond rfl (fun b61=>?_) (fun b61=>?_)
   ·replace h40:=z13 b61 h40
    refine GL.seq (GL.region (RL.mv rfl rfl rfl (RL.asg rfl rfl rfl (RL.finG ?_))))
    cases h40
    replace h41:some (Fl.rt _)=some y30:=h41
    cases h41
    have hh:=h35 _ h33
    subst hh
    exact GL.ret (Gx.ret (v:=.int .i64 y59) (res1 rfl rfl) (fun a w st=>st.toPostV))
   replace h40:=z14 b61 h40
   refine GL.skip (GL.seq (GL.regionQ rfl rfl (by kernel_rfl) (RL.mv rfl rfl rfl (RL.mv rfl rfl rfl ?_))))
   obtain⟨y67,e68,h40⟩:=z7 h40
   replace e68:=z15 e68
   refine RL.slc (t:=TrD) (i:=0) (j:=((i37:Int)).toNat) (sz:=6) 0 Tryz.underlying85 zu rfl rfl rfl rfl (Or.inl ⟨rfl,rfl⟩) (Or.inr ⟨_,_,rfl,by rw[Int.toNat_of_nonneg (by omega)];rfl⟩) rfl (by omega) (by omega) ?_
   intro v69
   refine RL.fadr (off:=0) (fo:=0) 2 z3u rfl rfl rfl PtOf.obox oi (RL.ldPx (off:=(0+0)) (e':=y47.1) 2 Ex.str zh rfl rfl ol rfl PtOf.obox (Part.fst Part.self) (RL.fadr (off:=0) (fo:=2) 2 z3t rfl rfl rfl PtOf.obox oi (RL.ldPx (off:=(0+2)) (e':=y47.2.2.1) 2 Ex.ik zd rfl rfl ol rfl PtOf.obox (Part.snd (Part.snd (Part.fst Part.self))) ?_)))
   obtain⟨y70,e71,h40⟩:=z7 h40
   refine RL.callV (v:=.int .i64 y70) (vs:=[v69,(sv y47.1),.int .i64 y47.2.2.1]) zbk rfl (Or.inr ⟨_,rfl⟩) rfl rfl rfl rfl (fun U w hU hW hL=>z9f U w hU _ _ (hL 4 _ _ rfl Seen.imm) y47.1 y47.2.2.1 _ e71) (RL.binI (v:=.bool (decide (y70≥(0:Int)))) rfl rfl rfl rfl rfl (RL.finQG (GL.cond rfl (fun b72=>?_) (fun b72=>?_))))
   ·replace h40:=z13 b72 h40
    refine GL.seq (GL.region (RL.asg rfl rfl rfl (RL.finG ?_)))
    cases h40
    replace h41:some (Fl.rt _)=some y30:=h41
    cases h41
    have hh:=h35 _ h33
    subst hh
    exact GL.ret (Gx.ret (v:=.int .i64 (7:Int)) (res1 rfl rfl) (fun a w st=>st.toPostV))
   replace h40:=z14 b72 h40
   refine GL.skip (GL.nilB (GL.region (RL.binI (v:=.int .i64 ((i37+1:Nat):Int)) rfl rfl rfl rfl (binI_succ i37 (by omega)) (RL.mv rfl rfl rfl (RL.fin ?_)))))
   cases h40
   exact fun a w st=>z1l (i37+1,r49) ⟨by show i37+1+r49.length=(x0).length;simp only[List.length_cons] at h43;omega,h50,h41⟩ (by simp) (st.cu [0])
  have h46:¬ i37<(x0).length:=by have:=of_decide_eq_false b45;omega
  obtain rfl:r38=[]:=by rw[← h44];exact List.drop_of_length_le (by omega)
  replace h42:some (Fl.nx _)=some y30:=h42
  cases h42
  exact GL.exit (fun a w st=>ze () h33 (st.cu []))
 rintro⟨⟩ h73
 have h74:=h34 _ h73
 try dsimp only at h74
 refine GL.weak (env':=[]) (L':=[]) ss (GL.seq (GL.region (RL.asg rfl rfl rfl (RL.finG ?_))))
 have h74:=Option.some.inj h74
 subst h74
 exact GL.ret (Gx.ret (v:=.int .i64 (0:Int)) (res1 rfl rfl) (fun a w st=>st.toPostV))
theorem z1g(S:Hp)(w:World)(hS:S.sub w)(v0:Value)(x0:List TyD)(k0:(TR.sl TrD).vrep S v0 x0)(res:List TyD)(hm:zq x0=some res):Calls Tryz.prog 54 #[v0] w (Post w S (fun(o:Value)=>o) (fun(o:Value)=>[own 28 TrD o res])):=by
  refine zi 8 Tryz.func54 Tryz.ntmps54 rfl S false [(0,v0)] [imm (TR.sl TrD) v0 x0] rfl ⟨rfl,trivial⟩ hS ⟨k0,trivial⟩ ?_
  unfold zq at hm
  obtain⟨_,hc,hm⟩:=z7 hm
  replace hc:=z15 hc
  have hm:=Option.some.inj hm
  subst hm
  refine GL.seq (GL.region (RL.asg rfl rfl rfl (RL.finG (GL.seq (GL.seq (GL.region ?_))))))
  refine RL.mv rfl rfl rfl (RL.eqNil 0 Tryz.underlying85 rfl rfl rfl rfl rfl SlOf.imm (fun b hb=>?_))
  refine RL.finG (GL.cond rfl (fun h=>?_) (fun h=>?_))
  · have:=hb h
    subst this
    refine GL.seq (GL.region (RL.asg rfl rfl rfl (RL.finG ?_)))
    refine GL.weak (fun a w st=>st.nilOwn 28 TrD) ?_
    exact GL.ret (Gx.ret (v:=Value.slice none 0 0) (res1 rfl rfl) (fun a w st=>(st.pick [1] (by decide) rfl).toPost (Value.slice none 0 0)))
  · refine GL.skip (GL.seq (GL.region ?_))
    refine RL.bS (t:=TrD) (vs:=[]) ([]:List TyD) Tryz.underlying85 z49 rfl rfl rfl rfl trivial rfl (by decide) ?_
    intro v1
    refine RL.mv rfl rfl rfl (RL.appB 1 0 Tryz.underlying85 z49 rfl rfl rfl rfl rfl rfl rfl SlOf.imm (zby.of (N:=2199023255552) zae (by decide) (by decide)) (by simpa using hc) ?_)
    intro v2
    refine RL.asg rfl rfl rfl (RL.finG ?_)
    exact GL.ret (Gx.ret (v:=v2) (res1 rfl rfl) (fun a w st=>(st.pick [1] (by decide) rfl).toPost v2))
theorem queue_Add_c(S:Hp)(w:World)(hS:S.sub w)(v0:Value)(x0:(List TyD))(k0:((TR.sl TrD)).vrep S v0 x0)(v1:Value)(x1:TyD)(k1:(TrD).vrep S v1 x1)(res:(List TyD)×Int)(hm:z7i x0 x1=some res):Calls Tryz.prog 40 #[v0,v1] w (Post w S (fun(o:Value)=>.tuple #[o,.int .i64 res.2]) (fun(o:Value)=>[own 28 TrD o res.1])):=by
 refine zi 51 Tryz.func40 Tryz.ntmps40 rfl S false [(0,v0),(1,v1)] [imm (TR.sl TrD) v0 x0,imm TrD v1 x1] rfl ⟨rfl,⟨rfl,trivial⟩⟩ hS ⟨k0,⟨k1,trivial⟩⟩ ?_
 unfold z7i at hm
 refine GL.seq (GL.region (RL.box (t:=TrD) (e:=x1) rfl rfl rfl rfl (VR.item 1 rfl) ?_))
 intro v4
 refine RL.asg rfl rfl rfl (RL.asg rfl rfl rfl (RL.finG (GL.seq (GL.seq (GL.region (RL.mv rfl rfl rfl ?_))))))
 obtain⟨y7,e8,hm⟩:=z7 hm
 refine RL.callV (v:=.int .i64 y7) (vs:=[v0]) z9z rfl ol rfl rfl rfl rfl (fun U w hU hW hL=>z6s U w hU _ _ (hL 0 _ _ rfl Seen.imm) _ e8) (RL.asg rfl rfl rfl (RL.finG (GL.seq (GL.region (RL.mv rfl rfl rfl (RL.binI (v:=.bool (y7 != (0:Int))) rfl rfl rfl rfl rfl (RL.finG ?_)))))))
 refine GL.cond rfl (fun b9=>?_) (fun b9=>?_)
 ·replace hm:=z13 b9 hm
  refine GL.seq (GL.region (RL.mv rfl rfl rfl (RL.asg rfl rfl rfl (RL.asg rfl rfl rfl (RL.finG (GL.weak (fun a w st=>st.nilOwn 28 TrD) ?_))))))
  have hm:=Option.some.inj hm
  subst hm
  exact GL.ret (Gx.ret (v:=.tuple #[Value.slice none 0 0,.int .i64 y7]) (res2 rfl rfl rfl) (fun a w st=>(st.pick [3] (by decide) rfl).toPost (Value.slice none 0 0)))
 replace hm:=z14 b9 hm
 refine GL.skip (GL.seq (GL.seq (GL.region (RL.ldP (off:=0) (r:=TrD) (e':=x1) 2 zu rfl rfl oi rfl PtOf.obox Part.self ?_))))
 intro v13
 refine RL.reL (L':=[imm (TR.sl TrD) v0 x0,imm TrD v1 x1,obox 28 TrD v4 x1,imm TrD v13 x1]) rfl ?_
 obtain⟨y14,e15,hm⟩:=z7 hm
 refine RL.callV (v:=.int .i64 y14) (vs:=[v13]) zbl rfl ol rfl rfl rfl rfl (fun U w hU hW hL=>z80 U w hU _ _ (hL 3 _ _ rfl Seen.imm) _ e15) (RL.asg rfl rfl rfl (RL.finG (GL.seq (GL.region (RL.mv rfl rfl rfl (RL.binI (v:=.bool (y14 != (0:Int))) rfl rfl rfl rfl rfl (RL.finG ?_)))))))
 refine GL.cond rfl (fun b16=>?_) (fun b16=>?_)
 ·replace hm:=z13 b16 hm
  refine GL.seq (GL.region (RL.mv rfl rfl rfl (RL.asg rfl rfl rfl (RL.asg rfl rfl rfl (RL.finG (GL.weak (fun a w st=>st.nilOwn 28 TrD) ?_))))))
  have hm:=Option.some.inj hm
  subst hm
  exact GL.ret (Gx.ret (v:=.tuple #[Value.slice none 0 0,.int .i64 y14]) (res2 rfl rfl rfl) (fun a w st=>(st.pick [4] (by decide) rfl).toPost (Value.slice none 0 0)))
 replace hm:=z14 b16 hm
 refine GL.skip (GL.seq (GL.seq (GL.region (RL.mv rfl rfl rfl (RL.fadr (off:=0) (fo:=0) 2 z3u rfl rfl rfl PtOf.obox oi (RL.ldPx (off:=(0+0)) (e':=x1.1) 2 Ex.str zh rfl rfl ol rfl PtOf.obox (Part.fst Part.self) (RL.fadr (off:=0) (fo:=2) 2 z3t rfl rfl rfl PtOf.obox oi ?_)))))))
 refine RL.ldPx (off:=(0+2)) (e':=x1.2.2.1) 2 Ex.ik zd rfl rfl ol rfl PtOf.obox (Part.snd (Part.snd (Part.fst Part.self))) ?_
 obtain⟨y19,e20,hm⟩:=z7 hm
 refine RL.callV (v:=.int .i64 y19) (vs:=[v0,(sv x1.1),.int .i64 x1.2.2.1]) zbk rfl ol rfl rfl rfl rfl (fun U w hU hW hL=>z9f U w hU _ _ (hL 0 _ _ rfl Seen.imm) x1.1 x1.2.2.1 _ e20) (RL.asg rfl rfl rfl (RL.finG (GL.seq (GL.region (RL.mv rfl rfl rfl (RL.binI (v:=.bool (decide (y19≥(0:Int)))) rfl rfl rfl rfl rfl (RL.finG ?_)))))))
 refine GL.cond rfl (fun b21=>?_) (fun b21=>?_)
 ·replace hm:=z13 b21 hm
  refine GL.seq (GL.seq (GL.regionQ rfl rfl (by kernel_rfl) (RL.fadr (off:=0) (fo:=4) 2 z2i rfl rfl rfl PtOf.obox oi (RL.ldPx (off:=(0+4)) (e':=x1.2.2.2.2.1) 2 Ex.ik zd rfl rfl ol rfl PtOf.obox (Part.snd (Part.snd (Part.snd (Part.snd (Part.fst Part.self))))) (RL.mv rfl rfl rfl (RL.mv rfl rfl rfl ?_))))))
  obtain⟨y24,e25,hm⟩:=z7 hm
  refine RL.idxS (sz:=6) 0 Tryz.underlying85 zu rfl rfl rfl rfl rfl SlOf.imm (z8 e25).1 (z8 e25).2.1 (RL.fadrS (off:=((y19).toNat*6)) (fo:=4) 0 z2i rfl rfl rfl SlOf.imm (by have:=(List.getElem?_eq_some_iff.1 (z8 e25).2.2).1;(try dsimp only at this ⊢);omega) rfl ?_)
  refine RL.ldSx (i:=(y19).toNat) (e':=y24.2.2.2.2.1) 0 Ex.ik zd rfl rfl rfl rfl SlOf.imm (z8 e25).2.2 (Part.snd (Part.snd (Part.snd (Part.snd (Part.fst Part.self))))) (RL.binI (v:=.bool (decide (x1.2.2.2.2.1≤y24.2.2.2.2.1))) rfl rfl rfl rfl rfl (RL.finQG (GL.cond rfl (fun b26=>?_) (fun b26=>?_))))
  ·replace hm:=z13 b26 hm
   refine GL.seq (GL.region (RL.asg rfl rfl rfl (RL.asg rfl rfl rfl (RL.finG (GL.weak (fun a w st=>st.nilOwn 28 TrD) ?_)))))
   have hm:=Option.some.inj hm
   subst hm
   exact GL.ret (Gx.ret (v:=.tuple #[Value.slice none 0 0,.int .i64 (7:Int)]) (res2 rfl rfl rfl) (fun a w st=>(st.pick [4] (by decide) rfl).toPost (Value.slice none 0 0)))
  replace hm:=z14 b26 hm
  refine GL.skip (GL.seq (GL.region (RL.mv rfl rfl rfl ?_)))
  obtain⟨y30,e31,hm⟩:=z7 hm
  refine RL.call (vs:=[v0]) z72 rfl rfl rfl rfl rfl (fun S f w hS hW hi=>z1g S w hS _ _ (hi 0 _ rfl) _ e31) ?_
  intro v32
  refine RL.asg rfl rfl rfl (RL.finG (GL.seq (GL.region (RL.mv rfl rfl rfl (RL.mv rfl rfl rfl (RL.ldP (off:=0) (r:=TrD) (e':=x1) 2 zu rfl rfl oi rfl PtOf.obox Part.self ?_))))))
  intro v36
  refine RL.reL (L':=[imm (TR.sl TrD) v0 x0,imm TrD v1 x1,obox 28 TrD v4 x1,imm TrD v13 x1,own 28 TrD v32 y30,imm TrD v36 x1]) rfl ?_
  obtain⟨y37,e38,hm⟩:=z7 hm
  refine RL.idxS (sz:=6) 4 Tryz.underlying85 zu rfl rfl rfl rfl rfl SlOf.own (z8 e38).1 (z8 e38).2.1 (RL.stS (i:=(y19).toNat) (e':=x1) (e1:=x1) (r:=TrD) 4 zu rfl rfl rfl rfl (VR.item 5 rfl) rfl (z8 e38).2.2 Upd.self (RL.finG (GL.seq (GL.region (RL.mv rfl rfl rfl (RL.asg rfl rfl rfl (RL.asg rfl rfl rfl ?_)))))))
  refine RL.finG ?_
  have hm:=Option.some.inj hm
  subst hm
  exact GL.ret (Gx.ret (v:=.tuple #[v32,.int .i64 (0:Int)]) (res2 rfl rfl rfl) (fun a w st=>(st.pick [4] (by decide) rfl).toPost v32))
 replace hm:=z14 b21 hm
 refine GL.skip (GL.seq (GL.seq (GL.region (RL.mv rfl rfl rfl (RL.lenS 0 Tryz.underlying85 rfl rfl rfl rfl SlOf.imm (RL.binI (v:=.bool (((x0).length:Int)==(20:Int))) rfl rfl rfl rfl rfl (RL.finG ?_)))))))
 refine GL.cond rfl (fun b39=>?_) (fun b39=>?_)
 ·replace hm:=z13 b39 hm
  refine GL.seq (GL.region (RL.asg rfl rfl rfl (RL.asg rfl rfl rfl (RL.finG (GL.weak (fun a w st=>st.nilOwn 28 TrD) ?_)))))
  have hm:=Option.some.inj hm
  subst hm
  exact GL.ret (Gx.ret (v:=.tuple #[Value.slice none 0 0,.int .i64 (8:Int)]) (res2 rfl rfl rfl) (fun a w st=>(st.pick [4] (by decide) rfl).toPost (Value.slice none 0 0)))
 replace hm:=z14 b39 hm
 refine GL.skip (GL.seq (GL.regionA rfl rfl (RA.mv 0 rfl (by kernel_rfl) rfl rfl rfl ?_)))
 obtain⟨y65,e66,hm⟩:=z7 hm
 refine RA.meet (ι:=Value×Value) (fun(p:Value×Value)=>[(47,p.1),(49,p.2)]) (fun(p:Value×Value)=>[own 28 TrD p.1 y65,own 28 TrD p.2 ([x1]:(List TyD))]) 3 q_84 (fun h75=>?_) ?_
 ·skip
  refine RA.meet (ι:=Value) (fun(p:Value)=>[(46,v0),(49,p)]) (fun(p:Value)=>[imm (TR.sl TrD) v0 x0,own 28 TrD p ([x1]:(List TyD))]) 4 q_85 (fun h76=>?_) ?_
  rotate_left
  ·rintro v73
   refine RA.weak (env':=[(46,v0),(49,v73)]) (L':=[imm (TR.sl TrD) v0 x0,own 28 TrD v73 ([x1]:(List TyD))]) ss (RA.seq 1 rfl (by kernel_rfl) (RL.call (vs:=[v0]) z72 rfl rfl rfl rfl rfl (fun S f w hS hW hi=>z1g S w hS _ _ (hi 0 _ rfl) _ e66) ?_))
   intro v86
   refine RL.fin (RA.next (RA.rl 3 q_84 ?_))
   exact fun a w st=>h75 (v86,v73) a w (st.cu [2,1])
  refine RA.meet (ι:=Value×Value) (fun(p:Value×Value)=>[(47,p.1),(48,p.2)]) (fun(p:Value×Value)=>[own 28 TrD p.1 y65,imm TrD p.2 x1]) 4 q_86 (fun h77=>?_) ?_
  rotate_left
  ·rintro⟨v70,v72⟩
   refine RA.weak (env':=[(47,v70),(48,v72)]) (L':=[own 28 TrD v70 y65,imm TrD v72 x1]) ss (RA.seq 3 rfl (by kernel_rfl) (RL.bS (t:=TrD) (vs:=[v72]) ([x1]:(List TyD)) Tryz.underlying85 z49 rfl rfl rfl rfl ⟨(VR.item 1 rfl),trivial⟩ rfl (by decide) ?_))
   intro v85
   refine RL.fin (RA.next (RA.rl 3 q_84 ?_))
   exact fun a w st=>h75 (v70,v85) a w (st.cu [0,2])
  refine RA.meet (ι:=Value) (fun(p:Value)=>[(3,v4),(47,p)]) (fun(p:Value)=>[obox 28 TrD v4 x1,own 28 TrD p y65]) 5 q_87 (fun h78=>?_) ?_
  rotate_left
  ·rintro v70
   refine RA.weak (env':=[(3,v4),(47,v70)]) (L':=[obox 28 TrD v4 x1,own 28 TrD v70 y65]) ss (RA.seq 2 rfl (by kernel_rfl) (RL.ldP (off:=0) (r:=TrD) (e':=x1) 0 zu rfl rfl oi rfl PtOf.obox Part.self ?_))
   intro v84
   refine RL.fin (RA.next (RA.rl 4 q_86 ?_))
   exact fun a w st=>h77 (v70,v84) a w (st.cu [1,2])
  refine RA.meet (ι:=Value) (fun(p:Value)=>[(46,v0),(48,p)]) (fun(p:Value)=>[imm (TR.sl TrD) v0 x0,imm TrD p x1]) 5 q_88 (fun h79=>?_) ?_
  rotate_left
  ·rintro v71
   refine RA.weak (env':=[(46,v0),(48,v71)]) (L':=[imm (TR.sl TrD) v0 x0,imm TrD v71 x1]) ss (RA.many [1,3] (by kernel_rfl) ⟨⟨_,rfl,?_⟩,⟨_,rfl,?_⟩,trivial⟩)
   ·skip
    refine RL.call (vs:=[v0]) z72 rfl rfl rfl rfl rfl (fun S f w hS hW hi=>z1g S w hS _ _ (hi 0 _ rfl) _ e66) ?_
    intro v82
    refine RL.fin (RA.next (RA.rl 4 q_86 ?_))
    exact fun a w st=>h77 (v82,v71) a w (st.cu [2,1])
   refine RL.bS (t:=TrD) (vs:=[v71]) ([x1]:(List TyD)) Tryz.underlying85 z49 rfl rfl rfl rfl ⟨(VR.item 1 rfl),trivial⟩ rfl (by decide) ?_
   intro v83
   refine RL.fin (RA.next (RA.rl 4 q_85 ?_))
   exact fun a w st=>h76 v83 a w (st.cu [0,2])
  refine RA.many [1,2] (by kernel_rfl) ⟨⟨_,rfl,?_⟩,⟨_,rfl,?_⟩,trivial⟩
  ·skip
   refine RL.call (vs:=[v0]) z72 rfl rfl rfl rfl rfl (fun S f w hS hW hi=>z1g S w hS _ _ (hi 0 _ rfl) _ e66) ?_
   intro v80
   refine RL.fin (RA.next (RA.rl 5 q_87 ?_))
   exact fun a w st=>h78 v80 a w (st.cu [2,4])
  refine RL.ldP (off:=0) (r:=TrD) (e':=x1) 2 zu rfl rfl oi rfl PtOf.obox Part.self ?_
  intro v81
  refine RL.fin (RA.next (RA.rl 5 q_88 ?_))
  exact fun a w st=>h79 v81 a w (st.cu [0,4])
 rintro⟨v74,v73⟩
 refine RA.weak (env':=[(47,v74),(49,v73)]) (L':=[own 28 TrD v74 y65,own 28 TrD v73 ([x1]:(List TyD))]) ss (RA.seq 4 rfl (by kernel_rfl) ?_)
 obtain⟨y87,e88,hm⟩:=z7 hm
 replace e88:=z15 e88
 refine RL.app 0 1 Tryz.underlying85 z49 rfl rfl rfl rfl rfl rfl rfl SlOf.own e88 ?_
 intro v89
 refine RL.fin (RA.next (RA.quiet 5 rfl rfl (by kernel_rfl) ?_))
 simp only[List.drop_succ_cons,List.drop_zero]
 refine RL.asg rfl rfl rfl (RL.asg rfl rfl rfl (RL.finQ (RA.outQ (GL.weak (env':=[(4,v89),(5,.int .i64 (0:Int))]) (L':=[own 28 TrD v89 (y65++([x1]:(List TyD)))]) (fun a w st=>St.cut [0] ⟨rfl,rfl,trivial⟩ (by decide) rfl st) ?_))))
 have hm:=Option.some.inj hm
 subst hm
 exact GL.ret (Gx.ret (v:=.tuple #[v89,.int .i64 (0:Int)]) (res2 rfl rfl rfl) (fun a w st=>(st.pick [0] (by decide) rfl).toPost v89))
theorem za1(S:Hp)(w:World)(hS:S.sub w)(v0:Value)(x0:TyA)(k0:(TrA).vrep S v0 x0)(v1:Value)(x1:B8)(k1:((TR.ptr TR.str)).vrep S v1 x1)(res:Bool)(hm:z2o x0 x1=some res):Calls Tryz.prog 65 #[v0,v1] w (z45 w (.bool res)):=by
 refine zi 8 Tryz.func65 Tryz.ntmps65 rfl S false [(0,v0),(1,v1)] [imm TrA v0 x0,imm (TR.ptr TR.str) v1 x1] rfl ⟨rfl,⟨rfl,trivial⟩⟩ hS ⟨k0,⟨k1,trivial⟩⟩ ?_
 unfold z2o at hm
 refine GL.seq (GL.region (RL.box (t:=TrA) (e:=x0) rfl rfl rfl rfl (VR.item 0 rfl) ?_))
 intro v4
 refine RL.asg rfl rfl rfl (RL.finG (GL.seq (GL.region (RL.fadr (off:=0) (fo:=0) 2 z3r rfl rfl rfl PtOf.obox oi (RL.ldPx (off:=(0+0)) (e':=x0.1) 2 Ex.str zh rfl rfl ol rfl PtOf.obox (Part.fst Part.self) (RL.ldPx (off:=0) (e':=x1) 1 Ex.str zh rfl rfl oi rfl PtOf.imm Part.self (RL.binS (v:=.bool (x0.1==x1)) rfl rfl rfl rfl rfl ?_)))))))
 refine RL.asg rfl rfl rfl (RL.finG ?_)
 have hm:=Option.some.inj hm
 subst hm
 exact GL.ret (Gx.ret (v:=.bool (x0.1==x1)) (res1 rfl rfl) (fun a w st=>st.toPostV))
theorem z7t(S:Hp)(w:World)(hS:S.sub w)(v0:Value)(x0:TyH)(k0:((TR.ptr (TR.pair (TR.sl TrA) (TR.pair (TR.sl TrD) (TR.ptr TrL))))).vrep S v0 x0)(x1:B8)(res:Int)(hm:z2j x0 x1=some res):Calls Tryz.prog 45 #[v0,(sv x1)] w (z45 w (.int .i64 res)):=by
 refine zi 11 Tryz.func45 Tryz.ntmps45 rfl S false [(0,v0),(1,(sv x1))] [imm (TR.ptr (TR.pair (TR.sl TrA) (TR.pair (TR.sl TrD) (TR.ptr TrL)))) v0 x0] rfl ⟨rfl,⟨rfl,trivial⟩⟩ hS ⟨k0,trivial⟩ ?_
 unfold z2j at hm
 refine GL.seq (GL.region (RL.box (t:=TR.str) (e:=x1) rfl rfl rfl rfl VR.str ?_))
 intro v4
 refine RL.asg rfl rfl rfl (RL.finG (GL.seq (GL.region (RL.mv rfl rfl rfl (RL.nilk 0 rfl rfl rfl rfl PtOf.imm (RL.fadr (off:=0) (fo:=0) 0 z3s rfl rfl rfl PtOf.imm oi (RL.ldP (off:=(0+0)) (r:=(TR.sl TrA)) (e':=x0.1) 0 z4b rfl rfl ol rfl PtOf.imm (Part.fst Part.self) ?_)))))))
 intro v8
 refine RL.reL (L':=[imm (TR.ptr (TR.pair (TR.sl TrA) (TR.pair (TR.sl TrD) (TR.ptr TrL)))) v0 x0,obox 9 TR.str v4 x1,imm (TR.sl TrA) v8 x0.1]) rfl (RL.mkF (vs:=[v4]) rfl rfl rfl ?_)
 obtain⟨y9,e10,hm⟩:=z7 hm
 refine RL.callV (v:=.int .i64 y9) (vs:=[v8,.func (.func 65) #[] #[v4]]) zbi rfl ol rfl rfl rfl rfl (fun U w hU hW hL=>z1u U w hU _ _ (hL 2 _ _ rfl Seen.imm) 65 #[v4] Tryz_fit65 (fun a0=>z2o a0 x1) (fun U' w' hle hU' u0 a0 q0 rr hr=>(za1 U' w' hU' u0 a0 q0 _ _ (TR.vrep_mono hle (hL 1 _ _ rfl Seen.obox)) rr hr).mono (fun _ _ z=>z)) _ e10) (RL.asg rfl rfl rfl (RL.finG ?_))
 have hm:=Option.some.inj hm
 subst hm
 exact GL.ret (Gx.ret (v:=.int .i64 y9) (res1 rfl rfl) (fun a w st=>st.toPostV))
theorem z8w(S:Hp)(w:World)(hS:S.sub w)(v0:Value)(x0:(List TyA))(k0:((TR.sl TrA)).vrep S v0 x0)(v1:Value)(x1:TyD)(k1:(TrD).vrep S v1 x1)(x2:B8)(res:(List TyA)×Int)(hm:z1k x0 x1 x2=some res):Calls Tryz.prog 63 #[v0,v1,(sv x2)] w (Post w S (fun(o:Value)=>.tuple #[o,.int .i64 res.2]) (fun(o:Value)=>[own 94 TrA o res.1])):=by
 refine zi 111 Tryz.func63 Tryz.ntmps63 rfl S false [(0,v0),(1,v1),(2,(sv x2))] [imm (TR.sl TrA) v0 x0,imm TrD v1 x1] rfl ⟨rfl,⟨rfl,⟨rfl,trivial⟩⟩⟩ hS ⟨k0,⟨k1,trivial⟩⟩ ?_
 unfold z1k at hm
 refine GL.seq (GL.region (RL.box (t:=TrD) (e:=x1) rfl rfl rfl rfl (VR.item 1 rfl) ?_))
 intro v5
 refine RL.asg rfl rfl rfl (RL.asg rfl rfl rfl (RL.finG (GL.seq (GL.seq (GL.region (RL.mv rfl rfl rfl ?_))))))
 obtain⟨y8,e9,hm⟩:=z7 hm
 refine RL.callV (v:=.int .i64 y8) (vs:=[v0]) z8g rfl ol rfl rfl rfl rfl (fun U w hU hW hL=>z4x U w hU _ _ (hL 0 _ _ rfl Seen.imm) _ e9) (RL.asg rfl rfl rfl (RL.finG (GL.seq (GL.region (RL.mv rfl rfl rfl (RL.binI (v:=.bool (y8 != (0:Int))) rfl rfl rfl rfl rfl (RL.finG ?_)))))))
 refine GL.cond rfl (fun b10=>?_) (fun b10=>?_)
 ·replace hm:=z13 b10 hm
  refine GL.seq (GL.region (RL.mv rfl rfl rfl (RL.asg rfl rfl rfl (RL.asg rfl rfl rfl (RL.finG (GL.weak (fun a w st=>st.nilOwn 94 TrA) ?_))))))
  have hm:=Option.some.inj hm
  subst hm
  exact GL.ret (Gx.ret (v:=.tuple #[Value.slice none 0 0,.int .i64 y8]) (res2 rfl rfl rfl) (fun a w st=>(st.pick [3] (by decide) rfl).toPost (Value.slice none 0 0)))
 replace hm:=z14 b10 hm
 refine GL.skip (GL.seq (GL.seq (GL.region (RL.ldP (off:=0) (r:=TrD) (e':=x1) 2 zu rfl rfl oi rfl PtOf.obox Part.self ?_))))
 intro v14
 refine RL.reL (L':=[imm (TR.sl TrA) v0 x0,imm TrD v1 x1,obox 28 TrD v5 x1,imm TrD v14 x1]) rfl ?_
 obtain⟨y15,e16,hm⟩:=z7 hm
 refine RL.callV (v:=.int .i64 y15) (vs:=[v14]) zbl rfl ol rfl rfl rfl rfl (fun U w hU hW hL=>z80 U w hU _ _ (hL 3 _ _ rfl Seen.imm) _ e16) (RL.asg rfl rfl rfl (RL.finG (GL.seq (GL.region (RL.mv rfl rfl rfl (RL.binI (v:=.bool (y15 != (0:Int))) rfl rfl rfl rfl rfl (RL.finG ?_)))))))
 refine GL.cond rfl (fun b17=>?_) (fun b17=>?_)
 ·replace hm:=z13 b17 hm
  refine GL.seq (GL.region (RL.mv rfl rfl rfl (RL.asg rfl rfl rfl (RL.asg rfl rfl rfl (RL.finG (GL.weak (fun a w st=>st.nilOwn 94 TrA) ?_))))))
  have hm:=Option.some.inj hm
  subst hm
  exact GL.ret (Gx.ret (v:=.tuple #[Value.slice none 0 0,.int .i64 y15]) (res2 rfl rfl rfl) (fun a w st=>(st.pick [4] (by decide) rfl).toPost (Value.slice none 0 0)))
 replace hm:=z14 b17 hm
 refine GL.skip (GL.seq (GL.regionQ rfl rfl (by kernel_rfl) (RL.mv rfl rfl rfl (RL.fadr (off:=0) (fo:=0) 2 z3u rfl rfl rfl PtOf.obox oi (RL.ldPx (off:=(0+0)) (e':=x1.1) 2 Ex.str zh rfl rfl ol rfl PtOf.obox (Part.fst Part.self) ?_)))))
 obtain⟨y24,e25,hm⟩:=z7 hm
 refine RL.callV (v:=.int .i64 y24) (vs:=[v0,(sv x1.1)]) z9x rfl (Or.inr ⟨_,rfl⟩) rfl rfl rfl rfl (fun U w hU hW hL=>z6t U w hU _ _ (hL 0 _ _ rfl Seen.imm) x1.1 _ e25) (RL.mv rfl rfl rfl (RL.fadr (off:=0) (fo:=1) 2 z7r rfl rfl rfl PtOf.obox oi (RL.ldPx (off:=(0+1)) (e':=x1.2.1) 2 Ex.str zh rfl rfl ol rfl PtOf.obox (Part.snd (Part.fst Part.self)) ?_)))
 obtain⟨y26,e27,hm⟩:=z7 hm
 refine RL.callV (v:=.int .i64 y26) (vs:=[v0,(sv x1.2.1)]) z9x rfl (Or.inr ⟨_,rfl⟩) rfl rfl rfl rfl (fun U w hU hW hL=>z6t U w hU _ _ (hL 0 _ _ rfl Seen.imm) x1.2.1 _ e27) (RL.mv rfl rfl rfl (RL.mv rfl rfl rfl ?_))
 obtain⟨y28,e29,hm⟩:=z7 hm
 refine RL.callV (v:=.int .i64 y28) (vs:=[v0,(sv x2)]) z9x rfl (Or.inr ⟨_,rfl⟩) rfl rfl rfl rfl (fun U w hU hW hL=>z6t U w hU _ _ (hL 0 _ _ rfl Seen.imm) x2 _ e29) (RL.asg rfl rfl rfl (RL.asg rfl rfl rfl (RL.asg rfl rfl rfl (RL.finQG (GL.seq (GL.seq ?_))))))
 obtain⟨y35,K36,h37,h38,h39,h40,h41⟩:=z1z hm
 refine GL.join (ι:=Bool) (fun(p:Bool)=>[(0,v0),(4,v5),(10,.int .i64 y24),(11,.int .i64 y26),(12,.int .i64 y28),(44,.bool p)]) (fun(p:Bool)=>[imm (TR.sl TrA) v0 x0,obox 28 TrD v5 x1]) (fun(p:Bool)=>K36 (.nx p)) ?_ ?_
 ·skip
  refine GL.region (RL.mv rfl rfl rfl (RL.binI (v:=.bool (decide (y24<(0:Int)))) rfl rfl rfl rfl rfl (RL.mv rfl rfl rfl (RL.split (t:=37) rfl (fun b42=>?_) (fun b42=>?_)))))
  ·replace h37:=z13 b42 h37
   refine RL.skip rfl rfl (RL.skip rfl rfl (RL.pickT rfl rfl rfl rfl (RL.mv rfl rfl rfl (RL.skip rfl rfl (RL.skip rfl rfl (RL.pickT rfl rfl rfl rfl (RL.fin ?_)))))))
   cases h37
   exact fun a w st=>ze true h38 (st.cu [0,2])
  replace h37:=z14 b42 h37
  refine RL.mv rfl rfl rfl (RL.binI (v:=.bool (decide (y26<(0:Int)))) rfl rfl rfl rfl rfl (RL.pickF rfl rfl rfl rfl (RL.mv rfl rfl rfl (RL.split (t:=41) rfl (fun b43=>?_) (fun b43=>?_)))))
  ·replace h37:=z13 b43 h37
   refine RL.skip rfl rfl (RL.skip rfl rfl (RL.pickT rfl rfl rfl rfl (RL.fin ?_)))
   cases h37
   exact fun a w st=>ze true h38 (st.cu [0,2])
  replace h37:=z14 b43 h37
  refine RL.mv rfl rfl rfl (RL.binI (v:=.bool (decide (y28<(0:Int)))) rfl rfl rfl rfl rfl (RL.pickF rfl rfl rfl rfl (RL.fin ?_)))
  cases h37
  exact fun a w st=>ze (decide (y28<(0:Int))) h38 (st.cu [0,2])
 rintro x34 h44
 have h45:=h39 _ h44
 try dsimp only at h45
 refine GL.weak (env':=[(0,v0),(4,v5),(10,.int .i64 y24),(11,.int .i64 y26),(12,.int .i64 y28),(44,.bool x34)]) (L':=[imm (TR.sl TrA) v0 x0,obox 28 TrD v5 x1]) ss (GL.cond rfl (fun b46=>?_) (fun b46=>?_))
 ·replace h45:=z13 b46 h45
  refine GL.seq (GL.region (RL.asg rfl rfl rfl (RL.asg rfl rfl rfl (RL.finG (GL.weak (fun a w st=>st.nilOwn 94 TrA) ?_)))))
  have h45:=Option.some.inj h45
  subst h45
  exact GL.ret (Gx.ret (v:=.tuple #[Value.slice none 0 0,.int .i64 (4:Int)]) (res2 rfl rfl rfl) (fun a w st=>(st.pick [2] (by decide) rfl).toPost (Value.slice none 0 0)))
 replace h45:=z14 b46 h45
 refine GL.skip (GL.seq (GL.seq (GL.regionQ rfl rfl (by kernel_rfl) (RL.fadr (off:=0) (fo:=2) 1 z3t rfl rfl rfl PtOf.obox oi (RL.ldPx (off:=(0+2)) (e':=x1.2.2.1) 1 Ex.ik zd rfl rfl ol rfl PtOf.obox (Part.snd (Part.snd (Part.fst Part.self))) (RL.mv rfl rfl rfl (RL.mv rfl rfl rfl ?_)))))))
 obtain⟨y49,e50,h45⟩:=z7 h45
 refine RL.idxS (sz:=3) 0 Tryz.underlying84 z1m rfl rfl rfl rfl rfl SlOf.imm (z8 e50).1 (z8 e50).2.1 (RL.fadrS (off:=((y24).toNat*3)) (fo:=2) 0 z4g rfl rfl rfl SlOf.imm (by have:=(List.getElem?_eq_some_iff.1 (z8 e50).2.2).1;(try dsimp only at this ⊢);omega) rfl ?_)
 refine RL.ldSx (i:=(y24).toNat) (e':=y49.2.2) 0 Ex.ik zd rfl rfl rfl rfl SlOf.imm (z8 e50).2.2 (Part.snd (Part.snd Part.self)) (RL.binI (v:=.bool (x1.2.2.1 != y49.2.2)) rfl rfl rfl rfl rfl (RL.finQG (GL.cond rfl (fun b51=>?_) (fun b51=>?_))))
 ·replace h45:=z13 b51 h45
  refine GL.seq (GL.region (RL.asg rfl rfl rfl (RL.asg rfl rfl rfl (RL.finG (GL.weak (fun a w st=>st.nilOwn 94 TrA) ?_)))))
  have h45:=Option.some.inj h45
  subst h45
  exact GL.ret (Gx.ret (v:=.tuple #[Value.slice none 0 0,.int .i64 (6:Int)]) (res2 rfl rfl rfl) (fun a w st=>(st.pick [2] (by decide) rfl).toPost (Value.slice none 0 0)))
 replace h45:=z14 b51 h45
 refine GL.skip (GL.seq (GL.seq (GL.regionQ rfl rfl (by kernel_rfl) (RL.mv rfl rfl rfl (RL.mv rfl rfl rfl ?_)))))
 obtain⟨y54,e55,h45⟩:=z7 h45
 refine RL.idxS (sz:=3) 0 Tryz.underlying84 z1m rfl rfl rfl rfl rfl SlOf.imm (z8 e55).1 (z8 e55).2.1 (RL.fadrS (off:=((y24).toNat*3)) (fo:=1) 0 z2s rfl rfl rfl SlOf.imm (by have:=(List.getElem?_eq_some_iff.1 (z8 e55).2.2).1;(try dsimp only at this ⊢);omega) rfl ?_)
 refine RL.ldSx (i:=(y24).toNat) (e':=y54.2.1) 0 Ex.ik zd rfl rfl rfl rfl SlOf.imm (z8 e55).2.2 (Part.snd (Part.fst Part.self)) (RL.fadr (off:=0) (fo:=3) 1 z5c rfl rfl rfl PtOf.obox oi (RL.ldPx (off:=(0+3)) (e':=x1.2.2.2.1) 1 Ex.ik zd rfl rfl ol rfl PtOf.obox (Part.snd (Part.snd (Part.snd (Part.fst Part.self)))) (RL.fadr (off:=0) (fo:=4) 1 z2i rfl rfl rfl PtOf.obox oi (RL.ldPx (off:=(0+4)) (e':=x1.2.2.2.2.1) 1 Ex.ik zd rfl rfl ol rfl PtOf.obox (Part.snd (Part.snd (Part.snd (Part.snd (Part.fst Part.self))))) (RL.binI (v:=.int .i64 (wadd x1.2.2.2.1 x1.2.2.2.2.1)) rfl rfl rfl rfl rfl (RL.binI (v:=.bool (decide (y54.2.1<(wadd x1.2.2.2.1 x1.2.2.2.2.1)))) rfl rfl rfl rfl rfl (RL.finQG ?_)))))))
 refine GL.cond rfl (fun b56=>?_) (fun b56=>?_)
 ·replace h45:=z13 b56 h45
  refine GL.seq (GL.region (RL.asg rfl rfl rfl (RL.asg rfl rfl rfl (RL.finG (GL.weak (fun a w st=>st.nilOwn 94 TrA) ?_)))))
  have h45:=Option.some.inj h45
  subst h45
  exact GL.ret (Gx.ret (v:=.tuple #[Value.slice none 0 0,.int .i64 (11:Int)]) (res2 rfl rfl rfl) (fun a w st=>(st.pick [2] (by decide) rfl).toPost (Value.slice none 0 0)))
 replace h45:=z14 b56 h45
 refine GL.skip (GL.seq (GL.region (RL.mv rfl rfl rfl ?_)))
 obtain⟨y60,e61,h45⟩:=z7 h45
 refine RL.call (vs:=[v0]) zey rfl rfl rfl rfl rfl (fun S f w hS hW hi=>z2k S w hS _ _ (hi 0 _ rfl) _ e61) ?_
 intro v62
 refine RL.asg rfl rfl rfl (RL.finG (GL.seq (GL.regionH 13 rfl rfl (by kernel_rfl) ?_)))
 simp only[List.take_succ_cons,List.take_zero,List.drop_succ_cons,List.drop_zero]
 refine RL.mv rfl rfl rfl (RL.mv rfl rfl rfl ?_)
 obtain⟨y67,e68,h45⟩:=z7 h45
 refine RL.idxS (sz:=3) 2 Tryz.underlying84 z1m rfl rfl rfl rfl rfl SlOf.own (z8 e68).1 (z8 e68).2.1 (RL.fadrS (off:=((y24).toNat*3)) (fo:=1) 2 z2s rfl rfl rfl SlOf.own (by have:=(List.getElem?_eq_some_iff.1 (z8 e68).2.2).1;(try dsimp only at this ⊢);omega) rfl ?_)
 refine RL.ldSx (i:=(y24).toNat) (e':=y67.2.1) 2 Ex.ik zd rfl rfl rfl rfl SlOf.own (z8 e68).2.2 (Part.snd (Part.fst Part.self)) (RL.fadr (off:=0) (fo:=3) 1 z5c rfl rfl rfl PtOf.obox oi (RL.ldPx (off:=(0+3)) (e':=x1.2.2.2.1) 1 Ex.ik zd rfl rfl ol rfl PtOf.obox (Part.snd (Part.snd (Part.snd (Part.fst Part.self)))) (RL.fadr (off:=0) (fo:=4) 1 z2i rfl rfl rfl PtOf.obox oi (RL.ldPx (off:=(0+4)) (e':=x1.2.2.2.2.1) 1 Ex.ik zd rfl rfl ol rfl PtOf.obox (Part.snd (Part.snd (Part.snd (Part.snd (Part.fst Part.self))))) (RL.binI (v:=.int .i64 (wadd x1.2.2.2.1 x1.2.2.2.2.1)) rfl rfl rfl rfl rfl (RL.binI (v:=.int .i64 (wsub y67.2.1 (wadd x1.2.2.2.1 x1.2.2.2.2.1))) rfl rfl rfl rfl rfl ?_))))))
 obtain⟨y69,e70,h45⟩:=z7 h45
 refine RL.idxS (sz:=3) 2 Tryz.underlying84 z1m rfl rfl rfl rfl rfl SlOf.own (z8 e70).1 (z8 e70).2.1 (RL.fadrS (off:=((y24).toNat*3)) (fo:=1) 2 z2s rfl rfl rfl SlOf.own (by have:=(List.getElem?_eq_some_iff.1 (z8 e70).2.2).1;(try dsimp only at this ⊢);omega) rfl ?_)
 refine RL.finH (RL.stS (i:=(y24).toNat) (e':=wsub y67.2.1 (wadd x1.2.2.2.1 x1.2.2.2.2.1)) (e1:=(y69.1,(wsub y67.2.1 (wadd x1.2.2.2.1 x1.2.2.2.2.1),y69.2.2))) (r:=TR.int) 2 zd rfl rfl rfl rfl VR.int rfl (z8 e70).2.2 (Upd.snd (Upd.fst Upd.self)) (RL.reL (L':=[imm (TR.sl TrA) v0 x0,obox 28 TrD v5 x1,own 94 TrA v62 (List.set y60 ((y24).toNat) (y69.1,(wsub y67.2.1 (wadd x1.2.2.2.1 x1.2.2.2.2.1),y69.2.2)))]) rfl (RL.finG (GL.seq (GL.region (RL.mv rfl rfl rfl (RL.mv rfl rfl rfl ?_)))))))
 obtain⟨y75,e76,h45⟩:=z7 h45
 refine RL.idxS (sz:=3) 2 Tryz.underlying84 z1m rfl rfl rfl rfl rfl SlOf.own (z8 e76).1 (z8 e76).2.1 (RL.fadrS (off:=((y24).toNat*3)) (fo:=2) 2 z4g rfl rfl rfl SlOf.own (by have:=(List.getElem?_eq_some_iff.1 (z8 e76).2.2).1;(try dsimp only at this ⊢);omega) rfl ?_)
 refine RL.ldSx (i:=(y24).toNat) (e':=y75.2.2) 2 Ex.ik zd rfl rfl rfl rfl SlOf.own (z8 e76).2.2 (Part.snd (Part.snd Part.self)) (RL.binI (v:=.int .i64 (wadd y75.2.2 (1:Int))) rfl rfl rfl rfl rfl ?_)
 obtain⟨y77,e78,h45⟩:=z7 h45
 refine RL.idxS (sz:=3) 2 Tryz.underlying84 z1m rfl rfl rfl rfl rfl SlOf.own (z8 e78).1 (z8 e78).2.1 (RL.fadrS (off:=((y24).toNat*3)) (fo:=2) 2 z4g rfl rfl rfl SlOf.own (by have:=(List.getElem?_eq_some_iff.1 (z8 e78).2.2).1;(try dsimp only at this ⊢);omega) rfl ?_)
 refine RL.stS (i:=(y24).toNat) (e':=wadd y75.2.2 (1:Int)) (e1:=(y77.1,(y77.2.1,wadd y75.2.2 (1:Int)))) (r:=TR.int) 2 zd rfl rfl rfl rfl VR.int rfl (z8 e78).2.2 (Upd.snd (Upd.snd Upd.self)) (RL.finG (GL.seq (GL.regionH 10 rfl rfl (by kernel_rfl) ?_)))
 simp only[List.take_succ_cons,List.take_zero,List.drop_succ_cons,List.drop_zero]
 refine RL.mv rfl rfl rfl (RL.mv rfl rfl rfl ?_)
 obtain⟨y83,e84,h45⟩:=z7 h45
 refine RL.idxS (sz:=3) 2 Tryz.underlying84 z1m rfl rfl rfl rfl rfl SlOf.own (z8 e84).1 (z8 e84).2.1 (RL.fadrS (off:=((y26).toNat*3)) (fo:=1) 2 z2s rfl rfl rfl SlOf.own (by have:=(List.getElem?_eq_some_iff.1 (z8 e84).2.2).1;(try dsimp only at this ⊢);omega) rfl ?_)
 refine RL.ldSx (i:=(y26).toNat) (e':=y83.2.1) 2 Ex.ik zd rfl rfl rfl rfl SlOf.own (z8 e84).2.2 (Part.snd (Part.fst Part.self)) (RL.fadr (off:=0) (fo:=3) 1 z5c rfl rfl rfl PtOf.obox oi (RL.ldPx (off:=(0+3)) (e':=x1.2.2.2.1) 1 Ex.ik zd rfl rfl ol rfl PtOf.obox (Part.snd (Part.snd (Part.snd (Part.fst Part.self)))) (RL.binI (v:=.int .i64 (wadd y83.2.1 x1.2.2.2.1)) rfl rfl rfl rfl rfl ?_)))
 obtain⟨y85,e86,h45⟩:=z7 h45
 refine RL.idxS (sz:=3) 2 Tryz.underlying84 z1m rfl rfl rfl rfl rfl SlOf.own (z8 e86).1 (z8 e86).2.1 (RL.fadrS (off:=((y26).toNat*3)) (fo:=1) 2 z2s rfl rfl rfl SlOf.own (by have:=(List.getElem?_eq_some_iff.1 (z8 e86).2.2).1;(try dsimp only at this ⊢);omega) rfl ?_)
 refine RL.finH (RL.stS (i:=(y26).toNat) (e':=wadd y83.2.1 x1.2.2.2.1) (e1:=(y85.1,(wadd y83.2.1 x1.2.2.2.1,y85.2.2))) (r:=TR.int) 2 zd rfl rfl rfl rfl VR.int rfl (z8 e86).2.2 (Upd.snd (Upd.fst Upd.self)) (RL.reL (L':=[imm (TR.sl TrA) v0 x0,obox 28 TrD v5 x1,own 94 TrA v62 (List.set (List.set (List.set y60 ((y24).toNat) (y69.1,(wsub y67.2.1 (wadd x1.2.2.2.1 x1.2.2.2.2.1),y69.2.2))) ((y24).toNat) (y77.1,(y77.2.1,wadd y75.2.2 (1:Int)))) ((y26).toNat) (y85.1,(wadd y83.2.1 x1.2.2.2.1,y85.2.2)))]) rfl (RL.finG (GL.seq (GL.regionH 10 rfl rfl (by kernel_rfl) ?_)))))
 simp only[List.take_succ_cons,List.take_zero,List.drop_succ_cons,List.drop_zero]
 refine RL.mv rfl rfl rfl (RL.mv rfl rfl rfl ?_)
 obtain⟨y91,e92,h45⟩:=z7 h45
 refine RL.idxS (sz:=3) 2 Tryz.underlying84 z1m rfl rfl rfl rfl rfl SlOf.own (z8 e92).1 (z8 e92).2.1 (RL.fadrS (off:=((y28).toNat*3)) (fo:=1) 2 z2s rfl rfl rfl SlOf.own (by have:=(List.getElem?_eq_some_iff.1 (z8 e92).2.2).1;(try dsimp only at this ⊢);omega) rfl ?_)
 refine RL.ldSx (i:=(y28).toNat) (e':=y91.2.1) 2 Ex.ik zd rfl rfl rfl rfl SlOf.own (z8 e92).2.2 (Part.snd (Part.fst Part.self)) (RL.fadr (off:=0) (fo:=4) 1 z2i rfl rfl rfl PtOf.obox oi (RL.ldPx (off:=(0+4)) (e':=x1.2.2.2.2.1) 1 Ex.ik zd rfl rfl ol rfl PtOf.obox (Part.snd (Part.snd (Part.snd (Part.snd (Part.fst Part.self))))) (RL.binI (v:=.int .i64 (wadd y91.2.1 x1.2.2.2.2.1)) rfl rfl rfl rfl rfl ?_)))
 obtain⟨y93,e94,h45⟩:=z7 h45
 refine RL.idxS (sz:=3) 2 Tryz.underlying84 z1m rfl rfl rfl rfl rfl SlOf.own (z8 e94).1 (z8 e94).2.1 (RL.fadrS (off:=((y28).toNat*3)) (fo:=1) 2 z2s rfl rfl rfl SlOf.own (by have:=(List.getElem?_eq_some_iff.1 (z8 e94).2.2).1;(try dsimp only at this ⊢);omega) rfl ?_)
 refine RL.finH (RL.stS (i:=(y28).toNat) (e':=wadd y91.2.1 x1.2.2.2.2.1) (e1:=(y93.1,(wadd y91.2.1 x1.2.2.2.2.1,y93.2.2))) (r:=TR.int) 2 zd rfl rfl rfl rfl VR.int rfl (z8 e94).2.2 (Upd.snd (Upd.fst Upd.self)) (RL.finG (GL.seq (GL.seq (GL.region (RL.mv rfl rfl rfl ?_))))))
 obtain⟨y97,e98,h45⟩:=z7 h45
 refine RL.callV (v:=.int .i64 y97) (vs:=[v62]) z8g rfl ol rfl rfl rfl rfl (fun U w hU hW hL=>z4x U w hU _ _ (hL 2 _ _ rfl Seen.own) _ e98) (RL.binI (v:=.bool (y97 != (0:Int))) rfl rfl rfl rfl rfl (RL.finG (GL.cond rfl (fun b99=>?_) (fun b99=>?_))))
 ·replace h45:=z13 b99 h45
  refine GL.seq (GL.region (RL.asg rfl rfl rfl (RL.asg rfl rfl rfl (RL.finG (GL.weak (fun a w st=>st.nilOwn 94 TrA) ?_)))))
  have h45:=Option.some.inj h45
  subst h45
  exact GL.ret (Gx.ret (v:=.tuple #[Value.slice none 0 0,.int .i64 (8:Int)]) (res2 rfl rfl rfl) (fun a w st=>(st.pick [3] (by decide) rfl).toPost (Value.slice none 0 0)))
 replace h45:=z14 b99 h45
 refine GL.skip (GL.seq (GL.region (RL.mv rfl rfl rfl (RL.asg rfl rfl rfl (RL.asg rfl rfl rfl (RL.finG ?_))))))
 have h45:=Option.some.inj h45
 subst h45
 exact GL.ret (Gx.ret (v:=.tuple #[v62,.int .i64 (0:Int)]) (res2 rfl rfl rfl) (fun a w st=>(st.pick [2] (by decide) rfl).toPost v62))
theorem zdd(S:Hp)(w:World)(hS:S.sub w)(v0:Value)(x0:(List TyD))(k0:((TR.sl TrD)).vrep S v0 x0)(v1:Value)(x1:(List TyA))(k1:((TR.sl TrA)).vrep S v1 x1)(x2:B8)(x3:Int)(res:Int×Int)(hm:z5w x0 x1 x2 x3=some res):Calls Tryz.prog 77 #[v0,v1,(sv x2),.int .i64 x3] w (z45 w (.tuple #[.int .i64 res.1,.int .i64 res.2])):=by
 refine zi 79 Tryz.func77 Tryz.ntmps77 rfl S false [(0,v0),(1,v1),(2,(sv x2)),(3,.int .i64 x3)] [imm (TR.sl TrD) v0 x0,imm (TR.sl TrA) v1 x1] rfl ⟨rfl,⟨rfl,⟨rfl,⟨rfl,trivial⟩⟩⟩⟩ hS ⟨k0,⟨k1,trivial⟩⟩ ?_
 unfold z5w at hm
 refine GL.seq (GL.region (RL.asg rfl rfl rfl (RL.asg rfl rfl rfl (RL.finG (GL.seq (GL.seq (GL.region ?_)))))))
 refine RL.mv rfl rfl rfl ?_
 obtain⟨y7,e8,hm⟩:=z7 hm
 refine RL.callV (v:=.int .i64 y7) (vs:=[v0]) z9z rfl ol rfl rfl rfl rfl (fun U w hU hW hL=>z6s U w hU _ _ (hL 0 _ _ rfl Seen.imm) _ e8) (RL.asg rfl rfl rfl (RL.finG (GL.seq (GL.region (RL.mv rfl rfl rfl (RL.binI (v:=.bool (y7 != (0:Int))) rfl rfl rfl rfl rfl (RL.finG ?_)))))))
 refine GL.cond rfl (fun b9=>?_) (fun b9=>?_)
 ·replace hm:=z13 b9 hm
  refine GL.seq (GL.region (RL.mv rfl rfl rfl (RL.asg rfl rfl rfl (RL.asg rfl rfl rfl (RL.finG ?_)))))
  have hm:=Option.some.inj hm
  subst hm
  exact GL.ret (Gx.ret (v:=.tuple #[.int .i64 (0:Int),.int .i64 y7]) (res2 rfl rfl rfl) (fun a w st=>st.toPostV))
 replace hm:=z14 b9 hm
 refine GL.skip (GL.seq (GL.seq (GL.region (RL.mv rfl rfl rfl ?_))))
 obtain⟨y12,e13,hm⟩:=z7 hm
 refine RL.callV (v:=.int .i64 y12) (vs:=[v1]) z8g rfl ol rfl rfl rfl rfl (fun U w hU hW hL=>z4x U w hU _ _ (hL 1 _ _ rfl Seen.imm) _ e13) (RL.asg rfl rfl rfl (RL.finG (GL.seq (GL.region (RL.mv rfl rfl rfl (RL.binI (v:=.bool (y12 != (0:Int))) rfl rfl rfl rfl rfl (RL.finG ?_)))))))
 refine GL.cond rfl (fun b14=>?_) (fun b14=>?_)
 ·replace hm:=z13 b14 hm
  refine GL.seq (GL.region (RL.mv rfl rfl rfl (RL.asg rfl rfl rfl (RL.asg rfl rfl rfl (RL.finG ?_)))))
  have hm:=Option.some.inj hm
  subst hm
  exact GL.ret (Gx.ret (v:=.tuple #[.int .i64 (0:Int),.int .i64 y12]) (res2 rfl rfl rfl) (fun a w st=>st.toPostV))
 replace hm:=z14 b14 hm
 refine GL.skip (GL.seq (GL.seq ?_))
 obtain⟨y18,K19,h20,h21,h22,h23,h24⟩:=z1z hm
 refine GL.join (ι:=Bool) (fun(p:Bool)=>[(0,v0),(1,v1),(2,(sv x2)),(3,.int .i64 x3),(32,.bool p)]) (fun(p:Bool)=>[imm (TR.sl TrD) v0 x0,imm (TR.sl TrA) v1 x1]) (fun(p:Bool)=>K19 (.nx p)) ?_ ?_
 ·skip
  refine GL.region (RL.mv rfl rfl rfl (RL.binI (v:=.bool (decide (x3<(0:Int)))) rfl rfl rfl rfl rfl (RL.mv rfl rfl rfl (RL.split (t:=29) rfl (fun b25=>?_) (fun b25=>?_)))))
  ·replace h20:=z13 b25 h20
   refine RL.skip rfl rfl (RL.skip rfl rfl (RL.pickT rfl rfl rfl rfl (RL.fin ?_)))
   cases h20
   exact fun a w st=>ze true h21 (st.cu [0,1])
  replace h20:=z14 b25 h20
  refine RL.mv rfl rfl rfl (RL.binI (v:=.bool (decide (x3>(1000:Int)))) rfl rfl rfl rfl rfl (RL.pickF rfl rfl rfl rfl (RL.fin ?_)))
  cases h20
  exact fun a w st=>ze (decide (x3>(1000:Int))) h21 (st.cu [0,1])
 rintro x17 h26
 have h27:=h22 _ h26
 try dsimp only at h27
 refine GL.weak (env':=[(0,v0),(1,v1),(2,(sv x2)),(3,.int .i64 x3),(32,.bool x17)]) (L':=[imm (TR.sl TrD) v0 x0,imm (TR.sl TrA) v1 x1]) ss (GL.cond rfl (fun b28=>?_) (fun b28=>?_))
 ·replace h27:=z13 b28 h27
  refine GL.seq (GL.region (RL.asg rfl rfl rfl (RL.asg rfl rfl rfl (RL.finG ?_))))
  have h27:=Option.some.inj h27
  subst h27
  exact GL.ret (Gx.ret (v:=.tuple #[.int .i64 (0:Int),.int .i64 (1:Int)]) (res2 rfl rfl rfl) (fun a w st=>st.toPostV))
 replace h27:=z14 b28 h27
 refine GL.skip (GL.seq (GL.region (RL.asg rfl rfl rfl (RL.finG (GL.seq (GL.seq (GL.region ?_)))))))
 refine RL.mv rfl rfl rfl (RL.lenS 0 Tryz.underlying85 rfl rfl rfl rfl SlOf.imm (RL.mv rfl rfl rfl (RL.finG (GL.open_ 0 rfl (fun S h=>z77 S h) (fun n74=>?_)))))
 obtain⟨y75,K76,h77,h78,h79,h80,h81⟩:=z1z h27
 refine GL.join (ι:=Int) (fun(p:Int)=>[(12,.int .i64 p)]) (fun(p:Int)=>[]) (fun(p:Int)=>K76 (.nx p)) ?_ ?_
 ·refine GL.block (GL.loop (ι:=Nat×(List TyD)×Int) (fun(p:Nat×(List TyD)×Int)=>[(0,v0),(1,v1),(2,(sv x2)),(3,.int .i64 x3),(12,.int .i64 p.2.2),(33,v0),(34,.int .i64 ((x0).length:Int)),(35,.int .i64 (p.1:Int))]) (fun(p:Nat×(List TyD)×Int)=>[imm (TR.sl TrD) v0 x0,imm (TR.sl TrA) v1 x1]) (fun(p:Nat×(List TyD)×Int)=>p.1+p.2.1.length=(x0).length∧List.drop p.1 x0=p.2.1∧z2w (z7p x3 x1 x2 x0) p.2.1 p.1 p.2.2=some y75) (fun(p:Nat×(List TyD)×Int)=>p.2.1.length) (0,x0,(-1:Int)) ⟨by simp,by simp,h77⟩ (fun a w st=>St.cut [0,1] ⟨rfl,rfl,rfl,rfl,rfl,rfl,rfl,rfl,trivial⟩ (by decide) rfl st) ?_)
  rintro⟨i82,r83,x29⟩ ⟨h88,h89,h87⟩
  try dsimp only at h88 h89 h87
  refine GL.weak (env':=[(0,v0),(1,v1),(2,(sv x2)),(3,.int .i64 x3),(12,.int .i64 x29),(33,v0),(34,.int .i64 ((x0).length:Int)),(35,.int .i64 (i82:Int))]) (L':=[imm (TR.sl TrD) v0 x0,imm (TR.sl TrA) v1 x1]) ss (GL.seq (GL.region (RL.binI (v:=.bool (decide ((i82:Int)<((x0).length:Int)))) rfl rfl rfl rfl rfl (RL.finG (GL.seq (GL.cond rfl (fun b90=>?_) (fun b90=>?_)))))))
  ·have h91:i82<(x0).length:=by have:=of_decide_eq_true b90;omega
   obtain⟨y92,r94,hr,e93,h95⟩:=z48 h89 rfl h91
   subst hr
   obtain⟨z84,h85,h86⟩:=z2x h87
   unfold z7p at h85
   try dsimp only at h85
   refine GL.skip (GL.seq (GL.block (GL.seq (GL.region (RL.mv rfl rfl rfl (RL.idxS (sz:=6) 0 Tryz.underlying85 zu rfl rfl rfl rfl rfl SlOf.imm (by omega) (by omega) (RL.ldS (i:=i82) (r:=TrD) (e':=y92) 0 zu rfl rfl rfl rfl SlOf.imm e93 Part.self ?_)))))))
   intro v98
   refine RL.alloc (t:=TrD) (z:=(([]:B8),([]:B8),(0:Int),(0:Int),(0:Int),(0:Int))) z49 (fun S=>⟨[.string ⟨#[]⟩],_,rfl,rfl,⟨[.string ⟨#[]⟩],_,rfl,rfl,⟨[.int .i64 0],_,rfl,rfl,⟨[.int .i64 0],_,rfl,rfl,⟨[.int .i64 0],_,rfl,rfl,rfl⟩⟩⟩⟩⟩) rfl rfl rfl ?_
   intro v99
   refine RL.reL (L':=[imm (TR.sl TrD) v0 x0,imm (TR.sl TrA) v1 x1,imm TrD v98 y92,obox 28 TrD v99 (([]:B8),([]:B8),(0:Int),(0:Int),(0:Int),(0:Int))]) rfl (RL.asg rfl rfl rfl (RL.stP (off:=0) (e':=y92) (d1:=y92) (r:=TrD) 3 zu rfl rfl oi rfl (VR.item 2 rfl) rfl Upd.self (RL.finG (GL.seq (GL.seq (GL.region (RL.fadr (off:=0) (fo:=5) 3 z4h rfl rfl rfl PtOf.obox oi ?_)))))))
   refine RL.ldPx (off:=(0+5)) (e':=y92.2.2.2.2.2) 3 Ex.ik zd rfl rfl ol rfl PtOf.obox (Part.snd (Part.snd (Part.snd (Part.snd (Part.snd Part.self))))) (RL.mv rfl rfl rfl (RL.binI (v:=.bool (decide (y92.2.2.2.2.2>x3))) rfl rfl rfl rfl rfl (RL.finG (GL.cond rfl (fun b100=>?_) (fun b100=>?_)))))
   ·replace h85:=z13 b100 h85
    refine GL.exit (Gx.here (GL.region (RL.binI (v:=.int .i64 ((i82+1:Nat):Int)) rfl rfl rfl rfl (binI_succ i82 (by omega)) (RL.mv rfl rfl rfl (RL.fin ?_)))))
    cases h85
    exact fun a w st=>z1l (i82+1,r94,x29) ⟨by show i82+1+r94.length=(x0).length;simp only[List.length_cons] at h88;omega,h95,h86⟩ (by simp) (st.cu [0,1])
   replace h85:=z14 b100 h85
   refine GL.skip (GL.seq (GL.seq (GL.region (RL.mv rfl rfl rfl (RL.ldP (off:=0) (r:=TrD) (e':=y92) 3 zu rfl rfl oi rfl PtOf.obox Part.self ?_)))))
   intro v105
   refine RL.reL (L':=[imm (TR.sl TrD) v0 x0,imm (TR.sl TrA) v1 x1,imm TrD v98 y92,obox 28 TrD v99 y92,imm TrD v105 y92]) rfl (RL.mv rfl rfl rfl ?_)
   obtain⟨y106,e107,h85⟩:=z7 h85
   refine RL.call (vs:=[v1,v105,(sv x2)]) zbj rfl rfl rfl rfl rfl (fun S f w hS hW hi=>z8w S w hS _ _ (hi 1 _ rfl) _ _ (hi 4 _ rfl) x2 _ e107) ?_
   intro v108
   refine RL.mv rfl rfl rfl (RL.ext rfl rfl rfl rfl (RL.ext rfl rfl rfl rfl (RL.asg rfl rfl rfl (RL.asg rfl rfl rfl (RL.finG (GL.seq (GL.region ?_)))))))
   refine RL.mv rfl rfl rfl (RL.binI (v:=.bool (y106.2 != (0:Int))) rfl rfl rfl rfl rfl (RL.finG (GL.cond rfl (fun b109=>?_) (fun b109=>?_))))
   ·replace h85:=z13 b109 h85
    refine GL.exit (Gx.here (GL.region (RL.binI (v:=.int .i64 ((i82+1:Nat):Int)) rfl rfl rfl rfl (binI_succ i82 (by omega)) (RL.mv rfl rfl rfl (RL.fin ?_)))))
    cases h85
    exact fun a w st=>z1l (i82+1,r94,x29) ⟨by show i82+1+r94.length=(x0).length;simp only[List.length_cons] at h88;omega,h95,h86⟩ (by simp) (st.cu [0,1])
   replace h85:=z14 b109 h85
   refine GL.skip (GL.seq ?_)
   obtain⟨y121,K122,h123,h124,h125,h126,h127⟩:=z78 h85
   refine GL.join (ι:=Bool) (fun(p:Bool)=>[(0,v0),(1,v1),(2,(sv x2)),(3,.int .i64 x3),(12,.int .i64 x29),(13,.int .i64 (i82:Int)),(33,v0),(34,.int .i64 ((x0).length:Int)),(35,.int .i64 (i82:Int)),(73,.bool p)]) (fun(p:Bool)=>[imm (TR.sl TrD) v0 x0,imm (TR.sl TrA) v1 x1]) (fun(p:Bool)=>K122 (.nx p)) ?_ ?_
   ·skip
    refine GL.regionQ rfl rfl (by kernel_rfl) (RL.mv rfl rfl rfl (RL.binI (v:=.bool (decide (x29<(0:Int)))) rfl rfl rfl rfl rfl (RL.mv rfl rfl rfl (RL.split (t:=55) rfl (fun b128=>?_) (fun b128=>?_)))))
    ·replace h123:=z13 b128 h123
     refine RL.skip rfl rfl (RL.skip rfl rfl (RL.skip rfl rfl (RL.skip rfl rfl (RL.skip rfl rfl (RL.skip rfl rfl (RL.skip rfl rfl (RL.skip rfl rfl ?_)))))))
     refine RL.skip rfl rfl (RL.skip rfl rfl (RL.skip rfl rfl (RL.skip rfl rfl (RL.skip rfl rfl (RL.skip rfl rfl (RL.skip rfl rfl (RL.skip rfl rfl ?_)))))))
     refine RL.skip rfl rfl (RL.pickT rfl rfl rfl rfl (RL.finQ ?_))
     cases h123
     exact fun a w st=>ze true h124 (st.cu [0,1])
    replace h123:=z14 b128 h123
    refine RL.fadr (off:=0) (fo:=4) 3 z2i rfl rfl rfl PtOf.obox oi (RL.ldPx (off:=(0+4)) (e':=y92.2.2.2.2.1) 3 Ex.ik zd rfl rfl ol rfl PtOf.obox (Part.snd (Part.snd (Part.snd (Part.snd (Part.fst Part.self))))) (RL.mv rfl rfl rfl (RL.mv rfl rfl rfl ?_)))
    obtain⟨y129,e130,h123⟩:=z7 h123
    refine RL.idxS (sz:=6) 0 Tryz.underlying85 zu rfl rfl rfl rfl rfl SlOf.imm (z8 e130).1 (z8 e130).2.1 (RL.fadrS (off:=((x29).toNat*6)) (fo:=5) 0 z4h rfl rfl rfl SlOf.imm (by have:=(List.getElem?_eq_some_iff.1 (z8 e130).2.2).1;(try dsimp only at this ⊢);omega) rfl ?_)
    refine RL.ldSx (i:=(x29).toNat) (e':=y129.2.2.2.2.2) 0 Ex.ik zd rfl rfl rfl rfl SlOf.imm (z8 e130).2.2 (Part.snd (Part.snd (Part.snd (Part.snd (Part.snd Part.self))))) (RL.binI (v:=.int .i64 (wmul y92.2.2.2.2.1 y129.2.2.2.2.2)) rfl rfl rfl rfl rfl (RL.mv rfl rfl rfl (RL.mv rfl rfl rfl ?_)))
    obtain⟨y131,e132,h123⟩:=z7 h123
    refine RL.idxS (sz:=6) 0 Tryz.underlying85 zu rfl rfl rfl rfl rfl SlOf.imm (z8 e132).1 (z8 e132).2.1 (RL.fadrS (off:=((x29).toNat*6)) (fo:=4) 0 z2i rfl rfl rfl SlOf.imm (by have:=(List.getElem?_eq_some_iff.1 (z8 e132).2.2).1;(try dsimp only at this ⊢);omega) rfl ?_)
    refine RL.ldSx (i:=(x29).toNat) (e':=y131.2.2.2.2.1) 0 Ex.ik zd rfl rfl rfl rfl SlOf.imm (z8 e132).2.2 (Part.snd (Part.snd (Part.snd (Part.snd (Part.fst Part.self))))) (RL.fadr (off:=0) (fo:=5) 3 z4h rfl rfl rfl PtOf.obox oi (RL.ldPx (off:=(0+5)) (e':=y92.2.2.2.2.2) 3 Ex.ik zd rfl rfl ol rfl PtOf.obox (Part.snd (Part.snd (Part.snd (Part.snd (Part.snd Part.self))))) (RL.binI (v:=.int .i64 (wmul y131.2.2.2.2.1 y92.2.2.2.2.2)) rfl rfl rfl rfl rfl (RL.binI (v:=.bool (decide ((wmul y92.2.2.2.2.1 y129.2.2.2.2.2)>(wmul y131.2.2.2.2.1 y92.2.2.2.2.2)))) rfl rfl rfl rfl rfl (RL.pickF rfl rfl rfl rfl (RL.finQ ?_))))))
    cases h123
    exact fun a w st=>ze (decide ((wmul y92.2.2.2.2.1 y129.2.2.2.2.2)>(wmul y131.2.2.2.2.1 y92.2.2.2.2.2))) h124 (st.cu [0,1])
   rintro x120 h133
   have h134:=h125 _ h133
   try dsimp only at h134
   refine GL.weak (env':=[(0,v0),(1,v1),(2,(sv x2)),(3,.int .i64 x3),(12,.int .i64 x29),(13,.int .i64 (i82:Int)),(33,v0),(34,.int .i64 ((x0).length:Int)),(35,.int .i64 (i82:Int)),(73,.bool x120)]) (L':=[imm (TR.sl TrD) v0 x0,imm (TR.sl TrA) v1 x1]) ss (GL.cond rfl (fun b135=>?_) (fun b135=>?_))
   ·replace h134:=z13 b135 h134
    refine GL.region (RL.mv rfl rfl rfl (RL.asg rfl rfl rfl (RL.finG (GL.nilB (GL.region (RL.binI (v:=.int .i64 ((i82+1:Nat):Int)) rfl rfl rfl rfl (binI_succ i82 (by omega)) (RL.mv rfl rfl rfl ?_)))))))
    refine RL.fin ?_
    cases h134
    exact fun a w st=>z1l (i82+1,r94,(i82:Int)) ⟨by show i82+1+r94.length=(x0).length;simp only[List.length_cons] at h88;omega,h95,h86⟩ (by simp) (st.cu [0,1])
   replace h134:=z14 b135 h134
   refine GL.skip (GL.nilB (GL.region (RL.binI (v:=.int .i64 ((i82+1:Nat):Int)) rfl rfl rfl rfl (binI_succ i82 (by omega)) (RL.mv rfl rfl rfl (RL.fin ?_)))))
   cases h134
   exact fun a w st=>z1l (i82+1,r94,x29) ⟨by show i82+1+r94.length=(x0).length;simp only[List.length_cons] at h88;omega,h95,h86⟩ (by simp) (st.cu [0,1])
  have h91:¬ i82<(x0).length:=by have:=of_decide_eq_false b90;omega
  obtain rfl:r83=[]:=by rw[← h89];exact List.drop_of_length_le (by omega)
  replace h87:some (Fl.nx _)=some y75:=h87
  cases h87
  exact GL.exit (fun a w st=>ze x29 h78 (st.cu []))
 rintro x29 h136
 have h137:=h79 _ h136
 try dsimp only at h137
 refine GL.weak (env':=[(12,.int .i64 x29)]) (L':=[]) ss (GL.seq (GL.seq (GL.region (RL.mv rfl rfl rfl (RL.binI (v:=.bool (decide (x29<(0:Int)))) rfl rfl rfl rfl rfl (RL.finG (GL.cond rfl (fun b138=>?_) (fun b138=>?_))))))))
 ·replace h137:=z13 b138 h137
  refine GL.seq (GL.region (RL.asg rfl rfl rfl (RL.asg rfl rfl rfl (RL.finG ?_))))
  have h137:=Option.some.inj h137
  subst h137
  exact GL.ret (Gx.ret (v:=.tuple #[.int .i64 (0:Int),.int .i64 (4:Int)]) (res2 rfl rfl rfl) (fun a w st=>st.toPostV))
 replace h137:=z14 b138 h137
 refine GL.skip (GL.seq (GL.region (RL.mv rfl rfl rfl (RL.asg rfl rfl rfl (RL.asg rfl rfl rfl (RL.finG ?_))))))
 have h137:=Option.some.inj h137
 subst h137
 exact GL.ret (Gx.ret (v:=.tuple #[.int .i64 x29,.int .i64 (0:Int)]) (res2 rfl rfl rfl) (fun a w st=>st.toPostV))
theorem pick_Build_c(S:Hp)(w:World)(hS:S.sub w)(v0:Value)(x0:(List TyD))(k0:((TR.sl TrD)).vrep S v0 x0)(v1:Value)(x1:(List TyA))(k1:((TR.sl TrA)).vrep S v1 x1)(x2:B8)(x3:Int)(res:(List Int)×(List TyA)×Int)(hm:z6c x0 x1 x2 x3=some res):Calls Tryz.prog 55 #[v0,v1,(sv x2),.int .i64 x3] w (Post w S (fun(o:Value×Value)=>.tuple #[o.1,o.2,.int .i64 res.2.2]) (fun(o:Value×Value)=>[own 3 TR.int o.1 res.1,own 94 TrA o.2 res.2.1])):=by
 refine zi 66 Tryz.func55 Tryz.ntmps55 rfl S false [(0,v0),(1,v1),(2,(sv x2)),(3,.int .i64 x3)] [imm (TR.sl TrD) v0 x0,imm (TR.sl TrA) v1 x1] rfl ⟨rfl,⟨rfl,⟨rfl,⟨rfl,trivial⟩⟩⟩⟩ hS ⟨k0,⟨k1,trivial⟩⟩ ?_
 unfold z6c at hm
 refine GL.seq (GL.region (RL.asg rfl rfl rfl (RL.asg rfl rfl rfl (RL.asg rfl rfl rfl (RL.finG (GL.seq (GL.region ?_)))))))
 refine RL.mv rfl rfl rfl (RL.mv rfl rfl rfl (RL.mv rfl rfl rfl (RL.mv rfl rfl rfl ?_)))
 obtain⟨y7,e8,hm⟩:=z7 hm
 refine RL.callV (v:=.tuple #[.int .i64 y7.1,.int .i64 y7.2]) (vs:=[v0,v1,(sv x2),.int .i64 x3]) zew rfl ol rfl rfl rfl rfl (fun U w hU hW hL=>zdd U w hU _ _ (hL 0 _ _ rfl Seen.imm) _ _ (hL 1 _ _ rfl Seen.imm) x2 x3 _ e8) (RL.mv rfl rfl rfl (RL.ext rfl rfl rfl rfl (RL.ext rfl rfl rfl rfl (RL.asg rfl rfl rfl (RL.asg rfl rfl rfl (RL.finG (GL.seq ?_)))))))
 refine GL.seq ?_
 obtain⟨y12,K13,h14,h15,h16,h17,h18⟩:=z1z hm
 refine GL.join (ι:=Bool) (fun(p:Bool)=>[(0,v0),(1,v1),(2,(sv x2)),(3,.int .i64 x3),(11,.int .i64 y7.1),(12,.int .i64 y7.2),(28,.bool p)]) (fun(p:Bool)=>[imm (TR.sl TrD) v0 x0,imm (TR.sl TrA) v1 x1]) (fun(p:Bool)=>K13 (.nx p)) ?_ ?_
 ·skip
  refine GL.region (RL.mv rfl rfl rfl (RL.binI (v:=.bool (y7.2 != (0:Int))) rfl rfl rfl rfl rfl (RL.mv rfl rfl rfl (RL.split (t:=25) rfl (fun b19=>?_) (fun b19=>?_)))))
  ·replace h14:=z13 b19 h14
   refine RL.mv rfl rfl rfl (RL.binI (v:=.bool (y7.2 != (4:Int))) rfl rfl rfl rfl rfl (RL.pickT rfl rfl rfl rfl (RL.fin ?_)))
   cases h14
   exact fun a w st=>ze (y7.2 != (4:Int)) h15 (st.cu [0,1])
  replace h14:=z14 b19 h14
  refine RL.skip rfl rfl (RL.skip rfl rfl (RL.pickF rfl rfl rfl rfl (RL.fin ?_)))
  cases h14
  exact fun a w st=>ze false h15 (st.cu [0,1])
 rintro x11 h20
 have h21:=h16 _ h20
 try dsimp only at h21
 refine GL.weak (env':=[(0,v0),(1,v1),(2,(sv x2)),(3,.int .i64 x3),(11,.int .i64 y7.1),(12,.int .i64 y7.2),(28,.bool x11)]) (L':=[imm (TR.sl TrD) v0 x0,imm (TR.sl TrA) v1 x1]) ss (GL.cond rfl (fun b22=>?_) (fun b22=>?_))
 ·replace h21:=z13 b22 h21
  refine GL.seq (GL.region (RL.mv rfl rfl rfl (RL.asg rfl rfl rfl (RL.asg rfl rfl rfl (RL.asg rfl rfl rfl (RL.finG (GL.weak (fun a w st=>st.nilOwn 3 TR.int) ?_)))))))
  refine GL.weak (fun a w st=>st.nilOwn 94 TrA) ?_
  have h21:=Option.some.inj h21
  subst h21
  exact GL.ret (Gx.ret (v:=.tuple #[Value.slice none 0 0,Value.slice none 0 0,.int .i64 y7.2]) (res3 rfl rfl rfl rfl) (fun a w st=>(st.pick [2,3] (by decide) rfl).toPost (Value.slice none 0 0,Value.slice none 0 0)))
 replace h21:=z14 b22 h21
 refine GL.skip (GL.seq (GL.region (RL.bS (t:=TrA) (vs:=[]) ([]:(List TyA)) Tryz.underlying84 z7d rfl rfl rfl rfl trivial rfl (by decide) ?_)))
 intro v27
 refine RL.mv rfl rfl rfl ?_
 obtain⟨y28,e29,h21⟩:=z7 h21
 replace e29:=z15 e29
 refine RL.app 2 1 Tryz.underlying84 z7d rfl rfl rfl rfl rfl rfl rfl SlOf.imm e29 ?_
 intro v30
 refine RL.reL (L':=[imm (TR.sl TrD) v0 x0,imm (TR.sl TrA) v1 x1,own 94 TrA v30 (([]:(List TyA))++x1)]) rfl (RL.asg rfl rfl rfl (RL.finG (GL.seq (GL.region (RL.asg rfl rfl rfl (RL.finG (GL.seq ?_)))))))
 refine GL.weak (fun a w st=>st.nilOwn 3 TR.int) ?_
 obtain⟨y67,K68,h69,h70,h71,h72,h73⟩:=z1z h21
 refine GL.join (ι:=Int×Int×Int×(List TyA)×(List Int)×Value×Value) (fun(p:Int×Int×Int×(List TyA)×(List Int)×Value×Value)=>[(13,p.2.2.2.2.2.1),(14,p.2.2.2.2.2.2)]) (fun(p:Int×Int×Int×(List TyA)×(List Int)×Value×Value)=>[own 94 TrA p.2.2.2.2.2.1 p.2.2.2.1,own 3 TR.int p.2.2.2.2.2.2 p.2.2.2.2.1]) (fun(p:Int×Int×Int×(List TyA)×(List Int)×Value×Value)=>K68 (.nx (p.1,p.2.1,p.2.2.1,p.2.2.2.1,p.2.2.2.2.1))) ?_ ?_
 ·refine GL.block (GL.loop (ι:=Nat×Int×Int×Int×(List TyA)×(List Int)×Value×Value) (fun(p:Nat×Int×Int×Int×(List TyA)×(List Int)×Value×Value)=>[(0,v0),(2,(sv x2)),(3,.int .i64 p.2.1),(11,.int .i64 p.2.2.1),(12,.int .i64 p.2.2.2.1),(13,p.2.2.2.2.2.2.1),(14,p.2.2.2.2.2.2.2)]) (fun(p:Nat×Int×Int×Int×(List TyA)×(List Int)×Value×Value)=>[imm (TR.sl TrD) v0 x0,own 94 TrA p.2.2.2.2.2.2.1 p.2.2.2.2.1,own 3 TR.int p.2.2.2.2.2.2.2 p.2.2.2.2.2.1]) (fun(p:Nat×Int×Int×Int×(List TyA)×(List Int)×Value×Value)=>z40 (z5n x0 x2) p.1 (p.2.1,p.2.2.1,p.2.2.2.1,p.2.2.2.2.1,p.2.2.2.2.2.1)=some y67) (fun(p:Nat×Int×Int×Int×(List TyA)×(List Int)×Value×Value)=>p.1) (1048576,x3,y7.1,y7.2,(([]:(List TyA))++x1),[],v30,Value.slice none 0 0) h69 (fun a w st=>St.cut [0,2,3] ⟨rfl,rfl,rfl,rfl,rfl,rfl,rfl,trivial⟩ (by decide) rfl st) ?_)
  rintro⟨r75,x31,x32,x33,l34,l36,v35,v37⟩ h79
  try dsimp only at h79
  refine GL.weak (env':=[(0,v0),(2,(sv x2)),(3,.int .i64 x31),(11,.int .i64 x32),(12,.int .i64 x33),(13,v35),(14,v37)]) (L':=[imm (TR.sl TrD) v0 x0,own 94 TrA v35 l34,own 3 TR.int v37 l36]) ss ?_
  obtain⟨r82,z76,hr,h77,h78⟩:=z58 h79
  subst hr
  unfold z5n at h77
  try dsimp only at h77
  refine GL.seq (GL.seq (GL.region (RL.mv rfl rfl rfl (RL.binI (v:=.bool (x33==(0:Int))) rfl rfl rfl rfl rfl (RL.finG (GL.cond rfl (fun b83=>?_) (fun b83=>?_)))))))
  ·replace h77:=z13 b83 h77
   refine GL.skip (GL.block (GL.seq (GL.region (RL.mv rfl rfl rfl (RL.mv rfl rfl rfl (RL.mv rfl rfl rfl ?_))))))
   obtain⟨y90,e91,h77⟩:=z7 h77
   refine RL.idxS (sz:=6) 0 Tryz.underlying85 zu rfl rfl rfl rfl rfl SlOf.imm (z8 e91).1 (z8 e91).2.1 (RL.ldS (i:=(x32).toNat) (r:=TrD) (e':=y90) 0 zu rfl rfl rfl rfl SlOf.imm (z8 e91).2.2 Part.self ?_)
   intro v92
   refine RL.mv rfl rfl rfl ?_
   obtain⟨y93,e94,h77⟩:=z7 h77
   refine RL.callU (vs:=[v35,v92,(sv x2)]) (LR:=fun(o:Value)=>[own 94 TrA o y93.1]) (fun o=>⟨Loc.own (TR.flatT_pair TR.flatT_str (TR.flatT_pair TR.flatT_ik TR.flatT_ik)),trivial⟩) zbj rfl rfl rfl rfl rfl (fun U w hU hW hL=>z8w U w hU _ _ (hL 1 _ _ rfl Seen.own) _ _ (hL 3 _ _ rfl Seen.imm) x2 _ e94) ?_
   intro v95
   refine RL.mv rfl rfl rfl (RL.ext rfl rfl rfl rfl (RL.ext rfl rfl rfl rfl (RL.asg rfl rfl rfl (RL.finG (GL.seq (GL.region (RL.mv rfl rfl rfl ?_)))))))
   refine RL.mv rfl rfl rfl (RL.mv rfl rfl rfl ?_)
   obtain⟨y98,e99,h77⟩:=z7 h77
   refine RL.idxS (sz:=6) 0 Tryz.underlying85 zu rfl rfl rfl rfl rfl SlOf.imm (z8 e99).1 (z8 e99).2.1 (RL.fadrS (off:=((x32).toNat*6)) (fo:=5) 0 z4h rfl rfl rfl SlOf.imm (by have:=(List.getElem?_eq_some_iff.1 (z8 e99).2.2).1;(try dsimp only at this ⊢);omega) rfl ?_)
   refine RL.ldSx (i:=(x32).toNat) (e':=y98.2.2.2.2.2) 0 Ex.ik zd rfl rfl rfl rfl SlOf.imm (z8 e99).2.2 (Part.snd (Part.snd (Part.snd (Part.snd (Part.snd Part.self))))) (RL.binI (v:=.int .i64 (wsub x31 y98.2.2.2.2.2)) rfl rfl rfl rfl rfl (RL.asg rfl rfl rfl (RL.finG (GL.seq (GL.region (RL.mv rfl rfl rfl (RL.mv rfl rfl rfl ?_)))))))
   refine RL.bS (t:=TR.int) (vs:=[.int .i64 x32]) ([x32]:(List Int)) Tryz.underlying107 zfi rfl rfl rfl rfl ⟨VR.int,trivial⟩ rfl (by decide) ?_
   intro v104
   refine RL.reL (L':=[imm (TR.sl TrD) v0 x0,own 94 TrA v35 l34,own 3 TR.int v37 l36,imm TrD v92 y90,own 94 TrA v95 y93.1,own 3 TR.int v104 ([x32]:(List Int))]) rfl ?_
   obtain⟨y105,e106,h77⟩:=z7 h77
   replace e106:=z15 e106
   refine RL.app 2 5 Tryz.underlying107 zfi rfl rfl rfl rfl rfl rfl rfl SlOf.own e106 ?_
   intro v107
   refine RL.asg rfl rfl rfl (RL.finG (GL.region (RL.mv rfl rfl rfl (RL.mv rfl rfl rfl (RL.mv rfl rfl rfl (RL.mv rfl rfl rfl ?_))))))
   obtain⟨y110,e111,h77⟩:=z7 h77
   refine RL.callV (v:=.tuple #[.int .i64 y110.1,.int .i64 y110.2]) (vs:=[v0,v95,(sv x2),.int .i64 (wsub x31 y98.2.2.2.2.2)]) zew rfl ol rfl rfl rfl rfl (fun U w hU hW hL=>zdd U w hU _ _ (hL 0 _ _ rfl Seen.imm) _ _ (hL 4 _ _ rfl Seen.own) x2 (wsub x31 y98.2.2.2.2.2) _ e111) (RL.mv rfl rfl rfl (RL.ext rfl rfl rfl rfl (RL.ext rfl rfl rfl rfl (RL.asg rfl rfl rfl (RL.asg rfl rfl rfl (RL.finG (GL.nilB ?_)))))))
   cases h77
   exact fun a w st=>z1l (r82,wsub x31 y98.2.2.2.2.2,y110.1,y110.2,y93.1,(l36++([x32]:(List Int))),v95,v107) (by exact h78) (by simp) (st.cu [0,4,2])
  replace h77:=z14 b83 h77
  cases h77
  replace h78:some (Fl.nx _)=some y67:=h78
  cases h78
  exact GL.exit (fun a w st=>ze (x31,x32,x33,l34,l36,v35,v37) h70 (st.cu [1,2]))
 rintro⟨x31,x32,x33,l34,l36,v35,v37⟩ h112
 have h113:=h71 _ h112
 try dsimp only at h113
 refine GL.weak (env':=[(13,v35),(14,v37)]) (L':=[own 94 TrA v35 l34,own 3 TR.int v37 l36]) ss (GL.seq (GL.region (RL.mv rfl rfl rfl (RL.mv rfl rfl rfl (RL.asg rfl rfl rfl (RL.asg rfl rfl rfl (RL.asg rfl rfl rfl ?_)))))))
 refine RL.finG ?_
 have h113:=Option.some.inj h113
 subst h113
 exact GL.ret (Gx.ret (v:=.tuple #[v37,v35,.int .i64 (0:Int)]) (res3 rfl rfl rfl rfl) (fun a w st=>(st.pick [1,0] (by decide) rfl).toPost (v37,v35)))
theorem zea(S:Hp)(w:World)(hS:S.sub w)(v0:Value)(x0:(B8×Int))(k0:((TR.ptr TrL)).vrep S v0 x0)(res:Int×Int)(hm:z64 x0=some res):Calls Tryz.prog 56 #[v0] w (z45 w (.tuple #[.int .i64 res.1,.int .i64 res.2])):=by
 refine zi 13 Tryz.func56 Tryz.ntmps56 rfl S false [(0,v0)] [imm (TR.ptr TrL) v0 x0] rfl ⟨rfl,trivial⟩ hS ⟨k0,trivial⟩ ?_
 unfold z64 at hm
 refine GL.seq (GL.region (RL.asg rfl rfl rfl (RL.asg rfl rfl rfl (RL.finG (GL.seq (GL.regionQ rfl rfl (by kernel_rfl) (RL.mv rfl rfl rfl ?_)))))))
 refine RL.nilk 0 rfl rfl rfl rfl PtOf.imm (RL.fadr (off:=0) (fo:=0) 0 z38 rfl rfl rfl PtOf.imm oi (RL.ldPx (off:=(0+0)) (e':=x0.1) 0 Ex.str zh rfl rfl ol rfl PtOf.imm (Part.fst Part.self) (RL.lenT Tryz.underlying9 rfl rfl rfl (RL.mv rfl rfl rfl (RL.nilk 0 rfl rfl rfl rfl PtOf.imm (RL.fadr (off:=0) (fo:=1) 0 z6e rfl rfl rfl PtOf.imm oi (RL.ldPx (off:=(0+1)) (e':=x0.2) 0 Ex.ik zd rfl rfl ol rfl PtOf.imm (Part.snd Part.self) ?_)))))))
 refine RL.asg rfl rfl rfl (RL.asg rfl rfl rfl (RL.finQG ?_))
 have hm:=Option.some.inj hm
 subst hm
 exact GL.ret (Gx.ret (v:=.tuple #[.int .i64 ((x0.1).length:Int),.int .i64 x0.2]) (res2 rfl rfl rfl) (fun a w st=>st.toPostV))
theorem house_deal_c(S:Hp)(w:World)(hS:S.sub w)(hT:Tab Tryz.prog (Tryz.lays146_ren.g 1) S)(v0:Value)(x0:TyD)(k0:(TrD).vrep S v0 x0)(x1:B8)(res:B8)(hm:z6d x0 x1=some res):Calls Tryz.prog 57 #[v0,(sv x1)] w (z45 w ((sv res))):=by
 refine zi 39 Tryz.func57 Tryz.ntmps57 rfl S false [(0,v0),(1,(sv x1))] [imm TrD v0 x0] rfl ⟨rfl,⟨rfl,trivial⟩⟩ hS ⟨k0,trivial⟩ ?_
 unfold z6d at hm
 refine GL.seq (GL.region (RL.box (t:=TrD) (e:=x0) rfl rfl rfl rfl (VR.item 0 rfl) ?_))
 intro v4
 refine RL.asg rfl rfl rfl (RL.finG (GL.seq (GL.region (RL.fadr (off:=0) (fo:=0) 1 z3u rfl rfl rfl PtOf.obox oi (RL.ldPx (off:=(0+0)) (e':=x0.1) 1 Ex.str zh rfl rfl ol rfl PtOf.obox (Part.fst Part.self) ?_)))))
 obtain⟨y11,e12,hm⟩:=z7 hm
 replace e12:=z15 e12
 refine RL.cat rfl rfl rfl rfl e12 ?_
 obtain⟨y13,e14,hm⟩:=z7 hm
 replace e14:=z15 e14
 refine RL.cat rfl rfl rfl rfl e14 (RL.fadr (off:=0) (fo:=1) 1 z7r rfl rfl rfl PtOf.obox oi (RL.ldPx (off:=(0+1)) (e':=x0.2.1) 1 Ex.str zh rfl rfl ol rfl PtOf.obox (Part.snd (Part.fst Part.self)) ?_))
 obtain⟨y15,e16,hm⟩:=z7 hm
 replace e16:=z15 e16
 refine RL.cat rfl rfl rfl rfl e16 (RL.asg rfl rfl rfl (RL.finG (GL.seq (GL.seq (GL.region (RL.fadr (off:=0) (fo:=2) 1 z3t rfl rfl rfl PtOf.obox oi (RL.ldPx (off:=(0+2)) (e':=x0.2.2.1) 1 Ex.ik zd rfl rfl ol rfl PtOf.obox (Part.snd (Part.snd (Part.fst Part.self))) ?_)))))))
 refine RL.fadr (off:=0) (fo:=3) 1 z5c rfl rfl rfl PtOf.obox oi (RL.ldPx (off:=(0+3)) (e':=x0.2.2.2.1) 1 Ex.ik zd rfl rfl ol rfl PtOf.obox (Part.snd (Part.snd (Part.snd (Part.fst Part.self)))) (RL.fadr (off:=0) (fo:=4) 1 z2i rfl rfl rfl PtOf.obox oi (RL.ldPx (off:=(0+4)) (e':=x0.2.2.2.2.1) 1 Ex.ik zd rfl rfl ol rfl PtOf.obox (Part.snd (Part.snd (Part.snd (Part.snd (Part.fst Part.self))))) (RL.fadr (off:=0) (fo:=5) 1 z4h rfl rfl rfl PtOf.obox oi (RL.ldPx (off:=(0+5)) (e':=x0.2.2.2.2.2) 1 Ex.ik zd rfl rfl ol rfl PtOf.obox (Part.snd (Part.snd (Part.snd (Part.snd (Part.snd Part.self))))) (RL.bS (t:=TR.int) (vs:=[.int .i64 x0.2.2.1,.int .i64 x0.2.2.2.1,.int .i64 x0.2.2.2.2.1,.int .i64 x0.2.2.2.2.2]) ([x0.2.2.1,x0.2.2.2.1,x0.2.2.2.2.1,x0.2.2.2.2.2]:(List Int)) Tryz.underlying107 zfi rfl rfl rfl rfl ⟨VR.int,⟨VR.int,⟨VR.int,⟨VR.int,trivial⟩⟩⟩⟩ rfl (by decide) ?_))))))
 intro v18
 refine RL.reL (L':=[imm TrD v0 x0,obox 28 TrD v4 x0,own 3 TR.int v18 ([x0.2.2.1,x0.2.2.2.1,x0.2.2.2.2.1,x0.2.2.2.2.2]:(List Int))]) rfl (RL.lenS 2 Tryz.underlying107 rfl rfl rfl rfl SlOf.own (RL.mv rfl rfl rfl (RL.finG (GL.lenOwn 2 rfl (fun n36=>?_)))))
 obtain⟨y37,K38,h39,h40,h41,h42,h43⟩:=z1z hm
 refine GL.join (ι:=B8) (fun(p:B8)=>[(1,(sv x1)),(5,(sv p))]) (fun(p:B8)=>[]) (fun(p:B8)=>K38 (.nx p)) ?_ ?_
 ·refine GL.block (GL.loop (ι:=Nat×Nat×B8) (fun(p:Nat×Nat×B8)=>[(1,(sv x1)),(5,(sv p.2.2)),(23,v18),(24,.int .i64 ((([x0.2.2.1,x0.2.2.2.1,x0.2.2.2.2.1,x0.2.2.2.2.2]:(List Int))).length:Int)),(25,.int .i64 (p.1:Int))]) (fun(p:Nat×Nat×B8)=>[own 3 TR.int v18 ([x0.2.2.1,x0.2.2.2.1,x0.2.2.2.2.1,x0.2.2.2.2.2]:(List Int))]) (fun(p:Nat×Nat×B8)=>p.1+p.2.1=(([x0.2.2.1,x0.2.2.2.1,x0.2.2.2.2.1,x0.2.2.2.2.2]:(List Int))).length∧z5s (z5p x0) p.2.1 p.1 p.2.2=some y37) (fun(p:Nat×Nat×B8)=>p.2.1) (0,(([x0.2.2.1,x0.2.2.2.1,x0.2.2.2.2.1,x0.2.2.2.2.2]:(List Int))).length,((([100,32]:B8)++x0.1)++([32]:B8))++x0.2.1) ⟨by simp,h39⟩ (fun a w st=>St.cut [2] ⟨rfl,rfl,rfl,rfl,rfl,trivial⟩ (by decide) rfl st) ?_)
  rintro⟨i44,r45,x19⟩ ⟨h50,h49⟩
  try dsimp only at h50 h49
  refine GL.weak (env':=[(1,(sv x1)),(5,(sv x19)),(23,v18),(24,.int .i64 ((([x0.2.2.1,x0.2.2.2.1,x0.2.2.2.2.1,x0.2.2.2.2.2]:(List Int))).length:Int)),(25,.int .i64 (i44:Int))]) (L':=[own 3 TR.int v18 ([x0.2.2.1,x0.2.2.2.1,x0.2.2.2.2.1,x0.2.2.2.2.2]:(List Int))]) ss (GL.seq (GL.region (RL.binI (v:=.bool (decide ((i44:Int)<((([x0.2.2.1,x0.2.2.2.1,x0.2.2.2.2.1,x0.2.2.2.2.2]:(List Int))).length:Int)))) rfl rfl rfl rfl rfl (RL.finG (GL.seq (GL.cond rfl (fun b52=>?_) (fun b52=>?_)))))))
  ·have h53:i44<(([x0.2.2.1,x0.2.2.2.1,x0.2.2.2.2.1,x0.2.2.2.2.2]:(List Int))).length:=by have:=of_decide_eq_true b52;omega
   obtain⟨r54,hr⟩:∃ m,r45=m+1:=⟨r45-1,by omega⟩
   subst hr
   obtain⟨z46,h47,h48⟩:=z8n h49
   unfold z5p at h47
   try dsimp only at h47
   refine GL.skip (GL.seq (GL.block (GL.seq (GL.region ?_))))
   obtain⟨y57,e58,h47⟩:=z7 h47
   refine RL.idxS (sz:=1) 0 Tryz.underlying107 zd rfl rfl rfl rfl rfl SlOf.own (z8 e58).1 (z8 e58).2.1 (RL.ldSx (i:=i44) (e':=y57) 0 Ex.ik zd rfl rfl rfl rfl SlOf.own (z8 e58).2.2 Part.self (RL.asg rfl rfl rfl (RL.finG (GL.region (RL.mv rfl rfl rfl (RL.mv rfl rfl rfl ?_))))))
   obtain⟨y65,e66,h47⟩:=z7 h47
   refine RL.callV (v:=(sv y65)) (vs:=[.int .i64 y57]) z1v rfl ol rfl rfl rfl rfl (fun U w hU hW hL=>z11 U w hU (hT.mono hW) y57 _ e66) ?_
   obtain⟨y67,e68,h47⟩:=z7 h47
   replace e68:=z15 e68
   refine RL.cat rfl rfl rfl rfl e68 ?_
   obtain⟨y69,e70,h47⟩:=z7 h47
   replace e70:=z15 e70
   refine RL.cat rfl rfl rfl rfl e70 (RL.asg rfl rfl rfl (RL.finG (GL.nilB (GL.region (RL.binI (v:=.int .i64 ((i44+1:Nat):Int)) rfl rfl rfl rfl (binI_succ i44 (by omega)) (RL.mv rfl rfl rfl (RL.fin ?_)))))))
   cases h47
   exact fun a w st=>z1l (i44+1,r54,x19++(([32]:B8)++y65)) ⟨by show i44+1+r54=(([x0.2.2.1,x0.2.2.2.1,x0.2.2.2.2.1,x0.2.2.2.2.2]:(List Int))).length;omega,h48⟩ (by simp) (st.cu [0])
  have h53:¬ i44<(([x0.2.2.1,x0.2.2.2.1,x0.2.2.2.2.1,x0.2.2.2.2.2]:(List Int))).length:=by have:=of_decide_eq_false b52;omega
  obtain rfl:r45=0:=by omega
  replace h49:some (Fl.nx _)=some y37:=h49
  cases h49
  exact GL.exit (fun a w st=>ze x19 h40 (st.cu []))
 rintro x19 h71
 have h72:=h41 _ h71
 try dsimp only at h72
 refine GL.weak (env':=[(1,(sv x1)),(5,(sv x19))]) (L':=[]) ss (GL.seq (GL.region (RL.mv rfl rfl rfl ?_)))
 obtain⟨y77,e78,h72⟩:=z7 h72
 replace e78:=z15 e78
 refine RL.cat rfl rfl rfl rfl e78 (RL.mv rfl rfl rfl ?_)
 obtain⟨y79,e80,h72⟩:=z7 h72
 replace e80:=z15 e80
 refine RL.cat rfl rfl rfl rfl e80 (RL.asg rfl rfl rfl (RL.finG ?_))
 have h72:=Option.some.inj h72
 subst h72
 exact GL.ret (Gx.ret (v:=(sv ((x19++([32]:B8))++x1))) (res1 rfl rfl) (fun a w st=>st.toPostV))
theorem z4r(B:World)(S X:Hp)(f:Nat→Hp)(w:World)(v0:Value)(x0:(List TyD))(hO:z2h B.heap.size S f [own 28 TrD v0 x0,keep X].length w)(hB:Below B.heap.size B w)(hI:Its [own 28 TrD v0 x0,keep X] S f)(f1:FuncId)(c1:Array Value)(t1:Fit Tryz.prog f1)(g1:TyD→Option Bool)(k1:∀ (U:Hp) (w':World),Hp.le S U→U.sub w'→∀ (u0:Value) (a0:TyD) (_:(TrD).vrep U u0 a0) (rr:Bool),g1 a0=some rr→Calls Tryz.prog f1 (#[u0]++c1) w' (z45 w' (.bool rr)))(res:(List TyD))(hm:z1f x0 g1=some res):Calls Tryz.prog 78 #[v0,.func (.func f1) #[] c1] w (zaj B S (fun(o:Value)=>o) (fun(o:Value)=>[own 28 TrD o res,keep X])):=by
 refine z2e 42 Tryz.func78 Tryz.ntmps78 rfl B S f [(0,v0),(1,.func (.func f1) #[] c1)] [own 28 TrD v0 x0,keep X] [] rfl ⟨rfl,⟨rfl,trivial⟩⟩ hB hO hI trivial ?_
 unfold z1f at hm
 refine GL.seq (GL.region (RL.asg rfl rfl rfl (RL.finG (GL.seq (GL.region (RL.mv rfl rfl rfl (RL.mv rfl rfl rfl ?_)))))))
 obtain⟨y5,e6,hm⟩:=z7 hm
 refine RL.callV (v:=.int .i64 y5) (vs:=[v0,.func (.func f1) #[] c1]) zex rfl ol rfl rfl rfl rfl (fun U w hU hW hL=>z2v U w hU _ _ (hL 0 _ _ rfl Seen.own) f1 c1 t1 g1 (fun U' w' hle=>k1 U' w' (Hp.le_trans hW hle)) _ e6) (RL.asg rfl rfl rfl (RL.finG (GL.seq (GL.seq (GL.region (RL.mv rfl rfl rfl (RL.binI (v:=.bool (y5==(-1:Int))) rfl rfl rfl rfl rfl ?_)))))))
 refine RL.finG (GL.cond rfl (fun b7=>?_) (fun b7=>?_))
 ·replace hm:=z13 b7 hm
  refine GL.seq (GL.region (RL.mv rfl rfl rfl (RL.asg rfl rfl rfl (RL.finG ?_))))
  have hm:=Option.some.inj hm
  subst hm
  exact GL.ret (Gx.ret (v:=v0) (res1 rfl rfl) (fun a w st=>(st.pick [0,1] (by decide) rfl).toPostM (V:=fun(o:Value)=>o) (LR:=fun(o:Value)=>[own 28 TrD o x0,keep X]) v0))
 replace hm:=z14 b7 hm
 refine GL.skip (GL.seq (GL.seq (GL.region (RL.mv rfl rfl rfl (RL.binI (v:=.int .i64 (wadd y5 (1:Int))) rfl rfl rfl rfl rfl (RL.asg rfl rfl rfl (RL.finG ?_)))))))
 obtain⟨y57,K58,h59,h60,h61,h62,h63⟩:=z1z hm
 refine GL.join (ι:=(List TyD)×Int×Int) (fun(p:(List TyD)×Int×Int)=>[(0,v0),(5,.int .i64 p.2.1)]) (fun(p:(List TyD)×Int×Int)=>[own 28 TrD v0 p.1,keep X]) (fun(p:(List TyD)×Int×Int)=>K58 (.nx (p.1,p.2.1,p.2.2))) ?_ ?_
 ·refine GL.block (GL.loop (ι:=Nat×(List TyD)×Int×Int) (fun(p:Nat×(List TyD)×Int×Int)=>[(0,v0),(1,.func (.func f1) #[] c1),(5,.int .i64 p.2.2.1),(6,.int .i64 p.2.2.2)]) (fun(p:Nat×(List TyD)×Int×Int)=>[own 28 TrD v0 p.2.1,keep X]) (fun(p:Nat×(List TyD)×Int×Int)=>z40 (z1n g1) p.1 (p.2.1,p.2.2.1,p.2.2.2)=some y57) (fun(p:Nat×(List TyD)×Int×Int)=>p.1) (1048576,x0,y5,wadd y5 (1:Int)) h59 (fun a w st=>St.cut [0,1] ⟨rfl,rfl,rfl,rfl,trivial⟩ (by decide) rfl st) ?_)
  rintro⟨r66,l32,x33,x34⟩ h70
  try dsimp only at h70
  refine GL.weak (env':=[(0,v0),(1,.func (.func f1) #[] c1),(5,.int .i64 x33),(6,.int .i64 x34)]) (L':=[own 28 TrD v0 l32,keep X]) ss ?_
  obtain⟨r73,z67,hr,h68,h69⟩:=z58 h70
  subst hr
  unfold z1n at h68
  try dsimp only at h68
  refine GL.seq (GL.seq (GL.region (RL.mv rfl rfl rfl (RL.mv rfl rfl rfl (RL.lenS 0 Tryz.underlying85 rfl rfl rfl rfl SlOf.own (RL.binI (v:=.bool (decide (x34<((l32).length:Int)))) rfl rfl rfl rfl rfl (RL.finG ?_)))))))
  refine GL.cond rfl (fun b74=>?_) (fun b74=>?_)
  ·replace h68:=z13 b74 h68
   refine GL.skip (GL.seq (GL.block (GL.seq (GL.region (RL.mv rfl rfl rfl (RL.mv rfl rfl rfl ?_))))))
   obtain⟨y79,e80,h68⟩:=z7 h68
   refine RL.idxS (sz:=6) 0 Tryz.underlying85 zu rfl rfl rfl rfl rfl SlOf.own (z8 e80).1 (z8 e80).2.1 (RL.ldS (i:=(x34).toNat) (r:=TrD) (e':=y79) 0 zu rfl rfl rfl rfl SlOf.own (z8 e80).2.2 Part.self ?_)
   intro v81
   refine RL.alloc (t:=TrD) (z:=(([]:B8),([]:B8),(0:Int),(0:Int),(0:Int),(0:Int))) z49 (fun S=>⟨[.string ⟨#[]⟩],_,rfl,rfl,⟨[.string ⟨#[]⟩],_,rfl,rfl,⟨[.int .i64 0],_,rfl,rfl,⟨[.int .i64 0],_,rfl,rfl,⟨[.int .i64 0],_,rfl,rfl,rfl⟩⟩⟩⟩⟩) rfl rfl rfl ?_
   intro v82
   refine RL.reL (L':=[own 28 TrD v0 l32,keep X,imm TrD v81 y79,obox 28 TrD v82 (([]:B8),([]:B8),(0:Int),(0:Int),(0:Int),(0:Int))]) rfl (RL.stP (off:=0) (e':=y79) (d1:=y79) (r:=TrD) 3 zu rfl rfl oi rfl (VR.item 2 rfl) rfl Upd.self (RL.finG (GL.seq (GL.region (RL.mv rfl rfl rfl (RL.ldP (off:=0) (r:=TrD) (e':=y79) 3 zu rfl rfl oi rfl PtOf.obox Part.self ?_))))))
   intro v86
   refine RL.reL (L':=[own 28 TrD v0 l32,keep X,imm TrD v81 y79,obox 28 TrD v82 y79,imm TrD v86 y79]) rfl ?_
   obtain⟨y87,e88,h68⟩:=z7 h68
   refine RL.callV (v:=.bool y87) (vs:=[v86]) t1 rfl ol rfl rfl rfl rfl (fun U w hU hW hL=>k1 U w hW hU _ _ (hL 4 _ _ rfl Seen.imm) _ e88) (RL.notB rfl rfl rfl (RL.finG (GL.cond rfl (fun b89=>?_) (fun b89=>?_))))
   ·replace h68:=z13 b89 h68
    refine GL.seq (GL.region (RL.mv rfl rfl rfl (RL.mv rfl rfl rfl (RL.ldP (off:=0) (r:=TrD) (e':=y79) 3 zu rfl rfl oi rfl PtOf.obox Part.self ?_))))
    intro v93
    obtain⟨y94,e95,h68⟩:=z7 h68
    refine RL.idxS (sz:=6) 0 Tryz.underlying85 zu rfl rfl rfl rfl rfl SlOf.own (z8 e95).1 (z8 e95).2.1 (RL.stS (i:=(x33).toNat) (e':=y79) (e1:=y79) (r:=TrD) 0 zu rfl rfl rfl rfl (VR.item 5 rfl) rfl (z8 e95).2.2 Upd.self (RL.reL (L':=[own 28 TrD v0 (List.set l32 ((x33).toNat) y79),keep X,imm TrD v81 y79,obox 28 TrD v82 y79,imm TrD v86 y79,imm TrD v93 y79]) rfl (RL.finG (GL.region (RL.mv rfl rfl rfl (RL.binI (v:=.int .i64 (wadd x33 (1:Int))) rfl rfl rfl rfl rfl (RL.asg rfl rfl rfl ?_)))))))
    refine RL.finG (GL.nilB (GL.region (RL.mv rfl rfl rfl (RL.binI (v:=.int .i64 (wadd x34 (1:Int))) rfl rfl rfl rfl rfl (RL.asg rfl rfl rfl (RL.finG ?_))))))
    cases h68
    exact fun a w st=>z1l (r73,(List.set l32 ((x33).toNat) y79),wadd x33 (1:Int),wadd x34 (1:Int)) (by exact h69) (by simp) (st.cu [0,1])
   replace h68:=z14 b89 h68
   refine GL.skip (GL.nilB (GL.region (RL.mv rfl rfl rfl (RL.binI (v:=.int .i64 (wadd x34 (1:Int))) rfl rfl rfl rfl rfl (RL.asg rfl rfl rfl (RL.finG ?_))))))
   cases h68
   exact fun a w st=>z1l (r73,l32,x33,wadd x34 (1:Int)) (by exact h69) (by simp) (st.cu [0,1])
  replace h68:=z14 b74 h68
  cases h68
  replace h69:some (Fl.nx _)=some y57:=h69
  cases h69
  exact GL.exit (fun a w st=>ze (l32,x33,x34) h60 (st.cu [0,1]))
 rintro⟨l32,x33,x34⟩ h96
 have h97:=h61 _ h96
 try dsimp only at h97
 refine GL.weak (env':=[(0,v0),(5,.int .i64 x33)]) (L':=[own 28 TrD v0 l32,keep X]) ss (GL.seq (GL.region (RL.mv rfl rfl rfl (RL.mv rfl rfl rfl ?_))))
 obtain⟨y100,e101,h97⟩:=z7 h97
 replace e101:=z15 e101
 refine RL.cutL (t:=TrD) (i:=(x33).toNat) (kd:=.i64) 0 Tryz.underlying85 zu rfl rfl rfl (by rw[Int.toNat_of_nonneg (by omega)];rfl) rfl (by omega) (RL.clrL (t:=TrD) (i:=(x33).toNat) 0 Tryz.underlying85 z49 (by decide) rfl rfl rfl rfl (by omega) (RL.reL (L':=[own 28 TrD (z73 v0 ((x33).toNat)) (List.take ((x33).toNat) l32),keep X]) rfl (RL.finG (GL.seq (GL.region (RL.mv rfl rfl rfl (RL.mv rfl rfl rfl ?_)))))))
 obtain⟨y104,e105,h97⟩:=z7 h97
 replace e105:=z15 e105
 refine RL.cutP (t:=TrD) (i:=(x33).toNat) (kd:=.i64) 0 Tryz.underlying85 zu rfl rfl rfl (by rw[Int.toNat_of_nonneg (by omega)];rfl) rfl (by rw[List.length_take];omega) (RL.asg rfl rfl rfl (RL.finG ?_))
 have h97:=Option.some.inj h97
 subst h97
 exact GL.ret (Gx.ret (v:=z73 v0 ((x33).toNat)) (res1 rfl rfl) (fun a w st=>(st.pick [0,1] (by decide) rfl).toPostM (V:=fun(o:Value)=>o) (LR:=fun(o:Value)=>[own 28 TrD o (List.take ((x33).toNat) l32),keep X]) (z73 v0 ((x33).toNat))))
theorem z3p(S:Hp)(w:World)(hS:S.sub w)(v0:Value)(x0:(List TyA))(k0:((TR.sl TrA)).vrep S v0 x0)(f1:FuncId)(c1:Array Value)(t1:Fit Tryz.prog f1)(g1:TyA→Option Bool)(k1:∀ (U:Hp) (w':World),Hp.le S U→U.sub w'→∀ (u0:Value) (a0:TyA) (_:(TrA).vrep U u0 a0) (rr:Bool),g1 a0=some rr→Calls Tryz.prog f1 (#[u0]++c1) w' (z45 w' (.bool rr)))(res:Bool)(hm:zx x0 g1=some res):Calls Tryz.prog 80 #[v0,.func (.func f1) #[] c1] w (z45 w (.bool res)):=by
 refine zi 9 Tryz.func80 Tryz.ntmps80 rfl S false [(0,v0),(1,.func (.func f1) #[] c1)] [imm (TR.sl TrA) v0 x0] rfl ⟨rfl,⟨rfl,trivial⟩⟩ hS ⟨k0,trivial⟩ ?_
 unfold zx at hm
 refine GL.seq (GL.region (RL.asg rfl rfl rfl (RL.finG (GL.seq (GL.region (RL.mv rfl rfl rfl (RL.mv rfl rfl rfl ?_)))))))
 obtain⟨y5,e6,hm⟩:=z7 hm
 refine RL.callV (v:=.int .i64 y5) (vs:=[v0,.func (.func f1) #[] c1]) zbi rfl ol rfl rfl rfl rfl (fun U w hU hW hL=>z1u U w hU _ _ (hL 0 _ _ rfl Seen.imm) f1 c1 t1 g1 (fun U' w' hle=>k1 U' w' (Hp.le_trans hW hle)) _ e6) (RL.binI (v:=.bool (decide (y5≥(0:Int)))) rfl rfl rfl rfl rfl (RL.asg rfl rfl rfl (RL.finG ?_)))
 have hm:=Option.some.inj hm
 subst hm
 exact GL.ret (Gx.ret (v:=.bool (decide (y5≥(0:Int)))) (res1 rfl rfl) (fun a w st=>st.toPostV))
theorem zbm(S:Hp)(w:World)(hS:S.sub w)(v0:Value)(x0:TyA)(k0:(TrA).vrep S v0 x0)(v1:Value)(x1:TyD)(k1:((TR.ptr TrD)).vrep S v1 x1)(res:Bool)(hm:z3o x0 x1=some res):Calls Tryz.prog 81 #[v0,v1] w (z45 w (.bool res)):=by
 refine zi 16 Tryz.func81 Tryz.ntmps81 rfl S false [(0,v0),(1,v1)] [imm TrA v0 x0,imm (TR.ptr TrD) v1 x1] rfl ⟨rfl,⟨rfl,trivial⟩⟩ hS ⟨k0,⟨k1,trivial⟩⟩ ?_
 unfold z3o at hm
 refine GL.seq (GL.region (RL.box (t:=TrA) (e:=x0) rfl rfl rfl rfl (VR.item 0 rfl) ?_))
 intro v4
 refine RL.asg rfl rfl rfl (RL.finG (GL.seq ?_))
 obtain⟨y8,K9,h10,h11,h12,h13,h14⟩:=z1z hm
 refine GL.join (ι:=Bool) (fun(p:Bool)=>[(3,.bool p)]) (fun(p:Bool)=>[]) (fun(p:Bool)=>K9 (.nx p)) ?_ ?_
 ·skip
  refine GL.region (RL.fadr (off:=0) (fo:=0) 2 z3r rfl rfl rfl PtOf.obox oi (RL.ldPx (off:=(0+0)) (e':=x0.1) 2 Ex.str zh rfl rfl ol rfl PtOf.obox (Part.fst Part.self) (RL.fadr (off:=0) (fo:=0) 1 z3u rfl rfl rfl PtOf.imm oi (RL.ldPx (off:=(0+0)) (e':=x1.1) 1 Ex.str zh rfl rfl ol rfl PtOf.imm (Part.fst Part.self) (RL.binS (v:=.bool (x0.1==x1.1)) rfl rfl rfl rfl rfl (RL.mv rfl rfl rfl (RL.split (t:=9) rfl (fun b15=>?_) (fun b15=>?_))))))))
  ·replace h10:=z13 b15 h10
   refine RL.fadr (off:=0) (fo:=2) 1 z3t rfl rfl rfl PtOf.imm oi (RL.ldPx (off:=(0+2)) (e':=x1.2.2.1) 1 Ex.ik zd rfl rfl ol rfl PtOf.imm (Part.snd (Part.snd (Part.fst Part.self))) (RL.fadr (off:=0) (fo:=2) 2 z4g rfl rfl rfl PtOf.obox oi (RL.ldPx (off:=(0+2)) (e':=x0.2.2) 2 Ex.ik zd rfl rfl ol rfl PtOf.obox (Part.snd (Part.snd Part.self)) (RL.binI (v:=.bool (decide (x1.2.2.1<x0.2.2))) rfl rfl rfl rfl rfl (RL.pickT rfl rfl rfl rfl (RL.asg rfl rfl rfl (RL.fin ?_)))))))
   cases h10
   exact fun a w st=>ze (decide (x1.2.2.1<x0.2.2)) h11 (st.cu [])
  replace h10:=z14 b15 h10
  refine RL.skip rfl rfl (RL.skip rfl rfl (RL.skip rfl rfl (RL.skip rfl rfl (RL.skip rfl rfl (RL.pickF rfl rfl rfl rfl (RL.asg rfl rfl rfl (RL.fin ?_)))))))
  cases h10
  exact fun a w st=>ze false h11 (st.cu [])
 rintro x7 h16
 have h17:=h12 _ h16
 try dsimp only at h17
 refine GL.weak (env':=[(3,.bool x7)]) (L':=[]) ss ?_
 have h17:=Option.some.inj h17
 subst h17
 exact GL.ret (Gx.ret (v:=.bool x7) (res1 rfl rfl) (fun a w st=>st.toPostV))
theorem zdr(S:Hp)(w:World)(hS:S.sub w)(v0:Value)(x0:TyD)(k0:(TrD).vrep S v0 x0)(v1:Value)(x1:(List TyA))(k1:((TR.ptr (TR.sl TrA))).vrep S v1 x1)(res:Bool)(hm:z3k x0 x1=some res):Calls Tryz.prog 79 #[v0,v1] w (z45 w (.bool res)):=by
 refine zi 7 Tryz.func79 Tryz.ntmps79 rfl S false [(0,v0),(1,v1)] [imm TrD v0 x0,imm (TR.ptr (TR.sl TrA)) v1 x1] rfl ⟨rfl,⟨rfl,trivial⟩⟩ hS ⟨k0,⟨k1,trivial⟩⟩ ?_
 unfold z3k at hm
 refine GL.seq (GL.region (RL.box (t:=TrD) (e:=x0) rfl rfl rfl rfl (VR.item 0 rfl) ?_))
 intro v4
 refine RL.asg rfl rfl rfl (RL.finG (GL.seq (GL.region (RL.ldP (off:=0) (r:=(TR.sl TrA)) (e':=x1) 1 z4b rfl rfl oi rfl PtOf.imm Part.self ?_))))
 intro v8
 refine RL.reL (L':=[imm TrD v0 x0,imm (TR.ptr (TR.sl TrA)) v1 x1,obox 28 TrD v4 x0,imm (TR.sl TrA) v8 x1]) rfl (RL.mkF (vs:=[v4]) rfl rfl rfl ?_)
 obtain⟨y9,e10,hm⟩:=z7 hm
 refine RL.callV (v:=.bool y9) (vs:=[v8,.func (.func 81) #[] #[v4]]) Tryz_fit80 rfl ol rfl rfl rfl rfl (fun U w hU hW hL=>z3p U w hU _ _ (hL 3 _ _ rfl Seen.imm) 81 #[v4] Tryz_fit81 (fun a0=>z3o a0 x0) (fun U' w' hle hU' u0 a0 q0 rr hr=>(zbm U' w' hU' u0 a0 q0 _ _ (TR.vrep_mono hle (hL 2 _ _ rfl Seen.obox)) rr hr).mono (fun _ _ z=>z)) _ e10) (RL.asg rfl rfl rfl (RL.finG ?_))
 have hm:=Option.some.inj hm
 subst hm
 exact GL.ret (Gx.ret (v:=.bool y9) (res1 rfl rfl) (fun a w st=>st.toPostV))
theorem zfn(S:Hp)(w:World)(hS:S.sub w)(v0:Value)(x0:(List TyD))(k0:((TR.sl TrD)).vrep S v0 x0)(v1:Value)(x1:(List TyA))(k1:((TR.sl TrA)).vrep S v1 x1)(res:(List TyD)×Int)(hm:z4m x0 x1=some res):Calls Tryz.prog 58 #[v0,v1] w (Post w S (fun(o:Value)=>.tuple #[o,.int .i64 res.2]) (fun(o:Value)=>[own 28 TrD o res.1])):=by
 refine zi 22 Tryz.func58 Tryz.ntmps58 rfl S false [(0,v0),(1,v1)] [imm (TR.sl TrD) v0 x0,imm (TR.sl TrA) v1 x1] rfl ⟨rfl,⟨rfl,trivial⟩⟩ hS ⟨k0,⟨k1,trivial⟩⟩ ?_
 unfold z4m at hm
 refine GL.seq (GL.region (RL.box (t:=(TR.sl TrA)) (e:=x1) rfl rfl rfl rfl (VR.item 1 rfl) ?_))
 intro v4
 refine RL.asg rfl rfl rfl (RL.asg rfl rfl rfl (RL.finG (GL.seq (GL.seq (GL.region (RL.mv rfl rfl rfl ?_))))))
 obtain⟨y7,e8,hm⟩:=z7 hm
 refine RL.callV (v:=.int .i64 y7) (vs:=[v0]) z9z rfl ol rfl rfl rfl rfl (fun U w hU hW hL=>z6s U w hU _ _ (hL 0 _ _ rfl Seen.imm) _ e8) (RL.asg rfl rfl rfl (RL.finG (GL.seq (GL.region (RL.mv rfl rfl rfl (RL.binI (v:=.bool (y7 != (0:Int))) rfl rfl rfl rfl rfl (RL.finG ?_)))))))
 refine GL.cond rfl (fun b9=>?_) (fun b9=>?_)
 ·replace hm:=z13 b9 hm
  refine GL.seq (GL.region (RL.mv rfl rfl rfl (RL.asg rfl rfl rfl (RL.asg rfl rfl rfl (RL.finG (GL.weak (fun a w st=>st.nilOwn 28 TrD) ?_))))))
  have hm:=Option.some.inj hm
  subst hm
  exact GL.ret (Gx.ret (v:=.tuple #[Value.slice none 0 0,.int .i64 y7]) (res2 rfl rfl rfl) (fun a w st=>(st.pick [3] (by decide) rfl).toPost (Value.slice none 0 0)))
 replace hm:=z14 b9 hm
 refine GL.skip (GL.seq (GL.seq (GL.region (RL.ldP (off:=0) (r:=(TR.sl TrA)) (e':=x1) 2 z4b rfl rfl oi rfl PtOf.obox Part.self ?_))))
 intro v13
 refine RL.reL (L':=[imm (TR.sl TrD) v0 x0,imm (TR.sl TrA) v1 x1,obox 84 (TR.sl TrA) v4 x1,imm (TR.sl TrA) v13 x1]) rfl ?_
 obtain⟨y14,e15,hm⟩:=z7 hm
 refine RL.callV (v:=.int .i64 y14) (vs:=[v13]) z8g rfl ol rfl rfl rfl rfl (fun U w hU hW hL=>z4x U w hU _ _ (hL 3 _ _ rfl Seen.imm) _ e15) (RL.asg rfl rfl rfl (RL.finG (GL.seq (GL.region (RL.mv rfl rfl rfl (RL.binI (v:=.bool (y14 != (0:Int))) rfl rfl rfl rfl rfl (RL.finG ?_)))))))
 refine GL.cond rfl (fun b16=>?_) (fun b16=>?_)
 ·replace hm:=z13 b16 hm
  refine GL.seq (GL.region (RL.mv rfl rfl rfl (RL.asg rfl rfl rfl (RL.asg rfl rfl rfl (RL.finG (GL.weak (fun a w st=>st.nilOwn 28 TrD) ?_))))))
  have hm:=Option.some.inj hm
  subst hm
  exact GL.ret (Gx.ret (v:=.tuple #[Value.slice none 0 0,.int .i64 y14]) (res2 rfl rfl rfl) (fun a w st=>(st.pick [4] (by decide) rfl).toPost (Value.slice none 0 0)))
 replace hm:=z14 b16 hm
 refine GL.skip (GL.seq (GL.region (RL.mv rfl rfl rfl ?_)))
 obtain⟨y23,e24,hm⟩:=z7 hm
 refine RL.call (vs:=[v0]) z72 rfl rfl rfl rfl rfl (fun S f w hS hW hi=>z1g S w hS _ _ (hi 0 _ rfl) _ e24) ?_
 intro v25
 refine RL.mkF (vs:=[v4]) rfl rfl rfl (RL.weak (fun a w st=>st.freezeB 2 rfl) ?_)
 obtain⟨y26,e27,hm⟩:=z7 hm
 refine RL.callK (vs:=[v25,.func (.func 79) #[] #[v4]]) (V:=fun(o:Value)=>o) (LR:=fun(o:Value)=>[own 28 TrD o y26]) (Ls:=[own 28 TrD v25 y23]) [4] (by decide) Tryz_fit78 rfl rfl rfl rfl rfl rfl (fun S f X w hO hB hW hI hL=>z4r _ S X f w _ _  hO hB hI 79 #[v4] Tryz_fit79 (fun a0=>z3k a0 x1) (fun U' w' hle hU' u0 a0 q0 rr hr=>(zdr U' w' hU' u0 a0 q0 _ _ (TR.vrep_mono hle (hL 2 _ _ rfl Sure.imm)) rr hr).mono (fun _ _ z=>z)) _ e27) ?_
 intro v28
 refine RL.reL (L':=[imm (TR.sl TrD) v0 x0,imm (TR.sl TrA) v1 x1,imm (TR.ptr (TR.sl TrA)) v4 x1,imm (TR.sl TrA) v13 x1,gone,own 28 TrD v28 y26]) rfl (RL.asg rfl rfl rfl (RL.asg rfl rfl rfl (RL.finG ?_)))
 have hm:=Option.some.inj hm
 subst hm
 exact GL.ret (Gx.ret (v:=.tuple #[v28,.int .i64 (0:Int)]) (res2 rfl rfl rfl) (fun a w st=>(st.pick [5] (by decide) rfl).toPost v28))
theorem zaf(B:World)(S X:Hp)(f:Nat→Hp)(w:World)(v0:Value)(u0a:Value)(x0:TyH)(hO:z2h B.heap.size S f [obox 87 TrH v0 (x0.1,(x0.2.1,u0a)),obox 98 TrL u0a x0.2.2,keep X].length w)(hB:Below B.heap.size B w)(hI:Its [obox 87 TrH v0 (x0.1,(x0.2.1,u0a)),obox 98 TrL u0a x0.2.2,keep X] S f)(hT:Tab Tryz.prog (Tryz.lays146_ren.g 1) S)(v1:Value)(x1:TyE)(k1:(TrE).vrep S v1 x1)(res:(Int×Int)×Int×TyH)(hm:z30 x0 x1=some res):Calls Tryz.prog 41 #[v0,v1] w (zaj B S (fun(o:Value)=>.tuple #[o,.int .i64 res.2.1]) (fun(o:Value)=>[obox 87 TrH v0 (res.2.2.1,(res.2.2.2.1,u0a)),obox 98 TrL u0a res.2.2.2.2,imm (TR.pair TR.int TR.int) o res.1,keep X])):=by
 refine z2e 125 Tryz.func41 Tryz.ntmps41 rfl B S f [(0,v0),(1,v1)] [obox 87 TrH v0 (x0.1,(x0.2.1,u0a)),obox 98 TrL u0a x0.2.2,keep X] [imm TrE v1 x1] rfl ⟨rfl,⟨rfl,trivial⟩⟩ hB hO hI ⟨k1,trivial⟩ ?_
 unfold z30 at hm
 refine GL.seq (GL.region (RL.box (t:=TrE) (e:=x1) rfl rfl rfl rfl (VR.item 3 rfl) ?_))
 intro v5
 refine RL.alloc (t:=(TR.pair TR.int TR.int)) (z:=((0:Int),(0:Int))) z5j (fun S=>⟨[.int .i64 0],_,rfl,rfl,rfl⟩) rfl rfl rfl ?_
 intro v6
 refine RL.reL (L':=[obox 87 TrH v0 (x0.1,(x0.2.1,u0a)),obox 98 TrL u0a x0.2.2,keep X,imm TrE v1 x1,obox 30 TrE v5 x1,obox 37 (TR.pair TR.int TR.int) v6 ((0:Int),(0:Int))]) rfl (RL.asg rfl rfl rfl (RL.finG (GL.seq (GL.seq (GL.region (RL.mv rfl rfl rfl (RL.fadr (off:=0) (fo:=2) 4 z1d rfl rfl rfl PtOf.obox oi ?_)))))))
 refine RL.ldPx (off:=(0+2)) (e':=x1.2.2.1) 4 Ex.str zh rfl rfl ol rfl PtOf.obox (Part.snd (Part.snd (Part.fst Part.self))) ?_
 obtain⟨y9,e10,hm⟩:=z7 hm
 refine RL.callV (v:=.int .i64 y9) (vs:=[v0,(sv x1.2.2.1)]) zf3 rfl ol rfl rfl rfl rfl (fun U w hU hW hL=>z7t U w hU _ _ (ptr_held (z90.snd (z90.snd (z90.raw rfl))) (hL 0 _ _ rfl Seen.obox) (hL 1 _ _ rfl Seen.obox)) x1.2.2.1 _ e10) (RL.binI (v:=.bool (decide (y9<(0:Int)))) rfl rfl rfl rfl rfl (RL.finG (GL.cond rfl (fun b11=>?_) (fun b11=>?_))))
 ·replace hm:=z13 b11 hm
  refine GL.seq (GL.region ?_)
  refine RL.bld (t:=(TR.pair TR.int TR.int)) (d0:=(((0:Int),(0:Int)):(Int×Int))) (pv:=[]) rfl z5v rfl rfl rfl trivial (fun S f hi=>by
    show TR.rep (TR.pair TR.int TR.int) S (List.flatten [[.int .i64 0],[.int .i64 0]]) _
    simp only[ List.flatten_cons,List.flatten_nil,List.append_nil]
    exact⟨_,_,rfl,rfl,rfl⟩) ?_
  intro v13
  refine RL.stP (off:=0) (e':=(((0:Int),(0:Int)):(Int×Int))) (d1:=(((0:Int),(0:Int)):(Int×Int))) (r:=(TR.pair TR.int TR.int)) 5 zj rfl rfl oi rfl (VR.item 6 rfl) rfl Upd.self (RL.reL (L':=[obox 87 TrH v0 (x0.1,(x0.2.1,u0a)),obox 98 TrL u0a x0.2.2,keep X,imm TrE v1 x1,obox 30 TrE v5 x1,obox 37 (TR.pair TR.int TR.int) v6 (((0:Int),(0:Int)):(Int×Int)),imm (TR.pair TR.int TR.int) v13 (((0:Int),(0:Int)):(Int×Int))]) rfl (RL.asg rfl rfl rfl (RL.finG ?_)))
  have hm:=Option.some.inj hm
  subst hm
  exact GL.ret (Gx.retX [.cell 4 37,.tmp 5] rfl (fun a w st=>by
    have st0:=st
    obtain⟨u14,hu14,st⟩:=st.cellRes (p:=4) (T:=37) 5 zj rfl rfl rfl
    exact⟨[u14,.int .i64 (4:Int)],⟨hu14,⟨(z6j st0.env rfl),trivial⟩⟩,(st.pick [0,1,7,2] (by decide) rfl).toPostM (V:=fun(o:Value)=>.tuple #[o,.int .i64 (((((0:Int),(0:Int)):(Int×Int)),(4:Int),x0).2.1)]) (LR:=fun(o:Value)=>[obox 87 TrH v0 ((((((0:Int),(0:Int)):(Int×Int)),(4:Int),x0).2.2).1,((((((0:Int),(0:Int)):(Int×Int)),(4:Int),x0).2.2).2.1,u0a)),obox 98 TrL u0a ((((((0:Int),(0:Int)):(Int×Int)),(4:Int),x0).2.2).2.2),imm (TR.pair TR.int TR.int) o (((((0:Int),(0:Int)):(Int×Int)),(4:Int),x0).1),keep X]) u14⟩))
 replace hm:=z14 b11 hm
 refine GL.skip (GL.seq (GL.regionA rfl rfl (RA.mv 0 rfl (by kernel_rfl) rfl rfl rfl (RA.mv 4 rfl (by kernel_rfl) rfl rfl rfl (RA.still (le:=q_89) (f:=8) [1,2,3,5,6,7,8,9,10,11] 12 rfl (by kernel_rfl) ?_)))))
 simp only[z6h,List.getElem?_toArray,List.getElem?_cons_succ,List.getElem?_cons_zero]
 refine RL.nilk 0 rfl rfl rfl rfl PtOf.obox (RL.fadr (off:=0) (fo:=1) 0 z2t rfl rfl rfl PtOf.obox oi (RL.ldP (off:=(0+1)) (r:=(TR.sl TrD)) (e':=x0.2.1) 0 z4a rfl rfl ol rfl PtOf.obox (Part.snd (Part.fst Part.self)) ?_))
 intro v21
 refine RL.nilk 0 rfl rfl rfl rfl PtOf.obox (RL.fadr (off:=0) (fo:=0) 0 z3s rfl rfl rfl PtOf.obox oi (RL.ldP (off:=(0+0)) (r:=(TR.sl TrA)) (e':=x0.1) 0 z4b rfl rfl ol rfl PtOf.obox (Part.fst Part.self) ?_))
 intro v22
 refine RL.fadr (off:=0) (fo:=2) 4 z1d rfl rfl rfl PtOf.obox oi (RL.ldPx (off:=(0+2)) (e':=x1.2.2.1) 4 Ex.str zh rfl rfl ol rfl PtOf.obox (Part.snd (Part.snd (Part.fst Part.self))) (RL.fadr (off:=0) (fo:=1) 4 z1a rfl rfl rfl PtOf.obox oi (RL.ldPx (off:=(0+1)) (e':=x1.2.1) 4 Ex.ik zd rfl rfl ol rfl PtOf.obox (Part.snd (Part.fst Part.self)) (RL.finH (RL.fin (RA.next (RA.seq 12 rfl (by kernel_rfl) ?_)))))))
 obtain⟨y23,e24,hm⟩:=z7 hm
 refine RL.call (vs:=[v21,v22,(sv x1.2.2.1),.int .i64 x1.2.1]) Tryz_fit55 rfl rfl rfl rfl rfl (fun S f w hS hW hi=>pick_Build_c S w hS _ _ (hi 6 _ rfl) _ _ (hi 7 _ rfl) x1.2.2.1 x1.2.1 _ e24) ?_
 intro⟨v25,v26⟩
 refine RL.fin (RA.next (RA.quiet 13 rfl rfl (by kernel_rfl) ?_))
 simp only[List.drop_succ_cons,List.drop_zero]
 refine RL.mv rfl rfl rfl (RL.ext rfl rfl rfl rfl (RL.ext rfl rfl rfl rfl (RL.ext rfl rfl rfl rfl (RL.asg rfl rfl rfl (RL.asg rfl rfl rfl (RL.asg rfl rfl rfl (RL.finQ ?_)))))))
 refine RA.outQ (GL.weak (env':=[(0,v0),(3,v5),(4,v6),(6,v25),(7,v26),(8,.int .i64 y23.2.2)]) (L':=[obox 87 TrH v0 (x0.1,(x0.2.1,u0a)),obox 98 TrL u0a x0.2.2,keep X,obox 30 TrE v5 x1,obox 37 (TR.pair TR.int TR.int) v6 ((0:Int),(0:Int)),own 3 TR.int v25 y23.1,own 94 TrA v26 y23.2.1]) (fun a w st=>St.cut [0,1,2,4,5,8,9] ⟨rfl,rfl,rfl,rfl,rfl,rfl,trivial⟩ (by decide) rfl st) (GL.seq (GL.seq (GL.region (RL.mv rfl rfl rfl (RL.binI (v:=.bool (y23.2.2 != (0:Int))) rfl rfl rfl rfl rfl (RL.finG ?_)))))))
 refine GL.cond rfl (fun b27=>?_) (fun b27=>?_)
 ·replace hm:=z13 b27 hm
  refine GL.seq (GL.region ?_)
  refine RL.bld (t:=(TR.pair TR.int TR.int)) (d0:=(((0:Int),(0:Int)):(Int×Int))) (pv:=[]) rfl z5v rfl rfl rfl trivial (fun S f hi=>by
    show TR.rep (TR.pair TR.int TR.int) S (List.flatten [[.int .i64 0],[.int .i64 0]]) _
    simp only[ List.flatten_cons,List.flatten_nil,List.append_nil]
    exact⟨_,_,rfl,rfl,rfl⟩) ?_
  intro v29
  refine RL.mv rfl rfl rfl (RL.stP (off:=0) (e':=(((0:Int),(0:Int)):(Int×Int))) (d1:=(((0:Int),(0:Int)):(Int×Int))) (r:=(TR.pair TR.int TR.int)) 4 zj rfl rfl oi rfl (VR.item 7 rfl) rfl Upd.self (RL.reL (L':=[obox 87 TrH v0 (x0.1,(x0.2.1,u0a)),obox 98 TrL u0a x0.2.2,keep X,obox 30 TrE v5 x1,obox 37 (TR.pair TR.int TR.int) v6 (((0:Int),(0:Int)):(Int×Int)),own 3 TR.int v25 y23.1,own 94 TrA v26 y23.2.1,imm (TR.pair TR.int TR.int) v29 (((0:Int),(0:Int)):(Int×Int))]) rfl (RL.asg rfl rfl rfl (RL.finG ?_))))
  have hm:=Option.some.inj hm
  subst hm
  exact GL.ret (Gx.retX [.cell 4 37,.tmp 5] rfl (fun a w st=>by
    have st0:=st
    obtain⟨u30,hu30,st⟩:=st.cellRes (p:=4) (T:=37) 4 zj rfl rfl rfl
    exact⟨[u30,.int .i64 y23.2.2],⟨hu30,⟨(z6j st0.env rfl),trivial⟩⟩,(st.pick [0,1,8,2] (by decide) rfl).toPostM (V:=fun(o:Value)=>.tuple #[o,.int .i64 (((((0:Int),(0:Int)):(Int×Int)),y23.2.2,x0).2.1)]) (LR:=fun(o:Value)=>[obox 87 TrH v0 ((((((0:Int),(0:Int)):(Int×Int)),y23.2.2,x0).2.2).1,((((((0:Int),(0:Int)):(Int×Int)),y23.2.2,x0).2.2).2.1,u0a)),obox 98 TrL u0a ((((((0:Int),(0:Int)):(Int×Int)),y23.2.2,x0).2.2).2.2),imm (TR.pair TR.int TR.int) o (((((0:Int),(0:Int)):(Int×Int)),y23.2.2,x0).1),keep X]) u30⟩))
 replace hm:=z14 b27 hm
 refine GL.skip (GL.seq (GL.region (RL.asg rfl rfl rfl (RL.finG (GL.seq (GL.region (RL.mv rfl rfl rfl ?_)))))))
 refine RL.nilk 0 rfl rfl rfl rfl PtOf.obox (RL.fadr (off:=0) (fo:=2) 0 z10 rfl rfl rfl PtOf.obox oi (RL.ldPx (off:=(0+2)) (e':=u0a) 0 Ex.raw z1p rfl rfl ol rfl PtOf.obox (Part.snd (Part.snd Part.self)) ?_))
 obtain⟨y33,e34,hm⟩:=z7 hm
 refine RL.callV (v:=.tuple #[.int .i64 y33.1,.int .i64 y33.2]) (vs:=[u0a]) Tryz_fit56 rfl ol rfl rfl rfl rfl (fun U w hU hW hL=>zea U w hU _ _ (hL 1 _ _ rfl Seen.obox) _ e34) (RL.mv rfl rfl rfl (RL.ext rfl rfl rfl rfl (RL.ext rfl rfl rfl rfl (RL.asg rfl rfl rfl (RL.asg rfl rfl rfl (RL.finG (GL.seq ?_)))))))
 refine GL.region (RL.asg rfl rfl rfl (RL.finG (GL.seq (GL.seq (GL.region (RL.mv rfl rfl rfl (RL.lenS 5 Tryz.underlying107 rfl rfl rfl rfl SlOf.own ?_)))))))
 refine RL.mv rfl rfl rfl (RL.finG (GL.weak (fun a w st=>st.nilOwn 9 TR.str) (GL.lenOwn 5 rfl (fun n69=>?_))))
 obtain⟨y70,K71,h72,h73,h74,h75,h76⟩:=z1z hm
 refine GL.join (ι:=(List B8)×Int×Int×Value) (fun(p:(List B8)×Int×Int×Value)=>[(0,v0),(4,v6),(6,v25),(7,v26),(9,p.2.2.2),(10,.int .i64 p.2.1),(12,.int .i64 p.2.2.1)]) (fun(p:(List B8)×Int×Int×Value)=>[obox 87 TrH v0 (x0.1,(x0.2.1,u0a)),obox 98 TrL u0a x0.2.2,keep X,obox 37 (TR.pair TR.int TR.int) v6 ((0:Int),(0:Int)),own 3 TR.int v25 y23.1,own 94 TrA v26 y23.2.1,own 9 TR.str p.2.2.2 p.1]) (fun(p:(List B8)×Int×Int×Value)=>K71 (.nx (p.1,p.2.1,p.2.2.1))) ?_ ?_
 ·refine GL.block (GL.loop (ι:=Nat×Nat×(List B8)×Int×Int×Value) (fun(p:Nat×Nat×(List B8)×Int×Int×Value)=>[(0,v0),(3,v5),(4,v6),(6,v25),(7,v26),(9,p.2.2.2.2.2),(10,.int .i64 p.2.2.2.1),(12,.int .i64 p.2.2.2.2.1),(53,v25),(54,.int .i64 ((y23.1).length:Int)),(55,.int .i64 (p.1:Int))]) (fun(p:Nat×Nat×(List B8)×Int×Int×Value)=>[obox 87 TrH v0 (x0.1,(x0.2.1,u0a)),obox 98 TrL u0a x0.2.2,obox 30 TrE v5 x1,obox 37 (TR.pair TR.int TR.int) v6 ((0:Int),(0:Int)),own 3 TR.int v25 y23.1,own 94 TrA v26 y23.2.1,own 9 TR.str p.2.2.2.2.2 p.2.2.1,keep X]) (fun(p:Nat×Nat×(List B8)×Int×Int×Value)=>p.1+p.2.1=(y23.1).length∧z5s (z2q y23 x0 x1) p.2.1 p.1 (p.2.2.1,p.2.2.2.1,p.2.2.2.2.1)=some y70) (fun(p:Nat×Nat×(List B8)×Int×Int×Value)=>p.2.1) (0,(y23.1).length,[],y33.1,(0:Int),Value.slice none 0 0) ⟨by simp,h72⟩ (fun a w st=>St.cut [0,1,3,4,5,6,7,2] ⟨rfl,rfl,rfl,rfl,rfl,rfl,rfl,rfl,rfl,rfl,rfl,trivial⟩ (by decide) rfl st) ?_)
  rintro⟨i77,r78,l35,x37,x38,v36⟩ ⟨h83,h82⟩
  try dsimp only at h83 h82
  refine GL.weak (env':=[(0,v0),(3,v5),(4,v6),(6,v25),(7,v26),(9,v36),(10,.int .i64 x37),(12,.int .i64 x38),(53,v25),(54,.int .i64 ((y23.1).length:Int)),(55,.int .i64 (i77:Int))]) (L':=[obox 87 TrH v0 (x0.1,(x0.2.1,u0a)),obox 98 TrL u0a x0.2.2,obox 30 TrE v5 x1,obox 37 (TR.pair TR.int TR.int) v6 ((0:Int),(0:Int)),own 3 TR.int v25 y23.1,own 94 TrA v26 y23.2.1,own 9 TR.str v36 l35,keep X]) ss (GL.seq (GL.region (RL.binI (v:=.bool (decide ((i77:Int)<((y23.1).length:Int)))) rfl rfl rfl rfl rfl (RL.finG (GL.seq (GL.cond rfl (fun b85=>?_) (fun b85=>?_)))))))
  ·have h86:i77<(y23.1).length:=by have:=of_decide_eq_true b85;omega
   obtain⟨r87,hr⟩:∃ m,r78=m+1:=⟨r78-1,by omega⟩
   subst hr
   obtain⟨z79,h80,h81⟩:=z8n h82
   unfold z2q at h80
   try dsimp only at h80
   refine GL.skip (GL.seq (GL.block (GL.seq (GL.region ?_))))
   obtain⟨y90,e91,h80⟩:=z7 h80
   refine RL.idxS (sz:=1) 4 Tryz.underlying107 zd rfl rfl rfl rfl rfl SlOf.own (z8 e91).1 (z8 e91).2.1 (RL.ldSx (i:=i77) (e':=y90) 4 Ex.ik zd rfl rfl rfl rfl SlOf.own (z8 e91).2.2 Part.self (RL.asg rfl rfl rfl (RL.finG (GL.seq (GL.regionQ rfl rfl (by kernel_rfl) (RL.mv rfl rfl rfl (RL.nilk 0 rfl rfl rfl rfl PtOf.obox ?_)))))))
   refine RL.fadr (off:=0) (fo:=1) 0 z2t rfl rfl rfl PtOf.obox oi (RL.ldP (off:=(0+1)) (r:=(TR.sl TrD)) (e':=x0.2.1) 0 z4a rfl rfl ol rfl PtOf.obox (Part.snd (Part.fst Part.self)) ?_)
   intro v98
   refine RL.mv rfl rfl rfl ?_
   obtain⟨y99,e100,h80⟩:=z7 h80
   refine RL.idxS (sz:=6) 8 Tryz.underlying85 zu rfl rfl rfl rfl rfl SlOf.imm (z8 e100).1 (z8 e100).2.1 (RL.ldS (i:=(y90).toNat) (r:=TrD) (e':=y99) 8 zu rfl rfl rfl rfl SlOf.imm (z8 e100).2.2 Part.self ?_)
   intro v101
   refine RL.reL (L':=[obox 87 TrH v0 (x0.1,(x0.2.1,u0a)),obox 98 TrL u0a x0.2.2,obox 30 TrE v5 x1,obox 37 (TR.pair TR.int TR.int) v6 ((0:Int),(0:Int)),own 3 TR.int v25 y23.1,own 94 TrA v26 y23.2.1,own 9 TR.str v36 l35,keep X,imm (TR.sl TrD) v98 x0.2.1,imm TrD v101 y99]) rfl (RL.fadr (off:=0) (fo:=2) 2 z1d rfl rfl rfl PtOf.obox oi (RL.ldPx (off:=(0+2)) (e':=x1.2.2.1) 2 Ex.str zh rfl rfl ol rfl PtOf.obox (Part.snd (Part.snd (Part.fst Part.self))) ?_))
   obtain⟨y102,e103,h80⟩:=z7 h80
   refine RL.callV (v:=(sv y102)) (vs:=[v101,(sv x1.2.2.1)]) Tryz_fit57 rfl (Or.inr ⟨_,rfl⟩) rfl rfl rfl rfl (fun U w hU hW hL=>house_deal_c U w hU (hT.mono hW) _ _ (hL 9 _ _ rfl Seen.imm) x1.2.2.1 _ e103) (RL.asg rfl rfl rfl (RL.finQG (GL.seq (GL.region (RL.mv rfl rfl rfl (RL.mv rfl rfl rfl (RL.bS (t:=TR.str) (vs:=[(sv y102)]) ([y102]:(List B8)) Tryz.underlying110 zcf rfl rfl rfl rfl ⟨VR.str,trivial⟩ rfl (by decide) ?_)))))))
   intro v108
   obtain⟨y109,e110,h80⟩:=z7 h80
   replace e110:=z15 e110
   refine RL.app 6 10 Tryz.underlying110 zcf rfl rfl rfl rfl rfl rfl rfl SlOf.own e110 ?_
   intro v111
   refine RL.reL (L':=[obox 87 TrH v0 (x0.1,(x0.2.1,u0a)),obox 98 TrL u0a x0.2.2,obox 30 TrE v5 x1,obox 37 (TR.pair TR.int TR.int) v6 ((0:Int),(0:Int)),own 3 TR.int v25 y23.1,own 94 TrA v26 y23.2.1,own 9 TR.str v111 (l35++([y102]:(List B8))),keep X,imm (TR.sl TrD) v98 x0.2.1,imm TrD v101 y99,own 9 TR.str v108 ([y102]:(List B8))]) rfl (RL.asg rfl rfl rfl (RL.finG (GL.seq (GL.region (RL.mv rfl rfl rfl (RL.mv rfl rfl rfl (RL.lenT Tryz.underlying9 rfl rfl rfl ?_)))))))
   refine RL.binI (v:=.int .i64 (wadd ((y102).length:Int) (3:Int))) rfl rfl rfl rfl rfl (RL.binI (v:=.int .i64 (wadd x37 (wadd ((y102).length:Int) (3:Int)))) rfl rfl rfl rfl rfl (RL.asg rfl rfl rfl (RL.finG (GL.region (RL.mv rfl rfl rfl (RL.mv rfl rfl rfl (RL.nilk 0 rfl rfl rfl rfl PtOf.obox ?_)))))))
   refine RL.fadr (off:=0) (fo:=1) 0 z2t rfl rfl rfl PtOf.obox oi (RL.ldP (off:=(0+1)) (r:=(TR.sl TrD)) (e':=x0.2.1) 0 z4a rfl rfl ol rfl PtOf.obox (Part.snd (Part.fst Part.self)) ?_)
   intro v115
   refine RL.mv rfl rfl rfl ?_
   obtain⟨y116,e117,h80⟩:=z7 h80
   refine RL.idxS (sz:=6) 11 Tryz.underlying85 zu rfl rfl rfl rfl rfl SlOf.imm (z8 e117).1 (z8 e117).2.1 (RL.fadrS (off:=((y90).toNat*6)) (fo:=4) 11 z2i rfl rfl rfl SlOf.imm (by have:=(List.getElem?_eq_some_iff.1 (z8 e117).2.2).1;(try dsimp only at this ⊢);omega) rfl ?_)
   refine RL.ldSx (i:=(y90).toNat) (e':=y116.2.2.2.2.1) 11 Ex.ik zd rfl rfl rfl rfl SlOf.imm (z8 e117).2.2 (Part.snd (Part.snd (Part.snd (Part.snd (Part.fst Part.self))))) (RL.binI (v:=.int .i64 (wadd x38 y116.2.2.2.2.1)) rfl rfl rfl rfl rfl (RL.asg rfl rfl rfl (RL.finG (GL.nilB (GL.region (RL.binI (v:=.int .i64 ((i77+1:Nat):Int)) rfl rfl rfl rfl (binI_succ i77 (by omega)) (RL.mv rfl rfl rfl ?_)))))))
   refine RL.fin ?_
   cases h80
   exact fun a w st=>z1l (i77+1,r87,(l35++([y102]:(List B8))),wadd x37 (wadd ((y102).length:Int) (3:Int)),wadd x38 y116.2.2.2.2.1,v111) ⟨by show i77+1+r87=(y23.1).length;omega,h81⟩ (by simp) (st.cu [0,1,2,3,4,5,6,7])
  have h86:¬ i77<(y23.1).length:=by have:=of_decide_eq_false b85;omega
  obtain rfl:r78=0:=by omega
  replace h82:some (Fl.nx _)=some y70:=h82
  cases h82
  exact GL.exit (fun a w st=>ze (l35,x37,x38,v36) h73 (st.cu [0,1,7,3,4,5,6]))
 rintro⟨l35,x37,x38,v36⟩ h118
 have h119:=h74 _ h118
 try dsimp only at h119
 refine GL.weak (env':=[(0,v0),(4,v6),(6,v25),(7,v26),(9,v36),(10,.int .i64 x37),(12,.int .i64 x38)]) (L':=[obox 87 TrH v0 (x0.1,(x0.2.1,u0a)),obox 98 TrL u0a x0.2.2,keep X,obox 37 (TR.pair TR.int TR.int) v6 ((0:Int),(0:Int)),own 3 TR.int v25 y23.1,own 94 TrA v26 y23.2.1,own 9 TR.str v36 l35]) ss (GL.seq (GL.seq (GL.region (RL.mv rfl rfl rfl (RL.binI (v:=.bool (decide (x37>(4000:Int)))) rfl rfl rfl rfl rfl (RL.finG (GL.cond rfl (fun b120=>?_) (fun b120=>?_))))))))
 ·replace h119:=z13 b120 h119
  refine GL.seq (GL.region ?_)
  refine RL.bld (t:=(TR.pair TR.int TR.int)) (d0:=(((0:Int),(0:Int)):(Int×Int))) (pv:=[]) rfl z5v rfl rfl rfl trivial (fun S f hi=>by
    show TR.rep (TR.pair TR.int TR.int) S (List.flatten [[.int .i64 0],[.int .i64 0]]) _
    simp only[ List.flatten_cons,List.flatten_nil,List.append_nil]
    exact⟨_,_,rfl,rfl,rfl⟩) ?_
  intro v122
  refine RL.stP (off:=0) (e':=(((0:Int),(0:Int)):(Int×Int))) (d1:=(((0:Int),(0:Int)):(Int×Int))) (r:=(TR.pair TR.int TR.int)) 3 zj rfl rfl oi rfl (VR.item 7 rfl) rfl Upd.self (RL.reL (L':=[obox 87 TrH v0 (x0.1,(x0.2.1,u0a)),obox 98 TrL u0a x0.2.2,keep X,obox 37 (TR.pair TR.int TR.int) v6 (((0:Int),(0:Int)):(Int×Int)),own 3 TR.int v25 y23.1,own 94 TrA v26 y23.2.1,own 9 TR.str v36 l35,imm (TR.pair TR.int TR.int) v122 (((0:Int),(0:Int)):(Int×Int))]) rfl (RL.asg rfl rfl rfl (RL.finG ?_)))
  have h119:=Option.some.inj h119
  subst h119
  exact GL.ret (Gx.retX [.cell 4 37,.tmp 5] rfl (fun a w st=>by
    have st0:=st
    obtain⟨u123,hu123,st⟩:=st.cellRes (p:=4) (T:=37) 3 zj rfl rfl rfl
    exact⟨[u123,.int .i64 (8:Int)],⟨hu123,⟨(z6j st0.env rfl),trivial⟩⟩,(st.pick [0,1,8,2] (by decide) rfl).toPostM (V:=fun(o:Value)=>.tuple #[o,.int .i64 (((((0:Int),(0:Int)):(Int×Int)),(8:Int),x0).2.1)]) (LR:=fun(o:Value)=>[obox 87 TrH v0 ((((((0:Int),(0:Int)):(Int×Int)),(8:Int),x0).2.2).1,((((((0:Int),(0:Int)):(Int×Int)),(8:Int),x0).2.2).2.1,u0a)),obox 98 TrL u0a ((((((0:Int),(0:Int)):(Int×Int)),(8:Int),x0).2.2).2.2),imm (TR.pair TR.int TR.int) o (((((0:Int),(0:Int)):(Int×Int)),(8:Int),x0).1),keep X]) u123⟩))
 replace h119:=z14 b120 h119
 refine GL.skip (GL.seq (GL.seq (GL.region (RL.mv rfl rfl rfl (RL.lenS 6 Tryz.underlying110 rfl rfl rfl rfl SlOf.own (RL.mv rfl rfl rfl (RL.finG ?_)))))))
 refine GL.lenOwn 6 rfl (fun n141=>?_)
 obtain⟨y142,K143,h144,h145,h146,h147,h148⟩:=z1z h119
 refine GL.join (ι:=TyH) (fun(p:TyH)=>[(0,v0),(4,v6),(6,v25),(7,v26),(12,.int .i64 x38)]) (fun(p:TyH)=>[obox 87 TrH v0 (p.1,(p.2.1,u0a)),obox 98 TrL u0a p.2.2,keep X,obox 37 (TR.pair TR.int TR.int) v6 ((0:Int),(0:Int)),own 3 TR.int v25 y23.1,own 94 TrA v26 y23.2.1]) (fun(p:TyH)=>K143 (.nx p)) ?_ ?_
 ·refine GL.block (GL.loop (ι:=Nat×Nat×TyH) (fun(p:Nat×Nat×TyH)=>[(0,v0),(4,v6),(6,v25),(7,v26),(12,.int .i64 x38),(92,v36),(93,.int .i64 ((l35).length:Int)),(94,.int .i64 (p.1:Int))]) (fun(p:Nat×Nat×TyH)=>[obox 87 TrH v0 (p.2.2.1,(p.2.2.2.1,u0a)),obox 98 TrL u0a p.2.2.2.2,obox 37 (TR.pair TR.int TR.int) v6 ((0:Int),(0:Int)),own 3 TR.int v25 y23.1,own 94 TrA v26 y23.2.1,own 9 TR.str v36 l35,keep X]) (fun(p:Nat×Nat×TyH)=>p.1+p.2.1=(l35).length∧z5s (z2p l35) p.2.1 p.1 p.2.2=some y142) (fun(p:Nat×Nat×TyH)=>p.2.1) (0,(l35).length,x0) ⟨by simp,h144⟩ (fun a w st=>St.cut [0,1,3,4,5,6,2] ⟨rfl,rfl,rfl,rfl,rfl,rfl,rfl,rfl,trivial⟩ (by decide) rfl st) ?_)
  rintro⟨i149,r150,l132⟩ ⟨h155,h154⟩
  try dsimp only at h155 h154
  refine GL.weak (env':=[(0,v0),(4,v6),(6,v25),(7,v26),(12,.int .i64 x38),(92,v36),(93,.int .i64 ((l35).length:Int)),(94,.int .i64 (i149:Int))]) (L':=[obox 87 TrH v0 (l132.1,(l132.2.1,u0a)),obox 98 TrL u0a l132.2.2,obox 37 (TR.pair TR.int TR.int) v6 ((0:Int),(0:Int)),own 3 TR.int v25 y23.1,own 94 TrA v26 y23.2.1,own 9 TR.str v36 l35,keep X]) ss (GL.seq (GL.region (RL.binI (v:=.bool (decide ((i149:Int)<((l35).length:Int)))) rfl rfl rfl rfl rfl (RL.finG (GL.seq (GL.cond rfl (fun b157=>?_) (fun b157=>?_)))))))
  ·have h158:i149<(l35).length:=by have:=of_decide_eq_true b157;omega
   obtain⟨r159,hr⟩:∃ m,r150=m+1:=⟨r150-1,by omega⟩
   subst hr
   obtain⟨z151,h152,h153⟩:=z8n h154
   unfold z2p at h152
   try dsimp only at h152
   refine GL.skip (GL.seq (GL.block (GL.seq (GL.region ?_))))
   obtain⟨y162,e163,h152⟩:=z7 h152
   refine RL.idxS (sz:=1) 5 Tryz.underlying110 zh rfl rfl rfl rfl rfl SlOf.own (z8 e163).1 (z8 e163).2.1 (RL.ldSx (i:=i149) (e':=y162) 5 Ex.str zh rfl rfl rfl rfl SlOf.own (z8 e163).2.2 Part.self (RL.asg rfl rfl rfl (RL.finG (GL.region (RL.mv rfl rfl rfl (RL.nilk 0 rfl rfl rfl rfl PtOf.obox (RL.fadr (off:=0) (fo:=2) 0 z10 rfl rfl rfl PtOf.obox oi ?_)))))))
   refine RL.ldPx (off:=(0+2)) (e':=u0a) 0 Ex.raw z1p rfl rfl ol rfl PtOf.obox (Part.snd (Part.snd Part.self)) (RL.mv rfl rfl rfl ?_)
   obtain⟨y166,e167,h152⟩:=z7 h152
   refine RL.callK (vs:=[u0a,(sv y162)]) (V:=fun(o:Unit)=>.int .i64 y166.1) (LR:=fun(o:Unit)=>[obox 98 TrL u0a y166.2]) (Ls:=[obox 98 TrL u0a l132.2.2]) [1] (by decide) zf1 rfl rfl rfl rfl rfl rfl (fun S f X w hO hB hW hI hL=>z93 _ S X f w _ _  hO hB hI y162 _ e167) ?_
   intro _
   refine RL.reL (L':=[obox 87 TrH v0 (l132.1,(l132.2.1,u0a)),gone,obox 37 (TR.pair TR.int TR.int) v6 ((0:Int),(0:Int)),own 3 TR.int v25 y23.1,own 94 TrA v26 y23.2.1,own 9 TR.str v36 l35,keep X,obox 98 TrL u0a y166.2]) rfl (RL.finG (GL.nilB (GL.region (RL.binI (v:=.int .i64 ((i149+1:Nat):Int)) rfl rfl rfl rfl (binI_succ i149 (by omega)) (RL.mv rfl rfl rfl (RL.fin ?_))))))
   cases h152
   exact fun a w st=>z1l (i149+1,r159,(l132.1,(l132.2.1,y166.2))) ⟨by show i149+1+r159=(l35).length;omega,h153⟩ (by simp) (st.cu [0,7,2,3,4,5,6])
  have h158:¬ i149<(l35).length:=by have:=of_decide_eq_false b157;omega
  obtain rfl:r150=0:=by omega
  replace h154:some (Fl.nx _)=some y142:=h154
  cases h154
  exact GL.exit (fun a w st=>ze l132 h145 (st.cu [0,1,6,2,3,4]))
 rintro l132 h168
 have h169:=h146 _ h168
 try dsimp only at h169
 refine GL.weak (env':=[(0,v0),(4,v6),(6,v25),(7,v26),(12,.int .i64 x38)]) (L':=[obox 87 TrH v0 (l132.1,(l132.2.1,u0a)),obox 98 TrL u0a l132.2.2,keep X,obox 37 (TR.pair TR.int TR.int) v6 ((0:Int),(0:Int)),own 3 TR.int v25 y23.1,own 94 TrA v26 y23.2.1]) ss (GL.seq (GL.region (RL.mv rfl rfl rfl (RL.mv rfl rfl rfl (RL.nilk 0 rfl rfl rfl rfl PtOf.obox (RL.fadr (off:=0) (fo:=0) 0 z3s rfl rfl rfl PtOf.obox oi (RL.weak (fun a w st=>st.freeze 5 rfl) ?_)))))))
 refine RL.stP (off:=(0+0)) (e':=y23.2.1) (d1:=((y23.2.1,l132.2).1,((y23.2.1,l132.2).2.1,u0a))) (r:=(TR.sl TrA)) 0 z4b rfl rfl ol rfl (VR.item 5 rfl) rfl (Upd.fst Upd.self) (RL.reL (L':=[obox 87 TrH v0 ((y23.2.1,l132.2).1,((y23.2.1,l132.2).2.1,u0a)),obox 98 TrL u0a l132.2.2,keep X,obox 37 (TR.pair TR.int TR.int) v6 ((0:Int),(0:Int)),own 3 TR.int v25 y23.1,imm (TR.sl TrA) v26 y23.2.1]) rfl (RL.finG (GL.seq (GL.region (RL.mv rfl rfl rfl (RL.mv rfl rfl rfl (RL.nilk 0 rfl rfl rfl rfl PtOf.obox ?_)))))))
 refine RL.fadr (off:=0) (fo:=1) 0 z2t rfl rfl rfl PtOf.obox oi (RL.ldP (off:=(0+1)) (r:=(TR.sl TrD)) (e':=(y23.2.1,l132.2).2.1) 0 z4a rfl rfl ol rfl PtOf.obox (Part.snd (Part.fst Part.self)) ?_)
 intro v174
 refine RL.mv rfl rfl rfl ?_
 obtain⟨y175,e176,h169⟩:=z7 h169
 refine RL.call (vs:=[v174,v26]) Tryz_fit58 rfl rfl rfl rfl rfl (fun S f w hS hW hi=>zfn S w hS _ _ (hi 6 _ rfl) _ _ (hi 5 _ rfl) _ e176) ?_
 intro v177
 refine RL.reL (L':=[obox 87 TrH v0 ((y23.2.1,l132.2).1,((y23.2.1,l132.2).2.1,u0a)),obox 98 TrL u0a l132.2.2,keep X,obox 37 (TR.pair TR.int TR.int) v6 ((0:Int),(0:Int)),own 3 TR.int v25 y23.1,imm (TR.sl TrA) v26 y23.2.1,imm (TR.sl TrD) v174 ((y23.2.1,l132.2).2.1),own 28 TrD v177 y175.1]) rfl (RL.mv rfl rfl rfl (RL.ext rfl rfl rfl rfl (RL.ext rfl rfl rfl rfl (RL.nilk 0 rfl rfl rfl rfl PtOf.obox (RL.fadr (off:=0) (fo:=1) 0 z2t rfl rfl rfl PtOf.obox oi (RL.weak (fun a w st=>st.freeze 7 rfl) (RL.stP (off:=(0+1)) (e':=y175.1) (d1:=(((y23.2.1,l132.2).1,(y175.1,(y23.2.1,l132.2).2.2)).1,(((y23.2.1,l132.2).1,(y175.1,(y23.2.1,l132.2).2.2)).2.1,u0a))) (r:=(TR.sl TrD)) 0 z4a rfl rfl ol rfl (VR.item 7 rfl) rfl (Upd.snd (Upd.fst Upd.self)) ?_)))))))
 refine RL.reL (L':=[obox 87 TrH v0 (((y23.2.1,l132.2).1,(y175.1,(y23.2.1,l132.2).2.2)).1,(((y23.2.1,l132.2).1,(y175.1,(y23.2.1,l132.2).2.2)).2.1,u0a)),obox 98 TrL u0a l132.2.2,keep X,obox 37 (TR.pair TR.int TR.int) v6 ((0:Int),(0:Int)),own 3 TR.int v25 y23.1,imm (TR.sl TrA) v26 y23.2.1,imm (TR.sl TrD) v174 ((y23.2.1,l132.2).2.1),imm (TR.sl TrD) v177 y175.1]) rfl (RL.finG (GL.seq (GL.region (RL.mv rfl rfl rfl (RL.lenS 4 Tryz.underlying107 rfl rfl rfl rfl SlOf.own (RL.mv rfl rfl rfl ?_))))))
 refine RL.bld (t:=(TR.pair TR.int TR.int)) (d0:=((((y23.1).length:Int),x38):(Int×Int))) (pv:=[(0,.int .i64 ((y23.1).length:Int)),(1,.int .i64 x38)]) rfl z5v rfl rfl rfl ⟨⟨_,_,TR.int,((y23.1).length:Int),rfl,rfl,VR.int⟩,⟨⟨_,_,TR.int,x38,rfl,rfl,VR.int⟩,trivial⟩⟩ (fun S f hi=>by
   obtain⟨c0,e0,r0⟩:=z28 (t:=TR.int) (u:=.int .i64 ((y23.1).length:Int)) (e:=((y23.1).length:Int)) (VR.int S f hi)
   obtain⟨c1,e1,r1⟩:=z28 (t:=TR.int) (u:=.int .i64 x38) (e:=x38) (VR.int S f hi)
   show TR.rep (TR.pair TR.int TR.int) S (List.flatten [(.int .i64 ((y23.1).length:Int):Value).cells.toList,(.int .i64 x38:Value).cells.toList]) _
   simp only[e0,e1,List.flatten_cons,List.flatten_nil,List.append_nil]
   exact⟨_,_,rfl,r0,r1⟩) ?_
 intro v179
 refine RL.stP (off:=0) (e':=((((y23.1).length:Int),x38):(Int×Int))) (d1:=((((y23.1).length:Int),x38):(Int×Int))) (r:=(TR.pair TR.int TR.int)) 3 zj rfl rfl oi rfl (VR.item 8 rfl) rfl Upd.self (RL.reL (L':=[obox 87 TrH v0 (((y23.2.1,l132.2).1,(y175.1,(y23.2.1,l132.2).2.2)).1,(((y23.2.1,l132.2).1,(y175.1,(y23.2.1,l132.2).2.2)).2.1,u0a)),obox 98 TrL u0a l132.2.2,keep X,obox 37 (TR.pair TR.int TR.int) v6 ((((y23.1).length:Int),x38):(Int×Int)),own 3 TR.int v25 y23.1,imm (TR.sl TrA) v26 y23.2.1,imm (TR.sl TrD) v174 ((y23.2.1,l132.2).2.1),imm (TR.sl TrD) v177 y175.1,imm (TR.pair TR.int TR.int) v179 ((((y23.1).length:Int),x38):(Int×Int))]) rfl (RL.asg rfl rfl rfl (RL.finG ?_)))
 have h169:=Option.some.inj h169
 subst h169
 exact GL.ret (Gx.retX [.cell 4 37,.tmp 5] rfl (fun a w st=>by
   have st0:=st
   obtain⟨u180,hu180,st⟩:=st.cellRes (p:=4) (T:=37) 3 zj rfl rfl rfl
   exact⟨[u180,.int .i64 (0:Int)],⟨hu180,⟨(z6j st0.env rfl),trivial⟩⟩,(st.pick [0,1,9,2] (by decide) rfl).toPostM (V:=fun(o:Value)=>.tuple #[o,.int .i64 ((((((y23.1).length:Int),x38):(Int×Int)),(0:Int),(y23.2.1,(y175.1,l132.2.2))).2.1)]) (LR:=fun(o:Value)=>[obox 87 TrH v0 (((((((y23.1).length:Int),x38):(Int×Int)),(0:Int),(y23.2.1,(y175.1,l132.2.2))).2.2).1,(((((((y23.1).length:Int),x38):(Int×Int)),(0:Int),(y23.2.1,(y175.1,l132.2.2))).2.2).2.1,u0a)),obox 98 TrL u0a (((((((y23.1).length:Int),x38):(Int×Int)),(0:Int),(y23.2.1,(y175.1,l132.2.2))).2.2).2.2),imm (TR.pair TR.int TR.int) o ((((((y23.1).length:Int),x38):(Int×Int)),(0:Int),(y23.2.1,(y175.1,l132.2.2))).1),keep X]) u180⟩))
theorem ze9(B:World)(S X:Hp)(f:Nat→Hp)(w:World)(v0:Value)(x0:(B8×Int))(hO:z2h B.heap.size S f [obox 98 TrL v0 x0,keep X].length w)(hB:Below B.heap.size B w)(hI:Its [obox 98 TrL v0 x0,keep X] S f)  (res:(B8×Int))(hm:z7z x0=some res):Calls Tryz.prog 42 #[v0] w (zaj B S (fun(o:Unit)=>.tuple #[]) (fun(o:Unit)=>[obox 98 TrL v0 res,keep X])):=by
 refine z2e 10 Tryz.func42 Tryz.ntmps42 rfl B S f [(0,v0)] [obox 98 TrL v0 x0,keep X] [] rfl ⟨rfl,trivial⟩ hB hO hI trivial ?_
 unfold z7z at hm
 refine GL.region (RL.mv rfl rfl rfl (RL.mv rfl rfl rfl (RL.nilk 0 rfl rfl rfl rfl PtOf.obox (RL.fadr (off:=0) (fo:=0) 0 z38 rfl rfl rfl PtOf.obox oi (RL.ldPx (off:=(0+0)) (e':=x0.1) 0 Ex.str zh rfl rfl ol rfl PtOf.obox (Part.fst Part.self) (RL.lenT Tryz.underlying9 rfl rfl rfl (RL.nilk 0 rfl rfl rfl rfl PtOf.obox ?_)))))))
 refine RL.fadr (off:=0) (fo:=1) 0 z6e rfl rfl rfl PtOf.obox oi (RL.stP (off:=(0+1)) (e':=((x0.1).length:Int)) (d1:=(x0.1,((x0.1).length:Int))) (r:=TR.int) 0 zd rfl rfl ol rfl VR.int rfl (Upd.snd Upd.self) (RL.finG ?_))
 have hm:=Option.some.inj hm
 subst hm
 exact GL.nil (Gx.retN (v:=.tuple #[]) (res0 rfl) (fun a w st=>(st.pick [0,1] (by decide) rfl).toPostM (V:=fun(o:Unit)=>.tuple #[]) (LR:=fun(o:Unit)=>[obox 98 TrL v0 (x0.1,((x0.1).length:Int)),keep X]) ()))
theorem zel(S:Hp)(w:World)(hS:S.sub w)(x0:B8)(res:(List B8)×Int)(hm:z6z x0=some res):Calls Tryz.prog 59 #[(sv x0)] w (Post w S (fun(o:Value)=>.tuple #[o,.int .i64 res.2]) (fun(o:Value)=>[own 9 TR.str o res.1])):=by
 refine zi 73 Tryz.func59 Tryz.ntmps59 rfl S false [(0,(sv x0))] [] rfl ⟨rfl,trivial⟩ hS trivial ?_
 unfold z6z at hm
 refine GL.seq (GL.region (RL.asg rfl rfl rfl (RL.asg rfl rfl rfl (RL.finG (GL.seq (GL.region (RL.asg rfl rfl rfl ?_)))))))
 refine RL.finG (GL.seq (GL.region (RL.asg rfl rfl rfl (RL.finG (GL.seq (GL.weak (fun a w st=>st.nilOwn 9 TR.str) ?_))))))
 obtain⟨y76,K77,h78,h79,h80,h81,h82⟩:=z1z hm
 refine GL.join (ι:=(List B8)×Int×Value) (fun(p:(List B8)×Int×Value)=>[(4,p.2.2),(5,.int .i64 p.2.1)]) (fun(p:(List B8)×Int×Value)=>[own 9 TR.str p.2.2 p.1]) (fun(p:(List B8)×Int×Value)=>K77 (.nx (p.1,p.2.1))) ?_ ?_
 ·refine GL.block (GL.loop (ι:=Nat×(List B8)×Int×Value) (fun(p:Nat×(List B8)×Int×Value)=>[(0,(sv x0)),(4,p.2.2.2),(5,.int .i64 p.2.2.1)]) (fun(p:Nat×(List B8)×Int×Value)=>[own 9 TR.str p.2.2.2 p.2.1]) (fun(p:Nat×(List B8)×Int×Value)=>z40 (z2y x0) p.1 (p.2.1,p.2.2.1)=some y76) (fun(p:Nat×(List B8)×Int×Value)=>p.1) (9223372036854775808,[],(0:Int),Value.slice none 0 0) h78 (fun a w st=>St.cut [0] ⟨rfl,rfl,rfl,trivial⟩ (by decide) rfl st) ?_)
  rintro⟨r84,l2,x4,v3⟩ h88
  try dsimp only at h88
  refine GL.weak (env':=[(0,(sv x0)),(4,v3),(5,.int .i64 x4)]) (L':=[own 9 TR.str v3 l2]) ss ?_
  obtain⟨r91,z85,hr,h86,h87⟩:=z58 h88
  subst hr
  unfold z2y at h86
  try dsimp only at h86
  refine GL.seq (GL.seq (GL.region (RL.mv rfl rfl rfl (RL.mv rfl rfl rfl (RL.lenT Tryz.underlying9 rfl rfl rfl (RL.binI (v:=.bool (decide (x4<((x0).length:Int)))) rfl rfl rfl rfl rfl (RL.finG ?_)))))))
  refine GL.cond rfl (fun b92=>?_) (fun b92=>?_)
  ·replace h86:=z13 b92 h86
   refine GL.skip (GL.block (GL.seq (GL.region (RL.mv rfl rfl rfl (RL.mv rfl rfl rfl ?_)))))
   obtain⟨y95,e96,h86⟩:=z7 h86
   refine RL.idxT Tryz.underlying9 rfl rfl rfl rfl (z8 e96).1 (z8 e96).2.2 (RL.cvI Tryz.underlying5 Tryz.underlying3 rfl rfl rfl (RL.asg rfl rfl rfl (RL.finG (GL.seq (GL.seq ?_)))))
   obtain⟨y100,K101,h102,h103,h104,h105,h106⟩:=z78 h86
   refine GL.join (ι:=Bool) (fun(p:Bool)=>[(0,(sv x0)),(4,v3),(5,.int .i64 x4),(6,.int .i64 (IntKind.wrap .i64 (y95.toNat:Int))),(26,.bool p)]) (fun(p:Bool)=>[own 9 TR.str v3 l2]) (fun(p:Bool)=>K101 (.nx p)) ?_ ?_
   ·skip
    refine GL.region (RL.mv rfl rfl rfl (RL.binI (v:=.bool (decide ((IntKind.wrap .i64 (y95.toNat:Int))>(64:Int)))) rfl rfl rfl rfl rfl (RL.mv rfl rfl rfl (RL.split (t:=18) rfl (fun b107=>?_) (fun b107=>?_)))))
    ·replace h102:=z13 b107 h102
     refine RL.skip rfl rfl (RL.skip rfl rfl (RL.skip rfl rfl (RL.skip rfl rfl (RL.skip rfl rfl (RL.skip rfl rfl (RL.skip rfl rfl (RL.pickT rfl rfl rfl rfl ?_)))))))
     refine RL.fin ?_
     cases h102
     exact fun a w st=>ze true h103 (st.cu [0])
    replace h102:=z14 b107 h102
    refine RL.mv rfl rfl rfl (RL.lenT Tryz.underlying9 rfl rfl rfl (RL.mv rfl rfl rfl (RL.binI (v:=.int .i64 (wsub ((x0).length:Int) x4)) rfl rfl rfl rfl rfl (RL.mv rfl rfl rfl (RL.binI (v:=.int .i64 (wadd (IntKind.wrap .i64 (y95.toNat:Int)) (3:Int))) rfl rfl rfl rfl rfl (RL.binI (v:=.bool (decide ((wsub ((x0).length:Int) x4)<(wadd (IntKind.wrap .i64 (y95.toNat:Int)) (3:Int))))) rfl rfl rfl rfl rfl (RL.pickF rfl rfl rfl rfl ?_)))))))
    refine RL.fin ?_
    cases h102
    exact fun a w st=>ze (decide ((wsub ((x0).length:Int) x4)<(wadd (IntKind.wrap .i64 (y95.toNat:Int)) (3:Int)))) h103 (st.cu [0])
   rintro x99 h108
   have h109:=h104 _ h108
   try dsimp only at h109
   refine GL.weak (env':=[(0,(sv x0)),(4,v3),(5,.int .i64 x4),(6,.int .i64 (IntKind.wrap .i64 (y95.toNat:Int))),(26,.bool x99)]) (L':=[own 9 TR.str v3 l2]) ss (GL.cond rfl (fun b110=>?_) (fun b110=>?_))
   ·replace h109:=z13 b110 h109
    cases h109
    replace h87:some (Fl.nx _)=some y76:=h87
    cases h87
    exact GL.exit (fun a w st=>ze (l2,x4,v3) h79 (st.cu [0]))
   replace h109:=z14 b110 h109
   refine GL.skip (GL.seq (GL.region (RL.mv rfl rfl rfl (RL.mv rfl rfl rfl (RL.mv rfl rfl rfl (RL.mv rfl rfl rfl (RL.binI (v:=.int .i64 (wadd x4 (IntKind.wrap .i64 (y95.toNat:Int)))) rfl rfl rfl rfl rfl ?_)))))))
   refine RL.binI (v:=.int .i64 (wadd (wadd x4 (IntKind.wrap .i64 (y95.toNat:Int))) (1:Int))) rfl rfl rfl rfl rfl ?_
   obtain⟨y115,e116,h109⟩:=z7 h109
   replace e116:=z15 e116
   refine RL.cutT (i:=(x4).toNat) (j:=(wadd (wadd x4 (IntKind.wrap .i64 (y95.toNat:Int))) (1:Int)).toNat) Tryz.underlying9 rfl rfl rfl (Or.inr ⟨_,_,rfl,by rw[Int.toNat_of_nonneg (by omega)];rfl⟩) (Or.inr ⟨_,_,rfl,by rw[Int.toNat_of_nonneg (by omega)];rfl⟩) (by omega) (by omega) ?_
   obtain⟨y117,e118,h109⟩:=z7 h109
   refine RL.callV (v:=.int .u16 y117) (vs:=[(sv ((List.take ((wadd (wadd x4 (IntKind.wrap .i64 (y95.toNat:Int))) (1:Int)).toNat) x0).drop ((x4).toNat)))]) zev rfl ol rfl rfl rfl rfl (fun U w hU hW hL=>log_Sum_c U w hU ((List.take ((wadd (wadd x4 (IntKind.wrap .i64 (y95.toNat:Int))) (1:Int)).toNat) x0).drop ((x4).toNat)) _ e118) (RL.asg rfl rfl rfl (RL.finG (GL.seq (GL.seq ?_))))
   obtain⟨y134,K135,h136,h137,h138,h139,h140⟩:=z78 h109
   refine GL.join (ι:=Bool) (fun(p:Bool)=>[(0,(sv x0)),(4,v3),(5,.int .i64 x4),(6,.int .i64 (IntKind.wrap .i64 (y95.toNat:Int))),(55,.bool p)]) (fun(p:Bool)=>[own 9 TR.str v3 l2]) (fun(p:Bool)=>K135 (.nx p)) ?_ ?_
   ·skip
    refine GL.region (RL.mv rfl rfl rfl (RL.mv rfl rfl rfl (RL.mv rfl rfl rfl (RL.binI (v:=.int .i64 (wadd x4 (IntKind.wrap .i64 (y95.toNat:Int)))) rfl rfl rfl rfl rfl (RL.binI (v:=.int .i64 (wadd (wadd x4 (IntKind.wrap .i64 (y95.toNat:Int))) (1:Int))) rfl rfl rfl rfl rfl ?_)))))
    obtain⟨y141,e142,h136⟩:=z7 h136
    refine RL.idxT Tryz.underlying9 rfl rfl rfl rfl (z8 e142).1 (z8 e142).2.2 (RL.mv rfl rfl rfl ?_)
    obtain⟨y143,e144,h136⟩:=z7 h136
    replace e144:=z15 e144
    refine RL.sh (by simp) rfl rfl rfl rfl e144 (RL.cvI Tryz.underlying142 Tryz.underlying5 rfl rfl rfl (RL.binI (v:=.bool ((y141.toNat:Int) != (IntKind.wrap .u8 (Int.fdiv y117 (2 ^ (min (8:Int).toNat (IntKind.bits .u16))))))) rfl rfl rfl rfl rfl (RL.mv rfl rfl rfl (RL.split (t:=45) rfl (fun b145=>?_) (fun b145=>?_)))))
    ·replace h136:=z13 b145 h136
     refine RL.skip rfl rfl (RL.skip rfl rfl (RL.skip rfl rfl (RL.skip rfl rfl (RL.skip rfl rfl (RL.skip rfl rfl (RL.skip rfl rfl (RL.skip rfl rfl ?_)))))))
     refine RL.skip rfl rfl (RL.pickT rfl rfl rfl rfl (RL.fin ?_))
     cases h136
     exact fun a w st=>ze true h137 (st.cu [0])
    replace h136:=z14 b145 h136
    refine RL.mv rfl rfl rfl (RL.mv rfl rfl rfl (RL.mv rfl rfl rfl (RL.binI (v:=.int .i64 (wadd x4 (IntKind.wrap .i64 (y95.toNat:Int)))) rfl rfl rfl rfl rfl (RL.binI (v:=.int .i64 (wadd (wadd x4 (IntKind.wrap .i64 (y95.toNat:Int))) (2:Int))) rfl rfl rfl rfl rfl ?_))))
    obtain⟨y146,e147,h136⟩:=z7 h136
    refine RL.idxT Tryz.underlying9 rfl rfl rfl rfl (z8 e147).1 (z8 e147).2.2 (RL.mv rfl rfl rfl (RL.cvI Tryz.underlying142 Tryz.underlying5 rfl rfl rfl (RL.binI (v:=.bool ((y146.toNat:Int) != (IntKind.wrap .u8 y117))) rfl rfl rfl rfl rfl (RL.pickF rfl rfl rfl rfl (RL.fin ?_)))))
    cases h136
    exact fun a w st=>ze ((y146.toNat:Int) != (IntKind.wrap .u8 y117)) h137 (st.cu [0])
   rintro x133 h148
   have h149:=h138 _ h148
   try dsimp only at h149
   refine GL.weak (env':=[(0,(sv x0)),(4,v3),(5,.int .i64 x4),(6,.int .i64 (IntKind.wrap .i64 (y95.toNat:Int))),(55,.bool x133)]) (L':=[own 9 TR.str v3 l2]) ss (GL.cond rfl (fun b150=>?_) (fun b150=>?_))
   ·replace h149:=z13 b150 h149
    cases h149
    replace h87:some (Fl.nx _)=some y76:=h87
    cases h87
    exact GL.exit (fun a w st=>ze (l2,x4,v3) h79 (st.cu [0]))
   replace h149:=z14 b150 h149
   refine GL.skip (GL.seq (GL.region (RL.mv rfl rfl rfl (RL.mv rfl rfl rfl (RL.mv rfl rfl rfl (RL.binI (v:=.int .i64 (wadd x4 (1:Int))) rfl rfl rfl rfl rfl (RL.mv rfl rfl rfl ?_)))))))
   refine RL.binI (v:=.int .i64 (wadd x4 (1:Int))) rfl rfl rfl rfl rfl (RL.mv rfl rfl rfl (RL.binI (v:=.int .i64 (wadd (wadd x4 (1:Int)) (IntKind.wrap .i64 (y95.toNat:Int)))) rfl rfl rfl rfl rfl ?_))
   obtain⟨y157,e158,h149⟩:=z7 h149
   replace e158:=z15 e158
   refine RL.cutT (i:=(wadd x4 (1:Int)).toNat) (j:=(wadd (wadd x4 (1:Int)) (IntKind.wrap .i64 (y95.toNat:Int))).toNat) Tryz.underlying9 rfl rfl rfl (Or.inr ⟨_,_,rfl,by rw[Int.toNat_of_nonneg (by omega)];rfl⟩) (Or.inr ⟨_,_,rfl,by rw[Int.toNat_of_nonneg (by omega)];rfl⟩) (by omega) (by omega) (RL.bS (t:=TR.str) (vs:=[(sv ((List.take ((wadd (wadd x4 (1:Int)) (IntKind.wrap .i64 (y95.toNat:Int))).toNat) x0).drop ((wadd x4 (1:Int)).toNat)))]) ([(List.take ((wadd (wadd x4 (1:Int)) (IntKind.wrap .i64 (y95.toNat:Int))).toNat) x0).drop ((wadd x4 (1:Int)).toNat)]:(List B8)) Tryz.underlying110 zcf rfl rfl rfl rfl ⟨VR.str,trivial⟩ rfl (by decide) ?_)
   intro v159
   obtain⟨y160,e161,h149⟩:=z7 h149
   replace e161:=z15 e161
   refine RL.appB 0 1 Tryz.underlying110 zcf rfl rfl rfl rfl rfl rfl rfl SlOf.own (zby.of (N:=8796093022208) z9w (by decide) (by decide)) e161 ?_
   intro v162
   refine RL.reL (L':=[own 9 TR.str v162 (l2++([(List.take ((wadd (wadd x4 (1:Int)) (IntKind.wrap .i64 (y95.toNat:Int))).toNat) x0).drop ((wadd x4 (1:Int)).toNat)]:(List B8))),own 9 TR.str v159 ([(List.take ((wadd (wadd x4 (1:Int)) (IntKind.wrap .i64 (y95.toNat:Int))).toNat) x0).drop ((wadd x4 (1:Int)).toNat)]:(List B8))]) rfl (RL.asg rfl rfl rfl (RL.finG (GL.region (RL.mv rfl rfl rfl (RL.mv rfl rfl rfl (RL.binI (v:=.int .i64 (wadd (IntKind.wrap .i64 (y95.toNat:Int)) (3:Int))) rfl rfl rfl rfl rfl (RL.binI (v:=.int .i64 (wadd x4 (wadd (IntKind.wrap .i64 (y95.toNat:Int)) (3:Int)))) rfl rfl rfl rfl rfl ?_)))))))
   refine RL.asg rfl rfl rfl (RL.finG (GL.nilB ?_))
   cases h149
   exact fun a w st=>z1l (r91,(l2++([(List.take ((wadd (wadd x4 (1:Int)) (IntKind.wrap .i64 (y95.toNat:Int))).toNat) x0).drop ((wadd x4 (1:Int)).toNat)]:(List B8))),wadd x4 (wadd (IntKind.wrap .i64 (y95.toNat:Int)) (3:Int)),v162) (by exact h87) (by simp) (st.cu [0])
  replace h86:=z14 b92 h86
  cases h86
  replace h87:some (Fl.nx _)=some y76:=h87
  cases h87
  exact GL.exit (fun a w st=>ze (l2,x4,v3) h79 (st.cu [0]))
 rintro⟨l2,x4,v3⟩ h163
 have h164:=h80 _ h163
 try dsimp only at h164
 refine GL.weak (env':=[(4,v3),(5,.int .i64 x4)]) (L':=[own 9 TR.str v3 l2]) ss (GL.seq (GL.region (RL.mv rfl rfl rfl (RL.mv rfl rfl rfl (RL.asg rfl rfl rfl (RL.asg rfl rfl rfl (RL.finG ?_)))))))
 have h164:=Option.some.inj h164
 subst h164
 exact GL.ret (Gx.ret (v:=.tuple #[v3,.int .i64 x4]) (res2 rfl rfl rfl) (fun a w st=>(st.pick [0] (by decide) rfl).toPost v3))
theorem zdu(B:World)(S X:Hp)(f:Nat→Hp)(w:World)(v0:Value)(x0:(B8×Int))(hO:z2h B.heap.size S f [obox 98 TrL v0 x0,keep X].length w)(hB:Below B.heap.size B w)(hI:Its [obox 98 TrL v0 x0,keep X] S f)(x1:Int)(res:Int×(B8×Int))(hm:z3l x0 x1=some res):Calls Tryz.prog 43 #[v0,.int .i64 x1] w (zaj B S (fun(o:Unit)=>.int .i64 res.1) (fun(o:Unit)=>[obox 98 TrL v0 res.2,keep X])):=by
 refine z2e 50 Tryz.func43 Tryz.ntmps43 rfl B S f [(0,v0),(1,.int .i64 x1)] [obox 98 TrL v0 x0,keep X] [] rfl ⟨rfl,⟨rfl,trivial⟩⟩ hB hO hI trivial ?_
 unfold z3l at hm
 refine GL.seq (GL.region (RL.asg rfl rfl rfl (RL.finG (GL.seq (GL.seq ?_)))))
 obtain⟨y6,K7,h8,h9,h10,h11,h12⟩:=z1z hm
 refine GL.join (ι:=Bool) (fun(p:Bool)=>[(0,v0),(1,.int .i64 x1),(23,.bool p)]) (fun(p:Bool)=>[obox 98 TrL v0 x0,keep X]) (fun(p:Bool)=>K7 (.nx p)) ?_ ?_
 ·skip
  refine GL.regionQ rfl rfl (by kernel_rfl) (RL.mv rfl rfl rfl (RL.binI (v:=.bool (decide (x1<(0:Int)))) rfl rfl rfl rfl rfl (RL.mv rfl rfl rfl (RL.split (t:=10) rfl (fun b13=>?_) (fun b13=>?_)))))
  ·replace h8:=z13 b13 h8
   refine RL.skip rfl rfl (RL.skip rfl rfl (RL.skip rfl rfl (RL.skip rfl rfl (RL.skip rfl rfl (RL.skip rfl rfl (RL.skip rfl rfl (RL.skip rfl rfl ?_)))))))
   refine RL.skip rfl rfl (RL.skip rfl rfl (RL.skip rfl rfl (RL.skip rfl rfl (RL.pickT rfl rfl rfl rfl (RL.finQ ?_)))))
   cases h8
   exact fun a w st=>ze true h9 (st.cu [0,1])
  replace h8:=z14 b13 h8
  refine RL.mv rfl rfl rfl (RL.mv rfl rfl rfl (RL.nilk 0 rfl rfl rfl rfl PtOf.obox (RL.fadr (off:=0) (fo:=0) 0 z38 rfl rfl rfl PtOf.obox oi (RL.ldPx (off:=(0+0)) (e':=x0.1) 0 Ex.str zh rfl rfl ol rfl PtOf.obox (Part.fst Part.self) (RL.lenT Tryz.underlying9 rfl rfl rfl (RL.mv rfl rfl rfl (RL.nilk 0 rfl rfl rfl rfl PtOf.obox ?_)))))))
  refine RL.fadr (off:=0) (fo:=1) 0 z6e rfl rfl rfl PtOf.obox oi (RL.ldPx (off:=(0+1)) (e':=x0.2) 0 Ex.ik zd rfl rfl ol rfl PtOf.obox (Part.snd Part.self) (RL.binI (v:=.int .i64 (wsub ((x0.1).length:Int) x0.2)) rfl rfl rfl rfl rfl (RL.binI (v:=.bool (decide (x1>(wsub ((x0.1).length:Int) x0.2)))) rfl rfl rfl rfl rfl (RL.pickF rfl rfl rfl rfl (RL.finQ ?_)))))
  cases h8
  exact fun a w st=>ze (decide (x1>(wsub ((x0.1).length:Int) x0.2))) h9 (st.cu [0,1])
 rintro x5 h14
 have h15:=h10 _ h14
 try dsimp only at h15
 refine GL.weak (env':=[(0,v0),(1,.int .i64 x1),(23,.bool x5)]) (L':=[obox 98 TrL v0 x0,keep X]) ss (GL.cond rfl (fun b16=>?_) (fun b16=>?_))
 ·replace h15:=z13 b16 h15
  refine GL.seq (GL.region (RL.asg rfl rfl rfl (RL.finG ?_)))
  have h15:=Option.some.inj h15
  subst h15
  exact GL.ret (Gx.ret (v:=.int .i64 (1:Int)) (res1 rfl rfl) (fun a w st=>(st.pick [0,1] (by decide) rfl).toPostM (V:=fun(o:Unit)=>.int .i64 (((1:Int),x0).1)) (LR:=fun(o:Unit)=>[obox 98 TrL v0 (((1:Int),x0).2),keep X]) ()))
 replace h15:=z14 b16 h15
 refine GL.skip (GL.seq (GL.regionQ rfl rfl (by kernel_rfl) (RL.mv rfl rfl rfl (RL.nilk 0 rfl rfl rfl rfl PtOf.obox (RL.fadr (off:=0) (fo:=0) 0 z38 rfl rfl rfl PtOf.obox oi (RL.ldPx (off:=(0+0)) (e':=x0.1) 0 Ex.str zh rfl rfl ol rfl PtOf.obox (Part.fst Part.self) (RL.mv rfl rfl rfl ?_)))))))
 refine RL.nilk 0 rfl rfl rfl rfl PtOf.obox (RL.fadr (off:=0) (fo:=1) 0 z6e rfl rfl rfl PtOf.obox oi (RL.ldPx (off:=(0+1)) (e':=x0.2) 0 Ex.ik zd rfl rfl ol rfl PtOf.obox (Part.snd Part.self) (RL.mv rfl rfl rfl (RL.binI (v:=.int .i64 (wadd x0.2 x1)) rfl rfl rfl rfl rfl ?_))))
 obtain⟨y19,e20,h15⟩:=z7 h15
 replace e20:=z15 e20
 refine RL.cutT (i:=0) (j:=(wadd x0.2 x1).toNat) Tryz.underlying9 rfl rfl rfl (Or.inl ⟨rfl,rfl⟩) (Or.inr ⟨_,_,rfl,by rw[Int.toNat_of_nonneg (by omega)];rfl⟩) (by omega) (by omega) (RL.asg rfl rfl rfl (RL.finQG (GL.seq (GL.region (RL.mv rfl rfl rfl ?_)))))
 obtain⟨y24,e25,h15⟩:=z7 h15
 refine RL.call (vs:=[(sv ((List.take ((wadd x0.2 x1).toNat) x0.1).drop 0))]) zf0 rfl rfl rfl rfl rfl (fun S f w hS hW hi=>zel S w hS ((List.take ((wadd x0.2 x1).toNat) x0.1).drop 0) _ e25) ?_
 intro v26
 refine RL.mv rfl rfl rfl (RL.ext rfl rfl rfl rfl (RL.ext rfl rfl rfl rfl (RL.asg rfl rfl rfl (RL.asg rfl rfl rfl (RL.finG (GL.seq (GL.region ?_)))))))
 refine RL.mv rfl rfl rfl (RL.mv rfl rfl rfl (RL.mv rfl rfl rfl (RL.mv rfl rfl rfl ?_)))
 obtain⟨y29,e30,h15⟩:=z7 h15
 replace e30:=z15 e30
 refine RL.cutT (i:=0) (j:=(y24.2).toNat) Tryz.underlying9 rfl rfl rfl (Or.inl ⟨rfl,rfl⟩) (Or.inr ⟨_,_,rfl,by rw[Int.toNat_of_nonneg (by omega)];rfl⟩) (by omega) (by omega) (RL.mv rfl rfl rfl (RL.nilk 0 rfl rfl rfl rfl PtOf.obox (RL.fadr (off:=0) (fo:=0) 0 z38 rfl rfl rfl PtOf.obox oi (RL.stP (off:=(0+0)) (e':=(List.take ((y24.2).toNat) ((List.take ((wadd x0.2 x1).toNat) x0.1).drop 0)).drop 0) (d1:=((List.take ((y24.2).toNat) ((List.take ((wadd x0.2 x1).toNat) x0.1).drop 0)).drop 0,x0.2)) (r:=TR.str) 0 zh rfl rfl ol rfl VR.str rfl (Upd.fst Upd.self) (RL.reL (L':=[obox 98 TrL v0 ((List.take ((y24.2).toNat) ((List.take ((wadd x0.2 x1).toNat) x0.1).drop 0)).drop 0,x0.2),keep X,own 9 TR.str v26 y24.1]) rfl (RL.nilk 0 rfl rfl rfl rfl PtOf.obox (RL.fadr (off:=0) (fo:=1) 0 z6e rfl rfl rfl PtOf.obox oi ?_)))))))
 refine RL.stP (off:=(0+1)) (e':=y24.2) (d1:=(((List.take ((y24.2).toNat) ((List.take ((wadd x0.2 x1).toNat) x0.1).drop 0)).drop 0,x0.2).1,y24.2)) (r:=TR.int) 0 zd rfl rfl ol rfl VR.int rfl (Upd.snd Upd.self) (RL.finG (GL.seq (GL.region (RL.asg rfl rfl rfl (RL.finG ?_)))))
 have h15:=Option.some.inj h15
 subst h15
 exact GL.ret (Gx.ret (v:=.int .i64 (0:Int)) (res1 rfl rfl) (fun a w st=>(st.pick [0,1] (by decide) rfl).toPostM (V:=fun(o:Unit)=>.int .i64 (((0:Int),(((List.take ((y24.2).toNat) ((List.take ((wadd x0.2 x1).toNat) x0.1).drop 0)).drop 0,x0.2).1,y24.2)).1)) (LR:=fun(o:Unit)=>[obox 98 TrL v0 (((0:Int),(((List.take ((y24.2).toNat) ((List.take ((wadd x0.2 x1).toNat) x0.1).drop 0)).drop 0,x0.2).1,y24.2)).2),keep X]) ()))
theorem zfp(S:Hp)(w:World)(hS:S.sub w)(v0:Value)(x0:(B8×Int))(k0:((TR.ptr TrL)).vrep S v0 x0)(res:(List B8))(hm:z5o x0=some res):Calls Tryz.prog 60 #[v0] w (Post w S (fun(o:Value)=>o) (fun(o:Value)=>[own 9 TR.str o res])):=by
 refine zi 14 Tryz.func60 Tryz.ntmps60 rfl S false [(0,v0)] [imm (TR.ptr TrL) v0 x0] rfl ⟨rfl,trivial⟩ hS ⟨k0,trivial⟩ ?_
 unfold z5o at hm
 refine GL.seq (GL.region (RL.asg rfl rfl rfl (RL.finG (GL.seq (GL.region (RL.mv rfl rfl rfl (RL.nilk 0 rfl rfl rfl rfl PtOf.imm ?_)))))))
 refine RL.fadr (off:=0) (fo:=0) 0 z38 rfl rfl rfl PtOf.imm oi (RL.ldPx (off:=(0+0)) (e':=x0.1) 0 Ex.str zh rfl rfl ol rfl PtOf.imm (Part.fst Part.self) ?_)
 obtain⟨y5,e6,hm⟩:=z7 hm
 refine RL.call (vs:=[(sv x0.1)]) zf0 rfl rfl rfl rfl rfl (fun S f w hS hW hi=>zel S w hS x0.1 _ e6) ?_
 intro v7
 refine RL.mv rfl rfl rfl (RL.ext rfl rfl rfl rfl (RL.ext rfl rfl rfl rfl (RL.asg rfl rfl rfl (RL.asg rfl rfl rfl (RL.finG (GL.seq (GL.region ?_)))))))
 refine RL.mv rfl rfl rfl (RL.asg rfl rfl rfl (RL.finG ?_))
 have hm:=Option.some.inj hm
 subst hm
 exact GL.ret (Gx.ret (v:=v7) (res1 rfl rfl) (fun a w st=>(st.pick [1] (by decide) rfl).toPost v7))
theorem zdl(S:Hp)(w:World)(hS:S.sub w)(hT:Tab Tryz.prog (Tryz.lays146_ren.g 1) S)(x0:B8)(x1:B8)(res:List B8)(hm:z4i x0 x1=some res):Calls Tryz.prog 61 #[(sv x0),(sv x1)] w (Post w S (fun(o:Value)=>o) (fun(o:Value)=>[own 9 TR.str o res])):=by
  unfold z4i at hm
  obtain⟨_,hc,hm⟩:=z7 hm
  obtain⟨h0,h1⟩:=z15 hc
  cases hm
  obtain⟨m,hmx⟩:=hT.max
  have hs0:(⟨x0.toArray⟩:ByteArray).size=x0.length:=by simp[ByteArray.size]
  have hs1:(⟨x1.toArray⟩:ByteArray).size=x1.length:=by simp[ByteArray.size]
  have hall:=Go.Lib.splitB_all ⟨x1.toArray⟩ (by rw[hs1];exact h1) 0 _ ⟨x0.toArray⟩ rfl
  have hle:=Go.Lib.countB_le ⟨x1.toArray⟩ (by rw[hs1];exact h1) _ ⟨x0.toArray⟩ (Nat.le_refl _)
  have hl:(zci x0 x1).length=Go.Lib.countB ⟨x0.toArray⟩ ⟨x1.toArray⟩+1:=by unfold zci;rw[List.length_map];exact hall
  refine(Any.strings_Split Tryz.lays146 z9w ⟨x0.toArray⟩ ⟨x1.toArray⟩ m w (by rw[hs0];exact h0) (hmx w hS) (by rw[hs1];exact h1)).mono ?_
  rintro e w' ⟨rfl,rfl⟩
  have e1:(Go.Lib.splitB ⟨x1.toArray⟩ 0 (Go.Lib.countB ⟨x0.toArray⟩ ⟨x1.toArray⟩) ⟨x0.toArray⟩).map Value.string=(zci x0 x1).map fun x=>Value.string ⟨x.toArray⟩:=by
    unfold zci;rw[List.map_map];apply List.map_congr_left;intro b _;simp
  rw[← hl,e1]
  exact post_alloc hS (by simp[TR.str]) (reps_str _) (by rw[hl];rw[hs0] at hle;unfold maxLen;omega)
theorem za3(S:Hp)(w:World)(hS:S.sub w)(x0:B8)(res:Int)(hm:z3z x0=some res):Calls Tryz.prog 62 #[(sv x0)] w (z45 w (.tuple #[.int .i64 res,Value.nilIface])):=by
  unfold z3z at hm
  obtain⟨_,hc,hm⟩:=z7 hm
  replace hc:=z15 hc
  refine(Any.strconv_Atoi Tryz.lays172 ⟨x0.toArray⟩ res (by simpa[ByteArray.size] using hc) (by simpa using hm) w).mono ?_
  rintro e w' ⟨rfl,t,rfl⟩
  exact⟨rfl,zdi _ _ _⟩
theorem zb4(B:World)(S X:Hp)(f:Nat→Hp)(w:World)(v0:Value)(u0a:Value)(x0:TyH)(hO:z2h B.heap.size S f [obox 87 TrH v0 (x0.1,(x0.2.1,u0a)),obox 98 TrL u0a x0.2.2,keep X].length w)(hB:Below B.heap.size B w)(hI:Its [obox 87 TrH v0 (x0.1,(x0.2.1,u0a)),obox 98 TrL u0a x0.2.2,keep X] S f)(hT:Tab Tryz.prog (Tryz.lays146_ren.g 1) S)  (res:TyH)(hm:z3a x0=some res):Calls Tryz.prog 44 #[v0] w (zaj B S (fun(o:Unit)=>.tuple #[]) (fun(o:Unit)=>[obox 87 TrH v0 (res.1,(res.2.1,u0a)),obox 98 TrL u0a res.2.2,keep X])):=by
 refine z2e 88 Tryz.func44 Tryz.ntmps44 rfl B S f [(0,v0)] [obox 87 TrH v0 (x0.1,(x0.2.1,u0a)),obox 98 TrL u0a x0.2.2,keep X] [] rfl ⟨rfl,trivial⟩ hB hO hI trivial ?_
 unfold z3a at hm
 refine GL.seq (GL.region (RL.asg rfl rfl rfl (RL.finG (GL.seq (GL.seq (GL.region (RL.mv rfl rfl rfl ?_)))))))
 refine RL.nilk 0 rfl rfl rfl rfl PtOf.obox (RL.fadr (off:=0) (fo:=2) 0 z10 rfl rfl rfl PtOf.obox oi (RL.ldPx (off:=(0+2)) (e':=u0a) 0 Ex.raw z1p rfl rfl ol rfl PtOf.obox (Part.snd (Part.snd Part.self)) ?_))
 obtain⟨y5,e6,hm⟩:=z7 hm
 refine RL.callU (vs:=[u0a]) (LR:=fun(o:Value)=>[own 9 TR.str o y5]) (fun o=>⟨Loc.own TR.flatT_str,trivial⟩) Tryz_fit60 rfl rfl rfl rfl rfl (fun U w hU hW hL=>zfp U w hU _ _ (hL 1 _ _ rfl Seen.obox) _ e6) ?_
 intro v7
 refine RL.lenS 3 Tryz.underlying110 rfl rfl rfl rfl SlOf.own (RL.mv rfl rfl rfl (RL.finG (GL.weak (fun a w st=>st.nilOwn 94 TrA) (GL.lenOwn 3 rfl (fun n141=>?_)))))
 obtain⟨y142,K143,h144,h145,h146,h147,h148⟩:=z1z hm
 refine GL.join (ι:=(List TyA)×Value) (fun(p:(List TyA)×Value)=>[(0,v0),(2,p.2)]) (fun(p:(List TyA)×Value)=>[obox 87 TrH v0 (x0.1,(x0.2.1,u0a)),obox 98 TrL u0a x0.2.2,keep X,own 94 TrA p.2 p.1]) (fun(p:(List TyA)×Value)=>K143 (.nx p.1)) ?_ ?_
 ·refine GL.block (GL.loop (ι:=Nat×Nat×(List TyA)×Value) (fun(p:Nat×Nat×(List TyA)×Value)=>[(0,v0),(2,p.2.2.2),(14,v7),(15,.int .i64 ((y5).length:Int)),(16,.int .i64 (p.1:Int))]) (fun(p:Nat×Nat×(List TyA)×Value)=>[obox 87 TrH v0 (x0.1,(x0.2.1,u0a)),obox 98 TrL u0a x0.2.2,own 94 TrA p.2.2.2 p.2.2.1,own 9 TR.str v7 y5,keep X]) (fun(p:Nat×Nat×(List TyA)×Value)=>p.1+p.2.1=(y5).length∧z5s (z2z y5) p.2.1 p.1 p.2.2.1=some y142) (fun(p:Nat×Nat×(List TyA)×Value)=>p.2.1) (0,(y5).length,[],Value.slice none 0 0) ⟨by simp,h144⟩ (fun a w st=>St.cut [0,1,4,3,2] ⟨rfl,rfl,rfl,rfl,rfl,trivial⟩ (by decide) rfl st) ?_)
  rintro⟨i149,r150,l8,v9⟩ ⟨h155,h154⟩
  try dsimp only at h155 h154
  refine GL.weak (env':=[(0,v0),(2,v9),(14,v7),(15,.int .i64 ((y5).length:Int)),(16,.int .i64 (i149:Int))]) (L':=[obox 87 TrH v0 (x0.1,(x0.2.1,u0a)),obox 98 TrL u0a x0.2.2,own 94 TrA v9 l8,own 9 TR.str v7 y5,keep X]) ss (GL.seq (GL.region (RL.binI (v:=.bool (decide ((i149:Int)<((y5).length:Int)))) rfl rfl rfl rfl rfl (RL.finG (GL.seq (GL.cond rfl (fun b157=>?_) (fun b157=>?_)))))))
  ·have h158:i149<(y5).length:=by have:=of_decide_eq_true b157;omega
   obtain⟨r159,hr⟩:∃ m,r150=m+1:=⟨r150-1,by omega⟩
   subst hr
   obtain⟨z151,h152,h153⟩:=z8n h154
   unfold z2z at h152
   try dsimp only at h152
   refine GL.skip (GL.seq (GL.block (GL.seq (GL.region ?_))))
   obtain⟨y162,e163,h152⟩:=z7 h152
   refine RL.idxS (sz:=1) 3 Tryz.underlying110 zh rfl rfl rfl rfl rfl SlOf.own (z8 e163).1 (z8 e163).2.1 (RL.ldSx (i:=i149) (e':=y162) 3 Ex.str zh rfl rfl rfl rfl SlOf.own (z8 e163).2.2 Part.self (RL.asg rfl rfl rfl (RL.finG (GL.seq (GL.region (RL.mv rfl rfl rfl ?_))))))
   obtain⟨y167,e168,h152⟩:=z7 h152
   refine RL.call (vs:=[(sv y162),(sv (([32]:B8)))]) Tryz_fit61 rfl rfl rfl rfl rfl (fun S f w hS hW hi=>zdl S w hS (hT.mono hW) y162 ([32]:B8) _ e168) ?_
   intro v169
   refine RL.asg rfl rfl rfl (RL.finG (GL.seq (GL.seq (GL.region (RL.mv rfl rfl rfl ?_)))))
   obtain⟨y172,e173,h152⟩:=z7 h152
   refine RL.idxS (sz:=1) 5 Tryz.underlying110 zh rfl rfl rfl rfl rfl SlOf.own (z8 e173).1 (z8 e173).2.1 (RL.ldSx (i:=((0:Int)).toNat) (e':=y172) 5 Ex.str zh rfl rfl rfl rfl SlOf.own (z8 e173).2.2 Part.self (RL.binS (v:=.bool (y172==([111]:B8))) rfl rfl rfl rfl rfl (RL.finG (GL.cond rfl (fun b174=>?_) (fun b174=>?_)))))
   ·replace h152:=z13 b174 h152
    refine GL.seq (GL.region (RL.mv rfl rfl rfl ?_))
    obtain⟨y179,e180,h152⟩:=z7 h152
    refine RL.idxS (sz:=1) 5 Tryz.underlying110 zh rfl rfl rfl rfl rfl SlOf.own (z8 e180).1 (z8 e180).2.1 (RL.ldSx (i:=((2:Int)).toNat) (e':=y179) 5 Ex.str zh rfl rfl rfl rfl SlOf.own (z8 e180).2.2 Part.self ?_)
    obtain⟨y181,e182,h152⟩:=z7 h152
    refine RL.callV (v:=.tuple #[.int .i64 y181,Value.nilIface]) (vs:=[(sv y179)]) zez rfl ol rfl rfl rfl rfl (fun U w hU hW hL=>za3 U w hU y179 _ e182) (RL.mv rfl rfl rfl (RL.ext rfl rfl rfl rfl (RL.ext rfl rfl rfl rfl (RL.asg rfl rfl rfl (RL.asg rfl rfl rfl (RL.finG (GL.seq ?_)))))))
    refine GL.region (RL.mv rfl rfl rfl (RL.mv rfl rfl rfl ?_))
    obtain⟨y188,e189,h152⟩:=z7 h152
    refine RL.idxS (sz:=1) 5 Tryz.underlying110 zh rfl rfl rfl rfl rfl SlOf.own (z8 e189).1 (z8 e189).2.1 (RL.ldSx (i:=((1:Int)).toNat) (e':=y188) 5 Ex.str zh rfl rfl rfl rfl SlOf.own (z8 e189).2.2 Part.self (RL.mv rfl rfl rfl ?_))
    obtain⟨y190,e191,h152⟩:=z7 h152
    refine RL.callU (vs:=[v9,(sv y188),.int .i64 y181]) (LR:=fun(o:Value)=>[own 94 TrA o y190.1]) (fun o=>⟨Loc.own (TR.flatT_pair TR.flatT_str (TR.flatT_pair TR.flatT_ik TR.flatT_ik)),trivial⟩) zf2 rfl rfl rfl rfl rfl (fun U w hU hW hL=>zb3 U w hU _ _ (hL 2 _ _ rfl Seen.own) y188 y181 _ e191) ?_
    intro v192
    refine RL.mv rfl rfl rfl (RL.ext rfl rfl rfl rfl (RL.ext rfl rfl rfl rfl (RL.asg rfl rfl rfl (RL.finG (GL.exit (Gx.here (GL.region ?_)))))))
    refine RL.binI (v:=.int .i64 ((i149+1:Nat):Int)) rfl rfl rfl rfl (binI_succ i149 (by omega)) (RL.mv rfl rfl rfl (RL.fin ?_))
    cases h152
    exact fun a w st=>z1l (i149+1,r159,y190.1,v192) ⟨by show i149+1+r159=(y5).length;omega,h153⟩ (by simp) (st.cu [0,1,6,3,4])
   replace h152:=z14 b174 h152
   refine GL.skip (GL.seq (GL.region (RL.alloc (t:=(TR.arr 4 TR.int)) (z:=(List.replicate 4 (0:Int))) Tryz_lo123 (fun S=>⟨rfl,⟨_,_,rfl,rfl,⟨_,_,rfl,rfl,⟨_,_,rfl,rfl,⟨_,_,rfl,rfl,rfl⟩⟩⟩⟩⟩) rfl rfl rfl ?_)))
   intro v194
   refine RL.reL (L':=[obox 87 TrH v0 (x0.1,(x0.2.1,u0a)),obox 98 TrL u0a x0.2.2,own 94 TrA v9 l8,own 9 TR.str v7 y5,keep X,own 9 TR.str v169 y167,obox 123 (TR.arr 4 TR.int) v194 (List.replicate 4 (0:Int))]) rfl (RL.finG (GL.seq (GL.seq (GL.region (RL.mv rfl rfl rfl (RL.finG ?_))))))
   obtain⟨y224,K225,h226,h227,h228,h229,h230⟩:=z78 h152
   refine GL.join (ι:=(List Int)×Int) (fun(p:(List Int)×Int)=>[(0,v0),(2,v9),(5,v169),(8,v194),(14,v7),(15,.int .i64 ((y5).length:Int)),(16,.int .i64 (i149:Int))]) (fun(p:(List Int)×Int)=>[obox 87 TrH v0 (x0.1,(x0.2.1,u0a)),obox 98 TrL u0a x0.2.2,keep X,own 94 TrA v9 l8,own 9 TR.str v169 y167,obox 123 (TR.arr 4 TR.int) v194 p.1,own 9 TR.str v7 y5]) (fun(p:(List Int)×Int)=>K225 (.nx (p.1,p.2))) ?_ ?_
   ·refine GL.block (GL.loop (ι:=Nat×(List Int)×Int) (fun(p:Nat×(List Int)×Int)=>[(0,v0),(2,v9),(5,v169),(8,v194),(14,v7),(15,.int .i64 ((y5).length:Int)),(16,.int .i64 (i149:Int)),(42,.int .i64 p.2.2)]) (fun(p:Nat×(List Int)×Int)=>[obox 87 TrH v0 (x0.1,(x0.2.1,u0a)),obox 98 TrL u0a x0.2.2,own 94 TrA v9 l8,own 9 TR.str v169 y167,obox 123 (TR.arr 4 TR.int) v194 p.2.1,own 9 TR.str v7 y5,keep X]) (fun(p:Nat×(List Int)×Int)=>z40 (z12 y167) p.1 (p.2.1,p.2.2)=some y224) (fun(p:Nat×(List Int)×Int)=>p.1) (1048576,(List.replicate 4 (0:Int)),(0:Int)) h226 (fun a w st=>St.cut [0,1,2,5,6,3,4] ⟨rfl,rfl,rfl,rfl,rfl,rfl,rfl,rfl,trivial⟩ (by decide) rfl st) ?_)
    rintro⟨r232,l209,x210⟩ h236
    try dsimp only at h236
    refine GL.weak (env':=[(0,v0),(2,v9),(5,v169),(8,v194),(14,v7),(15,.int .i64 ((y5).length:Int)),(16,.int .i64 (i149:Int)),(42,.int .i64 x210)]) (L':=[obox 87 TrH v0 (x0.1,(x0.2.1,u0a)),obox 98 TrL u0a x0.2.2,own 94 TrA v9 l8,own 9 TR.str v169 y167,obox 123 (TR.arr 4 TR.int) v194 l209,own 9 TR.str v7 y5,keep X]) ss ?_
    obtain⟨r239,z233,hr,h234,h235⟩:=z58 h236
    subst hr
    unfold z12 at h234
    try dsimp only at h234
    refine GL.seq (GL.region (RL.binI (v:=.bool (decide (x210<(4:Int)))) rfl rfl rfl rfl rfl (RL.finG (GL.seq (GL.cond rfl (fun b240=>?_) (fun b240=>?_))))))
    ·replace h234:=z13 b240 h234
     refine GL.skip (GL.seq (GL.block (GL.seq (GL.region (RL.mv rfl rfl rfl (RL.asg rfl rfl rfl (RL.finG ?_)))))))
     refine GL.region (RL.mv rfl rfl rfl (RL.mv rfl rfl rfl (RL.mv rfl rfl rfl (RL.binI (v:=.int .i64 (wadd (3:Int) x210)) rfl rfl rfl rfl rfl ?_))))
     obtain⟨y247,e248,h234⟩:=z7 h234
     refine RL.idxS (sz:=1) 3 Tryz.underlying110 zh rfl rfl rfl rfl rfl SlOf.own (z8 e248).1 (z8 e248).2.1 (RL.ldSx (i:=(wadd (3:Int) x210).toNat) (e':=y247) 3 Ex.str zh rfl rfl rfl rfl SlOf.own (z8 e248).2.2 Part.self ?_)
     obtain⟨y249,e250,h234⟩:=z7 h234
     refine RL.callV (v:=.tuple #[.int .i64 y249,Value.nilIface]) (vs:=[(sv y247)]) zez rfl ol rfl rfl rfl rfl (fun U w hU hW hL=>za3 U w hU y247 _ e250) (RL.mv rfl rfl rfl (RL.ext rfl rfl rfl rfl (RL.ext rfl rfl rfl rfl ?_)))
     obtain⟨y251,e252,h234⟩:=z7 h234
     refine RL.idxA0 (sz:=1) (t':=TR.int) 4 Tryz.underlying123 zd rfl rfl rfl PtOf.obox rfl rfl Part.self (z8 e252).1 (z8 e252).2.1 (RL.stP (off:=((x210).toNat*1)) (e':=y249) (d1:=(List.set l209 ((x210).toNat) y249)) (r:=TR.int) 4 zd rfl rfl ol rfl VR.int rfl (Upd.arr (z8 e252).2.2 Upd.self) (RL.finG (GL.nilB (GL.region (RL.binI (v:=.int .i64 (wadd x210 (1:Int))) rfl rfl rfl rfl rfl (RL.mv rfl rfl rfl (RL.finG ?_)))))))
     cases h234
     exact fun a w st=>z1l (r239,(List.set l209 ((x210).toNat) y249),wadd x210 (1:Int)) (by exact h235) (by simp) (st.cu [0,1,2,3,4,5,6])
    replace h234:=z14 b240 h234
    cases h234
    replace h235:some (Fl.nx _)=some y224:=h235
    cases h235
    exact GL.exit (fun a w st=>ze (l209,x210) h227 (st.cu [0,1,6,2,3,4,5]))
   rintro⟨l209,x210⟩ h253
   have h254:=h228 _ h253
   try dsimp only at h254
   refine GL.weak (env':=[(0,v0),(2,v9),(5,v169),(8,v194),(14,v7),(15,.int .i64 ((y5).length:Int)),(16,.int .i64 (i149:Int))]) (L':=[obox 87 TrH v0 (x0.1,(x0.2.1,u0a)),obox 98 TrL u0a x0.2.2,keep X,own 94 TrA v9 l8,own 9 TR.str v169 y167,obox 123 (TR.arr 4 TR.int) v194 l209,own 9 TR.str v7 y5]) ss (GL.regionA rfl rfl (RA.mv 0 rfl (by kernel_rfl) rfl rfl rfl (RA.mv 1 rfl (by kernel_rfl) rfl rfl rfl ?_)))
   obtain⟨y273,e274,h254⟩:=z7 h254
   refine RA.idxS (sz:=1) 4 Tryz.underlying110 zh 2 rfl (by kernel_rfl) rfl rfl rfl rfl rfl SlOf.own (z8 e274).1 (z8 e274).2.1 (RA.mv 4 rfl (by kernel_rfl) rfl rfl rfl ?_)
   obtain⟨y275,e276,h254⟩:=z7 h254
   refine RA.idxS (sz:=1) 4 Tryz.underlying110 zh 5 rfl (by kernel_rfl) rfl rfl rfl rfl rfl SlOf.own (z8 e276).1 (z8 e276).2.1 (RA.mv 16 rfl (by kernel_rfl) rfl rfl rfl ?_)
   obtain⟨y277,e278,h254⟩:=z7 h254
   refine RA.idxS (sz:=1) 4 Tryz.underlying110 zh 17 rfl (by kernel_rfl) rfl rfl rfl rfl rfl SlOf.own (z8 e278).1 (z8 e278).2.1 (RA.still (le:=q_90) (f:=5) [3,6,7,8,9,10,11,12,13,14,15,18] 19 rfl (by kernel_rfl) ?_)
   simp only[z6h,List.getElem?_toArray,List.getElem?_cons_succ,List.getElem?_cons_zero]
   refine RL.ldSx (i:=((1:Int)).toNat) (e':=y273) 4 Ex.str zh rfl rfl rfl rfl SlOf.own (z8 e274).2.2 Part.self (RL.ldSx (i:=((2:Int)).toNat) (e':=y275) 4 Ex.str zh rfl rfl rfl rfl SlOf.own (z8 e276).2.2 Part.self ?_)
   obtain⟨y279,e280,h254⟩:=z7 h254
   refine RL.idxA0 (sz:=1) (t':=TR.int) 5 Tryz.underlying123 zd rfl rfl rfl PtOf.obox rfl rfl Part.self (z8 e280).1 (z8 e280).2.1 (RL.ldPx (off:=(((0:Int)).toNat*1)) (e':=y279) 5 Ex.ik zd rfl rfl ol rfl PtOf.obox (Part.arr (z8 e280).2.2 Part.self) ?_)
   obtain⟨y281,e282,h254⟩:=z7 h254
   refine RL.idxA0 (sz:=1) (t':=TR.int) 5 Tryz.underlying123 zd rfl rfl rfl PtOf.obox rfl rfl Part.self (z8 e282).1 (z8 e282).2.1 (RL.ldPx (off:=(((1:Int)).toNat*1)) (e':=y281) 5 Ex.ik zd rfl rfl ol rfl PtOf.obox (Part.arr (z8 e282).2.2 Part.self) ?_)
   obtain⟨y283,e284,h254⟩:=z7 h254
   refine RL.idxA0 (sz:=1) (t':=TR.int) 5 Tryz.underlying123 zd rfl rfl rfl PtOf.obox rfl rfl Part.self (z8 e284).1 (z8 e284).2.1 (RL.ldPx (off:=(((2:Int)).toNat*1)) (e':=y283) 5 Ex.ik zd rfl rfl ol rfl PtOf.obox (Part.arr (z8 e284).2.2 Part.self) ?_)
   obtain⟨y285,e286,h254⟩:=z7 h254
   refine RL.idxA0 (sz:=1) (t':=TR.int) 5 Tryz.underlying123 zd rfl rfl rfl PtOf.obox rfl rfl Part.self (z8 e286).1 (z8 e286).2.1 (RL.ldPx (off:=(((3:Int)).toNat*1)) (e':=y285) 5 Ex.ik zd rfl rfl ol rfl PtOf.obox (Part.arr (z8 e286).2.2 Part.self) ?_)
   refine RL.bld (t:=TrD) (d0:=((y273,y275,y279,y281,y283,y285):TyD)) (pv:=[(0,(sv y273)),(1,(sv y275)),(2,.int .i64 y279),(3,.int .i64 y281),(4,.int .i64 y283),(5,.int .i64 y285)]) rfl Tryz_bld28 rfl rfl rfl ⟨⟨_,_,TR.str,y273,rfl,rfl,VR.str⟩,⟨⟨_,_,TR.str,y275,rfl,rfl,VR.str⟩,⟨⟨_,_,TR.int,y279,rfl,rfl,VR.int⟩,⟨⟨_,_,TR.int,y281,rfl,rfl,VR.int⟩,⟨⟨_,_,TR.int,y283,rfl,rfl,VR.int⟩,⟨⟨_,_,TR.int,y285,rfl,rfl,VR.int⟩,trivial⟩⟩⟩⟩⟩⟩ (fun S f hi=>by
     obtain⟨c0,e0,r0⟩:=z28 (t:=TR.str) (u:=(sv y273)) (e:=y273) (VR.str S f hi)
     obtain⟨c1,e1,r1⟩:=z28 (t:=TR.str) (u:=(sv y275)) (e:=y275) (VR.str S f hi)
     obtain⟨c2,e2,r2⟩:=z28 (t:=TR.int) (u:=.int .i64 y279) (e:=y279) (VR.int S f hi)
     obtain⟨c3,e3,r3⟩:=z28 (t:=TR.int) (u:=.int .i64 y281) (e:=y281) (VR.int S f hi)
     obtain⟨c4,e4,r4⟩:=z28 (t:=TR.int) (u:=.int .i64 y283) (e:=y283) (VR.int S f hi)
     obtain⟨c5,e5,r5⟩:=z28 (t:=TR.int) (u:=.int .i64 y285) (e:=y285) (VR.int S f hi)
     show TR.rep TrD S (List.flatten [((sv y273):Value).cells.toList,((sv y275):Value).cells.toList,(.int .i64 y279:Value).cells.toList,(.int .i64 y281:Value).cells.toList,(.int .i64 y283:Value).cells.toList,(.int .i64 y285:Value).cells.toList]) _
     simp only[e0,e1,e2,e3,e4,e5,List.flatten_cons,List.flatten_nil,List.append_nil]
     exact⟨_,_,rfl,r0,⟨_,_,rfl,r1,⟨_,_,rfl,r2,⟨_,_,rfl,r3,⟨_,_,rfl,r4,r5⟩⟩⟩⟩⟩) ?_
   intro v287
   refine RL.ldSx (i:=((7:Int)).toNat) (e':=y277) 4 Ex.str zh rfl rfl rfl rfl SlOf.own (z8 e278).2.2 Part.self (RL.finH (RL.fin (RA.next (RA.seq 19 rfl (by kernel_rfl) ?_))))
   obtain⟨y288,e289,h254⟩:=z7 h254
   refine RL.callU (vs:=[v9,v287,(sv y277)]) (LR:=fun(o:Value)=>[own 94 TrA o y288.1]) (fun o=>⟨Loc.own (TR.flatT_pair TR.flatT_str (TR.flatT_pair TR.flatT_ik TR.flatT_ik)),trivial⟩) zbj rfl rfl rfl rfl rfl (fun U w hU hW hL=>z8w U w hU _ _ (hL 3 _ _ rfl Seen.own) _ _ (hL 7 _ _ rfl Seen.imm) y277 _ e289) ?_
   intro v290
   refine RL.fin (RA.next (RA.quiet 20 rfl rfl (by kernel_rfl) ?_))
   simp only[List.drop_succ_cons,List.drop_zero]
   refine RL.mv rfl rfl rfl (RL.ext rfl rfl rfl rfl (RL.ext rfl rfl rfl rfl (RL.asg rfl rfl rfl (RL.finQ (RA.outQ (GL.weak (env':=[(0,v0),(2,v290),(14,v7),(15,.int .i64 ((y5).length:Int)),(16,.int .i64 (i149:Int))]) (L':=[obox 87 TrH v0 (x0.1,(x0.2.1,u0a)),obox 98 TrL u0a x0.2.2,keep X,own 94 TrA v290 y288.1,own 9 TR.str v7 y5]) (fun a w st=>St.cut [0,1,2,8,6] ⟨rfl,rfl,rfl,rfl,rfl,trivial⟩ (by decide) rfl st) (GL.nilB ?_)))))))
   refine GL.region (RL.binI (v:=.int .i64 ((i149+1:Nat):Int)) rfl rfl rfl rfl (binI_succ i149 (by omega)) (RL.mv rfl rfl rfl (RL.fin ?_)))
   cases h254
   exact fun a w st=>z1l (i149+1,r159,y288.1,v290) ⟨by show i149+1+r159=(y5).length;omega,h153⟩ (by simp) (st.cu [0,1,3,4,2])
  have h158:¬ i149<(y5).length:=by have:=of_decide_eq_false b157;omega
  obtain rfl:r150=0:=by omega
  replace h154:some (Fl.nx _)=some y142:=h154
  cases h154
  exact GL.exit (fun a w st=>ze (l8,v9) h145 (st.cu [0,1,4,2]))
 rintro⟨l8,v9⟩ h291
 have h292:=h146 _ h291
 try dsimp only at h292
 refine GL.weak (env':=[(0,v0),(2,v9)]) (L':=[obox 87 TrH v0 (x0.1,(x0.2.1,u0a)),obox 98 TrL u0a x0.2.2,keep X,own 94 TrA v9 l8]) ss (GL.region (RL.mv rfl rfl rfl (RL.mv rfl rfl rfl (RL.mv rfl rfl rfl (RL.nilk 0 rfl rfl rfl rfl PtOf.obox (RL.fadr (off:=0) (fo:=0) 0 z3s rfl rfl rfl PtOf.obox oi (RL.weak (fun a w st=>st.freeze 3 rfl) ?_)))))))
 refine RL.stP (off:=(0+0)) (e':=l8) (d1:=((l8,x0.2).1,((l8,x0.2).2.1,u0a))) (r:=(TR.sl TrA)) 0 z4b rfl rfl ol rfl (VR.item 3 rfl) rfl (Upd.fst Upd.self) (RL.reL (L':=[obox 87 TrH v0 ((l8,x0.2).1,((l8,x0.2).2.1,u0a)),obox 98 TrL u0a x0.2.2,keep X,imm (TR.sl TrA) v9 l8]) rfl (RL.nilk 0 rfl rfl rfl rfl PtOf.obox (RL.fadr (off:=0) (fo:=1) 0 z2t rfl rfl rfl PtOf.obox oi (RL.stP (off:=(0+1)) (e':=([]:(List TyD))) (d1:=(((l8,x0.2).1,(([]:(List TyD)),(l8,x0.2).2.2)).1,(((l8,x0.2).1,(([]:(List TyD)),(l8,x0.2).2.2)).2.1,u0a))) (r:=(TR.sl TrD)) 0 z4a rfl rfl ol rfl VR.nil rfl (Upd.snd (Upd.fst Upd.self)) (RL.reL (L':=[obox 87 TrH v0 (((l8,x0.2).1,(([]:(List TyD)),(l8,x0.2).2.2)).1,(((l8,x0.2).1,(([]:(List TyD)),(l8,x0.2).2.2)).2.1,u0a)),obox 98 TrL u0a x0.2.2,keep X,imm (TR.sl TrA) v9 l8]) rfl (RL.finG ?_))))))
 have h292:=Option.some.inj h292
 subst h292
 exact GL.nil (Gx.retN (v:=.tuple #[]) (res0 rfl) (fun a w st=>(st.pick [0,1,2] (by decide) rfl).toPostM (V:=fun(o:Unit)=>.tuple #[]) (LR:=fun(o:Unit)=>[obox 87 TrH v0 ((l8,(([]:(List TyD)),x0.2.2)).1,((l8,(([]:(List TyD)),x0.2.2)).2.1,u0a)),obox 98 TrL u0a ((l8,(([]:(List TyD)),x0.2.2)).2.2),keep X]) ()))
theorem z5q(B:World)(S X:Hp)(f:Nat→Hp)(w:World)(v0:Value)(x0:List TyD)(hO:z2h B.heap.size S f [own 28 TrD v0 x0,keep X].length w)(hB:Below B.heap.size B w)(hI:Its [own 28 TrD v0 x0,keep X] S f)(x1 x2:Int)(res:List TyD)(hm:z1y x0 x1 x2=some res):Calls Tryz.prog 66 #[v0,.int .i64 x1,.int .i64 x2] w (zaj B S (fun(o:Value)=>o) (fun(o:Value)=>[own 28 TrD o res,keep X])):=by
  refine z2e 33 Tryz.func66 Tryz.ntmps66 rfl B S f [(0,v0),(1,.int .i64 x1),(2,.int .i64 x2)] [own 28 TrD v0 x0,keep X] [] rfl ⟨rfl,rfl,rfl,trivial⟩ hB hO hI trivial ?_
  unfold z1y at hm
  obtain⟨_,hc,hm⟩:=z7 hm
  replace hc:=z15 hc
  have hm:=Option.some.inj hm
  subst hm
  obtain⟨i,rfl⟩:∃ i:Nat,x1=(i:Int):=⟨x1.toNat,by omega⟩
  obtain⟨j,rfl⟩:∃ j:Nat,x2=(j:Int):=⟨x2.toNat,by omega⟩
  simp only[Int.toNat_natCast]
  refine GL.capO 0 rfl (fun hcap hmax hrl hcr=>?_)
  repeat refine GL.seq ?_
  refine GL.region (RL.asg rfl rfl rfl (RL.finG ?_))
  repeat refine GL.seq ?_
  refine GL.region (RL.mv rfl rfl rfl (RL.mv rfl rfl rfl (RL.mv rfl rfl rfl (RL.mv rfl rfl rfl (RL.lenS 0 Tryz.underlying85 rfl rfl rfl rfl SlOf.own (RL.cut3 (i:=i) (j:=j) (m:=x0.length) 0 Tryz.underlying85 zu rfl rfl rfl rfl rfl rfl rfl (by omega) (by omega) (by omega) ?_))))))
  intro u
  refine RL.finG ?_
  repeat refine GL.seq ?_
  refine GL.region (RL.mv rfl rfl rfl (RL.mv rfl rfl rfl (RL.binI (v:=.bool ((i:Int)==(j:Int))) rfl rfl rfl rfl rfl (RL.finG ?_))))
  repeat refine GL.seq ?_
  refine GL.cond rfl (fun h=>?_) (fun h=>?_)
  · have hij:i=j:=by have:=of_decide_eq_true (p:=(i:Int)=(j:Int)) (by simpa using h);omega
    subst hij
    repeat refine GL.seq ?_
    refine GL.region (RL.mv rfl rfl rfl (RL.asg rfl rfl rfl (RL.finG ?_)))
    have hx:x0.take i++x0.drop i=x0:=List.take_append_drop _ _
    rw[hx]
    exact GL.ret (Gx.ret (v:=v0) (res1 rfl rfl) (fun a w st=>(st.pick [0,1] (by decide) rfl).toPostM (LR:=fun(o:Value)=>[own 28 TrD o x0,keep X]) v0))
  · have hij:i≠j:=fun e=>by subst e;simp at h
    have hll:(x0.take i++x0.drop j).length=i+(x0.length-j):=by rw[List.length_append,List.length_take,List.length_drop];omega
    refine GL.skip ?_
    repeat refine GL.seq ?_
    refine GL.region (RL.mv rfl rfl rfl (RL.lenS 0 Tryz.underlying85 rfl rfl rfl rfl SlOf.own (RL.asg rfl rfl rfl (RL.finG ?_))))
    repeat refine GL.seq ?_
    refine GL.regionH 6 rfl rfl (by kernel_rfl) ?_
    simp only[List.take_succ_cons,List.take_zero,List.drop_succ_cons,List.drop_zero]
    refine RL.mv rfl rfl rfl (RL.mv rfl rfl rfl (RL.cutO (i:=0) (j:=i) 0 Tryz.underlying85 zu rfl rfl rfl (Or.inl ⟨rfl,rfl⟩) (Or.inr ⟨_,_,rfl,rfl⟩) rfl (by omega) (by show i≤capv v0;omega) (RL.mv rfl rfl rfl (RL.mv rfl rfl rfl (RL.cutO (i:=j) (j:=x0.length) 0 Tryz.underlying85 zu rfl rfl rfl (Or.inr ⟨_,_,rfl,rfl⟩) (Or.inl ⟨rfl,rfl⟩) rfl (by omega) hcap (RL.finH (RL.del (i:=i) (j:=j) 0 Tryz.underlying85 z49 rfl rfl rfl rfl rfl rfl (by omega) (by omega) ?_)))))))
    refine RL.asg rfl rfl rfl (RL.finG ?_)
    repeat refine GL.seq ?_
    refine GL.region (RL.mv rfl rfl rfl (RL.mv rfl rfl rfl (RL.lenS 0 Tryz.underlying85 rfl rfl rfl rfl SlOf.own (RL.mv rfl rfl rfl (RL.cutO (i:=(x0.take i++x0.drop j).length) (j:=x0.length) 0 Tryz.underlying85 zu rfl rfl rfl (Or.inr ⟨_,_,rfl,rfl⟩) (Or.inr ⟨_,_,rfl,rfl⟩) rfl (by omega) (by rw[hcr];exact hcap) (RL.clr (j:=x0.length) 0 Tryz.underlying85 z49 (by decide) rfl rfl rfl rfl (by omega) (by rw[hcr];exact hcap) (RL.finG ?_)))))))
    repeat refine GL.seq ?_
    refine GL.region (RL.mv rfl rfl rfl (RL.asg rfl rfl rfl (RL.finG ?_)))
    exact GL.ret (Gx.ret (v:=z73 v0 (i+(x0.length-j))) (res1 rfl rfl) (fun a w st=>(st.pick [0,1] (by decide) rfl).toPostM (LR:=fun(o:Value)=>[own 28 TrD o (x0.take i++x0.drop j),keep X]) (z73 v0 (i+(x0.length-j)))))
theorem queue_Drop_c(S:Hp)(w:World)(hS:S.sub w)(v0:Value)(x0:(List TyD))(k0:((TR.sl TrD)).vrep S v0 x0)(x1:B8)(x2:Int)(res:(List TyD)×Int)(hm:z6b x0 x1 x2=some res):Calls Tryz.prog 46 #[v0,(sv x1),.int .i64 x2] w (Post w S (fun(o:Value)=>.tuple #[o,.int .i64 res.2]) (fun(o:Value)=>[own 28 TrD o res.1])):=by
 refine zi 27 Tryz.func46 Tryz.ntmps46 rfl S false [(0,v0),(1,(sv x1)),(2,.int .i64 x2)] [imm (TR.sl TrD) v0 x0] rfl ⟨rfl,⟨rfl,⟨rfl,trivial⟩⟩⟩ hS ⟨k0,trivial⟩ ?_
 unfold z6b at hm
 refine GL.seq (GL.region (RL.asg rfl rfl rfl (RL.asg rfl rfl rfl (RL.finG (GL.seq (GL.seq (GL.region ?_)))))))
 refine RL.mv rfl rfl rfl ?_
 obtain⟨y6,e7,hm⟩:=z7 hm
 refine RL.callV (v:=.int .i64 y6) (vs:=[v0]) z9z rfl ol rfl rfl rfl rfl (fun U w hU hW hL=>z6s U w hU _ _ (hL 0 _ _ rfl Seen.imm) _ e7) (RL.asg rfl rfl rfl (RL.finG (GL.seq (GL.region (RL.mv rfl rfl rfl (RL.binI (v:=.bool (y6 != (0:Int))) rfl rfl rfl rfl rfl (RL.finG ?_)))))))
 refine GL.cond rfl (fun b8=>?_) (fun b8=>?_)
 ·replace hm:=z13 b8 hm
  refine GL.seq (GL.region (RL.mv rfl rfl rfl (RL.asg rfl rfl rfl (RL.asg rfl rfl rfl (RL.finG (GL.weak (fun a w st=>st.nilOwn 28 TrD) ?_))))))
  have hm:=Option.some.inj hm
  subst hm
  exact GL.ret (Gx.ret (v:=.tuple #[Value.slice none 0 0,.int .i64 y6]) (res2 rfl rfl rfl) (fun a w st=>(st.pick [1] (by decide) rfl).toPost (Value.slice none 0 0)))
 replace hm:=z14 b8 hm
 refine GL.skip (GL.seq (GL.region (RL.mv rfl rfl rfl (RL.mv rfl rfl rfl (RL.mv rfl rfl rfl ?_)))))
 obtain⟨y11,e12,hm⟩:=z7 hm
 refine RL.callV (v:=.int .i64 y11) (vs:=[v0,(sv x1),.int .i64 x2]) zbk rfl ol rfl rfl rfl rfl (fun U w hU hW hL=>z9f U w hU _ _ (hL 0 _ _ rfl Seen.imm) x1 x2 _ e12) (RL.asg rfl rfl rfl (RL.finG (GL.seq (GL.seq (GL.region (RL.mv rfl rfl rfl (RL.binI (v:=.bool (decide (y11<(0:Int)))) rfl rfl rfl rfl rfl ?_)))))))
 refine RL.finG (GL.cond rfl (fun b13=>?_) (fun b13=>?_))
 ·replace hm:=z13 b13 hm
  refine GL.seq (GL.region (RL.asg rfl rfl rfl (RL.asg rfl rfl rfl (RL.finG (GL.weak (fun a w st=>st.nilOwn 28 TrD) ?_)))))
  have hm:=Option.some.inj hm
  subst hm
  exact GL.ret (Gx.ret (v:=.tuple #[Value.slice none 0 0,.int .i64 (4:Int)]) (res2 rfl rfl rfl) (fun a w st=>(st.pick [1] (by decide) rfl).toPost (Value.slice none 0 0)))
 replace hm:=z14 b13 hm
 refine GL.skip (GL.seq (GL.region (RL.mv rfl rfl rfl ?_)))
 obtain⟨y20,e21,hm⟩:=z7 hm
 refine RL.call (vs:=[v0]) z72 rfl rfl rfl rfl rfl (fun S f w hS hW hi=>z1g S w hS _ _ (hi 0 _ rfl) _ e21) ?_
 intro v22
 refine RL.mv rfl rfl rfl (RL.mv rfl rfl rfl (RL.binI (v:=.int .i64 (wadd y11 (1:Int))) rfl rfl rfl rfl rfl ?_))
 obtain⟨y23,e24,hm⟩:=z7 hm
 refine RL.callK (vs:=[v22,.int .i64 y11,.int .i64 (wadd y11 (1:Int))]) (V:=fun(o:Value)=>o) (LR:=fun(o:Value)=>[own 28 TrD o y23]) (Ls:=[own 28 TrD v22 y20]) [1] (by decide) Tryz_fit66 rfl rfl rfl rfl rfl rfl (fun S f X w hO hB hW hI hL=>z5q _ S X f w _ _  hO hB hI y11 (wadd y11 (1:Int)) _ e24) ?_
 intro v25
 refine RL.reL (L':=[imm (TR.sl TrD) v0 x0,gone,own 28 TrD v25 y23]) rfl (RL.asg rfl rfl rfl (RL.asg rfl rfl rfl (RL.finG ?_)))
 have hm:=Option.some.inj hm
 subst hm
 exact GL.ret (Gx.ret (v:=.tuple #[v25,.int .i64 (0:Int)]) (res2 rfl rfl rfl) (fun a w st=>(st.pick [2] (by decide) rfl).toPost v25))
theorem zc7(B:World)(S X:Hp)(f:Nat→Hp)(w:World)(v0:Value)(u0a:Value)(x0:TyH)(hO:z2h B.heap.size S f [obox 87 TrH v0 (x0.1,(x0.2.1,u0a)),obox 98 TrL u0a x0.2.2,keep X].length w)(hB:Below B.heap.size B w)(hI:Its [obox 87 TrH v0 (x0.1,(x0.2.1,u0a)),obox 98 TrL u0a x0.2.2,keep X] S f)(hT:Tab Tryz.prog (Tryz.lays146_ren.g 1) S)(v1:Value)(x1:TyE)(k1:(TrE).vrep S v1 x1)(res:(Int×Int)×Int×TyH)(hm:z3x x0 x1=some res):Calls Tryz.prog 28 #[v0,v1] w (zaj B S (fun(o:Value)=>.tuple #[o,.int .i64 res.2.1]) (fun(o:Value)=>[obox 87 TrH v0 (res.2.2.1,(res.2.2.2.1,u0a)),obox 98 TrL u0a res.2.2.2.2,imm (TR.pair TR.int TR.int) o res.1,keep X])):=by
 refine z2e 124 Tryz.func28 Tryz.ntmps28 rfl B S f [(0,v0),(1,v1)] [obox 87 TrH v0 (x0.1,(x0.2.1,u0a)),obox 98 TrL u0a x0.2.2,keep X] [imm TrE v1 x1] rfl ⟨rfl,⟨rfl,trivial⟩⟩ hB hO hI ⟨k1,trivial⟩ ?_
 unfold z3x at hm
 refine GL.seq (GL.region (RL.box (t:=TrE) (e:=x1) rfl rfl rfl rfl (VR.item 3 rfl) ?_))
 intro v5
 refine RL.alloc (t:=(TR.pair TR.int TR.int)) (z:=((0:Int),(0:Int))) z5j (fun S=>⟨[.int .i64 0],_,rfl,rfl,rfl⟩) rfl rfl rfl ?_
 intro v6
 refine RL.reL (L':=[obox 87 TrH v0 (x0.1,(x0.2.1,u0a)),obox 98 TrL u0a x0.2.2,keep X,imm TrE v1 x1,obox 30 TrE v5 x1,obox 37 (TR.pair TR.int TR.int) v6 ((0:Int),(0:Int))]) rfl (RL.asg rfl rfl rfl (RL.finG (GL.seq (GL.region ?_))))
 refine RL.bld (t:=(TR.pair TR.int TR.int)) (d0:=(((0:Int),(0:Int)):(Int×Int))) (pv:=[]) rfl z5v rfl rfl rfl trivial (fun S f hi=>by
   show TR.rep (TR.pair TR.int TR.int) S (List.flatten [[.int .i64 0],[.int .i64 0]]) _
   simp only[ List.flatten_cons,List.flatten_nil,List.append_nil]
   exact⟨_,_,rfl,rfl,rfl⟩) ?_
 intro v9
 refine RL.alloc (t:=(TR.pair TR.int TR.int)) (z:=((0:Int),(0:Int))) z5j (fun S=>⟨[.int .i64 0],_,rfl,rfl,rfl⟩) rfl rfl rfl ?_
 intro v10
 refine RL.reL (L':=[obox 87 TrH v0 (x0.1,(x0.2.1,u0a)),obox 98 TrL u0a x0.2.2,keep X,imm TrE v1 x1,obox 30 TrE v5 x1,obox 37 (TR.pair TR.int TR.int) v6 ((0:Int),(0:Int)),imm (TR.pair TR.int TR.int) v9 (((0:Int),(0:Int)):(Int×Int)),obox 37 (TR.pair TR.int TR.int) v10 ((0:Int),(0:Int))]) rfl (RL.stP (off:=0) (e':=(((0:Int),(0:Int)):(Int×Int))) (d1:=(((0:Int),(0:Int)):(Int×Int))) (r:=(TR.pair TR.int TR.int)) 7 zj rfl rfl oi rfl (VR.item 6 rfl) rfl Upd.self (RL.finG (GL.seq (GL.seq (GL.region (RL.fadr (off:=0) (fo:=0) 4 Tryz_fld30_0 rfl rfl rfl PtOf.obox oi (RL.ldPx (off:=(0+0)) (e':=x1.1) 4 Ex.ik zd rfl rfl ol rfl PtOf.obox (Part.fst Part.self) ?_)))))))
 refine RL.finG (GL.block (GL.seq (GL.region (RL.binI (v:=.bool (x1.1==(1:Int))) rfl rfl rfl rfl rfl (RL.asg rfl rfl rfl (RL.finG (GL.cond rfl (fun b11=>?_) (fun b11=>?_))))))))
 ·replace hm:=z13 b11 hm
  refine GL.seq (GL.regionA rfl rfl (RA.mv 1 rfl (by kernel_rfl) rfl rfl rfl ?_))
  obtain⟨y31,e32,hm⟩:=z7 hm
  refine RA.meet (ι:=Value) (fun(p:Value)=>[(4,v6),(18,p),(21,.int .i64 y31.1)]) (fun(p:Value)=>[keep X,obox 87 TrH v0 (y31.2.1,(y31.2.2.1,u0a)),obox 98 TrL u0a y31.2.2.2,obox 37 (TR.pair TR.int TR.int) v6 ((0:Int),(0:Int)),imm (TR.pair TR.int TR.int) p (((0:Int),(0:Int)):(Int×Int))]) 2 q_91 (fun h36=>?_) ?_
  ·skip
   refine RA.meet (ι:=Value×Value) (fun(p:Value×Value)=>[(4,v6),(18,p.1),(19,v0),(20,p.2)]) (fun(p:Value×Value)=>[obox 87 TrH v0 (x0.1,(x0.2.1,u0a)),obox 98 TrL u0a x0.2.2,keep X,obox 37 (TR.pair TR.int TR.int) v6 ((0:Int),(0:Int)),imm (TR.pair TR.int TR.int) p.1 (((0:Int),(0:Int)):(Int×Int)),imm TrE p.2 x1]) 3 q_92 (fun h37=>?_) ?_
   rotate_left
   ·rintro⟨v35,v34⟩
    refine RA.weak (env':=[(4,v6),(18,v35),(19,v0),(20,v34)]) (L':=[obox 87 TrH v0 (x0.1,(x0.2.1,u0a)),obox 98 TrL u0a x0.2.2,keep X,obox 37 (TR.pair TR.int TR.int) v6 ((0:Int),(0:Int)),imm (TR.pair TR.int TR.int) v35 (((0:Int),(0:Int)):(Int×Int)),imm TrE v34 x1]) ss (RA.seq 3 rfl (by kernel_rfl) (RL.callK (vs:=[v0,v34]) (V:=fun(o:Unit)=>.int .i64 y31.1) (LR:=fun(o:Unit)=>[obox 87 TrH v0 (y31.2.1,(y31.2.2.1,u0a)),obox 98 TrL u0a y31.2.2.2]) (Ls:=[obox 87 TrH v0 (x0.1,(x0.2.1,u0a)),obox 98 TrL u0a x0.2.2]) [0,1] (by decide) zf4 rfl rfl rfl rfl rfl rfl (fun S f X w hO hB hW hI hL=>z7s _ S X f w _ _ x0  hO hB hI (hT.mono hW) _ _ (hL 5 _ _ rfl Sure.imm) _ e32) ?_))
    intro _
    refine RL.fin (RA.next (RA.rl 2 q_91 ?_))
    exact fun a w st=>h36 v35 a w (st.cu [2,6,7,3,4])
   refine RA.meetU [(4,v6),(6,v10),(21,.int .i64 y31.1)] [keep X,obox 87 TrH v0 (y31.2.1,(y31.2.2.1,u0a)),obox 98 TrL u0a y31.2.2.2,obox 37 (TR.pair TR.int TR.int) v6 ((0:Int),(0:Int)),obox 37 (TR.pair TR.int TR.int) v10 (((0:Int),(0:Int)):(Int×Int))] 3 q_93 (fun h38=>?_) ?_
   rotate_left
   ·refine RA.seq 0 rfl (by kernel_rfl) (RL.ldP (off:=0) (r:=(TR.pair TR.int TR.int)) (e':=(((0:Int),(0:Int)):(Int×Int))) 4 zj rfl rfl oi rfl PtOf.obox Part.self ?_)
    intro v45
    refine RL.fin (RA.next (RA.rl 2 q_91 ?_))
    exact fun a w st=>h36 v45 a w (st.cu [0,1,2,3,5])
   refine RA.meet (ι:=Value) (fun(p:Value)=>[(4,v6),(6,v10),(19,v0),(20,p)]) (fun(p:Value)=>[obox 87 TrH v0 (x0.1,(x0.2.1,u0a)),obox 98 TrL u0a x0.2.2,keep X,obox 37 (TR.pair TR.int TR.int) v6 ((0:Int),(0:Int)),obox 37 (TR.pair TR.int TR.int) v10 (((0:Int),(0:Int)):(Int×Int)),imm TrE p x1]) 4 q_94 (fun h39=>?_) ?_
   rotate_left
   ·rintro v34
    refine RA.weak (env':=[(4,v6),(6,v10),(19,v0),(20,v34)]) (L':=[obox 87 TrH v0 (x0.1,(x0.2.1,u0a)),obox 98 TrL u0a x0.2.2,keep X,obox 37 (TR.pair TR.int TR.int) v6 ((0:Int),(0:Int)),obox 37 (TR.pair TR.int TR.int) v10 (((0:Int),(0:Int)):(Int×Int)),imm TrE v34 x1]) ss (RA.many [0,3] (by kernel_rfl) ⟨⟨_,rfl,?_⟩,⟨_,rfl,?_⟩,trivial⟩)
    ·skip
     refine RL.ldP (off:=0) (r:=(TR.pair TR.int TR.int)) (e':=(((0:Int),(0:Int)):(Int×Int))) 4 zj rfl rfl oi rfl PtOf.obox Part.self ?_
     intro v44
     refine RL.fin (RA.next (RA.rl 3 q_92 ?_))
     exact fun a w st=>h37 (v44,v34) a w (st.cu [0,1,2,3,6,5])
    refine RL.callK (vs:=[v0,v34]) (V:=fun(o:Unit)=>.int .i64 y31.1) (LR:=fun(o:Unit)=>[obox 87 TrH v0 (y31.2.1,(y31.2.2.1,u0a)),obox 98 TrL u0a y31.2.2.2]) (Ls:=[obox 87 TrH v0 (x0.1,(x0.2.1,u0a)),obox 98 TrL u0a x0.2.2]) [0,1] (by decide) zf4 rfl rfl rfl rfl rfl rfl (fun S f X w hO hB hW hI hL=>z7s _ S X f w _ _ x0  hO hB hI (hT.mono hW) _ _ (hL 5 _ _ rfl Sure.imm) _ e32) ?_
    intro _
    refine RL.fin (RA.next (RA.rl 3 q_93 ?_))
    exact St.via [2,6,7,3,4] h38
   refine RA.meet (ι:=Value) (fun(p:Value)=>[(3,v5),(4,v6),(18,p),(19,v0)]) (fun(p:Value)=>[obox 87 TrH v0 (x0.1,(x0.2.1,u0a)),obox 98 TrL u0a x0.2.2,keep X,obox 30 TrE v5 x1,obox 37 (TR.pair TR.int TR.int) v6 ((0:Int),(0:Int)),imm (TR.pair TR.int TR.int) p (((0:Int),(0:Int)):(Int×Int))]) 4 q_95 (fun h40=>?_) ?_
   rotate_left
   ·rintro v33
    refine RA.weak (env':=[(3,v5),(4,v6),(18,v33),(19,v0)]) (L':=[obox 87 TrH v0 (x0.1,(x0.2.1,u0a)),obox 98 TrL u0a x0.2.2,keep X,obox 30 TrE v5 x1,obox 37 (TR.pair TR.int TR.int) v6 ((0:Int),(0:Int)),imm (TR.pair TR.int TR.int) v33 (((0:Int),(0:Int)):(Int×Int))]) ss (RA.seq 2 rfl (by kernel_rfl) (RL.ldP (off:=0) (r:=TrE) (e':=x1) 3 z7f rfl rfl oi rfl PtOf.obox Part.self ?_))
    intro v43
    refine RL.fin (RA.next (RA.rl 3 q_92 ?_))
    exact fun a w st=>h37 (v33,v43) a w (st.cu [0,1,2,4,5,6])
   refine RA.many [0,2] (by kernel_rfl) ⟨⟨_,rfl,?_⟩,⟨_,rfl,?_⟩,trivial⟩
   ·skip
    refine RL.ldP (off:=0) (r:=(TR.pair TR.int TR.int)) (e':=(((0:Int),(0:Int)):(Int×Int))) 7 zj rfl rfl oi rfl PtOf.obox Part.self ?_
    intro v41
    refine RL.fin (RA.next (RA.rl 4 q_95 ?_))
    exact fun a w st=>h40 v41 a w (st.cu [0,1,2,4,5,8])
   refine RL.ldP (off:=0) (r:=TrE) (e':=x1) 4 z7f rfl rfl oi rfl PtOf.obox Part.self ?_
   intro v42
   refine RL.fin (RA.next (RA.rl 4 q_94 ?_))
   exact fun a w st=>h39 v42 a w (st.cu [0,1,2,5,7,8])
  rintro v35
  refine RA.weak (env':=[(4,v6),(18,v35),(21,.int .i64 y31.1)]) (L':=[keep X,obox 87 TrH v0 (y31.2.1,(y31.2.2.1,u0a)),obox 98 TrL u0a y31.2.2.2,obox 37 (TR.pair TR.int TR.int) v6 ((0:Int),(0:Int)),imm (TR.pair TR.int TR.int) v35 (((0:Int),(0:Int)):(Int×Int))]) ss (RA.seq 4 rfl (by kernel_rfl) (RL.stP (off:=0) (e':=(((0:Int),(0:Int)):(Int×Int))) (d1:=(((0:Int),(0:Int)):(Int×Int))) (r:=(TR.pair TR.int TR.int)) 3 zj rfl rfl oi rfl (VR.item 4 rfl) rfl Upd.self (RL.fin (RA.next (RA.quiet 5 rfl rfl (by kernel_rfl) ?_)))))
  simp only[List.drop_succ_cons,List.drop_zero]
  refine RL.asg rfl rfl rfl (RL.finQ (RA.outQ (GL.weak (env':=[(4,v6),(5,.int .i64 y31.1)]) (L':=[keep X,obox 87 TrH v0 (y31.2.1,(y31.2.2.1,u0a)),obox 98 TrL u0a y31.2.2.2,obox 37 (TR.pair TR.int TR.int) v6 (((0:Int),(0:Int)):(Int×Int))]) (fun a w st=>St.cut [0,1,2,3] ⟨rfl,rfl,trivial⟩ (by decide) rfl st) ?_)))
  have hm:=Option.some.inj hm
  subst hm
  exact GL.ret (Gx.retX [.cell 4 37,.tmp 5] rfl (fun a w st=>by
    have st0:=st
    obtain⟨u46,hu46,st⟩:=st.cellRes (p:=4) (T:=37) 3 zj rfl rfl rfl
    exact⟨[u46,.int .i64 y31.1],⟨hu46,⟨(z6j st0.env rfl),trivial⟩⟩,(st.pick [1,2,4,0] (by decide) rfl).toPostM (V:=fun(o:Value)=>.tuple #[o,.int .i64 (((((0:Int),(0:Int)):(Int×Int)),y31.1,y31.2).2.1)]) (LR:=fun(o:Value)=>[obox 87 TrH v0 ((((((0:Int),(0:Int)):(Int×Int)),y31.1,y31.2).2.2).1,((((((0:Int),(0:Int)):(Int×Int)),y31.1,y31.2).2.2).2.1,u0a)),obox 98 TrL u0a ((((((0:Int),(0:Int)):(Int×Int)),y31.1,y31.2).2.2).2.2),imm (TR.pair TR.int TR.int) o (((((0:Int),(0:Int)):(Int×Int)),y31.1,y31.2).1),keep X]) u46⟩))
 replace hm:=z14 b11 hm
 refine GL.seq (GL.region (RL.binI (v:=.bool (x1.1==(2:Int))) rfl rfl rfl rfl rfl (RL.asg rfl rfl rfl (RL.finG (GL.cond rfl (fun b47=>?_) (fun b47=>?_))))))
 ·replace hm:=z13 b47 hm
  refine GL.seq (GL.regionA rfl rfl (RA.mv 0 rfl (by kernel_rfl) rfl rfl rfl (RA.still (le:=q_96) (f:=6) [1,2,3,4,5] 6 rfl (by kernel_rfl) ?_)))
  simp only[z6h,List.getElem?_toArray,List.getElem?_cons_succ,List.getElem?_cons_zero]
  refine RL.nilk 0 rfl rfl rfl rfl PtOf.obox (RL.fadr (off:=0) (fo:=1) 0 z2t rfl rfl rfl PtOf.obox oi (RL.ldP (off:=(0+1)) (r:=(TR.sl TrD)) (e':=x0.2.1) 0 z4a rfl rfl ol rfl PtOf.obox (Part.snd (Part.fst Part.self)) ?_))
  intro v53
  refine RL.fadr (off:=0) (fo:=3) 4 Tryz_fld30_3 rfl rfl rfl PtOf.obox oi (RL.ldP (off:=(0+3)) (r:=TrD) (e':=x1.2.2.2) 4 zu rfl rfl ol rfl PtOf.obox (Part.snd (Part.snd (Part.snd Part.self))) ?_)
  intro v54
  refine RL.finH (RL.fin (RA.next (RA.seq 6 rfl (by kernel_rfl) ?_)))
  obtain⟨y55,e56,hm⟩:=z7 hm
  refine RL.call (vs:=[v53,v54]) Tryz_fit40 rfl rfl rfl rfl rfl (fun S f w hS hW hi=>queue_Add_c S w hS _ _ (hi 8 _ rfl) _ _ (hi 9 _ rfl) _ e56) ?_
  intro v57
  refine RL.fin (RA.next (RA.quiet 7 rfl rfl (by kernel_rfl) ?_))
  simp only[List.drop_succ_cons,List.drop_zero]
  refine RL.mv rfl rfl rfl (RL.ext rfl rfl rfl rfl (RL.ext rfl rfl rfl rfl (RL.asg rfl rfl rfl (RL.asg rfl rfl rfl (RL.finQ (RA.outQ (GL.weak (env':=[(0,v0),(4,v6),(6,v10),(7,v57),(8,.int .i64 y55.2)]) (L':=[obox 87 TrH v0 (x0.1,(x0.2.1,u0a)),obox 98 TrL u0a x0.2.2,keep X,obox 37 (TR.pair TR.int TR.int) v6 ((0:Int),(0:Int)),obox 37 (TR.pair TR.int TR.int) v10 (((0:Int),(0:Int)):(Int×Int)),own 28 TrD v57 y55.1]) (fun a w st=>St.cut [0,1,2,5,7,10] ⟨rfl,rfl,rfl,rfl,rfl,trivial⟩ (by decide) rfl st) ?_)))))))
  refine GL.seq (GL.seq (GL.region (RL.mv rfl rfl rfl (RL.binI (v:=.bool (y55.2 != (0:Int))) rfl rfl rfl rfl rfl (RL.finG (GL.cond rfl (fun b58=>?_) (fun b58=>?_)))))))
  ·replace hm:=z13 b58 hm
   refine GL.seq (GL.region (RL.ldP (off:=0) (r:=(TR.pair TR.int TR.int)) (e':=(((0:Int),(0:Int)):(Int×Int))) 4 zj rfl rfl oi rfl PtOf.obox Part.self ?_))
   intro v60
   refine RL.mv rfl rfl rfl (RL.stP (off:=0) (e':=(((0:Int),(0:Int)):(Int×Int))) (d1:=(((0:Int),(0:Int)):(Int×Int))) (r:=(TR.pair TR.int TR.int)) 3 zj rfl rfl oi rfl (VR.item 6 rfl) rfl Upd.self (RL.reL (L':=[obox 87 TrH v0 (x0.1,(x0.2.1,u0a)),obox 98 TrL u0a x0.2.2,keep X,obox 37 (TR.pair TR.int TR.int) v6 (((0:Int),(0:Int)):(Int×Int)),obox 37 (TR.pair TR.int TR.int) v10 (((0:Int),(0:Int)):(Int×Int)),own 28 TrD v57 y55.1,imm (TR.pair TR.int TR.int) v60 (((0:Int),(0:Int)):(Int×Int))]) rfl (RL.asg rfl rfl rfl (RL.finG ?_))))
   have hm:=Option.some.inj hm
   subst hm
   exact GL.ret (Gx.retX [.cell 4 37,.tmp 5] rfl (fun a w st=>by
     have st0:=st
     obtain⟨u61,hu61,st⟩:=st.cellRes (p:=4) (T:=37) 3 zj rfl rfl rfl
     exact⟨[u61,.int .i64 y55.2],⟨hu61,⟨(z6j st0.env rfl),trivial⟩⟩,(st.pick [0,1,7,2] (by decide) rfl).toPostM (V:=fun(o:Value)=>.tuple #[o,.int .i64 (((((0:Int),(0:Int)):(Int×Int)),y55.2,x0).2.1)]) (LR:=fun(o:Value)=>[obox 87 TrH v0 ((((((0:Int),(0:Int)):(Int×Int)),y55.2,x0).2.2).1,((((((0:Int),(0:Int)):(Int×Int)),y55.2,x0).2.2).2.1,u0a)),obox 98 TrL u0a ((((((0:Int),(0:Int)):(Int×Int)),y55.2,x0).2.2).2.2),imm (TR.pair TR.int TR.int) o (((((0:Int),(0:Int)):(Int×Int)),y55.2,x0).1),keep X]) u61⟩))
  replace hm:=z14 b58 hm
  refine GL.skip (GL.seq (GL.region (RL.mv rfl rfl rfl (RL.mv rfl rfl rfl (RL.nilk 0 rfl rfl rfl rfl PtOf.obox (RL.fadr (off:=0) (fo:=1) 0 z2t rfl rfl rfl PtOf.obox oi (RL.weak (fun a w st=>st.freeze 5 rfl) ?_)))))))
  refine RL.stP (off:=(0+1)) (e':=y55.1) (d1:=((x0.1,(y55.1,x0.2.2)).1,((x0.1,(y55.1,x0.2.2)).2.1,u0a))) (r:=(TR.sl TrD)) 0 z4a rfl rfl ol rfl (VR.item 5 rfl) rfl (Upd.snd (Upd.fst Upd.self)) (RL.reL (L':=[obox 87 TrH v0 ((x0.1,(y55.1,x0.2.2)).1,((x0.1,(y55.1,x0.2.2)).2.1,u0a)),obox 98 TrL u0a x0.2.2,keep X,obox 37 (TR.pair TR.int TR.int) v6 ((0:Int),(0:Int)),obox 37 (TR.pair TR.int TR.int) v10 (((0:Int),(0:Int)):(Int×Int)),imm (TR.sl TrD) v57 y55.1]) rfl (RL.finG (GL.seq (GL.region (RL.ldP (off:=0) (r:=(TR.pair TR.int TR.int)) (e':=(((0:Int),(0:Int)):(Int×Int))) 4 zj rfl rfl oi rfl PtOf.obox Part.self ?_)))))
  intro v63
  refine RL.stP (off:=0) (e':=(((0:Int),(0:Int)):(Int×Int))) (d1:=(((0:Int),(0:Int)):(Int×Int))) (r:=(TR.pair TR.int TR.int)) 3 zj rfl rfl oi rfl (VR.item 6 rfl) rfl Upd.self (RL.reL (L':=[obox 87 TrH v0 ((x0.1,(y55.1,x0.2.2)).1,((x0.1,(y55.1,x0.2.2)).2.1,u0a)),obox 98 TrL u0a x0.2.2,keep X,obox 37 (TR.pair TR.int TR.int) v6 (((0:Int),(0:Int)):(Int×Int)),obox 37 (TR.pair TR.int TR.int) v10 (((0:Int),(0:Int)):(Int×Int)),imm (TR.sl TrD) v57 y55.1,imm (TR.pair TR.int TR.int) v63 (((0:Int),(0:Int)):(Int×Int))]) rfl (RL.asg rfl rfl rfl (RL.finG ?_)))
  have hm:=Option.some.inj hm
  subst hm
  exact GL.ret (Gx.retX [.cell 4 37,.tmp 5] rfl (fun a w st=>by
    have st0:=st
    obtain⟨u65,hu65,st⟩:=st.cellRes (p:=4) (T:=37) 3 zj rfl rfl rfl
    exact⟨[u65,.int .i64 (0:Int)],⟨hu65,⟨(z6j st0.env rfl),trivial⟩⟩,(st.pick [0,1,7,2] (by decide) rfl).toPostM (V:=fun(o:Value)=>.tuple #[o,.int .i64 (((((0:Int),(0:Int)):(Int×Int)),(0:Int),(x0.1,(y55.1,x0.2.2))).2.1)]) (LR:=fun(o:Value)=>[obox 87 TrH v0 ((((((0:Int),(0:Int)):(Int×Int)),(0:Int),(x0.1,(y55.1,x0.2.2))).2.2).1,((((((0:Int),(0:Int)):(Int×Int)),(0:Int),(x0.1,(y55.1,x0.2.2))).2.2).2.1,u0a)),obox 98 TrL u0a ((((((0:Int),(0:Int)):(Int×Int)),(0:Int),(x0.1,(y55.1,x0.2.2))).2.2).2.2),imm (TR.pair TR.int TR.int) o (((((0:Int),(0:Int)):(Int×Int)),(0:Int),(x0.1,(y55.1,x0.2.2))).1),keep X]) u65⟩))
 replace hm:=z14 b47 hm
 refine GL.seq (GL.region (RL.binI (v:=.bool (x1.1==(3:Int))) rfl rfl rfl rfl rfl (RL.asg rfl rfl rfl (RL.finG (GL.cond rfl (fun b66=>?_) (fun b66=>?_))))))
 ·replace hm:=z13 b66 hm
  refine GL.seq (GL.region (RL.mv rfl rfl rfl (RL.ldP (off:=0) (r:=TrE) (e':=x1) 4 z7f rfl rfl oi rfl PtOf.obox Part.self ?_)))
  intro v71
  refine RL.reL (L':=[obox 87 TrH v0 (x0.1,(x0.2.1,u0a)),obox 98 TrL u0a x0.2.2,keep X,imm TrE v1 x1,obox 30 TrE v5 x1,obox 37 (TR.pair TR.int TR.int) v6 ((0:Int),(0:Int)),imm (TR.pair TR.int TR.int) v9 (((0:Int),(0:Int)):(Int×Int)),obox 37 (TR.pair TR.int TR.int) v10 (((0:Int),(0:Int)):(Int×Int)),imm TrE v71 x1]) rfl ?_
  obtain⟨y72,e73,hm⟩:=z7 hm
  refine RL.callK (vs:=[v0,v71]) (V:=fun(o:Value)=>.tuple #[o,.int .i64 y72.2.1]) (LR:=fun(o:Value)=>[obox 87 TrH v0 (y72.2.2.1,(y72.2.2.2.1,u0a)),obox 98 TrL u0a y72.2.2.2.2,imm (TR.pair TR.int TR.int) o y72.1]) (Ls:=[obox 87 TrH v0 (x0.1,(x0.2.1,u0a)),obox 98 TrL u0a x0.2.2]) [0,1] (by decide) Tryz_fit41 rfl rfl rfl rfl rfl rfl (fun S f X w hO hB hW hI hL=>zaf _ S X f w _ _ x0  hO hB hI (hT.mono hW) _ _ (hL 8 _ _ rfl Sure.imm) _ e73) ?_
  intro v74
  refine RL.reL (L':=[gone,gone,keep X,imm TrE v1 x1,obox 30 TrE v5 x1,obox 37 (TR.pair TR.int TR.int) v6 ((0:Int),(0:Int)),imm (TR.pair TR.int TR.int) v9 (((0:Int),(0:Int)):(Int×Int)),obox 37 (TR.pair TR.int TR.int) v10 (((0:Int),(0:Int)):(Int×Int)),imm TrE v71 x1,obox 87 TrH v0 (y72.2.2.1,(y72.2.2.2.1,u0a)),obox 98 TrL u0a y72.2.2.2.2,imm (TR.pair TR.int TR.int) v74 y72.1]) rfl (RL.ext rfl rfl rfl rfl (RL.ext rfl rfl rfl rfl (RL.stP (off:=0) (e':=y72.1) (d1:=y72.1) (r:=(TR.pair TR.int TR.int)) 5 zj rfl rfl oi rfl (VR.item 11 rfl) rfl Upd.self (RL.asg rfl rfl rfl (RL.finG ?_)))))
  have hm:=Option.some.inj hm
  subst hm
  exact GL.ret (Gx.retX [.cell 4 37,.tmp 5] rfl (fun a w st=>by
    have st0:=st
    obtain⟨u75,hu75,st⟩:=st.cellRes (p:=4) (T:=37) 5 zj rfl rfl rfl
    exact⟨[u75,.int .i64 y72.2.1],⟨hu75,⟨(z6j st0.env rfl),trivial⟩⟩,(st.pick [9,10,12,2] (by decide) rfl).toPostM (V:=fun(o:Value)=>.tuple #[o,.int .i64 ((y72.1,y72.2.1,y72.2.2).2.1)]) (LR:=fun(o:Value)=>[obox 87 TrH v0 (((y72.1,y72.2.1,y72.2.2).2.2).1,(((y72.1,y72.2.1,y72.2.2).2.2).2.1,u0a)),obox 98 TrL u0a (((y72.1,y72.2.1,y72.2.2).2.2).2.2),imm (TR.pair TR.int TR.int) o ((y72.1,y72.2.1,y72.2.2).1),keep X]) u75⟩))
 replace hm:=z14 b66 hm
 refine GL.seq (GL.region (RL.binI (v:=.bool (x1.1==(4:Int))) rfl rfl rfl rfl rfl (RL.asg rfl rfl rfl (RL.finG (GL.cond rfl (fun b76=>?_) (fun b76=>?_))))))
 ·replace hm:=z13 b76 hm
  refine GL.seq (GL.region (RL.mv rfl rfl rfl (RL.nilk 0 rfl rfl rfl rfl PtOf.obox (RL.fadr (off:=0) (fo:=2) 0 z10 rfl rfl rfl PtOf.obox oi (RL.ldPx (off:=(0+2)) (e':=u0a) 0 Ex.raw z1p rfl rfl ol rfl PtOf.obox (Part.snd (Part.snd Part.self)) ?_)))))
  obtain⟨y79,e80,hm⟩:=z7 hm
  refine RL.callK (vs:=[u0a]) (V:=fun(o:Unit)=>.tuple #[]) (LR:=fun(o:Unit)=>[obox 98 TrL u0a y79]) (Ls:=[obox 98 TrL u0a x0.2.2]) [1] (by decide) Tryz_fit42 rfl rfl rfl rfl rfl rfl (fun S f X w hO hB hW hI hL=>ze9 _ S X f w _ _  hO hB hI  _ e80) ?_
  intro _
  refine RL.reL (L':=[obox 87 TrH v0 (x0.1,(x0.2.1,u0a)),gone,keep X,imm TrE v1 x1,obox 30 TrE v5 x1,obox 37 (TR.pair TR.int TR.int) v6 ((0:Int),(0:Int)),imm (TR.pair TR.int TR.int) v9 (((0:Int),(0:Int)):(Int×Int)),obox 37 (TR.pair TR.int TR.int) v10 (((0:Int),(0:Int)):(Int×Int)),obox 98 TrL u0a y79]) rfl (RL.finG (GL.seq (GL.region (RL.ldP (off:=0) (r:=(TR.pair TR.int TR.int)) (e':=(((0:Int),(0:Int)):(Int×Int))) 7 zj rfl rfl oi rfl PtOf.obox Part.self ?_))))
  intro v82
  refine RL.stP (off:=0) (e':=(((0:Int),(0:Int)):(Int×Int))) (d1:=(((0:Int),(0:Int)):(Int×Int))) (r:=(TR.pair TR.int TR.int)) 5 zj rfl rfl oi rfl (VR.item 9 rfl) rfl Upd.self (RL.reL (L':=[obox 87 TrH v0 (x0.1,(x0.2.1,u0a)),gone,keep X,imm TrE v1 x1,obox 30 TrE v5 x1,obox 37 (TR.pair TR.int TR.int) v6 (((0:Int),(0:Int)):(Int×Int)),imm (TR.pair TR.int TR.int) v9 (((0:Int),(0:Int)):(Int×Int)),obox 37 (TR.pair TR.int TR.int) v10 (((0:Int),(0:Int)):(Int×Int)),obox 98 TrL u0a y79,imm (TR.pair TR.int TR.int) v82 (((0:Int),(0:Int)):(Int×Int))]) rfl (RL.asg rfl rfl rfl (RL.finG ?_)))
  have hm:=Option.some.inj hm
  subst hm
  exact GL.ret (Gx.retX [.cell 4 37,.tmp 5] rfl (fun a w st=>by
    have st0:=st
    obtain⟨u83,hu83,st⟩:=st.cellRes (p:=4) (T:=37) 5 zj rfl rfl rfl
    exact⟨[u83,.int .i64 (0:Int)],⟨hu83,⟨(z6j st0.env rfl),trivial⟩⟩,(st.pick [0,8,10,2] (by decide) rfl).toPostM (V:=fun(o:Value)=>.tuple #[o,.int .i64 (((((0:Int),(0:Int)):(Int×Int)),(0:Int),(x0.1,(x0.2.1,y79))).2.1)]) (LR:=fun(o:Value)=>[obox 87 TrH v0 ((((((0:Int),(0:Int)):(Int×Int)),(0:Int),(x0.1,(x0.2.1,y79))).2.2).1,((((((0:Int),(0:Int)):(Int×Int)),(0:Int),(x0.1,(x0.2.1,y79))).2.2).2.1,u0a)),obox 98 TrL u0a ((((((0:Int),(0:Int)):(Int×Int)),(0:Int),(x0.1,(x0.2.1,y79))).2.2).2.2),imm (TR.pair TR.int TR.int) o (((((0:Int),(0:Int)):(Int×Int)),(0:Int),(x0.1,(x0.2.1,y79))).1),keep X]) u83⟩))
 replace hm:=z14 b76 hm
 refine GL.seq (GL.region (RL.binI (v:=.bool (x1.1==(5:Int))) rfl rfl rfl rfl rfl (RL.asg rfl rfl rfl (RL.finG (GL.cond rfl (fun b84=>?_) (fun b84=>?_))))))
 ·replace hm:=z13 b84 hm
  refine GL.seq (GL.seq (GL.regionA rfl rfl (RA.mv 0 rfl (by kernel_rfl) rfl rfl rfl (RA.still (le:=q_97) (f:=2) [1,2,3,4,5] 6 rfl (by kernel_rfl) ?_))))
  simp only[z6h,List.getElem?_toArray,List.getElem?_cons_succ,List.getElem?_cons_zero]
  refine RL.nilk 0 rfl rfl rfl rfl PtOf.obox (RL.fadr (off:=0) (fo:=2) 0 z10 rfl rfl rfl PtOf.obox oi (RL.ldPx (off:=(0+2)) (e':=u0a) 0 Ex.raw z1p rfl rfl ol rfl PtOf.obox (Part.snd (Part.snd Part.self)) (RL.fadr (off:=0) (fo:=1) 4 z1a rfl rfl rfl PtOf.obox oi (RL.ldPx (off:=(0+1)) (e':=x1.2.1) 4 Ex.ik zd rfl rfl ol rfl PtOf.obox (Part.snd (Part.fst Part.self)) (RL.finH (RL.fin (RA.next ?_)))))))
  refine RA.seq 6 rfl (by kernel_rfl) ?_
  obtain⟨y87,e88,hm⟩:=z7 hm
  refine RL.callK (vs:=[u0a,.int .i64 x1.2.1]) (V:=fun(o:Unit)=>.int .i64 y87.1) (LR:=fun(o:Unit)=>[obox 98 TrL u0a y87.2]) (Ls:=[obox 98 TrL u0a x0.2.2]) [1] (by decide) Tryz_fit43 rfl rfl rfl rfl rfl rfl (fun S f X w hO hB hW hI hL=>zdu _ S X f w _ _  hO hB hI x1.2.1 _ e88) ?_
  intro _
  refine RL.fin (RA.next (RA.quiet 7 rfl rfl (by kernel_rfl) ?_))
  simp only[List.drop_succ_cons,List.drop_zero]
  refine RL.asg rfl rfl rfl (RL.reL (L':=[obox 87 TrH v0 (x0.1,(x0.2.1,u0a)),gone,keep X,imm TrE v1 x1,obox 30 TrE v5 x1,obox 37 (TR.pair TR.int TR.int) v6 ((0:Int),(0:Int)),imm (TR.pair TR.int TR.int) v9 (((0:Int),(0:Int)):(Int×Int)),obox 37 (TR.pair TR.int TR.int) v10 (((0:Int),(0:Int)):(Int×Int)),obox 98 TrL u0a y87.2]) rfl (RL.finQ (RA.outQ (GL.weak (env':=[(0,v0),(4,v6),(6,v10),(9,.int .i64 y87.1)]) (L':=[obox 87 TrH v0 (x0.1,(x0.2.1,u0a)),keep X,obox 98 TrL u0a y87.2,obox 37 (TR.pair TR.int TR.int) v6 ((0:Int),(0:Int)),obox 37 (TR.pair TR.int TR.int) v10 (((0:Int),(0:Int)):(Int×Int))]) (fun a w st=>St.cut [0,2,8,5,7] ⟨rfl,rfl,rfl,rfl,trivial⟩ (by decide) rfl st) (GL.seq (GL.region (RL.mv rfl rfl rfl ?_)))))))
  refine RL.binI (v:=.bool (y87.1 != (0:Int))) rfl rfl rfl rfl rfl (RL.finG (GL.cond rfl (fun b89=>?_) (fun b89=>?_)))
  ·replace hm:=z13 b89 hm
   refine GL.seq (GL.region (RL.ldP (off:=0) (r:=(TR.pair TR.int TR.int)) (e':=(((0:Int),(0:Int)):(Int×Int))) 4 zj rfl rfl oi rfl PtOf.obox Part.self ?_))
   intro v91
   refine RL.mv rfl rfl rfl (RL.stP (off:=0) (e':=(((0:Int),(0:Int)):(Int×Int))) (d1:=(((0:Int),(0:Int)):(Int×Int))) (r:=(TR.pair TR.int TR.int)) 3 zj rfl rfl oi rfl (VR.item 5 rfl) rfl Upd.self (RL.reL (L':=[obox 87 TrH v0 (x0.1,(x0.2.1,u0a)),keep X,obox 98 TrL u0a y87.2,obox 37 (TR.pair TR.int TR.int) v6 (((0:Int),(0:Int)):(Int×Int)),obox 37 (TR.pair TR.int TR.int) v10 (((0:Int),(0:Int)):(Int×Int)),imm (TR.pair TR.int TR.int) v91 (((0:Int),(0:Int)):(Int×Int))]) rfl (RL.asg rfl rfl rfl (RL.finG ?_))))
   have hm:=Option.some.inj hm
   subst hm
   exact GL.ret (Gx.retX [.cell 4 37,.tmp 5] rfl (fun a w st=>by
     have st0:=st
     obtain⟨u92,hu92,st⟩:=st.cellRes (p:=4) (T:=37) 3 zj rfl rfl rfl
     exact⟨[u92,.int .i64 y87.1],⟨hu92,⟨(z6j st0.env rfl),trivial⟩⟩,(st.pick [0,2,6,1] (by decide) rfl).toPostM (V:=fun(o:Value)=>.tuple #[o,.int .i64 (((((0:Int),(0:Int)):(Int×Int)),y87.1,(x0.1,(x0.2.1,y87.2))).2.1)]) (LR:=fun(o:Value)=>[obox 87 TrH v0 ((((((0:Int),(0:Int)):(Int×Int)),y87.1,(x0.1,(x0.2.1,y87.2))).2.2).1,((((((0:Int),(0:Int)):(Int×Int)),y87.1,(x0.1,(x0.2.1,y87.2))).2.2).2.1,u0a)),obox 98 TrL u0a ((((((0:Int),(0:Int)):(Int×Int)),y87.1,(x0.1,(x0.2.1,y87.2))).2.2).2.2),imm (TR.pair TR.int TR.int) o (((((0:Int),(0:Int)):(Int×Int)),y87.1,(x0.1,(x0.2.1,y87.2))).1),keep X]) u92⟩))
  replace hm:=z14 b89 hm
  refine GL.skip (GL.seq (GL.region (RL.mv rfl rfl rfl ?_)))
  obtain⟨y95,e96,hm⟩:=z7 hm
  refine RL.callK (vs:=[v0]) (V:=fun(o:Unit)=>.tuple #[]) (LR:=fun(o:Unit)=>[obox 87 TrH v0 (y95.1,(y95.2.1,u0a)),obox 98 TrL u0a y95.2.2]) (Ls:=[obox 87 TrH v0 (x0.1,(x0.2.1,u0a)),obox 98 TrL u0a y87.2]) [0,2] (by decide) Tryz_fit44 rfl rfl rfl rfl rfl rfl (fun S f X w hO hB hW hI hL=>zb4 _ S X f w _ _ (x0.1,(x0.2.1,y87.2))  hO hB hI (hT.mono hW)  _ e96) ?_
  intro _
  refine RL.reL (L':=[gone,keep X,gone,obox 37 (TR.pair TR.int TR.int) v6 ((0:Int),(0:Int)),obox 37 (TR.pair TR.int TR.int) v10 (((0:Int),(0:Int)):(Int×Int)),obox 87 TrH v0 (y95.1,(y95.2.1,u0a)),obox 98 TrL u0a y95.2.2]) rfl (RL.finG (GL.seq (GL.region (RL.ldP (off:=0) (r:=(TR.pair TR.int TR.int)) (e':=(((0:Int),(0:Int)):(Int×Int))) 4 zj rfl rfl oi rfl PtOf.obox Part.self ?_))))
  intro v98
  refine RL.stP (off:=0) (e':=(((0:Int),(0:Int)):(Int×Int))) (d1:=(((0:Int),(0:Int)):(Int×Int))) (r:=(TR.pair TR.int TR.int)) 3 zj rfl rfl oi rfl (VR.item 7 rfl) rfl Upd.self (RL.reL (L':=[gone,keep X,gone,obox 37 (TR.pair TR.int TR.int) v6 (((0:Int),(0:Int)):(Int×Int)),obox 37 (TR.pair TR.int TR.int) v10 (((0:Int),(0:Int)):(Int×Int)),obox 87 TrH v0 (y95.1,(y95.2.1,u0a)),obox 98 TrL u0a y95.2.2,imm (TR.pair TR.int TR.int) v98 (((0:Int),(0:Int)):(Int×Int))]) rfl (RL.asg rfl rfl rfl (RL.finG ?_)))
  have hm:=Option.some.inj hm
  subst hm
  exact GL.ret (Gx.retX [.cell 4 37,.tmp 5] rfl (fun a w st=>by
    have st0:=st
    obtain⟨u99,hu99,st⟩:=st.cellRes (p:=4) (T:=37) 3 zj rfl rfl rfl
    exact⟨[u99,.int .i64 (0:Int)],⟨hu99,⟨(z6j st0.env rfl),trivial⟩⟩,(st.pick [5,6,8,1] (by decide) rfl).toPostM (V:=fun(o:Value)=>.tuple #[o,.int .i64 (((((0:Int),(0:Int)):(Int×Int)),(0:Int),y95).2.1)]) (LR:=fun(o:Value)=>[obox 87 TrH v0 ((((((0:Int),(0:Int)):(Int×Int)),(0:Int),y95).2.2).1,((((((0:Int),(0:Int)):(Int×Int)),(0:Int),y95).2.2).2.1,u0a)),obox 98 TrL u0a ((((((0:Int),(0:Int)):(Int×Int)),(0:Int),y95).2.2).2.2),imm (TR.pair TR.int TR.int) o (((((0:Int),(0:Int)):(Int×Int)),(0:Int),y95).1),keep X]) u99⟩))
 replace hm:=z14 b84 hm
 refine GL.seq (GL.region (RL.binI (v:=.bool (x1.1==(6:Int))) rfl rfl rfl rfl rfl (RL.asg rfl rfl rfl (RL.finG (GL.cond rfl (fun b100=>?_) (fun b100=>?_))))))
 ·replace hm:=z13 b100 hm
  refine GL.seq (GL.region (RL.mv rfl rfl rfl (RL.fadr (off:=0) (fo:=2) 4 z1d rfl rfl rfl PtOf.obox oi (RL.ldPx (off:=(0+2)) (e':=x1.2.2.1) 4 Ex.str zh rfl rfl ol rfl PtOf.obox (Part.snd (Part.snd (Part.fst Part.self))) ?_))))
  obtain⟨y103,e104,hm⟩:=z7 hm
  refine RL.callV (v:=.int .i64 y103) (vs:=[v0,(sv x1.2.2.1)]) zf3 rfl ol rfl rfl rfl rfl (fun U w hU hW hL=>z7t U w hU _ _ (ptr_held (z90.snd (z90.snd (z90.raw rfl))) (hL 0 _ _ rfl Seen.obox) (hL 1 _ _ rfl Seen.obox)) x1.2.2.1 _ e104) (RL.asg rfl rfl rfl (RL.finG (GL.seq (GL.seq (GL.region (RL.mv rfl rfl rfl (RL.binI (v:=.bool (decide (y103<(0:Int)))) rfl rfl rfl rfl rfl ?_)))))))
  refine RL.finG (GL.cond rfl (fun b105=>?_) (fun b105=>?_))
  ·replace hm:=z13 b105 hm
   refine GL.seq (GL.region (RL.ldP (off:=0) (r:=(TR.pair TR.int TR.int)) (e':=(((0:Int),(0:Int)):(Int×Int))) 7 zj rfl rfl oi rfl PtOf.obox Part.self ?_))
   intro v107
   refine RL.reL (L':=[obox 87 TrH v0 (x0.1,(x0.2.1,u0a)),obox 98 TrL u0a x0.2.2,keep X,imm TrE v1 x1,obox 30 TrE v5 x1,obox 37 (TR.pair TR.int TR.int) v6 ((0:Int),(0:Int)),imm (TR.pair TR.int TR.int) v9 (((0:Int),(0:Int)):(Int×Int)),obox 37 (TR.pair TR.int TR.int) v10 (((0:Int),(0:Int)):(Int×Int)),imm (TR.pair TR.int TR.int) v107 (((0:Int),(0:Int)):(Int×Int))]) rfl (RL.stP (off:=0) (e':=(((0:Int),(0:Int)):(Int×Int))) (d1:=(((0:Int),(0:Int)):(Int×Int))) (r:=(TR.pair TR.int TR.int)) 5 zj rfl rfl oi rfl (VR.item 8 rfl) rfl Upd.self (RL.asg rfl rfl rfl (RL.finG ?_)))
   have hm:=Option.some.inj hm
   subst hm
   exact GL.ret (Gx.retX [.cell 4 37,.tmp 5] rfl (fun a w st=>by
     have st0:=st
     obtain⟨u108,hu108,st⟩:=st.cellRes (p:=4) (T:=37) 5 zj rfl rfl rfl
     exact⟨[u108,.int .i64 (4:Int)],⟨hu108,⟨(z6j st0.env rfl),trivial⟩⟩,(st.pick [0,1,9,2] (by decide) rfl).toPostM (V:=fun(o:Value)=>.tuple #[o,.int .i64 (((((0:Int),(0:Int)):(Int×Int)),(4:Int),x0).2.1)]) (LR:=fun(o:Value)=>[obox 87 TrH v0 ((((((0:Int),(0:Int)):(Int×Int)),(4:Int),x0).2.2).1,((((((0:Int),(0:Int)):(Int×Int)),(4:Int),x0).2.2).2.1,u0a)),obox 98 TrL u0a ((((((0:Int),(0:Int)):(Int×Int)),(4:Int),x0).2.2).2.2),imm (TR.pair TR.int TR.int) o (((((0:Int),(0:Int)):(Int×Int)),(4:Int),x0).1),keep X]) u108⟩))
  replace hm:=z14 b105 hm
  refine GL.skip (GL.seq (GL.regionH 17 rfl rfl (by kernel_rfl) ?_))
  simp only[List.take_succ_cons,List.take_zero,List.drop_succ_cons,List.drop_zero]
  refine RL.mv rfl rfl rfl (RL.nilk 0 rfl rfl rfl rfl PtOf.obox (RL.fadr (off:=0) (fo:=0) 0 z3s rfl rfl rfl PtOf.obox oi (RL.ldP (off:=(0+0)) (r:=(TR.sl TrA)) (e':=x0.1) 0 z4b rfl rfl ol rfl PtOf.obox (Part.fst Part.self) ?_)))
  intro v116
  refine RL.reL (L':=[obox 87 TrH v0 (x0.1,(x0.2.1,u0a)),obox 98 TrL u0a x0.2.2,keep X,imm TrE v1 x1,obox 30 TrE v5 x1,obox 37 (TR.pair TR.int TR.int) v6 ((0:Int),(0:Int)),imm (TR.pair TR.int TR.int) v9 (((0:Int),(0:Int)):(Int×Int)),obox 37 (TR.pair TR.int TR.int) v10 (((0:Int),(0:Int)):(Int×Int)),imm (TR.sl TrA) v116 x0.1]) rfl (RL.mv rfl rfl rfl ?_)
  obtain⟨y117,e118,hm⟩:=z7 hm
  refine RL.idxS (sz:=3) 8 Tryz.underlying84 z1m rfl rfl rfl rfl rfl SlOf.imm (z8 e118).1 (z8 e118).2.1 (RL.fadrS (off:=((y103).toNat*3)) (fo:=1) 8 z2s rfl rfl rfl SlOf.imm (by have:=(List.getElem?_eq_some_iff.1 (z8 e118).2.2).1;(try dsimp only at this ⊢);omega) rfl ?_)
  refine RL.ldSx (i:=(y103).toNat) (e':=y117.2.1) 8 Ex.ik zd rfl rfl rfl rfl SlOf.imm (z8 e118).2.2 (Part.snd (Part.fst Part.self)) (RL.mv rfl rfl rfl (RL.nilk 0 rfl rfl rfl rfl PtOf.obox (RL.fadr (off:=0) (fo:=0) 0 z3s rfl rfl rfl PtOf.obox oi (RL.ldP (off:=(0+0)) (r:=(TR.sl TrA)) (e':=x0.1) 0 z4b rfl rfl ol rfl PtOf.obox (Part.fst Part.self) ?_))))
  intro v119
  refine RL.mv rfl rfl rfl ?_
  obtain⟨y120,e121,hm⟩:=z7 hm
  refine RL.idxS (sz:=3) 9 Tryz.underlying84 z1m rfl rfl rfl rfl rfl SlOf.imm (z8 e121).1 (z8 e121).2.1 (RL.fadrS (off:=((y103).toNat*3)) (fo:=2) 9 z4g rfl rfl rfl SlOf.imm (by have:=(List.getElem?_eq_some_iff.1 (z8 e121).2.2).1;(try dsimp only at this ⊢);omega) rfl ?_)
  refine RL.ldSx (i:=(y103).toNat) (e':=y120.2.2) 9 Ex.ik zd rfl rfl rfl rfl SlOf.imm (z8 e121).2.2 (Part.snd (Part.snd Part.self)) ?_
  refine RL.bld (t:=(TR.pair TR.int TR.int)) (d0:=((y117.2.1,y120.2.2):(Int×Int))) (pv:=[(0,.int .i64 y117.2.1),(1,.int .i64 y120.2.2)]) rfl z5v rfl rfl rfl ⟨⟨_,_,TR.int,y117.2.1,rfl,rfl,VR.int⟩,⟨⟨_,_,TR.int,y120.2.2,rfl,rfl,VR.int⟩,trivial⟩⟩ (fun S f hi=>by
    obtain⟨c0,e0,r0⟩:=z28 (t:=TR.int) (u:=.int .i64 y117.2.1) (e:=y117.2.1) (VR.int S f hi)
    obtain⟨c1,e1,r1⟩:=z28 (t:=TR.int) (u:=.int .i64 y120.2.2) (e:=y120.2.2) (VR.int S f hi)
    show TR.rep (TR.pair TR.int TR.int) S (List.flatten [(.int .i64 y117.2.1:Value).cells.toList,(.int .i64 y120.2.2:Value).cells.toList]) _
    simp only[e0,e1,List.flatten_cons,List.flatten_nil,List.append_nil]
    exact⟨_,_,rfl,r0,r1⟩) ?_
  intro v122
  refine RL.reL (L':=[obox 87 TrH v0 (x0.1,(x0.2.1,u0a)),obox 98 TrL u0a x0.2.2,keep X,imm TrE v1 x1,obox 30 TrE v5 x1,obox 37 (TR.pair TR.int TR.int) v6 ((0:Int),(0:Int)),imm (TR.pair TR.int TR.int) v9 (((0:Int),(0:Int)):(Int×Int)),obox 37 (TR.pair TR.int TR.int) v10 (((0:Int),(0:Int)):(Int×Int)),imm (TR.sl TrA) v116 x0.1,imm (TR.sl TrA) v119 x0.1,imm (TR.pair TR.int TR.int) v122 ((y117.2.1,y120.2.2):(Int×Int))]) rfl (RL.finH (RL.stP (off:=0) (e':=((y117.2.1,y120.2.2):(Int×Int))) (d1:=((y117.2.1,y120.2.2):(Int×Int))) (r:=(TR.pair TR.int TR.int)) 5 zj rfl rfl oi rfl (VR.item 10 rfl) rfl Upd.self (RL.asg rfl rfl rfl (RL.finG (GL.weak (env':=[(4,v6),(5,.int .i64 (0:Int))]) (L':=[obox 87 TrH v0 (x0.1,(x0.2.1,u0a)),obox 98 TrL u0a x0.2.2,keep X,obox 37 (TR.pair TR.int TR.int) v6 ((y117.2.1,y120.2.2):(Int×Int))]) (fun a w st=>St.cut [0,1,2,5] ⟨rfl,rfl,trivial⟩ (by decide) rfl st) ?_)))))
  have hm:=Option.some.inj hm
  subst hm
  exact GL.ret (Gx.retX [.cell 4 37,.tmp 5] rfl (fun a w st=>by
    have st0:=st
    obtain⟨u123,hu123,st⟩:=st.cellRes (p:=4) (T:=37) 3 zj rfl rfl rfl
    exact⟨[u123,.int .i64 (0:Int)],⟨hu123,⟨(z6j st0.env rfl),trivial⟩⟩,(st.pick [0,1,4,2] (by decide) rfl).toPostM (V:=fun(o:Value)=>.tuple #[o,.int .i64 ((((y117.2.1,y120.2.2):(Int×Int)),(0:Int),x0).2.1)]) (LR:=fun(o:Value)=>[obox 87 TrH v0 (((((y117.2.1,y120.2.2):(Int×Int)),(0:Int),x0).2.2).1,(((((y117.2.1,y120.2.2):(Int×Int)),(0:Int),x0).2.2).2.1,u0a)),obox 98 TrL u0a (((((y117.2.1,y120.2.2):(Int×Int)),(0:Int),x0).2.2).2.2),imm (TR.pair TR.int TR.int) o ((((y117.2.1,y120.2.2):(Int×Int)),(0:Int),x0).1),keep X]) u123⟩))
 replace hm:=z14 b100 hm
 refine GL.seq (GL.region (RL.binI (v:=.bool (x1.1==(7:Int))) rfl rfl rfl rfl rfl (RL.asg rfl rfl rfl (RL.finG (GL.cond rfl (fun b124=>?_) (fun b124=>?_))))))
 ·replace hm:=z13 b124 hm
  refine GL.seq (GL.regionA rfl rfl (RA.mv 0 rfl (by kernel_rfl) rfl rfl rfl (RA.still (le:=q_1) (f:=6) [1,2,3,4,5,6,7] 8 rfl (by kernel_rfl) ?_)))
  simp only[z6h,List.getElem?_toArray,List.getElem?_cons_succ,List.getElem?_cons_zero]
  refine RL.nilk 0 rfl rfl rfl rfl PtOf.obox (RL.fadr (off:=0) (fo:=1) 0 z2t rfl rfl rfl PtOf.obox oi (RL.ldP (off:=(0+1)) (r:=(TR.sl TrD)) (e':=x0.2.1) 0 z4a rfl rfl ol rfl PtOf.obox (Part.snd (Part.fst Part.self)) ?_))
  intro v129
  refine RL.fadr (off:=0) (fo:=2) 4 z1d rfl rfl rfl PtOf.obox oi (RL.ldPx (off:=(0+2)) (e':=x1.2.2.1) 4 Ex.str zh rfl rfl ol rfl PtOf.obox (Part.snd (Part.snd (Part.fst Part.self))) (RL.fadr (off:=0) (fo:=1) 4 z1a rfl rfl rfl PtOf.obox oi (RL.ldPx (off:=(0+1)) (e':=x1.2.1) 4 Ex.ik zd rfl rfl ol rfl PtOf.obox (Part.snd (Part.fst Part.self)) (RL.finH (RL.fin (RA.next (RA.seq 8 rfl (by kernel_rfl) ?_)))))))
  obtain⟨y130,e131,hm⟩:=z7 hm
  refine RL.call (vs:=[v129,(sv x1.2.2.1),.int .i64 x1.2.1]) Tryz_fit46 rfl rfl rfl rfl rfl (fun S f w hS hW hi=>queue_Drop_c S w hS _ _ (hi 8 _ rfl) x1.2.2.1 x1.2.1 _ e131) ?_
  intro v132
  refine RL.fin (RA.next (RA.quiet 9 rfl rfl (by kernel_rfl) ?_))
  simp only[List.drop_succ_cons,List.drop_zero]
  refine RL.mv rfl rfl rfl (RL.ext rfl rfl rfl rfl (RL.ext rfl rfl rfl rfl (RL.asg rfl rfl rfl (RL.asg rfl rfl rfl (RL.finQ (RA.outQ (GL.weak (env':=[(0,v0),(4,v6),(6,v10),(11,v132),(12,.int .i64 y130.2)]) (L':=[obox 87 TrH v0 (x0.1,(x0.2.1,u0a)),obox 98 TrL u0a x0.2.2,keep X,obox 37 (TR.pair TR.int TR.int) v6 ((0:Int),(0:Int)),obox 37 (TR.pair TR.int TR.int) v10 (((0:Int),(0:Int)):(Int×Int)),own 28 TrD v132 y130.1]) (fun a w st=>St.cut [0,1,2,5,7,9] ⟨rfl,rfl,rfl,rfl,rfl,trivial⟩ (by decide) rfl st) ?_)))))))
  refine GL.seq (GL.seq (GL.region (RL.mv rfl rfl rfl (RL.binI (v:=.bool (y130.2 != (0:Int))) rfl rfl rfl rfl rfl (RL.finG (GL.cond rfl (fun b133=>?_) (fun b133=>?_)))))))
  ·replace hm:=z13 b133 hm
   refine GL.seq (GL.region (RL.ldP (off:=0) (r:=(TR.pair TR.int TR.int)) (e':=(((0:Int),(0:Int)):(Int×Int))) 4 zj rfl rfl oi rfl PtOf.obox Part.self ?_))
   intro v135
   refine RL.mv rfl rfl rfl (RL.stP (off:=0) (e':=(((0:Int),(0:Int)):(Int×Int))) (d1:=(((0:Int),(0:Int)):(Int×Int))) (r:=(TR.pair TR.int TR.int)) 3 zj rfl rfl oi rfl (VR.item 6 rfl) rfl Upd.self (RL.reL (L':=[obox 87 TrH v0 (x0.1,(x0.2.1,u0a)),obox 98 TrL u0a x0.2.2,keep X,obox 37 (TR.pair TR.int TR.int) v6 (((0:Int),(0:Int)):(Int×Int)),obox 37 (TR.pair TR.int TR.int) v10 (((0:Int),(0:Int)):(Int×Int)),own 28 TrD v132 y130.1,imm (TR.pair TR.int TR.int) v135 (((0:Int),(0:Int)):(Int×Int))]) rfl (RL.asg rfl rfl rfl (RL.finG ?_))))
   have hm:=Option.some.inj hm
   subst hm
   exact GL.ret (Gx.retX [.cell 4 37,.tmp 5] rfl (fun a w st=>by
     have st0:=st
     obtain⟨u136,hu136,st⟩:=st.cellRes (p:=4) (T:=37) 3 zj rfl rfl rfl
     exact⟨[u136,.int .i64 y130.2],⟨hu136,⟨(z6j st0.env rfl),trivial⟩⟩,(st.pick [0,1,7,2] (by decide) rfl).toPostM (V:=fun(o:Value)=>.tuple #[o,.int .i64 (((((0:Int),(0:Int)):(Int×Int)),y130.2,x0).2.1)]) (LR:=fun(o:Value)=>[obox 87 TrH v0 ((((((0:Int),(0:Int)):(Int×Int)),y130.2,x0).2.2).1,((((((0:Int),(0:Int)):(Int×Int)),y130.2,x0).2.2).2.1,u0a)),obox 98 TrL u0a ((((((0:Int),(0:Int)):(Int×Int)),y130.2,x0).2.2).2.2),imm (TR.pair TR.int TR.int) o (((((0:Int),(0:Int)):(Int×Int)),y130.2,x0).1),keep X]) u136⟩))
  replace hm:=z14 b133 hm
  refine GL.skip (GL.seq (GL.region (RL.mv rfl rfl rfl (RL.mv rfl rfl rfl (RL.nilk 0 rfl rfl rfl rfl PtOf.obox (RL.fadr (off:=0) (fo:=1) 0 z2t rfl rfl rfl PtOf.obox oi (RL.weak (fun a w st=>st.freeze 5 rfl) ?_)))))))
  refine RL.stP (off:=(0+1)) (e':=y130.1) (d1:=((x0.1,(y130.1,x0.2.2)).1,((x0.1,(y130.1,x0.2.2)).2.1,u0a))) (r:=(TR.sl TrD)) 0 z4a rfl rfl ol rfl (VR.item 5 rfl) rfl (Upd.snd (Upd.fst Upd.self)) (RL.reL (L':=[obox 87 TrH v0 ((x0.1,(y130.1,x0.2.2)).1,((x0.1,(y130.1,x0.2.2)).2.1,u0a)),obox 98 TrL u0a x0.2.2,keep X,obox 37 (TR.pair TR.int TR.int) v6 ((0:Int),(0:Int)),obox 37 (TR.pair TR.int TR.int) v10 (((0:Int),(0:Int)):(Int×Int)),imm (TR.sl TrD) v132 y130.1]) rfl (RL.finG (GL.seq (GL.region (RL.ldP (off:=0) (r:=(TR.pair TR.int TR.int)) (e':=(((0:Int),(0:Int)):(Int×Int))) 4 zj rfl rfl oi rfl PtOf.obox Part.self ?_)))))
  intro v138
  refine RL.stP (off:=0) (e':=(((0:Int),(0:Int)):(Int×Int))) (d1:=(((0:Int),(0:Int)):(Int×Int))) (r:=(TR.pair TR.int TR.int)) 3 zj rfl rfl oi rfl (VR.item 6 rfl) rfl Upd.self (RL.reL (L':=[obox 87 TrH v0 ((x0.1,(y130.1,x0.2.2)).1,((x0.1,(y130.1,x0.2.2)).2.1,u0a)),obox 98 TrL u0a x0.2.2,keep X,obox 37 (TR.pair TR.int TR.int) v6 (((0:Int),(0:Int)):(Int×Int)),obox 37 (TR.pair TR.int TR.int) v10 (((0:Int),(0:Int)):(Int×Int)),imm (TR.sl TrD) v132 y130.1,imm (TR.pair TR.int TR.int) v138 (((0:Int),(0:Int)):(Int×Int))]) rfl (RL.asg rfl rfl rfl (RL.finG ?_)))
  have hm:=Option.some.inj hm
  subst hm
  exact GL.ret (Gx.retX [.cell 4 37,.tmp 5] rfl (fun a w st=>by
    have st0:=st
    obtain⟨u139,hu139,st⟩:=st.cellRes (p:=4) (T:=37) 3 zj rfl rfl rfl
    exact⟨[u139,.int .i64 (0:Int)],⟨hu139,⟨(z6j st0.env rfl),trivial⟩⟩,(st.pick [0,1,7,2] (by decide) rfl).toPostM (V:=fun(o:Value)=>.tuple #[o,.int .i64 (((((0:Int),(0:Int)):(Int×Int)),(0:Int),(x0.1,(y130.1,x0.2.2))).2.1)]) (LR:=fun(o:Value)=>[obox 87 TrH v0 ((((((0:Int),(0:Int)):(Int×Int)),(0:Int),(x0.1,(y130.1,x0.2.2))).2.2).1,((((((0:Int),(0:Int)):(Int×Int)),(0:Int),(x0.1,(y130.1,x0.2.2))).2.2).2.1,u0a)),obox 98 TrL u0a ((((((0:Int),(0:Int)):(Int×Int)),(0:Int),(x0.1,(y130.1,x0.2.2))).2.2).2.2),imm (TR.pair TR.int TR.int) o (((((0:Int),(0:Int)):(Int×Int)),(0:Int),(x0.1,(y130.1,x0.2.2))).1),keep X]) u139⟩))
 replace hm:=z14 b124 hm
 refine GL.skip (GL.nilB (GL.seq (GL.region (RL.ldP (off:=0) (r:=(TR.pair TR.int TR.int)) (e':=(((0:Int),(0:Int)):(Int×Int))) 7 zj rfl rfl oi rfl PtOf.obox Part.self ?_))))
 intro v141
 refine RL.reL (L':=[obox 87 TrH v0 (x0.1,(x0.2.1,u0a)),obox 98 TrL u0a x0.2.2,keep X,imm TrE v1 x1,obox 30 TrE v5 x1,obox 37 (TR.pair TR.int TR.int) v6 ((0:Int),(0:Int)),imm (TR.pair TR.int TR.int) v9 (((0:Int),(0:Int)):(Int×Int)),obox 37 (TR.pair TR.int TR.int) v10 (((0:Int),(0:Int)):(Int×Int)),imm (TR.pair TR.int TR.int) v141 (((0:Int),(0:Int)):(Int×Int))]) rfl (RL.stP (off:=0) (e':=(((0:Int),(0:Int)):(Int×Int))) (d1:=(((0:Int),(0:Int)):(Int×Int))) (r:=(TR.pair TR.int TR.int)) 5 zj rfl rfl oi rfl (VR.item 8 rfl) rfl Upd.self (RL.asg rfl rfl rfl (RL.finG ?_)))
 have hm:=Option.some.inj hm
 subst hm
 exact GL.ret (Gx.retX [.cell 4 37,.tmp 5] rfl (fun a w st=>by
   have st0:=st
   obtain⟨u142,hu142,st⟩:=st.cellRes (p:=4) (T:=37) 5 zj rfl rfl rfl
   exact⟨[u142,.int .i64 (1:Int)],⟨hu142,⟨(z6j st0.env rfl),trivial⟩⟩,(st.pick [0,1,9,2] (by decide) rfl).toPostM (V:=fun(o:Value)=>.tuple #[o,.int .i64 (((((0:Int),(0:Int)):(Int×Int)),(1:Int),x0).2.1)]) (LR:=fun(o:Value)=>[obox 87 TrH v0 ((((((0:Int),(0:Int)):(Int×Int)),(1:Int),x0).2.2).1,((((((0:Int),(0:Int)):(Int×Int)),(1:Int),x0).2.2).2.1,u0a)),obox 98 TrL u0a ((((((0:Int),(0:Int)):(Int×Int)),(1:Int),x0).2.2).2.2),imm (TR.pair TR.int TR.int) o (((((0:Int),(0:Int)):(Int×Int)),(1:Int),x0).1),keep X]) u142⟩))
theorem z3e(S:Hp)(w:World)(hS:S.sub w)(v0:Value)(x0:(List (Int×Int)))(k0:((TR.sl (TR.pair TR.int TR.int))).vrep S v0 x0)(v1:Value)(x1:(List (Int×Int)))(k1:((TR.sl (TR.pair TR.int TR.int))).vrep S v1 x1)(res:Bool)(hm:z16 x0 x1=some res):Calls Tryz.prog 5 #[v0,v1] w (z45 w (.bool res)):=by
 refine zi 26 Tryz.func5 Tryz.ntmps5 rfl S false [(0,v0),(1,v1)] [imm (TR.sl (TR.pair TR.int TR.int)) v0 x0,imm (TR.sl (TR.pair TR.int TR.int)) v1 x1] rfl ⟨rfl,⟨rfl,trivial⟩⟩ hS ⟨k0,⟨k1,trivial⟩⟩ ?_
 unfold z16 at hm
 refine GL.seq (GL.region (RL.asg rfl rfl rfl (RL.finG (GL.seq (GL.seq (GL.region (RL.mv rfl rfl rfl ?_)))))))
 refine RL.lenS 0 Tryz.underlying32 rfl rfl rfl rfl SlOf.imm (RL.mv rfl rfl rfl (RL.lenS 1 Tryz.underlying32 rfl rfl rfl rfl SlOf.imm (RL.binI (v:=.bool (((x0).length:Int) != ((x1).length:Int))) rfl rfl rfl rfl rfl (RL.finG (GL.cond rfl (fun b3=>?_) (fun b3=>?_))))))
 ·replace hm:=z13 b3 hm
  refine GL.seq (GL.region (RL.asg rfl rfl rfl (RL.finG ?_)))
  have hm:=Option.some.inj hm
  subst hm
  exact GL.ret (Gx.ret (v:=.bool false) (res1 rfl rfl) (fun a w st=>st.toPostV))
 replace hm:=z14 b3 hm
 refine GL.skip (GL.seq (GL.seq (GL.region (RL.mv rfl rfl rfl (RL.lenS 0 Tryz.underlying32 rfl rfl rfl rfl SlOf.imm (RL.mv rfl rfl rfl (RL.finG ?_)))))))
 refine GL.open_ 0 rfl (fun S h=>z77 S h) (fun n17=>?_)
 obtain⟨y18,K19,h20,h21,h22,h23,h24⟩:=z1z hm
 refine GL.join (ι:=Unit) (fun(p:Unit)=>[]) (fun(p:Unit)=>[]) (fun(p:Unit)=>K19 (.nx ())) ?_ ?_
 ·refine GL.block (GL.loop (ι:=Nat×(List (Int×Int))) (fun(p:Nat×(List (Int×Int)))=>[(0,v0),(1,v1),(12,.int .i64 ((x0).length:Int)),(13,.int .i64 (p.1:Int))]) (fun(p:Nat×(List (Int×Int)))=>[imm (TR.sl (TR.pair TR.int TR.int)) v0 x0,imm (TR.sl (TR.pair TR.int TR.int)) v1 x1]) (fun(p:Nat×(List (Int×Int)))=>p.1+p.2.length=(x0).length∧List.drop p.1 x0=p.2∧z2w (z1x x1) p.2 p.1 ()=some y18) (fun(p:Nat×(List (Int×Int)))=>p.2.length) (0,x0) ⟨by simp,by simp,h20⟩ (fun a w st=>St.cut [0,1] ⟨rfl,rfl,rfl,rfl,trivial⟩ (by decide) rfl st) ?_)
  rintro⟨i25,r26⟩ ⟨h31,h32,h30⟩
  try dsimp only at h31 h32 h30
  refine GL.weak (env':=[(0,v0),(1,v1),(12,.int .i64 ((x0).length:Int)),(13,.int .i64 (i25:Int))]) (L':=[imm (TR.sl (TR.pair TR.int TR.int)) v0 x0,imm (TR.sl (TR.pair TR.int TR.int)) v1 x1]) ss (GL.seq (GL.region (RL.binI (v:=.bool (decide ((i25:Int)<((x0).length:Int)))) rfl rfl rfl rfl rfl (RL.finG (GL.seq (GL.cond rfl (fun b33=>?_) (fun b33=>?_)))))))
  ·have h34:i25<(x0).length:=by have:=of_decide_eq_true b33;omega
   obtain⟨y35,r37,hr,e36,h38⟩:=z48 h32 rfl h34
   subst hr
   obtain⟨z27,h28,h29⟩:=z2x h30
   unfold z1x at h28
   try dsimp only at h28
   refine GL.skip (GL.seq (GL.block (GL.seq (GL.region (RL.mv rfl rfl rfl (RL.asg rfl rfl rfl (RL.finG ?_)))))))
   refine GL.seq (GL.regionQ rfl rfl (by kernel_rfl) (RL.mv rfl rfl rfl (RL.mv rfl rfl rfl (RL.idxS (sz:=2) 0 Tryz.underlying32 zj rfl rfl rfl rfl rfl SlOf.imm (by omega) (by omega) (RL.ldS (i:=i25) (r:=(TR.pair TR.int TR.int)) (e':=y35) 0 zj rfl rfl rfl rfl SlOf.imm e36 Part.self ?_)))))
   intro v43
   refine RL.mv rfl rfl rfl (RL.mv rfl rfl rfl ?_)
   obtain⟨y44,e45,h28⟩:=z7 h28
   refine RL.idxS (sz:=2) 1 Tryz.underlying32 zj rfl rfl rfl rfl rfl SlOf.imm (z8 e45).1 (z8 e45).2.1 (RL.ldS (i:=i25) (r:=(TR.pair TR.int TR.int)) (e':=y44) 1 zj rfl rfl rfl rfl SlOf.imm (z8 e45).2.2 Part.self ?_)
   intro v46
   refine RL.reL (L':=[imm (TR.sl (TR.pair TR.int TR.int)) v0 x0,imm (TR.sl (TR.pair TR.int TR.int)) v1 x1,imm (TR.pair TR.int TR.int) v43 y35,imm (TR.pair TR.int TR.int) v46 y44]) rfl (RL.neG (t:=(TR.pair TR.int TR.int)) (e:=y35) (e':=y44) rfl Tryz_eq37 (by decide) Tryz.eqGuardType37 rfl rfl rfl rfl (VR.item 2 rfl) (VR.item 3 rfl) (RL.finQG (GL.cond rfl (fun b47=>?_) (fun b47=>?_))))
   ·replace h28:=z13 b47 h28
    refine GL.seq (GL.region (RL.asg rfl rfl rfl (RL.finG ?_)))
    cases h28
    replace h29:some (Fl.rt _)=some y18:=h29
    cases h29
    have hh:=h23 _ h21
    subst hh
    exact GL.ret (Gx.ret (v:=.bool false) (res1 rfl rfl) (fun a w st=>st.toPostV))
   replace h28:=z14 b47 h28
   refine GL.skip (GL.nilB (GL.region (RL.binI (v:=.int .i64 ((i25+1:Nat):Int)) rfl rfl rfl rfl (binI_succ i25 (by omega)) (RL.mv rfl rfl rfl (RL.fin ?_)))))
   cases h28
   exact fun a w st=>z1l (i25+1,r37) ⟨by show i25+1+r37.length=(x0).length;simp only[List.length_cons] at h31;omega,h38,h29⟩ (by simp) (st.cu [0,1])
  have h34:¬ i25<(x0).length:=by have:=of_decide_eq_false b33;omega
  obtain rfl:r26=[]:=by rw[← h32];exact List.drop_of_length_le (by omega)
  replace h30:some (Fl.nx _)=some y18:=h30
  cases h30
  exact GL.exit (fun a w st=>ze () h21 (st.cu []))
 rintro⟨⟩ h48
 have h49:=h22 _ h48
 try dsimp only at h49
 refine GL.weak (env':=[]) (L':=[]) ss (GL.seq (GL.region (RL.asg rfl rfl rfl (RL.finG ?_))))
 have h49:=Option.some.inj h49
 subst h49
 exact GL.ret (Gx.ret (v:=.bool true) (res1 rfl rfl) (fun a w st=>st.toPostV))
theorem z5d(S:Hp)(w:World)(hS:S.sub w)(v0:Value)(x0:(List Int))(k0:((TR.sl TR.int)).vrep S v0 x0)(v1:Value)(x1:(List Int))(k1:((TR.sl TR.int)).vrep S v1 x1)(res:Bool)(hm:z1b x0 x1=some res):Calls Tryz.prog 6 #[v0,v1] w (z45 w (.bool res)):=by
 refine zi 26 Tryz.func6 Tryz.ntmps6 rfl S false [(0,v0),(1,v1)] [imm (TR.sl TR.int) v0 x0,imm (TR.sl TR.int) v1 x1] rfl ⟨rfl,⟨rfl,trivial⟩⟩ hS ⟨k0,⟨k1,trivial⟩⟩ ?_
 unfold z1b at hm
 refine GL.seq (GL.region (RL.asg rfl rfl rfl (RL.finG (GL.seq (GL.seq (GL.region (RL.mv rfl rfl rfl ?_)))))))
 refine RL.lenS 0 Tryz.underlying33 rfl rfl rfl rfl SlOf.imm (RL.mv rfl rfl rfl (RL.lenS 1 Tryz.underlying33 rfl rfl rfl rfl SlOf.imm (RL.binI (v:=.bool (((x0).length:Int) != ((x1).length:Int))) rfl rfl rfl rfl rfl (RL.finG (GL.cond rfl (fun b3=>?_) (fun b3=>?_))))))
 ·replace hm:=z13 b3 hm
  refine GL.seq (GL.region (RL.asg rfl rfl rfl (RL.finG ?_)))
  have hm:=Option.some.inj hm
  subst hm
  exact GL.ret (Gx.ret (v:=.bool false) (res1 rfl rfl) (fun a w st=>st.toPostV))
 replace hm:=z14 b3 hm
 refine GL.skip (GL.seq (GL.seq (GL.region (RL.mv rfl rfl rfl (RL.lenS 0 Tryz.underlying33 rfl rfl rfl rfl SlOf.imm (RL.mv rfl rfl rfl (RL.finG ?_)))))))
 refine GL.open_ 0 rfl (fun S h=>z77 S h) (fun n13=>?_)
 obtain⟨y14,K15,h16,h17,h18,h19,h20⟩:=z1z hm
 refine GL.join (ι:=Unit) (fun(p:Unit)=>[]) (fun(p:Unit)=>[]) (fun(p:Unit)=>K15 (.nx ())) ?_ ?_
 ·refine GL.block (GL.loop (ι:=Nat×(List Int)) (fun(p:Nat×(List Int))=>[(0,v0),(1,v1),(12,.int .i64 ((x0).length:Int)),(13,.int .i64 (p.1:Int))]) (fun(p:Nat×(List Int))=>[imm (TR.sl TR.int) v0 x0,imm (TR.sl TR.int) v1 x1]) (fun(p:Nat×(List Int))=>p.1+p.2.length=(x0).length∧List.drop p.1 x0=p.2∧z2w (z1s x1) p.2 p.1 ()=some y14) (fun(p:Nat×(List Int))=>p.2.length) (0,x0) ⟨by simp,by simp,h16⟩ (fun a w st=>St.cut [0,1] ⟨rfl,rfl,rfl,rfl,trivial⟩ (by decide) rfl st) ?_)
  rintro⟨i21,r22⟩ ⟨h27,h28,h26⟩
  try dsimp only at h27 h28 h26
  refine GL.weak (env':=[(0,v0),(1,v1),(12,.int .i64 ((x0).length:Int)),(13,.int .i64 (i21:Int))]) (L':=[imm (TR.sl TR.int) v0 x0,imm (TR.sl TR.int) v1 x1]) ss (GL.seq (GL.region (RL.binI (v:=.bool (decide ((i21:Int)<((x0).length:Int)))) rfl rfl rfl rfl rfl (RL.finG (GL.seq (GL.cond rfl (fun b29=>?_) (fun b29=>?_)))))))
  ·have h30:i21<(x0).length:=by have:=of_decide_eq_true b29;omega
   obtain⟨y31,r33,hr,e32,h34⟩:=z48 h28 rfl h30
   subst hr
   obtain⟨z23,h24,h25⟩:=z2x h26
   unfold z1s at h24
   try dsimp only at h24
   refine GL.skip (GL.seq (GL.block (GL.seq (GL.region (RL.mv rfl rfl rfl (RL.asg rfl rfl rfl (RL.finG ?_)))))))
   refine GL.seq (GL.regionQ rfl rfl (by kernel_rfl) (RL.mv rfl rfl rfl (RL.mv rfl rfl rfl (RL.idxS (sz:=1) 0 Tryz.underlying33 zb0 rfl rfl rfl rfl rfl SlOf.imm (by omega) (by omega) (RL.ldSx (i:=i21) (e':=y31) 0 Ex.ik zb0 rfl rfl rfl rfl SlOf.imm e32 Part.self (RL.mv rfl rfl rfl (RL.mv rfl rfl rfl ?_)))))))
   obtain⟨y37,e38,h24⟩:=z7 h24
   refine RL.idxS (sz:=1) 1 Tryz.underlying33 zb0 rfl rfl rfl rfl rfl SlOf.imm (z8 e38).1 (z8 e38).2.1 (RL.ldSx (i:=i21) (e':=y37) 1 Ex.ik zb0 rfl rfl rfl rfl SlOf.imm (z8 e38).2.2 Part.self (RL.binI (v:=.bool (y31 != y37)) rfl rfl rfl rfl rfl (RL.finQG (GL.cond rfl (fun b39=>?_) (fun b39=>?_)))))
   ·replace h24:=z13 b39 h24
    refine GL.seq (GL.region (RL.asg rfl rfl rfl (RL.finG ?_)))
    cases h24
    replace h25:some (Fl.rt _)=some y14:=h25
    cases h25
    have hh:=h19 _ h17
    subst hh
    exact GL.ret (Gx.ret (v:=.bool false) (res1 rfl rfl) (fun a w st=>st.toPostV))
   replace h24:=z14 b39 h24
   refine GL.skip (GL.nilB (GL.region (RL.binI (v:=.int .i64 ((i21+1:Nat):Int)) rfl rfl rfl rfl (binI_succ i21 (by omega)) (RL.mv rfl rfl rfl (RL.fin ?_)))))
   cases h24
   exact fun a w st=>z1l (i21+1,r33) ⟨by show i21+1+r33.length=(x0).length;simp only[List.length_cons] at h27;omega,h34,h25⟩ (by simp) (st.cu [0,1])
  have h30:¬ i21<(x0).length:=by have:=of_decide_eq_false b29;omega
  obtain rfl:r22=[]:=by rw[← h28];exact List.drop_of_length_le (by omega)
  replace h26:some (Fl.nx _)=some y14:=h26
  cases h26
  exact GL.exit (fun a w st=>ze () h17 (st.cu []))
 rintro⟨⟩ h40
 have h41:=h18 _ h40
 try dsimp only at h41
 refine GL.weak (env':=[]) (L':=[]) ss (GL.seq (GL.region (RL.asg rfl rfl rfl (RL.finG ?_))))
 have h41:=Option.some.inj h41
 subst h41
 exact GL.ret (Gx.ret (v:=.bool true) (res1 rfl rfl) (fun a w st=>st.toPostV))
theorem ref_Rest_c(S:Hp)(w:World)(hS:S.sub w)(x0:Int)(x1:Int)(res:Int)(hm:z9r x0 x1=some res):Calls Tryz.prog 13 #[.int .i64 x0,.int .i64 x1] w (PostC w (.int .i64 res)):=by
 refine zi 14 Tryz.func13 Tryz.ntmps13 rfl S true [(0,.int .i64 x0),(1,.int .i64 x1)] [] rfl ⟨rfl,⟨rfl,trivial⟩⟩ hS trivial ?_
 unfold z9r at hm
 refine GL.seq (GL.region (RL.asg rfl rfl rfl (RL.finG (GL.seq (GL.region (RL.mv rfl rfl rfl (RL.mv rfl rfl rfl ?_)))))))
 obtain⟨y5,e6,hm⟩:=z7 hm
 replace e6:=z15 e6
 refine RL.rem rfl rfl rfl rfl e6 (RL.asg rfl rfl rfl (RL.finG (GL.seq (GL.seq (GL.region (RL.mv rfl rfl rfl (RL.binI (v:=.bool (decide ((Int.tmod x0 x1)<(0:Int)))) rfl rfl rfl rfl rfl ?_)))))))
 refine RL.finG ?_
 obtain⟨y9,K10,h11,h12,h13,h14,h15⟩:=z1z hm
 refine GL.join (ι:=Int) (fun(p:Int)=>[(0,.int .i64 p)]) (fun(p:Int)=>[]) (fun(p:Int)=>K10 (.nx p)) ?_ ?_
 ·skip
  refine GL.cond rfl (fun b16=>?_) (fun b16=>?_)
  ·replace h11:=z13 b16 h11
   refine GL.region (RL.mv rfl rfl rfl (RL.mv rfl rfl rfl (RL.binI (v:=.int .i64 (wadd (Int.tmod x0 x1) x1)) rfl rfl rfl rfl rfl (RL.asg rfl rfl rfl (RL.finG ?_)))))
   cases h11
   exact fun a w st=>ze (wadd (Int.tmod x0 x1) x1) h12 (st.cu [])
  replace h11:=z14 b16 h11
  refine GL.skip ?_
  cases h11
  exact fun a w st=>ze (Int.tmod x0 x1) h12 (st.cu [])
 rintro x8 h17
 have h18:=h13 _ h17
 try dsimp only at h18
 refine GL.weak (env':=[(0,.int .i64 x8)]) (L':=[]) ss (GL.seq (GL.region (RL.mv rfl rfl rfl (RL.asg rfl rfl rfl (RL.finG ?_)))))
 have h18:=Option.some.inj h18
 subst h18
 exact GL.ret (Gx.ret (v:=.int .i64 x8) (res1 rfl rfl) (fun a w st=>st.toPostC rfl))
theorem pk_Within_c(S:Hp)(w:World)(hS:S.sub w)(x0:Int)(x1:Int)(res:Int)(hm:z55 x0 x1=some res):Calls Tryz.prog 7 #[.int .i64 x0,.int .i64 x1] w (PostC w (.int .i64 res)):=by
 refine zi 8 Tryz.func7 Tryz.ntmps7 rfl S true [(0,.int .i64 x0),(1,.int .i64 x1)] [] rfl ⟨rfl,⟨rfl,trivial⟩⟩ hS trivial ?_
 unfold z55 at hm
 refine GL.seq (GL.region (RL.asg rfl rfl rfl (RL.finG (GL.seq (GL.region (RL.mv rfl rfl rfl (RL.mv rfl rfl rfl ?_)))))))
 obtain⟨y5,e6,hm⟩:=z7 hm
 refine RL.callC (v:=.int .i64 y5) (vs:=[.int .i64 x0,.int .i64 x1]) Tryz_fit13 rfl rfl rfl rfl (fun U w hU hW hL=>ref_Rest_c U w hU x0 x1 _ e6) (RL.asg rfl rfl rfl (RL.finG ?_))
 have hm:=Option.some.inj hm
 subst hm
 exact GL.ret (Gx.ret (v:=.int .i64 y5) (res1 rfl rfl) (fun a w st=>st.toPostC rfl))
end Go.Wk
