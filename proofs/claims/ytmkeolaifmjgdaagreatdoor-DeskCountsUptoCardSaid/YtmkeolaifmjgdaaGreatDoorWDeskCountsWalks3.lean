/- Each function comes to what its model says; printed by a program of this repository. -/
import Derived.Test.YtmkeolaifmjgdaaGreatDoorProg
import Derived.Test.YtmkeolaifmjgdaaGreatDoorWDeskCountsModels
import Derived.Test.YtmkeolaifmjgdaaGreatDoorWDeskCountsWalks2
namespace Go.Wk
open Go.Fw Go.Mo Go.Proofs Go.RowKit
set_option linter.all false
set_option maxRecDepth 100000
set_option maxHeartbeats 4000000

theorem desk_listed_c (S : Hp) (w : World) (hS : S.sub w) (hT : Tab Tryz.prog (Tryz.lays146_ren.g 1) S) (v0 : Value) (x0 : (List Int)) (k0 : ((TR.sl TR.int)).vrep S v0 x0) (res : B8) (hm : desk_listed_m x0 = some res) : Calls Tryz.prog 29 #[v0] w (PostV w ((sv res))) := by
 refine calls_enter 20 Tryz.func29 Tryz.ntmps29 rfl S false [(0, v0)] [imm (TR.sl TR.int) v0 x0] rfl ⟨rfl, trivial⟩ hS ⟨k0, trivial⟩ ?_
 unfold desk_listed_m at hm
 refine GL.seq ?_
 refine GL.region ?_
 refine RL.asg rfl rfl rfl ?_
 refine RL.finG ?_
 refine GL.seq ?_
 refine GL.region ?_
 refine RL.asg rfl rfl rfl ?_
 refine RL.finG ?_
 refine GL.seq ?_
 refine GL.seq ?_
 refine GL.region ?_
 refine RL.mv rfl rfl rfl ?_
 refine RL.lenS 0 Tryz.underlying61 rfl rfl rfl rfl SlOf.imm ?_
 refine RL.mv rfl rfl rfl ?_
 refine RL.finG ?_
 refine GL.open_ 0 rfl (fun S h => len_imm S h) (fun n19 => ?_)
 obtain ⟨y20, K21, h22, h23, h24, h25, h26⟩ := bindR_K hm
 refine GL.join (ι := B8) (fun (p : B8) => [(3, (sv p))]) (fun (p : B8) => []) (fun (p : B8) => K21 (.nx p)) ?_ ?_
 ·refine GL.block ?_
  refine GL.loop (ι := Nat × (List Int) × B8) (fun (p : Nat × (List Int) × B8) => [(3, (sv p.2.2)), (6, v0), (7, .int .i64 ((x0).length : Int)), (8, .int .i64 (p.1 : Int))]) (fun (p : Nat × (List Int) × B8) => [imm (TR.sl TR.int) v0 x0]) (fun (p : Nat × (List Int) × B8) => p.1 + p.2.1.length = (x0).length ∧ List.drop p.1 x0 = p.2.1 ∧ rangeL desk_listed_b1 p.2.1 p.1 p.2.2 = some y20) (fun (p : Nat × (List Int) × B8) => p.2.1.length) (0, x0, ([] : B8)) ⟨by simp, by simp, h22⟩ (fun a w st => St.cut [0] ⟨rfl, rfl, rfl, rfl, trivial⟩ (by decide) rfl st) ?_
  rintro ⟨i27, r28, x2⟩ ⟨h33, h34, h32⟩
  try dsimp only at h33 h34 h32
  refine GL.weak (env' := [(3, (sv x2)), (6, v0), (7, .int .i64 ((x0).length : Int)), (8, .int .i64 (i27 : Int))]) (L' := [imm (TR.sl TR.int) v0 x0]) ss ?_
  refine GL.seq ?_
  refine GL.region ?_
  refine RL.binI (v := .bool (decide ((i27 : Int) < ((x0).length : Int)))) rfl rfl rfl rfl rfl ?_
  refine RL.finG ?_
  refine GL.seq ?_
  refine GL.cond rfl (fun b35 => ?_) (fun b35 => ?_)
  ·have h36 : i27 < (x0).length := by have := of_decide_eq_true b35; omega
   obtain ⟨y37, r39, hr, e38, h40⟩ := drop_cons h34 rfl h36
   subst hr
   obtain ⟨z29, h30, h31⟩ := rangeL_some h32
   unfold desk_listed_b1 at h30
   try dsimp only at h30
   refine GL.skip ?_
   refine GL.seq ?_
   refine GL.block ?_
   refine GL.seq ?_
   refine GL.region ?_
   refine RL.idxS (sz := 1) 0 Tryz.underlying61 Tryz_ln3 rfl rfl rfl rfl rfl SlOf.imm (by omega) (by omega) ?_
   refine RL.ldSx (i := i27) (e' := y37) 0 Ex.ik Tryz_ln3 rfl rfl rfl rfl SlOf.imm e38 Part.self ?_
   refine RL.asg rfl rfl rfl ?_
   refine RL.finG ?_
   refine GL.region ?_
   refine RL.mv rfl rfl rfl ?_
   refine RL.mv rfl rfl rfl ?_
   obtain ⟨y47, e48, h30⟩ := bind_some h30
   refine RL.callV (v := (sv y47)) (vs := [.int .i64 y37]) Tryz_fit18 rfl (Or.inl rfl) rfl rfl rfl rfl (fun U w hU hW hL => strconv_Itoa_c U w hU (hT.mono hW) y37 _ e48) ?_
   obtain ⟨y49, e50, h30⟩ := bind_some h30
   replace e50 := chk_some e50
   refine RL.cat rfl rfl rfl rfl e50 ?_
   obtain ⟨y51, e52, h30⟩ := bind_some h30
   replace e52 := chk_some e52
   refine RL.cat rfl rfl rfl rfl e52 ?_
   refine RL.asg rfl rfl rfl ?_
   refine RL.finG ?_
   refine GL.nilB ?_
   refine GL.region ?_
   refine RL.binI (v := .int .i64 ((i27 + 1 : Nat) : Int)) rfl rfl rfl rfl (binI_succ i27 (by omega)) ?_
   refine RL.mv rfl rfl rfl ?_
   refine RL.fin ?_
   cases h30
   exact fun a w st => lop_intro (i27 + 1, r39, x2 ++ (y47 ++ ([32] : B8))) ⟨by show i27 + 1 + r39.length = (x0).length; simp only [List.length_cons] at h33; omega, h40, h31⟩ (by simp) (St.cut [0] ⟨rfl, rfl, rfl, rfl, trivial⟩ (by decide) rfl st)
  have h36 : ¬ i27 < (x0).length := by have := of_decide_eq_false b35; omega
  obtain rfl : r28 = [] := by rw [← h34]; exact List.drop_of_length_le (by omega)
  replace h32 : some (Fl.nx _) = some y20 := h32
  cases h32
  exact GL.exit (fun a w st => mid_intro x2 h23 (St.cut [] ⟨rfl, trivial⟩ (by decide) rfl st))
 rintro x2 h53
 have h54 := h24 _ h53
 try dsimp only at h54
 refine GL.weak (env' := [(3, (sv x2))]) (L' := []) ss ?_
 refine GL.seq ?_
 refine GL.region ?_
 refine RL.mv rfl rfl rfl ?_
 obtain ⟨y57, e58, h54⟩ := bind_some h54
 replace e58 := chk_some e58
 refine RL.cat rfl rfl rfl rfl e58 ?_
 refine RL.asg rfl rfl rfl ?_
 refine RL.finG ?_
 have h54 := Option.some.inj h54
 subst h54
 exact GL.ret (Gx.ret (v := (sv (x2 ++ ([46] : B8)))) (res1 rfl rfl) (fun a w st => st.toPostV))

theorem desk_desk_deed_c (B : World) (S X : Hp) (f : Nat → Hp) (w : World) (v0 : Value) (u0a : Value) (u0b : Value) (x0 : TyH) (hO : HeapOk B.heap.size S f [obox 35 (TR.rec1 TR.raw) v0 u0a, obox 45 TrH u0a (x0.1, (x0.2.1, u0b)), obox 55 TrL u0b x0.2.2, keep X].length w) (hB : Below B.heap.size B w) (hI : Its [obox 35 (TR.rec1 TR.raw) v0 u0a, obox 45 TrH u0a (x0.1, (x0.2.1, u0b)), obox 55 TrL u0b x0.2.2, keep X] S f) (hT : Tab Tryz.prog (Tryz.lays146_ren.g 1) S) (x1 : B8) (v2 : Value) (x2 : (List B8)) (k2 : ((TR.sl TR.str)).vrep S v2 x2) (res : Except Int (B8 × Bool) × TyH) (hm : desk_desk_deed_m x0 x1 x2 = some res) : Calls Tryz.prog 20 #[v0, (sv x1), v2] w (thrP (fun x => PostMX B S (fun (_ : Unit) => .panicked (refuse 48 x)) (fun (o : Unit) => [obox 35 (TR.rec1 TR.raw) v0 u0a, obox 45 TrH u0a (res.2.1, (res.2.2.1, u0b)), obox 55 TrL u0b res.2.2.2, keep X])) (fun (r : B8 × Bool) => PostM B S (fun (o : Unit) => .tuple #[(sv r.1), .bool r.2]) (fun (o : Unit) => [obox 35 (TR.rec1 TR.raw) v0 u0a, obox 45 TrH u0a (res.2.1, (res.2.2.1, u0b)), obox 55 TrL u0b res.2.2.2, keep X])) res.1) := by
 refine calls_enterM 151 Tryz.func20 Tryz.ntmps20 rfl B S f [(0, v0), (1, (sv x1)), (2, v2)] [obox 35 (TR.rec1 TR.raw) v0 u0a, obox 45 TrH u0a (x0.1, (x0.2.1, u0b)), obox 55 TrL u0b x0.2.2, keep X] [imm (TR.sl TR.str) v2 x2] rfl ⟨rfl, ⟨rfl, ⟨rfl, trivial⟩⟩⟩ hB hO hI ⟨k2, trivial⟩ ?_
 unfold desk_desk_deed_m at hm
 refine GL.seq ?_
 refine GL.region ?_
 refine RL.asg rfl rfl rfl ?_
 refine RL.asg rfl rfl rfl ?_
 refine RL.finG ?_
 refine GL.seq ?_
 refine GL.region ?_
 refine RL.bld (t := TrE) (d0 := (((0 : Int), (0 : Int), ([] : B8), (([] : B8), ([] : B8), (0 : Int), (0 : Int), (0 : Int), (0 : Int))) : TyE)) (pv := []) rfl Tryz_bld59 rfl rfl rfl trivial (fun S f hi => by
   show TR.rep TrE S (List.flatten [[.int .i64 0], [.int .i64 0], [.string ⟨#[]⟩], [.string ⟨#[]⟩, .string ⟨#[]⟩, .int .i64 0, .int .i64 0, .int .i64 0, .int .i64 0]]) _
   simp only [ List.flatten_cons, List.flatten_nil, List.append_nil]
   exact ⟨_, _, rfl, rfl, ⟨_, _, rfl, rfl, ⟨_, _, rfl, rfl, ⟨[.string ⟨#[]⟩], _, rfl, rfl, ⟨[.string ⟨#[]⟩], _, rfl, rfl, ⟨[.int .i64 0], _, rfl, rfl, ⟨[.int .i64 0], _, rfl, rfl, ⟨[.int .i64 0], _, rfl, rfl, rfl⟩⟩⟩⟩⟩⟩⟩⟩) ?_
 intro v6
 refine RL.alloc (t := TrE) (z := ((0 : Int), (0 : Int), ([] : B8), (([] : B8), ([] : B8), (0 : Int), (0 : Int), (0 : Int), (0 : Int)))) Tryz_lo59 (fun S => ⟨[.int .i64 0], _, rfl, rfl, ⟨[.int .i64 0], _, rfl, rfl, ⟨[.string ⟨#[]⟩], _, rfl, rfl, ⟨[.string ⟨#[]⟩], _, rfl, rfl, ⟨[.string ⟨#[]⟩], _, rfl, rfl, ⟨[.int .i64 0], _, rfl, rfl, ⟨[.int .i64 0], _, rfl, rfl, ⟨[.int .i64 0], _, rfl, rfl, rfl⟩⟩⟩⟩⟩⟩⟩⟩) rfl rfl rfl ?_
 intro v7
 refine RL.reL (L' := [obox 35 (TR.rec1 TR.raw) v0 u0a, obox 45 TrH u0a (x0.1, (x0.2.1, u0b)), obox 55 TrL u0b x0.2.2, keep X, imm (TR.sl TR.str) v2 x2, imm TrE v6 (((0 : Int), (0 : Int), ([] : B8), (([] : B8), ([] : B8), (0 : Int), (0 : Int), (0 : Int), (0 : Int))) : TyE), obox 59 TrE v7 ((0 : Int), (0 : Int), ([] : B8), (([] : B8), ([] : B8), (0 : Int), (0 : Int), (0 : Int), (0 : Int)))]) rfl ?_
 refine RL.stP (off := 0) (e' := (((0 : Int), (0 : Int), ([] : B8), (([] : B8), ([] : B8), (0 : Int), (0 : Int), (0 : Int), (0 : Int))) : TyE)) (d1 := (((0 : Int), (0 : Int), ([] : B8), (([] : B8), ([] : B8), (0 : Int), (0 : Int), (0 : Int), (0 : Int))) : TyE)) (r := TrE) 6 Tryz_ln59 rfl rfl (Or.inr ⟨rfl, rfl⟩) rfl (VR.item 5 rfl) rfl Upd.self ?_
 refine RL.finG ?_
 refine GL.seq ?_
 obtain ⟨y257, K258, h259, h260, h261, h262, h263⟩ := bindR_K hm
 refine GL.join (ι := TyE) (fun (p : TyE) => [(0, v0), (8, v7)]) (fun (p : TyE) => [obox 35 (TR.rec1 TR.raw) v0 u0a, obox 45 TrH u0a (x0.1, (x0.2.1, u0b)), obox 55 TrL u0b x0.2.2, obox 59 TrE v7 p, keep X]) (fun (p : TyE) => K258 (.nx p)) ?_ ?_
 ·skip
  refine GL.block ?_
  refine GL.seq ?_
  obtain ⟨y267, K268, h269, h270, h271, h272, h273⟩ := bindF_K h259
  refine GL.join (ι := Bool) (fun (p : Bool) => [(0, v0), (1, (sv x1)), (2, v2), (8, v7), (13, .bool p)]) (fun (p : Bool) => [obox 35 (TR.rec1 TR.raw) v0 u0a, obox 45 TrH u0a (x0.1, (x0.2.1, u0b)), obox 55 TrL u0b x0.2.2, imm (TR.sl TR.str) v2 x2, obox 59 TrE v7 (((0 : Int), (0 : Int), ([] : B8), (([] : B8), ([] : B8), (0 : Int), (0 : Int), (0 : Int), (0 : Int))) : TyE), keep X]) (fun (p : Bool) => K268 (.nx p)) ?_ ?_
  ·skip
   refine GL.region ?_
   refine RL.mv rfl rfl rfl ?_
   refine RL.binS (v := .bool (x1 == ([111, 112, 101, 110] : B8))) rfl rfl rfl rfl rfl ?_
   refine RL.mv rfl rfl rfl ?_
   refine RL.split (t := 16) rfl (fun b274 => ?_) (fun b274 => ?_)
   ·replace h269 := ite_t b274 h269
    refine RL.mv rfl rfl rfl ?_
    refine RL.lenS 4 Tryz.underlying22 rfl rfl rfl rfl SlOf.imm ?_
    refine RL.binI (v := .bool (((x2).length : Int) == (2 : Int))) rfl rfl rfl rfl rfl ?_
    refine RL.pickT rfl rfl rfl rfl ?_
    refine RL.asg rfl rfl rfl ?_
    refine RL.fin ?_
    cases h269
    exact fun a w st => mid_intro (((x2).length : Int) == (2 : Int)) h270 (St.cut [0, 1, 2, 4, 6, 3] ⟨rfl, rfl, rfl, rfl, rfl, trivial⟩ (by decide) rfl st)
   replace h269 := ite_f b274 h269
   refine RL.skip rfl rfl ?_
   refine RL.skip rfl rfl ?_
   refine RL.skip rfl rfl ?_
   refine RL.pickF rfl rfl rfl rfl ?_
   refine RL.asg rfl rfl rfl ?_
   refine RL.fin ?_
   cases h269
   exact fun a w st => mid_intro false h270 (St.cut [0, 1, 2, 4, 6, 3] ⟨rfl, rfl, rfl, rfl, rfl, trivial⟩ (by decide) rfl st)
  rintro x266 h275
  have h276 := h271 _ h275
  try dsimp only at h276
  refine GL.weak (env' := [(0, v0), (1, (sv x1)), (2, v2), (8, v7), (13, .bool x266)]) (L' := [obox 35 (TR.rec1 TR.raw) v0 u0a, obox 45 TrH u0a (x0.1, (x0.2.1, u0b)), obox 55 TrL u0b x0.2.2, imm (TR.sl TR.str) v2 x2, obox 59 TrE v7 (((0 : Int), (0 : Int), ([] : B8), (([] : B8), ([] : B8), (0 : Int), (0 : Int), (0 : Int), (0 : Int))) : TyE), keep X]) ss ?_
  refine GL.cond rfl (fun b277 => ?_) (fun b277 => ?_)
  ·replace h276 := ite_t b277 h276
   refine GL.regionA rfl rfl ?_
   refine RA.mv 0 rfl (by kernel_rfl) rfl rfl rfl ?_
   obtain ⟨y292, e293, h276⟩ := bind_some h276
   refine RA.idxS (sz := 1) 3 Tryz.underlying22 Tryz_ln9 1 rfl (by kernel_rfl) rfl rfl rfl rfl rfl SlOf.imm (idx_some e293).1 (idx_some e293).2.1 ?_
   refine RA.mv 3 rfl (by kernel_rfl) rfl rfl rfl ?_
   obtain ⟨y294, e295, h276⟩ := bind_some h276
   refine RA.idxS (sz := 1) 3 Tryz.underlying22 Tryz_ln9 4 rfl (by kernel_rfl) rfl rfl rfl rfl rfl SlOf.imm (idx_some e295).1 (idx_some e295).2.1 ?_
   obtain ⟨y296, e297, h276⟩ := bind_some h276
   rcases y296 with x298 | z299
   ·replace h276 := thr_e h276
    refine RA.many [2, 5] (by kernel_rfl) ⟨⟨_, rfl, ?_⟩, ⟨_, rfl, ?_⟩, trivial⟩
    ·skip
     refine RL.ldSx (i := ((0 : Int)).toNat) (e' := y292) 3 Ex.str Tryz_ln9 rfl rfl rfl rfl SlOf.imm (idx_some e293).2.2 Part.self ?_
     refine RL.fin ?_
     refine RA.next ?_
     refine RA.seq 5 rfl (by kernel_rfl) ?_
     refine RL.ldSx (i := ((1 : Int)).toNat) (e' := y294) 3 Ex.str Tryz_ln9 rfl rfl rfl rfl SlOf.imm (idx_some e295).2.2 Part.self ?_
     refine RL.fin ?_
     refine RA.next ?_
     refine RA.seq 6 rfl (by kernel_rfl) ?_
     refine RL.callE (T := 48) (n := x298) (vs := [(sv y294)]) Tryz_fit26 rfl rfl rfl rfl (fun U w hU hW hL => desk_number_c U w hU y294 _ e297) ?_
     cases h276
     have hh := h262 _ h260
     subst hh
     first | exact fun a w st => And.intro st.defers (thrP_err ((st.pick [0, 1, 2, 5] (by decide) rfl).toPostMX (E := fun (_ : Unit) => .panicked (refuse 48 x298)) (LR := fun (o : Unit) => [obox 35 (TR.rec1 TR.raw) v0 u0a, obox 45 TrH u0a (x0.1, (x0.2.1, u0b)), obox 55 TrL u0b x0.2.2, keep X]) ())) | exact fun a w st _ _ => And.intro st.defers (thrP_err ((st.pick [0, 1, 2, 5] (by decide) rfl).toPostMX (E := fun (_ : Unit) => .panicked (refuse 48 x298)) (LR := fun (o : Unit) => [obox 35 (TR.rec1 TR.raw) v0 u0a, obox 45 TrH u0a (x0.1, (x0.2.1, u0b)), obox 55 TrL u0b x0.2.2, keep X]) ()))
    refine RL.ldSx (i := ((1 : Int)).toNat) (e' := y294) 3 Ex.str Tryz_ln9 rfl rfl rfl rfl SlOf.imm (idx_some e295).2.2 Part.self ?_
    refine RL.fin ?_
    refine RA.next ?_
    refine RA.many [2, 6] (by kernel_rfl) ⟨⟨_, rfl, ?_⟩, ⟨_, rfl, ?_⟩, trivial⟩
    ·skip
     refine RL.ldSx (i := ((0 : Int)).toNat) (e' := y292) 3 Ex.str Tryz_ln9 rfl rfl rfl rfl SlOf.imm (idx_some e293).2.2 Part.self ?_
     refine RL.fin ?_
     refine RA.next ?_
     refine RA.seq 6 rfl (by kernel_rfl) ?_
     refine RL.callE (T := 48) (n := x298) (vs := [(sv y294)]) Tryz_fit26 rfl rfl rfl rfl (fun U w hU hW hL => desk_number_c U w hU y294 _ e297) ?_
     cases h276
     have hh := h262 _ h260
     subst hh
     first | exact fun a w st => And.intro st.defers (thrP_err ((st.pick [0, 1, 2, 5] (by decide) rfl).toPostMX (E := fun (_ : Unit) => .panicked (refuse 48 x298)) (LR := fun (o : Unit) => [obox 35 (TR.rec1 TR.raw) v0 u0a, obox 45 TrH u0a (x0.1, (x0.2.1, u0b)), obox 55 TrL u0b x0.2.2, keep X]) ())) | exact fun a w st _ _ => And.intro st.defers (thrP_err ((st.pick [0, 1, 2, 5] (by decide) rfl).toPostMX (E := fun (_ : Unit) => .panicked (refuse 48 x298)) (LR := fun (o : Unit) => [obox 35 (TR.rec1 TR.raw) v0 u0a, obox 45 TrH u0a (x0.1, (x0.2.1, u0b)), obox 55 TrL u0b x0.2.2, keep X]) ()))
    refine RL.callE (T := 48) (n := x298) (vs := [(sv y294)]) Tryz_fit26 rfl rfl rfl rfl (fun U w hU hW hL => desk_number_c U w hU y294 _ e297) ?_
    cases h276
    have hh := h262 _ h260
    subst hh
    first | exact fun a w st => And.intro st.defers (thrP_err ((st.pick [0, 1, 2, 5] (by decide) rfl).toPostMX (E := fun (_ : Unit) => .panicked (refuse 48 x298)) (LR := fun (o : Unit) => [obox 35 (TR.rec1 TR.raw) v0 u0a, obox 45 TrH u0a (x0.1, (x0.2.1, u0b)), obox 55 TrL u0b x0.2.2, keep X]) ())) | exact fun a w st _ _ => And.intro st.defers (thrP_err ((st.pick [0, 1, 2, 5] (by decide) rfl).toPostMX (E := fun (_ : Unit) => .panicked (refuse 48 x298)) (LR := fun (o : Unit) => [obox 35 (TR.rec1 TR.raw) v0 u0a, obox 45 TrH u0a (x0.1, (x0.2.1, u0b)), obox 55 TrL u0b x0.2.2, keep X]) ()))
   replace h276 := thr_o h276
   refine RA.meet (ι := Unit) (fun (p : Unit) => [(0, v0), (8, v7), (23, (sv y292)), (27, .int .i64 z299)]) (fun (p : Unit) => [obox 35 (TR.rec1 TR.raw) v0 u0a, obox 45 TrH u0a (x0.1, (x0.2.1, u0b)), obox 55 TrL u0b x0.2.2, keep X, obox 59 TrE v7 (((0 : Int), (0 : Int), ([] : B8), (([] : B8), ([] : B8), (0 : Int), (0 : Int), (0 : Int), (0 : Int))) : TyE)]) 2 q_98 (fun h300 => ?_) ?_
   ·skip
    refine RA.meet (ι := Unit) (fun (p : Unit) => [(0, v0), (8, v7), (23, (sv y292)), (26, (sv y294))]) (fun (p : Unit) => [obox 35 (TR.rec1 TR.raw) v0 u0a, obox 45 TrH u0a (x0.1, (x0.2.1, u0b)), obox 55 TrL u0b x0.2.2, keep X, obox 59 TrE v7 (((0 : Int), (0 : Int), ([] : B8), (([] : B8), ([] : B8), (0 : Int), (0 : Int), (0 : Int), (0 : Int))) : TyE)]) 3 q_99 (fun h301 => ?_) ?_
    rotate_left
    ·rintro ⟨⟩
     refine RA.weak (env' := [(0, v0), (8, v7), (23, (sv y292)), (26, (sv y294))]) (L' := [obox 35 (TR.rec1 TR.raw) v0 u0a, obox 45 TrH u0a (x0.1, (x0.2.1, u0b)), obox 55 TrL u0b x0.2.2, keep X, obox 59 TrE v7 (((0 : Int), (0 : Int), ([] : B8), (([] : B8), ([] : B8), (0 : Int), (0 : Int), (0 : Int), (0 : Int))) : TyE)]) ss ?_
     refine RA.seq 6 rfl (by kernel_rfl) ?_
     refine RL.callV (v := .int .i64 z299) (vs := [(sv y294)]) Tryz_fit26 rfl (Or.inl rfl) rfl rfl rfl rfl (fun U w hU hW hL => desk_number_c U w hU y294 _ e297) ?_
     refine RL.fin ?_
     refine RA.next ?_
     refine RA.relist 2 q_98 rfl (by kernel_rfl) ?_
     exact fun a w st => h300 () a w (St.cut [0, 1, 2, 3, 4] ⟨rfl, rfl, rfl, rfl, trivial⟩ (by decide) rfl st)
    refine RA.meet (ι := Unit) (fun (p : Unit) => [(0, v0), (8, v7), (22, adr v2 (((0 : Int)).toNat * 1)), (27, .int .i64 z299)]) (fun (p : Unit) => [obox 35 (TR.rec1 TR.raw) v0 u0a, obox 45 TrH u0a (x0.1, (x0.2.1, u0b)), obox 55 TrL u0b x0.2.2, keep X, obox 59 TrE v7 (((0 : Int), (0 : Int), ([] : B8), (([] : B8), ([] : B8), (0 : Int), (0 : Int), (0 : Int), (0 : Int))) : TyE), imm (TR.sl TR.str) v2 x2]) 3 q_100 (fun h302 => ?_) ?_
    rotate_left
    ·rintro ⟨⟩
     refine RA.weak (env' := [(0, v0), (8, v7), (22, adr v2 (((0 : Int)).toNat * 1)), (27, .int .i64 z299)]) (L' := [obox 35 (TR.rec1 TR.raw) v0 u0a, obox 45 TrH u0a (x0.1, (x0.2.1, u0b)), obox 55 TrL u0b x0.2.2, keep X, obox 59 TrE v7 (((0 : Int), (0 : Int), ([] : B8), (([] : B8), ([] : B8), (0 : Int), (0 : Int), (0 : Int), (0 : Int))) : TyE), imm (TR.sl TR.str) v2 x2]) ss ?_
     refine RA.seq 2 rfl (by kernel_rfl) ?_
     refine RL.ldSx (i := ((0 : Int)).toNat) (e' := y292) 5 Ex.str Tryz_ln9 rfl rfl rfl rfl SlOf.imm (idx_some e293).2.2 Part.self ?_
     refine RL.fin ?_
     refine RA.next ?_
     refine RA.relist 2 q_98 rfl (by kernel_rfl) ?_
     exact fun a w st => h300 () a w (St.cut [0, 1, 2, 3, 4] ⟨rfl, rfl, rfl, rfl, trivial⟩ (by decide) rfl st)
    refine RA.meet (ι := Unit) (fun (p : Unit) => [(0, v0), (8, v7), (23, (sv y292)), (25, adr v2 (((1 : Int)).toNat * 1))]) (fun (p : Unit) => [obox 35 (TR.rec1 TR.raw) v0 u0a, obox 45 TrH u0a (x0.1, (x0.2.1, u0b)), obox 55 TrL u0b x0.2.2, keep X, obox 59 TrE v7 (((0 : Int), (0 : Int), ([] : B8), (([] : B8), ([] : B8), (0 : Int), (0 : Int), (0 : Int), (0 : Int))) : TyE), imm (TR.sl TR.str) v2 x2]) 4 q_101 (fun h303 => ?_) ?_
    rotate_left
    ·rintro ⟨⟩
     refine RA.weak (env' := [(0, v0), (8, v7), (23, (sv y292)), (25, adr v2 (((1 : Int)).toNat * 1))]) (L' := [obox 35 (TR.rec1 TR.raw) v0 u0a, obox 45 TrH u0a (x0.1, (x0.2.1, u0b)), obox 55 TrL u0b x0.2.2, keep X, obox 59 TrE v7 (((0 : Int), (0 : Int), ([] : B8), (([] : B8), ([] : B8), (0 : Int), (0 : Int), (0 : Int), (0 : Int))) : TyE), imm (TR.sl TR.str) v2 x2]) ss ?_
     refine RA.seq 5 rfl (by kernel_rfl) ?_
     refine RL.ldSx (i := ((1 : Int)).toNat) (e' := y294) 5 Ex.str Tryz_ln9 rfl rfl rfl rfl SlOf.imm (idx_some e295).2.2 Part.self ?_
     refine RL.fin ?_
     refine RA.next ?_
     refine RA.relist 3 q_99 rfl (by kernel_rfl) ?_
     exact fun a w st => h301 () a w (St.cut [0, 1, 2, 3, 4] ⟨rfl, rfl, rfl, rfl, trivial⟩ (by decide) rfl st)
    refine RA.meet (ι := Unit) (fun (p : Unit) => [(0, v0), (8, v7), (22, adr v2 (((0 : Int)).toNat * 1)), (26, (sv y294))]) (fun (p : Unit) => [obox 35 (TR.rec1 TR.raw) v0 u0a, obox 45 TrH u0a (x0.1, (x0.2.1, u0b)), obox 55 TrL u0b x0.2.2, keep X, obox 59 TrE v7 (((0 : Int), (0 : Int), ([] : B8), (([] : B8), ([] : B8), (0 : Int), (0 : Int), (0 : Int), (0 : Int))) : TyE), imm (TR.sl TR.str) v2 x2]) 4 q_102 (fun h304 => ?_) ?_
    rotate_left
    ·rintro ⟨⟩
     refine RA.weak (env' := [(0, v0), (8, v7), (22, adr v2 (((0 : Int)).toNat * 1)), (26, (sv y294))]) (L' := [obox 35 (TR.rec1 TR.raw) v0 u0a, obox 45 TrH u0a (x0.1, (x0.2.1, u0b)), obox 55 TrL u0b x0.2.2, keep X, obox 59 TrE v7 (((0 : Int), (0 : Int), ([] : B8), (([] : B8), ([] : B8), (0 : Int), (0 : Int), (0 : Int), (0 : Int))) : TyE), imm (TR.sl TR.str) v2 x2]) ss ?_
     refine RA.many [2, 6] (by kernel_rfl) ⟨⟨_, rfl, ?_⟩, ⟨_, rfl, ?_⟩, trivial⟩
     ·skip
      refine RL.ldSx (i := ((0 : Int)).toNat) (e' := y292) 5 Ex.str Tryz_ln9 rfl rfl rfl rfl SlOf.imm (idx_some e293).2.2 Part.self ?_
      refine RL.fin ?_
      refine RA.next ?_
      refine RA.relist 3 q_99 rfl (by kernel_rfl) ?_
      exact fun a w st => h301 () a w (St.cut [0, 1, 2, 3, 4] ⟨rfl, rfl, rfl, rfl, trivial⟩ (by decide) rfl st)
     refine RL.callV (v := .int .i64 z299) (vs := [(sv y294)]) Tryz_fit26 rfl (Or.inl rfl) rfl rfl rfl rfl (fun U w hU hW hL => desk_number_c U w hU y294 _ e297) ?_
     refine RL.fin ?_
     refine RA.next ?_
     refine RA.relist 3 q_100 rfl (by kernel_rfl) ?_
     exact fun a w st => h302 () a w (St.cut [0, 1, 2, 3, 4, 5] ⟨rfl, rfl, rfl, rfl, trivial⟩ (by decide) rfl st)
    refine RA.many [2, 5] (by kernel_rfl) ⟨⟨_, rfl, ?_⟩, ⟨_, rfl, ?_⟩, trivial⟩
    ·skip
     refine RL.ldSx (i := ((0 : Int)).toNat) (e' := y292) 3 Ex.str Tryz_ln9 rfl rfl rfl rfl SlOf.imm (idx_some e293).2.2 Part.self ?_
     refine RL.fin ?_
     refine RA.next ?_
     refine RA.relist 4 q_101 rfl (by kernel_rfl) ?_
     exact fun a w st => h303 () a w (St.cut [0, 1, 2, 5, 4, 3] ⟨rfl, rfl, rfl, rfl, trivial⟩ (by decide) rfl st)
    refine RL.ldSx (i := ((1 : Int)).toNat) (e' := y294) 3 Ex.str Tryz_ln9 rfl rfl rfl rfl SlOf.imm (idx_some e295).2.2 Part.self ?_
    refine RL.fin ?_
    refine RA.next ?_
    refine RA.relist 4 q_102 rfl (by kernel_rfl) ?_
    exact fun a w st => h304 () a w (St.cut [0, 1, 2, 5, 4, 3] ⟨rfl, rfl, rfl, rfl, trivial⟩ (by decide) rfl st)
   rintro ⟨⟩
   refine RA.weak (env' := [(0, v0), (8, v7), (23, (sv y292)), (27, .int .i64 z299)]) (L' := [obox 35 (TR.rec1 TR.raw) v0 u0a, obox 45 TrH u0a (x0.1, (x0.2.1, u0b)), obox 55 TrL u0b x0.2.2, keep X, obox 59 TrE v7 (((0 : Int), (0 : Int), ([] : B8), (([] : B8), ([] : B8), (0 : Int), (0 : Int), (0 : Int), (0 : Int))) : TyE)]) ss ?_
   refine RA.seq 7 rfl (by kernel_rfl) ?_
   refine RL.bld (t := TrE) (d0 := (((1 : Int), z299, y292, (([] : B8), ([] : B8), (0 : Int), (0 : Int), (0 : Int), (0 : Int))) : TyE)) (pv := [(0, .int .i64 (1 : Int)), (2, (sv y292)), (1, .int .i64 z299)]) rfl Tryz_bld59 rfl rfl rfl ⟨⟨_, _, TR.int, (1 : Int), rfl, rfl, VR.int⟩, ⟨⟨_, _, TR.str, y292, rfl, rfl, VR.str⟩, ⟨⟨_, _, TR.int, z299, rfl, rfl, VR.int⟩, trivial⟩⟩⟩ (fun S f hi => by
     obtain ⟨c0, e0, r0⟩ := cells_vrep (t := TR.int) (u := .int .i64 (1 : Int)) (e := (1 : Int)) (VR.int S f hi)
     obtain ⟨c1, e1, r1⟩ := cells_vrep (t := TR.int) (u := .int .i64 z299) (e := z299) (VR.int S f hi)
     obtain ⟨c2, e2, r2⟩ := cells_vrep (t := TR.str) (u := (sv y292)) (e := y292) (VR.str S f hi)
     show TR.rep TrE S (List.flatten [(.int .i64 (1 : Int) : Value).cells.toList, (.int .i64 z299 : Value).cells.toList, ((sv y292) : Value).cells.toList, [.string ⟨#[]⟩, .string ⟨#[]⟩, .int .i64 0, .int .i64 0, .int .i64 0, .int .i64 0]]) _
     simp only [e0, e1, e2,  List.flatten_cons, List.flatten_nil, List.append_nil]
     exact ⟨_, _, rfl, r0, ⟨_, _, rfl, r1, ⟨_, _, rfl, r2, ⟨[.string ⟨#[]⟩], _, rfl, rfl, ⟨[.string ⟨#[]⟩], _, rfl, rfl, ⟨[.int .i64 0], _, rfl, rfl, ⟨[.int .i64 0], _, rfl, rfl, ⟨[.int .i64 0], _, rfl, rfl, rfl⟩⟩⟩⟩⟩⟩⟩⟩) ?_
   intro v305
   refine RL.fin ?_
   refine RA.next ?_
   refine RA.seq 8 rfl (by kernel_rfl) ?_
   refine RL.stP (off := 0) (e' := (((1 : Int), z299, y292, (([] : B8), ([] : B8), (0 : Int), (0 : Int), (0 : Int), (0 : Int))) : TyE)) (d1 := (((1 : Int), z299, y292, (([] : B8), ([] : B8), (0 : Int), (0 : Int), (0 : Int), (0 : Int))) : TyE)) (r := TrE) 4 Tryz_ln59 rfl rfl (Or.inr ⟨rfl, rfl⟩) rfl (VR.item 5 rfl) rfl Upd.self ?_
   refine RL.fin ?_
   refine RA.next ?_
   refine RA.doneG (by kernel_rfl) ?_
   refine GL.weak (env' := [(0, v0), (8, v7)]) (L' := [obox 35 (TR.rec1 TR.raw) v0 u0a, obox 45 TrH u0a (x0.1, (x0.2.1, u0b)), obox 55 TrL u0b x0.2.2, keep X, obox 59 TrE v7 (((1 : Int), z299, y292, (([] : B8), ([] : B8), (0 : Int), (0 : Int), (0 : Int), (0 : Int))) : TyE)]) (fun a w st => St.cut [0, 1, 2, 3, 4] ⟨rfl, rfl, trivial⟩ (by decide) rfl st) ?_
   cases h276
   exact fun a w st => mid_intro (((1 : Int), z299, y292, (([] : B8), ([] : B8), (0 : Int), (0 : Int), (0 : Int), (0 : Int))) : TyE) h260 (St.cut [0, 1, 2, 4, 3] ⟨rfl, rfl, trivial⟩ (by decide) rfl st)
  replace h276 := ite_f b277 h276
  refine GL.seq ?_
  obtain ⟨y309, K310, h311, h312, h313, h314, h315⟩ := bindF_K h276
  refine GL.join (ι := Bool) (fun (p : Bool) => [(0, v0), (1, (sv x1)), (2, v2), (8, v7), (29, .bool p)]) (fun (p : Bool) => [obox 35 (TR.rec1 TR.raw) v0 u0a, obox 45 TrH u0a (x0.1, (x0.2.1, u0b)), obox 55 TrL u0b x0.2.2, imm (TR.sl TR.str) v2 x2, obox 59 TrE v7 (((0 : Int), (0 : Int), ([] : B8), (([] : B8), ([] : B8), (0 : Int), (0 : Int), (0 : Int), (0 : Int))) : TyE), keep X]) (fun (p : Bool) => K310 (.nx p)) ?_ ?_
  ·skip
   refine GL.region ?_
   refine RL.mv rfl rfl rfl ?_
   refine RL.binS (v := .bool (x1 == ([111, 102, 102, 101, 114] : B8))) rfl rfl rfl rfl rfl ?_
   refine RL.mv rfl rfl rfl ?_
   refine RL.split (t := 32) rfl (fun b316 => ?_) (fun b316 => ?_)
   ·replace h311 := ite_t b316 h311
    refine RL.mv rfl rfl rfl ?_
    refine RL.lenS 3 Tryz.underlying22 rfl rfl rfl rfl SlOf.imm ?_
    refine RL.binI (v := .bool (((x2).length : Int) == (6 : Int))) rfl rfl rfl rfl rfl ?_
    refine RL.pickT rfl rfl rfl rfl ?_
    refine RL.asg rfl rfl rfl ?_
    refine RL.fin ?_
    cases h311
    exact fun a w st => mid_intro (((x2).length : Int) == (6 : Int)) h312 (St.cut [0, 1, 2, 3, 4, 5] ⟨rfl, rfl, rfl, rfl, rfl, trivial⟩ (by decide) rfl st)
   replace h311 := ite_f b316 h311
   refine RL.skip rfl rfl ?_
   refine RL.skip rfl rfl ?_
   refine RL.skip rfl rfl ?_
   refine RL.pickF rfl rfl rfl rfl ?_
   refine RL.asg rfl rfl rfl ?_
   refine RL.fin ?_
   cases h311
   exact fun a w st => mid_intro false h312 (St.cut [0, 1, 2, 3, 4, 5] ⟨rfl, rfl, rfl, rfl, rfl, trivial⟩ (by decide) rfl st)
  rintro x308 h317
  have h318 := h313 _ h317
  try dsimp only at h318
  refine GL.weak (env' := [(0, v0), (1, (sv x1)), (2, v2), (8, v7), (29, .bool x308)]) (L' := [obox 35 (TR.rec1 TR.raw) v0 u0a, obox 45 TrH u0a (x0.1, (x0.2.1, u0b)), obox 55 TrL u0b x0.2.2, imm (TR.sl TR.str) v2 x2, obox 59 TrE v7 (((0 : Int), (0 : Int), ([] : B8), (([] : B8), ([] : B8), (0 : Int), (0 : Int), (0 : Int), (0 : Int))) : TyE), keep X]) ss ?_
  refine GL.cond rfl (fun b319 => ?_) (fun b319 => ?_)
  ·replace h318 := ite_t b319 h318
   refine GL.seq ?_
   refine GL.region ?_
   refine RL.mv rfl rfl rfl ?_
   obtain ⟨y328, e329, h318⟩ := bind_some h318
   replace e329 := chk_some e329
   refine RL.slc (t := TR.str) (i := ((2 : Int)).toNat) (j := (x2).length) (sz := 1) 3 Tryz.underlying22 Tryz_ln9 rfl rfl rfl rfl (Or.inr ⟨_, _, rfl, by rw [Int.toNat_of_nonneg (by omega)]; rfl⟩) (Or.inl ⟨rfl, rfl⟩) rfl (by omega) (by omega) ?_
   intro v330
   obtain ⟨y331, e332, h318⟩ := bind_some h318
   rcases y331 with x333 | z334
   ·replace h318 := thr_e h318
    refine RL.callE (T := 48) (n := x333) (vs := [v330]) Tryz_fit27 rfl rfl rfl rfl (fun U w hU hW hL => desk_numbers_c U w hU _ _ (hL 6 _ _ rfl Seen.imm) _ e332) ?_
    cases h318
    have hh := h262 _ h260
    subst hh
    first | exact fun a w st => And.intro st.defers (thrP_err ((st.pick [0, 1, 2, 5] (by decide) rfl).toPostMX (E := fun (_ : Unit) => .panicked (refuse 48 x333)) (LR := fun (o : Unit) => [obox 35 (TR.rec1 TR.raw) v0 u0a, obox 45 TrH u0a (x0.1, (x0.2.1, u0b)), obox 55 TrL u0b x0.2.2, keep X]) ())) | exact fun a w st _ _ => And.intro st.defers (thrP_err ((st.pick [0, 1, 2, 5] (by decide) rfl).toPostMX (E := fun (_ : Unit) => .panicked (refuse 48 x333)) (LR := fun (o : Unit) => [obox 35 (TR.rec1 TR.raw) v0 u0a, obox 45 TrH u0a (x0.1, (x0.2.1, u0b)), obox 55 TrL u0b x0.2.2, keep X]) ()))
   replace h318 := thr_o h318
   refine RL.call (vs := [v330]) Tryz_fit27 rfl rfl rfl rfl rfl (fun S f w hS hW hi => desk_numbers_c S w hS _ _ (hi 6 _ rfl) _ e332) ?_
   intro v335
   refine RL.reL (L' := [obox 35 (TR.rec1 TR.raw) v0 u0a, obox 45 TrH u0a (x0.1, (x0.2.1, u0b)), obox 55 TrL u0b x0.2.2, imm (TR.sl TR.str) v2 x2, obox 59 TrE v7 (((0 : Int), (0 : Int), ([] : B8), (([] : B8), ([] : B8), (0 : Int), (0 : Int), (0 : Int), (0 : Int))) : TyE), keep X, imm (TR.sl TR.str) v330 ((List.take ((x2).length) x2).drop (((2 : Int)).toNat)), own 3 TR.int v335 z334]) rfl ?_
   refine RL.asg rfl rfl rfl ?_
   refine RL.finG ?_
   refine GL.regionH 20 rfl rfl (by kernel_rfl) ?_
   simp only [List.take_succ_cons, List.take_zero, List.drop_succ_cons, List.drop_zero]
   refine RL.mv rfl rfl rfl ?_
   obtain ⟨y350, e351, h318⟩ := bind_some h318
   refine RL.idxS (sz := 1) 3 Tryz.underlying22 Tryz_ln9 rfl rfl rfl rfl rfl SlOf.imm (idx_some e351).1 (idx_some e351).2.1 ?_
   refine RL.ldSx (i := ((0 : Int)).toNat) (e' := y350) 3 Ex.str Tryz_ln9 rfl rfl rfl rfl SlOf.imm (idx_some e351).2.2 Part.self ?_
   refine RL.mv rfl rfl rfl ?_
   obtain ⟨y352, e353, h318⟩ := bind_some h318
   refine RL.idxS (sz := 1) 3 Tryz.underlying22 Tryz_ln9 rfl rfl rfl rfl rfl SlOf.imm (idx_some e353).1 (idx_some e353).2.1 ?_
   refine RL.ldSx (i := ((1 : Int)).toNat) (e' := y352) 3 Ex.str Tryz_ln9 rfl rfl rfl rfl SlOf.imm (idx_some e353).2.2 Part.self ?_
   refine RL.mv rfl rfl rfl ?_
   obtain ⟨y354, e355, h318⟩ := bind_some h318
   refine RL.idxS (sz := 1) 7 Tryz.underlying61 Tryz_ln3 rfl rfl rfl rfl rfl SlOf.own (idx_some e355).1 (idx_some e355).2.1 ?_
   refine RL.ldSx (i := ((0 : Int)).toNat) (e' := y354) 7 Ex.ik Tryz_ln3 rfl rfl rfl rfl SlOf.own (idx_some e355).2.2 Part.self ?_
   refine RL.mv rfl rfl rfl ?_
   obtain ⟨y356, e357, h318⟩ := bind_some h318
   refine RL.idxS (sz := 1) 7 Tryz.underlying61 Tryz_ln3 rfl rfl rfl rfl rfl SlOf.own (idx_some e357).1 (idx_some e357).2.1 ?_
   refine RL.ldSx (i := ((1 : Int)).toNat) (e' := y356) 7 Ex.ik Tryz_ln3 rfl rfl rfl rfl SlOf.own (idx_some e357).2.2 Part.self ?_
   refine RL.mv rfl rfl rfl ?_
   obtain ⟨y358, e359, h318⟩ := bind_some h318
   refine RL.idxS (sz := 1) 7 Tryz.underlying61 Tryz_ln3 rfl rfl rfl rfl rfl SlOf.own (idx_some e359).1 (idx_some e359).2.1 ?_
   refine RL.ldSx (i := ((2 : Int)).toNat) (e' := y358) 7 Ex.ik Tryz_ln3 rfl rfl rfl rfl SlOf.own (idx_some e359).2.2 Part.self ?_
   refine RL.mv rfl rfl rfl ?_
   obtain ⟨y360, e361, h318⟩ := bind_some h318
   refine RL.idxS (sz := 1) 7 Tryz.underlying61 Tryz_ln3 rfl rfl rfl rfl rfl SlOf.own (idx_some e361).1 (idx_some e361).2.1 ?_
   refine RL.ldSx (i := ((3 : Int)).toNat) (e' := y360) 7 Ex.ik Tryz_ln3 rfl rfl rfl rfl SlOf.own (idx_some e361).2.2 Part.self ?_
   refine RL.bld (t := TrD) (d0 := ((y350, y352, y354, y356, y358, y360) : TyD)) (pv := [(0, (sv y350)), (1, (sv y352)), (2, .int .i64 y354), (3, .int .i64 y356), (4, .int .i64 y358), (5, .int .i64 y360)]) rfl Tryz_bld57 rfl rfl rfl ⟨⟨_, _, TR.str, y350, rfl, rfl, VR.str⟩, ⟨⟨_, _, TR.str, y352, rfl, rfl, VR.str⟩, ⟨⟨_, _, TR.int, y354, rfl, rfl, VR.int⟩, ⟨⟨_, _, TR.int, y356, rfl, rfl, VR.int⟩, ⟨⟨_, _, TR.int, y358, rfl, rfl, VR.int⟩, ⟨⟨_, _, TR.int, y360, rfl, rfl, VR.int⟩, trivial⟩⟩⟩⟩⟩⟩ (fun S f hi => by
     obtain ⟨c0, e0, r0⟩ := cells_vrep (t := TR.str) (u := (sv y350)) (e := y350) (VR.str S f hi)
     obtain ⟨c1, e1, r1⟩ := cells_vrep (t := TR.str) (u := (sv y352)) (e := y352) (VR.str S f hi)
     obtain ⟨c2, e2, r2⟩ := cells_vrep (t := TR.int) (u := .int .i64 y354) (e := y354) (VR.int S f hi)
     obtain ⟨c3, e3, r3⟩ := cells_vrep (t := TR.int) (u := .int .i64 y356) (e := y356) (VR.int S f hi)
     obtain ⟨c4, e4, r4⟩ := cells_vrep (t := TR.int) (u := .int .i64 y358) (e := y358) (VR.int S f hi)
     obtain ⟨c5, e5, r5⟩ := cells_vrep (t := TR.int) (u := .int .i64 y360) (e := y360) (VR.int S f hi)
     show TR.rep TrD S (List.flatten [((sv y350) : Value).cells.toList, ((sv y352) : Value).cells.toList, (.int .i64 y354 : Value).cells.toList, (.int .i64 y356 : Value).cells.toList, (.int .i64 y358 : Value).cells.toList, (.int .i64 y360 : Value).cells.toList]) _
     simp only [e0, e1, e2, e3, e4, e5,  List.flatten_cons, List.flatten_nil, List.append_nil]
     exact ⟨_, _, rfl, r0, ⟨_, _, rfl, r1, ⟨_, _, rfl, r2, ⟨_, _, rfl, r3, ⟨_, _, rfl, r4, r5⟩⟩⟩⟩⟩) ?_
   intro v362
   refine RL.bld (t := TrE) (d0 := (((2 : Int), (0 : Int), ([] : B8), ((y350, y352, y354, y356, y358, y360) : TyD)) : TyE)) (pv := [(0, .int .i64 (2 : Int)), (3, v362)]) rfl Tryz_bld59 rfl rfl rfl ⟨⟨_, _, TR.int, (2 : Int), rfl, rfl, VR.int⟩, ⟨⟨_, _, TrD, ((y350, y352, y354, y356, y358, y360) : TyD), rfl, rfl, (VR.item 8 rfl)⟩, trivial⟩⟩ (fun S f hi => by
     obtain ⟨c0, e0, r0⟩ := cells_vrep (t := TR.int) (u := .int .i64 (2 : Int)) (e := (2 : Int)) (VR.int S f hi)
     obtain ⟨c3, e3, r3⟩ := cells_vrep (t := TrD) (u := v362) (e := ((y350, y352, y354, y356, y358, y360) : TyD)) ((VR.item 8 rfl) S f hi)
     show TR.rep TrE S (List.flatten [(.int .i64 (2 : Int) : Value).cells.toList, [.int .i64 0], [.string ⟨#[]⟩], (v362 : Value).cells.toList]) _
     simp only [e0, e3,  List.flatten_cons, List.flatten_nil, List.append_nil]
     exact ⟨_, _, rfl, r0, ⟨_, _, rfl, rfl, ⟨_, _, rfl, rfl, r3⟩⟩⟩) ?_
   intro v363
   refine RL.reL (L' := [obox 35 (TR.rec1 TR.raw) v0 u0a, obox 45 TrH u0a (x0.1, (x0.2.1, u0b)), obox 55 TrL u0b x0.2.2, imm (TR.sl TR.str) v2 x2, obox 59 TrE v7 (((0 : Int), (0 : Int), ([] : B8), (([] : B8), ([] : B8), (0 : Int), (0 : Int), (0 : Int), (0 : Int))) : TyE), keep X, imm (TR.sl TR.str) v330 ((List.take ((x2).length) x2).drop (((2 : Int)).toNat)), own 3 TR.int v335 z334, imm TrD v362 ((y350, y352, y354, y356, y358, y360) : TyD), imm TrE v363 (((2 : Int), (0 : Int), ([] : B8), ((y350, y352, y354, y356, y358, y360) : TyD)) : TyE)]) rfl ?_
   refine RL.finH ?_
   refine RL.stP (off := 0) (e' := (((2 : Int), (0 : Int), ([] : B8), ((y350, y352, y354, y356, y358, y360) : TyD)) : TyE)) (d1 := (((2 : Int), (0 : Int), ([] : B8), ((y350, y352, y354, y356, y358, y360) : TyD)) : TyE)) (r := TrE) 4 Tryz_ln59 rfl rfl (Or.inr ⟨rfl, rfl⟩) rfl (VR.item 9 rfl) rfl Upd.self ?_
   refine RL.finG ?_
   refine GL.weak (env' := [(0, v0), (8, v7)]) (L' := [obox 35 (TR.rec1 TR.raw) v0 u0a, obox 45 TrH u0a (x0.1, (x0.2.1, u0b)), obox 55 TrL u0b x0.2.2, keep X, obox 59 TrE v7 (((2 : Int), (0 : Int), ([] : B8), ((y350, y352, y354, y356, y358, y360) : TyD)) : TyE)]) (fun a w st => St.cut [0, 1, 2, 5, 4] ⟨rfl, rfl, trivial⟩ (by decide) rfl st) ?_
   cases h318
   exact fun a w st => mid_intro (((2 : Int), (0 : Int), ([] : B8), ((y350, y352, y354, y356, y358, y360) : TyD)) : TyE) h260 (St.cut [0, 1, 2, 4, 3] ⟨rfl, rfl, trivial⟩ (by decide) rfl st)
  replace h318 := ite_f b319 h318
  refine GL.seq ?_
  obtain ⟨y367, K368, h369, h370, h371, h372, h373⟩ := bindF_K h318
  refine GL.join (ι := Bool) (fun (p : Bool) => [(0, v0), (1, (sv x1)), (2, v2), (8, v7), (60, .bool p)]) (fun (p : Bool) => [obox 35 (TR.rec1 TR.raw) v0 u0a, obox 45 TrH u0a (x0.1, (x0.2.1, u0b)), obox 55 TrL u0b x0.2.2, imm (TR.sl TR.str) v2 x2, obox 59 TrE v7 (((0 : Int), (0 : Int), ([] : B8), (([] : B8), ([] : B8), (0 : Int), (0 : Int), (0 : Int), (0 : Int))) : TyE), keep X]) (fun (p : Bool) => K368 (.nx p)) ?_ ?_
  ·skip
   refine GL.region ?_
   refine RL.mv rfl rfl rfl ?_
   refine RL.binS (v := .bool (x1 == ([98, 117, 105, 108, 100] : B8))) rfl rfl rfl rfl rfl ?_
   refine RL.mv rfl rfl rfl ?_
   refine RL.split (t := 63) rfl (fun b374 => ?_) (fun b374 => ?_)
   ·replace h369 := ite_t b374 h369
    refine RL.mv rfl rfl rfl ?_
    refine RL.lenS 3 Tryz.underlying22 rfl rfl rfl rfl SlOf.imm ?_
    refine RL.binI (v := .bool (((x2).length : Int) == (2 : Int))) rfl rfl rfl rfl rfl ?_
    refine RL.pickT rfl rfl rfl rfl ?_
    refine RL.asg rfl rfl rfl ?_
    refine RL.fin ?_
    cases h369
    exact fun a w st => mid_intro (((x2).length : Int) == (2 : Int)) h370 (St.cut [0, 1, 2, 3, 4, 5] ⟨rfl, rfl, rfl, rfl, rfl, trivial⟩ (by decide) rfl st)
   replace h369 := ite_f b374 h369
   refine RL.skip rfl rfl ?_
   refine RL.skip rfl rfl ?_
   refine RL.skip rfl rfl ?_
   refine RL.pickF rfl rfl rfl rfl ?_
   refine RL.asg rfl rfl rfl ?_
   refine RL.fin ?_
   cases h369
   exact fun a w st => mid_intro false h370 (St.cut [0, 1, 2, 3, 4, 5] ⟨rfl, rfl, rfl, rfl, rfl, trivial⟩ (by decide) rfl st)
  rintro x366 h375
  have h376 := h371 _ h375
  try dsimp only at h376
  refine GL.weak (env' := [(0, v0), (1, (sv x1)), (2, v2), (8, v7), (60, .bool x366)]) (L' := [obox 35 (TR.rec1 TR.raw) v0 u0a, obox 45 TrH u0a (x0.1, (x0.2.1, u0b)), obox 55 TrL u0b x0.2.2, imm (TR.sl TR.str) v2 x2, obox 59 TrE v7 (((0 : Int), (0 : Int), ([] : B8), (([] : B8), ([] : B8), (0 : Int), (0 : Int), (0 : Int), (0 : Int))) : TyE), keep X]) ss ?_
  refine GL.cond rfl (fun b377 => ?_) (fun b377 => ?_)
  ·replace h376 := ite_t b377 h376
   refine GL.regionA rfl rfl ?_
   refine RA.mv 0 rfl (by kernel_rfl) rfl rfl rfl ?_
   obtain ⟨y392, e393, h376⟩ := bind_some h376
   refine RA.idxS (sz := 1) 3 Tryz.underlying22 Tryz_ln9 1 rfl (by kernel_rfl) rfl rfl rfl rfl rfl SlOf.imm (idx_some e393).1 (idx_some e393).2.1 ?_
   refine RA.mv 3 rfl (by kernel_rfl) rfl rfl rfl ?_
   obtain ⟨y394, e395, h376⟩ := bind_some h376
   refine RA.idxS (sz := 1) 3 Tryz.underlying22 Tryz_ln9 4 rfl (by kernel_rfl) rfl rfl rfl rfl rfl SlOf.imm (idx_some e395).1 (idx_some e395).2.1 ?_
   obtain ⟨y396, e397, h376⟩ := bind_some h376
   rcases y396 with x398 | z399
   ·replace h376 := thr_e h376
    refine RA.many [2, 5] (by kernel_rfl) ⟨⟨_, rfl, ?_⟩, ⟨_, rfl, ?_⟩, trivial⟩
    ·skip
     refine RL.ldSx (i := ((0 : Int)).toNat) (e' := y392) 3 Ex.str Tryz_ln9 rfl rfl rfl rfl SlOf.imm (idx_some e393).2.2 Part.self ?_
     refine RL.fin ?_
     refine RA.next ?_
     refine RA.seq 5 rfl (by kernel_rfl) ?_
     refine RL.ldSx (i := ((1 : Int)).toNat) (e' := y394) 3 Ex.str Tryz_ln9 rfl rfl rfl rfl SlOf.imm (idx_some e395).2.2 Part.self ?_
     refine RL.fin ?_
     refine RA.next ?_
     refine RA.seq 6 rfl (by kernel_rfl) ?_
     refine RL.callE (T := 48) (n := x398) (vs := [(sv y394)]) Tryz_fit26 rfl rfl rfl rfl (fun U w hU hW hL => desk_number_c U w hU y394 _ e397) ?_
     cases h376
     have hh := h262 _ h260
     subst hh
     first | exact fun a w st => And.intro st.defers (thrP_err ((st.pick [0, 1, 2, 5] (by decide) rfl).toPostMX (E := fun (_ : Unit) => .panicked (refuse 48 x398)) (LR := fun (o : Unit) => [obox 35 (TR.rec1 TR.raw) v0 u0a, obox 45 TrH u0a (x0.1, (x0.2.1, u0b)), obox 55 TrL u0b x0.2.2, keep X]) ())) | exact fun a w st _ _ => And.intro st.defers (thrP_err ((st.pick [0, 1, 2, 5] (by decide) rfl).toPostMX (E := fun (_ : Unit) => .panicked (refuse 48 x398)) (LR := fun (o : Unit) => [obox 35 (TR.rec1 TR.raw) v0 u0a, obox 45 TrH u0a (x0.1, (x0.2.1, u0b)), obox 55 TrL u0b x0.2.2, keep X]) ()))
    refine RL.ldSx (i := ((1 : Int)).toNat) (e' := y394) 3 Ex.str Tryz_ln9 rfl rfl rfl rfl SlOf.imm (idx_some e395).2.2 Part.self ?_
    refine RL.fin ?_
    refine RA.next ?_
    refine RA.many [2, 6] (by kernel_rfl) ⟨⟨_, rfl, ?_⟩, ⟨_, rfl, ?_⟩, trivial⟩
    ·skip
     refine RL.ldSx (i := ((0 : Int)).toNat) (e' := y392) 3 Ex.str Tryz_ln9 rfl rfl rfl rfl SlOf.imm (idx_some e393).2.2 Part.self ?_
     refine RL.fin ?_
     refine RA.next ?_
     refine RA.seq 6 rfl (by kernel_rfl) ?_
     refine RL.callE (T := 48) (n := x398) (vs := [(sv y394)]) Tryz_fit26 rfl rfl rfl rfl (fun U w hU hW hL => desk_number_c U w hU y394 _ e397) ?_
     cases h376
     have hh := h262 _ h260
     subst hh
     first | exact fun a w st => And.intro st.defers (thrP_err ((st.pick [0, 1, 2, 5] (by decide) rfl).toPostMX (E := fun (_ : Unit) => .panicked (refuse 48 x398)) (LR := fun (o : Unit) => [obox 35 (TR.rec1 TR.raw) v0 u0a, obox 45 TrH u0a (x0.1, (x0.2.1, u0b)), obox 55 TrL u0b x0.2.2, keep X]) ())) | exact fun a w st _ _ => And.intro st.defers (thrP_err ((st.pick [0, 1, 2, 5] (by decide) rfl).toPostMX (E := fun (_ : Unit) => .panicked (refuse 48 x398)) (LR := fun (o : Unit) => [obox 35 (TR.rec1 TR.raw) v0 u0a, obox 45 TrH u0a (x0.1, (x0.2.1, u0b)), obox 55 TrL u0b x0.2.2, keep X]) ()))
    refine RL.callE (T := 48) (n := x398) (vs := [(sv y394)]) Tryz_fit26 rfl rfl rfl rfl (fun U w hU hW hL => desk_number_c U w hU y394 _ e397) ?_
    cases h376
    have hh := h262 _ h260
    subst hh
    first | exact fun a w st => And.intro st.defers (thrP_err ((st.pick [0, 1, 2, 5] (by decide) rfl).toPostMX (E := fun (_ : Unit) => .panicked (refuse 48 x398)) (LR := fun (o : Unit) => [obox 35 (TR.rec1 TR.raw) v0 u0a, obox 45 TrH u0a (x0.1, (x0.2.1, u0b)), obox 55 TrL u0b x0.2.2, keep X]) ())) | exact fun a w st _ _ => And.intro st.defers (thrP_err ((st.pick [0, 1, 2, 5] (by decide) rfl).toPostMX (E := fun (_ : Unit) => .panicked (refuse 48 x398)) (LR := fun (o : Unit) => [obox 35 (TR.rec1 TR.raw) v0 u0a, obox 45 TrH u0a (x0.1, (x0.2.1, u0b)), obox 55 TrL u0b x0.2.2, keep X]) ()))
   replace h376 := thr_o h376
   refine RA.meet (ι := Unit) (fun (p : Unit) => [(0, v0), (8, v7), (70, (sv y392)), (74, .int .i64 z399)]) (fun (p : Unit) => [obox 35 (TR.rec1 TR.raw) v0 u0a, obox 45 TrH u0a (x0.1, (x0.2.1, u0b)), obox 55 TrL u0b x0.2.2, keep X, obox 59 TrE v7 (((0 : Int), (0 : Int), ([] : B8), (([] : B8), ([] : B8), (0 : Int), (0 : Int), (0 : Int), (0 : Int))) : TyE)]) 2 q_98 (fun h400 => ?_) ?_
   ·skip
    refine RA.meet (ι := Unit) (fun (p : Unit) => [(0, v0), (8, v7), (70, (sv y392)), (73, (sv y394))]) (fun (p : Unit) => [obox 35 (TR.rec1 TR.raw) v0 u0a, obox 45 TrH u0a (x0.1, (x0.2.1, u0b)), obox 55 TrL u0b x0.2.2, keep X, obox 59 TrE v7 (((0 : Int), (0 : Int), ([] : B8), (([] : B8), ([] : B8), (0 : Int), (0 : Int), (0 : Int), (0 : Int))) : TyE)]) 3 q_99 (fun h401 => ?_) ?_
    rotate_left
    ·rintro ⟨⟩
     refine RA.weak (env' := [(0, v0), (8, v7), (70, (sv y392)), (73, (sv y394))]) (L' := [obox 35 (TR.rec1 TR.raw) v0 u0a, obox 45 TrH u0a (x0.1, (x0.2.1, u0b)), obox 55 TrL u0b x0.2.2, keep X, obox 59 TrE v7 (((0 : Int), (0 : Int), ([] : B8), (([] : B8), ([] : B8), (0 : Int), (0 : Int), (0 : Int), (0 : Int))) : TyE)]) ss ?_
     refine RA.seq 6 rfl (by kernel_rfl) ?_
     refine RL.callV (v := .int .i64 z399) (vs := [(sv y394)]) Tryz_fit26 rfl (Or.inl rfl) rfl rfl rfl rfl (fun U w hU hW hL => desk_number_c U w hU y394 _ e397) ?_
     refine RL.fin ?_
     refine RA.next ?_
     refine RA.relist 2 q_98 rfl (by kernel_rfl) ?_
     exact fun a w st => h400 () a w (St.cut [0, 1, 2, 3, 4] ⟨rfl, rfl, rfl, rfl, trivial⟩ (by decide) rfl st)
    refine RA.meet (ι := Unit) (fun (p : Unit) => [(0, v0), (8, v7), (69, adr v2 (((0 : Int)).toNat * 1)), (74, .int .i64 z399)]) (fun (p : Unit) => [obox 35 (TR.rec1 TR.raw) v0 u0a, obox 45 TrH u0a (x0.1, (x0.2.1, u0b)), obox 55 TrL u0b x0.2.2, keep X, obox 59 TrE v7 (((0 : Int), (0 : Int), ([] : B8), (([] : B8), ([] : B8), (0 : Int), (0 : Int), (0 : Int), (0 : Int))) : TyE), imm (TR.sl TR.str) v2 x2]) 3 q_100 (fun h402 => ?_) ?_
    rotate_left
    ·rintro ⟨⟩
     refine RA.weak (env' := [(0, v0), (8, v7), (69, adr v2 (((0 : Int)).toNat * 1)), (74, .int .i64 z399)]) (L' := [obox 35 (TR.rec1 TR.raw) v0 u0a, obox 45 TrH u0a (x0.1, (x0.2.1, u0b)), obox 55 TrL u0b x0.2.2, keep X, obox 59 TrE v7 (((0 : Int), (0 : Int), ([] : B8), (([] : B8), ([] : B8), (0 : Int), (0 : Int), (0 : Int), (0 : Int))) : TyE), imm (TR.sl TR.str) v2 x2]) ss ?_
     refine RA.seq 2 rfl (by kernel_rfl) ?_
     refine RL.ldSx (i := ((0 : Int)).toNat) (e' := y392) 5 Ex.str Tryz_ln9 rfl rfl rfl rfl SlOf.imm (idx_some e393).2.2 Part.self ?_
     refine RL.fin ?_
     refine RA.next ?_
     refine RA.relist 2 q_98 rfl (by kernel_rfl) ?_
     exact fun a w st => h400 () a w (St.cut [0, 1, 2, 3, 4] ⟨rfl, rfl, rfl, rfl, trivial⟩ (by decide) rfl st)
    refine RA.meet (ι := Unit) (fun (p : Unit) => [(0, v0), (8, v7), (70, (sv y392)), (72, adr v2 (((1 : Int)).toNat * 1))]) (fun (p : Unit) => [obox 35 (TR.rec1 TR.raw) v0 u0a, obox 45 TrH u0a (x0.1, (x0.2.1, u0b)), obox 55 TrL u0b x0.2.2, keep X, obox 59 TrE v7 (((0 : Int), (0 : Int), ([] : B8), (([] : B8), ([] : B8), (0 : Int), (0 : Int), (0 : Int), (0 : Int))) : TyE), imm (TR.sl TR.str) v2 x2]) 4 q_101 (fun h403 => ?_) ?_
    rotate_left
    ·rintro ⟨⟩
     refine RA.weak (env' := [(0, v0), (8, v7), (70, (sv y392)), (72, adr v2 (((1 : Int)).toNat * 1))]) (L' := [obox 35 (TR.rec1 TR.raw) v0 u0a, obox 45 TrH u0a (x0.1, (x0.2.1, u0b)), obox 55 TrL u0b x0.2.2, keep X, obox 59 TrE v7 (((0 : Int), (0 : Int), ([] : B8), (([] : B8), ([] : B8), (0 : Int), (0 : Int), (0 : Int), (0 : Int))) : TyE), imm (TR.sl TR.str) v2 x2]) ss ?_
     refine RA.seq 5 rfl (by kernel_rfl) ?_
     refine RL.ldSx (i := ((1 : Int)).toNat) (e' := y394) 5 Ex.str Tryz_ln9 rfl rfl rfl rfl SlOf.imm (idx_some e395).2.2 Part.self ?_
     refine RL.fin ?_
     refine RA.next ?_
     refine RA.relist 3 q_99 rfl (by kernel_rfl) ?_
     exact fun a w st => h401 () a w (St.cut [0, 1, 2, 3, 4] ⟨rfl, rfl, rfl, rfl, trivial⟩ (by decide) rfl st)
    refine RA.meet (ι := Unit) (fun (p : Unit) => [(0, v0), (8, v7), (69, adr v2 (((0 : Int)).toNat * 1)), (73, (sv y394))]) (fun (p : Unit) => [obox 35 (TR.rec1 TR.raw) v0 u0a, obox 45 TrH u0a (x0.1, (x0.2.1, u0b)), obox 55 TrL u0b x0.2.2, keep X, obox 59 TrE v7 (((0 : Int), (0 : Int), ([] : B8), (([] : B8), ([] : B8), (0 : Int), (0 : Int), (0 : Int), (0 : Int))) : TyE), imm (TR.sl TR.str) v2 x2]) 4 q_102 (fun h404 => ?_) ?_
    rotate_left
    ·rintro ⟨⟩
     refine RA.weak (env' := [(0, v0), (8, v7), (69, adr v2 (((0 : Int)).toNat * 1)), (73, (sv y394))]) (L' := [obox 35 (TR.rec1 TR.raw) v0 u0a, obox 45 TrH u0a (x0.1, (x0.2.1, u0b)), obox 55 TrL u0b x0.2.2, keep X, obox 59 TrE v7 (((0 : Int), (0 : Int), ([] : B8), (([] : B8), ([] : B8), (0 : Int), (0 : Int), (0 : Int), (0 : Int))) : TyE), imm (TR.sl TR.str) v2 x2]) ss ?_
     refine RA.many [2, 6] (by kernel_rfl) ⟨⟨_, rfl, ?_⟩, ⟨_, rfl, ?_⟩, trivial⟩
     ·skip
      refine RL.ldSx (i := ((0 : Int)).toNat) (e' := y392) 5 Ex.str Tryz_ln9 rfl rfl rfl rfl SlOf.imm (idx_some e393).2.2 Part.self ?_
      refine RL.fin ?_
      refine RA.next ?_
      refine RA.relist 3 q_99 rfl (by kernel_rfl) ?_
      exact fun a w st => h401 () a w (St.cut [0, 1, 2, 3, 4] ⟨rfl, rfl, rfl, rfl, trivial⟩ (by decide) rfl st)
     refine RL.callV (v := .int .i64 z399) (vs := [(sv y394)]) Tryz_fit26 rfl (Or.inl rfl) rfl rfl rfl rfl (fun U w hU hW hL => desk_number_c U w hU y394 _ e397) ?_
     refine RL.fin ?_
     refine RA.next ?_
     refine RA.relist 3 q_100 rfl (by kernel_rfl) ?_
     exact fun a w st => h402 () a w (St.cut [0, 1, 2, 3, 4, 5] ⟨rfl, rfl, rfl, rfl, trivial⟩ (by decide) rfl st)
    refine RA.many [2, 5] (by kernel_rfl) ⟨⟨_, rfl, ?_⟩, ⟨_, rfl, ?_⟩, trivial⟩
    ·skip
     refine RL.ldSx (i := ((0 : Int)).toNat) (e' := y392) 3 Ex.str Tryz_ln9 rfl rfl rfl rfl SlOf.imm (idx_some e393).2.2 Part.self ?_
     refine RL.fin ?_
     refine RA.next ?_
     refine RA.relist 4 q_101 rfl (by kernel_rfl) ?_
     exact fun a w st => h403 () a w (St.cut [0, 1, 2, 5, 4, 3] ⟨rfl, rfl, rfl, rfl, trivial⟩ (by decide) rfl st)
    refine RL.ldSx (i := ((1 : Int)).toNat) (e' := y394) 3 Ex.str Tryz_ln9 rfl rfl rfl rfl SlOf.imm (idx_some e395).2.2 Part.self ?_
    refine RL.fin ?_
    refine RA.next ?_
    refine RA.relist 4 q_102 rfl (by kernel_rfl) ?_
    exact fun a w st => h404 () a w (St.cut [0, 1, 2, 5, 4, 3] ⟨rfl, rfl, rfl, rfl, trivial⟩ (by decide) rfl st)
   rintro ⟨⟩
   refine RA.weak (env' := [(0, v0), (8, v7), (70, (sv y392)), (74, .int .i64 z399)]) (L' := [obox 35 (TR.rec1 TR.raw) v0 u0a, obox 45 TrH u0a (x0.1, (x0.2.1, u0b)), obox 55 TrL u0b x0.2.2, keep X, obox 59 TrE v7 (((0 : Int), (0 : Int), ([] : B8), (([] : B8), ([] : B8), (0 : Int), (0 : Int), (0 : Int), (0 : Int))) : TyE)]) ss ?_
   refine RA.seq 7 rfl (by kernel_rfl) ?_
   refine RL.bld (t := TrE) (d0 := (((3 : Int), z399, y392, (([] : B8), ([] : B8), (0 : Int), (0 : Int), (0 : Int), (0 : Int))) : TyE)) (pv := [(0, .int .i64 (3 : Int)), (2, (sv y392)), (1, .int .i64 z399)]) rfl Tryz_bld59 rfl rfl rfl ⟨⟨_, _, TR.int, (3 : Int), rfl, rfl, VR.int⟩, ⟨⟨_, _, TR.str, y392, rfl, rfl, VR.str⟩, ⟨⟨_, _, TR.int, z399, rfl, rfl, VR.int⟩, trivial⟩⟩⟩ (fun S f hi => by
     obtain ⟨c0, e0, r0⟩ := cells_vrep (t := TR.int) (u := .int .i64 (3 : Int)) (e := (3 : Int)) (VR.int S f hi)
     obtain ⟨c1, e1, r1⟩ := cells_vrep (t := TR.int) (u := .int .i64 z399) (e := z399) (VR.int S f hi)
     obtain ⟨c2, e2, r2⟩ := cells_vrep (t := TR.str) (u := (sv y392)) (e := y392) (VR.str S f hi)
     show TR.rep TrE S (List.flatten [(.int .i64 (3 : Int) : Value).cells.toList, (.int .i64 z399 : Value).cells.toList, ((sv y392) : Value).cells.toList, [.string ⟨#[]⟩, .string ⟨#[]⟩, .int .i64 0, .int .i64 0, .int .i64 0, .int .i64 0]]) _
     simp only [e0, e1, e2,  List.flatten_cons, List.flatten_nil, List.append_nil]
     exact ⟨_, _, rfl, r0, ⟨_, _, rfl, r1, ⟨_, _, rfl, r2, ⟨[.string ⟨#[]⟩], _, rfl, rfl, ⟨[.string ⟨#[]⟩], _, rfl, rfl, ⟨[.int .i64 0], _, rfl, rfl, ⟨[.int .i64 0], _, rfl, rfl, ⟨[.int .i64 0], _, rfl, rfl, rfl⟩⟩⟩⟩⟩⟩⟩⟩) ?_
   intro v405
   refine RL.fin ?_
   refine RA.next ?_
   refine RA.seq 8 rfl (by kernel_rfl) ?_
   refine RL.stP (off := 0) (e' := (((3 : Int), z399, y392, (([] : B8), ([] : B8), (0 : Int), (0 : Int), (0 : Int), (0 : Int))) : TyE)) (d1 := (((3 : Int), z399, y392, (([] : B8), ([] : B8), (0 : Int), (0 : Int), (0 : Int), (0 : Int))) : TyE)) (r := TrE) 4 Tryz_ln59 rfl rfl (Or.inr ⟨rfl, rfl⟩) rfl (VR.item 5 rfl) rfl Upd.self ?_
   refine RL.fin ?_
   refine RA.next ?_
   refine RA.doneG (by kernel_rfl) ?_
   refine GL.weak (env' := [(0, v0), (8, v7)]) (L' := [obox 35 (TR.rec1 TR.raw) v0 u0a, obox 45 TrH u0a (x0.1, (x0.2.1, u0b)), obox 55 TrL u0b x0.2.2, keep X, obox 59 TrE v7 (((3 : Int), z399, y392, (([] : B8), ([] : B8), (0 : Int), (0 : Int), (0 : Int), (0 : Int))) : TyE)]) (fun a w st => St.cut [0, 1, 2, 3, 4] ⟨rfl, rfl, trivial⟩ (by decide) rfl st) ?_
   cases h376
   exact fun a w st => mid_intro (((3 : Int), z399, y392, (([] : B8), ([] : B8), (0 : Int), (0 : Int), (0 : Int), (0 : Int))) : TyE) h260 (St.cut [0, 1, 2, 4, 3] ⟨rfl, rfl, trivial⟩ (by decide) rfl st)
  replace h376 := ite_f b377 h376
  refine GL.seq ?_
  obtain ⟨y409, K410, h411, h412, h413, h414, h415⟩ := bindF_K h376
  refine GL.join (ι := Bool) (fun (p : Bool) => [(0, v0), (1, (sv x1)), (2, v2), (8, v7), (76, .bool p)]) (fun (p : Bool) => [obox 35 (TR.rec1 TR.raw) v0 u0a, obox 45 TrH u0a (x0.1, (x0.2.1, u0b)), obox 55 TrL u0b x0.2.2, imm (TR.sl TR.str) v2 x2, obox 59 TrE v7 (((0 : Int), (0 : Int), ([] : B8), (([] : B8), ([] : B8), (0 : Int), (0 : Int), (0 : Int), (0 : Int))) : TyE), keep X]) (fun (p : Bool) => K410 (.nx p)) ?_ ?_
  ·skip
   refine GL.region ?_
   refine RL.mv rfl rfl rfl ?_
   refine RL.binS (v := .bool (x1 == ([100, 114, 111, 112] : B8))) rfl rfl rfl rfl rfl ?_
   refine RL.mv rfl rfl rfl ?_
   refine RL.split (t := 79) rfl (fun b416 => ?_) (fun b416 => ?_)
   ·replace h411 := ite_t b416 h411
    refine RL.mv rfl rfl rfl ?_
    refine RL.lenS 3 Tryz.underlying22 rfl rfl rfl rfl SlOf.imm ?_
    refine RL.binI (v := .bool (((x2).length : Int) == (2 : Int))) rfl rfl rfl rfl rfl ?_
    refine RL.pickT rfl rfl rfl rfl ?_
    refine RL.asg rfl rfl rfl ?_
    refine RL.fin ?_
    cases h411
    exact fun a w st => mid_intro (((x2).length : Int) == (2 : Int)) h412 (St.cut [0, 1, 2, 3, 4, 5] ⟨rfl, rfl, rfl, rfl, rfl, trivial⟩ (by decide) rfl st)
   replace h411 := ite_f b416 h411
   refine RL.skip rfl rfl ?_
   refine RL.skip rfl rfl ?_
   refine RL.skip rfl rfl ?_
   refine RL.pickF rfl rfl rfl rfl ?_
   refine RL.asg rfl rfl rfl ?_
   refine RL.fin ?_
   cases h411
   exact fun a w st => mid_intro false h412 (St.cut [0, 1, 2, 3, 4, 5] ⟨rfl, rfl, rfl, rfl, rfl, trivial⟩ (by decide) rfl st)
  rintro x408 h417
  have h418 := h413 _ h417
  try dsimp only at h418
  refine GL.weak (env' := [(0, v0), (1, (sv x1)), (2, v2), (8, v7), (76, .bool x408)]) (L' := [obox 35 (TR.rec1 TR.raw) v0 u0a, obox 45 TrH u0a (x0.1, (x0.2.1, u0b)), obox 55 TrL u0b x0.2.2, imm (TR.sl TR.str) v2 x2, obox 59 TrE v7 (((0 : Int), (0 : Int), ([] : B8), (([] : B8), ([] : B8), (0 : Int), (0 : Int), (0 : Int), (0 : Int))) : TyE), keep X]) ss ?_
  refine GL.cond rfl (fun b419 => ?_) (fun b419 => ?_)
  ·replace h418 := ite_t b419 h418
   refine GL.regionA rfl rfl ?_
   refine RA.mv 0 rfl (by kernel_rfl) rfl rfl rfl ?_
   obtain ⟨y434, e435, h418⟩ := bind_some h418
   refine RA.idxS (sz := 1) 3 Tryz.underlying22 Tryz_ln9 1 rfl (by kernel_rfl) rfl rfl rfl rfl rfl SlOf.imm (idx_some e435).1 (idx_some e435).2.1 ?_
   refine RA.mv 3 rfl (by kernel_rfl) rfl rfl rfl ?_
   obtain ⟨y436, e437, h418⟩ := bind_some h418
   refine RA.idxS (sz := 1) 3 Tryz.underlying22 Tryz_ln9 4 rfl (by kernel_rfl) rfl rfl rfl rfl rfl SlOf.imm (idx_some e437).1 (idx_some e437).2.1 ?_
   obtain ⟨y438, e439, h418⟩ := bind_some h418
   rcases y438 with x440 | z441
   ·replace h418 := thr_e h418
    refine RA.many [2, 5] (by kernel_rfl) ⟨⟨_, rfl, ?_⟩, ⟨_, rfl, ?_⟩, trivial⟩
    ·skip
     refine RL.ldSx (i := ((0 : Int)).toNat) (e' := y434) 3 Ex.str Tryz_ln9 rfl rfl rfl rfl SlOf.imm (idx_some e435).2.2 Part.self ?_
     refine RL.fin ?_
     refine RA.next ?_
     refine RA.seq 5 rfl (by kernel_rfl) ?_
     refine RL.ldSx (i := ((1 : Int)).toNat) (e' := y436) 3 Ex.str Tryz_ln9 rfl rfl rfl rfl SlOf.imm (idx_some e437).2.2 Part.self ?_
     refine RL.fin ?_
     refine RA.next ?_
     refine RA.seq 6 rfl (by kernel_rfl) ?_
     refine RL.callE (T := 48) (n := x440) (vs := [(sv y436)]) Tryz_fit26 rfl rfl rfl rfl (fun U w hU hW hL => desk_number_c U w hU y436 _ e439) ?_
     cases h418
     have hh := h262 _ h260
     subst hh
     first | exact fun a w st => And.intro st.defers (thrP_err ((st.pick [0, 1, 2, 5] (by decide) rfl).toPostMX (E := fun (_ : Unit) => .panicked (refuse 48 x440)) (LR := fun (o : Unit) => [obox 35 (TR.rec1 TR.raw) v0 u0a, obox 45 TrH u0a (x0.1, (x0.2.1, u0b)), obox 55 TrL u0b x0.2.2, keep X]) ())) | exact fun a w st _ _ => And.intro st.defers (thrP_err ((st.pick [0, 1, 2, 5] (by decide) rfl).toPostMX (E := fun (_ : Unit) => .panicked (refuse 48 x440)) (LR := fun (o : Unit) => [obox 35 (TR.rec1 TR.raw) v0 u0a, obox 45 TrH u0a (x0.1, (x0.2.1, u0b)), obox 55 TrL u0b x0.2.2, keep X]) ()))
    refine RL.ldSx (i := ((1 : Int)).toNat) (e' := y436) 3 Ex.str Tryz_ln9 rfl rfl rfl rfl SlOf.imm (idx_some e437).2.2 Part.self ?_
    refine RL.fin ?_
    refine RA.next ?_
    refine RA.many [2, 6] (by kernel_rfl) ⟨⟨_, rfl, ?_⟩, ⟨_, rfl, ?_⟩, trivial⟩
    ·skip
     refine RL.ldSx (i := ((0 : Int)).toNat) (e' := y434) 3 Ex.str Tryz_ln9 rfl rfl rfl rfl SlOf.imm (idx_some e435).2.2 Part.self ?_
     refine RL.fin ?_
     refine RA.next ?_
     refine RA.seq 6 rfl (by kernel_rfl) ?_
     refine RL.callE (T := 48) (n := x440) (vs := [(sv y436)]) Tryz_fit26 rfl rfl rfl rfl (fun U w hU hW hL => desk_number_c U w hU y436 _ e439) ?_
     cases h418
     have hh := h262 _ h260
     subst hh
     first | exact fun a w st => And.intro st.defers (thrP_err ((st.pick [0, 1, 2, 5] (by decide) rfl).toPostMX (E := fun (_ : Unit) => .panicked (refuse 48 x440)) (LR := fun (o : Unit) => [obox 35 (TR.rec1 TR.raw) v0 u0a, obox 45 TrH u0a (x0.1, (x0.2.1, u0b)), obox 55 TrL u0b x0.2.2, keep X]) ())) | exact fun a w st _ _ => And.intro st.defers (thrP_err ((st.pick [0, 1, 2, 5] (by decide) rfl).toPostMX (E := fun (_ : Unit) => .panicked (refuse 48 x440)) (LR := fun (o : Unit) => [obox 35 (TR.rec1 TR.raw) v0 u0a, obox 45 TrH u0a (x0.1, (x0.2.1, u0b)), obox 55 TrL u0b x0.2.2, keep X]) ()))
    refine RL.callE (T := 48) (n := x440) (vs := [(sv y436)]) Tryz_fit26 rfl rfl rfl rfl (fun U w hU hW hL => desk_number_c U w hU y436 _ e439) ?_
    cases h418
    have hh := h262 _ h260
    subst hh
    first | exact fun a w st => And.intro st.defers (thrP_err ((st.pick [0, 1, 2, 5] (by decide) rfl).toPostMX (E := fun (_ : Unit) => .panicked (refuse 48 x440)) (LR := fun (o : Unit) => [obox 35 (TR.rec1 TR.raw) v0 u0a, obox 45 TrH u0a (x0.1, (x0.2.1, u0b)), obox 55 TrL u0b x0.2.2, keep X]) ())) | exact fun a w st _ _ => And.intro st.defers (thrP_err ((st.pick [0, 1, 2, 5] (by decide) rfl).toPostMX (E := fun (_ : Unit) => .panicked (refuse 48 x440)) (LR := fun (o : Unit) => [obox 35 (TR.rec1 TR.raw) v0 u0a, obox 45 TrH u0a (x0.1, (x0.2.1, u0b)), obox 55 TrL u0b x0.2.2, keep X]) ()))
   replace h418 := thr_o h418
   refine RA.meet (ι := Unit) (fun (p : Unit) => [(0, v0), (8, v7), (86, (sv y434)), (90, .int .i64 z441)]) (fun (p : Unit) => [obox 35 (TR.rec1 TR.raw) v0 u0a, obox 45 TrH u0a (x0.1, (x0.2.1, u0b)), obox 55 TrL u0b x0.2.2, keep X, obox 59 TrE v7 (((0 : Int), (0 : Int), ([] : B8), (([] : B8), ([] : B8), (0 : Int), (0 : Int), (0 : Int), (0 : Int))) : TyE)]) 2 q_98 (fun h442 => ?_) ?_
   ·skip
    refine RA.meet (ι := Unit) (fun (p : Unit) => [(0, v0), (8, v7), (86, (sv y434)), (89, (sv y436))]) (fun (p : Unit) => [obox 35 (TR.rec1 TR.raw) v0 u0a, obox 45 TrH u0a (x0.1, (x0.2.1, u0b)), obox 55 TrL u0b x0.2.2, keep X, obox 59 TrE v7 (((0 : Int), (0 : Int), ([] : B8), (([] : B8), ([] : B8), (0 : Int), (0 : Int), (0 : Int), (0 : Int))) : TyE)]) 3 q_99 (fun h443 => ?_) ?_
    rotate_left
    ·rintro ⟨⟩
     refine RA.weak (env' := [(0, v0), (8, v7), (86, (sv y434)), (89, (sv y436))]) (L' := [obox 35 (TR.rec1 TR.raw) v0 u0a, obox 45 TrH u0a (x0.1, (x0.2.1, u0b)), obox 55 TrL u0b x0.2.2, keep X, obox 59 TrE v7 (((0 : Int), (0 : Int), ([] : B8), (([] : B8), ([] : B8), (0 : Int), (0 : Int), (0 : Int), (0 : Int))) : TyE)]) ss ?_
     refine RA.seq 6 rfl (by kernel_rfl) ?_
     refine RL.callV (v := .int .i64 z441) (vs := [(sv y436)]) Tryz_fit26 rfl (Or.inl rfl) rfl rfl rfl rfl (fun U w hU hW hL => desk_number_c U w hU y436 _ e439) ?_
     refine RL.fin ?_
     refine RA.next ?_
     refine RA.relist 2 q_98 rfl (by kernel_rfl) ?_
     exact fun a w st => h442 () a w (St.cut [0, 1, 2, 3, 4] ⟨rfl, rfl, rfl, rfl, trivial⟩ (by decide) rfl st)
    refine RA.meet (ι := Unit) (fun (p : Unit) => [(0, v0), (8, v7), (85, adr v2 (((0 : Int)).toNat * 1)), (90, .int .i64 z441)]) (fun (p : Unit) => [obox 35 (TR.rec1 TR.raw) v0 u0a, obox 45 TrH u0a (x0.1, (x0.2.1, u0b)), obox 55 TrL u0b x0.2.2, keep X, obox 59 TrE v7 (((0 : Int), (0 : Int), ([] : B8), (([] : B8), ([] : B8), (0 : Int), (0 : Int), (0 : Int), (0 : Int))) : TyE), imm (TR.sl TR.str) v2 x2]) 3 q_100 (fun h444 => ?_) ?_
    rotate_left
    ·rintro ⟨⟩
     refine RA.weak (env' := [(0, v0), (8, v7), (85, adr v2 (((0 : Int)).toNat * 1)), (90, .int .i64 z441)]) (L' := [obox 35 (TR.rec1 TR.raw) v0 u0a, obox 45 TrH u0a (x0.1, (x0.2.1, u0b)), obox 55 TrL u0b x0.2.2, keep X, obox 59 TrE v7 (((0 : Int), (0 : Int), ([] : B8), (([] : B8), ([] : B8), (0 : Int), (0 : Int), (0 : Int), (0 : Int))) : TyE), imm (TR.sl TR.str) v2 x2]) ss ?_
     refine RA.seq 2 rfl (by kernel_rfl) ?_
     refine RL.ldSx (i := ((0 : Int)).toNat) (e' := y434) 5 Ex.str Tryz_ln9 rfl rfl rfl rfl SlOf.imm (idx_some e435).2.2 Part.self ?_
     refine RL.fin ?_
     refine RA.next ?_
     refine RA.relist 2 q_98 rfl (by kernel_rfl) ?_
     exact fun a w st => h442 () a w (St.cut [0, 1, 2, 3, 4] ⟨rfl, rfl, rfl, rfl, trivial⟩ (by decide) rfl st)
    refine RA.meet (ι := Unit) (fun (p : Unit) => [(0, v0), (8, v7), (86, (sv y434)), (88, adr v2 (((1 : Int)).toNat * 1))]) (fun (p : Unit) => [obox 35 (TR.rec1 TR.raw) v0 u0a, obox 45 TrH u0a (x0.1, (x0.2.1, u0b)), obox 55 TrL u0b x0.2.2, keep X, obox 59 TrE v7 (((0 : Int), (0 : Int), ([] : B8), (([] : B8), ([] : B8), (0 : Int), (0 : Int), (0 : Int), (0 : Int))) : TyE), imm (TR.sl TR.str) v2 x2]) 4 q_101 (fun h445 => ?_) ?_
    rotate_left
    ·rintro ⟨⟩
     refine RA.weak (env' := [(0, v0), (8, v7), (86, (sv y434)), (88, adr v2 (((1 : Int)).toNat * 1))]) (L' := [obox 35 (TR.rec1 TR.raw) v0 u0a, obox 45 TrH u0a (x0.1, (x0.2.1, u0b)), obox 55 TrL u0b x0.2.2, keep X, obox 59 TrE v7 (((0 : Int), (0 : Int), ([] : B8), (([] : B8), ([] : B8), (0 : Int), (0 : Int), (0 : Int), (0 : Int))) : TyE), imm (TR.sl TR.str) v2 x2]) ss ?_
     refine RA.seq 5 rfl (by kernel_rfl) ?_
     refine RL.ldSx (i := ((1 : Int)).toNat) (e' := y436) 5 Ex.str Tryz_ln9 rfl rfl rfl rfl SlOf.imm (idx_some e437).2.2 Part.self ?_
     refine RL.fin ?_
     refine RA.next ?_
     refine RA.relist 3 q_99 rfl (by kernel_rfl) ?_
     exact fun a w st => h443 () a w (St.cut [0, 1, 2, 3, 4] ⟨rfl, rfl, rfl, rfl, trivial⟩ (by decide) rfl st)
    refine RA.meet (ι := Unit) (fun (p : Unit) => [(0, v0), (8, v7), (85, adr v2 (((0 : Int)).toNat * 1)), (89, (sv y436))]) (fun (p : Unit) => [obox 35 (TR.rec1 TR.raw) v0 u0a, obox 45 TrH u0a (x0.1, (x0.2.1, u0b)), obox 55 TrL u0b x0.2.2, keep X, obox 59 TrE v7 (((0 : Int), (0 : Int), ([] : B8), (([] : B8), ([] : B8), (0 : Int), (0 : Int), (0 : Int), (0 : Int))) : TyE), imm (TR.sl TR.str) v2 x2]) 4 q_102 (fun h446 => ?_) ?_
    rotate_left
    ·rintro ⟨⟩
     refine RA.weak (env' := [(0, v0), (8, v7), (85, adr v2 (((0 : Int)).toNat * 1)), (89, (sv y436))]) (L' := [obox 35 (TR.rec1 TR.raw) v0 u0a, obox 45 TrH u0a (x0.1, (x0.2.1, u0b)), obox 55 TrL u0b x0.2.2, keep X, obox 59 TrE v7 (((0 : Int), (0 : Int), ([] : B8), (([] : B8), ([] : B8), (0 : Int), (0 : Int), (0 : Int), (0 : Int))) : TyE), imm (TR.sl TR.str) v2 x2]) ss ?_
     refine RA.many [2, 6] (by kernel_rfl) ⟨⟨_, rfl, ?_⟩, ⟨_, rfl, ?_⟩, trivial⟩
     ·skip
      refine RL.ldSx (i := ((0 : Int)).toNat) (e' := y434) 5 Ex.str Tryz_ln9 rfl rfl rfl rfl SlOf.imm (idx_some e435).2.2 Part.self ?_
      refine RL.fin ?_
      refine RA.next ?_
      refine RA.relist 3 q_99 rfl (by kernel_rfl) ?_
      exact fun a w st => h443 () a w (St.cut [0, 1, 2, 3, 4] ⟨rfl, rfl, rfl, rfl, trivial⟩ (by decide) rfl st)
     refine RL.callV (v := .int .i64 z441) (vs := [(sv y436)]) Tryz_fit26 rfl (Or.inl rfl) rfl rfl rfl rfl (fun U w hU hW hL => desk_number_c U w hU y436 _ e439) ?_
     refine RL.fin ?_
     refine RA.next ?_
     refine RA.relist 3 q_100 rfl (by kernel_rfl) ?_
     exact fun a w st => h444 () a w (St.cut [0, 1, 2, 3, 4, 5] ⟨rfl, rfl, rfl, rfl, trivial⟩ (by decide) rfl st)
    refine RA.many [2, 5] (by kernel_rfl) ⟨⟨_, rfl, ?_⟩, ⟨_, rfl, ?_⟩, trivial⟩
    ·skip
     refine RL.ldSx (i := ((0 : Int)).toNat) (e' := y434) 3 Ex.str Tryz_ln9 rfl rfl rfl rfl SlOf.imm (idx_some e435).2.2 Part.self ?_
     refine RL.fin ?_
     refine RA.next ?_
     refine RA.relist 4 q_101 rfl (by kernel_rfl) ?_
     exact fun a w st => h445 () a w (St.cut [0, 1, 2, 5, 4, 3] ⟨rfl, rfl, rfl, rfl, trivial⟩ (by decide) rfl st)
    refine RL.ldSx (i := ((1 : Int)).toNat) (e' := y436) 3 Ex.str Tryz_ln9 rfl rfl rfl rfl SlOf.imm (idx_some e437).2.2 Part.self ?_
    refine RL.fin ?_
    refine RA.next ?_
    refine RA.relist 4 q_102 rfl (by kernel_rfl) ?_
    exact fun a w st => h446 () a w (St.cut [0, 1, 2, 5, 4, 3] ⟨rfl, rfl, rfl, rfl, trivial⟩ (by decide) rfl st)
   rintro ⟨⟩
   refine RA.weak (env' := [(0, v0), (8, v7), (86, (sv y434)), (90, .int .i64 z441)]) (L' := [obox 35 (TR.rec1 TR.raw) v0 u0a, obox 45 TrH u0a (x0.1, (x0.2.1, u0b)), obox 55 TrL u0b x0.2.2, keep X, obox 59 TrE v7 (((0 : Int), (0 : Int), ([] : B8), (([] : B8), ([] : B8), (0 : Int), (0 : Int), (0 : Int), (0 : Int))) : TyE)]) ss ?_
   refine RA.seq 7 rfl (by kernel_rfl) ?_
   refine RL.bld (t := TrE) (d0 := (((7 : Int), z441, y434, (([] : B8), ([] : B8), (0 : Int), (0 : Int), (0 : Int), (0 : Int))) : TyE)) (pv := [(0, .int .i64 (7 : Int)), (2, (sv y434)), (1, .int .i64 z441)]) rfl Tryz_bld59 rfl rfl rfl ⟨⟨_, _, TR.int, (7 : Int), rfl, rfl, VR.int⟩, ⟨⟨_, _, TR.str, y434, rfl, rfl, VR.str⟩, ⟨⟨_, _, TR.int, z441, rfl, rfl, VR.int⟩, trivial⟩⟩⟩ (fun S f hi => by
     obtain ⟨c0, e0, r0⟩ := cells_vrep (t := TR.int) (u := .int .i64 (7 : Int)) (e := (7 : Int)) (VR.int S f hi)
     obtain ⟨c1, e1, r1⟩ := cells_vrep (t := TR.int) (u := .int .i64 z441) (e := z441) (VR.int S f hi)
     obtain ⟨c2, e2, r2⟩ := cells_vrep (t := TR.str) (u := (sv y434)) (e := y434) (VR.str S f hi)
     show TR.rep TrE S (List.flatten [(.int .i64 (7 : Int) : Value).cells.toList, (.int .i64 z441 : Value).cells.toList, ((sv y434) : Value).cells.toList, [.string ⟨#[]⟩, .string ⟨#[]⟩, .int .i64 0, .int .i64 0, .int .i64 0, .int .i64 0]]) _
     simp only [e0, e1, e2,  List.flatten_cons, List.flatten_nil, List.append_nil]
     exact ⟨_, _, rfl, r0, ⟨_, _, rfl, r1, ⟨_, _, rfl, r2, ⟨[.string ⟨#[]⟩], _, rfl, rfl, ⟨[.string ⟨#[]⟩], _, rfl, rfl, ⟨[.int .i64 0], _, rfl, rfl, ⟨[.int .i64 0], _, rfl, rfl, ⟨[.int .i64 0], _, rfl, rfl, rfl⟩⟩⟩⟩⟩⟩⟩⟩) ?_
   intro v447
   refine RL.fin ?_
   refine RA.next ?_
   refine RA.seq 8 rfl (by kernel_rfl) ?_
   refine RL.stP (off := 0) (e' := (((7 : Int), z441, y434, (([] : B8), ([] : B8), (0 : Int), (0 : Int), (0 : Int), (0 : Int))) : TyE)) (d1 := (((7 : Int), z441, y434, (([] : B8), ([] : B8), (0 : Int), (0 : Int), (0 : Int), (0 : Int))) : TyE)) (r := TrE) 4 Tryz_ln59 rfl rfl (Or.inr ⟨rfl, rfl⟩) rfl (VR.item 5 rfl) rfl Upd.self ?_
   refine RL.fin ?_
   refine RA.next ?_
   refine RA.doneG (by kernel_rfl) ?_
   refine GL.weak (env' := [(0, v0), (8, v7)]) (L' := [obox 35 (TR.rec1 TR.raw) v0 u0a, obox 45 TrH u0a (x0.1, (x0.2.1, u0b)), obox 55 TrL u0b x0.2.2, keep X, obox 59 TrE v7 (((7 : Int), z441, y434, (([] : B8), ([] : B8), (0 : Int), (0 : Int), (0 : Int), (0 : Int))) : TyE)]) (fun a w st => St.cut [0, 1, 2, 3, 4] ⟨rfl, rfl, trivial⟩ (by decide) rfl st) ?_
   cases h418
   exact fun a w st => mid_intro (((7 : Int), z441, y434, (([] : B8), ([] : B8), (0 : Int), (0 : Int), (0 : Int), (0 : Int))) : TyE) h260 (St.cut [0, 1, 2, 4, 3] ⟨rfl, rfl, trivial⟩ (by decide) rfl st)
  replace h418 := ite_f b419 h418
  refine GL.seq ?_
  obtain ⟨y451, K452, h453, h454, h455, h456, h457⟩ := bindF_K h418
  refine GL.join (ι := Bool) (fun (p : Bool) => [(0, v0), (1, (sv x1)), (2, v2), (8, v7), (92, .bool p)]) (fun (p : Bool) => [obox 35 (TR.rec1 TR.raw) v0 u0a, obox 45 TrH u0a (x0.1, (x0.2.1, u0b)), obox 55 TrL u0b x0.2.2, imm (TR.sl TR.str) v2 x2, obox 59 TrE v7 (((0 : Int), (0 : Int), ([] : B8), (([] : B8), ([] : B8), (0 : Int), (0 : Int), (0 : Int), (0 : Int))) : TyE), keep X]) (fun (p : Bool) => K452 (.nx p)) ?_ ?_
  ·skip
   refine GL.region ?_
   refine RL.mv rfl rfl rfl ?_
   refine RL.binS (v := .bool (x1 == ([109, 111, 110, 101, 121] : B8))) rfl rfl rfl rfl rfl ?_
   refine RL.mv rfl rfl rfl ?_
   refine RL.split (t := 95) rfl (fun b458 => ?_) (fun b458 => ?_)
   ·replace h453 := ite_t b458 h453
    refine RL.mv rfl rfl rfl ?_
    refine RL.lenS 3 Tryz.underlying22 rfl rfl rfl rfl SlOf.imm ?_
    refine RL.binI (v := .bool (((x2).length : Int) == (1 : Int))) rfl rfl rfl rfl rfl ?_
    refine RL.pickT rfl rfl rfl rfl ?_
    refine RL.asg rfl rfl rfl ?_
    refine RL.fin ?_
    cases h453
    exact fun a w st => mid_intro (((x2).length : Int) == (1 : Int)) h454 (St.cut [0, 1, 2, 3, 4, 5] ⟨rfl, rfl, rfl, rfl, rfl, trivial⟩ (by decide) rfl st)
   replace h453 := ite_f b458 h453
   refine RL.skip rfl rfl ?_
   refine RL.skip rfl rfl ?_
   refine RL.skip rfl rfl ?_
   refine RL.pickF rfl rfl rfl rfl ?_
   refine RL.asg rfl rfl rfl ?_
   refine RL.fin ?_
   cases h453
   exact fun a w st => mid_intro false h454 (St.cut [0, 1, 2, 3, 4, 5] ⟨rfl, rfl, rfl, rfl, rfl, trivial⟩ (by decide) rfl st)
  rintro x450 h459
  have h460 := h455 _ h459
  try dsimp only at h460
  refine GL.weak (env' := [(0, v0), (1, (sv x1)), (2, v2), (8, v7), (92, .bool x450)]) (L' := [obox 35 (TR.rec1 TR.raw) v0 u0a, obox 45 TrH u0a (x0.1, (x0.2.1, u0b)), obox 55 TrL u0b x0.2.2, imm (TR.sl TR.str) v2 x2, obox 59 TrE v7 (((0 : Int), (0 : Int), ([] : B8), (([] : B8), ([] : B8), (0 : Int), (0 : Int), (0 : Int), (0 : Int))) : TyE), keep X]) ss ?_
  refine GL.cond rfl (fun b461 => ?_) (fun b461 => ?_)
  ·replace h460 := ite_t b461 h460
   refine GL.region ?_
   refine RL.mv rfl rfl rfl ?_
   obtain ⟨y465, e466, h460⟩ := bind_some h460
   refine RL.idxS (sz := 1) 3 Tryz.underlying22 Tryz_ln9 rfl rfl rfl rfl rfl SlOf.imm (idx_some e466).1 (idx_some e466).2.1 ?_
   refine RL.ldSx (i := ((0 : Int)).toNat) (e' := y465) 3 Ex.str Tryz_ln9 rfl rfl rfl rfl SlOf.imm (idx_some e466).2.2 Part.self ?_
   refine RL.bld (t := TrE) (d0 := (((6 : Int), (0 : Int), y465, (([] : B8), ([] : B8), (0 : Int), (0 : Int), (0 : Int), (0 : Int))) : TyE)) (pv := [(0, .int .i64 (6 : Int)), (2, (sv y465))]) rfl Tryz_bld59 rfl rfl rfl ⟨⟨_, _, TR.int, (6 : Int), rfl, rfl, VR.int⟩, ⟨⟨_, _, TR.str, y465, rfl, rfl, VR.str⟩, trivial⟩⟩ (fun S f hi => by
     obtain ⟨c0, e0, r0⟩ := cells_vrep (t := TR.int) (u := .int .i64 (6 : Int)) (e := (6 : Int)) (VR.int S f hi)
     obtain ⟨c2, e2, r2⟩ := cells_vrep (t := TR.str) (u := (sv y465)) (e := y465) (VR.str S f hi)
     show TR.rep TrE S (List.flatten [(.int .i64 (6 : Int) : Value).cells.toList, [.int .i64 0], ((sv y465) : Value).cells.toList, [.string ⟨#[]⟩, .string ⟨#[]⟩, .int .i64 0, .int .i64 0, .int .i64 0, .int .i64 0]]) _
     simp only [e0, e2,  List.flatten_cons, List.flatten_nil, List.append_nil]
     exact ⟨_, _, rfl, r0, ⟨_, _, rfl, rfl, ⟨_, _, rfl, r2, ⟨[.string ⟨#[]⟩], _, rfl, rfl, ⟨[.string ⟨#[]⟩], _, rfl, rfl, ⟨[.int .i64 0], _, rfl, rfl, ⟨[.int .i64 0], _, rfl, rfl, ⟨[.int .i64 0], _, rfl, rfl, rfl⟩⟩⟩⟩⟩⟩⟩⟩) ?_
   intro v467
   refine RL.stP (off := 0) (e' := (((6 : Int), (0 : Int), y465, (([] : B8), ([] : B8), (0 : Int), (0 : Int), (0 : Int), (0 : Int))) : TyE)) (d1 := (((6 : Int), (0 : Int), y465, (([] : B8), ([] : B8), (0 : Int), (0 : Int), (0 : Int), (0 : Int))) : TyE)) (r := TrE) 4 Tryz_ln59 rfl rfl (Or.inr ⟨rfl, rfl⟩) rfl (VR.item 6 rfl) rfl Upd.self ?_
   refine RL.reL (L' := [obox 35 (TR.rec1 TR.raw) v0 u0a, obox 45 TrH u0a (x0.1, (x0.2.1, u0b)), obox 55 TrL u0b x0.2.2, imm (TR.sl TR.str) v2 x2, obox 59 TrE v7 (((6 : Int), (0 : Int), y465, (([] : B8), ([] : B8), (0 : Int), (0 : Int), (0 : Int), (0 : Int))) : TyE), keep X, imm TrE v467 (((6 : Int), (0 : Int), y465, (([] : B8), ([] : B8), (0 : Int), (0 : Int), (0 : Int), (0 : Int))) : TyE)]) rfl ?_
   refine RL.finG ?_
   cases h460
   exact fun a w st => mid_intro (((6 : Int), (0 : Int), y465, (([] : B8), ([] : B8), (0 : Int), (0 : Int), (0 : Int), (0 : Int))) : TyE) h260 (St.cut [0, 1, 2, 4, 5] ⟨rfl, rfl, trivial⟩ (by decide) rfl st)
  replace h460 := ite_f b461 h460
  refine GL.seq ?_
  obtain ⟨y471, K472, h473, h474, h475, h476, h477⟩ := bindF_K h460
  refine GL.join (ι := Bool) (fun (p : Bool) => [(0, v0), (1, (sv x1)), (2, v2), (8, v7), (104, .bool p)]) (fun (p : Bool) => [obox 35 (TR.rec1 TR.raw) v0 u0a, obox 45 TrH u0a (x0.1, (x0.2.1, u0b)), obox 55 TrL u0b x0.2.2, imm (TR.sl TR.str) v2 x2, obox 59 TrE v7 (((0 : Int), (0 : Int), ([] : B8), (([] : B8), ([] : B8), (0 : Int), (0 : Int), (0 : Int), (0 : Int))) : TyE), keep X]) (fun (p : Bool) => K472 (.nx p)) ?_ ?_
  ·skip
   refine GL.region ?_
   refine RL.mv rfl rfl rfl ?_
   refine RL.binS (v := .bool (x1 == ([115, 121, 110, 99] : B8))) rfl rfl rfl rfl rfl ?_
   refine RL.mv rfl rfl rfl ?_
   refine RL.split (t := 107) rfl (fun b478 => ?_) (fun b478 => ?_)
   ·replace h473 := ite_t b478 h473
    refine RL.mv rfl rfl rfl ?_
    refine RL.lenS 3 Tryz.underlying22 rfl rfl rfl rfl SlOf.imm ?_
    refine RL.binI (v := .bool (((x2).length : Int) == (0 : Int))) rfl rfl rfl rfl rfl ?_
    refine RL.pickT rfl rfl rfl rfl ?_
    refine RL.asg rfl rfl rfl ?_
    refine RL.fin ?_
    cases h473
    exact fun a w st => mid_intro (((x2).length : Int) == (0 : Int)) h474 (St.cut [0, 1, 2, 3, 4, 5] ⟨rfl, rfl, rfl, rfl, rfl, trivial⟩ (by decide) rfl st)
   replace h473 := ite_f b478 h473
   refine RL.skip rfl rfl ?_
   refine RL.skip rfl rfl ?_
   refine RL.skip rfl rfl ?_
   refine RL.pickF rfl rfl rfl rfl ?_
   refine RL.asg rfl rfl rfl ?_
   refine RL.fin ?_
   cases h473
   exact fun a w st => mid_intro false h474 (St.cut [0, 1, 2, 3, 4, 5] ⟨rfl, rfl, rfl, rfl, rfl, trivial⟩ (by decide) rfl st)
  rintro x470 h479
  have h480 := h475 _ h479
  try dsimp only at h480
  refine GL.weak (env' := [(0, v0), (1, (sv x1)), (2, v2), (8, v7), (104, .bool x470)]) (L' := [obox 35 (TR.rec1 TR.raw) v0 u0a, obox 45 TrH u0a (x0.1, (x0.2.1, u0b)), obox 55 TrL u0b x0.2.2, imm (TR.sl TR.str) v2 x2, obox 59 TrE v7 (((0 : Int), (0 : Int), ([] : B8), (([] : B8), ([] : B8), (0 : Int), (0 : Int), (0 : Int), (0 : Int))) : TyE), keep X]) ss ?_
  refine GL.cond rfl (fun b481 => ?_) (fun b481 => ?_)
  ·replace h480 := ite_t b481 h480
   refine GL.region ?_
   refine RL.bld (t := TrE) (d0 := (((4 : Int), (0 : Int), ([] : B8), (([] : B8), ([] : B8), (0 : Int), (0 : Int), (0 : Int), (0 : Int))) : TyE)) (pv := [(0, .int .i64 (4 : Int))]) rfl Tryz_bld59 rfl rfl rfl ⟨⟨_, _, TR.int, (4 : Int), rfl, rfl, VR.int⟩, trivial⟩ (fun S f hi => by
     obtain ⟨c0, e0, r0⟩ := cells_vrep (t := TR.int) (u := .int .i64 (4 : Int)) (e := (4 : Int)) (VR.int S f hi)
     show TR.rep TrE S (List.flatten [(.int .i64 (4 : Int) : Value).cells.toList, [.int .i64 0], [.string ⟨#[]⟩], [.string ⟨#[]⟩, .string ⟨#[]⟩, .int .i64 0, .int .i64 0, .int .i64 0, .int .i64 0]]) _
     simp only [e0,  List.flatten_cons, List.flatten_nil, List.append_nil]
     exact ⟨_, _, rfl, r0, ⟨_, _, rfl, rfl, ⟨_, _, rfl, rfl, ⟨[.string ⟨#[]⟩], _, rfl, rfl, ⟨[.string ⟨#[]⟩], _, rfl, rfl, ⟨[.int .i64 0], _, rfl, rfl, ⟨[.int .i64 0], _, rfl, rfl, ⟨[.int .i64 0], _, rfl, rfl, rfl⟩⟩⟩⟩⟩⟩⟩⟩) ?_
   intro v483
   refine RL.stP (off := 0) (e' := (((4 : Int), (0 : Int), ([] : B8), (([] : B8), ([] : B8), (0 : Int), (0 : Int), (0 : Int), (0 : Int))) : TyE)) (d1 := (((4 : Int), (0 : Int), ([] : B8), (([] : B8), ([] : B8), (0 : Int), (0 : Int), (0 : Int), (0 : Int))) : TyE)) (r := TrE) 4 Tryz_ln59 rfl rfl (Or.inr ⟨rfl, rfl⟩) rfl (VR.item 6 rfl) rfl Upd.self ?_
   refine RL.reL (L' := [obox 35 (TR.rec1 TR.raw) v0 u0a, obox 45 TrH u0a (x0.1, (x0.2.1, u0b)), obox 55 TrL u0b x0.2.2, imm (TR.sl TR.str) v2 x2, obox 59 TrE v7 (((4 : Int), (0 : Int), ([] : B8), (([] : B8), ([] : B8), (0 : Int), (0 : Int), (0 : Int), (0 : Int))) : TyE), keep X, imm TrE v483 (((4 : Int), (0 : Int), ([] : B8), (([] : B8), ([] : B8), (0 : Int), (0 : Int), (0 : Int), (0 : Int))) : TyE)]) rfl ?_
   refine RL.finG ?_
   cases h480
   exact fun a w st => mid_intro (((4 : Int), (0 : Int), ([] : B8), (([] : B8), ([] : B8), (0 : Int), (0 : Int), (0 : Int), (0 : Int))) : TyE) h260 (St.cut [0, 1, 2, 4, 5] ⟨rfl, rfl, trivial⟩ (by decide) rfl st)
  replace h480 := ite_f b481 h480
  refine GL.seq ?_
  obtain ⟨y487, K488, h489, h490, h491, h492, h493⟩ := bindF_K h480
  refine GL.join (ι := Bool) (fun (p : Bool) => [(0, v0), (2, v2), (8, v7), (113, .bool p)]) (fun (p : Bool) => [obox 35 (TR.rec1 TR.raw) v0 u0a, obox 45 TrH u0a (x0.1, (x0.2.1, u0b)), obox 55 TrL u0b x0.2.2, imm (TR.sl TR.str) v2 x2, obox 59 TrE v7 (((0 : Int), (0 : Int), ([] : B8), (([] : B8), ([] : B8), (0 : Int), (0 : Int), (0 : Int), (0 : Int))) : TyE), keep X]) (fun (p : Bool) => K488 (.nx p)) ?_ ?_
  ·skip
   refine GL.region ?_
   refine RL.mv rfl rfl rfl ?_
   refine RL.binS (v := .bool (x1 == ([99, 114, 97, 115, 104] : B8))) rfl rfl rfl rfl rfl ?_
   refine RL.mv rfl rfl rfl ?_
   refine RL.split (t := 116) rfl (fun b494 => ?_) (fun b494 => ?_)
   ·replace h489 := ite_t b494 h489
    refine RL.mv rfl rfl rfl ?_
    refine RL.lenS 3 Tryz.underlying22 rfl rfl rfl rfl SlOf.imm ?_
    refine RL.binI (v := .bool (((x2).length : Int) == (1 : Int))) rfl rfl rfl rfl rfl ?_
    refine RL.pickT rfl rfl rfl rfl ?_
    refine RL.asg rfl rfl rfl ?_
    refine RL.fin ?_
    cases h489
    exact fun a w st => mid_intro (((x2).length : Int) == (1 : Int)) h490 (St.cut [0, 1, 2, 3, 4, 5] ⟨rfl, rfl, rfl, rfl, trivial⟩ (by decide) rfl st)
   replace h489 := ite_f b494 h489
   refine RL.skip rfl rfl ?_
   refine RL.skip rfl rfl ?_
   refine RL.skip rfl rfl ?_
   refine RL.pickF rfl rfl rfl rfl ?_
   refine RL.asg rfl rfl rfl ?_
   refine RL.fin ?_
   cases h489
   exact fun a w st => mid_intro false h490 (St.cut [0, 1, 2, 3, 4, 5] ⟨rfl, rfl, rfl, rfl, trivial⟩ (by decide) rfl st)
  rintro x486 h495
  have h496 := h491 _ h495
  try dsimp only at h496
  refine GL.weak (env' := [(0, v0), (2, v2), (8, v7), (113, .bool x486)]) (L' := [obox 35 (TR.rec1 TR.raw) v0 u0a, obox 45 TrH u0a (x0.1, (x0.2.1, u0b)), obox 55 TrL u0b x0.2.2, imm (TR.sl TR.str) v2 x2, obox 59 TrE v7 (((0 : Int), (0 : Int), ([] : B8), (([] : B8), ([] : B8), (0 : Int), (0 : Int), (0 : Int), (0 : Int))) : TyE), keep X]) ss ?_
  refine GL.cond rfl (fun b497 => ?_) (fun b497 => ?_)
  ·replace h496 := ite_t b497 h496
   refine GL.region ?_
   refine RL.mv rfl rfl rfl ?_
   obtain ⟨y505, e506, h496⟩ := bind_some h496
   refine RL.idxS (sz := 1) 3 Tryz.underlying22 Tryz_ln9 rfl rfl rfl rfl rfl SlOf.imm (idx_some e506).1 (idx_some e506).2.1 ?_
   refine RL.ldSx (i := ((0 : Int)).toNat) (e' := y505) 3 Ex.str Tryz_ln9 rfl rfl rfl rfl SlOf.imm (idx_some e506).2.2 Part.self ?_
   obtain ⟨y507, e508, h496⟩ := bind_some h496
   rcases y507 with x509 | z510
   ·replace h496 := thr_e h496
    refine RL.callE (T := 48) (n := x509) (vs := [(sv y505)]) Tryz_fit26 rfl rfl rfl rfl (fun U w hU hW hL => desk_number_c U w hU y505 _ e508) ?_
    cases h496
    have hh := h262 _ h260
    subst hh
    first | exact fun a w st => And.intro st.defers (thrP_err ((st.pick [0, 1, 2, 5] (by decide) rfl).toPostMX (E := fun (_ : Unit) => .panicked (refuse 48 x509)) (LR := fun (o : Unit) => [obox 35 (TR.rec1 TR.raw) v0 u0a, obox 45 TrH u0a (x0.1, (x0.2.1, u0b)), obox 55 TrL u0b x0.2.2, keep X]) ())) | exact fun a w st _ _ => And.intro st.defers (thrP_err ((st.pick [0, 1, 2, 5] (by decide) rfl).toPostMX (E := fun (_ : Unit) => .panicked (refuse 48 x509)) (LR := fun (o : Unit) => [obox 35 (TR.rec1 TR.raw) v0 u0a, obox 45 TrH u0a (x0.1, (x0.2.1, u0b)), obox 55 TrL u0b x0.2.2, keep X]) ()))
   replace h496 := thr_o h496
   refine RL.callV (v := .int .i64 z510) (vs := [(sv y505)]) Tryz_fit26 rfl (Or.inl rfl) rfl rfl rfl rfl (fun U w hU hW hL => desk_number_c U w hU y505 _ e508) ?_
   refine RL.bld (t := TrE) (d0 := (((5 : Int), z510, ([] : B8), (([] : B8), ([] : B8), (0 : Int), (0 : Int), (0 : Int), (0 : Int))) : TyE)) (pv := [(0, .int .i64 (5 : Int)), (1, .int .i64 z510)]) rfl Tryz_bld59 rfl rfl rfl ⟨⟨_, _, TR.int, (5 : Int), rfl, rfl, VR.int⟩, ⟨⟨_, _, TR.int, z510, rfl, rfl, VR.int⟩, trivial⟩⟩ (fun S f hi => by
     obtain ⟨c0, e0, r0⟩ := cells_vrep (t := TR.int) (u := .int .i64 (5 : Int)) (e := (5 : Int)) (VR.int S f hi)
     obtain ⟨c1, e1, r1⟩ := cells_vrep (t := TR.int) (u := .int .i64 z510) (e := z510) (VR.int S f hi)
     show TR.rep TrE S (List.flatten [(.int .i64 (5 : Int) : Value).cells.toList, (.int .i64 z510 : Value).cells.toList, [.string ⟨#[]⟩], [.string ⟨#[]⟩, .string ⟨#[]⟩, .int .i64 0, .int .i64 0, .int .i64 0, .int .i64 0]]) _
     simp only [e0, e1,  List.flatten_cons, List.flatten_nil, List.append_nil]
     exact ⟨_, _, rfl, r0, ⟨_, _, rfl, r1, ⟨_, _, rfl, rfl, ⟨[.string ⟨#[]⟩], _, rfl, rfl, ⟨[.string ⟨#[]⟩], _, rfl, rfl, ⟨[.int .i64 0], _, rfl, rfl, ⟨[.int .i64 0], _, rfl, rfl, ⟨[.int .i64 0], _, rfl, rfl, rfl⟩⟩⟩⟩⟩⟩⟩⟩) ?_
   intro v511
   refine RL.stP (off := 0) (e' := (((5 : Int), z510, ([] : B8), (([] : B8), ([] : B8), (0 : Int), (0 : Int), (0 : Int), (0 : Int))) : TyE)) (d1 := (((5 : Int), z510, ([] : B8), (([] : B8), ([] : B8), (0 : Int), (0 : Int), (0 : Int), (0 : Int))) : TyE)) (r := TrE) 4 Tryz_ln59 rfl rfl (Or.inr ⟨rfl, rfl⟩) rfl (VR.item 6 rfl) rfl Upd.self ?_
   refine RL.reL (L' := [obox 35 (TR.rec1 TR.raw) v0 u0a, obox 45 TrH u0a (x0.1, (x0.2.1, u0b)), obox 55 TrL u0b x0.2.2, imm (TR.sl TR.str) v2 x2, obox 59 TrE v7 (((5 : Int), z510, ([] : B8), (([] : B8), ([] : B8), (0 : Int), (0 : Int), (0 : Int), (0 : Int))) : TyE), keep X, imm TrE v511 (((5 : Int), z510, ([] : B8), (([] : B8), ([] : B8), (0 : Int), (0 : Int), (0 : Int), (0 : Int))) : TyE)]) rfl ?_
   refine RL.finG ?_
   cases h496
   exact fun a w st => mid_intro (((5 : Int), z510, ([] : B8), (([] : B8), ([] : B8), (0 : Int), (0 : Int), (0 : Int), (0 : Int))) : TyE) h260 (St.cut [0, 1, 2, 4, 5] ⟨rfl, rfl, trivial⟩ (by decide) rfl st)
  replace h496 := ite_f b497 h496
  refine GL.seq ?_
  refine GL.region ?_
  refine RL.asg rfl rfl rfl ?_
  refine RL.asg rfl rfl rfl ?_
  refine RL.finG ?_
  cases h496
  have hh := h262 _ h260
  subst hh
  exact GL.ret (Gx.ret (v := .tuple #[(sv (([] : B8))), .bool false]) (res2 rfl rfl rfl) (fun a w st => thrP_ok ((st.pick [0, 1, 2, 5] (by decide) rfl).toPostM (V := fun (o : Unit) => .tuple #[(sv ((([] : B8), false).1)), .bool ((([] : B8), false).2)]) (LR := fun (o : Unit) => [obox 35 (TR.rec1 TR.raw) v0 u0a, obox 45 TrH u0a (x0.1, (x0.2.1, u0b)), obox 55 TrL u0b x0.2.2, keep X]) ())))
 rintro l256 h512
 have h513 := h261 _ h512
 try dsimp only at h513
 refine GL.weak (env' := [(0, v0), (8, v7)]) (L' := [obox 35 (TR.rec1 TR.raw) v0 u0a, obox 45 TrH u0a (x0.1, (x0.2.1, u0b)), obox 55 TrL u0b x0.2.2, obox 59 TrE v7 l256, keep X]) ss ?_
 refine GL.seq ?_
 refine GL.regionA rfl rfl ?_
 refine RA.mv 0 rfl (by kernel_rfl) rfl rfl rfl ?_
 obtain ⟨y567, e568, h513⟩ := bind_some h513
 refine RA.meet (ι := Value × Value) (fun (p : Value × Value) => [(8, v7), (10, p.1), (133, p.2), (134, .int .i64 y567.2.1)]) (fun (p : Value × Value) => [obox 35 (TR.rec1 TR.raw) v0 u0a, keep X, obox 45 TrH u0a (y567.2.2.1, (y567.2.2.2.1, u0b)), obox 55 TrL u0b y567.2.2.2.2, obox 59 TrE v7 l256, obox 64 (TR.pair TR.int TR.int) p.1 ((0 : Int), (0 : Int)), imm (TR.pair TR.int TR.int) p.2 y567.1]) 2 q_103 (fun h582 => ?_) ?_
 ·skip
  refine RA.meet (ι := Value) (fun (p : Value) => [(8, v7), (133, p), (134, .int .i64 y567.2.1)]) (fun (p : Value) => [obox 35 (TR.rec1 TR.raw) v0 u0a, keep X, obox 45 TrH u0a (y567.2.2.1, (y567.2.2.2.1, u0b)), obox 55 TrL u0b y567.2.2.2.2, obox 59 TrE v7 l256, imm (TR.pair TR.int TR.int) p y567.1]) 3 q_104 (fun h583 => ?_) ?_
  rotate_left
  ·rintro v579
   refine RA.weak (env' := [(8, v7), (133, v579), (134, .int .i64 y567.2.1)]) (L' := [obox 35 (TR.rec1 TR.raw) v0 u0a, keep X, obox 45 TrH u0a (y567.2.2.1, (y567.2.2.2.1, u0b)), obox 55 TrL u0b y567.2.2.2.2, obox 59 TrE v7 l256, imm (TR.pair TR.int TR.int) v579 y567.1]) ss ?_
   refine RA.seq 9 rfl (by kernel_rfl) ?_
   refine RL.alloc (t := (TR.pair TR.int TR.int)) (z := ((0 : Int), (0 : Int))) Tryz_lo64 (fun S => ⟨[.int .i64 0], _, rfl, rfl, rfl⟩) rfl rfl rfl ?_
   intro v617
   refine RL.fin ?_
   refine RA.next ?_
   refine RA.relist 2 q_103 rfl (by kernel_rfl) ?_
   exact fun a w st => h582 (v617, v579) a w (St.cut [0, 1, 2, 3, 4, 6, 5] ⟨rfl, rfl, rfl, rfl, trivial⟩ (by decide) rfl st)
  refine RA.meet (ι := Value × Value) (fun (p : Value × Value) => [(8, v7), (10, p.1), (130, u0a), (131, p.2)]) (fun (p : Value × Value) => [obox 35 (TR.rec1 TR.raw) v0 u0a, obox 45 TrH u0a (x0.1, (x0.2.1, u0b)), obox 55 TrL u0b x0.2.2, keep X, obox 59 TrE v7 l256, obox 64 (TR.pair TR.int TR.int) p.1 ((0 : Int), (0 : Int)), imm TrE p.2 l256]) 6 q_105 (fun h584 => ?_) ?_
  rotate_left
  ·rintro ⟨v580, v578⟩
   refine RA.weak (env' := [(8, v7), (10, v580), (130, u0a), (131, v578)]) (L' := [obox 35 (TR.rec1 TR.raw) v0 u0a, obox 45 TrH u0a (x0.1, (x0.2.1, u0b)), obox 55 TrL u0b x0.2.2, keep X, obox 59 TrE v7 l256, obox 64 (TR.pair TR.int TR.int) v580 ((0 : Int), (0 : Int)), imm TrE v578 l256]) ss ?_
   refine RA.seq 5 rfl (by kernel_rfl) ?_
   refine RL.callK (vs := [u0a, v578]) (V := fun (o : Value) => .tuple #[o, .int .i64 y567.2.1]) (LR := fun (o : Value) => [obox 45 TrH u0a (y567.2.2.1, (y567.2.2.2.1, u0b)), obox 55 TrL u0b y567.2.2.2.2, imm (TR.pair TR.int TR.int) o y567.1]) (Ls := [obox 45 TrH u0a (x0.1, (x0.2.1, u0b)), obox 55 TrL u0b x0.2.2]) [1, 2] (by decide) Tryz_fit28 rfl rfl rfl rfl rfl rfl (fun S f X w hO hB hW hI hL => house_House_Do_c _ S X f w _ _ x0  hO hB hI (hT.mono hW) _ _ (hL 6 _ _ rfl Sure.imm) _ e568) ?_
   intro v616
   refine RL.fin ?_
   refine RA.next ?_
   refine RA.mv 6 rfl (by kernel_rfl) rfl rfl rfl ?_
   refine RA.ext 7 rfl (by kernel_rfl) rfl rfl rfl rfl ?_
   refine RA.ext 8 rfl (by kernel_rfl) rfl rfl rfl rfl ?_
   refine RA.relist 2 q_103 rfl (by kernel_rfl) ?_
   exact fun a w st => h582 (v580, v616) a w (St.cut [0, 3, 7, 8, 4, 5, 9] ⟨rfl, rfl, rfl, rfl, trivial⟩ (by decide) rfl st)
  refine RA.meet (ι := Value) (fun (p : Value) => [(8, v7), (130, u0a), (131, p)]) (fun (p : Value) => [obox 35 (TR.rec1 TR.raw) v0 u0a, obox 45 TrH u0a (x0.1, (x0.2.1, u0b)), obox 55 TrL u0b x0.2.2, keep X, obox 59 TrE v7 l256, imm TrE p l256]) 7 q_106 (fun h585 => ?_) ?_
  rotate_left
  ·rintro v578
   refine RA.weak (env' := [(8, v7), (130, u0a), (131, v578)]) (L' := [obox 35 (TR.rec1 TR.raw) v0 u0a, obox 45 TrH u0a (x0.1, (x0.2.1, u0b)), obox 55 TrL u0b x0.2.2, keep X, obox 59 TrE v7 l256, imm TrE v578 l256]) ss ?_
   refine RA.many [5, 9] (by kernel_rfl) ⟨⟨_, rfl, ?_⟩, ⟨_, rfl, ?_⟩, trivial⟩
   ·skip
    refine RL.callK (vs := [u0a, v578]) (V := fun (o : Value) => .tuple #[o, .int .i64 y567.2.1]) (LR := fun (o : Value) => [obox 45 TrH u0a (y567.2.2.1, (y567.2.2.2.1, u0b)), obox 55 TrL u0b y567.2.2.2.2, imm (TR.pair TR.int TR.int) o y567.1]) (Ls := [obox 45 TrH u0a (x0.1, (x0.2.1, u0b)), obox 55 TrL u0b x0.2.2]) [1, 2] (by decide) Tryz_fit28 rfl rfl rfl rfl rfl rfl (fun S f X w hO hB hW hI hL => house_House_Do_c _ S X f w _ _ x0  hO hB hI (hT.mono hW) _ _ (hL 5 _ _ rfl Sure.imm) _ e568) ?_
    intro v614
    refine RL.fin ?_
    refine RA.next ?_
    refine RA.mv 6 rfl (by kernel_rfl) rfl rfl rfl ?_
    refine RA.ext 7 rfl (by kernel_rfl) rfl rfl rfl rfl ?_
    refine RA.ext 8 rfl (by kernel_rfl) rfl rfl rfl rfl ?_
    refine RA.relist 3 q_104 rfl (by kernel_rfl) ?_
    exact fun a w st => h583 v614 a w (St.cut [0, 3, 6, 7, 4, 8] ⟨rfl, rfl, rfl, trivial⟩ (by decide) rfl st)
   refine RL.alloc (t := (TR.pair TR.int TR.int)) (z := ((0 : Int), (0 : Int))) Tryz_lo64 (fun S => ⟨[.int .i64 0], _, rfl, rfl, rfl⟩) rfl rfl rfl ?_
   intro v615
   refine RL.fin ?_
   refine RA.next ?_
   refine RA.relist 6 q_105 rfl (by kernel_rfl) ?_
   exact fun a w st => h584 (v615, v578) a w (St.cut [0, 1, 2, 3, 4, 6, 5] ⟨rfl, rfl, rfl, rfl, trivial⟩ (by decide) rfl st)
  refine RA.meet (ι := Value) (fun (p : Value) => [(8, v7), (10, p), (130, u0a)]) (fun (p : Value) => [obox 35 (TR.rec1 TR.raw) v0 u0a, obox 45 TrH u0a (x0.1, (x0.2.1, u0b)), obox 55 TrL u0b x0.2.2, keep X, obox 59 TrE v7 l256, obox 64 (TR.pair TR.int TR.int) p ((0 : Int), (0 : Int))]) 7 q_107 (fun h586 => ?_) ?_
  rotate_left
  ·rintro v574
   refine RA.weak (env' := [(8, v7), (10, v574), (130, u0a)]) (L' := [obox 35 (TR.rec1 TR.raw) v0 u0a, obox 45 TrH u0a (x0.1, (x0.2.1, u0b)), obox 55 TrL u0b x0.2.2, keep X, obox 59 TrE v7 l256, obox 64 (TR.pair TR.int TR.int) v574 ((0 : Int), (0 : Int))]) ss ?_
   refine RA.seq 4 rfl (by kernel_rfl) ?_
   refine RL.ldP (off := 0) (r := TrE) (e' := l256) 4 Tryz_ln59 rfl rfl (Or.inr ⟨rfl, rfl⟩) rfl PtOf.obox Part.self ?_
   intro v613
   refine RL.fin ?_
   refine RA.next ?_
   refine RA.relist 6 q_105 rfl (by kernel_rfl) ?_
   exact fun a w st => h584 (v574, v613) a w (St.cut [0, 1, 2, 3, 4, 5, 6] ⟨rfl, rfl, rfl, rfl, trivial⟩ (by decide) rfl st)
  refine RA.meet (ι := Value × Value) (fun (p : Value × Value) => [(8, v7), (10, p.1), (129, adr v0 (0 + 0)), (131, p.2)]) (fun (p : Value × Value) => [obox 35 (TR.rec1 TR.raw) v0 u0a, obox 45 TrH u0a (x0.1, (x0.2.1, u0b)), obox 55 TrL u0b x0.2.2, keep X, obox 59 TrE v7 l256, obox 64 (TR.pair TR.int TR.int) p.1 ((0 : Int), (0 : Int)), imm TrE p.2 l256]) 7 q_108 (fun h587 => ?_) ?_
  rotate_left
  ·rintro ⟨v574, v577⟩
   refine RA.weak (env' := [(8, v7), (10, v574), (129, adr v0 (0 + 0)), (131, v577)]) (L' := [obox 35 (TR.rec1 TR.raw) v0 u0a, obox 45 TrH u0a (x0.1, (x0.2.1, u0b)), obox 55 TrL u0b x0.2.2, keep X, obox 59 TrE v7 l256, obox 64 (TR.pair TR.int TR.int) v574 ((0 : Int), (0 : Int)), imm TrE v577 l256]) ss ?_
   refine RA.seq 3 rfl (by kernel_rfl) ?_
   refine RL.ldPx (off := (0 + 0)) (e' := u0a) 0 Ex.raw Tryz_ln32 rfl rfl (Or.inl rfl) rfl PtOf.obox (Part.rec1 Part.self) ?_
   refine RL.fin ?_
   refine RA.next ?_
   refine RA.relist 6 q_105 rfl (by kernel_rfl) ?_
   exact fun a w st => h584 (v574, v577) a w (St.cut [0, 1, 2, 3, 4, 5, 6] ⟨rfl, rfl, rfl, rfl, trivial⟩ (by decide) rfl st)
  refine RA.meet (ι := Value) (fun (p : Value) => [(8, v7), (10, p), (129, adr v0 (0 + 0))]) (fun (p : Value) => [obox 35 (TR.rec1 TR.raw) v0 u0a, obox 45 TrH u0a (x0.1, (x0.2.1, u0b)), obox 55 TrL u0b x0.2.2, keep X, obox 59 TrE v7 l256, obox 64 (TR.pair TR.int TR.int) p ((0 : Int), (0 : Int))]) 8 q_109 (fun h588 => ?_) ?_
  rotate_left
  ·rintro v574
   refine RA.weak (env' := [(8, v7), (10, v574), (129, adr v0 (0 + 0))]) (L' := [obox 35 (TR.rec1 TR.raw) v0 u0a, obox 45 TrH u0a (x0.1, (x0.2.1, u0b)), obox 55 TrL u0b x0.2.2, keep X, obox 59 TrE v7 l256, obox 64 (TR.pair TR.int TR.int) v574 ((0 : Int), (0 : Int))]) ss ?_
   refine RA.many [3, 4] (by kernel_rfl) ⟨⟨_, rfl, ?_⟩, ⟨_, rfl, ?_⟩, trivial⟩
   ·skip
    refine RL.ldPx (off := (0 + 0)) (e' := u0a) 0 Ex.raw Tryz_ln32 rfl rfl (Or.inl rfl) rfl PtOf.obox (Part.rec1 Part.self) ?_
    refine RL.fin ?_
    refine RA.next ?_
    refine RA.relist 7 q_107 rfl (by kernel_rfl) ?_
    exact fun a w st => h586 v574 a w (St.cut [0, 1, 2, 3, 4, 5] ⟨rfl, rfl, rfl, trivial⟩ (by decide) rfl st)
   refine RL.ldP (off := 0) (r := TrE) (e' := l256) 4 Tryz_ln59 rfl rfl (Or.inr ⟨rfl, rfl⟩) rfl PtOf.obox Part.self ?_
   intro v612
   refine RL.fin ?_
   refine RA.next ?_
   refine RA.relist 7 q_108 rfl (by kernel_rfl) ?_
   exact fun a w st => h587 (v574, v612) a w (St.cut [0, 1, 2, 3, 4, 5, 6] ⟨rfl, rfl, rfl, rfl, trivial⟩ (by decide) rfl st)
  refine RA.meet (ι := Value × Value) (fun (p : Value × Value) => [(8, v7), (10, p.1), (128, v0), (131, p.2)]) (fun (p : Value × Value) => [obox 35 (TR.rec1 TR.raw) v0 u0a, obox 45 TrH u0a (x0.1, (x0.2.1, u0b)), obox 55 TrL u0b x0.2.2, keep X, obox 59 TrE v7 l256, obox 64 (TR.pair TR.int TR.int) p.1 ((0 : Int), (0 : Int)), imm TrE p.2 l256]) 8 q_110 (fun h589 => ?_) ?_
  rotate_left
  ·rintro ⟨v576, v573⟩
   refine RA.weak (env' := [(8, v7), (10, v576), (128, v0), (131, v573)]) (L' := [obox 35 (TR.rec1 TR.raw) v0 u0a, obox 45 TrH u0a (x0.1, (x0.2.1, u0b)), obox 55 TrL u0b x0.2.2, keep X, obox 59 TrE v7 l256, obox 64 (TR.pair TR.int TR.int) v576 ((0 : Int), (0 : Int)), imm TrE v573 l256]) ss ?_
   refine RA.seq 2 rfl (by kernel_rfl) ?_
   refine RL.fadr (off := 0) (fo := 0) 0 Tryz_fld35_0 rfl rfl rfl PtOf.obox (Or.inr ⟨rfl, rfl⟩) ?_
   refine RL.fin ?_
   refine RA.next ?_
   refine RA.relist 7 q_108 rfl (by kernel_rfl) ?_
   exact fun a w st => h587 (v576, v573) a w (St.cut [0, 1, 2, 3, 4, 5, 6] ⟨rfl, rfl, rfl, rfl, trivial⟩ (by decide) rfl st)
  refine RA.meet (ι := Unit) (fun (p : Unit) => [(8, v7), (130, u0a)]) (fun (p : Unit) => [obox 35 (TR.rec1 TR.raw) v0 u0a, obox 45 TrH u0a (x0.1, (x0.2.1, u0b)), obox 55 TrL u0b x0.2.2, keep X, obox 59 TrE v7 l256]) 8 q_111 (fun h590 => ?_) ?_
  rotate_left
  ·rintro ⟨⟩
   refine RA.weak (env' := [(8, v7), (130, u0a)]) (L' := [obox 35 (TR.rec1 TR.raw) v0 u0a, obox 45 TrH u0a (x0.1, (x0.2.1, u0b)), obox 55 TrL u0b x0.2.2, keep X, obox 59 TrE v7 l256]) ss ?_
   refine RA.many [4, 9] (by kernel_rfl) ⟨⟨_, rfl, ?_⟩, ⟨_, rfl, ?_⟩, trivial⟩
   ·skip
    refine RL.ldP (off := 0) (r := TrE) (e' := l256) 4 Tryz_ln59 rfl rfl (Or.inr ⟨rfl, rfl⟩) rfl PtOf.obox Part.self ?_
    intro v610
    refine RL.fin ?_
    refine RA.next ?_
    refine RA.relist 7 q_106 rfl (by kernel_rfl) ?_
    exact fun a w st => h585 v610 a w (St.cut [0, 1, 2, 3, 4, 5] ⟨rfl, rfl, rfl, trivial⟩ (by decide) rfl st)
   refine RL.alloc (t := (TR.pair TR.int TR.int)) (z := ((0 : Int), (0 : Int))) Tryz_lo64 (fun S => ⟨[.int .i64 0], _, rfl, rfl, rfl⟩) rfl rfl rfl ?_
   intro v611
   refine RL.fin ?_
   refine RA.next ?_
   refine RA.relist 7 q_107 rfl (by kernel_rfl) ?_
   exact fun a w st => h586 v611 a w (St.cut [0, 1, 2, 3, 4, 5] ⟨rfl, rfl, rfl, trivial⟩ (by decide) rfl st)
  refine RA.meet (ι := Value) (fun (p : Value) => [(8, v7), (129, adr v0 (0 + 0)), (131, p)]) (fun (p : Value) => [obox 35 (TR.rec1 TR.raw) v0 u0a, obox 45 TrH u0a (x0.1, (x0.2.1, u0b)), obox 55 TrL u0b x0.2.2, keep X, obox 59 TrE v7 l256, imm TrE p l256]) 8 q_112 (fun h591 => ?_) ?_
  rotate_left
  ·rintro v573
   refine RA.weak (env' := [(8, v7), (129, adr v0 (0 + 0)), (131, v573)]) (L' := [obox 35 (TR.rec1 TR.raw) v0 u0a, obox 45 TrH u0a (x0.1, (x0.2.1, u0b)), obox 55 TrL u0b x0.2.2, keep X, obox 59 TrE v7 l256, imm TrE v573 l256]) ss ?_
   refine RA.many [3, 9] (by kernel_rfl) ⟨⟨_, rfl, ?_⟩, ⟨_, rfl, ?_⟩, trivial⟩
   ·skip
    refine RL.ldPx (off := (0 + 0)) (e' := u0a) 0 Ex.raw Tryz_ln32 rfl rfl (Or.inl rfl) rfl PtOf.obox (Part.rec1 Part.self) ?_
    refine RL.fin ?_
    refine RA.next ?_
    refine RA.relist 7 q_106 rfl (by kernel_rfl) ?_
    exact fun a w st => h585 v573 a w (St.cut [0, 1, 2, 3, 4, 5] ⟨rfl, rfl, rfl, trivial⟩ (by decide) rfl st)
   refine RL.alloc (t := (TR.pair TR.int TR.int)) (z := ((0 : Int), (0 : Int))) Tryz_lo64 (fun S => ⟨[.int .i64 0], _, rfl, rfl, rfl⟩) rfl rfl rfl ?_
   intro v609
   refine RL.fin ?_
   refine RA.next ?_
   refine RA.relist 7 q_108 rfl (by kernel_rfl) ?_
   exact fun a w st => h587 (v609, v573) a w (St.cut [0, 1, 2, 3, 4, 6, 5] ⟨rfl, rfl, rfl, rfl, trivial⟩ (by decide) rfl st)
  refine RA.meet (ι := Value) (fun (p : Value) => [(8, v7), (128, v0), (131, p)]) (fun (p : Value) => [obox 35 (TR.rec1 TR.raw) v0 u0a, obox 45 TrH u0a (x0.1, (x0.2.1, u0b)), obox 55 TrL u0b x0.2.2, keep X, obox 59 TrE v7 l256, imm TrE p l256]) 9 q_113 (fun h592 => ?_) ?_
  rotate_left
  ·rintro v573
   refine RA.weak (env' := [(8, v7), (128, v0), (131, v573)]) (L' := [obox 35 (TR.rec1 TR.raw) v0 u0a, obox 45 TrH u0a (x0.1, (x0.2.1, u0b)), obox 55 TrL u0b x0.2.2, keep X, obox 59 TrE v7 l256, imm TrE v573 l256]) ss ?_
   refine RA.many [2, 9] (by kernel_rfl) ⟨⟨_, rfl, ?_⟩, ⟨_, rfl, ?_⟩, trivial⟩
   ·skip
    refine RL.fadr (off := 0) (fo := 0) 0 Tryz_fld35_0 rfl rfl rfl PtOf.obox (Or.inr ⟨rfl, rfl⟩) ?_
    refine RL.fin ?_
    refine RA.next ?_
    refine RA.relist 8 q_112 rfl (by kernel_rfl) ?_
    exact fun a w st => h591 v573 a w (St.cut [0, 1, 2, 3, 4, 5] ⟨rfl, rfl, rfl, trivial⟩ (by decide) rfl st)
   refine RL.alloc (t := (TR.pair TR.int TR.int)) (z := ((0 : Int), (0 : Int))) Tryz_lo64 (fun S => ⟨[.int .i64 0], _, rfl, rfl, rfl⟩) rfl rfl rfl ?_
   intro v608
   refine RL.fin ?_
   refine RA.next ?_
   refine RA.relist 8 q_110 rfl (by kernel_rfl) ?_
   exact fun a w st => h589 (v608, v573) a w (St.cut [0, 1, 2, 3, 4, 6, 5] ⟨rfl, rfl, rfl, rfl, trivial⟩ (by decide) rfl st)
  refine RA.meet (ι := Value) (fun (p : Value) => [(8, v7), (10, p), (128, v0)]) (fun (p : Value) => [obox 35 (TR.rec1 TR.raw) v0 u0a, obox 45 TrH u0a (x0.1, (x0.2.1, u0b)), obox 55 TrL u0b x0.2.2, keep X, obox 59 TrE v7 l256, obox 64 (TR.pair TR.int TR.int) p ((0 : Int), (0 : Int))]) 9 q_114 (fun h593 => ?_) ?_
  rotate_left
  ·rintro v574
   refine RA.weak (env' := [(8, v7), (10, v574), (128, v0)]) (L' := [obox 35 (TR.rec1 TR.raw) v0 u0a, obox 45 TrH u0a (x0.1, (x0.2.1, u0b)), obox 55 TrL u0b x0.2.2, keep X, obox 59 TrE v7 l256, obox 64 (TR.pair TR.int TR.int) v574 ((0 : Int), (0 : Int))]) ss ?_
   refine RA.many [2, 4] (by kernel_rfl) ⟨⟨_, rfl, ?_⟩, ⟨_, rfl, ?_⟩, trivial⟩
   ·skip
    refine RL.fadr (off := 0) (fo := 0) 0 Tryz_fld35_0 rfl rfl rfl PtOf.obox (Or.inr ⟨rfl, rfl⟩) ?_
    refine RL.fin ?_
    refine RA.next ?_
    refine RA.relist 8 q_109 rfl (by kernel_rfl) ?_
    exact fun a w st => h588 v574 a w (St.cut [0, 1, 2, 3, 4, 5] ⟨rfl, rfl, rfl, trivial⟩ (by decide) rfl st)
   refine RL.ldP (off := 0) (r := TrE) (e' := l256) 4 Tryz_ln59 rfl rfl (Or.inr ⟨rfl, rfl⟩) rfl PtOf.obox Part.self ?_
   intro v607
   refine RL.fin ?_
   refine RA.next ?_
   refine RA.relist 8 q_110 rfl (by kernel_rfl) ?_
   exact fun a w st => h589 (v574, v607) a w (St.cut [0, 1, 2, 3, 4, 5, 6] ⟨rfl, rfl, rfl, rfl, trivial⟩ (by decide) rfl st)
  refine RA.meet (ι := Unit) (fun (p : Unit) => [(8, v7), (129, adr v0 (0 + 0))]) (fun (p : Unit) => [obox 35 (TR.rec1 TR.raw) v0 u0a, obox 45 TrH u0a (x0.1, (x0.2.1, u0b)), obox 55 TrL u0b x0.2.2, keep X, obox 59 TrE v7 l256]) 9 q_115 (fun h594 => ?_) ?_
  rotate_left
  ·rintro ⟨⟩
   refine RA.weak (env' := [(8, v7), (129, adr v0 (0 + 0))]) (L' := [obox 35 (TR.rec1 TR.raw) v0 u0a, obox 45 TrH u0a (x0.1, (x0.2.1, u0b)), obox 55 TrL u0b x0.2.2, keep X, obox 59 TrE v7 l256]) ss ?_
   refine RA.many [3, 4, 9] (by kernel_rfl) ⟨⟨_, rfl, ?_⟩, ⟨_, rfl, ?_⟩, ⟨_, rfl, ?_⟩, trivial⟩
   ·skip
    refine RL.ldPx (off := (0 + 0)) (e' := u0a) 0 Ex.raw Tryz_ln32 rfl rfl (Or.inl rfl) rfl PtOf.obox (Part.rec1 Part.self) ?_
    refine RL.fin ?_
    refine RA.next ?_
    refine RA.relist 8 q_111 rfl (by kernel_rfl) ?_
    exact fun a w st => h590 () a w (St.cut [0, 1, 2, 3, 4] ⟨rfl, rfl, trivial⟩ (by decide) rfl st)
   ·skip
    refine RL.ldP (off := 0) (r := TrE) (e' := l256) 4 Tryz_ln59 rfl rfl (Or.inr ⟨rfl, rfl⟩) rfl PtOf.obox Part.self ?_
    intro v605
    refine RL.fin ?_
    refine RA.next ?_
    refine RA.relist 8 q_112 rfl (by kernel_rfl) ?_
    exact fun a w st => h591 v605 a w (St.cut [0, 1, 2, 3, 4, 5] ⟨rfl, rfl, rfl, trivial⟩ (by decide) rfl st)
   refine RL.alloc (t := (TR.pair TR.int TR.int)) (z := ((0 : Int), (0 : Int))) Tryz_lo64 (fun S => ⟨[.int .i64 0], _, rfl, rfl, rfl⟩) rfl rfl rfl ?_
   intro v606
   refine RL.fin ?_
   refine RA.next ?_
   refine RA.relist 8 q_109 rfl (by kernel_rfl) ?_
   exact fun a w st => h588 v606 a w (St.cut [0, 1, 2, 3, 4, 5] ⟨rfl, rfl, rfl, trivial⟩ (by decide) rfl st)
  refine RA.meet (ι := Value × Value) (fun (p : Value × Value) => [(8, v7), (10, p.1), (127, v0), (131, p.2)]) (fun (p : Value × Value) => [obox 35 (TR.rec1 TR.raw) v0 u0a, obox 45 TrH u0a (x0.1, (x0.2.1, u0b)), obox 55 TrL u0b x0.2.2, keep X, obox 59 TrE v7 l256, obox 64 (TR.pair TR.int TR.int) p.1 ((0 : Int), (0 : Int)), imm TrE p.2 l256]) 9 q_116 (fun h595 => ?_) ?_
  rotate_left
  ·rintro ⟨v575, v571⟩
   refine RA.weak (env' := [(8, v7), (10, v575), (127, v0), (131, v571)]) (L' := [obox 35 (TR.rec1 TR.raw) v0 u0a, obox 45 TrH u0a (x0.1, (x0.2.1, u0b)), obox 55 TrL u0b x0.2.2, keep X, obox 59 TrE v7 l256, obox 64 (TR.pair TR.int TR.int) v575 ((0 : Int), (0 : Int)), imm TrE v571 l256]) ss ?_
   refine RA.seq 1 rfl (by kernel_rfl) ?_
   refine RL.nilk 0 rfl rfl rfl rfl PtOf.obox ?_
   refine RL.fin ?_
   refine RA.next ?_
   refine RA.relist 8 q_110 rfl (by kernel_rfl) ?_
   exact fun a w st => h589 (v575, v571) a w (St.cut [0, 1, 2, 3, 4, 5, 6] ⟨rfl, rfl, rfl, rfl, trivial⟩ (by decide) rfl st)
  refine RA.meet (ι := Unit) (fun (p : Unit) => [(8, v7), (128, v0)]) (fun (p : Unit) => [obox 35 (TR.rec1 TR.raw) v0 u0a, obox 45 TrH u0a (x0.1, (x0.2.1, u0b)), obox 55 TrL u0b x0.2.2, keep X, obox 59 TrE v7 l256]) 10 q_117 (fun h596 => ?_) ?_
  rotate_left
  ·rintro ⟨⟩
   refine RA.weak (env' := [(8, v7), (128, v0)]) (L' := [obox 35 (TR.rec1 TR.raw) v0 u0a, obox 45 TrH u0a (x0.1, (x0.2.1, u0b)), obox 55 TrL u0b x0.2.2, keep X, obox 59 TrE v7 l256]) ss ?_
   refine RA.many [2, 4, 9] (by kernel_rfl) ⟨⟨_, rfl, ?_⟩, ⟨_, rfl, ?_⟩, ⟨_, rfl, ?_⟩, trivial⟩
   ·skip
    refine RL.fadr (off := 0) (fo := 0) 0 Tryz_fld35_0 rfl rfl rfl PtOf.obox (Or.inr ⟨rfl, rfl⟩) ?_
    refine RL.fin ?_
    refine RA.next ?_
    refine RA.relist 9 q_115 rfl (by kernel_rfl) ?_
    exact fun a w st => h594 () a w (St.cut [0, 1, 2, 3, 4] ⟨rfl, rfl, trivial⟩ (by decide) rfl st)
   ·skip
    refine RL.ldP (off := 0) (r := TrE) (e' := l256) 4 Tryz_ln59 rfl rfl (Or.inr ⟨rfl, rfl⟩) rfl PtOf.obox Part.self ?_
    intro v603
    refine RL.fin ?_
    refine RA.next ?_
    refine RA.relist 9 q_113 rfl (by kernel_rfl) ?_
    exact fun a w st => h592 v603 a w (St.cut [0, 1, 2, 3, 4, 5] ⟨rfl, rfl, rfl, trivial⟩ (by decide) rfl st)
   refine RL.alloc (t := (TR.pair TR.int TR.int)) (z := ((0 : Int), (0 : Int))) Tryz_lo64 (fun S => ⟨[.int .i64 0], _, rfl, rfl, rfl⟩) rfl rfl rfl ?_
   intro v604
   refine RL.fin ?_
   refine RA.next ?_
   refine RA.relist 9 q_114 rfl (by kernel_rfl) ?_
   exact fun a w st => h593 v604 a w (St.cut [0, 1, 2, 3, 4, 5] ⟨rfl, rfl, rfl, trivial⟩ (by decide) rfl st)
  refine RA.meet (ι := Value) (fun (p : Value) => [(8, v7), (127, v0), (131, p)]) (fun (p : Value) => [obox 35 (TR.rec1 TR.raw) v0 u0a, obox 45 TrH u0a (x0.1, (x0.2.1, u0b)), obox 55 TrL u0b x0.2.2, keep X, obox 59 TrE v7 l256, imm TrE p l256]) 10 q_118 (fun h597 => ?_) ?_
  rotate_left
  ·rintro v571
   refine RA.weak (env' := [(8, v7), (127, v0), (131, v571)]) (L' := [obox 35 (TR.rec1 TR.raw) v0 u0a, obox 45 TrH u0a (x0.1, (x0.2.1, u0b)), obox 55 TrL u0b x0.2.2, keep X, obox 59 TrE v7 l256, imm TrE v571 l256]) ss ?_
   refine RA.many [1, 9] (by kernel_rfl) ⟨⟨_, rfl, ?_⟩, ⟨_, rfl, ?_⟩, trivial⟩
   ·skip
    refine RL.nilk 0 rfl rfl rfl rfl PtOf.obox ?_
    refine RL.fin ?_
    refine RA.next ?_
    refine RA.relist 9 q_113 rfl (by kernel_rfl) ?_
    exact fun a w st => h592 v571 a w (St.cut [0, 1, 2, 3, 4, 5] ⟨rfl, rfl, rfl, trivial⟩ (by decide) rfl st)
   refine RL.alloc (t := (TR.pair TR.int TR.int)) (z := ((0 : Int), (0 : Int))) Tryz_lo64 (fun S => ⟨[.int .i64 0], _, rfl, rfl, rfl⟩) rfl rfl rfl ?_
   intro v602
   refine RL.fin ?_
   refine RA.next ?_
   refine RA.relist 9 q_116 rfl (by kernel_rfl) ?_
   exact fun a w st => h595 (v602, v571) a w (St.cut [0, 1, 2, 3, 4, 6, 5] ⟨rfl, rfl, rfl, rfl, trivial⟩ (by decide) rfl st)
  refine RA.meet (ι := Value) (fun (p : Value) => [(8, v7), (10, p), (127, v0)]) (fun (p : Value) => [obox 35 (TR.rec1 TR.raw) v0 u0a, obox 45 TrH u0a (x0.1, (x0.2.1, u0b)), obox 55 TrL u0b x0.2.2, keep X, obox 59 TrE v7 l256, obox 64 (TR.pair TR.int TR.int) p ((0 : Int), (0 : Int))]) 10 q_119 (fun h598 => ?_) ?_
  rotate_left
  ·rintro v572
   refine RA.weak (env' := [(8, v7), (10, v572), (127, v0)]) (L' := [obox 35 (TR.rec1 TR.raw) v0 u0a, obox 45 TrH u0a (x0.1, (x0.2.1, u0b)), obox 55 TrL u0b x0.2.2, keep X, obox 59 TrE v7 l256, obox 64 (TR.pair TR.int TR.int) v572 ((0 : Int), (0 : Int))]) ss ?_
   refine RA.many [1, 4] (by kernel_rfl) ⟨⟨_, rfl, ?_⟩, ⟨_, rfl, ?_⟩, trivial⟩
   ·skip
    refine RL.nilk 0 rfl rfl rfl rfl PtOf.obox ?_
    refine RL.fin ?_
    refine RA.next ?_
    refine RA.relist 9 q_114 rfl (by kernel_rfl) ?_
    exact fun a w st => h593 v572 a w (St.cut [0, 1, 2, 3, 4, 5] ⟨rfl, rfl, rfl, trivial⟩ (by decide) rfl st)
   refine RL.ldP (off := 0) (r := TrE) (e' := l256) 4 Tryz_ln59 rfl rfl (Or.inr ⟨rfl, rfl⟩) rfl PtOf.obox Part.self ?_
   intro v601
   refine RL.fin ?_
   refine RA.next ?_
   refine RA.relist 9 q_116 rfl (by kernel_rfl) ?_
   exact fun a w st => h595 (v572, v601) a w (St.cut [0, 1, 2, 3, 4, 5, 6] ⟨rfl, rfl, rfl, rfl, trivial⟩ (by decide) rfl st)
  refine RA.many [1, 4, 9] (by kernel_rfl) ⟨⟨_, rfl, ?_⟩, ⟨_, rfl, ?_⟩, ⟨_, rfl, ?_⟩, trivial⟩
  ·skip
   refine RL.nilk 0 rfl rfl rfl rfl PtOf.obox ?_
   refine RL.fin ?_
   refine RA.next ?_
   refine RA.relist 10 q_117 rfl (by kernel_rfl) ?_
   exact fun a w st => h596 () a w (St.cut [0, 1, 2, 4, 3] ⟨rfl, rfl, trivial⟩ (by decide) rfl st)
  ·skip
   refine RL.ldP (off := 0) (r := TrE) (e' := l256) 3 Tryz_ln59 rfl rfl (Or.inr ⟨rfl, rfl⟩) rfl PtOf.obox Part.self ?_
   intro v599
   refine RL.fin ?_
   refine RA.next ?_
   refine RA.relist 10 q_118 rfl (by kernel_rfl) ?_
   exact fun a w st => h597 v599 a w (St.cut [0, 1, 2, 4, 3, 5] ⟨rfl, rfl, rfl, trivial⟩ (by decide) rfl st)
  refine RL.alloc (t := (TR.pair TR.int TR.int)) (z := ((0 : Int), (0 : Int))) Tryz_lo64 (fun S => ⟨[.int .i64 0], _, rfl, rfl, rfl⟩) rfl rfl rfl ?_
  intro v600
  refine RL.fin ?_
  refine RA.next ?_
  refine RA.relist 10 q_119 rfl (by kernel_rfl) ?_
  exact fun a w st => h598 v600 a w (St.cut [0, 1, 2, 4, 3, 5] ⟨rfl, rfl, rfl, trivial⟩ (by decide) rfl st)
 rintro ⟨v580, v581⟩
 refine RA.weak (env' := [(8, v7), (10, v580), (133, v581), (134, .int .i64 y567.2.1)]) (L' := [obox 35 (TR.rec1 TR.raw) v0 u0a, keep X, obox 45 TrH u0a (y567.2.2.1, (y567.2.2.2.1, u0b)), obox 55 TrL u0b y567.2.2.2.2, obox 59 TrE v7 l256, obox 64 (TR.pair TR.int TR.int) v580 ((0 : Int), (0 : Int)), imm (TR.pair TR.int TR.int) v581 y567.1]) ss ?_
 refine RA.seq 10 rfl (by kernel_rfl) ?_
 refine RL.stP (off := 0) (e' := y567.1) (d1 := y567.1) (r := (TR.pair TR.int TR.int)) 5 Tryz_ln64 rfl rfl (Or.inr ⟨rfl, rfl⟩) rfl (VR.item 6 rfl) rfl Upd.self ?_
 refine RL.fin ?_
 refine RA.next ?_
 refine RA.quiet 11 rfl rfl (by kernel_rfl) ?_
 simp only [List.drop_succ_cons, List.drop_zero]
 refine RL.asg rfl rfl rfl ?_
 refine RL.finQ ?_
 refine RA.outQ ?_
 refine GL.weak (env' := [(8, v7), (10, v580), (11, .int .i64 y567.2.1)]) (L' := [obox 35 (TR.rec1 TR.raw) v0 u0a, keep X, obox 45 TrH u0a (y567.2.2.1, (y567.2.2.2.1, u0b)), obox 55 TrL u0b y567.2.2.2.2, obox 59 TrE v7 l256, obox 64 (TR.pair TR.int TR.int) v580 y567.1]) (fun a w st => St.cut [0, 1, 2, 3, 4, 5] ⟨rfl, rfl, rfl, trivial⟩ (by decide) rfl st) ?_
 refine GL.seq ?_
 refine GL.region ?_
 refine RL.mv rfl rfl rfl ?_
 obtain ⟨y622, e623, h513⟩ := bind_some h513
 rcases y622 with x624 | z625
 ·replace h513 := thr_e h513
  refine RL.callE (T := 48) (n := x624) (vs := [.int .i64 y567.2.1]) Tryz_fit19 rfl rfl rfl rfl (fun U w hU hW hL => desk_must_c U w hU y567.2.1 _ e623) ?_
  have h513 := Option.some.inj h513
  subst h513
  first | exact fun a w st => And.intro st.defers (thrP_err ((st.pick [0, 2, 3, 1] (by decide) rfl).toPostMX (E := fun (_ : Unit) => .panicked (refuse 48 x624)) (LR := fun (o : Unit) => [obox 35 (TR.rec1 TR.raw) v0 u0a, obox 45 TrH u0a (y567.2.2.1, (y567.2.2.2.1, u0b)), obox 55 TrL u0b y567.2.2.2.2, keep X]) ())) | exact fun a w st _ _ => And.intro st.defers (thrP_err ((st.pick [0, 2, 3, 1] (by decide) rfl).toPostMX (E := fun (_ : Unit) => .panicked (refuse 48 x624)) (LR := fun (o : Unit) => [obox 35 (TR.rec1 TR.raw) v0 u0a, obox 45 TrH u0a (y567.2.2.1, (y567.2.2.2.1, u0b)), obox 55 TrL u0b y567.2.2.2.2, keep X]) ()))
 replace h513 := thr_o h513
 refine RL.callC (v := .tuple #[]) (vs := [.int .i64 y567.2.1]) Tryz_fit19 rfl rfl rfl rfl (fun U w hU hW hL => desk_must_c U w hU y567.2.1 _ e623) ?_
 refine RL.finG ?_
 refine GL.seq ?_
 refine GL.seq ?_
 obtain ⟨y629, K630, h631, h632, h633, h634, h635⟩ := bindR_K h513
 refine GL.join (ι := Bool) (fun (p : Bool) => [(10, v580), (144, .bool p)]) (fun (p : Bool) => [obox 64 (TR.pair TR.int TR.int) v580 y567.1, obox 35 (TR.rec1 TR.raw) v0 u0a, obox 45 TrH u0a (y567.2.2.1, (y567.2.2.2.1, u0b)), obox 55 TrL u0b y567.2.2.2.2, keep X]) (fun (p : Bool) => K630 (.nx p)) ?_ ?_
 ·skip
  refine GL.region ?_
  refine RL.fadr (off := 0) (fo := 0) 4 Tryz_fld59_0 rfl rfl rfl PtOf.obox (Or.inr ⟨rfl, rfl⟩) ?_
  refine RL.ldPx (off := (0 + 0)) (e' := l256.1) 4 Ex.ik Tryz_ln3 rfl rfl (Or.inl rfl) rfl PtOf.obox (Part.fst Part.self) ?_
  refine RL.binI (v := .bool (l256.1 == (3 : Int))) rfl rfl rfl rfl rfl ?_
  refine RL.mv rfl rfl rfl ?_
  refine RL.split (t := 140) rfl (fun b636 => ?_) (fun b636 => ?_)
  ·replace h631 := ite_t b636 h631
   refine RL.skip rfl rfl ?_
   refine RL.skip rfl rfl ?_
   refine RL.skip rfl rfl ?_
   refine RL.pickT rfl rfl rfl rfl ?_
   refine RL.fin ?_
   cases h631
   exact fun a w st => mid_intro true h632 (St.cut [5, 0, 2, 3, 1] ⟨rfl, rfl, trivial⟩ (by decide) rfl st)
  replace h631 := ite_f b636 h631
  refine RL.fadr (off := 0) (fo := 0) 4 Tryz_fld59_0 rfl rfl rfl PtOf.obox (Or.inr ⟨rfl, rfl⟩) ?_
  refine RL.ldPx (off := (0 + 0)) (e' := l256.1) 4 Ex.ik Tryz_ln3 rfl rfl (Or.inl rfl) rfl PtOf.obox (Part.fst Part.self) ?_
  refine RL.binI (v := .bool (l256.1 == (6 : Int))) rfl rfl rfl rfl rfl ?_
  refine RL.pickF rfl rfl rfl rfl ?_
  refine RL.fin ?_
  cases h631
  exact fun a w st => mid_intro (l256.1 == (6 : Int)) h632 (St.cut [5, 0, 2, 3, 1] ⟨rfl, rfl, trivial⟩ (by decide) rfl st)
 rintro x628 h637
 have h638 := h633 _ h637
 try dsimp only at h638
 refine GL.weak (env' := [(10, v580), (144, .bool x628)]) (L' := [obox 64 (TR.pair TR.int TR.int) v580 y567.1, obox 35 (TR.rec1 TR.raw) v0 u0a, obox 45 TrH u0a (y567.2.2.1, (y567.2.2.2.1, u0b)), obox 55 TrL u0b y567.2.2.2.2, keep X]) ss ?_
 refine GL.cond rfl (fun b639 => ?_) (fun b639 => ?_)
 ·replace h638 := ite_t b639 h638
  refine GL.seq ?_
  refine GL.region ?_
  refine RL.fadr (off := 0) (fo := 0) 0 Tryz_fld64_0 rfl rfl rfl PtOf.obox (Or.inr ⟨rfl, rfl⟩) ?_
  refine RL.ldPx (off := (0 + 0)) (e' := y567.1.1) 0 Ex.ik Tryz_ln3 rfl rfl (Or.inl rfl) rfl PtOf.obox (Part.fst Part.self) ?_
  refine RL.fadr (off := 0) (fo := 1) 0 Tryz_fld64_1 rfl rfl rfl PtOf.obox (Or.inr ⟨rfl, rfl⟩) ?_
  refine RL.ldPx (off := (0 + 1)) (e' := y567.1.2) 0 Ex.ik Tryz_ln3 rfl rfl (Or.inl rfl) rfl PtOf.obox (Part.snd Part.self) ?_
  refine RL.bS (t := TR.int) (vs := [.int .i64 y567.1.1, .int .i64 y567.1.2]) ([y567.1.1, y567.1.2] : (List Int)) Tryz.underlying61 Tryz_lo3 rfl rfl rfl rfl ⟨VR.int, ⟨VR.int, trivial⟩⟩ rfl (by decide) ?_
  intro v643
  obtain ⟨y644, e645, h638⟩ := bind_some h638
  refine RL.callV (v := (sv y644)) (vs := [v643]) Tryz_fit29 rfl (Or.inl rfl) rfl rfl rfl rfl (fun U w hU hW hL => desk_listed_c U w hU (hT.mono hW) _ _ (hL 5 _ _ rfl Seen.own) _ e645) ?_
  refine RL.asg rfl rfl rfl ?_
  refine RL.asg rfl rfl rfl ?_
  refine RL.finG ?_
  have h638 := Option.some.inj h638
  subst h638
  exact GL.ret (Gx.ret (v := .tuple #[(sv y644), .bool true]) (res2 rfl rfl rfl) (fun a w st => thrP_ok ((st.pick [1, 2, 3, 4] (by decide) rfl).toPostM (V := fun (o : Unit) => .tuple #[(sv ((y644, true).1)), .bool ((y644, true).2)]) (LR := fun (o : Unit) => [obox 35 (TR.rec1 TR.raw) v0 u0a, obox 45 TrH u0a (y567.2.2.1, (y567.2.2.2.1, u0b)), obox 55 TrL u0b y567.2.2.2.2, keep X]) ())))
 replace h638 := ite_f b639 h638
 refine GL.skip ?_
 refine GL.seq ?_
 refine GL.region ?_
 refine RL.asg rfl rfl rfl ?_
 refine RL.asg rfl rfl rfl ?_
 refine RL.finG ?_
 have h638 := Option.some.inj h638
 subst h638
 exact GL.ret (Gx.ret (v := .tuple #[(sv (([111, 107] : B8))), .bool true]) (res2 rfl rfl rfl) (fun a w st => thrP_ok ((st.pick [1, 2, 3, 4] (by decide) rfl).toPostM (V := fun (o : Unit) => .tuple #[(sv ((([111, 107] : B8), true).1)), .bool ((([111, 107] : B8), true).2)]) (LR := fun (o : Unit) => [obox 35 (TR.rec1 TR.raw) v0 u0a, obox 45 TrH u0a (y567.2.2.1, (y567.2.2.2.1, u0b)), obox 55 TrL u0b y567.2.2.2.2, keep X]) ())))

theorem piles_Check_c (S : Hp) (w : World) (hS : S.sub w) (v0 : Value) (x0 : (List Int)) (k0 : ((TR.sl TR.int)).vrep S v0 x0) (res : Int) (hm : piles_Check_m x0 = some res) : Calls Tryz.prog 50 #[v0] w (PostC w (.int .i64 res)) := by
 refine calls_enter 21 Tryz.func50 Tryz.ntmps50 rfl S true [(0, v0)] [imm (TR.sl TR.int) v0 x0] rfl ⟨rfl, trivial⟩ hS ⟨k0, trivial⟩ ?_
 unfold piles_Check_m at hm
 refine GL.seq ?_
 refine GL.region ?_
 refine RL.asg rfl rfl rfl ?_
 refine RL.finG ?_
 refine GL.seq ?_
 refine GL.seq ?_
 refine GL.region ?_
 refine RL.mv rfl rfl rfl ?_
 refine RL.lenS 0 Tryz.underlying61 rfl rfl rfl rfl SlOf.imm ?_
 refine RL.binI (v := .bool (decide (((x0).length : Int) > (6 : Int)))) rfl rfl rfl rfl rfl ?_
 refine RL.finG ?_
 refine GL.cond rfl (fun b2 => ?_) (fun b2 => ?_)
 ·replace hm := ite_t b2 hm
  refine GL.seq ?_
  refine GL.region ?_
  refine RL.asg rfl rfl rfl ?_
  refine RL.finG ?_
  have hm := Option.some.inj hm
  subst hm
  exact GL.ret (Gx.ret (v := .int .i64 (2 : Int)) (res1 rfl rfl) (fun a w st => st.toPostC rfl))
 replace hm := ite_f b2 hm
 refine GL.skip ?_
 refine GL.seq ?_
 refine GL.seq ?_
 refine GL.region ?_
 refine RL.mv rfl rfl rfl ?_
 refine RL.lenS 0 Tryz.underlying61 rfl rfl rfl rfl SlOf.imm ?_
 refine RL.mv rfl rfl rfl ?_
 refine RL.finG ?_
 refine GL.open_ 0 rfl (fun S h => len_imm S h) (fun n21 => ?_)
 obtain ⟨y22, K23, h24, h25, h26, h27, h28⟩ := bindR_K hm
 refine GL.join (ι := Unit) (fun (p : Unit) => []) (fun (p : Unit) => []) (fun (p : Unit) => K23 (.nx ())) ?_ ?_
 ·refine GL.block ?_
  refine GL.loop (ι := Nat × (List Int)) (fun (p : Nat × (List Int)) => [(8, v0), (9, .int .i64 ((x0).length : Int)), (10, .int .i64 (p.1 : Int))]) (fun (p : Nat × (List Int)) => [imm (TR.sl TR.int) v0 x0]) (fun (p : Nat × (List Int)) => p.1 + p.2.length = (x0).length ∧ List.drop p.1 x0 = p.2 ∧ rangeL piles_Check_b1 p.2 p.1 () = some y22) (fun (p : Nat × (List Int)) => p.2.length) (0, x0) ⟨by simp, by simp, h24⟩ (fun a w st => St.cut [0] ⟨rfl, rfl, rfl, trivial⟩ (by decide) rfl st) ?_
  rintro ⟨i29, r30⟩ ⟨h35, h36, h34⟩
  try dsimp only at h35 h36 h34
  refine GL.weak (env' := [(8, v0), (9, .int .i64 ((x0).length : Int)), (10, .int .i64 (i29 : Int))]) (L' := [imm (TR.sl TR.int) v0 x0]) ss ?_
  refine GL.seq ?_
  refine GL.region ?_
  refine RL.binI (v := .bool (decide ((i29 : Int) < ((x0).length : Int)))) rfl rfl rfl rfl rfl ?_
  refine RL.finG ?_
  refine GL.seq ?_
  refine GL.cond rfl (fun b37 => ?_) (fun b37 => ?_)
  ·have h38 : i29 < (x0).length := by have := of_decide_eq_true b37; omega
   obtain ⟨y39, r41, hr, e40, h42⟩ := drop_cons h36 rfl h38
   subst hr
   obtain ⟨z31, h32, h33⟩ := rangeL_some h34
   unfold piles_Check_b1 at h32
   try dsimp only at h32
   refine GL.skip ?_
   refine GL.seq ?_
   refine GL.block ?_
   refine GL.seq ?_
   refine GL.region ?_
   refine RL.idxS (sz := 1) 0 Tryz.underlying61 Tryz_ln3 rfl rfl rfl rfl rfl SlOf.imm (by omega) (by omega) ?_
   refine RL.ldSx (i := i29) (e' := y39) 0 Ex.ik Tryz_ln3 rfl rfl rfl rfl SlOf.imm e40 Part.self ?_
   refine RL.asg rfl rfl rfl ?_
   refine RL.finG ?_
   refine GL.seq ?_
   obtain ⟨y46, K47, h48, h49, h50, h51, h52⟩ := bindF_K h32
   refine GL.join (ι := Bool) (fun (p : Bool) => [(8, v0), (9, .int .i64 ((x0).length : Int)), (10, .int .i64 (i29 : Int)), (19, .bool p)]) (fun (p : Bool) => [imm (TR.sl TR.int) v0 x0]) (fun (p : Bool) => K47 (.nx p)) ?_ ?_
   ·skip
    refine GL.region ?_
    refine RL.mv rfl rfl rfl ?_
    refine RL.binI (v := .bool (decide (y39 < (0 : Int)))) rfl rfl rfl rfl rfl ?_
    refine RL.mv rfl rfl rfl ?_
    refine RL.split (t := 16) rfl (fun b53 => ?_) (fun b53 => ?_)
    ·replace h48 := ite_t b53 h48
     refine RL.skip rfl rfl ?_
     refine RL.skip rfl rfl ?_
     refine RL.pickT rfl rfl rfl rfl ?_
     refine RL.fin ?_
     cases h48
     exact fun a w st => mid_intro true h49 (St.cut [0] ⟨rfl, rfl, rfl, rfl, trivial⟩ (by decide) rfl st)
    replace h48 := ite_f b53 h48
    refine RL.mv rfl rfl rfl ?_
    refine RL.binI (v := .bool (decide (y39 > (40 : Int)))) rfl rfl rfl rfl rfl ?_
    refine RL.pickF rfl rfl rfl rfl ?_
    refine RL.fin ?_
    cases h48
    exact fun a w st => mid_intro (decide (y39 > (40 : Int))) h49 (St.cut [0] ⟨rfl, rfl, rfl, rfl, trivial⟩ (by decide) rfl st)
   rintro x45 h54
   have h55 := h50 _ h54
   try dsimp only at h55
   refine GL.weak (env' := [(8, v0), (9, .int .i64 ((x0).length : Int)), (10, .int .i64 (i29 : Int)), (19, .bool x45)]) (L' := [imm (TR.sl TR.int) v0 x0]) ss ?_
   refine GL.cond rfl (fun b56 => ?_) (fun b56 => ?_)
   ·replace h55 := ite_t b56 h55
    refine GL.seq ?_
    refine GL.region ?_
    refine RL.asg rfl rfl rfl ?_
    refine RL.finG ?_
    cases h55
    replace h33 : some (Fl.rt _) = some y22 := h33
    cases h33
    have hh := h27 _ h25
    subst hh
    exact GL.ret (Gx.ret (v := .int .i64 (1 : Int)) (res1 rfl rfl) (fun a w st => st.toPostC rfl))
   replace h55 := ite_f b56 h55
   refine GL.skip ?_
   refine GL.nilB ?_
   refine GL.region ?_
   refine RL.binI (v := .int .i64 ((i29 + 1 : Nat) : Int)) rfl rfl rfl rfl (binI_succ i29 (by omega)) ?_
   refine RL.mv rfl rfl rfl ?_
   refine RL.fin ?_
   cases h55
   exact fun a w st => lop_intro (i29 + 1, r41) ⟨by show i29 + 1 + r41.length = (x0).length; simp only [List.length_cons] at h35; omega, h42, h33⟩ (by simp) (St.cut [0] ⟨rfl, rfl, rfl, trivial⟩ (by decide) rfl st)
  have h38 : ¬ i29 < (x0).length := by have := of_decide_eq_false b37; omega
  obtain rfl : r30 = [] := by rw [← h36]; exact List.drop_of_length_le (by omega)
  replace h34 : some (Fl.nx _) = some y22 := h34
  cases h34
  exact GL.exit (fun a w st => mid_intro () h25 (St.cut [] trivial (by decide) rfl st))
 rintro ⟨⟩ h57
 have h58 := h26 _ h57
 try dsimp only at h58
 refine GL.weak (env' := []) (L' := []) ss ?_
 refine GL.seq ?_
 refine GL.region ?_
 refine RL.asg rfl rfl rfl ?_
 refine RL.finG ?_
 have h58 := Option.some.inj h58
 subst h58
 exact GL.ret (Gx.ret (v := .int .i64 (0 : Int)) (res1 rfl rfl) (fun a w st => st.toPostC rfl))

theorem piles_Move_c (S : Hp) (w : World) (hS : S.sub w) (v0 : Value) (x0 : (List Int)) (k0 : ((TR.sl TR.int)).vrep S v0 x0) (res : Int × Int × Int) (hm : piles_Move_m x0 = some res) : Calls Tryz.prog 30 #[v0] w (PostC w (.tuple #[.int .i64 res.1, .int .i64 res.2.1, .int .i64 res.2.2])) := by
 refine calls_enter 45 Tryz.func30 Tryz.ntmps30 rfl S true [(0, v0)] [imm (TR.sl TR.int) v0 x0] rfl ⟨rfl, trivial⟩ hS ⟨k0, trivial⟩ ?_
 unfold piles_Move_m at hm
 refine GL.seq ?_
 refine GL.region ?_
 refine RL.asg rfl rfl rfl ?_
 refine RL.asg rfl rfl rfl ?_
 refine RL.asg rfl rfl rfl ?_
 refine RL.finG ?_
 refine GL.seq ?_
 refine GL.seq ?_
 refine GL.region ?_
 refine RL.mv rfl rfl rfl ?_
 obtain ⟨y4, e5, hm⟩ := bind_some hm
 refine RL.callC (v := .int .i64 y4) (vs := [v0]) Tryz_fit50 rfl rfl rfl rfl (fun U w hU hW hL => piles_Check_c U w hU _ _ (hL 0 _ _ rfl Seen.imm) _ e5) ?_
 refine RL.asg rfl rfl rfl ?_
 refine RL.finG ?_
 refine GL.seq ?_
 refine GL.region ?_
 refine RL.mv rfl rfl rfl ?_
 refine RL.binI (v := .bool (y4 != (0 : Int))) rfl rfl rfl rfl rfl ?_
 refine RL.finG ?_
 refine GL.cond rfl (fun b6 => ?_) (fun b6 => ?_)
 ·replace hm := ite_t b6 hm
  refine GL.seq ?_
  refine GL.region ?_
  refine RL.mv rfl rfl rfl ?_
  refine RL.asg rfl rfl rfl ?_
  refine RL.asg rfl rfl rfl ?_
  refine RL.asg rfl rfl rfl ?_
  refine RL.finG ?_
  have hm := Option.some.inj hm
  subst hm
  exact GL.ret (Gx.ret (v := .tuple #[.int .i64 (0 : Int), .int .i64 (0 : Int), .int .i64 y4]) (res3 rfl rfl rfl rfl) (fun a w st => st.toPostC rfl))
 replace hm := ite_f b6 hm
 refine GL.skip ?_
 refine GL.seq ?_
 refine GL.region ?_
 refine RL.asg rfl rfl rfl ?_
 refine RL.finG ?_
 refine GL.seq ?_
 refine GL.seq ?_
 refine GL.region ?_
 refine RL.mv rfl rfl rfl ?_
 refine RL.lenS 0 Tryz.underlying61 rfl rfl rfl rfl SlOf.imm ?_
 refine RL.mv rfl rfl rfl ?_
 refine RL.finG ?_
 refine GL.open_ 0 rfl (fun S h => len_imm S h) (fun n12 => ?_)
 obtain ⟨y13, K14, h15, h16, h17, h18, h19⟩ := bindR_K hm
 refine GL.join (ι := Int) (fun (p : Int) => [(0, v0), (6, .int .i64 p)]) (fun (p : Int) => [imm (TR.sl TR.int) v0 x0]) (fun (p : Int) => K14 (.nx p)) ?_ ?_
 ·refine GL.block ?_
  refine GL.loop (ι := Nat × (List Int) × Int) (fun (p : Nat × (List Int) × Int) => [(0, v0), (6, .int .i64 p.2.2), (16, v0), (17, .int .i64 ((x0).length : Int)), (18, .int .i64 (p.1 : Int))]) (fun (p : Nat × (List Int) × Int) => [imm (TR.sl TR.int) v0 x0]) (fun (p : Nat × (List Int) × Int) => p.1 + p.2.1.length = (x0).length ∧ List.drop p.1 x0 = p.2.1 ∧ rangeL piles_Move_b1 p.2.1 p.1 p.2.2 = some y13) (fun (p : Nat × (List Int) × Int) => p.2.1.length) (0, x0, (0 : Int)) ⟨by simp, by simp, h15⟩ (fun a w st => St.cut [0] ⟨rfl, rfl, rfl, rfl, rfl, trivial⟩ (by decide) rfl st) ?_
  rintro ⟨i20, r21, x7⟩ ⟨h26, h27, h25⟩
  try dsimp only at h26 h27 h25
  refine GL.weak (env' := [(0, v0), (6, .int .i64 x7), (16, v0), (17, .int .i64 ((x0).length : Int)), (18, .int .i64 (i20 : Int))]) (L' := [imm (TR.sl TR.int) v0 x0]) ss ?_
  refine GL.seq ?_
  refine GL.region ?_
  refine RL.binI (v := .bool (decide ((i20 : Int) < ((x0).length : Int)))) rfl rfl rfl rfl rfl ?_
  refine RL.finG ?_
  refine GL.seq ?_
  refine GL.cond rfl (fun b28 => ?_) (fun b28 => ?_)
  ·have h29 : i20 < (x0).length := by have := of_decide_eq_true b28; omega
   obtain ⟨y30, r32, hr, e31, h33⟩ := drop_cons h27 rfl h29
   subst hr
   obtain ⟨z22, h23, h24⟩ := rangeL_some h25
   unfold piles_Move_b1 at h23
   try dsimp only at h23
   refine GL.skip ?_
   refine GL.seq ?_
   refine GL.block ?_
   refine GL.seq ?_
   refine GL.region ?_
   refine RL.idxS (sz := 1) 0 Tryz.underlying61 Tryz_ln3 rfl rfl rfl rfl rfl SlOf.imm (by omega) (by omega) ?_
   refine RL.ldSx (i := i20) (e' := y30) 0 Ex.ik Tryz_ln3 rfl rfl rfl rfl SlOf.imm e31 Part.self ?_
   refine RL.asg rfl rfl rfl ?_
   refine RL.finG ?_
   refine GL.region ?_
   refine RL.mv rfl rfl rfl ?_
   refine RL.mv rfl rfl rfl ?_
   refine RL.binI (v := .int .i64 (bits .xor .i64 x7 y30)) rfl rfl rfl rfl rfl ?_
   refine RL.asg rfl rfl rfl ?_
   refine RL.finG ?_
   refine GL.nilB ?_
   refine GL.region ?_
   refine RL.binI (v := .int .i64 ((i20 + 1 : Nat) : Int)) rfl rfl rfl rfl (binI_succ i20 (by omega)) ?_
   refine RL.mv rfl rfl rfl ?_
   refine RL.fin ?_
   cases h23
   exact fun a w st => lop_intro (i20 + 1, r32, bits .xor .i64 x7 y30) ⟨by show i20 + 1 + r32.length = (x0).length; simp only [List.length_cons] at h26; omega, h33, h24⟩ (by simp) (St.cut [0] ⟨rfl, rfl, rfl, rfl, rfl, trivial⟩ (by decide) rfl st)
  have h29 : ¬ i20 < (x0).length := by have := of_decide_eq_false b28; omega
  obtain rfl : r21 = [] := by rw [← h27]; exact List.drop_of_length_le (by omega)
  replace h25 : some (Fl.nx _) = some y13 := h25
  cases h25
  exact GL.exit (fun a w st => mid_intro x7 h16 (St.cut [0] ⟨rfl, rfl, trivial⟩ (by decide) rfl st))
 rintro x7 h34
 have h35 := h17 _ h34
 try dsimp only at h35
 refine GL.weak (env' := [(0, v0), (6, .int .i64 x7)]) (L' := [imm (TR.sl TR.int) v0 x0]) ss ?_
 refine GL.seq ?_
 refine GL.seq ?_
 refine GL.region ?_
 refine RL.mv rfl rfl rfl ?_
 refine RL.lenS 0 Tryz.underlying61 rfl rfl rfl rfl SlOf.imm ?_
 refine RL.mv rfl rfl rfl ?_
 refine RL.finG ?_
 refine GL.open_ 0 rfl (fun S h => len_imm S h) (fun n41 => ?_)
 obtain ⟨y42, K43, h44, h45, h46, h47, h48⟩ := bindR_K h35
 refine GL.join (ι := Unit) (fun (p : Unit) => []) (fun (p : Unit) => []) (fun (p : Unit) => K43 (.nx ())) ?_ ?_
 ·refine GL.block ?_
  refine GL.loop (ι := Nat × (List Int)) (fun (p : Nat × (List Int)) => [(6, .int .i64 x7), (26, v0), (27, .int .i64 ((x0).length : Int)), (28, .int .i64 (p.1 : Int))]) (fun (p : Nat × (List Int)) => [imm (TR.sl TR.int) v0 x0]) (fun (p : Nat × (List Int)) => p.1 + p.2.length = (x0).length ∧ List.drop p.1 x0 = p.2 ∧ rangeL (piles_Move_b2 x7) p.2 p.1 () = some y42) (fun (p : Nat × (List Int)) => p.2.length) (0, x0) ⟨by simp, by simp, h44⟩ (fun a w st => St.cut [0] ⟨rfl, rfl, rfl, rfl, trivial⟩ (by decide) rfl st) ?_
  rintro ⟨i49, r50⟩ ⟨h55, h56, h54⟩
  try dsimp only at h55 h56 h54
  refine GL.weak (env' := [(6, .int .i64 x7), (26, v0), (27, .int .i64 ((x0).length : Int)), (28, .int .i64 (i49 : Int))]) (L' := [imm (TR.sl TR.int) v0 x0]) ss ?_
  refine GL.seq ?_
  refine GL.region ?_
  refine RL.binI (v := .bool (decide ((i49 : Int) < ((x0).length : Int)))) rfl rfl rfl rfl rfl ?_
  refine RL.finG ?_
  refine GL.seq ?_
  refine GL.cond rfl (fun b57 => ?_) (fun b57 => ?_)
  ·have h58 : i49 < (x0).length := by have := of_decide_eq_true b57; omega
   obtain ⟨y59, r61, hr, e60, h62⟩ := drop_cons h56 rfl h58
   subst hr
   obtain ⟨z51, h52, h53⟩ := rangeL_some h54
   unfold piles_Move_b2 at h52
   try dsimp only at h52
   refine GL.skip ?_
   refine GL.seq ?_
   refine GL.block ?_
   refine GL.seq ?_
   refine GL.region ?_
   refine RL.mv rfl rfl rfl ?_
   refine RL.idxS (sz := 1) 0 Tryz.underlying61 Tryz_ln3 rfl rfl rfl rfl rfl SlOf.imm (by omega) (by omega) ?_
   refine RL.ldSx (i := i49) (e' := y59) 0 Ex.ik Tryz_ln3 rfl rfl rfl rfl SlOf.imm e60 Part.self ?_
   refine RL.asg rfl rfl rfl ?_
   refine RL.asg rfl rfl rfl ?_
   refine RL.finG ?_
   refine GL.seq ?_
   refine GL.region ?_
   refine RL.mv rfl rfl rfl ?_
   refine RL.mv rfl rfl rfl ?_
   refine RL.binI (v := .int .i64 (bits .xor .i64 y59 x7)) rfl rfl rfl rfl rfl ?_
   refine RL.mv rfl rfl rfl ?_
   refine RL.binI (v := .bool (decide ((bits .xor .i64 y59 x7) < y59))) rfl rfl rfl rfl rfl ?_
   refine RL.finG ?_
   refine GL.cond rfl (fun b63 => ?_) (fun b63 => ?_)
   ·replace h52 := ite_t b63 h52
    refine GL.seq ?_
    refine GL.region ?_
    refine RL.mv rfl rfl rfl ?_
    refine RL.mv rfl rfl rfl ?_
    refine RL.mv rfl rfl rfl ?_
    refine RL.mv rfl rfl rfl ?_
    refine RL.binI (v := .int .i64 (bits .xor .i64 y59 x7)) rfl rfl rfl rfl rfl ?_
    refine RL.binI (v := .int .i64 (wsub y59 (bits .xor .i64 y59 x7))) rfl rfl rfl rfl rfl ?_
    refine RL.asg rfl rfl rfl ?_
    refine RL.asg rfl rfl rfl ?_
    refine RL.asg rfl rfl rfl ?_
    refine RL.finG ?_
    cases h52
    replace h53 : some (Fl.rt _) = some y42 := h53
    cases h53
    have hh := h47 _ h45
    subst hh
    exact GL.ret (Gx.ret (v := .tuple #[.int .i64 (i49 : Int), .int .i64 (wsub y59 (bits .xor .i64 y59 x7)), .int .i64 (0 : Int)]) (res3 rfl rfl rfl rfl) (fun a w st => st.toPostC rfl))
   replace h52 := ite_f b63 h52
   refine GL.skip ?_
   refine GL.nilB ?_
   refine GL.region ?_
   refine RL.binI (v := .int .i64 ((i49 + 1 : Nat) : Int)) rfl rfl rfl rfl (binI_succ i49 (by omega)) ?_
   refine RL.mv rfl rfl rfl ?_
   refine RL.fin ?_
   cases h52
   exact fun a w st => lop_intro (i49 + 1, r61) ⟨by show i49 + 1 + r61.length = (x0).length; simp only [List.length_cons] at h55; omega, h62, h53⟩ (by simp) (St.cut [0] ⟨rfl, rfl, rfl, rfl, trivial⟩ (by decide) rfl st)
  have h58 : ¬ i49 < (x0).length := by have := of_decide_eq_false b57; omega
  obtain rfl : r50 = [] := by rw [← h56]; exact List.drop_of_length_le (by omega)
  replace h54 : some (Fl.nx _) = some y42 := h54
  cases h54
  exact GL.exit (fun a w st => mid_intro () h45 (St.cut [] trivial (by decide) rfl st))
 rintro ⟨⟩ h64
 have h65 := h46 _ h64
 try dsimp only at h65
 refine GL.weak (env' := []) (L' := []) ss ?_
 refine GL.seq ?_
 refine GL.region ?_
 refine RL.asg rfl rfl rfl ?_
 refine RL.asg rfl rfl rfl ?_
 refine RL.asg rfl rfl rfl ?_
 refine RL.finG ?_
 have h65 := Option.some.inj h65
 subst h65
 exact GL.ret (Gx.ret (v := .tuple #[.int .i64 (0 : Int), .int .i64 (0 : Int), .int .i64 (4 : Int)]) (res3 rfl rfl rfl rfl) (fun a w st => st.toPostC rfl))

theorem auction_Check_c (S : Hp) (w : World) (hS : S.sub w) (v0 : Value) (x0 : (List Int)) (k0 : ((TR.sl TR.int)).vrep S v0 x0) (x1 : Int) (res : Int) (hm : auction_Check_m x0 x1 = some res) : Calls Tryz.prog 51 #[v0, .int .i64 x1] w (PostC w (.int .i64 res)) := by
 refine calls_enter 29 Tryz.func51 Tryz.ntmps51 rfl S true [(0, v0), (1, .int .i64 x1)] [imm (TR.sl TR.int) v0 x0] rfl ⟨rfl, ⟨rfl, trivial⟩⟩ hS ⟨k0, trivial⟩ ?_
 unfold auction_Check_m at hm
 refine GL.seq ?_
 refine GL.region ?_
 refine RL.asg rfl rfl rfl ?_
 refine RL.finG ?_
 refine GL.seq ?_
 refine GL.seq ?_
 refine GL.region ?_
 refine RL.mv rfl rfl rfl ?_
 refine RL.lenS 0 Tryz.underlying61 rfl rfl rfl rfl SlOf.imm ?_
 refine RL.binI (v := .bool (decide (((x0).length : Int) > (10 : Int)))) rfl rfl rfl rfl rfl ?_
 refine RL.finG ?_
 refine GL.cond rfl (fun b3 => ?_) (fun b3 => ?_)
 ·replace hm := ite_t b3 hm
  refine GL.seq ?_
  refine GL.region ?_
  refine RL.asg rfl rfl rfl ?_
  refine RL.finG ?_
  have hm := Option.some.inj hm
  subst hm
  exact GL.ret (Gx.ret (v := .int .i64 (2 : Int)) (res1 rfl rfl) (fun a w st => st.toPostC rfl))
 replace hm := ite_f b3 hm
 refine GL.skip ?_
 refine GL.seq ?_
 refine GL.seq ?_
 refine GL.region ?_
 refine RL.mv rfl rfl rfl ?_
 refine RL.lenS 0 Tryz.underlying61 rfl rfl rfl rfl SlOf.imm ?_
 refine RL.mv rfl rfl rfl ?_
 refine RL.finG ?_
 refine GL.open_ 0 rfl (fun S h => len_imm S h) (fun n22 => ?_)
 obtain ⟨y23, K24, h25, h26, h27, h28, h29⟩ := bindR_K hm
 refine GL.join (ι := Unit) (fun (p : Unit) => [(1, .int .i64 x1)]) (fun (p : Unit) => []) (fun (p : Unit) => K24 (.nx ())) ?_ ?_
 ·refine GL.block ?_
  refine GL.loop (ι := Nat × (List Int)) (fun (p : Nat × (List Int)) => [(1, .int .i64 x1), (10, v0), (11, .int .i64 ((x0).length : Int)), (12, .int .i64 (p.1 : Int))]) (fun (p : Nat × (List Int)) => [imm (TR.sl TR.int) v0 x0]) (fun (p : Nat × (List Int)) => p.1 + p.2.length = (x0).length ∧ List.drop p.1 x0 = p.2 ∧ rangeL auction_Check_b1 p.2 p.1 () = some y23) (fun (p : Nat × (List Int)) => p.2.length) (0, x0) ⟨by simp, by simp, h25⟩ (fun a w st => St.cut [0] ⟨rfl, rfl, rfl, rfl, trivial⟩ (by decide) rfl st) ?_
  rintro ⟨i30, r31⟩ ⟨h36, h37, h35⟩
  try dsimp only at h36 h37 h35
  refine GL.weak (env' := [(1, .int .i64 x1), (10, v0), (11, .int .i64 ((x0).length : Int)), (12, .int .i64 (i30 : Int))]) (L' := [imm (TR.sl TR.int) v0 x0]) ss ?_
  refine GL.seq ?_
  refine GL.region ?_
  refine RL.binI (v := .bool (decide ((i30 : Int) < ((x0).length : Int)))) rfl rfl rfl rfl rfl ?_
  refine RL.finG ?_
  refine GL.seq ?_
  refine GL.cond rfl (fun b38 => ?_) (fun b38 => ?_)
  ·have h39 : i30 < (x0).length := by have := of_decide_eq_true b38; omega
   obtain ⟨y40, r42, hr, e41, h43⟩ := drop_cons h37 rfl h39
   subst hr
   obtain ⟨z32, h33, h34⟩ := rangeL_some h35
   unfold auction_Check_b1 at h33
   try dsimp only at h33
   refine GL.skip ?_
   refine GL.seq ?_
   refine GL.block ?_
   refine GL.seq ?_
   refine GL.region ?_
   refine RL.idxS (sz := 1) 0 Tryz.underlying61 Tryz_ln3 rfl rfl rfl rfl rfl SlOf.imm (by omega) (by omega) ?_
   refine RL.ldSx (i := i30) (e' := y40) 0 Ex.ik Tryz_ln3 rfl rfl rfl rfl SlOf.imm e41 Part.self ?_
   refine RL.asg rfl rfl rfl ?_
   refine RL.finG ?_
   refine GL.seq ?_
   obtain ⟨y47, K48, h49, h50, h51, h52, h53⟩ := bindF_K h33
   refine GL.join (ι := Bool) (fun (p : Bool) => [(1, .int .i64 x1), (10, v0), (11, .int .i64 ((x0).length : Int)), (12, .int .i64 (i30 : Int)), (21, .bool p)]) (fun (p : Bool) => [imm (TR.sl TR.int) v0 x0]) (fun (p : Bool) => K48 (.nx p)) ?_ ?_
   ·skip
    refine GL.region ?_
    refine RL.mv rfl rfl rfl ?_
    refine RL.binI (v := .bool (decide (y40 < (0 : Int)))) rfl rfl rfl rfl rfl ?_
    refine RL.mv rfl rfl rfl ?_
    refine RL.split (t := 18) rfl (fun b54 => ?_) (fun b54 => ?_)
    ·replace h49 := ite_t b54 h49
     refine RL.skip rfl rfl ?_
     refine RL.skip rfl rfl ?_
     refine RL.pickT rfl rfl rfl rfl ?_
     refine RL.fin ?_
     cases h49
     exact fun a w st => mid_intro true h50 (St.cut [0] ⟨rfl, rfl, rfl, rfl, rfl, trivial⟩ (by decide) rfl st)
    replace h49 := ite_f b54 h49
    refine RL.mv rfl rfl rfl ?_
    refine RL.binI (v := .bool (decide (y40 > (1000000 : Int)))) rfl rfl rfl rfl rfl ?_
    refine RL.pickF rfl rfl rfl rfl ?_
    refine RL.fin ?_
    cases h49
    exact fun a w st => mid_intro (decide (y40 > (1000000 : Int))) h50 (St.cut [0] ⟨rfl, rfl, rfl, rfl, rfl, trivial⟩ (by decide) rfl st)
   rintro x46 h55
   have h56 := h51 _ h55
   try dsimp only at h56
   refine GL.weak (env' := [(1, .int .i64 x1), (10, v0), (11, .int .i64 ((x0).length : Int)), (12, .int .i64 (i30 : Int)), (21, .bool x46)]) (L' := [imm (TR.sl TR.int) v0 x0]) ss ?_
   refine GL.cond rfl (fun b57 => ?_) (fun b57 => ?_)
   ·replace h56 := ite_t b57 h56
    refine GL.seq ?_
    refine GL.region ?_
    refine RL.asg rfl rfl rfl ?_
    refine RL.finG ?_
    cases h56
    replace h34 : some (Fl.rt _) = some y23 := h34
    cases h34
    have hh := h28 _ h26
    subst hh
    exact GL.ret (Gx.ret (v := .int .i64 (1 : Int)) (res1 rfl rfl) (fun a w st => st.toPostC rfl))
   replace h56 := ite_f b57 h56
   refine GL.skip ?_
   refine GL.nilB ?_
   refine GL.region ?_
   refine RL.binI (v := .int .i64 ((i30 + 1 : Nat) : Int)) rfl rfl rfl rfl (binI_succ i30 (by omega)) ?_
   refine RL.mv rfl rfl rfl ?_
   refine RL.fin ?_
   cases h56
   exact fun a w st => lop_intro (i30 + 1, r42) ⟨by show i30 + 1 + r42.length = (x0).length; simp only [List.length_cons] at h36; omega, h43, h34⟩ (by simp) (St.cut [0] ⟨rfl, rfl, rfl, rfl, trivial⟩ (by decide) rfl st)
  have h39 : ¬ i30 < (x0).length := by have := of_decide_eq_false b38; omega
  obtain rfl : r31 = [] := by rw [← h37]; exact List.drop_of_length_le (by omega)
  replace h35 : some (Fl.nx _) = some y23 := h35
  cases h35
  exact GL.exit (fun a w st => mid_intro () h26 (St.cut [] ⟨rfl, trivial⟩ (by decide) rfl st))
 rintro ⟨⟩ h58
 have h59 := h27 _ h58
 try dsimp only at h59
 refine GL.weak (env' := [(1, .int .i64 x1)]) (L' := []) ss ?_
 refine GL.seq ?_
 refine GL.seq ?_
 obtain ⟨y63, K64, h65, h66, h67, h68, h69⟩ := bindR_K h59
 refine GL.join (ι := Bool) (fun (p : Bool) => [(28, .bool p)]) (fun (p : Bool) => []) (fun (p : Bool) => K64 (.nx p)) ?_ ?_
 ·skip
  refine GL.region ?_
  refine RL.mv rfl rfl rfl ?_
  refine RL.binI (v := .bool (decide (x1 < (0 : Int)))) rfl rfl rfl rfl rfl ?_
  refine RL.mv rfl rfl rfl ?_
  refine RL.split (t := 25) rfl (fun b70 => ?_) (fun b70 => ?_)
  ·replace h65 := ite_t b70 h65
   refine RL.skip rfl rfl ?_
   refine RL.skip rfl rfl ?_
   refine RL.pickT rfl rfl rfl rfl ?_
   refine RL.fin ?_
   cases h65
   exact fun a w st => mid_intro true h66 (St.cut [] ⟨rfl, trivial⟩ (by decide) rfl st)
  replace h65 := ite_f b70 h65
  refine RL.mv rfl rfl rfl ?_
  refine RL.binI (v := .bool (decide (x1 > (1000000 : Int)))) rfl rfl rfl rfl rfl ?_
  refine RL.pickF rfl rfl rfl rfl ?_
  refine RL.fin ?_
  cases h65
  exact fun a w st => mid_intro (decide (x1 > (1000000 : Int))) h66 (St.cut [] ⟨rfl, trivial⟩ (by decide) rfl st)
 rintro x62 h71
 have h72 := h67 _ h71
 try dsimp only at h72
 refine GL.weak (env' := [(28, .bool x62)]) (L' := []) ss ?_
 refine GL.cond rfl (fun b73 => ?_) (fun b73 => ?_)
 ·replace h72 := ite_t b73 h72
  refine GL.seq ?_
  refine GL.region ?_
  refine RL.asg rfl rfl rfl ?_
  refine RL.finG ?_
  have h72 := Option.some.inj h72
  subst h72
  exact GL.ret (Gx.ret (v := .int .i64 (1 : Int)) (res1 rfl rfl) (fun a w st => st.toPostC rfl))
 replace h72 := ite_f b73 h72
 refine GL.skip ?_
 refine GL.seq ?_
 refine GL.region ?_
 refine RL.asg rfl rfl rfl ?_
 refine RL.finG ?_
 have h72 := Option.some.inj h72
 subst h72
 exact GL.ret (Gx.ret (v := .int .i64 (0 : Int)) (res1 rfl rfl) (fun a w st => st.toPostC rfl))

theorem auction_two_c (S : Hp) (w : World) (hS : S.sub w) (v0 : Value) (x0 : (List Int)) (k0 : ((TR.sl TR.int)).vrep S v0 x0) (x1 : Int) (res : Int × Int) (hm : auction_two_m x0 x1 = some res) : Calls Tryz.prog 52 #[v0, .int .i64 x1] w (PostC w (.tuple #[.int .i64 res.1, .int .i64 res.2])) := by
 refine calls_enter 53 Tryz.func52 Tryz.ntmps52 rfl S true [(0, v0), (1, .int .i64 x1)] [imm (TR.sl TR.int) v0 x0] rfl ⟨rfl, ⟨rfl, trivial⟩⟩ hS ⟨k0, trivial⟩ ?_
 unfold auction_two_m at hm
 refine GL.seq ?_
 refine GL.region ?_
 refine RL.asg rfl rfl rfl ?_
 refine RL.asg rfl rfl rfl ?_
 refine RL.finG ?_
 refine GL.seq ?_
 refine GL.region ?_
 refine RL.asg rfl rfl rfl ?_
 refine RL.finG ?_
 refine GL.seq ?_
 refine GL.seq ?_
 refine GL.region ?_
 refine RL.mv rfl rfl rfl ?_
 refine RL.lenS 0 Tryz.underlying61 rfl rfl rfl rfl SlOf.imm ?_
 refine RL.mv rfl rfl rfl ?_
 refine RL.finG ?_
 refine GL.open_ 0 rfl (fun S h => len_imm S h) (fun n31 => ?_)
 obtain ⟨y32, K33, h34, h35, h36, h37, h38⟩ := bindR_K hm
 refine GL.join (ι := Int) (fun (p : Int) => [(0, v0), (1, .int .i64 x1), (6, .int .i64 p)]) (fun (p : Int) => [imm (TR.sl TR.int) v0 x0]) (fun (p : Int) => K33 (.nx p)) ?_ ?_
 ·refine GL.block ?_
  refine GL.loop (ι := Nat × (List Int) × Int) (fun (p : Nat × (List Int) × Int) => [(0, v0), (1, .int .i64 x1), (6, .int .i64 p.2.2), (12, v0), (13, .int .i64 ((x0).length : Int)), (14, .int .i64 (p.1 : Int))]) (fun (p : Nat × (List Int) × Int) => [imm (TR.sl TR.int) v0 x0]) (fun (p : Nat × (List Int) × Int) => p.1 + p.2.1.length = (x0).length ∧ List.drop p.1 x0 = p.2.1 ∧ rangeL (auction_two_b1 x1 x0) p.2.1 p.1 p.2.2 = some y32) (fun (p : Nat × (List Int) × Int) => p.2.1.length) (0, x0, (-1 : Int)) ⟨by simp, by simp, h34⟩ (fun a w st => St.cut [0] ⟨rfl, rfl, rfl, rfl, rfl, rfl, trivial⟩ (by decide) rfl st) ?_
  rintro ⟨i39, r40, x3⟩ ⟨h45, h46, h44⟩
  try dsimp only at h45 h46 h44
  refine GL.weak (env' := [(0, v0), (1, .int .i64 x1), (6, .int .i64 x3), (12, v0), (13, .int .i64 ((x0).length : Int)), (14, .int .i64 (i39 : Int))]) (L' := [imm (TR.sl TR.int) v0 x0]) ss ?_
  refine GL.seq ?_
  refine GL.region ?_
  refine RL.binI (v := .bool (decide ((i39 : Int) < ((x0).length : Int)))) rfl rfl rfl rfl rfl ?_
  refine RL.finG ?_
  refine GL.seq ?_
  refine GL.cond rfl (fun b47 => ?_) (fun b47 => ?_)
  ·have h48 : i39 < (x0).length := by have := of_decide_eq_true b47; omega
   obtain ⟨y49, r51, hr, e50, h52⟩ := drop_cons h46 rfl h48
   subst hr
   obtain ⟨z41, h42, h43⟩ := rangeL_some h44
   unfold auction_two_b1 at h42
   try dsimp only at h42
   refine GL.skip ?_
   refine GL.seq ?_
   refine GL.block ?_
   refine GL.seq ?_
   refine GL.region ?_
   refine RL.mv rfl rfl rfl ?_
   refine RL.idxS (sz := 1) 0 Tryz.underlying61 Tryz_ln3 rfl rfl rfl rfl rfl SlOf.imm (by omega) (by omega) ?_
   refine RL.ldSx (i := i39) (e' := y49) 0 Ex.ik Tryz_ln3 rfl rfl rfl rfl SlOf.imm e50 Part.self ?_
   refine RL.asg rfl rfl rfl ?_
   refine RL.asg rfl rfl rfl ?_
   refine RL.finG ?_
   refine GL.seq ?_
   obtain ⟨y62, K63, h64, h65, h66, h67, h68⟩ := bindF_K h42
   refine GL.join (ι := Bool) (fun (p : Bool) => [(0, v0), (1, .int .i64 x1), (6, .int .i64 x3), (7, .int .i64 (i39 : Int)), (12, v0), (13, .int .i64 ((x0).length : Int)), (14, .int .i64 (i39 : Int)), (33, .bool p)]) (fun (p : Bool) => [imm (TR.sl TR.int) v0 x0]) (fun (p : Bool) => K63 (.nx p)) ?_ ?_
   ·skip
    refine GL.region ?_
    refine RL.mv rfl rfl rfl ?_
    refine RL.mv rfl rfl rfl ?_
    refine RL.binI (v := .bool (decide (y49 ≥ x1))) rfl rfl rfl rfl rfl ?_
    refine RL.mv rfl rfl rfl ?_
    refine RL.split (t := 22) rfl (fun b69 => ?_) (fun b69 => ?_)
    ·replace h64 := ite_t b69 h64
     refine RL.mv rfl rfl rfl ?_
     refine RL.binI (v := .bool (decide (x3 < (0 : Int)))) rfl rfl rfl rfl rfl ?_
     refine RL.mv rfl rfl rfl ?_
     refine RL.split (t := 25) rfl (fun b70 => ?_) (fun b70 => ?_)
     ·replace h64 := ite_t b70 h64
      refine RL.skip rfl rfl ?_
      refine RL.skip rfl rfl ?_
      refine RL.skip rfl rfl ?_
      refine RL.skip rfl rfl ?_
      refine RL.skip rfl rfl ?_
      refine RL.skip rfl rfl ?_
      refine RL.pickT rfl rfl rfl rfl ?_
      refine RL.pickT rfl rfl rfl rfl ?_
      refine RL.fin ?_
      cases h64
      exact fun a w st => mid_intro true h65 (St.cut [0] ⟨rfl, rfl, rfl, rfl, rfl, rfl, rfl, rfl, trivial⟩ (by decide) rfl st)
     replace h64 := ite_f b70 h64
     refine RL.mv rfl rfl rfl ?_
     refine RL.mv rfl rfl rfl ?_
     refine RL.mv rfl rfl rfl ?_
     obtain ⟨y71, e72, h64⟩ := bind_some h64
     refine RL.idxS (sz := 1) 0 Tryz.underlying61 Tryz_ln3 rfl rfl rfl rfl rfl SlOf.imm (idx_some e72).1 (idx_some e72).2.1 ?_
     refine RL.ldSx (i := (x3).toNat) (e' := y71) 0 Ex.ik Tryz_ln3 rfl rfl rfl rfl SlOf.imm (idx_some e72).2.2 Part.self ?_
     refine RL.binI (v := .bool (decide (y49 > y71))) rfl rfl rfl rfl rfl ?_
     refine RL.pickF rfl rfl rfl rfl ?_
     refine RL.pickT rfl rfl rfl rfl ?_
     refine RL.fin ?_
     cases h64
     exact fun a w st => mid_intro (decide (y49 > y71)) h65 (St.cut [0] ⟨rfl, rfl, rfl, rfl, rfl, rfl, rfl, rfl, trivial⟩ (by decide) rfl st)
    replace h64 := ite_f b69 h64
    refine RL.skip rfl rfl ?_
    refine RL.skip rfl rfl ?_
    refine RL.skip rfl rfl ?_
    refine RL.skip rfl rfl ?_
    refine RL.skip rfl rfl ?_
    refine RL.skip rfl rfl ?_
    refine RL.skip rfl rfl ?_
    refine RL.skip rfl rfl ?_
    refine RL.skip rfl rfl ?_
    refine RL.skip rfl rfl ?_
    refine RL.pickF rfl rfl rfl rfl ?_
    refine RL.fin ?_
    cases h64
    exact fun a w st => mid_intro false h65 (St.cut [0] ⟨rfl, rfl, rfl, rfl, rfl, rfl, rfl, rfl, trivial⟩ (by decide) rfl st)
   rintro x61 h73
   have h74 := h66 _ h73
   try dsimp only at h74
   refine GL.weak (env' := [(0, v0), (1, .int .i64 x1), (6, .int .i64 x3), (7, .int .i64 (i39 : Int)), (12, v0), (13, .int .i64 ((x0).length : Int)), (14, .int .i64 (i39 : Int)), (33, .bool x61)]) (L' := [imm (TR.sl TR.int) v0 x0]) ss ?_
   refine GL.cond rfl (fun b75 => ?_) (fun b75 => ?_)
   ·replace h74 := ite_t b75 h74
    refine GL.region ?_
    refine RL.mv rfl rfl rfl ?_
    refine RL.asg rfl rfl rfl ?_
    refine RL.finG ?_
    refine GL.nilB ?_
    refine GL.region ?_
    refine RL.binI (v := .int .i64 ((i39 + 1 : Nat) : Int)) rfl rfl rfl rfl (binI_succ i39 (by omega)) ?_
    refine RL.mv rfl rfl rfl ?_
    refine RL.fin ?_
    cases h74
    exact fun a w st => lop_intro (i39 + 1, r51, (i39 : Int)) ⟨by show i39 + 1 + r51.length = (x0).length; simp only [List.length_cons] at h45; omega, h52, h43⟩ (by simp) (St.cut [0] ⟨rfl, rfl, rfl, rfl, rfl, rfl, trivial⟩ (by decide) rfl st)
   replace h74 := ite_f b75 h74
   refine GL.skip ?_
   refine GL.nilB ?_
   refine GL.region ?_
   refine RL.binI (v := .int .i64 ((i39 + 1 : Nat) : Int)) rfl rfl rfl rfl (binI_succ i39 (by omega)) ?_
   refine RL.mv rfl rfl rfl ?_
   refine RL.fin ?_
   cases h74
   exact fun a w st => lop_intro (i39 + 1, r51, x3) ⟨by show i39 + 1 + r51.length = (x0).length; simp only [List.length_cons] at h45; omega, h52, h43⟩ (by simp) (St.cut [0] ⟨rfl, rfl, rfl, rfl, rfl, rfl, trivial⟩ (by decide) rfl st)
  have h48 : ¬ i39 < (x0).length := by have := of_decide_eq_false b47; omega
  obtain rfl : r40 = [] := by rw [← h46]; exact List.drop_of_length_le (by omega)
  replace h44 : some (Fl.nx _) = some y32 := h44
  cases h44
  exact GL.exit (fun a w st => mid_intro x3 h35 (St.cut [0] ⟨rfl, rfl, rfl, trivial⟩ (by decide) rfl st))
 rintro x3 h76
 have h77 := h36 _ h76
 try dsimp only at h77
 refine GL.weak (env' := [(0, v0), (1, .int .i64 x1), (6, .int .i64 x3)]) (L' := [imm (TR.sl TR.int) v0 x0]) ss ?_
 refine GL.seq ?_
 refine GL.region ?_
 refine RL.mv rfl rfl rfl ?_
 refine RL.asg rfl rfl rfl ?_
 refine RL.finG ?_
 refine GL.seq ?_
 refine GL.seq ?_
 refine GL.region ?_
 refine RL.mv rfl rfl rfl ?_
 refine RL.lenS 0 Tryz.underlying61 rfl rfl rfl rfl SlOf.imm ?_
 refine RL.mv rfl rfl rfl ?_
 refine RL.finG ?_
 refine GL.open_ 0 rfl (fun S h => len_imm S h) (fun n84 => ?_)
 obtain ⟨y85, K86, h87, h88, h89, h90, h91⟩ := bindR_K h77
 refine GL.join (ι := Int) (fun (p : Int) => [(6, .int .i64 x3), (9, .int .i64 p)]) (fun (p : Int) => []) (fun (p : Int) => K86 (.nx p)) ?_ ?_
 ·refine GL.block ?_
  refine GL.loop (ι := Nat × (List Int) × Int) (fun (p : Nat × (List Int) × Int) => [(6, .int .i64 x3), (9, .int .i64 p.2.2), (37, v0), (38, .int .i64 ((x0).length : Int)), (39, .int .i64 (p.1 : Int))]) (fun (p : Nat × (List Int) × Int) => [imm (TR.sl TR.int) v0 x0]) (fun (p : Nat × (List Int) × Int) => p.1 + p.2.1.length = (x0).length ∧ List.drop p.1 x0 = p.2.1 ∧ rangeL (auction_two_b2 x3) p.2.1 p.1 p.2.2 = some y85) (fun (p : Nat × (List Int) × Int) => p.2.1.length) (0, x0, x1) ⟨by simp, by simp, h87⟩ (fun a w st => St.cut [0] ⟨rfl, rfl, rfl, rfl, rfl, trivial⟩ (by decide) rfl st) ?_
  rintro ⟨i92, r93, x78⟩ ⟨h98, h99, h97⟩
  try dsimp only at h98 h99 h97
  refine GL.weak (env' := [(6, .int .i64 x3), (9, .int .i64 x78), (37, v0), (38, .int .i64 ((x0).length : Int)), (39, .int .i64 (i92 : Int))]) (L' := [imm (TR.sl TR.int) v0 x0]) ss ?_
  refine GL.seq ?_
  refine GL.region ?_
  refine RL.binI (v := .bool (decide ((i92 : Int) < ((x0).length : Int)))) rfl rfl rfl rfl rfl ?_
  refine RL.finG ?_
  refine GL.seq ?_
  refine GL.cond rfl (fun b100 => ?_) (fun b100 => ?_)
  ·have h101 : i92 < (x0).length := by have := of_decide_eq_true b100; omega
   obtain ⟨y102, r104, hr, e103, h105⟩ := drop_cons h99 rfl h101
   subst hr
   obtain ⟨z94, h95, h96⟩ := rangeL_some h97
   unfold auction_two_b2 at h95
   try dsimp only at h95
   refine GL.skip ?_
   refine GL.seq ?_
   refine GL.block ?_
   refine GL.seq ?_
   refine GL.region ?_
   refine RL.mv rfl rfl rfl ?_
   refine RL.idxS (sz := 1) 0 Tryz.underlying61 Tryz_ln3 rfl rfl rfl rfl rfl SlOf.imm (by omega) (by omega) ?_
   refine RL.ldSx (i := i92) (e' := y102) 0 Ex.ik Tryz_ln3 rfl rfl rfl rfl SlOf.imm e103 Part.self ?_
   refine RL.asg rfl rfl rfl ?_
   refine RL.asg rfl rfl rfl ?_
   refine RL.finG ?_
   refine GL.seq ?_
   refine GL.region ?_
   refine RL.mv rfl rfl rfl ?_
   refine RL.mv rfl rfl rfl ?_
   refine RL.binI (v := .bool ((i92 : Int) != x3)) rfl rfl rfl rfl rfl ?_
   refine RL.finG ?_
   refine GL.cond rfl (fun b106 => ?_) (fun b106 => ?_)
   ·replace h95 := ite_t b106 h95
    refine GL.region ?_
    refine RL.mv rfl rfl rfl ?_
    refine RL.mv rfl rfl rfl ?_
    refine RL.maxI rfl rfl rfl rfl ?_
    refine RL.asg rfl rfl rfl ?_
    refine RL.finG ?_
    refine GL.nilB ?_
    refine GL.region ?_
    refine RL.binI (v := .int .i64 ((i92 + 1 : Nat) : Int)) rfl rfl rfl rfl (binI_succ i92 (by omega)) ?_
    refine RL.mv rfl rfl rfl ?_
    refine RL.fin ?_
    cases h95
    exact fun a w st => lop_intro (i92 + 1, r104, if y102 > x78 then y102 else x78) ⟨by show i92 + 1 + r104.length = (x0).length; simp only [List.length_cons] at h98; omega, h105, h96⟩ (by simp) (St.cut [0] ⟨rfl, rfl, rfl, rfl, rfl, trivial⟩ (by decide) rfl st)
   replace h95 := ite_f b106 h95
   refine GL.skip ?_
   refine GL.nilB ?_
   refine GL.region ?_
   refine RL.binI (v := .int .i64 ((i92 + 1 : Nat) : Int)) rfl rfl rfl rfl (binI_succ i92 (by omega)) ?_
   refine RL.mv rfl rfl rfl ?_
   refine RL.fin ?_
   cases h95
   exact fun a w st => lop_intro (i92 + 1, r104, x78) ⟨by show i92 + 1 + r104.length = (x0).length; simp only [List.length_cons] at h98; omega, h105, h96⟩ (by simp) (St.cut [0] ⟨rfl, rfl, rfl, rfl, rfl, trivial⟩ (by decide) rfl st)
  have h101 : ¬ i92 < (x0).length := by have := of_decide_eq_false b100; omega
  obtain rfl : r93 = [] := by rw [← h99]; exact List.drop_of_length_le (by omega)
  replace h97 : some (Fl.nx _) = some y85 := h97
  cases h97
  exact GL.exit (fun a w st => mid_intro x78 h88 (St.cut [] ⟨rfl, rfl, trivial⟩ (by decide) rfl st))
 rintro x78 h107
 have h108 := h89 _ h107
 try dsimp only at h108
 refine GL.weak (env' := [(6, .int .i64 x3), (9, .int .i64 x78)]) (L' := []) ss ?_
 refine GL.seq ?_
 refine GL.region ?_
 refine RL.mv rfl rfl rfl ?_
 refine RL.mv rfl rfl rfl ?_
 refine RL.asg rfl rfl rfl ?_
 refine RL.asg rfl rfl rfl ?_
 refine RL.finG ?_
 have h108 := Option.some.inj h108
 subst h108
 exact GL.ret (Gx.ret (v := .tuple #[.int .i64 x3, .int .i64 x78]) (res2 rfl rfl rfl) (fun a w st => st.toPostC rfl))

theorem auction_Second_c (S : Hp) (w : World) (hS : S.sub w) (v0 : Value) (x0 : (List Int)) (k0 : ((TR.sl TR.int)).vrep S v0 x0) (x1 : Int) (res : Int × Int × Int) (hm : auction_Second_m x0 x1 = some res) : Calls Tryz.prog 31 #[v0, .int .i64 x1] w (PostC w (.tuple #[.int .i64 res.1, .int .i64 res.2.1, .int .i64 res.2.2])) := by
 refine calls_enter 26 Tryz.func31 Tryz.ntmps31 rfl S true [(0, v0), (1, .int .i64 x1)] [imm (TR.sl TR.int) v0 x0] rfl ⟨rfl, ⟨rfl, trivial⟩⟩ hS ⟨k0, trivial⟩ ?_
 unfold auction_Second_m at hm
 refine GL.seq ?_
 refine GL.region ?_
 refine RL.asg rfl rfl rfl ?_
 refine RL.asg rfl rfl rfl ?_
 refine RL.asg rfl rfl rfl ?_
 refine RL.finG ?_
 refine GL.seq ?_
 refine GL.seq ?_
 refine GL.region ?_
 refine RL.mv rfl rfl rfl ?_
 refine RL.mv rfl rfl rfl ?_
 obtain ⟨y5, e6, hm⟩ := bind_some hm
 refine RL.callC (v := .int .i64 y5) (vs := [v0, .int .i64 x1]) Tryz_fit51 rfl rfl rfl rfl (fun U w hU hW hL => auction_Check_c U w hU _ _ (hL 0 _ _ rfl Seen.imm) x1 _ e6) ?_
 refine RL.asg rfl rfl rfl ?_
 refine RL.finG ?_
 refine GL.seq ?_
 refine GL.region ?_
 refine RL.mv rfl rfl rfl ?_
 refine RL.binI (v := .bool (y5 != (0 : Int))) rfl rfl rfl rfl rfl ?_
 refine RL.finG ?_
 refine GL.cond rfl (fun b7 => ?_) (fun b7 => ?_)
 ·replace hm := ite_t b7 hm
  refine GL.seq ?_
  refine GL.region ?_
  refine RL.mv rfl rfl rfl ?_
  refine RL.asg rfl rfl rfl ?_
  refine RL.asg rfl rfl rfl ?_
  refine RL.asg rfl rfl rfl ?_
  refine RL.finG ?_
  have hm := Option.some.inj hm
  subst hm
  exact GL.ret (Gx.ret (v := .tuple #[.int .i64 (0 : Int), .int .i64 (0 : Int), .int .i64 y5]) (res3 rfl rfl rfl rfl) (fun a w st => st.toPostC rfl))
 replace hm := ite_f b7 hm
 refine GL.skip ?_
 refine GL.seq ?_
 refine GL.region ?_
 refine RL.mv rfl rfl rfl ?_
 refine RL.mv rfl rfl rfl ?_
 obtain ⟨y10, e11, hm⟩ := bind_some hm
 refine RL.callC (v := .tuple #[.int .i64 y10.1, .int .i64 y10.2]) (vs := [v0, .int .i64 x1]) Tryz_fit52 rfl rfl rfl rfl (fun U w hU hW hL => auction_two_c U w hU _ _ (hL 0 _ _ rfl Seen.imm) x1 _ e11) ?_
 refine RL.mv rfl rfl rfl ?_
 refine RL.ext rfl rfl rfl rfl ?_
 refine RL.ext rfl rfl rfl rfl ?_
 refine RL.asg rfl rfl rfl ?_
 refine RL.asg rfl rfl rfl ?_
 refine RL.finG ?_
 refine GL.seq ?_
 refine GL.seq ?_
 refine GL.region ?_
 refine RL.mv rfl rfl rfl ?_
 refine RL.binI (v := .bool (decide (y10.1 < (0 : Int)))) rfl rfl rfl rfl rfl ?_
 refine RL.finG ?_
 refine GL.cond rfl (fun b12 => ?_) (fun b12 => ?_)
 ·replace hm := ite_t b12 hm
  refine GL.seq ?_
  refine GL.region ?_
  refine RL.asg rfl rfl rfl ?_
  refine RL.asg rfl rfl rfl ?_
  refine RL.asg rfl rfl rfl ?_
  refine RL.finG ?_
  have hm := Option.some.inj hm
  subst hm
  exact GL.ret (Gx.ret (v := .tuple #[.int .i64 (0 : Int), .int .i64 (0 : Int), .int .i64 (4 : Int)]) (res3 rfl rfl rfl rfl) (fun a w st => st.toPostC rfl))
 replace hm := ite_f b12 hm
 refine GL.skip ?_
 refine GL.seq ?_
 refine GL.region ?_
 refine RL.mv rfl rfl rfl ?_
 refine RL.mv rfl rfl rfl ?_
 refine RL.asg rfl rfl rfl ?_
 refine RL.asg rfl rfl rfl ?_
 refine RL.asg rfl rfl rfl ?_
 refine RL.finG ?_
 have hm := Option.some.inj hm
 subst hm
 exact GL.ret (Gx.ret (v := .tuple #[.int .i64 y10.1, .int .i64 y10.2, .int .i64 (0 : Int)]) (res3 rfl rfl rfl rfl) (fun a w st => st.toPostC rfl))

theorem seats_Check_c (S : Hp) (w : World) (hS : S.sub w) (v0 : Value) (x0 : (List Int)) (k0 : ((TR.sl TR.int)).vrep S v0 x0) (x1 : Int) (res : Int) (hm : seats_Check_m x0 x1 = some res) : Calls Tryz.prog 53 #[v0, .int .i64 x1] w (PostC w (.int .i64 res)) := by
 refine calls_enter 40 Tryz.func53 Tryz.ntmps53 rfl S true [(0, v0), (1, .int .i64 x1)] [imm (TR.sl TR.int) v0 x0] rfl ⟨rfl, ⟨rfl, trivial⟩⟩ hS ⟨k0, trivial⟩ ?_
 unfold seats_Check_m at hm
 refine GL.seq ?_
 refine GL.region ?_
 refine RL.asg rfl rfl rfl ?_
 refine RL.finG ?_
 refine GL.seq ?_
 refine GL.seq ?_
 obtain ⟨y6, K7, h8, h9, h10, h11, h12⟩ := bindR_K hm
 refine GL.join (ι := Bool) (fun (p : Bool) => [(0, v0), (1, .int .i64 x1), (15, .bool p)]) (fun (p : Bool) => [imm (TR.sl TR.int) v0 x0]) (fun (p : Bool) => K7 (.nx p)) ?_ ?_
 ·skip
  refine GL.region ?_
  refine RL.mv rfl rfl rfl ?_
  refine RL.lenS 0 Tryz.underlying61 rfl rfl rfl rfl SlOf.imm ?_
  refine RL.binI (v := .bool (decide (((x0).length : Int) < (1 : Int)))) rfl rfl rfl rfl rfl ?_
  refine RL.mv rfl rfl rfl ?_
  refine RL.split (t := 11) rfl (fun b13 => ?_) (fun b13 => ?_)
  ·replace h8 := ite_t b13 h8
   refine RL.skip rfl rfl ?_
   refine RL.skip rfl rfl ?_
   refine RL.skip rfl rfl ?_
   refine RL.pickT rfl rfl rfl rfl ?_
   refine RL.fin ?_
   cases h8
   exact fun a w st => mid_intro true h9 (St.cut [0] ⟨rfl, rfl, rfl, trivial⟩ (by decide) rfl st)
  replace h8 := ite_f b13 h8
  refine RL.mv rfl rfl rfl ?_
  refine RL.lenS 0 Tryz.underlying61 rfl rfl rfl rfl SlOf.imm ?_
  refine RL.binI (v := .bool (decide (((x0).length : Int) > (8 : Int)))) rfl rfl rfl rfl rfl ?_
  refine RL.pickF rfl rfl rfl rfl ?_
  refine RL.fin ?_
  cases h8
  exact fun a w st => mid_intro (decide (((x0).length : Int) > (8 : Int))) h9 (St.cut [0] ⟨rfl, rfl, rfl, trivial⟩ (by decide) rfl st)
 rintro x5 h14
 have h15 := h10 _ h14
 try dsimp only at h15
 refine GL.weak (env' := [(0, v0), (1, .int .i64 x1), (15, .bool x5)]) (L' := [imm (TR.sl TR.int) v0 x0]) ss ?_
 refine GL.cond rfl (fun b16 => ?_) (fun b16 => ?_)
 ·replace h15 := ite_t b16 h15
  refine GL.seq ?_
  refine GL.region ?_
  refine RL.asg rfl rfl rfl ?_
  refine RL.finG ?_
  have h15 := Option.some.inj h15
  subst h15
  exact GL.ret (Gx.ret (v := .int .i64 (2 : Int)) (res1 rfl rfl) (fun a w st => st.toPostC rfl))
 replace h15 := ite_f b16 h15
 refine GL.skip ?_
 refine GL.seq ?_
 refine GL.region ?_
 refine RL.asg rfl rfl rfl ?_
 refine RL.finG ?_
 refine GL.seq ?_
 refine GL.seq ?_
 refine GL.region ?_
 refine RL.mv rfl rfl rfl ?_
 refine RL.lenS 0 Tryz.underlying61 rfl rfl rfl rfl SlOf.imm ?_
 refine RL.mv rfl rfl rfl ?_
 refine RL.finG ?_
 refine GL.open_ 0 rfl (fun S h => len_imm S h) (fun n36 => ?_)
 obtain ⟨y37, K38, h39, h40, h41, h42, h43⟩ := bindR_K h15
 refine GL.join (ι := Int) (fun (p : Int) => [(1, .int .i64 x1), (5, .int .i64 p)]) (fun (p : Int) => []) (fun (p : Int) => K38 (.nx p)) ?_ ?_
 ·refine GL.block ?_
  refine GL.loop (ι := Nat × (List Int) × Int) (fun (p : Nat × (List Int) × Int) => [(1, .int .i64 x1), (5, .int .i64 p.2.2), (16, v0), (17, .int .i64 ((x0).length : Int)), (18, .int .i64 (p.1 : Int))]) (fun (p : Nat × (List Int) × Int) => [imm (TR.sl TR.int) v0 x0]) (fun (p : Nat × (List Int) × Int) => p.1 + p.2.1.length = (x0).length ∧ List.drop p.1 x0 = p.2.1 ∧ rangeL seats_Check_b1 p.2.1 p.1 p.2.2 = some y37) (fun (p : Nat × (List Int) × Int) => p.2.1.length) (0, x0, (0 : Int)) ⟨by simp, by simp, h39⟩ (fun a w st => St.cut [0] ⟨rfl, rfl, rfl, rfl, rfl, trivial⟩ (by decide) rfl st) ?_
  rintro ⟨i44, r45, x17⟩ ⟨h50, h51, h49⟩
  try dsimp only at h50 h51 h49
  refine GL.weak (env' := [(1, .int .i64 x1), (5, .int .i64 x17), (16, v0), (17, .int .i64 ((x0).length : Int)), (18, .int .i64 (i44 : Int))]) (L' := [imm (TR.sl TR.int) v0 x0]) ss ?_
  refine GL.seq ?_
  refine GL.region ?_
  refine RL.binI (v := .bool (decide ((i44 : Int) < ((x0).length : Int)))) rfl rfl rfl rfl rfl ?_
  refine RL.finG ?_
  refine GL.seq ?_
  refine GL.cond rfl (fun b52 => ?_) (fun b52 => ?_)
  ·have h53 : i44 < (x0).length := by have := of_decide_eq_true b52; omega
   obtain ⟨y54, r56, hr, e55, h57⟩ := drop_cons h51 rfl h53
   subst hr
   obtain ⟨z46, h47, h48⟩ := rangeL_some h49
   unfold seats_Check_b1 at h47
   try dsimp only at h47
   refine GL.skip ?_
   refine GL.seq ?_
   refine GL.block ?_
   refine GL.seq ?_
   refine GL.region ?_
   refine RL.idxS (sz := 1) 0 Tryz.underlying61 Tryz_ln3 rfl rfl rfl rfl rfl SlOf.imm (by omega) (by omega) ?_
   refine RL.ldSx (i := i44) (e' := y54) 0 Ex.ik Tryz_ln3 rfl rfl rfl rfl SlOf.imm e55 Part.self ?_
   refine RL.asg rfl rfl rfl ?_
   refine RL.finG ?_
   refine GL.seq ?_
   refine GL.seq ?_
   obtain ⟨y61, K62, h63, h64, h65, h66, h67⟩ := bindF_K h47
   refine GL.join (ι := Bool) (fun (p : Bool) => [(1, .int .i64 x1), (5, .int .i64 x17), (7, .int .i64 y54), (16, v0), (17, .int .i64 ((x0).length : Int)), (18, .int .i64 (i44 : Int)), (27, .bool p)]) (fun (p : Bool) => [imm (TR.sl TR.int) v0 x0]) (fun (p : Bool) => K62 (.nx p)) ?_ ?_
   ·skip
    refine GL.region ?_
    refine RL.mv rfl rfl rfl ?_
    refine RL.binI (v := .bool (decide (y54 < (0 : Int)))) rfl rfl rfl rfl rfl ?_
    refine RL.mv rfl rfl rfl ?_
    refine RL.split (t := 24) rfl (fun b68 => ?_) (fun b68 => ?_)
    ·replace h63 := ite_t b68 h63
     refine RL.skip rfl rfl ?_
     refine RL.skip rfl rfl ?_
     refine RL.pickT rfl rfl rfl rfl ?_
     refine RL.fin ?_
     cases h63
     exact fun a w st => mid_intro true h64 (St.cut [0] ⟨rfl, rfl, rfl, rfl, rfl, rfl, rfl, trivial⟩ (by decide) rfl st)
    replace h63 := ite_f b68 h63
    refine RL.mv rfl rfl rfl ?_
    refine RL.binI (v := .bool (decide (y54 > (1000000 : Int)))) rfl rfl rfl rfl rfl ?_
    refine RL.pickF rfl rfl rfl rfl ?_
    refine RL.fin ?_
    cases h63
    exact fun a w st => mid_intro (decide (y54 > (1000000 : Int))) h64 (St.cut [0] ⟨rfl, rfl, rfl, rfl, rfl, rfl, rfl, trivial⟩ (by decide) rfl st)
   rintro x60 h69
   have h70 := h65 _ h69
   try dsimp only at h70
   refine GL.weak (env' := [(1, .int .i64 x1), (5, .int .i64 x17), (7, .int .i64 y54), (16, v0), (17, .int .i64 ((x0).length : Int)), (18, .int .i64 (i44 : Int)), (27, .bool x60)]) (L' := [imm (TR.sl TR.int) v0 x0]) ss ?_
   refine GL.cond rfl (fun b71 => ?_) (fun b71 => ?_)
   ·replace h70 := ite_t b71 h70
    refine GL.seq ?_
    refine GL.region ?_
    refine RL.asg rfl rfl rfl ?_
    refine RL.finG ?_
    cases h70
    replace h48 : some (Fl.rt _) = some y37 := h48
    cases h48
    have hh := h42 _ h40
    subst hh
    exact GL.ret (Gx.ret (v := .int .i64 (1 : Int)) (res1 rfl rfl) (fun a w st => st.toPostC rfl))
   replace h70 := ite_f b71 h70
   refine GL.skip ?_
   refine GL.region ?_
   refine RL.mv rfl rfl rfl ?_
   refine RL.mv rfl rfl rfl ?_
   refine RL.binI (v := .int .i64 (wadd x17 y54)) rfl rfl rfl rfl rfl ?_
   refine RL.asg rfl rfl rfl ?_
   refine RL.finG ?_
   refine GL.nilB ?_
   refine GL.region ?_
   refine RL.binI (v := .int .i64 ((i44 + 1 : Nat) : Int)) rfl rfl rfl rfl (binI_succ i44 (by omega)) ?_
   refine RL.mv rfl rfl rfl ?_
   refine RL.fin ?_
   cases h70
   exact fun a w st => lop_intro (i44 + 1, r56, wadd x17 y54) ⟨by show i44 + 1 + r56.length = (x0).length; simp only [List.length_cons] at h50; omega, h57, h48⟩ (by simp) (St.cut [0] ⟨rfl, rfl, rfl, rfl, rfl, trivial⟩ (by decide) rfl st)
  have h53 : ¬ i44 < (x0).length := by have := of_decide_eq_false b52; omega
  obtain rfl : r45 = [] := by rw [← h51]; exact List.drop_of_length_le (by omega)
  replace h49 : some (Fl.nx _) = some y37 := h49
  cases h49
  exact GL.exit (fun a w st => mid_intro x17 h40 (St.cut [] ⟨rfl, rfl, trivial⟩ (by decide) rfl st))
 rintro x17 h72
 have h73 := h41 _ h72
 try dsimp only at h73
 refine GL.weak (env' := [(1, .int .i64 x1), (5, .int .i64 x17)]) (L' := []) ss ?_
 refine GL.seq ?_
 refine GL.seq ?_
 refine GL.region ?_
 refine RL.mv rfl rfl rfl ?_
 refine RL.binI (v := .bool (x17 == (0 : Int))) rfl rfl rfl rfl rfl ?_
 refine RL.finG ?_
 refine GL.cond rfl (fun b74 => ?_) (fun b74 => ?_)
 ·replace h73 := ite_t b74 h73
  refine GL.seq ?_
  refine GL.region ?_
  refine RL.asg rfl rfl rfl ?_
  refine RL.finG ?_
  have h73 := Option.some.inj h73
  subst h73
  exact GL.ret (Gx.ret (v := .int .i64 (4 : Int)) (res1 rfl rfl) (fun a w st => st.toPostC rfl))
 replace h73 := ite_f b74 h73
 refine GL.skip ?_
 refine GL.seq ?_
 refine GL.seq ?_
 obtain ⟨y78, K79, h80, h81, h82, h83, h84⟩ := bindR_K h73
 refine GL.join (ι := Bool) (fun (p : Bool) => [(39, .bool p)]) (fun (p : Bool) => []) (fun (p : Bool) => K79 (.nx p)) ?_ ?_
 ·skip
  refine GL.region ?_
  refine RL.mv rfl rfl rfl ?_
  refine RL.binI (v := .bool (decide (x1 < (0 : Int)))) rfl rfl rfl rfl rfl ?_
  refine RL.mv rfl rfl rfl ?_
  refine RL.split (t := 36) rfl (fun b85 => ?_) (fun b85 => ?_)
  ·replace h80 := ite_t b85 h80
   refine RL.skip rfl rfl ?_
   refine RL.skip rfl rfl ?_
   refine RL.pickT rfl rfl rfl rfl ?_
   refine RL.fin ?_
   cases h80
   exact fun a w st => mid_intro true h81 (St.cut [] ⟨rfl, trivial⟩ (by decide) rfl st)
  replace h80 := ite_f b85 h80
  refine RL.mv rfl rfl rfl ?_
  refine RL.binI (v := .bool (decide (x1 > (100 : Int)))) rfl rfl rfl rfl rfl ?_
  refine RL.pickF rfl rfl rfl rfl ?_
  refine RL.fin ?_
  cases h80
  exact fun a w st => mid_intro (decide (x1 > (100 : Int))) h81 (St.cut [] ⟨rfl, trivial⟩ (by decide) rfl st)
 rintro x77 h86
 have h87 := h82 _ h86
 try dsimp only at h87
 refine GL.weak (env' := [(39, .bool x77)]) (L' := []) ss ?_
 refine GL.cond rfl (fun b88 => ?_) (fun b88 => ?_)
 ·replace h87 := ite_t b88 h87
  refine GL.seq ?_
  refine GL.region ?_
  refine RL.asg rfl rfl rfl ?_
  refine RL.finG ?_
  have h87 := Option.some.inj h87
  subst h87
  exact GL.ret (Gx.ret (v := .int .i64 (1 : Int)) (res1 rfl rfl) (fun a w st => st.toPostC rfl))
 replace h87 := ite_f b88 h87
 refine GL.skip ?_
 refine GL.seq ?_
 refine GL.region ?_
 refine RL.asg rfl rfl rfl ?_
 refine RL.finG ?_
 have h87 := Option.some.inj h87
 subst h87
 exact GL.ret (Gx.ret (v := .int .i64 (0 : Int)) (res1 rfl rfl) (fun a w st => st.toPostC rfl))

theorem seats_divided_c (S : Hp) (w : World) (hS : S.sub w) (v0 : Value) (x0 : (List Int)) (k0 : ((TR.sl TR.int)).vrep S v0 x0) (x1 : Int) (x2 : Int) (res : (List Int)) (hm : seats_divided_m x0 x1 x2 = some res) : Calls Tryz.prog 54 #[v0, .int .i64 x1, .int .i64 x2] w (Post w S (fun (o : Value) => o) (fun (o : Value) => [own 3 TR.int o res])) := by
 refine calls_enter 56 Tryz.func54 Tryz.ntmps54 rfl S false [(0, v0), (1, .int .i64 x1), (2, .int .i64 x2)] [imm (TR.sl TR.int) v0 x0] rfl ⟨rfl, ⟨rfl, ⟨rfl, trivial⟩⟩⟩ hS ⟨k0, trivial⟩ ?_
 unfold seats_divided_m at hm
 refine GL.seq ?_
 refine GL.region ?_
 refine RL.asg rfl rfl rfl ?_
 refine RL.finG ?_
 refine GL.seq ?_
 refine GL.region ?_
 refine RL.mv rfl rfl rfl ?_
 refine RL.lenS 0 Tryz.underlying61 rfl rfl rfl rfl SlOf.imm ?_
 obtain ⟨y7, e8, hm⟩ := bind_some hm
 replace e8 := chk_some e8
 refine RL.mkS (t := TR.int) (z := (0 : Int)) Tryz.underlying61 Tryz_lo3 (fun S => rfl) rfl rfl rfl rfl e8.1 e8.2 ?_
 intro v9
 refine RL.asg rfl rfl rfl ?_
 refine RL.finG ?_
 refine GL.seq ?_
 refine GL.seq ?_
 refine GL.region ?_
 refine RL.mv rfl rfl rfl ?_
 refine RL.mv rfl rfl rfl ?_
 refine RL.finG ?_
 obtain ⟨y138, e139, hm⟩ := bind_some hm
 replace e139 := chk_some e139
 obtain ⟨y140, K141, h142, h143, h144, h145, h146⟩ := bindR_K hm
 refine GL.join (ι := (List Int)) (fun (p : (List Int)) => [(7, v9)]) (fun (p : (List Int)) => [own 3 TR.int v9 p]) (fun (p : (List Int)) => K141 (.nx p)) ?_ ?_
 ·refine GL.block ?_
  refine GL.loop (ι := Nat × Nat × (List Int)) (fun (p : Nat × Nat × (List Int)) => [(0, v0), (2, .int .i64 x2), (7, v9), (14, .int .i64 x1), (15, .int .i64 (p.1 : Int))]) (fun (p : Nat × Nat × (List Int)) => [imm (TR.sl TR.int) v0 x0, own 3 TR.int v9 p.2.2]) (fun (p : Nat × Nat × (List Int)) => p.1 + p.2.1 = (x1).toNat ∧ rangeN (seats_divided_b1 x0 x2) p.2.1 p.1 p.2.2 = some y140) (fun (p : Nat × Nat × (List Int)) => p.2.1) (0, (x1).toNat, (List.replicate (((x0).length : Int)).toNat (0 : Int))) ⟨by simp, h142⟩ (fun a w st => St.cut [0, 1] ⟨rfl, rfl, rfl, rfl, rfl, trivial⟩ (by decide) rfl st) ?_
  rintro ⟨i147, r148, l73⟩ ⟨h153, h152⟩
  try dsimp only at h153 h152
  refine GL.weak (env' := [(0, v0), (2, .int .i64 x2), (7, v9), (14, .int .i64 x1), (15, .int .i64 (i147 : Int))]) (L' := [imm (TR.sl TR.int) v0 x0, own 3 TR.int v9 l73]) ss ?_
  refine GL.seq ?_
  refine GL.region ?_
  refine RL.binI (v := .bool (decide ((i147 : Int) < x1))) rfl rfl rfl rfl rfl ?_
  refine RL.finG ?_
  refine GL.seq ?_
  refine GL.cond rfl (fun b155 => ?_) (fun b155 => ?_)
  ·have h156 : i147 < (x1).toNat := by have := of_decide_eq_true b155; omega
   obtain ⟨r157, hr⟩ : ∃ m, r148 = m + 1 := ⟨r148 - 1, by omega⟩
   subst hr
   obtain ⟨z149, h150, h151⟩ := rangeN_some h152
   unfold seats_divided_b1 at h150
   try dsimp only at h150
   refine GL.skip ?_
   refine GL.seq ?_
   refine GL.block ?_
   refine GL.seq ?_
   refine GL.region ?_
   refine RL.asg rfl rfl rfl ?_
   refine RL.finG ?_
   refine GL.seq ?_
   refine GL.seq ?_
   refine GL.region ?_
   refine RL.mv rfl rfl rfl ?_
   refine RL.lenS 0 Tryz.underlying61 rfl rfl rfl rfl SlOf.imm ?_
   refine RL.mv rfl rfl rfl ?_
   refine RL.finG ?_
   refine GL.open_ 0 rfl (fun S h => len_imm S h) (fun n176 => ?_)
   obtain ⟨y177, K178, h179, h180, h181, h182, h183⟩ := bindF_K h150
   refine GL.join (ι := Int) (fun (p : Int) => [(0, v0), (2, .int .i64 x2), (7, v9), (8, .int .i64 p), (14, .int .i64 x1), (15, .int .i64 (i147 : Int))]) (fun (p : Int) => [imm (TR.sl TR.int) v0 x0, own 3 TR.int v9 l73]) (fun (p : Int) => K178 (.nx p)) ?_ ?_
   ·refine GL.block ?_
    refine GL.loop (ι := Nat × (List Int) × Int) (fun (p : Nat × (List Int) × Int) => [(0, v0), (2, .int .i64 x2), (7, v9), (8, .int .i64 p.2.2), (14, .int .i64 x1), (15, .int .i64 (i147 : Int)), (17, v0), (18, .int .i64 ((x0).length : Int)), (19, .int .i64 (p.1 : Int))]) (fun (p : Nat × (List Int) × Int) => [imm (TR.sl TR.int) v0 x0, own 3 TR.int v9 l73]) (fun (p : Nat × (List Int) × Int) => p.1 + p.2.1.length = (x0).length ∧ List.drop p.1 x0 = p.2.1 ∧ rangeL (seats_divided_b2 l73 x0 x2) p.2.1 p.1 p.2.2 = some y177) (fun (p : Nat × (List Int) × Int) => p.2.1.length) (0, x0, (0 : Int)) ⟨by simp, by simp, h179⟩ (fun a w st => St.cut [0, 1] ⟨rfl, rfl, rfl, rfl, rfl, rfl, rfl, rfl, rfl, trivial⟩ (by decide) rfl st) ?_
    rintro ⟨i184, r185, x158⟩ ⟨h190, h191, h189⟩
    try dsimp only at h190 h191 h189
    refine GL.weak (env' := [(0, v0), (2, .int .i64 x2), (7, v9), (8, .int .i64 x158), (14, .int .i64 x1), (15, .int .i64 (i147 : Int)), (17, v0), (18, .int .i64 ((x0).length : Int)), (19, .int .i64 (i184 : Int))]) (L' := [imm (TR.sl TR.int) v0 x0, own 3 TR.int v9 l73]) ss ?_
    refine GL.seq ?_
    refine GL.region ?_
    refine RL.binI (v := .bool (decide ((i184 : Int) < ((x0).length : Int)))) rfl rfl rfl rfl rfl ?_
    refine RL.finG ?_
    refine GL.seq ?_
    refine GL.cond rfl (fun b192 => ?_) (fun b192 => ?_)
    ·have h193 : i184 < (x0).length := by have := of_decide_eq_true b192; omega
     obtain ⟨y194, r196, hr, e195, h197⟩ := drop_cons h191 rfl h193
     subst hr
     obtain ⟨z186, h187, h188⟩ := rangeL_some h189
     unfold seats_divided_b2 at h187
     try dsimp only at h187
     refine GL.skip ?_
     refine GL.seq ?_
     refine GL.block ?_
     refine GL.seq ?_
     refine GL.region ?_
     refine RL.mv rfl rfl rfl ?_
     refine RL.idxS (sz := 1) 0 Tryz.underlying61 Tryz_ln3 rfl rfl rfl rfl rfl SlOf.imm (by omega) (by omega) ?_
     refine RL.ldSx (i := i184) (e' := y194) 0 Ex.ik Tryz_ln3 rfl rfl rfl rfl SlOf.imm e195 Part.self ?_
     refine RL.asg rfl rfl rfl ?_
     refine RL.asg rfl rfl rfl ?_
     refine RL.finG ?_
     refine GL.seq ?_
     refine GL.regionQ rfl rfl (by kernel_rfl) ?_
     refine RL.mv rfl rfl rfl ?_
     refine RL.mv rfl rfl rfl ?_
     refine RL.mv rfl rfl rfl ?_
     refine RL.mv rfl rfl rfl ?_
     obtain ⟨y204, e205, h187⟩ := bind_some h187
     refine RL.idxS (sz := 1) 1 Tryz.underlying61 Tryz_ln3 rfl rfl rfl rfl rfl SlOf.own (idx_some e205).1 (idx_some e205).2.1 ?_
     refine RL.ldSx (i := (x158).toNat) (e' := y204) 1 Ex.ik Tryz_ln3 rfl rfl rfl rfl SlOf.own (idx_some e205).2.2 Part.self ?_
     refine RL.binI (v := .int .i64 (wmul x2 y204)) rfl rfl rfl rfl rfl ?_
     refine RL.binI (v := .int .i64 (wadd (wmul x2 y204) (1 : Int))) rfl rfl rfl rfl rfl ?_
     refine RL.binI (v := .int .i64 (wmul y194 (wadd (wmul x2 y204) (1 : Int)))) rfl rfl rfl rfl rfl ?_
     refine RL.mv rfl rfl rfl ?_
     refine RL.mv rfl rfl rfl ?_
     obtain ⟨y206, e207, h187⟩ := bind_some h187
     refine RL.idxS (sz := 1) 0 Tryz.underlying61 Tryz_ln3 rfl rfl rfl rfl rfl SlOf.imm (idx_some e207).1 (idx_some e207).2.1 ?_
     refine RL.ldSx (i := (x158).toNat) (e' := y206) 0 Ex.ik Tryz_ln3 rfl rfl rfl rfl SlOf.imm (idx_some e207).2.2 Part.self ?_
     refine RL.mv rfl rfl rfl ?_
     refine RL.mv rfl rfl rfl ?_
     refine RL.mv rfl rfl rfl ?_
     obtain ⟨y208, e209, h187⟩ := bind_some h187
     refine RL.idxS (sz := 1) 1 Tryz.underlying61 Tryz_ln3 rfl rfl rfl rfl rfl SlOf.own (idx_some e209).1 (idx_some e209).2.1 ?_
     refine RL.ldSx (i := i184) (e' := y208) 1 Ex.ik Tryz_ln3 rfl rfl rfl rfl SlOf.own (idx_some e209).2.2 Part.self ?_
     refine RL.binI (v := .int .i64 (wmul x2 y208)) rfl rfl rfl rfl rfl ?_
     refine RL.binI (v := .int .i64 (wadd (wmul x2 y208) (1 : Int))) rfl rfl rfl rfl rfl ?_
     refine RL.binI (v := .int .i64 (wmul y206 (wadd (wmul x2 y208) (1 : Int)))) rfl rfl rfl rfl rfl ?_
     refine RL.binI (v := .bool (decide ((wmul y194 (wadd (wmul x2 y204) (1 : Int))) > (wmul y206 (wadd (wmul x2 y208) (1 : Int)))))) rfl rfl rfl rfl rfl ?_
     refine RL.finQG ?_
     refine GL.weak (env' := [(0, v0), (2, .int .i64 x2), (7, v9), (8, .int .i64 x158), (9, .int .i64 (i184 : Int)), (14, .int .i64 x1), (15, .int .i64 (i147 : Int)), (17, v0), (18, .int .i64 ((x0).length : Int)), (19, .int .i64 (i184 : Int)), (45, .bool (decide ((wmul y194 (wadd (wmul x2 y204) (1 : Int))) > (wmul y206 (wadd (wmul x2 y208) (1 : Int))))))]) (L' := [imm (TR.sl TR.int) v0 x0, own 3 TR.int v9 l73]) (fun a w st => St.cut [0, 1] ⟨rfl, rfl, rfl, rfl, rfl, rfl, rfl, rfl, rfl, rfl, rfl, trivial⟩ (by decide) rfl st) ?_
     refine GL.cond rfl (fun b210 => ?_) (fun b210 => ?_)
     ·replace h187 := ite_t b210 h187
      refine GL.region ?_
      refine RL.mv rfl rfl rfl ?_
      refine RL.asg rfl rfl rfl ?_
      refine RL.finG ?_
      refine GL.nilB ?_
      refine GL.region ?_
      refine RL.binI (v := .int .i64 ((i184 + 1 : Nat) : Int)) rfl rfl rfl rfl (binI_succ i184 (by omega)) ?_
      refine RL.mv rfl rfl rfl ?_
      refine RL.fin ?_
      cases h187
      exact fun a w st => lop_intro (i184 + 1, r196, (i184 : Int)) ⟨by show i184 + 1 + r196.length = (x0).length; simp only [List.length_cons] at h190; omega, h197, h188⟩ (by simp) (St.cut [0, 1] ⟨rfl, rfl, rfl, rfl, rfl, rfl, rfl, rfl, rfl, trivial⟩ (by decide) rfl st)
     replace h187 := ite_f b210 h187
     refine GL.skip ?_
     refine GL.nilB ?_
     refine GL.region ?_
     refine RL.binI (v := .int .i64 ((i184 + 1 : Nat) : Int)) rfl rfl rfl rfl (binI_succ i184 (by omega)) ?_
     refine RL.mv rfl rfl rfl ?_
     refine RL.fin ?_
     cases h187
     exact fun a w st => lop_intro (i184 + 1, r196, x158) ⟨by show i184 + 1 + r196.length = (x0).length; simp only [List.length_cons] at h190; omega, h197, h188⟩ (by simp) (St.cut [0, 1] ⟨rfl, rfl, rfl, rfl, rfl, rfl, rfl, rfl, rfl, trivial⟩ (by decide) rfl st)
    have h193 : ¬ i184 < (x0).length := by have := of_decide_eq_false b192; omega
    obtain rfl : r185 = [] := by rw [← h191]; exact List.drop_of_length_le (by omega)
    replace h189 : some (Fl.nx _) = some y177 := h189
    cases h189
    exact GL.exit (fun a w st => mid_intro x158 h180 (St.cut [0, 1] ⟨rfl, rfl, rfl, rfl, rfl, rfl, trivial⟩ (by decide) rfl st))
   rintro x158 h211
   have h212 := h181 _ h211
   try dsimp only at h212
   refine GL.weak (env' := [(0, v0), (2, .int .i64 x2), (7, v9), (8, .int .i64 x158), (14, .int .i64 x1), (15, .int .i64 (i147 : Int))]) (L' := [imm (TR.sl TR.int) v0 x0, own 3 TR.int v9 l73]) ss ?_
   refine GL.region ?_
   refine RL.mv rfl rfl rfl ?_
   refine RL.mv rfl rfl rfl ?_
   obtain ⟨y217, e218, h212⟩ := bind_some h212
   refine RL.idxS (sz := 1) 1 Tryz.underlying61 Tryz_ln3 rfl rfl rfl rfl rfl SlOf.own (idx_some e218).1 (idx_some e218).2.1 ?_
   refine RL.ldSx (i := (x158).toNat) (e' := y217) 1 Ex.ik Tryz_ln3 rfl rfl rfl rfl SlOf.own (idx_some e218).2.2 Part.self ?_
   refine RL.binI (v := .int .i64 (wadd y217 (1 : Int))) rfl rfl rfl rfl rfl ?_
   obtain ⟨y219, e220, h212⟩ := bind_some h212
   refine RL.idxS (sz := 1) 1 Tryz.underlying61 Tryz_ln3 rfl rfl rfl rfl rfl SlOf.own (idx_some e220).1 (idx_some e220).2.1 ?_
   refine RL.stS (i := (x158).toNat) (e' := wadd y217 (1 : Int)) (e1 := wadd y217 (1 : Int)) (r := TR.int) 1 Tryz_ln3 rfl rfl rfl rfl VR.int rfl (idx_some e220).2.2 Upd.self ?_
   refine RL.finG ?_
   refine GL.nilB ?_
   refine GL.region ?_
   refine RL.binI (v := .int .i64 ((i147 + 1 : Nat) : Int)) rfl rfl rfl rfl (binI_succ i147 (by omega)) ?_
   refine RL.mv rfl rfl rfl ?_
   refine RL.fin ?_
   cases h212
   exact fun a w st => lop_intro (i147 + 1, r157, (List.set l73 ((x158).toNat) (wadd y217 (1 : Int)))) ⟨by show i147 + 1 + r157 = (x1).toNat; omega, h151⟩ (by simp) (St.cut [0, 1] ⟨rfl, rfl, rfl, rfl, rfl, trivial⟩ (by decide) rfl st)
  have h156 : ¬ i147 < (x1).toNat := by have := of_decide_eq_false b155; omega
  obtain rfl : r148 = 0 := by omega
  replace h152 : some (Fl.nx _) = some y140 := h152
  cases h152
  exact GL.exit (fun a w st => mid_intro l73 h143 (St.cut [1] ⟨rfl, trivial⟩ (by decide) rfl st))
 rintro l73 h221
 have h222 := h144 _ h221
 try dsimp only at h222
 refine GL.weak (env' := [(7, v9)]) (L' := [own 3 TR.int v9 l73]) ss ?_
 refine GL.seq ?_
 refine GL.region ?_
 refine RL.mv rfl rfl rfl ?_
 refine RL.asg rfl rfl rfl ?_
 refine RL.finG ?_
 have h222 := Option.some.inj h222
 subst h222
 exact GL.ret (Gx.ret (v := v9) (res1 rfl rfl) (fun a w st => (st.pick [0] (by decide) rfl).toPost v9))

theorem seats_Share_c (S : Hp) (w : World) (hS : S.sub w) (x0 : Int) (v1 : Value) (x1 : (List Int)) (k1 : ((TR.sl TR.int)).vrep S v1 x1) (x2 : Int) (res : (List Int) × Int) (hm : seats_Share_m x0 x1 x2 = some res) : Calls Tryz.prog 32 #[.int .i64 x0, v1, .int .i64 x2] w (Post w S (fun (o : Value) => .tuple #[o, .int .i64 res.2]) (fun (o : Value) => [own 3 TR.int o res.1])) := by
 refine calls_enter 119 Tryz.func32 Tryz.ntmps32 rfl S false [(0, .int .i64 x0), (1, v1), (2, .int .i64 x2)] [imm (TR.sl TR.int) v1 x1] rfl ⟨rfl, ⟨rfl, ⟨rfl, trivial⟩⟩⟩ hS ⟨k1, trivial⟩ ?_
 unfold seats_Share_m at hm
 refine GL.seq ?_
 refine GL.region ?_
 refine RL.asg rfl rfl rfl ?_
 refine RL.asg rfl rfl rfl ?_
 refine RL.finG ?_
 refine GL.seq ?_
 refine GL.seq ?_
 obtain ⟨y7, K8, h9, h10, h11, h12, h13⟩ := bindR_K hm
 refine GL.join (ι := Bool) (fun (p : Bool) => [(0, .int .i64 x0), (1, v1), (2, .int .i64 x2), (24, .bool p)]) (fun (p : Bool) => [imm (TR.sl TR.int) v1 x1]) (fun (p : Bool) => K8 (.nx p)) ?_ ?_
 ·skip
  refine GL.region ?_
  refine RL.mv rfl rfl rfl ?_
  refine RL.binI (v := .bool (decide (x0 < (1 : Int)))) rfl rfl rfl rfl rfl ?_
  refine RL.mv rfl rfl rfl ?_
  refine RL.split (t := 21) rfl (fun b14 => ?_) (fun b14 => ?_)
  ·replace h9 := ite_t b14 h9
   refine RL.skip rfl rfl ?_
   refine RL.skip rfl rfl ?_
   refine RL.pickT rfl rfl rfl rfl ?_
   refine RL.fin ?_
   cases h9
   exact fun a w st => mid_intro true h10 (St.cut [0] ⟨rfl, rfl, rfl, rfl, trivial⟩ (by decide) rfl st)
  replace h9 := ite_f b14 h9
  refine RL.mv rfl rfl rfl ?_
  refine RL.binI (v := .bool (decide (x0 > (3 : Int)))) rfl rfl rfl rfl rfl ?_
  refine RL.pickF rfl rfl rfl rfl ?_
  refine RL.fin ?_
  cases h9
  exact fun a w st => mid_intro (decide (x0 > (3 : Int))) h10 (St.cut [0] ⟨rfl, rfl, rfl, rfl, trivial⟩ (by decide) rfl st)
 rintro x6 h15
 have h16 := h11 _ h15
 try dsimp only at h16
 refine GL.weak (env' := [(0, .int .i64 x0), (1, v1), (2, .int .i64 x2), (24, .bool x6)]) (L' := [imm (TR.sl TR.int) v1 x1]) ss ?_
 refine GL.cond rfl (fun b17 => ?_) (fun b17 => ?_)
 ·replace h16 := ite_t b17 h16
  refine GL.seq ?_
  refine GL.region ?_
  refine RL.asg rfl rfl rfl ?_
  refine RL.asg rfl rfl rfl ?_
  refine RL.finG ?_
  refine GL.weak (fun a w st => st.nilOwn 3 TR.int) ?_
  have h16 := Option.some.inj h16
  subst h16
  exact GL.ret (Gx.ret (v := .tuple #[Value.slice none 0 0, .int .i64 (1 : Int)]) (res2 rfl rfl rfl) (fun a w st => (st.pick [1] (by decide) rfl).toPost (Value.slice none 0 0)))
 replace h16 := ite_f b17 h16
 refine GL.skip ?_
 refine GL.seq ?_
 refine GL.seq ?_
 refine GL.region ?_
 refine RL.mv rfl rfl rfl ?_
 refine RL.mv rfl rfl rfl ?_
 obtain ⟨y20, e21, h16⟩ := bind_some h16
 refine RL.callC (v := .int .i64 y20) (vs := [v1, .int .i64 x2]) Tryz_fit53 rfl rfl rfl rfl (fun U w hU hW hL => seats_Check_c U w hU _ _ (hL 0 _ _ rfl Seen.imm) x2 _ e21) ?_
 refine RL.asg rfl rfl rfl ?_
 refine RL.finG ?_
 refine GL.seq ?_
 refine GL.region ?_
 refine RL.mv rfl rfl rfl ?_
 refine RL.binI (v := .bool (y20 != (0 : Int))) rfl rfl rfl rfl rfl ?_
 refine RL.finG ?_
 refine GL.cond rfl (fun b22 => ?_) (fun b22 => ?_)
 ·replace h16 := ite_t b22 h16
  refine GL.seq ?_
  refine GL.region ?_
  refine RL.mv rfl rfl rfl ?_
  refine RL.asg rfl rfl rfl ?_
  refine RL.asg rfl rfl rfl ?_
  refine RL.finG ?_
  refine GL.weak (fun a w st => st.nilOwn 3 TR.int) ?_
  have h16 := Option.some.inj h16
  subst h16
  exact GL.ret (Gx.ret (v := .tuple #[Value.slice none 0 0, .int .i64 y20]) (res2 rfl rfl rfl) (fun a w st => (st.pick [1] (by decide) rfl).toPost (Value.slice none 0 0)))
 replace h16 := ite_f b22 h16
 refine GL.skip ?_
 refine GL.seq ?_
 refine GL.seq ?_
 refine GL.region ?_
 refine RL.mv rfl rfl rfl ?_
 refine RL.finG ?_
 refine GL.block ?_
 refine GL.seq ?_
 refine GL.region ?_
 refine RL.binI (v := .bool (x0 == (1 : Int))) rfl rfl rfl rfl rfl ?_
 refine RL.asg rfl rfl rfl ?_
 refine RL.finG ?_
 refine GL.cond rfl (fun b23 => ?_) (fun b23 => ?_)
 ·replace h16 := ite_t b23 h16
  refine GL.seq ?_
  refine GL.region ?_
  refine RL.mv rfl rfl rfl ?_
  refine RL.mv rfl rfl rfl ?_
  obtain ⟨y27, e28, h16⟩ := bind_some h16
  refine RL.call (vs := [v1, .int .i64 x2, .int .i64 (1 : Int)]) Tryz_fit54 rfl rfl rfl rfl rfl (fun S f w hS hW hi => seats_divided_c S w hS _ _ (hi 0 _ rfl) x2 (1 : Int) _ e28) ?_
  intro v29
  refine RL.asg rfl rfl rfl ?_
  refine RL.asg rfl rfl rfl ?_
  refine RL.finG ?_
  have h16 := Option.some.inj h16
  subst h16
  exact GL.ret (Gx.ret (v := .tuple #[v29, .int .i64 (0 : Int)]) (res2 rfl rfl rfl) (fun a w st => (st.pick [1] (by decide) rfl).toPost v29))
 replace h16 := ite_f b23 h16
 refine GL.seq ?_
 refine GL.region ?_
 refine RL.binI (v := .bool (x0 == (2 : Int))) rfl rfl rfl rfl rfl ?_
 refine RL.asg rfl rfl rfl ?_
 refine RL.finG ?_
 refine GL.cond rfl (fun b30 => ?_) (fun b30 => ?_)
 ·replace h16 := ite_t b30 h16
  refine GL.seq ?_
  refine GL.region ?_
  refine RL.mv rfl rfl rfl ?_
  refine RL.mv rfl rfl rfl ?_
  obtain ⟨y34, e35, h16⟩ := bind_some h16
  refine RL.call (vs := [v1, .int .i64 x2, .int .i64 (2 : Int)]) Tryz_fit54 rfl rfl rfl rfl rfl (fun S f w hS hW hi => seats_divided_c S w hS _ _ (hi 0 _ rfl) x2 (2 : Int) _ e35) ?_
  intro v36
  refine RL.asg rfl rfl rfl ?_
  refine RL.asg rfl rfl rfl ?_
  refine RL.finG ?_
  have h16 := Option.some.inj h16
  subst h16
  exact GL.ret (Gx.ret (v := .tuple #[v36, .int .i64 (0 : Int)]) (res2 rfl rfl rfl) (fun a w st => (st.pick [1] (by decide) rfl).toPost v36))
 replace h16 := ite_f b30 h16
 refine GL.skip ?_
 refine GL.nilB ?_
 refine GL.seq ?_
 refine GL.region ?_
 refine RL.asg rfl rfl rfl ?_
 refine RL.finG ?_
 refine GL.seq ?_
 refine GL.seq ?_
 refine GL.region ?_
 refine RL.mv rfl rfl rfl ?_
 refine RL.lenS 0 Tryz.underlying61 rfl rfl rfl rfl SlOf.imm ?_
 refine RL.mv rfl rfl rfl ?_
 refine RL.finG ?_
 refine GL.open_ 0 rfl (fun S h => len_imm S h) (fun n42 => ?_)
 obtain ⟨y43, K44, h45, h46, h47, h48, h49⟩ := bindR_K h16
 refine GL.join (ι := Int) (fun (p : Int) => [(1, v1), (2, .int .i64 x2), (9, .int .i64 p)]) (fun (p : Int) => [imm (TR.sl TR.int) v1 x1]) (fun (p : Int) => K44 (.nx p)) ?_ ?_
 ·refine GL.block ?_
  refine GL.loop (ι := Nat × (List Int) × Int) (fun (p : Nat × (List Int) × Int) => [(1, v1), (2, .int .i64 x2), (9, .int .i64 p.2.2), (42, v1), (43, .int .i64 ((x1).length : Int)), (44, .int .i64 (p.1 : Int))]) (fun (p : Nat × (List Int) × Int) => [imm (TR.sl TR.int) v1 x1]) (fun (p : Nat × (List Int) × Int) => p.1 + p.2.1.length = (x1).length ∧ List.drop p.1 x1 = p.2.1 ∧ rangeL seats_Share_b1 p.2.1 p.1 p.2.2 = some y43) (fun (p : Nat × (List Int) × Int) => p.2.1.length) (0, x1, (0 : Int)) ⟨by simp, by simp, h45⟩ (fun a w st => St.cut [0] ⟨rfl, rfl, rfl, rfl, rfl, rfl, trivial⟩ (by decide) rfl st) ?_
  rintro ⟨i50, r51, x37⟩ ⟨h56, h57, h55⟩
  try dsimp only at h56 h57 h55
  refine GL.weak (env' := [(1, v1), (2, .int .i64 x2), (9, .int .i64 x37), (42, v1), (43, .int .i64 ((x1).length : Int)), (44, .int .i64 (i50 : Int))]) (L' := [imm (TR.sl TR.int) v1 x1]) ss ?_
  refine GL.seq ?_
  refine GL.region ?_
  refine RL.binI (v := .bool (decide ((i50 : Int) < ((x1).length : Int)))) rfl rfl rfl rfl rfl ?_
  refine RL.finG ?_
  refine GL.seq ?_
  refine GL.cond rfl (fun b58 => ?_) (fun b58 => ?_)
  ·have h59 : i50 < (x1).length := by have := of_decide_eq_true b58; omega
   obtain ⟨y60, r62, hr, e61, h63⟩ := drop_cons h57 rfl h59
   subst hr
   obtain ⟨z52, h53, h54⟩ := rangeL_some h55
   unfold seats_Share_b1 at h53
   try dsimp only at h53
   refine GL.skip ?_
   refine GL.seq ?_
   refine GL.block ?_
   refine GL.seq ?_
   refine GL.region ?_
   refine RL.idxS (sz := 1) 0 Tryz.underlying61 Tryz_ln3 rfl rfl rfl rfl rfl SlOf.imm (by omega) (by omega) ?_
   refine RL.ldSx (i := i50) (e' := y60) 0 Ex.ik Tryz_ln3 rfl rfl rfl rfl SlOf.imm e61 Part.self ?_
   refine RL.asg rfl rfl rfl ?_
   refine RL.finG ?_
   refine GL.region ?_
   refine RL.mv rfl rfl rfl ?_
   refine RL.mv rfl rfl rfl ?_
   refine RL.binI (v := .int .i64 (wadd x37 y60)) rfl rfl rfl rfl rfl ?_
   refine RL.asg rfl rfl rfl ?_
   refine RL.finG ?_
   refine GL.nilB ?_
   refine GL.region ?_
   refine RL.binI (v := .int .i64 ((i50 + 1 : Nat) : Int)) rfl rfl rfl rfl (binI_succ i50 (by omega)) ?_
   refine RL.mv rfl rfl rfl ?_
   refine RL.fin ?_
   cases h53
   exact fun a w st => lop_intro (i50 + 1, r62, wadd x37 y60) ⟨by show i50 + 1 + r62.length = (x1).length; simp only [List.length_cons] at h56; omega, h63, h54⟩ (by simp) (St.cut [0] ⟨rfl, rfl, rfl, rfl, rfl, rfl, trivial⟩ (by decide) rfl st)
  have h59 : ¬ i50 < (x1).length := by have := of_decide_eq_false b58; omega
  obtain rfl : r51 = [] := by rw [← h57]; exact List.drop_of_length_le (by omega)
  replace h55 : some (Fl.nx _) = some y43 := h55
  cases h55
  exact GL.exit (fun a w st => mid_intro x37 h46 (St.cut [0] ⟨rfl, rfl, rfl, trivial⟩ (by decide) rfl st))
 rintro x37 h64
 have h65 := h47 _ h64
 try dsimp only at h65
 refine GL.weak (env' := [(1, v1), (2, .int .i64 x2), (9, .int .i64 x37)]) (L' := [imm (TR.sl TR.int) v1 x1]) ss ?_
 refine GL.seq ?_
 refine GL.region ?_
 refine RL.mv rfl rfl rfl ?_
 refine RL.lenS 0 Tryz.underlying61 rfl rfl rfl rfl SlOf.imm ?_
 obtain ⟨y69, e70, h65⟩ := bind_some h65
 replace e70 := chk_some e70
 refine RL.mkS (t := TR.int) (z := (0 : Int)) Tryz.underlying61 Tryz_lo3 (fun S => rfl) rfl rfl rfl rfl e70.1 e70.2 ?_
 intro v71
 refine RL.asg rfl rfl rfl ?_
 refine RL.finG ?_
 refine GL.seq ?_
 refine GL.region ?_
 refine RL.mv rfl rfl rfl ?_
 refine RL.lenS 0 Tryz.underlying61 rfl rfl rfl rfl SlOf.imm ?_
 obtain ⟨y75, e76, h65⟩ := bind_some h65
 replace e76 := chk_some e76
 refine RL.mkS (t := TR.int) (z := (0 : Int)) Tryz.underlying61 Tryz_lo3 (fun S => rfl) rfl rfl rfl rfl e76.1 e76.2 ?_
 intro v77
 refine RL.reL (L' := [imm (TR.sl TR.int) v1 x1, own 3 TR.int v71 (List.replicate (((x1).length : Int)).toNat (0 : Int)), own 3 TR.int v77 (List.replicate (((x1).length : Int)).toNat (0 : Int))]) rfl ?_
 refine RL.asg rfl rfl rfl ?_
 refine RL.finG ?_
 refine GL.seq ?_
 refine GL.region ?_
 refine RL.mv rfl rfl rfl ?_
 refine RL.asg rfl rfl rfl ?_
 refine RL.finG ?_
 refine GL.seq ?_
 refine GL.seq ?_
 refine GL.region ?_
 refine RL.mv rfl rfl rfl ?_
 refine RL.lenS 0 Tryz.underlying61 rfl rfl rfl rfl SlOf.imm ?_
 refine RL.mv rfl rfl rfl ?_
 refine RL.finG ?_
 refine GL.open_ 0 rfl (fun S h => len_imm S h) (fun n130 => ?_)
 obtain ⟨y131, K132, h133, h134, h135, h136, h137⟩ := bindR_K h65
 refine GL.join (ι := (List Int) × (List Int) × Int) (fun (p : (List Int) × (List Int) × Int) => [(12, v71), (13, v77), (14, .int .i64 p.2.2)]) (fun (p : (List Int) × (List Int) × Int) => [own 3 TR.int v71 p.1, own 3 TR.int v77 p.2.1]) (fun (p : (List Int) × (List Int) × Int) => K132 (.nx (p.1, p.2.1, p.2.2))) ?_ ?_
 ·refine GL.block ?_
  refine GL.loop (ι := Nat × (List Int) × (List Int) × (List Int) × Int) (fun (p : Nat × (List Int) × (List Int) × (List Int) × Int) => [(2, .int .i64 x2), (9, .int .i64 x37), (12, v71), (13, v77), (14, .int .i64 p.2.2.2.2), (59, v1), (60, .int .i64 ((x1).length : Int)), (61, .int .i64 (p.1 : Int))]) (fun (p : Nat × (List Int) × (List Int) × (List Int) × Int) => [own 3 TR.int v71 p.2.2.1, own 3 TR.int v77 p.2.2.2.1, imm (TR.sl TR.int) v1 x1]) (fun (p : Nat × (List Int) × (List Int) × (List Int) × Int) => p.1 + p.2.1.length = (x1).length ∧ List.drop p.1 x1 = p.2.1 ∧ rangeL (seats_Share_b2 x37 x2) p.2.1 p.1 (p.2.2.1, p.2.2.2.1, p.2.2.2.2) = some y131) (fun (p : Nat × (List Int) × (List Int) × (List Int) × Int) => p.2.1.length) (0, x1, (List.replicate (((x1).length : Int)).toNat (0 : Int)), (List.replicate (((x1).length : Int)).toNat (0 : Int)), x2) ⟨by simp, by simp, h133⟩ (fun a w st => St.cut [1, 2, 0] ⟨rfl, rfl, rfl, rfl, rfl, rfl, rfl, rfl, trivial⟩ (by decide) rfl st) ?_
  rintro ⟨i138, r139, l103, l104, x105⟩ ⟨h144, h145, h143⟩
  try dsimp only at h144 h145 h143
  refine GL.weak (env' := [(2, .int .i64 x2), (9, .int .i64 x37), (12, v71), (13, v77), (14, .int .i64 x105), (59, v1), (60, .int .i64 ((x1).length : Int)), (61, .int .i64 (i138 : Int))]) (L' := [own 3 TR.int v71 l103, own 3 TR.int v77 l104, imm (TR.sl TR.int) v1 x1]) ss ?_
  refine GL.seq ?_
  refine GL.region ?_
  refine RL.binI (v := .bool (decide ((i138 : Int) < ((x1).length : Int)))) rfl rfl rfl rfl rfl ?_
  refine RL.finG ?_
  refine GL.seq ?_
  refine GL.cond rfl (fun b146 => ?_) (fun b146 => ?_)
  ·have h147 : i138 < (x1).length := by have := of_decide_eq_true b146; omega
   obtain ⟨y148, r150, hr, e149, h151⟩ := drop_cons h145 rfl h147
   subst hr
   obtain ⟨z140, h141, h142⟩ := rangeL_some h143
   unfold seats_Share_b2 at h141
   try dsimp only at h141
   refine GL.skip ?_
   refine GL.seq ?_
   refine GL.block ?_
   refine GL.seq ?_
   refine GL.region ?_
   refine RL.mv rfl rfl rfl ?_
   refine RL.idxS (sz := 1) 2 Tryz.underlying61 Tryz_ln3 rfl rfl rfl rfl rfl SlOf.imm (by omega) (by omega) ?_
   refine RL.ldSx (i := i138) (e' := y148) 2 Ex.ik Tryz_ln3 rfl rfl rfl rfl SlOf.imm e149 Part.self ?_
   refine RL.asg rfl rfl rfl ?_
   refine RL.asg rfl rfl rfl ?_
   refine RL.finG ?_
   refine GL.seq ?_
   refine GL.regionA rfl rfl ?_
   refine RA.mv 0 rfl (by kernel_rfl) rfl rfl rfl ?_
   refine RA.mv 1 rfl (by kernel_rfl) rfl rfl rfl ?_
   refine RA.mv 2 rfl (by kernel_rfl) rfl rfl rfl ?_
   refine RA.mv 3 rfl (by kernel_rfl) rfl rfl rfl ?_
   refine RA.mv 4 rfl (by kernel_rfl) rfl rfl rfl ?_
   refine RA.mv 5 rfl (by kernel_rfl) rfl rfl rfl ?_
   refine RA.binI (v := .int .i64 (wmul y148 x2)) 6 rfl (by kernel_rfl) rfl rfl rfl rfl rfl ?_
   refine RA.mv 7 rfl (by kernel_rfl) rfl rfl rfl ?_
   obtain ⟨y160, e161, h141⟩ := bind_some h141
   replace e161 := chk_some e161
   refine RA.quo 8 rfl (by kernel_rfl) rfl rfl rfl rfl e161 ?_
   refine RA.mv 9 rfl (by kernel_rfl) rfl rfl rfl ?_
   refine RA.mv 10 rfl (by kernel_rfl) rfl rfl rfl ?_
   refine RA.binI (v := .int .i64 (wmul y148 x2)) 11 rfl (by kernel_rfl) rfl rfl rfl rfl rfl ?_
   refine RA.mv 12 rfl (by kernel_rfl) rfl rfl rfl ?_
   obtain ⟨y162, e163, h141⟩ := bind_some h141
   replace e163 := chk_some e163
   refine RA.rem 13 rfl (by kernel_rfl) rfl rfl rfl rfl e163 ?_
   obtain ⟨y164, e165, h141⟩ := bind_some h141
   refine RA.idxS (sz := 1) 0 Tryz.underlying61 Tryz_ln3 14 rfl (by kernel_rfl) rfl rfl rfl rfl rfl SlOf.own (idx_some e165).1 (idx_some e165).2.1 ?_
   refine RA.seq 15 rfl (by kernel_rfl) ?_
   refine RL.stS (i := i138) (e' := IntKind.wrap .i64 (Int.tdiv (wmul y148 x2) x37)) (e1 := IntKind.wrap .i64 (Int.tdiv (wmul y148 x2) x37)) (r := TR.int) 0 Tryz_ln3 rfl rfl rfl rfl VR.int rfl (idx_some e165).2.2 Upd.self ?_
   refine RL.fin ?_
   refine RA.next ?_
   obtain ⟨y166, e167, h141⟩ := bind_some h141
   refine RA.idxS (sz := 1) 1 Tryz.underlying61 Tryz_ln3 16 rfl (by kernel_rfl) rfl rfl rfl rfl rfl SlOf.own (idx_some e167).1 (idx_some e167).2.1 ?_
   refine RA.seq 17 rfl (by kernel_rfl) ?_
   refine RL.stS (i := i138) (e' := Int.tmod (wmul y148 x2) x37) (e1 := Int.tmod (wmul y148 x2) x37) (r := TR.int) 1 Tryz_ln3 rfl rfl rfl rfl VR.int rfl (idx_some e167).2.2 Upd.self ?_
   refine RL.fin ?_
   refine RA.next ?_
   refine RA.doneG (by kernel_rfl) ?_
   refine GL.weak (env' := [(2, .int .i64 x2), (9, .int .i64 x37), (12, v71), (13, v77), (14, .int .i64 x105), (15, .int .i64 (i138 : Int)), (59, v1), (60, .int .i64 ((x1).length : Int)), (61, .int .i64 (i138 : Int))]) (L' := [own 3 TR.int v71 (List.set l103 i138 (IntKind.wrap .i64 (Int.tdiv (wmul y148 x2) x37))), own 3 TR.int v77 (List.set l104 i138 (Int.tmod (wmul y148 x2) x37)), imm (TR.sl TR.int) v1 x1]) (fun a w st => St.cut [0, 1, 2] ⟨rfl, rfl, rfl, rfl, rfl, rfl, rfl, rfl, rfl, trivial⟩ (by decide) rfl st) ?_
   refine GL.region ?_
   refine RL.mv rfl rfl rfl ?_
   refine RL.mv rfl rfl rfl ?_
   refine RL.mv rfl rfl rfl ?_
   obtain ⟨y170, e171, h141⟩ := bind_some h141
   refine RL.idxS (sz := 1) 0 Tryz.underlying61 Tryz_ln3 rfl rfl rfl rfl rfl SlOf.own (idx_some e171).1 (idx_some e171).2.1 ?_
   refine RL.ldSx (i := i138) (e' := y170) 0 Ex.ik Tryz_ln3 rfl rfl rfl rfl SlOf.own (idx_some e171).2.2 Part.self ?_
   refine RL.binI (v := .int .i64 (wsub x105 y170)) rfl rfl rfl rfl rfl ?_
   refine RL.asg rfl rfl rfl ?_
   refine RL.finG ?_
   refine GL.nilB ?_
   refine GL.region ?_
   refine RL.binI (v := .int .i64 ((i138 + 1 : Nat) : Int)) rfl rfl rfl rfl (binI_succ i138 (by omega)) ?_
   refine RL.mv rfl rfl rfl ?_
   refine RL.fin ?_
   cases h141
   exact fun a w st => lop_intro (i138 + 1, r150, (List.set l103 i138 (IntKind.wrap .i64 (Int.tdiv (wmul y148 x2) x37))), (List.set l104 i138 (Int.tmod (wmul y148 x2) x37)), wsub x105 y170) ⟨by show i138 + 1 + r150.length = (x1).length; simp only [List.length_cons] at h144; omega, h151, h142⟩ (by simp) (St.cut [0, 1, 2] ⟨rfl, rfl, rfl, rfl, rfl, rfl, rfl, rfl, trivial⟩ (by decide) rfl st)
  have h147 : ¬ i138 < (x1).length := by have := of_decide_eq_false b146; omega
  obtain rfl : r139 = [] := by rw [← h145]; exact List.drop_of_length_le (by omega)
  replace h143 : some (Fl.nx _) = some y131 := h143
  cases h143
  exact GL.exit (fun a w st => mid_intro (l103, l104, x105) h134 (St.cut [0, 1] ⟨rfl, rfl, rfl, trivial⟩ (by decide) rfl st))
 rintro ⟨l103, l104, x105⟩ h172
 have h173 := h135 _ h172
 try dsimp only at h173
 refine GL.weak (env' := [(12, v71), (13, v77), (14, .int .i64 x105)]) (L' := [own 3 TR.int v71 l103, own 3 TR.int v77 l104]) ss ?_
 refine GL.seq ?_
 refine GL.seq ?_
 refine GL.region ?_
 refine RL.mv rfl rfl rfl ?_
 refine RL.mv rfl rfl rfl ?_
 refine RL.finG ?_
 obtain ⟨y281, e282, h173⟩ := bind_some h173
 replace e282 := chk_some e282
 obtain ⟨y283, K284, h285, h286, h287, h288, h289⟩ := bindR_K h173
 refine GL.join (ι := (List Int) × (List Int)) (fun (p : (List Int) × (List Int)) => [(12, v71)]) (fun (p : (List Int) × (List Int)) => [own 3 TR.int v71 p.1]) (fun (p : (List Int) × (List Int)) => K284 (.nx (p.1, p.2))) ?_ ?_
 ·refine GL.block ?_
  refine GL.loop (ι := Nat × Nat × (List Int) × (List Int)) (fun (p : Nat × Nat × (List Int) × (List Int)) => [(12, v71), (13, v77), (89, .int .i64 x105), (90, .int .i64 (p.1 : Int))]) (fun (p : Nat × Nat × (List Int) × (List Int)) => [own 3 TR.int v71 p.2.2.1, own 3 TR.int v77 p.2.2.2]) (fun (p : Nat × Nat × (List Int) × (List Int)) => p.1 + p.2.1 = (x105).toNat ∧ rangeN seats_Share_b3 p.2.1 p.1 (p.2.2.1, p.2.2.2) = some y283) (fun (p : Nat × Nat × (List Int) × (List Int)) => p.2.1) (0, (x105).toNat, l103, l104) ⟨by simp, h285⟩ (fun a w st => St.cut [0, 1] ⟨rfl, rfl, rfl, rfl, trivial⟩ (by decide) rfl st) ?_
  rintro ⟨i290, r291, l226, l227⟩ ⟨h296, h295⟩
  try dsimp only at h296 h295
  refine GL.weak (env' := [(12, v71), (13, v77), (89, .int .i64 x105), (90, .int .i64 (i290 : Int))]) (L' := [own 3 TR.int v71 l226, own 3 TR.int v77 l227]) ss ?_
  refine GL.seq ?_
  refine GL.region ?_
  refine RL.binI (v := .bool (decide ((i290 : Int) < x105))) rfl rfl rfl rfl rfl ?_
  refine RL.finG ?_
  refine GL.seq ?_
  refine GL.cond rfl (fun b298 => ?_) (fun b298 => ?_)
  ·have h299 : i290 < (x105).toNat := by have := of_decide_eq_true b298; omega
   obtain ⟨r300, hr⟩ : ∃ m, r291 = m + 1 := ⟨r291 - 1, by omega⟩
   subst hr
   obtain ⟨z292, h293, h294⟩ := rangeN_some h295
   unfold seats_Share_b3 at h293
   try dsimp only at h293
   refine GL.skip ?_
   refine GL.seq ?_
   refine GL.block ?_
   refine GL.seq ?_
   refine GL.region ?_
   refine RL.asg rfl rfl rfl ?_
   refine RL.finG ?_
   refine GL.seq ?_
   refine GL.seq ?_
   refine GL.region ?_
   refine RL.mv rfl rfl rfl ?_
   refine RL.lenS 1 Tryz.underlying61 rfl rfl rfl rfl SlOf.own ?_
   refine RL.mv rfl rfl rfl ?_
   refine RL.finG ?_
   refine GL.lenOwn 1 rfl (fun n311 => ?_)
   obtain ⟨y312, K313, h314, h315, h316, h317, h318⟩ := bindF_K h293
   refine GL.join (ι := Int) (fun (p : Int) => [(12, v71), (13, v77), (17, .int .i64 p), (89, .int .i64 x105), (90, .int .i64 (i290 : Int))]) (fun (p : Int) => [own 3 TR.int v71 l226, own 3 TR.int v77 l227]) (fun (p : Int) => K313 (.nx p)) ?_ ?_
   ·refine GL.block ?_
    refine GL.loop (ι := Nat × Nat × Int) (fun (p : Nat × Nat × Int) => [(12, v71), (13, v77), (17, .int .i64 p.2.2), (89, .int .i64 x105), (90, .int .i64 (i290 : Int)), (93, .int .i64 ((l227).length : Int)), (94, .int .i64 (p.1 : Int))]) (fun (p : Nat × Nat × Int) => [own 3 TR.int v71 l226, own 3 TR.int v77 l227]) (fun (p : Nat × Nat × Int) => p.1 + p.2.1 = (l227).length ∧ rangeN (seats_Share_b4 l227) p.2.1 p.1 p.2.2 = some y312) (fun (p : Nat × Nat × Int) => p.2.1) (0, (l227).length, (0 : Int)) ⟨by simp, h314⟩ (fun a w st => St.cut [0, 1] ⟨rfl, rfl, rfl, rfl, rfl, rfl, rfl, trivial⟩ (by decide) rfl st) ?_
    rintro ⟨i319, r320, x301⟩ ⟨h325, h324⟩
    try dsimp only at h325 h324
    refine GL.weak (env' := [(12, v71), (13, v77), (17, .int .i64 x301), (89, .int .i64 x105), (90, .int .i64 (i290 : Int)), (93, .int .i64 ((l227).length : Int)), (94, .int .i64 (i319 : Int))]) (L' := [own 3 TR.int v71 l226, own 3 TR.int v77 l227]) ss ?_
    refine GL.seq ?_
    refine GL.region ?_
    refine RL.binI (v := .bool (decide ((i319 : Int) < ((l227).length : Int)))) rfl rfl rfl rfl rfl ?_
    refine RL.finG ?_
    refine GL.seq ?_
    refine GL.cond rfl (fun b327 => ?_) (fun b327 => ?_)
    ·have h328 : i319 < (l227).length := by have := of_decide_eq_true b327; omega
     obtain ⟨r329, hr⟩ : ∃ m, r320 = m + 1 := ⟨r320 - 1, by omega⟩
     subst hr
     obtain ⟨z321, h322, h323⟩ := rangeN_some h324
     unfold seats_Share_b4 at h322
     try dsimp only at h322
     refine GL.skip ?_
     refine GL.seq ?_
     refine GL.block ?_
     refine GL.seq ?_
     refine GL.region ?_
     refine RL.mv rfl rfl rfl ?_
     refine RL.asg rfl rfl rfl ?_
     refine RL.finG ?_
     refine GL.seq ?_
     refine GL.regionQ rfl rfl (by kernel_rfl) ?_
     refine RL.mv rfl rfl rfl ?_
     refine RL.mv rfl rfl rfl ?_
     obtain ⟨y334, e335, h322⟩ := bind_some h322
     refine RL.idxS (sz := 1) 1 Tryz.underlying61 Tryz_ln3 rfl rfl rfl rfl rfl SlOf.own (idx_some e335).1 (idx_some e335).2.1 ?_
     refine RL.ldSx (i := i319) (e' := y334) 1 Ex.ik Tryz_ln3 rfl rfl rfl rfl SlOf.own (idx_some e335).2.2 Part.self ?_
     refine RL.mv rfl rfl rfl ?_
     refine RL.mv rfl rfl rfl ?_
     obtain ⟨y336, e337, h322⟩ := bind_some h322
     refine RL.idxS (sz := 1) 1 Tryz.underlying61 Tryz_ln3 rfl rfl rfl rfl rfl SlOf.own (idx_some e337).1 (idx_some e337).2.1 ?_
     refine RL.ldSx (i := (x301).toNat) (e' := y336) 1 Ex.ik Tryz_ln3 rfl rfl rfl rfl SlOf.own (idx_some e337).2.2 Part.self ?_
     refine RL.binI (v := .bool (decide (y334 > y336))) rfl rfl rfl rfl rfl ?_
     refine RL.finQG ?_
     refine GL.cond rfl (fun b338 => ?_) (fun b338 => ?_)
     ·replace h322 := ite_t b338 h322
      refine GL.region ?_
      refine RL.mv rfl rfl rfl ?_
      refine RL.asg rfl rfl rfl ?_
      refine RL.finG ?_
      refine GL.nilB ?_
      refine GL.region ?_
      refine RL.binI (v := .int .i64 ((i319 + 1 : Nat) : Int)) rfl rfl rfl rfl (binI_succ i319 (by omega)) ?_
      refine RL.mv rfl rfl rfl ?_
      refine RL.fin ?_
      cases h322
      exact fun a w st => lop_intro (i319 + 1, r329, (i319 : Int)) ⟨by show i319 + 1 + r329 = (l227).length; omega, h323⟩ (by simp) (St.cut [0, 1] ⟨rfl, rfl, rfl, rfl, rfl, rfl, rfl, trivial⟩ (by decide) rfl st)
     replace h322 := ite_f b338 h322
     refine GL.skip ?_
     refine GL.nilB ?_
     refine GL.region ?_
     refine RL.binI (v := .int .i64 ((i319 + 1 : Nat) : Int)) rfl rfl rfl rfl (binI_succ i319 (by omega)) ?_
     refine RL.mv rfl rfl rfl ?_
     refine RL.fin ?_
     cases h322
     exact fun a w st => lop_intro (i319 + 1, r329, x301) ⟨by show i319 + 1 + r329 = (l227).length; omega, h323⟩ (by simp) (St.cut [0, 1] ⟨rfl, rfl, rfl, rfl, rfl, rfl, rfl, trivial⟩ (by decide) rfl st)
    have h328 : ¬ i319 < (l227).length := by have := of_decide_eq_false b327; omega
    obtain rfl : r320 = 0 := by omega
    replace h324 : some (Fl.nx _) = some y312 := h324
    cases h324
    exact GL.exit (fun a w st => mid_intro x301 h315 (St.cut [0, 1] ⟨rfl, rfl, rfl, rfl, rfl, trivial⟩ (by decide) rfl st))
   rintro x301 h339
   have h340 := h316 _ h339
   try dsimp only at h340
   refine GL.weak (env' := [(12, v71), (13, v77), (17, .int .i64 x301), (89, .int .i64 x105), (90, .int .i64 (i290 : Int))]) (L' := [own 3 TR.int v71 l226, own 3 TR.int v77 l227]) ss ?_
   refine GL.seq ?_
   refine GL.region ?_
   refine RL.mv rfl rfl rfl ?_
   refine RL.mv rfl rfl rfl ?_
   obtain ⟨y345, e346, h340⟩ := bind_some h340
   refine RL.idxS (sz := 1) 0 Tryz.underlying61 Tryz_ln3 rfl rfl rfl rfl rfl SlOf.own (idx_some e346).1 (idx_some e346).2.1 ?_
   refine RL.ldSx (i := (x301).toNat) (e' := y345) 0 Ex.ik Tryz_ln3 rfl rfl rfl rfl SlOf.own (idx_some e346).2.2 Part.self ?_
   refine RL.binI (v := .int .i64 (wadd y345 (1 : Int))) rfl rfl rfl rfl rfl ?_
   obtain ⟨y347, e348, h340⟩ := bind_some h340
   refine RL.idxS (sz := 1) 0 Tryz.underlying61 Tryz_ln3 rfl rfl rfl rfl rfl SlOf.own (idx_some e348).1 (idx_some e348).2.1 ?_
   refine RL.stS (i := (x301).toNat) (e' := wadd y345 (1 : Int)) (e1 := wadd y345 (1 : Int)) (r := TR.int) 0 Tryz_ln3 rfl rfl rfl rfl VR.int rfl (idx_some e348).2.2 Upd.self ?_
   refine RL.finG ?_
   refine GL.region ?_
   refine RL.mv rfl rfl rfl ?_
   refine RL.mv rfl rfl rfl ?_
   obtain ⟨y351, e352, h340⟩ := bind_some h340
   refine RL.idxS (sz := 1) 1 Tryz.underlying61 Tryz_ln3 rfl rfl rfl rfl rfl SlOf.own (idx_some e352).1 (idx_some e352).2.1 ?_
   refine RL.stS (i := (x301).toNat) (e' := (-1 : Int)) (e1 := (-1 : Int)) (r := TR.int) 1 Tryz_ln3 rfl rfl rfl rfl VR.int rfl (idx_some e352).2.2 Upd.self ?_
   refine RL.reL (L' := [own 3 TR.int v71 (List.set l226 ((x301).toNat) (wadd y345 (1 : Int))), own 3 TR.int v77 (List.set l227 ((x301).toNat) (-1 : Int))]) rfl ?_
   refine RL.finG ?_
   refine GL.nilB ?_
   refine GL.region ?_
   refine RL.binI (v := .int .i64 ((i290 + 1 : Nat) : Int)) rfl rfl rfl rfl (binI_succ i290 (by omega)) ?_
   refine RL.mv rfl rfl rfl ?_
   refine RL.fin ?_
   cases h340
   exact fun a w st => lop_intro (i290 + 1, r300, (List.set l226 ((x301).toNat) (wadd y345 (1 : Int))), (List.set l227 ((x301).toNat) (-1 : Int))) ⟨by show i290 + 1 + r300 = (x105).toNat; omega, h294⟩ (by simp) (St.cut [0, 1] ⟨rfl, rfl, rfl, rfl, trivial⟩ (by decide) rfl st)
  have h299 : ¬ i290 < (x105).toNat := by have := of_decide_eq_false b298; omega
  obtain rfl : r291 = 0 := by omega
  replace h295 : some (Fl.nx _) = some y283 := h295
  cases h295
  exact GL.exit (fun a w st => mid_intro (l226, l227) h286 (St.cut [0] ⟨rfl, trivial⟩ (by decide) rfl st))
 rintro ⟨l226, l227⟩ h353
 have h354 := h287 _ h353
 try dsimp only at h354
 refine GL.weak (env' := [(12, v71)]) (L' := [own 3 TR.int v71 l226]) ss ?_
 refine GL.seq ?_
 refine GL.region ?_
 refine RL.mv rfl rfl rfl ?_
 refine RL.asg rfl rfl rfl ?_
 refine RL.asg rfl rfl rfl ?_
 refine RL.finG ?_
 have h354 := Option.some.inj h354
 subst h354
 exact GL.ret (Gx.ret (v := .tuple #[v71, .int .i64 (0 : Int)]) (res2 rfl rfl rfl) (fun a w st => (st.pick [0] (by decide) rfl).toPost v71))

theorem power_Check_c (S : Hp) (w : World) (hS : S.sub w) (v0 : Value) (x0 : (List Int)) (k0 : ((TR.sl TR.int)).vrep S v0 x0) (x1 : Int) (res : Int) (hm : power_Check_m x0 x1 = some res) : Calls Tryz.prog 55 #[v0, .int .i64 x1] w (PostC w (.int .i64 res)) := by
 refine calls_enter 39 Tryz.func55 Tryz.ntmps55 rfl S true [(0, v0), (1, .int .i64 x1)] [imm (TR.sl TR.int) v0 x0] rfl ⟨rfl, ⟨rfl, trivial⟩⟩ hS ⟨k0, trivial⟩ ?_
 unfold power_Check_m at hm
 refine GL.seq ?_
 refine GL.region ?_
 refine RL.asg rfl rfl rfl ?_
 refine RL.finG ?_
 refine GL.seq ?_
 refine GL.seq ?_
 obtain ⟨y6, K7, h8, h9, h10, h11, h12⟩ := bindR_K hm
 refine GL.join (ι := Bool) (fun (p : Bool) => [(0, v0), (1, .int .i64 x1), (15, .bool p)]) (fun (p : Bool) => [imm (TR.sl TR.int) v0 x0]) (fun (p : Bool) => K7 (.nx p)) ?_ ?_
 ·skip
  refine GL.region ?_
  refine RL.mv rfl rfl rfl ?_
  refine RL.lenS 0 Tryz.underlying61 rfl rfl rfl rfl SlOf.imm ?_
  refine RL.binI (v := .bool (decide (((x0).length : Int) < (1 : Int)))) rfl rfl rfl rfl rfl ?_
  refine RL.mv rfl rfl rfl ?_
  refine RL.split (t := 11) rfl (fun b13 => ?_) (fun b13 => ?_)
  ·replace h8 := ite_t b13 h8
   refine RL.skip rfl rfl ?_
   refine RL.skip rfl rfl ?_
   refine RL.skip rfl rfl ?_
   refine RL.pickT rfl rfl rfl rfl ?_
   refine RL.fin ?_
   cases h8
   exact fun a w st => mid_intro true h9 (St.cut [0] ⟨rfl, rfl, rfl, trivial⟩ (by decide) rfl st)
  replace h8 := ite_f b13 h8
  refine RL.mv rfl rfl rfl ?_
  refine RL.lenS 0 Tryz.underlying61 rfl rfl rfl rfl SlOf.imm ?_
  refine RL.binI (v := .bool (decide (((x0).length : Int) > (6 : Int)))) rfl rfl rfl rfl rfl ?_
  refine RL.pickF rfl rfl rfl rfl ?_
  refine RL.fin ?_
  cases h8
  exact fun a w st => mid_intro (decide (((x0).length : Int) > (6 : Int))) h9 (St.cut [0] ⟨rfl, rfl, rfl, trivial⟩ (by decide) rfl st)
 rintro x5 h14
 have h15 := h10 _ h14
 try dsimp only at h15
 refine GL.weak (env' := [(0, v0), (1, .int .i64 x1), (15, .bool x5)]) (L' := [imm (TR.sl TR.int) v0 x0]) ss ?_
 refine GL.cond rfl (fun b16 => ?_) (fun b16 => ?_)
 ·replace h15 := ite_t b16 h15
  refine GL.seq ?_
  refine GL.region ?_
  refine RL.asg rfl rfl rfl ?_
  refine RL.finG ?_
  have h15 := Option.some.inj h15
  subst h15
  exact GL.ret (Gx.ret (v := .int .i64 (2 : Int)) (res1 rfl rfl) (fun a w st => st.toPostC rfl))
 replace h15 := ite_f b16 h15
 refine GL.skip ?_
 refine GL.seq ?_
 refine GL.region ?_
 refine RL.asg rfl rfl rfl ?_
 refine RL.finG ?_
 refine GL.seq ?_
 refine GL.seq ?_
 refine GL.region ?_
 refine RL.mv rfl rfl rfl ?_
 refine RL.lenS 0 Tryz.underlying61 rfl rfl rfl rfl SlOf.imm ?_
 refine RL.mv rfl rfl rfl ?_
 refine RL.finG ?_
 refine GL.open_ 0 rfl (fun S h => len_imm S h) (fun n36 => ?_)
 obtain ⟨y37, K38, h39, h40, h41, h42, h43⟩ := bindR_K h15
 refine GL.join (ι := Int) (fun (p : Int) => [(1, .int .i64 x1), (5, .int .i64 p)]) (fun (p : Int) => []) (fun (p : Int) => K38 (.nx p)) ?_ ?_
 ·refine GL.block ?_
  refine GL.loop (ι := Nat × (List Int) × Int) (fun (p : Nat × (List Int) × Int) => [(1, .int .i64 x1), (5, .int .i64 p.2.2), (16, v0), (17, .int .i64 ((x0).length : Int)), (18, .int .i64 (p.1 : Int))]) (fun (p : Nat × (List Int) × Int) => [imm (TR.sl TR.int) v0 x0]) (fun (p : Nat × (List Int) × Int) => p.1 + p.2.1.length = (x0).length ∧ List.drop p.1 x0 = p.2.1 ∧ rangeL power_Check_b1 p.2.1 p.1 p.2.2 = some y37) (fun (p : Nat × (List Int) × Int) => p.2.1.length) (0, x0, (0 : Int)) ⟨by simp, by simp, h39⟩ (fun a w st => St.cut [0] ⟨rfl, rfl, rfl, rfl, rfl, trivial⟩ (by decide) rfl st) ?_
  rintro ⟨i44, r45, x17⟩ ⟨h50, h51, h49⟩
  try dsimp only at h50 h51 h49
  refine GL.weak (env' := [(1, .int .i64 x1), (5, .int .i64 x17), (16, v0), (17, .int .i64 ((x0).length : Int)), (18, .int .i64 (i44 : Int))]) (L' := [imm (TR.sl TR.int) v0 x0]) ss ?_
  refine GL.seq ?_
  refine GL.region ?_
  refine RL.binI (v := .bool (decide ((i44 : Int) < ((x0).length : Int)))) rfl rfl rfl rfl rfl ?_
  refine RL.finG ?_
  refine GL.seq ?_
  refine GL.cond rfl (fun b52 => ?_) (fun b52 => ?_)
  ·have h53 : i44 < (x0).length := by have := of_decide_eq_true b52; omega
   obtain ⟨y54, r56, hr, e55, h57⟩ := drop_cons h51 rfl h53
   subst hr
   obtain ⟨z46, h47, h48⟩ := rangeL_some h49
   unfold power_Check_b1 at h47
   try dsimp only at h47
   refine GL.skip ?_
   refine GL.seq ?_
   refine GL.block ?_
   refine GL.seq ?_
   refine GL.region ?_
   refine RL.idxS (sz := 1) 0 Tryz.underlying61 Tryz_ln3 rfl rfl rfl rfl rfl SlOf.imm (by omega) (by omega) ?_
   refine RL.ldSx (i := i44) (e' := y54) 0 Ex.ik Tryz_ln3 rfl rfl rfl rfl SlOf.imm e55 Part.self ?_
   refine RL.asg rfl rfl rfl ?_
   refine RL.finG ?_
   refine GL.seq ?_
   refine GL.seq ?_
   obtain ⟨y61, K62, h63, h64, h65, h66, h67⟩ := bindF_K h47
   refine GL.join (ι := Bool) (fun (p : Bool) => [(1, .int .i64 x1), (5, .int .i64 x17), (7, .int .i64 y54), (16, v0), (17, .int .i64 ((x0).length : Int)), (18, .int .i64 (i44 : Int)), (27, .bool p)]) (fun (p : Bool) => [imm (TR.sl TR.int) v0 x0]) (fun (p : Bool) => K62 (.nx p)) ?_ ?_
   ·skip
    refine GL.region ?_
    refine RL.mv rfl rfl rfl ?_
    refine RL.binI (v := .bool (decide (y54 < (0 : Int)))) rfl rfl rfl rfl rfl ?_
    refine RL.mv rfl rfl rfl ?_
    refine RL.split (t := 24) rfl (fun b68 => ?_) (fun b68 => ?_)
    ·replace h63 := ite_t b68 h63
     refine RL.skip rfl rfl ?_
     refine RL.skip rfl rfl ?_
     refine RL.pickT rfl rfl rfl rfl ?_
     refine RL.fin ?_
     cases h63
     exact fun a w st => mid_intro true h64 (St.cut [0] ⟨rfl, rfl, rfl, rfl, rfl, rfl, rfl, trivial⟩ (by decide) rfl st)
    replace h63 := ite_f b68 h63
    refine RL.mv rfl rfl rfl ?_
    refine RL.binI (v := .bool (decide (y54 > (1000 : Int)))) rfl rfl rfl rfl rfl ?_
    refine RL.pickF rfl rfl rfl rfl ?_
    refine RL.fin ?_
    cases h63
    exact fun a w st => mid_intro (decide (y54 > (1000 : Int))) h64 (St.cut [0] ⟨rfl, rfl, rfl, rfl, rfl, rfl, rfl, trivial⟩ (by decide) rfl st)
   rintro x60 h69
   have h70 := h65 _ h69
   try dsimp only at h70
   refine GL.weak (env' := [(1, .int .i64 x1), (5, .int .i64 x17), (7, .int .i64 y54), (16, v0), (17, .int .i64 ((x0).length : Int)), (18, .int .i64 (i44 : Int)), (27, .bool x60)]) (L' := [imm (TR.sl TR.int) v0 x0]) ss ?_
   refine GL.cond rfl (fun b71 => ?_) (fun b71 => ?_)
   ·replace h70 := ite_t b71 h70
    refine GL.seq ?_
    refine GL.region ?_
    refine RL.asg rfl rfl rfl ?_
    refine RL.finG ?_
    cases h70
    replace h48 : some (Fl.rt _) = some y37 := h48
    cases h48
    have hh := h42 _ h40
    subst hh
    exact GL.ret (Gx.ret (v := .int .i64 (1 : Int)) (res1 rfl rfl) (fun a w st => st.toPostC rfl))
   replace h70 := ite_f b71 h70
   refine GL.skip ?_
   refine GL.region ?_
   refine RL.mv rfl rfl rfl ?_
   refine RL.mv rfl rfl rfl ?_
   refine RL.binI (v := .int .i64 (wadd x17 y54)) rfl rfl rfl rfl rfl ?_
   refine RL.asg rfl rfl rfl ?_
   refine RL.finG ?_
   refine GL.nilB ?_
   refine GL.region ?_
   refine RL.binI (v := .int .i64 ((i44 + 1 : Nat) : Int)) rfl rfl rfl rfl (binI_succ i44 (by omega)) ?_
   refine RL.mv rfl rfl rfl ?_
   refine RL.fin ?_
   cases h70
   exact fun a w st => lop_intro (i44 + 1, r56, wadd x17 y54) ⟨by show i44 + 1 + r56.length = (x0).length; simp only [List.length_cons] at h50; omega, h57, h48⟩ (by simp) (St.cut [0] ⟨rfl, rfl, rfl, rfl, rfl, trivial⟩ (by decide) rfl st)
  have h53 : ¬ i44 < (x0).length := by have := of_decide_eq_false b52; omega
  obtain rfl : r45 = [] := by rw [← h51]; exact List.drop_of_length_le (by omega)
  replace h49 : some (Fl.nx _) = some y37 := h49
  cases h49
  exact GL.exit (fun a w st => mid_intro x17 h40 (St.cut [] ⟨rfl, rfl, trivial⟩ (by decide) rfl st))
 rintro x17 h72
 have h73 := h41 _ h72
 try dsimp only at h73
 refine GL.weak (env' := [(1, .int .i64 x1), (5, .int .i64 x17)]) (L' := []) ss ?_
 refine GL.seq ?_
 refine GL.seq ?_
 obtain ⟨y77, K78, h79, h80, h81, h82, h83⟩ := bindR_K h73
 refine GL.join (ι := Bool) (fun (p : Bool) => [(38, .bool p)]) (fun (p : Bool) => []) (fun (p : Bool) => K78 (.nx p)) ?_ ?_
 ·skip
  refine GL.region ?_
  refine RL.mv rfl rfl rfl ?_
  refine RL.binI (v := .bool (decide (x1 < (1 : Int)))) rfl rfl rfl rfl rfl ?_
  refine RL.mv rfl rfl rfl ?_
  refine RL.split (t := 34) rfl (fun b84 => ?_) (fun b84 => ?_)
  ·replace h79 := ite_t b84 h79
   refine RL.skip rfl rfl ?_
   refine RL.skip rfl rfl ?_
   refine RL.skip rfl rfl ?_
   refine RL.pickT rfl rfl rfl rfl ?_
   refine RL.fin ?_
   cases h79
   exact fun a w st => mid_intro true h80 (St.cut [] ⟨rfl, trivial⟩ (by decide) rfl st)
  replace h79 := ite_f b84 h79
  refine RL.mv rfl rfl rfl ?_
  refine RL.mv rfl rfl rfl ?_
  refine RL.binI (v := .bool (decide (x1 > x17))) rfl rfl rfl rfl rfl ?_
  refine RL.pickF rfl rfl rfl rfl ?_
  refine RL.fin ?_
  cases h79
  exact fun a w st => mid_intro (decide (x1 > x17)) h80 (St.cut [] ⟨rfl, trivial⟩ (by decide) rfl st)
 rintro x76 h85
 have h86 := h81 _ h85
 try dsimp only at h86
 refine GL.weak (env' := [(38, .bool x76)]) (L' := []) ss ?_
 refine GL.cond rfl (fun b87 => ?_) (fun b87 => ?_)
 ·replace h86 := ite_t b87 h86
  refine GL.seq ?_
  refine GL.region ?_
  refine RL.asg rfl rfl rfl ?_
  refine RL.finG ?_
  have h86 := Option.some.inj h86
  subst h86
  exact GL.ret (Gx.ret (v := .int .i64 (3 : Int)) (res1 rfl rfl) (fun a w st => st.toPostC rfl))
 replace h86 := ite_f b87 h86
 refine GL.skip ?_
 refine GL.seq ?_
 refine GL.region ?_
 refine RL.asg rfl rfl rfl ?_
 refine RL.finG ?_
 have h86 := Option.some.inj h86
 subst h86
 exact GL.ret (Gx.ret (v := .int .i64 (0 : Int)) (res1 rfl rfl) (fun a w st => st.toPostC rfl))

theorem power_wins_c (S : Hp) (w : World) (hS : S.sub w) (v0 : Value) (x0 : (List Int)) (k0 : ((TR.sl TR.int)).vrep S v0 x0) (x1 : Int) (x2 : Int) (res : Bool) (hm : power_wins_m x0 x1 x2 = some res) : Calls Tryz.prog 56 #[v0, .int .i64 x1, .int .i64 x2] w (PostC w (.bool res)) := by
 refine calls_enter 29 Tryz.func56 Tryz.ntmps56 rfl S true [(0, v0), (1, .int .i64 x1), (2, .int .i64 x2)] [imm (TR.sl TR.int) v0 x0] rfl ⟨rfl, ⟨rfl, ⟨rfl, trivial⟩⟩⟩ hS ⟨k0, trivial⟩ ?_
 unfold power_wins_m at hm
 refine GL.seq ?_
 refine GL.region ?_
 refine RL.asg rfl rfl rfl ?_
 refine RL.finG ?_
 refine GL.seq ?_
 refine GL.region ?_
 refine RL.asg rfl rfl rfl ?_
 refine RL.finG ?_
 refine GL.seq ?_
 refine GL.seq ?_
 refine GL.region ?_
 refine RL.mv rfl rfl rfl ?_
 refine RL.lenS 0 Tryz.underlying61 rfl rfl rfl rfl SlOf.imm ?_
 refine RL.mv rfl rfl rfl ?_
 refine RL.finG ?_
 refine GL.open_ 0 rfl (fun S h => len_imm S h) (fun n14 => ?_)
 obtain ⟨y15, K16, h17, h18, h19, h20, h21⟩ := bindR_K hm
 refine GL.join (ι := Int) (fun (p : Int) => [(1, .int .i64 x1), (7, .int .i64 p)]) (fun (p : Int) => []) (fun (p : Int) => K16 (.nx p)) ?_ ?_
 ·refine GL.block ?_
  refine GL.loop (ι := Nat × (List Int) × Int) (fun (p : Nat × (List Int) × Int) => [(1, .int .i64 x1), (2, .int .i64 x2), (7, .int .i64 p.2.2), (10, v0), (11, .int .i64 ((x0).length : Int)), (12, .int .i64 (p.1 : Int))]) (fun (p : Nat × (List Int) × Int) => [imm (TR.sl TR.int) v0 x0]) (fun (p : Nat × (List Int) × Int) => p.1 + p.2.1.length = (x0).length ∧ List.drop p.1 x0 = p.2.1 ∧ rangeL (power_wins_b1 x2) p.2.1 p.1 p.2.2 = some y15) (fun (p : Nat × (List Int) × Int) => p.2.1.length) (0, x0, (0 : Int)) ⟨by simp, by simp, h17⟩ (fun a w st => St.cut [0] ⟨rfl, rfl, rfl, rfl, rfl, rfl, trivial⟩ (by decide) rfl st) ?_
  rintro ⟨i22, r23, x4⟩ ⟨h28, h29, h27⟩
  try dsimp only at h28 h29 h27
  refine GL.weak (env' := [(1, .int .i64 x1), (2, .int .i64 x2), (7, .int .i64 x4), (10, v0), (11, .int .i64 ((x0).length : Int)), (12, .int .i64 (i22 : Int))]) (L' := [imm (TR.sl TR.int) v0 x0]) ss ?_
  refine GL.seq ?_
  refine GL.region ?_
  refine RL.binI (v := .bool (decide ((i22 : Int) < ((x0).length : Int)))) rfl rfl rfl rfl rfl ?_
  refine RL.finG ?_
  refine GL.seq ?_
  refine GL.cond rfl (fun b30 => ?_) (fun b30 => ?_)
  ·have h31 : i22 < (x0).length := by have := of_decide_eq_true b30; omega
   obtain ⟨y32, r34, hr, e33, h35⟩ := drop_cons h29 rfl h31
   subst hr
   obtain ⟨z24, h25, h26⟩ := rangeL_some h27
   unfold power_wins_b1 at h25
   try dsimp only at h25
   refine GL.skip ?_
   refine GL.seq ?_
   refine GL.block ?_
   refine GL.seq ?_
   refine GL.region ?_
   refine RL.mv rfl rfl rfl ?_
   refine RL.idxS (sz := 1) 0 Tryz.underlying61 Tryz_ln3 rfl rfl rfl rfl rfl SlOf.imm (by omega) (by omega) ?_
   refine RL.ldSx (i := i22) (e' := y32) 0 Ex.ik Tryz_ln3 rfl rfl rfl rfl SlOf.imm e33 Part.self ?_
   refine RL.asg rfl rfl rfl ?_
   refine RL.asg rfl rfl rfl ?_
   refine RL.finG ?_
   refine GL.seq ?_
   refine GL.region ?_
   refine RL.mv rfl rfl rfl ?_
   refine RL.mv rfl rfl rfl ?_
   obtain ⟨y38, e39, h25⟩ := bind_some h25
   replace e39 := chk_some e39
   refine RL.sh (by simp) rfl rfl rfl rfl e39 ?_
   refine RL.binI (v := .int .i64 (bits .and .i64 (Int.fdiv x2 (2 ^ (min (i22 : Int).toNat (IntKind.bits .i64)))) (1 : Int))) rfl rfl rfl rfl rfl ?_
   refine RL.binI (v := .bool ((bits .and .i64 (Int.fdiv x2 (2 ^ (min (i22 : Int).toNat (IntKind.bits .i64)))) (1 : Int)) == (1 : Int))) rfl rfl rfl rfl rfl ?_
   refine RL.finG ?_
   refine GL.cond rfl (fun b40 => ?_) (fun b40 => ?_)
   ·replace h25 := ite_t b40 h25
    refine GL.region ?_
    refine RL.mv rfl rfl rfl ?_
    refine RL.mv rfl rfl rfl ?_
    refine RL.binI (v := .int .i64 (wadd x4 y32)) rfl rfl rfl rfl rfl ?_
    refine RL.asg rfl rfl rfl ?_
    refine RL.finG ?_
    refine GL.nilB ?_
    refine GL.region ?_
    refine RL.binI (v := .int .i64 ((i22 + 1 : Nat) : Int)) rfl rfl rfl rfl (binI_succ i22 (by omega)) ?_
    refine RL.mv rfl rfl rfl ?_
    refine RL.fin ?_
    cases h25
    exact fun a w st => lop_intro (i22 + 1, r34, wadd x4 y32) ⟨by show i22 + 1 + r34.length = (x0).length; simp only [List.length_cons] at h28; omega, h35, h26⟩ (by simp) (St.cut [0] ⟨rfl, rfl, rfl, rfl, rfl, rfl, trivial⟩ (by decide) rfl st)
   replace h25 := ite_f b40 h25
   refine GL.skip ?_
   refine GL.nilB ?_
   refine GL.region ?_
   refine RL.binI (v := .int .i64 ((i22 + 1 : Nat) : Int)) rfl rfl rfl rfl (binI_succ i22 (by omega)) ?_
   refine RL.mv rfl rfl rfl ?_
   refine RL.fin ?_
   cases h25
   exact fun a w st => lop_intro (i22 + 1, r34, x4) ⟨by show i22 + 1 + r34.length = (x0).length; simp only [List.length_cons] at h28; omega, h35, h26⟩ (by simp) (St.cut [0] ⟨rfl, rfl, rfl, rfl, rfl, rfl, trivial⟩ (by decide) rfl st)
  have h31 : ¬ i22 < (x0).length := by have := of_decide_eq_false b30; omega
  obtain rfl : r23 = [] := by rw [← h29]; exact List.drop_of_length_le (by omega)
  replace h27 : some (Fl.nx _) = some y15 := h27
  cases h27
  exact GL.exit (fun a w st => mid_intro x4 h18 (St.cut [] ⟨rfl, rfl, trivial⟩ (by decide) rfl st))
 rintro x4 h41
 have h42 := h19 _ h41
 try dsimp only at h42
 refine GL.weak (env' := [(1, .int .i64 x1), (7, .int .i64 x4)]) (L' := []) ss ?_
 refine GL.seq ?_
 refine GL.region ?_
 refine RL.mv rfl rfl rfl ?_
 refine RL.mv rfl rfl rfl ?_
 refine RL.binI (v := .bool (decide (x4 ≥ x1))) rfl rfl rfl rfl rfl ?_
 refine RL.asg rfl rfl rfl ?_
 refine RL.finG ?_
 have h42 := Option.some.inj h42
 subst h42
 exact GL.ret (Gx.ret (v := .bool (decide (x4 ≥ x1))) (res1 rfl rfl) (fun a w st => st.toPostC rfl))

theorem power_Swings_c (S : Hp) (w : World) (hS : S.sub w) (v0 : Value) (x0 : (List Int)) (k0 : ((TR.sl TR.int)).vrep S v0 x0) (x1 : Int) (res : (List Int) × Int) (hm : power_Swings_m x0 x1 = some res) : Calls Tryz.prog 33 #[v0, .int .i64 x1] w (Post w S (fun (o : Value) => .tuple #[o, .int .i64 res.2]) (fun (o : Value) => [own 3 TR.int o res.1])) := by
 refine calls_enter 60 Tryz.func33 Tryz.ntmps33 rfl S false [(0, v0), (1, .int .i64 x1)] [imm (TR.sl TR.int) v0 x0] rfl ⟨rfl, ⟨rfl, trivial⟩⟩ hS ⟨k0, trivial⟩ ?_
 unfold power_Swings_m at hm
 refine GL.seq ?_
 refine GL.region ?_
 refine RL.asg rfl rfl rfl ?_
 refine RL.asg rfl rfl rfl ?_
 refine RL.finG ?_
 refine GL.seq ?_
 refine GL.seq ?_
 refine GL.region ?_
 refine RL.mv rfl rfl rfl ?_
 refine RL.mv rfl rfl rfl ?_
 obtain ⟨y5, e6, hm⟩ := bind_some hm
 refine RL.callC (v := .int .i64 y5) (vs := [v0, .int .i64 x1]) Tryz_fit55 rfl rfl rfl rfl (fun U w hU hW hL => power_Check_c U w hU _ _ (hL 0 _ _ rfl Seen.imm) x1 _ e6) ?_
 refine RL.asg rfl rfl rfl ?_
 refine RL.finG ?_
 refine GL.seq ?_
 refine GL.region ?_
 refine RL.mv rfl rfl rfl ?_
 refine RL.binI (v := .bool (y5 != (0 : Int))) rfl rfl rfl rfl rfl ?_
 refine RL.finG ?_
 refine GL.cond rfl (fun b7 => ?_) (fun b7 => ?_)
 ·replace hm := ite_t b7 hm
  refine GL.seq ?_
  refine GL.region ?_
  refine RL.mv rfl rfl rfl ?_
  refine RL.asg rfl rfl rfl ?_
  refine RL.asg rfl rfl rfl ?_
  refine RL.finG ?_
  refine GL.weak (fun a w st => st.nilOwn 3 TR.int) ?_
  have hm := Option.some.inj hm
  subst hm
  exact GL.ret (Gx.ret (v := .tuple #[Value.slice none 0 0, .int .i64 y5]) (res2 rfl rfl rfl) (fun a w st => (st.pick [1] (by decide) rfl).toPost (Value.slice none 0 0)))
 replace hm := ite_f b7 hm
 refine GL.skip ?_
 refine GL.seq ?_
 refine GL.region ?_
 refine RL.mv rfl rfl rfl ?_
 refine RL.lenS 0 Tryz.underlying61 rfl rfl rfl rfl SlOf.imm ?_
 obtain ⟨y11, e12, hm⟩ := bind_some hm
 replace e12 := chk_some e12
 refine RL.mkS (t := TR.int) (z := (0 : Int)) Tryz.underlying61 Tryz_lo3 (fun S => rfl) rfl rfl rfl rfl e12.1 e12.2 ?_
 intro v13
 refine RL.asg rfl rfl rfl ?_
 refine RL.finG ?_
 refine GL.seq ?_
 refine GL.seq ?_
 refine GL.region ?_
 refine RL.mv rfl rfl rfl ?_
 refine RL.lenS 0 Tryz.underlying61 rfl rfl rfl rfl SlOf.imm ?_
 obtain ⟨y16, e17, hm⟩ := bind_some hm
 replace e17 := chk_some e17
 refine RL.sh (by simp) rfl rfl rfl rfl e17 ?_
 refine RL.mv rfl rfl rfl ?_
 refine RL.finG ?_
 obtain ⟨y364, e365, hm⟩ := bind_some hm
 replace e365 := chk_some e365
 obtain ⟨y366, K367, h368, h369, h370, h371, h372⟩ := bindR_K hm
 refine GL.join (ι := (List Int)) (fun (p : (List Int)) => [(7, v13)]) (fun (p : (List Int)) => [own 3 TR.int v13 p]) (fun (p : (List Int)) => K367 (.nx p)) ?_ ?_
 ·refine GL.block ?_
  refine GL.loop (ι := Nat × Nat × (List Int)) (fun (p : Nat × Nat × (List Int)) => [(0, v0), (1, .int .i64 x1), (7, v13), (21, .int .i64 (IntKind.wrap .i64 ((1 : Int) * 2 ^ (min ((x0).length : Int).toNat (IntKind.bits .i64))))), (22, .int .i64 (p.1 : Int))]) (fun (p : Nat × Nat × (List Int)) => [imm (TR.sl TR.int) v0 x0, own 3 TR.int v13 p.2.2]) (fun (p : Nat × Nat × (List Int)) => p.1 + p.2.1 = (IntKind.wrap .i64 ((1 : Int) * 2 ^ (min ((x0).length : Int).toNat (IntKind.bits .i64)))).toNat ∧ rangeN (power_Swings_b1 x0 x1) p.2.1 p.1 p.2.2 = some y366) (fun (p : Nat × Nat × (List Int)) => p.2.1) (0, (IntKind.wrap .i64 ((1 : Int) * 2 ^ (min ((x0).length : Int).toNat (IntKind.bits .i64)))).toNat, (List.replicate (((x0).length : Int)).toNat (0 : Int))) ⟨by simp, h368⟩ (fun a w st => St.cut [0, 1] ⟨rfl, rfl, rfl, rfl, rfl, trivial⟩ (by decide) rfl st) ?_
  rintro ⟨i373, r374, l190⟩ ⟨h379, h378⟩
  try dsimp only at h379 h378
  refine GL.weak (env' := [(0, v0), (1, .int .i64 x1), (7, v13), (21, .int .i64 (IntKind.wrap .i64 ((1 : Int) * 2 ^ (min ((x0).length : Int).toNat (IntKind.bits .i64))))), (22, .int .i64 (i373 : Int))]) (L' := [imm (TR.sl TR.int) v0 x0, own 3 TR.int v13 l190]) ss ?_
  refine GL.seq ?_
  refine GL.region ?_
  refine RL.binI (v := .bool (decide ((i373 : Int) < IntKind.wrap .i64 ((1 : Int) * 2 ^ (min ((x0).length : Int).toNat (IntKind.bits .i64)))))) rfl rfl rfl rfl rfl ?_
  refine RL.finG ?_
  refine GL.seq ?_
  refine GL.cond rfl (fun b381 => ?_) (fun b381 => ?_)
  ·have h382 : i373 < (IntKind.wrap .i64 ((1 : Int) * 2 ^ (min ((x0).length : Int).toNat (IntKind.bits .i64)))).toNat := by have := of_decide_eq_true b381; omega
   obtain ⟨r383, hr⟩ : ∃ m, r374 = m + 1 := ⟨r374 - 1, by omega⟩
   subst hr
   obtain ⟨z375, h376, h377⟩ := rangeN_some h378
   unfold power_Swings_b1 at h376
   try dsimp only at h376
   refine GL.skip ?_
   refine GL.seq ?_
   refine GL.block ?_
   refine GL.seq ?_
   refine GL.region ?_
   refine RL.mv rfl rfl rfl ?_
   refine RL.asg rfl rfl rfl ?_
   refine RL.finG ?_
   refine GL.seq ?_
   refine GL.region ?_
   refine RL.mv rfl rfl rfl ?_
   refine RL.lenS 0 Tryz.underlying61 rfl rfl rfl rfl SlOf.imm ?_
   refine RL.mv rfl rfl rfl ?_
   refine RL.finG ?_
   refine GL.open_ 0 rfl (fun S h => len_imm S h) (fun n483 => ?_)
   obtain ⟨y484, K485, h486, h487, h488, h489, h490⟩ := bindF_K h376
   refine GL.join (ι := (List Int)) (fun (p : (List Int)) => [(0, v0), (1, .int .i64 x1), (7, v13), (21, .int .i64 (IntKind.wrap .i64 ((1 : Int) * 2 ^ (min ((x0).length : Int).toNat (IntKind.bits .i64))))), (22, .int .i64 (i373 : Int))]) (fun (p : (List Int)) => [imm (TR.sl TR.int) v0 x0, own 3 TR.int v13 p]) (fun (p : (List Int)) => K485 (.nx p)) ?_ ?_
   ·refine GL.block ?_
    refine GL.loop (ι := Nat × (List Int) × (List Int)) (fun (p : Nat × (List Int) × (List Int)) => [(0, v0), (1, .int .i64 x1), (7, v13), (8, .int .i64 (i373 : Int)), (21, .int .i64 (IntKind.wrap .i64 ((1 : Int) * 2 ^ (min ((x0).length : Int).toNat (IntKind.bits .i64))))), (22, .int .i64 (i373 : Int)), (26, .int .i64 ((x0).length : Int)), (27, .int .i64 (p.1 : Int))]) (fun (p : Nat × (List Int) × (List Int)) => [imm (TR.sl TR.int) v0 x0, own 3 TR.int v13 p.2.2]) (fun (p : Nat × (List Int) × (List Int)) => p.1 + p.2.1.length = (x0).length ∧ List.drop p.1 x0 = p.2.1 ∧ rangeL (power_Swings_b2 i373 x0 x1) p.2.1 p.1 p.2.2 = some y484) (fun (p : Nat × (List Int) × (List Int)) => p.2.1.length) (0, x0, l190) ⟨by simp, by simp, h486⟩ (fun a w st => St.cut [0, 1] ⟨rfl, rfl, rfl, rfl, rfl, rfl, rfl, rfl, trivial⟩ (by decide) rfl st) ?_
    rintro ⟨i491, r492, l433⟩ ⟨h497, h498, h496⟩
    try dsimp only at h497 h498 h496
    refine GL.weak (env' := [(0, v0), (1, .int .i64 x1), (7, v13), (8, .int .i64 (i373 : Int)), (21, .int .i64 (IntKind.wrap .i64 ((1 : Int) * 2 ^ (min ((x0).length : Int).toNat (IntKind.bits .i64))))), (22, .int .i64 (i373 : Int)), (26, .int .i64 ((x0).length : Int)), (27, .int .i64 (i491 : Int))]) (L' := [imm (TR.sl TR.int) v0 x0, own 3 TR.int v13 l433]) ss ?_
    refine GL.seq ?_
    refine GL.region ?_
    refine RL.binI (v := .bool (decide ((i491 : Int) < ((x0).length : Int)))) rfl rfl rfl rfl rfl ?_
    refine RL.finG ?_
    refine GL.seq ?_
    refine GL.cond rfl (fun b499 => ?_) (fun b499 => ?_)
    ·have h500 : i491 < (x0).length := by have := of_decide_eq_true b499; omega
     obtain ⟨y501, r503, hr, e502, h504⟩ := drop_cons h498 rfl h500
     subst hr
     obtain ⟨z493, h494, h495⟩ := rangeL_some h496
     unfold power_Swings_b2 at h494
     try dsimp only at h494
     refine GL.skip ?_
     refine GL.seq ?_
     refine GL.block ?_
     refine GL.seq ?_
     refine GL.region ?_
     refine RL.mv rfl rfl rfl ?_
     refine RL.asg rfl rfl rfl ?_
     refine RL.finG ?_
     refine GL.seq ?_
     obtain ⟨y526, K527, h528, h529, h530, h531, h532⟩ := bindF_K h494
     refine GL.join (ι := Bool) (fun (p : Bool) => [(0, v0), (1, .int .i64 x1), (7, v13), (8, .int .i64 (i373 : Int)), (9, .int .i64 (i491 : Int)), (21, .int .i64 (IntKind.wrap .i64 ((1 : Int) * 2 ^ (min ((x0).length : Int).toNat (IntKind.bits .i64))))), (22, .int .i64 (i373 : Int)), (26, .int .i64 ((x0).length : Int)), (27, .int .i64 (i491 : Int)), (50, .bool p)]) (fun (p : Bool) => [imm (TR.sl TR.int) v0 x0, own 3 TR.int v13 l433]) (fun (p : Bool) => K527 (.nx p)) ?_ ?_
     ·skip
      refine GL.region ?_
      refine RL.mv rfl rfl rfl ?_
      refine RL.mv rfl rfl rfl ?_
      obtain ⟨y533, e534, h528⟩ := bind_some h528
      replace e534 := chk_some e534
      refine RL.sh (by simp) rfl rfl rfl rfl e534 ?_
      refine RL.binI (v := .int .i64 (bits .and .i64 (Int.fdiv (i373 : Int) (2 ^ (min (i491 : Int).toNat (IntKind.bits .i64)))) (1 : Int))) rfl rfl rfl rfl rfl ?_
      refine RL.binI (v := .bool ((bits .and .i64 (Int.fdiv (i373 : Int) (2 ^ (min (i491 : Int).toNat (IntKind.bits .i64)))) (1 : Int)) == (1 : Int))) rfl rfl rfl rfl rfl ?_
      refine RL.mv rfl rfl rfl ?_
      refine RL.split (t := 35) rfl (fun b535 => ?_) (fun b535 => ?_)
      ·replace h528 := ite_t b535 h528
       refine RL.mv rfl rfl rfl ?_
       refine RL.mv rfl rfl rfl ?_
       refine RL.mv rfl rfl rfl ?_
       obtain ⟨y536, e537, h528⟩ := bind_some h528
       refine RL.callC (v := .bool y536) (vs := [v0, .int .i64 x1, .int .i64 (i373 : Int)]) Tryz_fit56 rfl rfl rfl rfl (fun U w hU hW hL => power_wins_c U w hU _ _ (hL 0 _ _ rfl Seen.imm) x1 (i373 : Int) _ e537) ?_
       refine RL.pickT rfl rfl rfl rfl ?_
       refine RL.mv rfl rfl rfl ?_
       refine RL.split (t := 41) rfl (fun b538 => ?_) (fun b538 => ?_)
       ·replace h528 := ite_t b538 h528
        refine RL.mv rfl rfl rfl ?_
        refine RL.mv rfl rfl rfl ?_
        refine RL.mv rfl rfl rfl ?_
        refine RL.mv rfl rfl rfl ?_
        obtain ⟨y539, e540, h528⟩ := bind_some h528
        replace e540 := chk_some e540
        refine RL.sh (by simp) rfl rfl rfl rfl e540 ?_
        refine RL.binI (v := .int .i64 (bits .andNot .i64 (i373 : Int) (IntKind.wrap .i64 ((1 : Int) * 2 ^ (min (i491 : Int).toNat (IntKind.bits .i64)))))) rfl rfl rfl rfl rfl ?_
        obtain ⟨y541, e542, h528⟩ := bind_some h528
        refine RL.callC (v := .bool y541) (vs := [v0, .int .i64 x1, .int .i64 (bits .andNot .i64 (i373 : Int) (IntKind.wrap .i64 ((1 : Int) * 2 ^ (min (i491 : Int).toNat (IntKind.bits .i64)))))]) Tryz_fit56 rfl rfl rfl rfl (fun U w hU hW hL => power_wins_c U w hU _ _ (hL 0 _ _ rfl Seen.imm) x1 (bits .andNot .i64 (i373 : Int) (IntKind.wrap .i64 ((1 : Int) * 2 ^ (min (i491 : Int).toNat (IntKind.bits .i64))))) _ e542) ?_
        refine RL.notB rfl rfl rfl ?_
        refine RL.pickT rfl rfl rfl rfl ?_
        refine RL.fin ?_
        cases h528
        exact fun a w st => mid_intro (!y541) h529 (St.cut [0, 1] ⟨rfl, rfl, rfl, rfl, rfl, rfl, rfl, rfl, rfl, rfl, trivial⟩ (by decide) rfl st)
       replace h528 := ite_f b538 h528
       refine RL.skip rfl rfl ?_
       refine RL.skip rfl rfl ?_
       refine RL.skip rfl rfl ?_
       refine RL.skip rfl rfl ?_
       refine RL.skip rfl rfl ?_
       refine RL.skip rfl rfl ?_
       refine RL.skip rfl rfl ?_
       refine RL.skip rfl rfl ?_
       refine RL.pickF rfl rfl rfl rfl ?_
       refine RL.fin ?_
       cases h528
       exact fun a w st => mid_intro false h529 (St.cut [0, 1] ⟨rfl, rfl, rfl, rfl, rfl, rfl, rfl, rfl, rfl, rfl, trivial⟩ (by decide) rfl st)
      replace h528 := ite_f b535 h528
      refine RL.skip rfl rfl ?_
      refine RL.skip rfl rfl ?_
      refine RL.skip rfl rfl ?_
      refine RL.skip rfl rfl ?_
      refine RL.pickF rfl rfl rfl rfl ?_
      refine RL.mv rfl rfl rfl ?_
      refine RL.skip rfl rfl ?_
      refine RL.skip rfl rfl ?_
      refine RL.skip rfl rfl ?_
      refine RL.skip rfl rfl ?_
      refine RL.skip rfl rfl ?_
      refine RL.skip rfl rfl ?_
      refine RL.skip rfl rfl ?_
      refine RL.skip rfl rfl ?_
      refine RL.pickF rfl rfl rfl rfl ?_
      refine RL.fin ?_
      cases h528
      exact fun a w st => mid_intro false h529 (St.cut [0, 1] ⟨rfl, rfl, rfl, rfl, rfl, rfl, rfl, rfl, rfl, rfl, trivial⟩ (by decide) rfl st)
     rintro x525 h543
     have h544 := h530 _ h543
     try dsimp only at h544
     refine GL.weak (env' := [(0, v0), (1, .int .i64 x1), (7, v13), (8, .int .i64 (i373 : Int)), (9, .int .i64 (i491 : Int)), (21, .int .i64 (IntKind.wrap .i64 ((1 : Int) * 2 ^ (min ((x0).length : Int).toNat (IntKind.bits .i64))))), (22, .int .i64 (i373 : Int)), (26, .int .i64 ((x0).length : Int)), (27, .int .i64 (i491 : Int)), (50, .bool x525)]) (L' := [imm (TR.sl TR.int) v0 x0, own 3 TR.int v13 l433]) ss ?_
     refine GL.cond rfl (fun b545 => ?_) (fun b545 => ?_)
     ·replace h544 := ite_t b545 h544
      refine GL.region ?_
      refine RL.mv rfl rfl rfl ?_
      refine RL.mv rfl rfl rfl ?_
      obtain ⟨y550, e551, h544⟩ := bind_some h544
      refine RL.idxS (sz := 1) 1 Tryz.underlying61 Tryz_ln3 rfl rfl rfl rfl rfl SlOf.own (idx_some e551).1 (idx_some e551).2.1 ?_
      refine RL.ldSx (i := i491) (e' := y550) 1 Ex.ik Tryz_ln3 rfl rfl rfl rfl SlOf.own (idx_some e551).2.2 Part.self ?_
      refine RL.binI (v := .int .i64 (wadd y550 (1 : Int))) rfl rfl rfl rfl rfl ?_
      obtain ⟨y552, e553, h544⟩ := bind_some h544
      refine RL.idxS (sz := 1) 1 Tryz.underlying61 Tryz_ln3 rfl rfl rfl rfl rfl SlOf.own (idx_some e553).1 (idx_some e553).2.1 ?_
      refine RL.stS (i := i491) (e' := wadd y550 (1 : Int)) (e1 := wadd y550 (1 : Int)) (r := TR.int) 1 Tryz_ln3 rfl rfl rfl rfl VR.int rfl (idx_some e553).2.2 Upd.self ?_
      refine RL.finG ?_
      refine GL.nilB ?_
      refine GL.region ?_
      refine RL.binI (v := .int .i64 ((i491 + 1 : Nat) : Int)) rfl rfl rfl rfl (binI_succ i491 (by omega)) ?_
      refine RL.mv rfl rfl rfl ?_
      refine RL.fin ?_
      cases h544
      exact fun a w st => lop_intro (i491 + 1, r503, (List.set l433 i491 (wadd y550 (1 : Int)))) ⟨by show i491 + 1 + r503.length = (x0).length; simp only [List.length_cons] at h497; omega, h504, h495⟩ (by simp) (St.cut [0, 1] ⟨rfl, rfl, rfl, rfl, rfl, rfl, rfl, rfl, trivial⟩ (by decide) rfl st)
     replace h544 := ite_f b545 h544
     refine GL.skip ?_
     refine GL.nilB ?_
     refine GL.region ?_
     refine RL.binI (v := .int .i64 ((i491 + 1 : Nat) : Int)) rfl rfl rfl rfl (binI_succ i491 (by omega)) ?_
     refine RL.mv rfl rfl rfl ?_
     refine RL.fin ?_
     cases h544
     exact fun a w st => lop_intro (i491 + 1, r503, l433) ⟨by show i491 + 1 + r503.length = (x0).length; simp only [List.length_cons] at h497; omega, h504, h495⟩ (by simp) (St.cut [0, 1] ⟨rfl, rfl, rfl, rfl, rfl, rfl, rfl, rfl, trivial⟩ (by decide) rfl st)
    have h500 : ¬ i491 < (x0).length := by have := of_decide_eq_false b499; omega
    obtain rfl : r492 = [] := by rw [← h498]; exact List.drop_of_length_le (by omega)
    replace h496 : some (Fl.nx _) = some y484 := h496
    cases h496
    exact GL.exit (fun a w st => mid_intro l433 h487 (St.cut [0, 1] ⟨rfl, rfl, rfl, rfl, rfl, trivial⟩ (by decide) rfl st))
   rintro l433 h554
   have h555 := h488 _ h554
   try dsimp only at h555
   refine GL.weak (env' := [(0, v0), (1, .int .i64 x1), (7, v13), (21, .int .i64 (IntKind.wrap .i64 ((1 : Int) * 2 ^ (min ((x0).length : Int).toNat (IntKind.bits .i64))))), (22, .int .i64 (i373 : Int))]) (L' := [imm (TR.sl TR.int) v0 x0, own 3 TR.int v13 l433]) ss ?_
   refine GL.nilB ?_
   refine GL.region ?_
   refine RL.binI (v := .int .i64 ((i373 + 1 : Nat) : Int)) rfl rfl rfl rfl (binI_succ i373 (by omega)) ?_
   refine RL.mv rfl rfl rfl ?_
   refine RL.fin ?_
   cases h555
   exact fun a w st => lop_intro (i373 + 1, r383, l433) ⟨by show i373 + 1 + r383 = (IntKind.wrap .i64 ((1 : Int) * 2 ^ (min ((x0).length : Int).toNat (IntKind.bits .i64)))).toNat; omega, h377⟩ (by simp) (St.cut [0, 1] ⟨rfl, rfl, rfl, rfl, rfl, trivial⟩ (by decide) rfl st)
  have h382 : ¬ i373 < (IntKind.wrap .i64 ((1 : Int) * 2 ^ (min ((x0).length : Int).toNat (IntKind.bits .i64)))).toNat := by have := of_decide_eq_false b381; omega
  obtain rfl : r374 = 0 := by omega
  replace h378 : some (Fl.nx _) = some y366 := h378
  cases h378
  exact GL.exit (fun a w st => mid_intro l190 h369 (St.cut [1] ⟨rfl, trivial⟩ (by decide) rfl st))
 rintro l190 h556
 have h557 := h370 _ h556
 try dsimp only at h557
 refine GL.weak (env' := [(7, v13)]) (L' := [own 3 TR.int v13 l190]) ss ?_
 refine GL.seq ?_
 refine GL.region ?_
 refine RL.mv rfl rfl rfl ?_
 refine RL.asg rfl rfl rfl ?_
 refine RL.asg rfl rfl rfl ?_
 refine RL.finG ?_
 have h557 := Option.some.inj h557
 subst h557
 exact GL.ret (Gx.ret (v := .tuple #[v13, .int .i64 (0 : Int)]) (res2 rfl rfl rfl) (fun a w st => (st.pick [0] (by decide) rfl).toPost v13))

theorem desk_asked_c (S : Hp) (w : World) (hS : S.sub w) (hT : Tab Tryz.prog (Tryz.lays146_ren.g 1) S) (x0 : B8) (v1 : Value) (x1 : (List B8)) (k1 : ((TR.sl TR.str)).vrep S v1 x1) (res : Except Int B8) (hm : desk_asked_m x0 x1 = some res) : Calls Tryz.prog 21 #[(sv x0), v1] w (thrP (PostE 48 w) (fun (r : B8) => PostV w ((sv r))) res) := by
 refine calls_enter 103 Tryz.func21 Tryz.ntmps21 rfl S false [(0, (sv x0)), (1, v1)] [imm (TR.sl TR.str) v1 x1] rfl ⟨rfl, ⟨rfl, trivial⟩⟩ hS ⟨k1, trivial⟩ ?_
 unfold desk_asked_m at hm
 refine GL.seq ?_
 refine GL.region ?_
 refine RL.asg rfl rfl rfl ?_
 refine RL.finG ?_
 refine GL.seq ?_
 refine GL.region ?_
 refine RL.mv rfl rfl rfl ?_
 obtain ⟨y8, e9, hm⟩ := bind_some hm
 rcases y8 with x10 | z11
 ·replace hm := thr_e hm
  refine RL.callE (T := 48) (n := x10) (vs := [v1]) Tryz_fit27 rfl rfl rfl rfl (fun U w hU hW hL => desk_numbers_c U w hU _ _ (hL 0 _ _ rfl Seen.imm) _ e9) ?_
  have hm := Option.some.inj hm
  subst hm
  first | exact fun a w st => And.intro st.defers (thrP_err st.toPostE) | exact fun a w st _ _ => And.intro st.defers (thrP_err st.toPostE)
 replace hm := thr_o hm
 refine RL.call (vs := [v1]) Tryz_fit27 rfl rfl rfl rfl rfl (fun S f w hS hW hi => desk_numbers_c S w hS _ _ (hi 0 _ rfl) _ e9) ?_
 intro v12
 refine RL.asg rfl rfl rfl ?_
 refine RL.finG ?_
 refine GL.seq ?_
 refine GL.block ?_
 refine GL.seq ?_
 refine GL.region ?_
 refine RL.mv rfl rfl rfl ?_
 refine RL.binS (v := .bool (x0 == ([112, 105, 108, 101, 115] : B8))) rfl rfl rfl rfl rfl ?_
 refine RL.asg rfl rfl rfl ?_
 refine RL.finG ?_
 refine GL.cond rfl (fun b13 => ?_) (fun b13 => ?_)
 ·replace hm := ite_t b13 hm
  refine GL.seq ?_
  refine GL.region ?_
  refine RL.mv rfl rfl rfl ?_
  obtain ⟨y16, e17, hm⟩ := bind_some hm
  refine RL.callC (v := .tuple #[.int .i64 y16.1, .int .i64 y16.2.1, .int .i64 y16.2.2]) (vs := [v12]) Tryz_fit30 rfl rfl rfl rfl (fun U w hU hW hL => piles_Move_c U w hU _ _ (hL 1 _ _ rfl Seen.own) _ e17) ?_
  refine RL.mv rfl rfl rfl ?_
  refine RL.ext rfl rfl rfl rfl ?_
  refine RL.ext rfl rfl rfl rfl ?_
  refine RL.ext rfl rfl rfl rfl ?_
  refine RL.asg rfl rfl rfl ?_
  refine RL.asg rfl rfl rfl ?_
  refine RL.asg rfl rfl rfl ?_
  refine RL.finG ?_
  refine GL.seq ?_
  refine GL.region ?_
  refine RL.mv rfl rfl rfl ?_
  obtain ⟨y22, e23, hm⟩ := bind_some hm
  rcases y22 with x24 | z25
  ·replace hm := thr_e hm
   refine RL.callE (T := 48) (n := x24) (vs := [.int .i64 y16.2.2]) Tryz_fit19 rfl rfl rfl rfl (fun U w hU hW hL => desk_must_c U w hU y16.2.2 _ e23) ?_
   have hm := Option.some.inj hm
   subst hm
   first | exact fun a w st => And.intro st.defers (thrP_err st.toPostE) | exact fun a w st _ _ => And.intro st.defers (thrP_err st.toPostE)
  replace hm := thr_o hm
  refine RL.callC (v := .tuple #[]) (vs := [.int .i64 y16.2.2]) Tryz_fit19 rfl rfl rfl rfl (fun U w hU hW hL => desk_must_c U w hU y16.2.2 _ e23) ?_
  refine RL.finG ?_
  refine GL.seq ?_
  refine GL.region ?_
  refine RL.mv rfl rfl rfl ?_
  refine RL.mv rfl rfl rfl ?_
  refine RL.bS (t := TR.int) (vs := [.int .i64 y16.1, .int .i64 y16.2.1]) ([y16.1, y16.2.1] : (List Int)) Tryz.underlying61 Tryz_lo3 rfl rfl rfl rfl ⟨VR.int, ⟨VR.int, trivial⟩⟩ rfl (by decide) ?_
  intro v29
  refine RL.reL (L' := [imm (TR.sl TR.str) v1 x1, own 3 TR.int v12 z11, own 3 TR.int v29 ([y16.1, y16.2.1] : (List Int))]) rfl ?_
  obtain ⟨y30, e31, hm⟩ := bind_some hm
  refine RL.callV (v := (sv y30)) (vs := [v29]) Tryz_fit29 rfl (Or.inl rfl) rfl rfl rfl rfl (fun U w hU hW hL => desk_listed_c U w hU (hT.mono hW) _ _ (hL 2 _ _ rfl Seen.own) _ e31) ?_
  refine RL.asg rfl rfl rfl ?_
  refine RL.finG ?_
  have hm := Option.some.inj hm
  subst hm
  exact GL.ret (Gx.ret (v := (sv y30)) (res1 rfl rfl) (fun a w st => thrP_ok (st.toPostV)))
 replace hm := ite_f b13 hm
 refine GL.seq ?_
 obtain ⟨y35, K36, h37, h38, h39, h40, h41⟩ := bindR_K hm
 refine GL.join (ι := Bool) (fun (p : Bool) => [(0, (sv x0)), (5, v12), (33, .bool p)]) (fun (p : Bool) => [own 3 TR.int v12 z11]) (fun (p : Bool) => K36 (.nx p)) ?_ ?_
 ·skip
  refine GL.region ?_
  refine RL.mv rfl rfl rfl ?_
  refine RL.binS (v := .bool (x0 == ([115, 101, 99, 111, 110, 100] : B8))) rfl rfl rfl rfl rfl ?_
  refine RL.mv rfl rfl rfl ?_
  refine RL.split (t := 36) rfl (fun b42 => ?_) (fun b42 => ?_)
  ·replace h37 := ite_t b42 h37
   refine RL.mv rfl rfl rfl ?_
   refine RL.lenS 1 Tryz.underlying61 rfl rfl rfl rfl SlOf.own ?_
   refine RL.binI (v := .bool (decide (((z11).length : Int) > (0 : Int)))) rfl rfl rfl rfl rfl ?_
   refine RL.pickT rfl rfl rfl rfl ?_
   refine RL.asg rfl rfl rfl ?_
   refine RL.fin ?_
   cases h37
   exact fun a w st => mid_intro (decide (((z11).length : Int) > (0 : Int))) h38 (St.cut [1] ⟨rfl, rfl, rfl, trivial⟩ (by decide) rfl st)
  replace h37 := ite_f b42 h37
  refine RL.skip rfl rfl ?_
  refine RL.skip rfl rfl ?_
  refine RL.skip rfl rfl ?_
  refine RL.pickF rfl rfl rfl rfl ?_
  refine RL.asg rfl rfl rfl ?_
  refine RL.fin ?_
  cases h37
  exact fun a w st => mid_intro false h38 (St.cut [1] ⟨rfl, rfl, rfl, trivial⟩ (by decide) rfl st)
 rintro x34 h43
 have h44 := h39 _ h43
 try dsimp only at h44
 refine GL.weak (env' := [(0, (sv x0)), (5, v12), (33, .bool x34)]) (L' := [own 3 TR.int v12 z11]) ss ?_
 refine GL.cond rfl (fun b45 => ?_) (fun b45 => ?_)
 ·replace h44 := ite_t b45 h44
  refine GL.seq ?_
  refine GL.weak (fun a w st => st.freeze 0 rfl) ?_
  refine GL.regionQ rfl rfl (by kernel_rfl) ?_
  refine RL.mv rfl rfl rfl ?_
  obtain ⟨y53, e54, h44⟩ := bind_some h44
  replace e54 := chk_some e54
  refine RL.slc (t := TR.int) (i := ((1 : Int)).toNat) (j := (z11).length) (sz := 1) 0 Tryz.underlying61 Tryz_ln3 rfl rfl rfl rfl (Or.inr ⟨_, _, rfl, by rw [Int.toNat_of_nonneg (by omega)]; rfl⟩) (Or.inl ⟨rfl, rfl⟩) rfl (by omega) (by omega) ?_
  intro v55
  refine RL.mv rfl rfl rfl ?_
  obtain ⟨y56, e57, h44⟩ := bind_some h44
  refine RL.idxS (sz := 1) 0 Tryz.underlying61 Tryz_ln3 rfl rfl rfl rfl rfl SlOf.imm (idx_some e57).1 (idx_some e57).2.1 ?_
  refine RL.ldSx (i := ((0 : Int)).toNat) (e' := y56) 0 Ex.ik Tryz_ln3 rfl rfl rfl rfl SlOf.imm (idx_some e57).2.2 Part.self ?_
  obtain ⟨y58, e59, h44⟩ := bind_some h44
  refine RL.callC (v := .tuple #[.int .i64 y58.1, .int .i64 y58.2.1, .int .i64 y58.2.2]) (vs := [v55, .int .i64 y56]) Tryz_fit31 rfl rfl rfl rfl (fun U w hU hW hL => auction_Second_c U w hU _ _ (hL 1 _ _ rfl Seen.imm) y56 _ e59) ?_
  refine RL.mv rfl rfl rfl ?_
  refine RL.ext rfl rfl rfl rfl ?_
  refine RL.ext rfl rfl rfl rfl ?_
  refine RL.ext rfl rfl rfl rfl ?_
  refine RL.asg rfl rfl rfl ?_
  refine RL.asg rfl rfl rfl ?_
  refine RL.asg rfl rfl rfl ?_
  refine RL.finQG ?_
  refine GL.seq ?_
  refine GL.region ?_
  refine RL.mv rfl rfl rfl ?_
  obtain ⟨y64, e65, h44⟩ := bind_some h44
  rcases y64 with x66 | z67
  ·replace h44 := thr_e h44
   refine RL.callE (T := 48) (n := x66) (vs := [.int .i64 y58.2.2]) Tryz_fit19 rfl rfl rfl rfl (fun U w hU hW hL => desk_must_c U w hU y58.2.2 _ e65) ?_
   have h44 := Option.some.inj h44
   subst h44
   first | exact fun a w st => And.intro st.defers (thrP_err st.toPostE) | exact fun a w st _ _ => And.intro st.defers (thrP_err st.toPostE)
  replace h44 := thr_o h44
  refine RL.callC (v := .tuple #[]) (vs := [.int .i64 y58.2.2]) Tryz_fit19 rfl rfl rfl rfl (fun U w hU hW hL => desk_must_c U w hU y58.2.2 _ e65) ?_
  refine RL.finG ?_
  refine GL.seq ?_
  refine GL.region ?_
  refine RL.mv rfl rfl rfl ?_
  refine RL.mv rfl rfl rfl ?_
  refine RL.bS (t := TR.int) (vs := [.int .i64 y58.1, .int .i64 y58.2.1]) ([y58.1, y58.2.1] : (List Int)) Tryz.underlying61 Tryz_lo3 rfl rfl rfl rfl ⟨VR.int, ⟨VR.int, trivial⟩⟩ rfl (by decide) ?_
  intro v71
  refine RL.reL (L' := [imm (TR.sl TR.int) v12 z11, imm (TR.sl TR.int) v55 ((List.take ((z11).length) z11).drop (((1 : Int)).toNat)), own 3 TR.int v71 ([y58.1, y58.2.1] : (List Int))]) rfl ?_
  obtain ⟨y72, e73, h44⟩ := bind_some h44
  refine RL.callV (v := (sv y72)) (vs := [v71]) Tryz_fit29 rfl (Or.inl rfl) rfl rfl rfl rfl (fun U w hU hW hL => desk_listed_c U w hU (hT.mono hW) _ _ (hL 2 _ _ rfl Seen.own) _ e73) ?_
  refine RL.asg rfl rfl rfl ?_
  refine RL.finG ?_
  have h44 := Option.some.inj h44
  subst h44
  exact GL.ret (Gx.ret (v := (sv y72)) (res1 rfl rfl) (fun a w st => thrP_ok (st.toPostV)))
 replace h44 := ite_f b45 h44
 refine GL.seq ?_
 obtain ⟨y77, K78, h79, h80, h81, h82, h83⟩ := bindR_K h44
 refine GL.join (ι := Bool) (fun (p : Bool) => [(0, (sv x0)), (5, v12), (57, .bool p)]) (fun (p : Bool) => [own 3 TR.int v12 z11]) (fun (p : Bool) => K78 (.nx p)) ?_ ?_
 ·skip
  refine GL.region ?_
  refine RL.mv rfl rfl rfl ?_
  refine RL.binS (v := .bool (x0 == ([115, 101, 97, 116, 115] : B8))) rfl rfl rfl rfl rfl ?_
  refine RL.mv rfl rfl rfl ?_
  refine RL.split (t := 60) rfl (fun b84 => ?_) (fun b84 => ?_)
  ·replace h79 := ite_t b84 h79
   refine RL.mv rfl rfl rfl ?_
   refine RL.lenS 0 Tryz.underlying61 rfl rfl rfl rfl SlOf.own ?_
   refine RL.binI (v := .bool (decide (((z11).length : Int) > (1 : Int)))) rfl rfl rfl rfl rfl ?_
   refine RL.pickT rfl rfl rfl rfl ?_
   refine RL.asg rfl rfl rfl ?_
   refine RL.fin ?_
   cases h79
   exact fun a w st => mid_intro (decide (((z11).length : Int) > (1 : Int))) h80 (St.cut [0] ⟨rfl, rfl, rfl, trivial⟩ (by decide) rfl st)
  replace h79 := ite_f b84 h79
  refine RL.skip rfl rfl ?_
  refine RL.skip rfl rfl ?_
  refine RL.skip rfl rfl ?_
  refine RL.pickF rfl rfl rfl rfl ?_
  refine RL.asg rfl rfl rfl ?_
  refine RL.fin ?_
  cases h79
  exact fun a w st => mid_intro false h80 (St.cut [0] ⟨rfl, rfl, rfl, trivial⟩ (by decide) rfl st)
 rintro x76 h85
 have h86 := h81 _ h85
 try dsimp only at h86
 refine GL.weak (env' := [(0, (sv x0)), (5, v12), (57, .bool x76)]) (L' := [own 3 TR.int v12 z11]) ss ?_
 refine GL.cond rfl (fun b87 => ?_) (fun b87 => ?_)
 ·replace h86 := ite_t b87 h86
  refine GL.seq ?_
  refine GL.weak (fun a w st => st.freeze 0 rfl) ?_
  refine GL.regionA rfl rfl ?_
  refine RA.mv 0 rfl (by kernel_rfl) rfl rfl rfl ?_
  obtain ⟨y98, e99, h86⟩ := bind_some h86
  refine RA.idxS (sz := 1) 0 Tryz.underlying61 Tryz_ln3 1 rfl (by kernel_rfl) rfl rfl rfl rfl rfl SlOf.imm (idx_some e99).1 (idx_some e99).2.1 ?_
  refine RA.mv 3 rfl (by kernel_rfl) rfl rfl rfl ?_
  refine RA.mv 5 rfl (by kernel_rfl) rfl rfl rfl ?_
  obtain ⟨y100, e101, h86⟩ := bind_some h86
  refine RA.idxS (sz := 1) 0 Tryz.underlying61 Tryz_ln3 6 rfl (by kernel_rfl) rfl rfl rfl rfl rfl SlOf.imm (idx_some e101).1 (idx_some e101).2.1 ?_
  refine RA.still (le := q_1) (f := 6) [2, 4, 7] 8 rfl (by kernel_rfl) ?_
  simp only [pickOps, List.getElem?_toArray, List.getElem?_cons_succ, List.getElem?_cons_zero]
  refine RL.ldSx (i := ((0 : Int)).toNat) (e' := y98) 0 Ex.ik Tryz_ln3 rfl rfl rfl rfl SlOf.imm (idx_some e99).2.2 Part.self ?_
  obtain ⟨y102, e103, h86⟩ := bind_some h86
  replace e103 := chk_some e103
  refine RL.slc (t := TR.int) (i := ((2 : Int)).toNat) (j := (z11).length) (sz := 1) 0 Tryz.underlying61 Tryz_ln3 rfl rfl rfl rfl (Or.inr ⟨_, _, rfl, by rw [Int.toNat_of_nonneg (by omega)]; rfl⟩) (Or.inl ⟨rfl, rfl⟩) rfl (by omega) (by omega) ?_
  intro v104
  refine RL.ldSx (i := ((1 : Int)).toNat) (e' := y100) 0 Ex.ik Tryz_ln3 rfl rfl rfl rfl SlOf.imm (idx_some e101).2.2 Part.self ?_
  refine RL.finH ?_
  refine RL.fin ?_
  refine RA.next ?_
  refine RA.seq 8 rfl (by kernel_rfl) ?_
  obtain ⟨y105, e106, h86⟩ := bind_some h86
  refine RL.call (vs := [.int .i64 y98, v104, .int .i64 y100]) Tryz_fit32 rfl rfl rfl rfl rfl (fun S f w hS hW hi => seats_Share_c S w hS y98 _ _ (hi 1 _ rfl) y100 _ e106) ?_
  intro v107
  refine RL.fin ?_
  refine RA.next ?_
  refine RA.quiet 9 rfl rfl (by kernel_rfl) ?_
  simp only [List.drop_succ_cons, List.drop_zero]
  refine RL.mv rfl rfl rfl ?_
  refine RL.ext rfl rfl rfl rfl ?_
  refine RL.ext rfl rfl rfl rfl ?_
  refine RL.asg rfl rfl rfl ?_
  refine RL.asg rfl rfl rfl ?_
  refine RL.finQ ?_
  refine RA.outQ ?_
  refine GL.weak (env' := [(12, v107), (13, .int .i64 y105.2)]) (L' := [own 3 TR.int v107 y105.1]) (fun a w st => St.cut [2] ⟨rfl, rfl, trivial⟩ (by decide) rfl st) ?_
  refine GL.seq ?_
  refine GL.region ?_
  refine RL.mv rfl rfl rfl ?_
  obtain ⟨y112, e113, h86⟩ := bind_some h86
  rcases y112 with x114 | z115
  ·replace h86 := thr_e h86
   refine RL.callE (T := 48) (n := x114) (vs := [.int .i64 y105.2]) Tryz_fit19 rfl rfl rfl rfl (fun U w hU hW hL => desk_must_c U w hU y105.2 _ e113) ?_
   have h86 := Option.some.inj h86
   subst h86
   first | exact fun a w st => And.intro st.defers (thrP_err st.toPostE) | exact fun a w st _ _ => And.intro st.defers (thrP_err st.toPostE)
  replace h86 := thr_o h86
  refine RL.callC (v := .tuple #[]) (vs := [.int .i64 y105.2]) Tryz_fit19 rfl rfl rfl rfl (fun U w hU hW hL => desk_must_c U w hU y105.2 _ e113) ?_
  refine RL.finG ?_
  refine GL.seq ?_
  refine GL.region ?_
  refine RL.mv rfl rfl rfl ?_
  obtain ⟨y118, e119, h86⟩ := bind_some h86
  refine RL.callV (v := (sv y118)) (vs := [v107]) Tryz_fit29 rfl (Or.inl rfl) rfl rfl rfl rfl (fun U w hU hW hL => desk_listed_c U w hU (hT.mono hW) _ _ (hL 0 _ _ rfl Seen.own) _ e119) ?_
  refine RL.asg rfl rfl rfl ?_
  refine RL.finG ?_
  have h86 := Option.some.inj h86
  subst h86
  exact GL.ret (Gx.ret (v := (sv y118)) (res1 rfl rfl) (fun a w st => thrP_ok (st.toPostV)))
 replace h86 := ite_f b87 h86
 refine GL.seq ?_
 obtain ⟨y123, K124, h125, h126, h127, h128, h129⟩ := bindR_K h86
 refine GL.join (ι := Bool) (fun (p : Bool) => [(5, v12), (81, .bool p)]) (fun (p : Bool) => [own 3 TR.int v12 z11]) (fun (p : Bool) => K124 (.nx p)) ?_ ?_
 ·skip
  refine GL.region ?_
  refine RL.mv rfl rfl rfl ?_
  refine RL.binS (v := .bool (x0 == ([115, 119, 105, 110, 103, 115] : B8))) rfl rfl rfl rfl rfl ?_
  refine RL.mv rfl rfl rfl ?_
  refine RL.split (t := 84) rfl (fun b130 => ?_) (fun b130 => ?_)
  ·replace h125 := ite_t b130 h125
   refine RL.mv rfl rfl rfl ?_
   refine RL.lenS 0 Tryz.underlying61 rfl rfl rfl rfl SlOf.own ?_
   refine RL.binI (v := .bool (decide (((z11).length : Int) > (0 : Int)))) rfl rfl rfl rfl rfl ?_
   refine RL.pickT rfl rfl rfl rfl ?_
   refine RL.asg rfl rfl rfl ?_
   refine RL.fin ?_
   cases h125
   exact fun a w st => mid_intro (decide (((z11).length : Int) > (0 : Int))) h126 (St.cut [0] ⟨rfl, rfl, trivial⟩ (by decide) rfl st)
  replace h125 := ite_f b130 h125
  refine RL.skip rfl rfl ?_
  refine RL.skip rfl rfl ?_
  refine RL.skip rfl rfl ?_
  refine RL.pickF rfl rfl rfl rfl ?_
  refine RL.asg rfl rfl rfl ?_
  refine RL.fin ?_
  cases h125
  exact fun a w st => mid_intro false h126 (St.cut [0] ⟨rfl, rfl, trivial⟩ (by decide) rfl st)
 rintro x122 h131
 have h132 := h127 _ h131
 try dsimp only at h132
 refine GL.weak (env' := [(5, v12), (81, .bool x122)]) (L' := [own 3 TR.int v12 z11]) ss ?_
 refine GL.cond rfl (fun b133 => ?_) (fun b133 => ?_)
 ·replace h132 := ite_t b133 h132
  refine GL.seq ?_
  refine GL.weak (fun a w st => st.freeze 0 rfl) ?_
  refine GL.regionA rfl rfl ?_
  refine RA.mv 0 rfl (by kernel_rfl) rfl rfl rfl ?_
  refine RA.mv 2 rfl (by kernel_rfl) rfl rfl rfl ?_
  obtain ⟨y142, e143, h132⟩ := bind_some h132
  refine RA.idxS (sz := 1) 0 Tryz.underlying61 Tryz_ln3 3 rfl (by kernel_rfl) rfl rfl rfl rfl rfl SlOf.imm (idx_some e143).1 (idx_some e143).2.1 ?_
  refine RA.still (le := q_120) (f := 6) [1, 4] 5 rfl (by kernel_rfl) ?_
  simp only [pickOps, List.getElem?_toArray, List.getElem?_cons_succ, List.getElem?_cons_zero]
  obtain ⟨y144, e145, h132⟩ := bind_some h132
  replace e145 := chk_some e145
  refine RL.slc (t := TR.int) (i := ((1 : Int)).toNat) (j := (z11).length) (sz := 1) 0 Tryz.underlying61 Tryz_ln3 rfl rfl rfl rfl (Or.inr ⟨_, _, rfl, by rw [Int.toNat_of_nonneg (by omega)]; rfl⟩) (Or.inl ⟨rfl, rfl⟩) rfl (by omega) (by omega) ?_
  intro v146
  refine RL.ldSx (i := ((0 : Int)).toNat) (e' := y142) 0 Ex.ik Tryz_ln3 rfl rfl rfl rfl SlOf.imm (idx_some e143).2.2 Part.self ?_
  refine RL.finH ?_
  refine RL.fin ?_
  refine RA.next ?_
  refine RA.seq 5 rfl (by kernel_rfl) ?_
  obtain ⟨y147, e148, h132⟩ := bind_some h132
  refine RL.call (vs := [v146, .int .i64 y142]) Tryz_fit33 rfl rfl rfl rfl rfl (fun S f w hS hW hi => power_Swings_c S w hS _ _ (hi 1 _ rfl) y142 _ e148) ?_
  intro v149
  refine RL.fin ?_
  refine RA.next ?_
  refine RA.quiet 6 rfl rfl (by kernel_rfl) ?_
  simp only [List.drop_succ_cons, List.drop_zero]
  refine RL.mv rfl rfl rfl ?_
  refine RL.ext rfl rfl rfl rfl ?_
  refine RL.ext rfl rfl rfl rfl ?_
  refine RL.asg rfl rfl rfl ?_
  refine RL.asg rfl rfl rfl ?_
  refine RL.finQ ?_
  refine RA.outQ ?_
  refine GL.weak (env' := [(14, v149), (15, .int .i64 y147.2)]) (L' := [own 3 TR.int v149 y147.1]) (fun a w st => St.cut [2] ⟨rfl, rfl, trivial⟩ (by decide) rfl st) ?_
  refine GL.seq ?_
  refine GL.region ?_
  refine RL.mv rfl rfl rfl ?_
  obtain ⟨y154, e155, h132⟩ := bind_some h132
  rcases y154 with x156 | z157
  ·replace h132 := thr_e h132
   refine RL.callE (T := 48) (n := x156) (vs := [.int .i64 y147.2]) Tryz_fit19 rfl rfl rfl rfl (fun U w hU hW hL => desk_must_c U w hU y147.2 _ e155) ?_
   have h132 := Option.some.inj h132
   subst h132
   first | exact fun a w st => And.intro st.defers (thrP_err st.toPostE) | exact fun a w st _ _ => And.intro st.defers (thrP_err st.toPostE)
  replace h132 := thr_o h132
  refine RL.callC (v := .tuple #[]) (vs := [.int .i64 y147.2]) Tryz_fit19 rfl rfl rfl rfl (fun U w hU hW hL => desk_must_c U w hU y147.2 _ e155) ?_
  refine RL.finG ?_
  refine GL.seq ?_
  refine GL.region ?_
  refine RL.mv rfl rfl rfl ?_
  obtain ⟨y160, e161, h132⟩ := bind_some h132
  refine RL.callV (v := (sv y160)) (vs := [v149]) Tryz_fit29 rfl (Or.inl rfl) rfl rfl rfl rfl (fun U w hU hW hL => desk_listed_c U w hU (hT.mono hW) _ _ (hL 0 _ _ rfl Seen.own) _ e161) ?_
  refine RL.asg rfl rfl rfl ?_
  refine RL.finG ?_
  have h132 := Option.some.inj h132
  subst h132
  exact GL.ret (Gx.ret (v := (sv y160)) (res1 rfl rfl) (fun a w st => thrP_ok (st.toPostV)))
 replace h132 := ite_f b133 h132
 refine GL.skip ?_
 refine GL.nilB ?_
 refine GL.seq ?_
 refine GL.region ?_
 obtain ⟨y166, e167, h132⟩ := bind_some h132
 rcases y166 with x168 | z169
 ·replace h132 := thr_e h132
  refine RL.callE (T := 48) (n := x168) (vs := [.int .i64 (12 : Int)]) Tryz_fit19 rfl rfl rfl rfl (fun U w hU hW hL => desk_must_c U w hU (12 : Int) _ e167) ?_
  have h132 := Option.some.inj h132
  subst h132
  first | exact fun a w st => And.intro st.defers (thrP_err st.toPostE) | exact fun a w st _ _ => And.intro st.defers (thrP_err st.toPostE)
 replace h132 := thr_o h132
 refine RL.callC (v := .tuple #[]) (vs := [.int .i64 (12 : Int)]) Tryz_fit19 rfl rfl rfl rfl (fun U w hU hW hL => desk_must_c U w hU (12 : Int) _ e167) ?_
 refine RL.finG ?_
 refine GL.seq ?_
 refine GL.region ?_
 refine RL.asg rfl rfl rfl ?_
 refine RL.finG ?_
 have h132 := Option.some.inj h132
 subst h132
 exact GL.ret (Gx.ret (v := (sv (([] : B8)))) (res1 rfl rfl) (fun a w st => thrP_ok (st.toPostV)))
end Go.Wk
