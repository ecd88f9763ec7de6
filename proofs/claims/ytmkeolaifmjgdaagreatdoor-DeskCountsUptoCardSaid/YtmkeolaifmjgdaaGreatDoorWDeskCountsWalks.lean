/- Each function comes to what its model says; printed by a program of this repository. -/
import Derived.Test.YtmkeolaifmjgdaaGreatDoorProg
import Derived.Test.YtmkeolaifmjgdaaGreatDoorWDeskCountsModels
import Derived.Test.YtmkeolaifmjgdaaGreatDoorWDeskCountsWalks3
namespace Go.Wk
open Go.Fw Go.Mo Go.Proofs Go.RowKit
set_option linter.all false
set_option maxRecDepth 100000
set_option maxHeartbeats 4000000

theorem catch_idle (p : Addr) (w : World) :
    CallsD Tryz.prog 17 #[.pointer (some p)] .returning w fun e u' w' => e = .returned (.tuple #[]) ∧ u' = .returning ∧ w' = w := by
  refine callsD_of_wpS Tryz.func17 rfl fun c₀ cs hu => ?_
  apply wpS_seq
  apply wpS_region
  simp [wpOpsS, go_sem, recoverD, hu, Tryz.ntmps17, Exit.thenS]
  apply wpS_seq
  apply wpS_region
  simp [wpOpsS, go_sem, recoverD, hu, Tryz.ntmps17, Exit.thenS]
  refine wpS_cond (t := false) (by simp [Act.eval, Array.replicate]) ?_
  simp only [Bool.false_eq_true, if_false]
  refine wpS_of_wp (wp_skip ?_)
  cases c₀
  simp_all [bodyPostS, results, Tryz.results17]
theorem catch_panicking (p : Addr) (s0 : ByteArray) (x : Int) (w : World) (hc : w.cell? p = some (.string s0)) (hz : w.frozen? p = false) (h0 : 0 ≤ x) (h1 : x ≤ 1000000) (hT : Lib.TabIs Tryz.prog w "internal/strconv.uint64pow10" .u64 Lib.pow10Tab) :
    CallsD Tryz.prog 17 #[.pointer (some p)] (.panicking (refuse 48 x)) w fun e u' w' =>
      e = .returned (.tuple #[]) ∧ u' = .panicking [{ v := .iface 48 (.agg #[.int .i64 x]), recovered := true }] ∧ ∃ k os, w' = (Go.Sort.grow (w.drewN k) os).setCell p (.string ⟨(([101, 114, 114, 111, 114, 32] : B8) ++ Lib.itoa x).toArray⟩) := by
  refine callsD_of_wpS Tryz.func17 rfl fun c₀ cs hu => ?_
  apply wpS_seq
  apply wpS_region
  simp [wpOpsS, go_sem, recoverD, hu, Tryz.ntmps17, Exit.thenS, refuse]
  apply wpS_seq
  apply wpS_region
  simp [wpOpsS, go_sem, recoverD, hu, Tryz.ntmps17, Exit.thenS]
  refine wpS_cond (t := true) (by simp [Act.eval, Array.replicate]) ?_
  simp only [if_true]
  have hI : Calls Tryz.prog 18 #[.int .i64 x] w fun e w' => e = .returned (.string ⟨(Lib.itoa x).toArray⟩) ∧ ∃ k os, w' = Go.Sort.grow (w.drewN k) os := Any.strconv_Itoa Tryz.lays171 x (by omega) (by omega) w hT
  have hta : ∀ (v : Value) (w : World), (Instr.typeAssert (.iface 48 v) 20 48 false).run Tryz.prog w = .ok v w := fun v w => by simp [Instr.typeAssert, run_underlying Tryz.underlying48, go_sem, Result.andThen]
  have hfd : ∀ (w : World), (Instr.field 48 (.agg #[.int .i64 x]) 0).run Tryz.prog w = .ok (.int .i64 x) w := fun w => by
    simp [Instr.field, run_underlying Tryz.underlying48, go_sem, Result.andThen, part, Tryz.isAgg24, asAgg]
  have hb : p.block < w.heap.size := by
    rcases Nat.lt_or_ge p.block w.heap.size with h | h
    · exact h
    · simp [World.cell?, Array.getElem?_eq_none h] at hc
  have hg : ∀ (k : Nat) (os : Array Obj), (Go.Sort.grow (w.drewN k) os).cell? p = some (.string s0) ∧ (Go.Sort.grow (w.drewN k) os).frozen? p = false := fun k os => by
    have e : (Go.Sort.grow (w.drewN k) os).heap[p.block]? = w.heap[p.block]? := by
      show (w.heap ++ os)[p.block]? = _
      exact Array.getElem?_append_left hb
    refine ⟨?_, ?_⟩
    · unfold World.cell? at *; rw [e]; exact hc
    · unfold World.frozen? at *; rw [e]; exact hz
  refine wpS_of_wp ?_
  go_wp2_with (go_at_call 18; refine hI.mono ?_; rintro e w' ⟨rfl, k, os, rfl⟩)
  · have := itoa_short h0 h1
    rename_i hbig
    exfalso
    omega
  · have e : (({ data := #[101, 114, 114, 111, 114, 32] } : ByteArray) ++ { data := (Lib.itoa x).toArray }) = ⟨(([101, 114, 114, 111, 114, 32] : B8) ++ Lib.itoa x).toArray⟩ := by
      apply ByteArray.ext; simp [ByteArray.data_append]
    rw [e]
    simp [bodyPostS, results, Tryz.results17]
    exact ⟨k, os, rfl⟩
theorem desk_desk_answer_c (B : World) (S X : Hp) (f : Nat → Hp) (w : World) (v0 : Value) (u0a : Value) (u0b : Value) (x0 : TyH) (hO : HeapOk B.heap.size S f [obox 35 (TR.rec1 TR.raw) v0 u0a, obox 45 TrH u0a (x0.1, (x0.2.1, u0b)), obox 55 TrL u0b x0.2.2, keep X].length w) (hB : Below B.heap.size B w) (hI : Its [obox 35 (TR.rec1 TR.raw) v0 u0a, obox 45 TrH u0a (x0.1, (x0.2.1, u0b)), obox 55 TrL u0b x0.2.2, keep X] S f) (hT : Tab Tryz.prog (Tryz.lays146_ren.g 1) S) (x1 : B8) (res : B8 × TyH) (hm : desk_desk_answer_m x0 x1 = some res) : Calls Tryz.prog 12 #[v0, (sv x1)] w (PostM B S (fun (o : Unit) => (sv res.1)) (fun (o : Unit) => [obox 35 (TR.rec1 TR.raw) v0 u0a, obox 45 TrH u0a (res.2.1, (res.2.2.1, u0b)), obox 55 TrL u0b res.2.2.2, keep X])) := by
 refine calls_enterD 47 Tryz.func12 Tryz.ntmps12 rfl B S f [(0, v0), (1, (sv x1))] [obox 35 (TR.rec1 TR.raw) v0 u0a, obox 45 TrH u0a (x0.1, (x0.2.1, u0b)), obox 55 TrL u0b x0.2.2, keep X] [] rfl ⟨rfl, ⟨rfl, trivial⟩⟩ hB hO hI trivial ?_
 unfold desk_desk_answer_m at hm
 refine GL.seq ?_
 refine GL.region ?_
 refine RL.alloc (t := TR.str) (z := ([] : B8)) Tryz_lo9 (fun S => rfl) rfl rfl rfl ?_
 intro v4
 refine RL.finG ?_
 refine GL.seq ?_
 refine GL.region ?_
 refine RL.mkF (vs := [v4]) rfl rfl rfl ?_
 refine RL.dfr rfl rfl ?_
 refine RL.finG ?_
 refine GL.seq ?_
 refine GL.region ?_
 refine RL.asg rfl rfl rfl ?_
 refine RL.finG ?_
 refine GL.seq ?_
 refine GL.seq ?_
 refine GL.region ?_
 refine RL.mv rfl rfl rfl ?_
 obtain ⟨y8, e9, hm⟩ := bind_some hm
 refine RL.call (vs := [(sv x1), (sv (([32] : B8)))]) Tryz_fit7 rfl rfl rfl rfl rfl (fun S f w hS hW hi => strings_Split_c S w hS (hT.mono hW) x1 ([32] : B8) _ e9) ?_
 intro v10
 refine RL.reL (L' := [obox 35 (TR.rec1 TR.raw) v0 u0a, obox 45 TrH u0a (x0.1, (x0.2.1, u0b)), obox 55 TrL u0b x0.2.2, keep X, obox 9 TR.str v4 ([] : B8), own 9 TR.str v10 y8]) rfl ?_
 refine RL.lenS 5 Tryz.underlying22 rfl rfl rfl rfl SlOf.own ?_
 refine RL.mv rfl rfl rfl ?_
 refine RL.finG ?_
 refine GL.weak (fun a w st => st.nilOwn 9 TR.str) ?_
 refine GL.lenOwn 5 rfl (fun n26 => ?_)
 obtain ⟨y27, K28, h29, h30, h31, h32, h33⟩ := bindR_K hm
 refine GL.join (ι := (List B8) × Value) (fun (p : (List B8) × Value) => [(0, v0), (4, v4), (5, p.2)]) (fun (p : (List B8) × Value) => [obox 35 (TR.rec1 TR.raw) v0 u0a, obox 45 TrH u0a (x0.1, (x0.2.1, u0b)), obox 55 TrL u0b x0.2.2, keep X, obox 9 TR.str v4 ([] : B8), own 9 TR.str p.2 p.1]) (fun (p : (List B8) × Value) => K28 (.nx p.1)) ?_ ?_
 ·refine GL.block ?_
  refine GL.loop (ι := Nat × Nat × (List B8) × Value) (fun (p : Nat × Nat × (List B8) × Value) => [(0, v0), (4, v4), (5, p.2.2.2), (12, v10), (13, .int .i64 ((y8).length : Int)), (14, .int .i64 (p.1 : Int))]) (fun (p : Nat × Nat × (List B8) × Value) => [obox 35 (TR.rec1 TR.raw) v0 u0a, obox 45 TrH u0a (x0.1, (x0.2.1, u0b)), obox 55 TrL u0b x0.2.2, obox 9 TR.str v4 ([] : B8), own 9 TR.str p.2.2.2 p.2.2.1, own 9 TR.str v10 y8, keep X]) (fun (p : Nat × Nat × (List B8) × Value) => p.1 + p.2.1 = (y8).length ∧ rangeN (desk_desk_answer_b1 y8) p.2.1 p.1 p.2.2.1 = some y27) (fun (p : Nat × Nat × (List B8) × Value) => p.2.1) (0, (y8).length, [], Value.slice none 0 0) ⟨by simp, h29⟩ (fun a w st => St.cut [0, 1, 2, 4, 6, 5, 3] ⟨rfl, rfl, rfl, rfl, rfl, rfl, trivial⟩ (by decide) rfl st) ?_
  rintro ⟨i34, r35, l11, v12⟩ ⟨h40, h39⟩
  try dsimp only at h40 h39
  refine GL.weak (env' := [(0, v0), (4, v4), (5, v12), (12, v10), (13, .int .i64 ((y8).length : Int)), (14, .int .i64 (i34 : Int))]) (L' := [obox 35 (TR.rec1 TR.raw) v0 u0a, obox 45 TrH u0a (x0.1, (x0.2.1, u0b)), obox 55 TrL u0b x0.2.2, obox 9 TR.str v4 ([] : B8), own 9 TR.str v12 l11, own 9 TR.str v10 y8, keep X]) ss ?_
  refine GL.seq ?_
  refine GL.region ?_
  refine RL.binI (v := .bool (decide ((i34 : Int) < ((y8).length : Int)))) rfl rfl rfl rfl rfl ?_
  refine RL.finG ?_
  refine GL.seq ?_
  refine GL.cond rfl (fun b42 => ?_) (fun b42 => ?_)
  ·have h43 : i34 < (y8).length := by have := of_decide_eq_true b42; omega
   obtain ⟨r44, hr⟩ : ∃ m, r35 = m + 1 := ⟨r35 - 1, by omega⟩
   subst hr
   obtain ⟨z36, h37, h38⟩ := rangeN_some h39
   unfold desk_desk_answer_b1 at h37
   try dsimp only at h37
   refine GL.skip ?_
   refine GL.seq ?_
   refine GL.block ?_
   refine GL.seq ?_
   refine GL.region ?_
   obtain ⟨y47, e48, h37⟩ := bind_some h37
   refine RL.idxS (sz := 1) 5 Tryz.underlying22 Tryz_ln9 rfl rfl rfl rfl rfl SlOf.own (idx_some e48).1 (idx_some e48).2.1 ?_
   refine RL.ldSx (i := i34) (e' := y47) 5 Ex.str Tryz_ln9 rfl rfl rfl rfl SlOf.own (idx_some e48).2.2 Part.self ?_
   refine RL.asg rfl rfl rfl ?_
   refine RL.finG ?_
   refine GL.seq ?_
   refine GL.region ?_
   refine RL.mv rfl rfl rfl ?_
   refine RL.binS (v := .bool (!(y47 == ([] : B8)))) rfl rfl rfl rfl rfl ?_
   refine RL.finG ?_
   refine GL.cond rfl (fun b49 => ?_) (fun b49 => ?_)
   ·replace h37 := ite_t b49 h37
    refine GL.region ?_
    refine RL.mv rfl rfl rfl ?_
    refine RL.mv rfl rfl rfl ?_
    refine RL.bS (t := TR.str) (vs := [(sv y47)]) ([y47] : (List B8)) Tryz.underlying22 Tryz_lo9 rfl rfl rfl rfl ⟨VR.str, trivial⟩ rfl (by decide) ?_
    intro v54
    obtain ⟨y55, e56, h37⟩ := bind_some h37
    replace e56 := chk_some e56
    refine RL.app 4 7 Tryz.underlying22 Tryz_lo9 rfl rfl rfl rfl rfl rfl rfl SlOf.own e56 ?_
    intro v57
    refine RL.reL (L' := [obox 35 (TR.rec1 TR.raw) v0 u0a, obox 45 TrH u0a (x0.1, (x0.2.1, u0b)), obox 55 TrL u0b x0.2.2, obox 9 TR.str v4 ([] : B8), own 9 TR.str v57 (l11 ++ ([y47] : (List B8))), own 9 TR.str v10 y8, keep X, own 9 TR.str v54 ([y47] : (List B8))]) rfl ?_
    refine RL.asg rfl rfl rfl ?_
    refine RL.finG ?_
    refine GL.nilB ?_
    refine GL.region ?_
    refine RL.binI (v := .int .i64 ((i34 + 1 : Nat) : Int)) rfl rfl rfl rfl (binI_succ i34 (by omega)) ?_
    refine RL.mv rfl rfl rfl ?_
    refine RL.fin ?_
    cases h37
    exact fun a w st => lop_intro (i34 + 1, r44, (l11 ++ ([y47] : (List B8))), v57) ⟨by show i34 + 1 + r44 = (y8).length; omega, h38⟩ (by simp) (St.cut [0, 1, 2, 3, 4, 5, 6] ⟨rfl, rfl, rfl, rfl, rfl, rfl, trivial⟩ (by decide) rfl st)
   replace h37 := ite_f b49 h37
   refine GL.skip ?_
   refine GL.nilB ?_
   refine GL.region ?_
   refine RL.binI (v := .int .i64 ((i34 + 1 : Nat) : Int)) rfl rfl rfl rfl (binI_succ i34 (by omega)) ?_
   refine RL.mv rfl rfl rfl ?_
   refine RL.fin ?_
   cases h37
   exact fun a w st => lop_intro (i34 + 1, r44, l11, v12) ⟨by show i34 + 1 + r44 = (y8).length; omega, h38⟩ (by simp) (St.cut [0, 1, 2, 3, 4, 5, 6] ⟨rfl, rfl, rfl, rfl, rfl, rfl, trivial⟩ (by decide) rfl st)
  have h43 : ¬ i34 < (y8).length := by have := of_decide_eq_false b42; omega
  obtain rfl : r35 = 0 := by omega
  replace h39 : some (Fl.nx _) = some y27 := h39
  cases h39
  exact GL.exit (fun a w st => mid_intro (l11, v12) h30 (St.cut [0, 1, 2, 6, 3, 4] ⟨rfl, rfl, rfl, trivial⟩ (by decide) rfl st))
 rintro ⟨l11, v12⟩ h58
 have h59 := h31 _ h58
 try dsimp only at h59
 refine GL.weak (env' := [(0, v0), (4, v4), (5, v12)]) (L' := [obox 35 (TR.rec1 TR.raw) v0 u0a, obox 45 TrH u0a (x0.1, (x0.2.1, u0b)), obox 55 TrL u0b x0.2.2, keep X, obox 9 TR.str v4 ([] : B8), own 9 TR.str v12 l11]) ss ?_
 refine GL.seq ?_
 refine GL.seq ?_
 refine GL.region ?_
 refine RL.mv rfl rfl rfl ?_
 refine RL.lenS 5 Tryz.underlying22 rfl rfl rfl rfl SlOf.own ?_
 refine RL.binI (v := .bool (((l11).length : Int) == (0 : Int))) rfl rfl rfl rfl rfl ?_
 refine RL.finG ?_
 obtain ⟨y69, K70, h71, h72, h73, h74, h75⟩ := bindR_K h59
 refine GL.join (ι := Unit) (fun (p : Unit) => [(0, v0), (4, v4), (5, v12)]) (fun (p : Unit) => [obox 35 (TR.rec1 TR.raw) v0 u0a, obox 45 TrH u0a (x0.1, (x0.2.1, u0b)), obox 55 TrL u0b x0.2.2, obox 9 TR.str v4 ([] : B8), own 9 TR.str v12 l11, keep X]) (fun (p : Unit) => K70 (.nx ())) ?_ ?_
 ·skip
  refine GL.cond rfl (fun b76 => ?_) (fun b76 => ?_)
  ·replace h71 := ite_t b76 h71
   refine GL.region ?_
   obtain ⟨y82, e83, h71⟩ := bind_some h71
   rcases y82 with x84 | z85
   ·replace h71 := thr_e h71
    refine RL.callE (T := 48) (n := x84) (vs := [.int .i64 (12 : Int)]) Tryz_fit19 rfl rfl rfl rfl (fun U w hU hW hL => desk_must_c U w hU (12 : Int) _ e83) ?_
    obtain ⟨_, c86, h71⟩ := bind_some h71
    replace c86 := chk_some c86
    cases h71
    have hh := h74 _ h72
    subst hh
    first | exact fun a w st => Gx.catchD 4 rfl Tryz_ln9 rfl rfl rfl rfl (fun u w => by simp [invoke, run_callFunc Tryz_fit17]) hT (fun p s0 w h1 h2 h3 => catch_panicking p s0 x84 w h1 h2 c86.1 c86.2 h3) (fun a w st => (st.pick [0, 1, 2, 3] (by decide) rfl).toPostM (V := fun (o : Unit) => (sv (((([101, 114, 114, 111, 114, 32] : B8) ++ Go.Lib.itoa x84), x0).1))) (LR := fun (o : Unit) => [obox 35 (TR.rec1 TR.raw) v0 u0a, obox 45 TrH u0a ((((([101, 114, 114, 111, 114, 32] : B8) ++ Go.Lib.itoa x84), x0).2).1, ((((([101, 114, 114, 111, 114, 32] : B8) ++ Go.Lib.itoa x84), x0).2).2.1, u0b)), obox 55 TrL u0b ((((([101, 114, 114, 111, 114, 32] : B8) ++ Go.Lib.itoa x84), x0).2).2.2), keep X]) ()) a w st a.tmps rfl | exact fun a w st t ht => Gx.catchD 4 rfl Tryz_ln9 rfl rfl rfl rfl (fun u w => by simp [invoke, run_callFunc Tryz_fit17]) hT (fun p s0 w h1 h2 h3 => catch_panicking p s0 x84 w h1 h2 c86.1 c86.2 h3) (fun a w st => (st.pick [0, 1, 2, 3] (by decide) rfl).toPostM (V := fun (o : Unit) => (sv (((([101, 114, 114, 111, 114, 32] : B8) ++ Go.Lib.itoa x84), x0).1))) (LR := fun (o : Unit) => [obox 35 (TR.rec1 TR.raw) v0 u0a, obox 45 TrH u0a ((((([101, 114, 114, 111, 114, 32] : B8) ++ Go.Lib.itoa x84), x0).2).1, ((((([101, 114, 114, 111, 114, 32] : B8) ++ Go.Lib.itoa x84), x0).2).2.1, u0b)), obox 55 TrL u0b ((((([101, 114, 114, 111, 114, 32] : B8) ++ Go.Lib.itoa x84), x0).2).2.2), keep X]) ()) a w st t (ht 4 (by kernel_rfl))
   replace h71 := thr_o h71
   refine RL.callC (v := .tuple #[]) (vs := [.int .i64 (12 : Int)]) Tryz_fit19 rfl rfl rfl rfl (fun U w hU hW hL => desk_must_c U w hU (12 : Int) _ e83) ?_
   refine RL.finG ?_
   cases h71
   exact fun a w st => mid_intro () h72 (St.cut [0, 1, 2, 4, 5, 3] ⟨rfl, rfl, rfl, trivial⟩ (by decide) rfl st)
  replace h71 := ite_f b76 h71
  refine GL.skip ?_
  cases h71
  exact fun a w st => mid_intro () h72 (St.cut [0, 1, 2, 4, 5, 3] ⟨rfl, rfl, rfl, trivial⟩ (by decide) rfl st)
 rintro ⟨⟩ h87
 have h88 := h73 _ h87
 try dsimp only at h88
 refine GL.weak (env' := [(0, v0), (4, v4), (5, v12)]) (L' := [obox 35 (TR.rec1 TR.raw) v0 u0a, obox 45 TrH u0a (x0.1, (x0.2.1, u0b)), obox 55 TrL u0b x0.2.2, obox 9 TR.str v4 ([] : B8), own 9 TR.str v12 l11, keep X]) ss ?_
 refine GL.seq ?_
 refine GL.seq ?_
 refine GL.weak (fun a w st => st.freeze 4 rfl) ?_
 refine GL.regionA rfl rfl ?_
 refine RA.mv 0 rfl (by kernel_rfl) rfl rfl rfl ?_
 refine RA.mv 1 rfl (by kernel_rfl) rfl rfl rfl ?_
 obtain ⟨y100, e101, h88⟩ := bind_some h88
 refine RA.idxS (sz := 1) 4 Tryz.underlying22 Tryz_ln9 2 rfl (by kernel_rfl) rfl rfl rfl rfl rfl SlOf.imm (idx_some e101).1 (idx_some e101).2.1 ?_
 refine RA.mv 4 rfl (by kernel_rfl) rfl rfl rfl ?_
 refine RA.still (le := q_96) (f := 6) [3, 5] 6 rfl (by kernel_rfl) ?_
 simp only [pickOps, List.getElem?_toArray, List.getElem?_cons_succ, List.getElem?_cons_zero]
 refine RL.ldSx (i := ((0 : Int)).toNat) (e' := y100) 4 Ex.str Tryz_ln9 rfl rfl rfl rfl SlOf.imm (idx_some e101).2.2 Part.self ?_
 obtain ⟨y102, e103, h88⟩ := bind_some h88
 replace e103 := chk_some e103
 refine RL.slc (t := TR.str) (i := ((1 : Int)).toNat) (j := (l11).length) (sz := 1) 4 Tryz.underlying22 Tryz_ln9 rfl rfl rfl rfl (Or.inr ⟨_, _, rfl, by rw [Int.toNat_of_nonneg (by omega)]; rfl⟩) (Or.inl ⟨rfl, rfl⟩) rfl (by omega) (by omega) ?_
 intro v104
 refine RL.finH ?_
 refine RL.fin ?_
 refine RA.next ?_
 refine RA.seq 6 rfl (by kernel_rfl) ?_
 obtain ⟨y105, e106, h88⟩ := bind_some h88
 rcases h109 : y105.1 with x107 | z108
 ·rw [h109] at h88
  replace h88 := thr_e h88
  refine RL.callKE (T := 48) (n := x107) (vs := [v0, (sv y100), v104]) (LR := [obox 35 (TR.rec1 TR.raw) v0 u0a, obox 45 TrH u0a (y105.2.1, (y105.2.2.1, u0b)), obox 55 TrL u0b y105.2.2.2]) (Ls := [obox 35 (TR.rec1 TR.raw) v0 u0a, obox 45 TrH u0a (x0.1, (x0.2.1, u0b)), obox 55 TrL u0b x0.2.2]) [0, 1, 2] (by decide) Tryz_fit20 rfl rfl rfl rfl rfl (fun S f X w hO hB hW hI hL => by have q := desk_desk_deed_c _ S X f w _ _ _ x0  hO hB hI (hT.mono hW) y100 _ _ (hL 6 _ _ rfl Sure.imm) _ e106; rw [h109] at q; exact q) ?_
  obtain ⟨_, c110, h88⟩ := bind_some h88
  replace c110 := chk_some c110
  have h88 := Option.some.inj h88
  subst h88
  first | exact fun a w st => Gx.catchD 3 rfl Tryz_ln9 rfl rfl rfl rfl (fun u w => by simp [invoke, run_callFunc Tryz_fit17]) hT (fun p s0 w h1 h2 h3 => catch_panicking p s0 x107 w h1 h2 c110.1 c110.2 h3) (fun a w st => (st.pick [7, 8, 9, 5] (by decide) rfl).toPostM (V := fun (o : Unit) => (sv (((([101, 114, 114, 111, 114, 32] : B8) ++ Go.Lib.itoa x107), y105.2).1))) (LR := fun (o : Unit) => [obox 35 (TR.rec1 TR.raw) v0 u0a, obox 45 TrH u0a ((((([101, 114, 114, 111, 114, 32] : B8) ++ Go.Lib.itoa x107), y105.2).2).1, ((((([101, 114, 114, 111, 114, 32] : B8) ++ Go.Lib.itoa x107), y105.2).2).2.1, u0b)), obox 55 TrL u0b ((((([101, 114, 114, 111, 114, 32] : B8) ++ Go.Lib.itoa x107), y105.2).2).2.2), keep X]) ()) a w st a.tmps rfl | exact fun a w st t ht => Gx.catchD 3 rfl Tryz_ln9 rfl rfl rfl rfl (fun u w => by simp [invoke, run_callFunc Tryz_fit17]) hT (fun p s0 w h1 h2 h3 => catch_panicking p s0 x107 w h1 h2 c110.1 c110.2 h3) (fun a w st => (st.pick [7, 8, 9, 5] (by decide) rfl).toPostM (V := fun (o : Unit) => (sv (((([101, 114, 114, 111, 114, 32] : B8) ++ Go.Lib.itoa x107), y105.2).1))) (LR := fun (o : Unit) => [obox 35 (TR.rec1 TR.raw) v0 u0a, obox 45 TrH u0a ((((([101, 114, 114, 111, 114, 32] : B8) ++ Go.Lib.itoa x107), y105.2).2).1, ((((([101, 114, 114, 111, 114, 32] : B8) ++ Go.Lib.itoa x107), y105.2).2).2.1, u0b)), obox 55 TrL u0b ((((([101, 114, 114, 111, 114, 32] : B8) ++ Go.Lib.itoa x107), y105.2).2).2.2), keep X]) ()) a w st t (ht 4 (by kernel_rfl))
 rw [h109] at h88
 replace h88 := thr_o h88
 refine RL.callK (vs := [v0, (sv y100), v104]) (V := fun (o : Unit) => .tuple #[(sv z108.1), .bool z108.2]) (LR := fun (o : Unit) => [obox 35 (TR.rec1 TR.raw) v0 u0a, obox 45 TrH u0a (y105.2.1, (y105.2.2.1, u0b)), obox 55 TrL u0b y105.2.2.2]) (Ls := [obox 35 (TR.rec1 TR.raw) v0 u0a, obox 45 TrH u0a (x0.1, (x0.2.1, u0b)), obox 55 TrL u0b x0.2.2]) [0, 1, 2] (by decide) Tryz_fit20 rfl rfl rfl rfl rfl rfl (fun S f X w hO hB hW hI hL => by have q := desk_desk_deed_c _ S X f w _ _ _ x0  hO hB hI (hT.mono hW) y100 _ _ (hL 6 _ _ rfl Sure.imm) _ e106; rw [h109] at q; exact q) ?_
 intro _
 refine RL.fin ?_
 refine RA.next ?_
 refine RA.quiet 7 rfl rfl (by kernel_rfl) ?_
 simp only [List.drop_succ_cons, List.drop_zero]
 refine RL.mv rfl rfl rfl ?_
 refine RL.reL (L' := [gone, gone, gone, obox 9 TR.str v4 ([] : B8), imm (TR.sl TR.str) v12 l11, keep X, imm (TR.sl TR.str) v104 ((List.take ((l11).length) l11).drop (((1 : Int)).toNat)), obox 35 (TR.rec1 TR.raw) v0 u0a, obox 45 TrH u0a (y105.2.1, (y105.2.2.1, u0b)), obox 55 TrL u0b y105.2.2.2]) rfl ?_
 refine RL.ext rfl rfl rfl rfl ?_
 refine RL.ext rfl rfl rfl rfl ?_
 refine RL.asg rfl rfl rfl ?_
 refine RL.asg rfl rfl rfl ?_
 refine RL.finQ ?_
 refine RA.outQ ?_
 refine GL.weak (env' := [(4, v4), (5, v12), (8, (sv z108.1)), (9, .bool z108.2)]) (L' := [keep X, obox 35 (TR.rec1 TR.raw) v0 u0a, obox 45 TrH u0a (y105.2.1, (y105.2.2.1, u0b)), obox 55 TrL u0b y105.2.2.2, obox 9 TR.str v4 ([] : B8), imm (TR.sl TR.str) v12 l11]) (fun a w st => St.cut [5, 7, 8, 9, 3, 4] ⟨rfl, rfl, rfl, rfl, trivial⟩ (by decide) rfl st) ?_
 refine GL.seq ?_
 refine GL.region ?_
 refine RL.mv rfl rfl rfl ?_
 refine RL.finG ?_
 refine GL.cond rfl (fun b111 => ?_) (fun b111 => ?_)
 ·replace h88 := ite_t b111 h88
  refine GL.seq ?_
  refine GL.region ?_
  refine RL.mv rfl rfl rfl ?_
  refine RL.stP (off := 0) (e' := z108.1) (d1 := z108.1) (r := TR.str) 4 Tryz_ln9 rfl rfl (Or.inr ⟨rfl, rfl⟩) rfl VR.str rfl Upd.self ?_
  refine RL.finG ?_
  have h88 := Option.some.inj h88
  subst h88
  exact GL.ret (Gx.retD 4 rfl Tryz_ln9 rfl rfl rfl (fun u w => by simp [invoke, run_callFunc Tryz_fit17]) catch_idle (fun a w st => (st.pick [1, 2, 3, 0] (by decide) rfl).toPostM (V := fun (o : Unit) => (sv ((z108.1, y105.2).1))) (LR := fun (o : Unit) => [obox 35 (TR.rec1 TR.raw) v0 u0a, obox 45 TrH u0a (((z108.1, y105.2).2).1, (((z108.1, y105.2).2).2.1, u0b)), obox 55 TrL u0b (((z108.1, y105.2).2).2.2), keep X]) ()))
 replace h88 := ite_f b111 h88
 refine GL.skip ?_
 refine GL.seq ?_
 refine GL.regionA rfl rfl ?_
 refine RA.mv 0 rfl (by kernel_rfl) rfl rfl rfl ?_
 obtain ⟨y123, e124, h88⟩ := bind_some h88
 refine RA.idxS (sz := 1) 5 Tryz.underlying22 Tryz_ln9 1 rfl (by kernel_rfl) rfl rfl rfl rfl rfl SlOf.imm (idx_some e124).1 (idx_some e124).2.1 ?_
 refine RA.mv 3 rfl (by kernel_rfl) rfl rfl rfl ?_
 refine RA.still (le := q_121) (f := 2) [2, 4] 5 rfl (by kernel_rfl) ?_
 simp only [pickOps, List.getElem?_toArray, List.getElem?_cons_succ, List.getElem?_cons_zero]
 refine RL.ldSx (i := ((0 : Int)).toNat) (e' := y123) 5 Ex.str Tryz_ln9 rfl rfl rfl rfl SlOf.imm (idx_some e124).2.2 Part.self ?_
 obtain ⟨y125, e126, h88⟩ := bind_some h88
 replace e126 := chk_some e126
 refine RL.slc (t := TR.str) (i := ((1 : Int)).toNat) (j := (l11).length) (sz := 1) 5 Tryz.underlying22 Tryz_ln9 rfl rfl rfl rfl (Or.inr ⟨_, _, rfl, by rw [Int.toNat_of_nonneg (by omega)]; rfl⟩) (Or.inl ⟨rfl, rfl⟩) rfl (by omega) (by omega) ?_
 intro v127
 refine RL.finH ?_
 refine RL.fin ?_
 refine RA.next ?_
 refine RA.seq 5 rfl (by kernel_rfl) ?_
 obtain ⟨y128, e129, h88⟩ := bind_some h88
 rcases y128 with x130 | z131
 ·replace h88 := thr_e h88
  refine RL.callE (T := 48) (n := x130) (vs := [(sv y123), v127]) Tryz_fit21 rfl rfl rfl rfl (fun U w hU hW hL => desk_asked_c U w hU (hT.mono hW) y123 _ _ (hL 6 _ _ rfl Seen.imm) _ e129) ?_
  obtain ⟨_, c132, h88⟩ := bind_some h88
  replace c132 := chk_some c132
  have h88 := Option.some.inj h88
  subst h88
  first | exact fun a w st => Gx.catchD 4 rfl Tryz_ln9 rfl rfl rfl rfl (fun u w => by simp [invoke, run_callFunc Tryz_fit17]) hT (fun p s0 w h1 h2 h3 => catch_panicking p s0 x130 w h1 h2 c132.1 c132.2 h3) (fun a w st => (st.pick [1, 2, 3, 0] (by decide) rfl).toPostM (V := fun (o : Unit) => (sv (((([101, 114, 114, 111, 114, 32] : B8) ++ Go.Lib.itoa x130), y105.2).1))) (LR := fun (o : Unit) => [obox 35 (TR.rec1 TR.raw) v0 u0a, obox 45 TrH u0a ((((([101, 114, 114, 111, 114, 32] : B8) ++ Go.Lib.itoa x130), y105.2).2).1, ((((([101, 114, 114, 111, 114, 32] : B8) ++ Go.Lib.itoa x130), y105.2).2).2.1, u0b)), obox 55 TrL u0b ((((([101, 114, 114, 111, 114, 32] : B8) ++ Go.Lib.itoa x130), y105.2).2).2.2), keep X]) ()) a w st a.tmps rfl | exact fun a w st t ht => Gx.catchD 4 rfl Tryz_ln9 rfl rfl rfl rfl (fun u w => by simp [invoke, run_callFunc Tryz_fit17]) hT (fun p s0 w h1 h2 h3 => catch_panicking p s0 x130 w h1 h2 c132.1 c132.2 h3) (fun a w st => (st.pick [1, 2, 3, 0] (by decide) rfl).toPostM (V := fun (o : Unit) => (sv (((([101, 114, 114, 111, 114, 32] : B8) ++ Go.Lib.itoa x130), y105.2).1))) (LR := fun (o : Unit) => [obox 35 (TR.rec1 TR.raw) v0 u0a, obox 45 TrH u0a ((((([101, 114, 114, 111, 114, 32] : B8) ++ Go.Lib.itoa x130), y105.2).2).1, ((((([101, 114, 114, 111, 114, 32] : B8) ++ Go.Lib.itoa x130), y105.2).2).2.1, u0b)), obox 55 TrL u0b ((((([101, 114, 114, 111, 114, 32] : B8) ++ Go.Lib.itoa x130), y105.2).2).2.2), keep X]) ()) a w st t (ht 4 (by kernel_rfl))
 replace h88 := thr_o h88
 refine RL.callV (v := (sv z131)) (vs := [(sv y123), v127]) Tryz_fit21 rfl (Or.inl rfl) rfl rfl rfl rfl (fun U w hU hW hL => desk_asked_c U w hU (hT.mono hW) y123 _ _ (hL 6 _ _ rfl Seen.imm) _ e129) ?_
 refine RL.fin ?_
 refine RA.next ?_
 refine RA.seq 6 rfl (by kernel_rfl) ?_
 refine RL.stP (off := 0) (e' := z131) (d1 := z131) (r := TR.str) 4 Tryz_ln9 rfl rfl (Or.inr ⟨rfl, rfl⟩) rfl VR.str rfl Upd.self ?_
 refine RL.fin ?_
 refine RA.next ?_
 refine RA.doneG (by kernel_rfl) ?_
 refine GL.weak (env' := [(4, v4)]) (L' := [keep X, obox 35 (TR.rec1 TR.raw) v0 u0a, obox 45 TrH u0a (y105.2.1, (y105.2.2.1, u0b)), obox 55 TrL u0b y105.2.2.2, obox 9 TR.str v4 z131]) (fun a w st => St.cut [0, 1, 2, 3, 4] ⟨rfl, trivial⟩ (by decide) rfl st) ?_
 have h88 := Option.some.inj h88
 subst h88
 exact GL.ret (Gx.retD 4 rfl Tryz_ln9 rfl rfl rfl (fun u w => by simp [invoke, run_callFunc Tryz_fit17]) catch_idle (fun a w st => (st.pick [1, 2, 3, 0] (by decide) rfl).toPostM (V := fun (o : Unit) => (sv ((z131, y105.2).1))) (LR := fun (o : Unit) => [obox 35 (TR.rec1 TR.raw) v0 u0a, obox 45 TrH u0a (((z131, y105.2).2).1, (((z131, y105.2).2).2.1, u0b)), obox 55 TrL u0b (((z131, y105.2).2).2.2), keep X]) ()))

theorem desk_Run_c (S : Hp) (w : World) (hS : S.sub w) (hT : Tab Tryz.prog (Tryz.lays146_ren.g 1) S) (x0 : B8) (res : (List B8) × Int) (hm : desk_Run_m x0 = some res) : Calls Tryz.prog 5 #[(sv x0)] w (Post w S (fun (o : Value) => .tuple #[o, .int .i64 res.2]) (fun (o : Value) => [own 9 TR.str o res.1])) := by
 refine calls_enter 38 Tryz.func5 Tryz.ntmps5 rfl S false [(0, (sv x0))] [] rfl ⟨rfl, trivial⟩ hS trivial ?_
 unfold desk_Run_m at hm
 refine GL.seq ?_
 refine GL.region ?_
 refine RL.asg rfl rfl rfl ?_
 refine RL.asg rfl rfl rfl ?_
 refine RL.finG ?_
 refine GL.seq ?_
 refine GL.region ?_
 refine RL.mv rfl rfl rfl ?_
 obtain ⟨y5, e6, hm⟩ := bind_some hm
 refine RL.call (vs := [(sv x0), (sv (([10] : B8)))]) Tryz_fit7 rfl rfl rfl rfl rfl (fun S f w hS hW hi => strings_Split_c S w hS (hT.mono hW) x0 ([10] : B8) _ e6) ?_
 intro v7
 refine RL.asg rfl rfl rfl ?_
 refine RL.finG ?_
 refine GL.seq ?_
 refine GL.seq ?_
 obtain ⟨y11, K12, h13, h14, h15, h16, h17⟩ := bindR_K hm
 refine GL.join (ι := Bool) (fun (p : Bool) => [(4, v7), (18, .bool p)]) (fun (p : Bool) => [own 9 TR.str v7 y5]) (fun (p : Bool) => K12 (.nx p)) ?_ ?_
 ·skip
  refine GL.region ?_
  refine RL.mv rfl rfl rfl ?_
  refine RL.lenT Tryz.underlying9 rfl rfl rfl ?_
  refine RL.binI (v := .bool (decide (((x0).length : Int) > (4096 : Int)))) rfl rfl rfl rfl rfl ?_
  refine RL.mv rfl rfl rfl ?_
  refine RL.split (t := 14) rfl (fun b18 => ?_) (fun b18 => ?_)
  ·replace h13 := ite_t b18 h13
   refine RL.skip rfl rfl ?_
   refine RL.skip rfl rfl ?_
   refine RL.skip rfl rfl ?_
   refine RL.pickT rfl rfl rfl rfl ?_
   refine RL.fin ?_
   cases h13
   exact fun a w st => mid_intro true h14 (St.cut [0] ⟨rfl, rfl, trivial⟩ (by decide) rfl st)
  replace h13 := ite_f b18 h13
  refine RL.mv rfl rfl rfl ?_
  refine RL.lenS 0 Tryz.underlying22 rfl rfl rfl rfl SlOf.own ?_
  refine RL.binI (v := .bool (decide (((y5).length : Int) > (60 : Int)))) rfl rfl rfl rfl rfl ?_
  refine RL.pickF rfl rfl rfl rfl ?_
  refine RL.fin ?_
  cases h13
  exact fun a w st => mid_intro (decide (((y5).length : Int) > (60 : Int))) h14 (St.cut [0] ⟨rfl, rfl, trivial⟩ (by decide) rfl st)
 rintro x10 h19
 have h20 := h15 _ h19
 try dsimp only at h20
 refine GL.weak (env' := [(4, v7), (18, .bool x10)]) (L' := [own 9 TR.str v7 y5]) ss ?_
 refine GL.cond rfl (fun b21 => ?_) (fun b21 => ?_)
 ·replace h20 := ite_t b21 h20
  refine GL.seq ?_
  refine GL.region ?_
  refine RL.asg rfl rfl rfl ?_
  refine RL.asg rfl rfl rfl ?_
  refine RL.finG ?_
  refine GL.weak (fun a w st => st.nilOwn 9 TR.str) ?_
  have h20 := Option.some.inj h20
  subst h20
  exact GL.ret (Gx.ret (v := .tuple #[Value.slice none 0 0, .int .i64 (2 : Int)]) (res2 rfl rfl rfl) (fun a w st => (st.pick [1] (by decide) rfl).toPost (Value.slice none 0 0)))
 replace h20 := ite_f b21 h20
 refine GL.skip ?_
 refine GL.seq ?_
 refine GL.region ?_
 obtain ⟨y28, e29, h20⟩ := bind_some h20
 refine RL.call (vs := []) Tryz_fit11 rfl rfl rfl rfl rfl (fun S f w hS hW hi => house_New_c S w hS  _ e29) ?_
 intro ⟨v30, u31⟩
 refine RL.reL (L' := [own 9 TR.str v7 y5, obox 45 TrH v30 (y28.1, (y28.2.1, u31)), obox 55 TrL u31 y28.2.2]) rfl ?_
 refine RL.bld (t := (TR.rec1 TR.raw)) (d0 := (v30 : Value)) (pv := [(0, v30)]) rfl Tryz_bld35 rfl rfl rfl ⟨⟨_, _, TR.raw, v30, rfl, rfl, (VR.rawPt 1 rfl PtOf.obox)⟩, trivial⟩ (fun S f hi => by
   obtain ⟨c0, e0, r0⟩ := cells_vrep (t := TR.raw) (u := v30) (e := v30) ((VR.rawPt 1 rfl PtOf.obox) S f hi)
   show TR.rep (TR.rec1 TR.raw) S (List.flatten [(v30 : Value).cells.toList]) _
   simp only [e0,  List.flatten_cons, List.flatten_nil, List.append_nil]
   exact r0) ?_
 intro v32
 refine RL.box (t := (TR.rec1 TR.raw)) (e := v30) rfl rfl rfl rfl (VR.item 3 rfl) ?_
 intro v33
 refine RL.reL (L' := [own 9 TR.str v7 y5, obox 45 TrH v30 (y28.1, (y28.2.1, u31)), obox 55 TrL u31 y28.2.2, imm (TR.rec1 TR.raw) v32 v30, obox 35 (TR.rec1 TR.raw) v33 v30]) rfl ?_
 refine RL.asg rfl rfl rfl ?_
 refine RL.finG ?_
 refine GL.seq ?_
 refine GL.region ?_
 refine RL.asg rfl rfl rfl ?_
 refine RL.finG ?_
 refine GL.seq ?_
 refine GL.seq ?_
 refine GL.region ?_
 refine RL.mv rfl rfl rfl ?_
 refine RL.lenS 0 Tryz.underlying22 rfl rfl rfl rfl SlOf.own ?_
 refine RL.mv rfl rfl rfl ?_
 refine RL.finG ?_
 refine GL.weak (fun a w st => st.nilOwn 9 TR.str) ?_
 refine GL.lenOwn 0 rfl (fun n73 => ?_)
 obtain ⟨y74, K75, h76, h77, h78, h79, h80⟩ := bindR_K h20
 refine GL.join (ι := TyH × (List B8) × Value) (fun (p : TyH × (List B8) × Value) => [(6, p.2.2)]) (fun (p : TyH × (List B8) × Value) => [own 9 TR.str p.2.2 p.2.1]) (fun (p : TyH × (List B8) × Value) => K75 (.nx (p.1, p.2.1))) ?_ ?_
 ·refine GL.block ?_
  refine GL.loop (ι := Nat × Nat × TyH × (List B8) × Value) (fun (p : Nat × Nat × TyH × (List B8) × Value) => [(5, v33), (6, p.2.2.2.2), (22, v7), (23, .int .i64 ((y5).length : Int)), (24, .int .i64 (p.1 : Int))]) (fun (p : Nat × Nat × TyH × (List B8) × Value) => [obox 35 (TR.rec1 TR.raw) v33 v30, obox 45 TrH v30 (p.2.2.1.1, (p.2.2.1.2.1, u31)), obox 55 TrL u31 p.2.2.1.2.2, own 9 TR.str p.2.2.2.2 p.2.2.2.1, own 9 TR.str v7 y5]) (fun (p : Nat × Nat × TyH × (List B8) × Value) => p.1 + p.2.1 = (y5).length ∧ rangeN (desk_Run_b1 y5) p.2.1 p.1 (p.2.2.1, p.2.2.2.1) = some y74) (fun (p : Nat × Nat × TyH × (List B8) × Value) => p.2.1) (0, (y5).length, y28, [], Value.slice none 0 0) ⟨by simp, h76⟩ (fun a w st => St.cut [4, 1, 2, 5, 0] ⟨rfl, rfl, rfl, rfl, rfl, trivial⟩ (by decide) rfl st) ?_
  rintro ⟨i81, r82, l53, l54, v55⟩ ⟨h87, h86⟩
  try dsimp only at h87 h86
  refine GL.weak (env' := [(5, v33), (6, v55), (22, v7), (23, .int .i64 ((y5).length : Int)), (24, .int .i64 (i81 : Int))]) (L' := [obox 35 (TR.rec1 TR.raw) v33 v30, obox 45 TrH v30 (l53.1, (l53.2.1, u31)), obox 55 TrL u31 l53.2.2, own 9 TR.str v55 l54, own 9 TR.str v7 y5]) ss ?_
  refine GL.seq ?_
  refine GL.region ?_
  refine RL.binI (v := .bool (decide ((i81 : Int) < ((y5).length : Int)))) rfl rfl rfl rfl rfl ?_
  refine RL.finG ?_
  refine GL.seq ?_
  refine GL.cond rfl (fun b89 => ?_) (fun b89 => ?_)
  ·have h90 : i81 < (y5).length := by have := of_decide_eq_true b89; omega
   obtain ⟨r91, hr⟩ : ∃ m, r82 = m + 1 := ⟨r82 - 1, by omega⟩
   subst hr
   obtain ⟨z83, h84, h85⟩ := rangeN_some h86
   unfold desk_Run_b1 at h84
   try dsimp only at h84
   refine GL.skip ?_
   refine GL.seq ?_
   refine GL.block ?_
   refine GL.seq ?_
   refine GL.region ?_
   obtain ⟨y94, e95, h84⟩ := bind_some h84
   refine RL.idxS (sz := 1) 4 Tryz.underlying22 Tryz_ln9 rfl rfl rfl rfl rfl SlOf.own (idx_some e95).1 (idx_some e95).2.1 ?_
   refine RL.ldSx (i := i81) (e' := y94) 4 Ex.str Tryz_ln9 rfl rfl rfl rfl SlOf.own (idx_some e95).2.2 Part.self ?_
   refine RL.asg rfl rfl rfl ?_
   refine RL.finG ?_
   refine GL.seq ?_
   refine GL.region ?_
   refine RL.mv rfl rfl rfl ?_
   refine RL.binS (v := .bool (!(y94 == ([] : B8)))) rfl rfl rfl rfl rfl ?_
   refine RL.finG ?_
   refine GL.cond rfl (fun b96 => ?_) (fun b96 => ?_)
   ·replace h84 := ite_t b96 h84
    refine GL.region ?_
    refine RL.mv rfl rfl rfl ?_
    refine RL.mv rfl rfl rfl ?_
    refine RL.mv rfl rfl rfl ?_
    obtain ⟨y103, e104, h84⟩ := bind_some h84
    refine RL.callK (vs := [v33, (sv y94)]) (V := fun (o : Unit) => (sv y103.1)) (LR := fun (o : Unit) => [obox 35 (TR.rec1 TR.raw) v33 v30, obox 45 TrH v30 (y103.2.1, (y103.2.2.1, u31)), obox 55 TrL u31 y103.2.2.2]) (Ls := [obox 35 (TR.rec1 TR.raw) v33 v30, obox 45 TrH v30 (l53.1, (l53.2.1, u31)), obox 55 TrL u31 l53.2.2]) [0, 1, 2] (by decide) Tryz_fit12 rfl rfl rfl rfl rfl rfl (fun S f X w hO hB hW hI hL => desk_desk_answer_c _ S X f w _ _ _ l53  hO hB hI (hT.mono hW) y94 _ e104) ?_
    intro _
    refine RL.reL (L' := [gone, gone, gone, own 9 TR.str v55 l54, own 9 TR.str v7 y5, obox 35 (TR.rec1 TR.raw) v33 v30, obox 45 TrH v30 (y103.2.1, (y103.2.2.1, u31)), obox 55 TrL u31 y103.2.2.2]) rfl ?_
    refine RL.bS (t := TR.str) (vs := [(sv y103.1)]) ([y103.1] : (List B8)) Tryz.underlying22 Tryz_lo9 rfl rfl rfl rfl ⟨VR.str, trivial⟩ rfl (by decide) ?_
    intro v105
    obtain ⟨y106, e107, h84⟩ := bind_some h84
    replace e107 := chk_some e107
    refine RL.app 3 8 Tryz.underlying22 Tryz_lo9 rfl rfl rfl rfl rfl rfl rfl SlOf.own e107 ?_
    intro v108
    refine RL.reL (L' := [gone, gone, gone, own 9 TR.str v108 (l54 ++ ([y103.1] : (List B8))), own 9 TR.str v7 y5, obox 35 (TR.rec1 TR.raw) v33 v30, obox 45 TrH v30 (y103.2.1, (y103.2.2.1, u31)), obox 55 TrL u31 y103.2.2.2, own 9 TR.str v105 ([y103.1] : (List B8))]) rfl ?_
    refine RL.asg rfl rfl rfl ?_
    refine RL.finG ?_
    refine GL.nilB ?_
    refine GL.region ?_
    refine RL.binI (v := .int .i64 ((i81 + 1 : Nat) : Int)) rfl rfl rfl rfl (binI_succ i81 (by omega)) ?_
    refine RL.mv rfl rfl rfl ?_
    refine RL.fin ?_
    cases h84
    exact fun a w st => lop_intro (i81 + 1, r91, y103.2, (l54 ++ ([y103.1] : (List B8))), v108) ⟨by show i81 + 1 + r91 = (y5).length; omega, h85⟩ (by simp) (St.cut [5, 6, 7, 3, 4] ⟨rfl, rfl, rfl, rfl, rfl, trivial⟩ (by decide) rfl st)
   replace h84 := ite_f b96 h84
   refine GL.skip ?_
   refine GL.nilB ?_
   refine GL.region ?_
   refine RL.binI (v := .int .i64 ((i81 + 1 : Nat) : Int)) rfl rfl rfl rfl (binI_succ i81 (by omega)) ?_
   refine RL.mv rfl rfl rfl ?_
   refine RL.fin ?_
   cases h84
   exact fun a w st => lop_intro (i81 + 1, r91, l53, l54, v55) ⟨by show i81 + 1 + r91 = (y5).length; omega, h85⟩ (by simp) (St.cut [0, 1, 2, 3, 4] ⟨rfl, rfl, rfl, rfl, rfl, trivial⟩ (by decide) rfl st)
  have h90 : ¬ i81 < (y5).length := by have := of_decide_eq_false b89; omega
  obtain rfl : r82 = 0 := by omega
  replace h86 : some (Fl.nx _) = some y74 := h86
  cases h86
  exact GL.exit (fun a w st => mid_intro (l53, l54, v55) h77 (St.cut [3] ⟨rfl, trivial⟩ (by decide) rfl st))
 rintro ⟨l53, l54, v55⟩ h109
 have h110 := h78 _ h109
 try dsimp only at h110
 refine GL.weak (env' := [(6, v55)]) (L' := [own 9 TR.str v55 l54]) ss ?_
 refine GL.seq ?_
 refine GL.region ?_
 refine RL.mv rfl rfl rfl ?_
 refine RL.asg rfl rfl rfl ?_
 refine RL.asg rfl rfl rfl ?_
 refine RL.finG ?_
 have h110 := Option.some.inj h110
 subst h110
 exact GL.ret (Gx.ret (v := .tuple #[v55, .int .i64 (0 : Int)]) (res2 rfl rfl rfl) (fun a w st => (st.pick [0] (by decide) rfl).toPost v55))

theorem slices_Equal_string_string_c (S : Hp) (w : World) (hS : S.sub w) (v0 : Value) (x0 : (List B8)) (k0 : ((TR.sl TR.str)).vrep S v0 x0) (v1 : Value) (x1 : (List B8)) (k1 : ((TR.sl TR.str)).vrep S v1 x1) (res : Bool) (hm : slices_Equal_string_string_m x0 x1 = some res) : Calls Tryz.prog 6 #[v0, v1] w (PostV w (.bool res)) := by
 refine calls_enter 26 Tryz.func6 Tryz.ntmps6 rfl S false [(0, v0), (1, v1)] [imm (TR.sl TR.str) v0 x0, imm (TR.sl TR.str) v1 x1] rfl ⟨rfl, ⟨rfl, trivial⟩⟩ hS ⟨k0, ⟨k1, trivial⟩⟩ ?_
 unfold slices_Equal_string_string_m at hm
 refine GL.seq ?_
 refine GL.region ?_
 refine RL.asg rfl rfl rfl ?_
 refine RL.finG ?_
 refine GL.seq ?_
 refine GL.seq ?_
 refine GL.region ?_
 refine RL.mv rfl rfl rfl ?_
 refine RL.lenS 0 Tryz.underlying22 rfl rfl rfl rfl SlOf.imm ?_
 refine RL.mv rfl rfl rfl ?_
 refine RL.lenS 1 Tryz.underlying22 rfl rfl rfl rfl SlOf.imm ?_
 refine RL.binI (v := .bool (((x0).length : Int) != ((x1).length : Int))) rfl rfl rfl rfl rfl ?_
 refine RL.finG ?_
 refine GL.cond rfl (fun b3 => ?_) (fun b3 => ?_)
 ·replace hm := ite_t b3 hm
  refine GL.seq ?_
  refine GL.region ?_
  refine RL.asg rfl rfl rfl ?_
  refine RL.finG ?_
  have hm := Option.some.inj hm
  subst hm
  exact GL.ret (Gx.ret (v := .bool false) (res1 rfl rfl) (fun a w st => st.toPostV))
 replace hm := ite_f b3 hm
 refine GL.skip ?_
 refine GL.seq ?_
 refine GL.seq ?_
 refine GL.region ?_
 refine RL.mv rfl rfl rfl ?_
 refine RL.lenS 0 Tryz.underlying22 rfl rfl rfl rfl SlOf.imm ?_
 refine RL.mv rfl rfl rfl ?_
 refine RL.finG ?_
 refine GL.open_ 0 rfl (fun S h => len_imm S h) (fun n13 => ?_)
 obtain ⟨y14, K15, h16, h17, h18, h19, h20⟩ := bindR_K hm
 refine GL.join (ι := Unit) (fun (p : Unit) => []) (fun (p : Unit) => []) (fun (p : Unit) => K15 (.nx ())) ?_ ?_
 ·refine GL.block ?_
  refine GL.loop (ι := Nat × (List B8)) (fun (p : Nat × (List B8)) => [(0, v0), (1, v1), (12, .int .i64 ((x0).length : Int)), (13, .int .i64 (p.1 : Int))]) (fun (p : Nat × (List B8)) => [imm (TR.sl TR.str) v0 x0, imm (TR.sl TR.str) v1 x1]) (fun (p : Nat × (List B8)) => p.1 + p.2.length = (x0).length ∧ List.drop p.1 x0 = p.2 ∧ rangeL (slices_Equal_string_string_b1 x1) p.2 p.1 () = some y14) (fun (p : Nat × (List B8)) => p.2.length) (0, x0) ⟨by simp, by simp, h16⟩ (fun a w st => St.cut [0, 1] ⟨rfl, rfl, rfl, rfl, trivial⟩ (by decide) rfl st) ?_
  rintro ⟨i21, r22⟩ ⟨h27, h28, h26⟩
  try dsimp only at h27 h28 h26
  refine GL.weak (env' := [(0, v0), (1, v1), (12, .int .i64 ((x0).length : Int)), (13, .int .i64 (i21 : Int))]) (L' := [imm (TR.sl TR.str) v0 x0, imm (TR.sl TR.str) v1 x1]) ss ?_
  refine GL.seq ?_
  refine GL.region ?_
  refine RL.binI (v := .bool (decide ((i21 : Int) < ((x0).length : Int)))) rfl rfl rfl rfl rfl ?_
  refine RL.finG ?_
  refine GL.seq ?_
  refine GL.cond rfl (fun b29 => ?_) (fun b29 => ?_)
  ·have h30 : i21 < (x0).length := by have := of_decide_eq_true b29; omega
   obtain ⟨y31, r33, hr, e32, h34⟩ := drop_cons h28 rfl h30
   subst hr
   obtain ⟨z23, h24, h25⟩ := rangeL_some h26
   unfold slices_Equal_string_string_b1 at h24
   try dsimp only at h24
   refine GL.skip ?_
   refine GL.seq ?_
   refine GL.block ?_
   refine GL.seq ?_
   refine GL.region ?_
   refine RL.mv rfl rfl rfl ?_
   refine RL.asg rfl rfl rfl ?_
   refine RL.finG ?_
   refine GL.seq ?_
   refine GL.regionQ rfl rfl (by kernel_rfl) ?_
   refine RL.mv rfl rfl rfl ?_
   refine RL.mv rfl rfl rfl ?_
   refine RL.idxS (sz := 1) 0 Tryz.underlying22 Tryz_ln9 rfl rfl rfl rfl rfl SlOf.imm (by omega) (by omega) ?_
   refine RL.ldSx (i := i21) (e' := y31) 0 Ex.str Tryz_ln9 rfl rfl rfl rfl SlOf.imm e32 Part.self ?_
   refine RL.mv rfl rfl rfl ?_
   refine RL.mv rfl rfl rfl ?_
   obtain ⟨y37, e38, h24⟩ := bind_some h24
   refine RL.idxS (sz := 1) 1 Tryz.underlying22 Tryz_ln9 rfl rfl rfl rfl rfl SlOf.imm (idx_some e38).1 (idx_some e38).2.1 ?_
   refine RL.ldSx (i := i21) (e' := y37) 1 Ex.str Tryz_ln9 rfl rfl rfl rfl SlOf.imm (idx_some e38).2.2 Part.self ?_
   refine RL.binS (v := .bool (!(y31 == y37))) rfl rfl rfl rfl rfl ?_
   refine RL.finQG ?_
   refine GL.cond rfl (fun b39 => ?_) (fun b39 => ?_)
   ·replace h24 := ite_t b39 h24
    refine GL.seq ?_
    refine GL.region ?_
    refine RL.asg rfl rfl rfl ?_
    refine RL.finG ?_
    cases h24
    replace h25 : some (Fl.rt _) = some y14 := h25
    cases h25
    have hh := h19 _ h17
    subst hh
    exact GL.ret (Gx.ret (v := .bool false) (res1 rfl rfl) (fun a w st => st.toPostV))
   replace h24 := ite_f b39 h24
   refine GL.skip ?_
   refine GL.nilB ?_
   refine GL.region ?_
   refine RL.binI (v := .int .i64 ((i21 + 1 : Nat) : Int)) rfl rfl rfl rfl (binI_succ i21 (by omega)) ?_
   refine RL.mv rfl rfl rfl ?_
   refine RL.fin ?_
   cases h24
   exact fun a w st => lop_intro (i21 + 1, r33) ⟨by show i21 + 1 + r33.length = (x0).length; simp only [List.length_cons] at h27; omega, h34, h25⟩ (by simp) (St.cut [0, 1] ⟨rfl, rfl, rfl, rfl, trivial⟩ (by decide) rfl st)
  have h30 : ¬ i21 < (x0).length := by have := of_decide_eq_false b29; omega
  obtain rfl : r22 = [] := by rw [← h28]; exact List.drop_of_length_le (by omega)
  replace h26 : some (Fl.nx _) = some y14 := h26
  cases h26
  exact GL.exit (fun a w st => mid_intro () h17 (St.cut [] trivial (by decide) rfl st))
 rintro ⟨⟩ h40
 have h41 := h18 _ h40
 try dsimp only at h41
 refine GL.weak (env' := []) (L' := []) ss ?_
 refine GL.seq ?_
 refine GL.region ?_
 refine RL.asg rfl rfl rfl ?_
 refine RL.finG ?_
 have h41 := Option.some.inj h41
 subst h41
 exact GL.ret (Gx.ret (v := .bool true) (res1 rfl rfl) (fun a w st => st.toPostV))

theorem slices_IndexFunc_string_string_c (S : Hp) (w : World) (hS : S.sub w) (v0 : Value) (x0 : (List B8)) (k0 : ((TR.sl TR.str)).vrep S v0 x0) (f1 : FuncId) (c1 : Array Value) (t1 : Fit Tryz.prog f1) (g1 : B8 → Option Bool) (k1 : ∀ (U : Hp) (w' : World), Hp.le S U → U.sub w' → ∀ (a0 : B8) (rr : Bool), g1 a0 = some rr → Calls Tryz.prog f1 (#[(sv a0)] ++ c1) w' (PostV w' (.bool rr))) (res : Int) (hm : slices_IndexFunc_string_string_m x0 g1 = some res) : Calls Tryz.prog 14 #[v0, .func (.func f1) #[] c1] w (PostV w (.int .i64 res)) := by
 refine calls_enter 19 Tryz.func14 Tryz.ntmps14 rfl S false [(0, v0), (1, .func (.func f1) #[] c1)] [imm (TR.sl TR.str) v0 x0] rfl ⟨rfl, ⟨rfl, trivial⟩⟩ hS ⟨k0, trivial⟩ ?_
 unfold slices_IndexFunc_string_string_m at hm
 refine GL.seq ?_
 refine GL.region ?_
 refine RL.asg rfl rfl rfl ?_
 refine RL.finG ?_
 refine GL.seq ?_
 refine GL.seq ?_
 refine GL.region ?_
 refine RL.mv rfl rfl rfl ?_
 refine RL.lenS 0 Tryz.underlying22 rfl rfl rfl rfl SlOf.imm ?_
 refine RL.mv rfl rfl rfl ?_
 refine RL.finG ?_
 refine GL.open_ 0 rfl (fun S h => len_imm S h) (fun n12 => ?_)
 obtain ⟨y13, K14, h15, h16, h17, h18, h19⟩ := bindR_K hm
 refine GL.join (ι := Unit) (fun (p : Unit) => []) (fun (p : Unit) => []) (fun (p : Unit) => K14 (.nx ())) ?_ ?_
 ·refine GL.block ?_
  refine GL.loop (ι := Nat × (List B8)) (fun (p : Nat × (List B8)) => [(0, v0), (1, .func (.func f1) #[] c1), (7, .int .i64 ((x0).length : Int)), (8, .int .i64 (p.1 : Int))]) (fun (p : Nat × (List B8)) => [imm (TR.sl TR.str) v0 x0]) (fun (p : Nat × (List B8)) => p.1 + p.2.length = (x0).length ∧ List.drop p.1 x0 = p.2 ∧ rangeL (slices_IndexFunc_string_string_b1 g1) p.2 p.1 () = some y13) (fun (p : Nat × (List B8)) => p.2.length) (0, x0) ⟨by simp, by simp, h15⟩ (fun a w st => St.cut [0] ⟨rfl, rfl, rfl, rfl, trivial⟩ (by decide) rfl st) ?_
  rintro ⟨i20, r21⟩ ⟨h26, h27, h25⟩
  try dsimp only at h26 h27 h25
  refine GL.weak (env' := [(0, v0), (1, .func (.func f1) #[] c1), (7, .int .i64 ((x0).length : Int)), (8, .int .i64 (i20 : Int))]) (L' := [imm (TR.sl TR.str) v0 x0]) ss ?_
  refine GL.seq ?_
  refine GL.region ?_
  refine RL.binI (v := .bool (decide ((i20 : Int) < ((x0).length : Int)))) rfl rfl rfl rfl rfl ?_
  refine RL.finG ?_
  refine GL.seq ?_
  refine GL.cond rfl (fun b28 => ?_) (fun b28 => ?_)
  ·have h29 : i20 < (x0).length := by have := of_decide_eq_true b28; omega
   obtain ⟨y30, r32, hr, e31, h33⟩ := drop_cons h27 rfl h29
   subst hr
   obtain ⟨z22, h23, h24⟩ := rangeL_some h25
   unfold slices_IndexFunc_string_string_b1 at h23
   try dsimp only at h23
   refine GL.skip ?_
   refine GL.seq ?_
   refine GL.block ?_
   refine GL.seq ?_
   refine GL.region ?_
   refine RL.mv rfl rfl rfl ?_
   refine RL.asg rfl rfl rfl ?_
   refine RL.finG ?_
   refine GL.seq ?_
   refine GL.region ?_
   refine RL.mv rfl rfl rfl ?_
   refine RL.mv rfl rfl rfl ?_
   refine RL.mv rfl rfl rfl ?_
   refine RL.idxS (sz := 1) 0 Tryz.underlying22 Tryz_ln9 rfl rfl rfl rfl rfl SlOf.imm (by omega) (by omega) ?_
   refine RL.ldSx (i := i20) (e' := y30) 0 Ex.str Tryz_ln9 rfl rfl rfl rfl SlOf.imm e31 Part.self ?_
   obtain ⟨y36, e37, h23⟩ := bind_some h23
   refine RL.callV (v := .bool y36) (vs := [(sv y30)]) t1 rfl (Or.inl rfl) rfl rfl rfl rfl (fun U w hU hW hL => k1 U w hW hU y30 _ e37) ?_
   refine RL.finG ?_
   refine GL.cond rfl (fun b38 => ?_) (fun b38 => ?_)
   ·replace h23 := ite_t b38 h23
    refine GL.seq ?_
    refine GL.region ?_
    refine RL.mv rfl rfl rfl ?_
    refine RL.asg rfl rfl rfl ?_
    refine RL.finG ?_
    cases h23
    replace h24 : some (Fl.rt _) = some y13 := h24
    cases h24
    have hh := h18 _ h16
    subst hh
    exact GL.ret (Gx.ret (v := .int .i64 (i20 : Int)) (res1 rfl rfl) (fun a w st => st.toPostV))
   replace h23 := ite_f b38 h23
   refine GL.skip ?_
   refine GL.nilB ?_
   refine GL.region ?_
   refine RL.binI (v := .int .i64 ((i20 + 1 : Nat) : Int)) rfl rfl rfl rfl (binI_succ i20 (by omega)) ?_
   refine RL.mv rfl rfl rfl ?_
   refine RL.fin ?_
   cases h23
   exact fun a w st => lop_intro (i20 + 1, r32) ⟨by show i20 + 1 + r32.length = (x0).length; simp only [List.length_cons] at h26; omega, h33, h24⟩ (by simp) (St.cut [0] ⟨rfl, rfl, rfl, rfl, trivial⟩ (by decide) rfl st)
  have h29 : ¬ i20 < (x0).length := by have := of_decide_eq_false b28; omega
  obtain rfl : r21 = [] := by rw [← h27]; exact List.drop_of_length_le (by omega)
  replace h25 : some (Fl.nx _) = some y13 := h25
  cases h25
  exact GL.exit (fun a w st => mid_intro () h16 (St.cut [] trivial (by decide) rfl st))
 rintro ⟨⟩ h39
 have h40 := h17 _ h39
 try dsimp only at h40
 refine GL.weak (env' := []) (L' := []) ss ?_
 refine GL.seq ?_
 refine GL.region ?_
 refine RL.asg rfl rfl rfl ?_
 refine RL.finG ?_
 have h40 := Option.some.inj h40
 subst h40
 exact GL.ret (Gx.ret (v := .int .i64 (-1 : Int)) (res1 rfl rfl) (fun a w st => st.toPostV))

theorem slices_ContainsFunc_string_string_c (S : Hp) (w : World) (hS : S.sub w) (v0 : Value) (x0 : (List B8)) (k0 : ((TR.sl TR.str)).vrep S v0 x0) (f1 : FuncId) (c1 : Array Value) (t1 : Fit Tryz.prog f1) (g1 : B8 → Option Bool) (k1 : ∀ (U : Hp) (w' : World), Hp.le S U → U.sub w' → ∀ (a0 : B8) (rr : Bool), g1 a0 = some rr → Calls Tryz.prog f1 (#[(sv a0)] ++ c1) w' (PostV w' (.bool rr))) (res : Bool) (hm : slices_ContainsFunc_string_string_m x0 g1 = some res) : Calls Tryz.prog 8 #[v0, .func (.func f1) #[] c1] w (PostV w (.bool res)) := by
 refine calls_enter 9 Tryz.func8 Tryz.ntmps8 rfl S false [(0, v0), (1, .func (.func f1) #[] c1)] [imm (TR.sl TR.str) v0 x0] rfl ⟨rfl, ⟨rfl, trivial⟩⟩ hS ⟨k0, trivial⟩ ?_
 unfold slices_ContainsFunc_string_string_m at hm
 refine GL.seq ?_
 refine GL.region ?_
 refine RL.asg rfl rfl rfl ?_
 refine RL.finG ?_
 refine GL.seq ?_
 refine GL.region ?_
 refine RL.mv rfl rfl rfl ?_
 refine RL.mv rfl rfl rfl ?_
 obtain ⟨y5, e6, hm⟩ := bind_some hm
 refine RL.callV (v := .int .i64 y5) (vs := [v0, .func (.func f1) #[] c1]) Tryz_fit14 rfl (Or.inl rfl) rfl rfl rfl rfl (fun U w hU hW hL => slices_IndexFunc_string_string_c U w hU _ _ (hL 0 _ _ rfl Seen.imm) f1 c1 t1 g1 (fun U' w' hle => k1 U' w' (Hp.le_trans hW hle)) _ e6) ?_
 refine RL.binI (v := .bool (decide (y5 ≥ (0 : Int)))) rfl rfl rfl rfl rfl ?_
 refine RL.asg rfl rfl rfl ?_
 refine RL.finG ?_
 have hm := Option.some.inj hm
 subst hm
 exact GL.ret (Gx.ret (v := .bool (decide (y5 ≥ (0 : Int)))) (res1 rfl rfl) (fun a w st => st.toPostV))

theorem strings_Contains_c (S : Hp) (w : World) (hS : S.sub w) (x0 : B8) (x1 : B8) (res : Bool) (hm : strings_Contains_m x0 x1 = some res) : Calls Tryz.prog 10 #[(sv x0), (sv x1)] w (PostC w (.bool res)) := by
  match x1, hm with
  | [c], hm =>
    cases hm
    refine (Any.strings_Contains_one Tryz.lays144 ⟨x0.toArray⟩ c w).mono ?_
    rintro e w' ⟨rfl, rfl⟩
    exact ⟨rfl, rfl⟩

theorem pk_DeskCounts_1_c (S : Hp) (w : World) (hS : S.sub w) (x0 : B8) (res : Bool) (hm : pk_DeskCounts_1_m x0 = some res) : Calls Tryz.prog 9 #[(sv x0)] w (PostC w (.bool res)) := by
 refine calls_enter 9 Tryz.func9 Tryz.ntmps9 rfl S true [(0, (sv x0))] [] rfl ⟨rfl, trivial⟩ hS trivial ?_
 unfold pk_DeskCounts_1_m at hm
 refine GL.seq ?_
 refine GL.region ?_
 refine RL.asg rfl rfl rfl ?_
 refine RL.finG ?_
 refine GL.seq ?_
 obtain ⟨y9, K10, h11, h12, h13, h14, h15⟩ := bindR_K hm
 refine GL.join (ι := Bool) (fun (p : Bool) => [(2, .bool p)]) (fun (p : Bool) => []) (fun (p : Bool) => K10 (.nx p)) ?_ ?_
 ·skip
  refine GL.region ?_
  refine RL.mv rfl rfl rfl ?_
  refine RL.binS (v := .bool (x0 == ([] : B8))) rfl rfl rfl rfl rfl ?_
  refine RL.mv rfl rfl rfl ?_
  refine RL.split (t := 5) rfl (fun b16 => ?_) (fun b16 => ?_)
  ·replace h11 := ite_t b16 h11
   refine RL.skip rfl rfl ?_
   refine RL.skip rfl rfl ?_
   refine RL.pickT rfl rfl rfl rfl ?_
   refine RL.asg rfl rfl rfl ?_
   refine RL.fin ?_
   cases h11
   exact fun a w st => mid_intro true h12 (St.cut [] ⟨rfl, trivial⟩ (by decide) rfl st)
  replace h11 := ite_f b16 h11
  refine RL.mv rfl rfl rfl ?_
  obtain ⟨y17, e18, h11⟩ := bind_some h11
  refine RL.callC (v := .bool y17) (vs := [(sv x0), (sv (([10] : B8)))]) Tryz_fit10 rfl rfl rfl rfl (fun U w hU hW hL => strings_Contains_c U w hU x0 ([10] : B8) _ e18) ?_
  refine RL.pickF rfl rfl rfl rfl ?_
  refine RL.asg rfl rfl rfl ?_
  refine RL.fin ?_
  cases h11
  exact fun a w st => mid_intro y17 h12 (St.cut [] ⟨rfl, trivial⟩ (by decide) rfl st)
 rintro x8 h19
 have h20 := h13 _ h19
 try dsimp only at h20
 refine GL.weak (env' := [(2, .bool x8)]) (L' := []) ss ?_
 have h20 := Option.some.inj h20
 subst h20
 exact GL.ret (Gx.ret (v := .bool x8) (res1 rfl rfl) (fun a w st => st.toPostC rfl))

theorem pk_DeskCounts_c (S : Hp) (w : World) (hS : S.sub w) (hT : Tab Tryz.prog (Tryz.lays146_ren.g 1) S) (x0 : B8) (res : Bool) (hm : pk_DeskCounts_m x0 = some res) : Calls Tryz.prog 4 #[(sv x0)] w (PostV w (.bool res)) := by
 refine calls_enter 52 Tryz.func4 Tryz.ntmps4 rfl S false [(0, (sv x0))] [] rfl ⟨rfl, trivial⟩ hS trivial ?_
 unfold pk_DeskCounts_m at hm
 refine GL.seq ?_
 refine GL.region ?_
 refine RL.asg rfl rfl rfl ?_
 refine RL.finG ?_
 refine GL.seq ?_
 refine GL.seq ?_
 refine GL.region ?_
 obtain ⟨y5, e6, hm⟩ := bind_some hm
 refine RL.call (vs := [(sv (([112, 105, 108, 101, 115, 32, 49, 32, 50, 32, 52, 10, 10, 115, 101, 99, 111, 110, 100, 32, 49, 32, 51, 32, 57, 32, 53, 10, 115, 101, 97, 116, 115, 32, 49, 32, 53, 32, 54, 48, 32, 51, 48, 32, 49, 48, 10, 115, 119, 105, 110, 103, 115, 32, 51, 32, 50, 32, 49, 32, 49] : B8)))]) Tryz_fit5 rfl rfl rfl rfl rfl (fun S f w hS hW hi => desk_Run_c S w hS (hT.mono hW) ([112, 105, 108, 101, 115, 32, 49, 32, 50, 32, 52, 10, 10, 115, 101, 99, 111, 110, 100, 32, 49, 32, 51, 32, 57, 32, 53, 10, 115, 101, 97, 116, 115, 32, 49, 32, 53, 32, 54, 48, 32, 51, 48, 32, 49, 48, 10, 115, 119, 105, 110, 103, 115, 32, 51, 32, 50, 32, 49, 32, 49] : B8) _ e6) ?_
 intro v7
 refine RL.mv rfl rfl rfl ?_
 refine RL.ext rfl rfl rfl rfl ?_
 refine RL.ext rfl rfl rfl rfl ?_
 refine RL.asg rfl rfl rfl ?_
 refine RL.asg rfl rfl rfl ?_
 refine RL.finG ?_
 refine GL.seq ?_
 obtain ⟨y17, K18, h19, h20, h21, h22, h23⟩ := bindR_K hm
 refine GL.join (ι := Bool) (fun (p : Bool) => [(0, (sv x0)), (21, .bool p)]) (fun (p : Bool) => []) (fun (p : Bool) => K18 (.nx p)) ?_ ?_
 ·skip
  refine GL.region ?_
  refine RL.mv rfl rfl rfl ?_
  refine RL.binI (v := .bool (y5.2 != (0 : Int))) rfl rfl rfl rfl rfl ?_
  refine RL.mv rfl rfl rfl ?_
  refine RL.split (t := 16) rfl (fun b24 => ?_) (fun b24 => ?_)
  ·replace h19 := ite_t b24 h19
   refine RL.skip rfl rfl ?_
   refine RL.skip rfl rfl ?_
   refine RL.skip rfl rfl ?_
   refine RL.skip rfl rfl ?_
   refine RL.pickT rfl rfl rfl rfl ?_
   refine RL.fin ?_
   cases h19
   exact fun a w st => mid_intro true h20 (St.cut [] ⟨rfl, rfl, trivial⟩ (by decide) rfl st)
  replace h19 := ite_f b24 h19
  refine RL.mv rfl rfl rfl ?_
  refine RL.bS (t := TR.str) (vs := [(sv (([50, 32, 49, 32, 46] : B8))), (sv (([49, 32, 53, 32, 46] : B8))), (sv (([52, 32, 49, 32, 48, 32, 46] : B8))), (sv (([51, 32, 49, 32, 49, 32, 46] : B8)))]) ([([50, 32, 49, 32, 46] : B8), ([49, 32, 53, 32, 46] : B8), ([52, 32, 49, 32, 48, 32, 46] : B8), ([51, 32, 49, 32, 49, 32, 46] : B8)] : (List B8)) Tryz.underlying22 Tryz_lo9 rfl rfl rfl rfl ⟨VR.str, ⟨VR.str, ⟨VR.str, ⟨VR.str, trivial⟩⟩⟩⟩ rfl (by decide) ?_
  intro v25
  refine RL.reL (L' := [own 9 TR.str v7 y5.1, own 9 TR.str v25 ([([50, 32, 49, 32, 46] : B8), ([49, 32, 53, 32, 46] : B8), ([52, 32, 49, 32, 48, 32, 46] : B8), ([51, 32, 49, 32, 49, 32, 46] : B8)] : (List B8))]) rfl ?_
  obtain ⟨y26, e27, h19⟩ := bind_some h19
  refine RL.callV (v := .bool y26) (vs := [v7, v25]) Tryz_fit6 rfl (Or.inl rfl) rfl rfl rfl rfl (fun U w hU hW hL => slices_Equal_string_string_c U w hU _ _ (hL 0 _ _ rfl Seen.own) _ _ (hL 1 _ _ rfl Seen.own) _ e27) ?_
  refine RL.notB rfl rfl rfl ?_
  refine RL.pickF rfl rfl rfl rfl ?_
  refine RL.fin ?_
  cases h19
  exact fun a w st => mid_intro (!y26) h20 (St.cut [] ⟨rfl, rfl, trivial⟩ (by decide) rfl st)
 rintro x16 h28
 have h29 := h21 _ h28
 try dsimp only at h29
 refine GL.weak (env' := [(0, (sv x0)), (21, .bool x16)]) (L' := []) ss ?_
 refine GL.cond rfl (fun b30 => ?_) (fun b30 => ?_)
 ·replace h29 := ite_t b30 h29
  refine GL.seq ?_
  refine GL.region ?_
  refine RL.asg rfl rfl rfl ?_
  refine RL.finG ?_
  have h29 := Option.some.inj h29
  subst h29
  exact GL.ret (Gx.ret (v := .bool false) (res1 rfl rfl) (fun a w st => st.toPostV))
 replace h29 := ite_f b30 h29
 refine GL.skip ?_
 refine GL.seq ?_
 refine GL.region ?_
 refine RL.mv rfl rfl rfl ?_
 obtain ⟨y34, e35, h29⟩ := bind_some h29
 refine RL.call (vs := [(sv x0)]) Tryz_fit5 rfl rfl rfl rfl rfl (fun S f w hS hW hi => desk_Run_c S w hS (hT.mono hW) x0 _ e35) ?_
 intro v36
 refine RL.mv rfl rfl rfl ?_
 refine RL.ext rfl rfl rfl rfl ?_
 refine RL.ext rfl rfl rfl rfl ?_
 refine RL.asg rfl rfl rfl ?_
 refine RL.asg rfl rfl rfl ?_
 refine RL.finG ?_
 refine GL.seq ?_
 refine GL.region ?_
 refine RL.asg rfl rfl rfl ?_
 refine RL.finG ?_
 refine GL.seq ?_
 refine GL.seq ?_
 refine GL.region ?_
 refine RL.mv rfl rfl rfl ?_
 obtain ⟨y40, e41, h29⟩ := bind_some h29
 refine RL.call (vs := [(sv x0), (sv (([10] : B8)))]) Tryz_fit7 rfl rfl rfl rfl rfl (fun S f w hS hW hi => strings_Split_c S w hS (hT.mono hW) x0 ([10] : B8) _ e41) ?_
 intro v42
 refine RL.reL (L' := [own 9 TR.str v36 y34.1, own 9 TR.str v42 y40]) rfl ?_
 refine RL.lenS 1 Tryz.underlying22 rfl rfl rfl rfl SlOf.own ?_
 refine RL.mv rfl rfl rfl ?_
 refine RL.finG ?_
 refine GL.lenOwn 1 rfl (fun n49 => ?_)
 obtain ⟨y50, K51, h52, h53, h54, h55, h56⟩ := bindR_K h29
 refine GL.join (ι := Int) (fun (p : Int) => [(5, v36), (6, .int .i64 y34.2), (7, .int .i64 p)]) (fun (p : Int) => [own 9 TR.str v36 y34.1]) (fun (p : Int) => K51 (.nx p)) ?_ ?_
 ·refine GL.block ?_
  refine GL.loop (ι := Nat × Nat × Int) (fun (p : Nat × Nat × Int) => [(5, v36), (6, .int .i64 y34.2), (7, .int .i64 p.2.2), (28, v42), (29, .int .i64 ((y40).length : Int)), (30, .int .i64 (p.1 : Int))]) (fun (p : Nat × Nat × Int) => [own 9 TR.str v36 y34.1, own 9 TR.str v42 y40]) (fun (p : Nat × Nat × Int) => p.1 + p.2.1 = (y40).length ∧ rangeN (pk_DeskCounts_b1 y40) p.2.1 p.1 p.2.2 = some y50) (fun (p : Nat × Nat × Int) => p.2.1) (0, (y40).length, (0 : Int)) ⟨by simp, h52⟩ (fun a w st => St.cut [0, 1] ⟨rfl, rfl, rfl, rfl, rfl, rfl, trivial⟩ (by decide) rfl st) ?_
  rintro ⟨i57, r58, x43⟩ ⟨h63, h62⟩
  try dsimp only at h63 h62
  refine GL.weak (env' := [(5, v36), (6, .int .i64 y34.2), (7, .int .i64 x43), (28, v42), (29, .int .i64 ((y40).length : Int)), (30, .int .i64 (i57 : Int))]) (L' := [own 9 TR.str v36 y34.1, own 9 TR.str v42 y40]) ss ?_
  refine GL.seq ?_
  refine GL.region ?_
  refine RL.binI (v := .bool (decide ((i57 : Int) < ((y40).length : Int)))) rfl rfl rfl rfl rfl ?_
  refine RL.finG ?_
  refine GL.seq ?_
  refine GL.cond rfl (fun b65 => ?_) (fun b65 => ?_)
  ·have h66 : i57 < (y40).length := by have := of_decide_eq_true b65; omega
   obtain ⟨r67, hr⟩ : ∃ m, r58 = m + 1 := ⟨r58 - 1, by omega⟩
   subst hr
   obtain ⟨z59, h60, h61⟩ := rangeN_some h62
   unfold pk_DeskCounts_b1 at h60
   try dsimp only at h60
   refine GL.skip ?_
   refine GL.seq ?_
   refine GL.block ?_
   refine GL.seq ?_
   refine GL.region ?_
   obtain ⟨y70, e71, h60⟩ := bind_some h60
   refine RL.idxS (sz := 1) 1 Tryz.underlying22 Tryz_ln9 rfl rfl rfl rfl rfl SlOf.own (idx_some e71).1 (idx_some e71).2.1 ?_
   refine RL.ldSx (i := i57) (e' := y70) 1 Ex.str Tryz_ln9 rfl rfl rfl rfl SlOf.own (idx_some e71).2.2 Part.self ?_
   refine RL.asg rfl rfl rfl ?_
   refine RL.finG ?_
   refine GL.seq ?_
   refine GL.region ?_
   refine RL.mv rfl rfl rfl ?_
   refine RL.binS (v := .bool (!(y70 == ([] : B8)))) rfl rfl rfl rfl rfl ?_
   refine RL.finG ?_
   refine GL.cond rfl (fun b72 => ?_) (fun b72 => ?_)
   ·replace h60 := ite_t b72 h60
    refine GL.region ?_
    refine RL.mv rfl rfl rfl ?_
    refine RL.binI (v := .int .i64 (wadd x43 (1 : Int))) rfl rfl rfl rfl rfl ?_
    refine RL.asg rfl rfl rfl ?_
    refine RL.finG ?_
    refine GL.nilB ?_
    refine GL.region ?_
    refine RL.binI (v := .int .i64 ((i57 + 1 : Nat) : Int)) rfl rfl rfl rfl (binI_succ i57 (by omega)) ?_
    refine RL.mv rfl rfl rfl ?_
    refine RL.fin ?_
    cases h60
    exact fun a w st => lop_intro (i57 + 1, r67, wadd x43 (1 : Int)) ⟨by show i57 + 1 + r67 = (y40).length; omega, h61⟩ (by simp) (St.cut [0, 1] ⟨rfl, rfl, rfl, rfl, rfl, rfl, trivial⟩ (by decide) rfl st)
   replace h60 := ite_f b72 h60
   refine GL.skip ?_
   refine GL.nilB ?_
   refine GL.region ?_
   refine RL.binI (v := .int .i64 ((i57 + 1 : Nat) : Int)) rfl rfl rfl rfl (binI_succ i57 (by omega)) ?_
   refine RL.mv rfl rfl rfl ?_
   refine RL.fin ?_
   cases h60
   exact fun a w st => lop_intro (i57 + 1, r67, x43) ⟨by show i57 + 1 + r67 = (y40).length; omega, h61⟩ (by simp) (St.cut [0, 1] ⟨rfl, rfl, rfl, rfl, rfl, rfl, trivial⟩ (by decide) rfl st)
  have h66 : ¬ i57 < (y40).length := by have := of_decide_eq_false b65; omega
  obtain rfl : r58 = 0 := by omega
  replace h62 : some (Fl.nx _) = some y50 := h62
  cases h62
  exact GL.exit (fun a w st => mid_intro x43 h53 (St.cut [0] ⟨rfl, rfl, rfl, trivial⟩ (by decide) rfl st))
 rintro x43 h73
 have h74 := h54 _ h73
 try dsimp only at h74
 refine GL.weak (env' := [(5, v36), (6, .int .i64 y34.2), (7, .int .i64 x43)]) (L' := [own 9 TR.str v36 y34.1]) ss ?_
 refine GL.seq ?_
 obtain ⟨y84, K85, h86, h87, h88, h89, h90⟩ := bindR_K h74
 refine GL.join (ι := Bool) (fun (p : Bool) => [(2, .bool p)]) (fun (p : Bool) => []) (fun (p : Bool) => K85 (.nx p)) ?_ ?_
 ·skip
  refine GL.region ?_
  refine RL.mv rfl rfl rfl ?_
  refine RL.binI (v := .bool (y34.2 != (0 : Int))) rfl rfl rfl rfl rfl ?_
  refine RL.mv rfl rfl rfl ?_
  refine RL.split (t := 41) rfl (fun b91 => ?_) (fun b91 => ?_)
  ·replace h86 := ite_t b91 h86
   refine RL.skip rfl rfl ?_
   refine RL.skip rfl rfl ?_
   refine RL.skip rfl rfl ?_
   refine RL.skip rfl rfl ?_
   refine RL.skip rfl rfl ?_
   refine RL.skip rfl rfl ?_
   refine RL.skip rfl rfl ?_
   refine RL.skip rfl rfl ?_
   refine RL.skip rfl rfl ?_
   refine RL.pickT rfl rfl rfl rfl ?_
   refine RL.asg rfl rfl rfl ?_
   refine RL.fin ?_
   cases h86
   exact fun a w st => mid_intro true h87 (St.cut [] ⟨rfl, trivial⟩ (by decide) rfl st)
  replace h86 := ite_f b91 h86
  refine RL.mv rfl rfl rfl ?_
  refine RL.lenS 0 Tryz.underlying22 rfl rfl rfl rfl SlOf.own ?_
  refine RL.mv rfl rfl rfl ?_
  refine RL.binI (v := .bool (((y34.1).length : Int) == x43)) rfl rfl rfl rfl rfl ?_
  refine RL.mv rfl rfl rfl ?_
  refine RL.split (t := 46) rfl (fun b92 => ?_) (fun b92 => ?_)
  ·replace h86 := ite_t b92 h86
   refine RL.mv rfl rfl rfl ?_
   obtain ⟨y93, e94, h86⟩ := bind_some h86
   refine RL.callV (v := .bool y93) (vs := [v36, .func (.func 9) #[] #[]]) Tryz_fit8 rfl (Or.inl rfl) rfl rfl rfl rfl (fun U w hU hW hL => slices_ContainsFunc_string_string_c U w hU _ _ (hL 0 _ _ rfl Seen.own) 9 #[] Tryz_fit9 (fun a0 => pk_DeskCounts_1_m a0) (fun U' w' hle hU' a0 rr hr => (pk_DeskCounts_1_c U' w' hU' a0 rr hr).mono (fun _ _ z => z.toV)) _ e94) ?_
   refine RL.notB rfl rfl rfl ?_
   refine RL.pickT rfl rfl rfl rfl ?_
   refine RL.pickF rfl rfl rfl rfl ?_
   refine RL.asg rfl rfl rfl ?_
   refine RL.fin ?_
   cases h86
   exact fun a w st => mid_intro (!y93) h87 (St.cut [] ⟨rfl, trivial⟩ (by decide) rfl st)
  replace h86 := ite_f b92 h86
  refine RL.skip rfl rfl ?_
  refine RL.skip rfl rfl ?_
  refine RL.skip rfl rfl ?_
  refine RL.pickF rfl rfl rfl rfl ?_
  refine RL.pickF rfl rfl rfl rfl ?_
  refine RL.asg rfl rfl rfl ?_
  refine RL.fin ?_
  cases h86
  exact fun a w st => mid_intro false h87 (St.cut [] ⟨rfl, trivial⟩ (by decide) rfl st)
 rintro x83 h95
 have h96 := h88 _ h95
 try dsimp only at h96
 refine GL.weak (env' := [(2, .bool x83)]) (L' := []) ss ?_
 have h96 := Option.some.inj h96
 subst h96
 exact GL.ret (Gx.ret (v := .bool x83) (res1 rfl rfl) (fun a w st => st.toPostV))
end Go.Wk
