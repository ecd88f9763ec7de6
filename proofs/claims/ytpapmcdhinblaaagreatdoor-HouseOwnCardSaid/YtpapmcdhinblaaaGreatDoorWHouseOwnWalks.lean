/- Each function comes to what its model says; printed by a program of this repository. -/
import Derived.Test.YtpapmcdhinblaaaGreatDoorProg
import Derived.Test.YtpapmcdhinblaaaGreatDoorWHouseOwnModels
import Derived.Test.YtpapmcdhinblaaaGreatDoorWHouseOwnWalks2
namespace Go.Wk
open Go.Fw Go.Mo Go.Proofs Go.RowKit
set_option linter.all false
set_option maxRecDepth 100000

set_option maxHeartbeats 4000000 in
theorem log_Log_Crash_c (B : World) (S X : Hp) (f : Nat → Hp) (w : World) (v0 : Value) (x0 : ((List UInt8) × Int)) (hO : HeapOk B.heap.size S f [obox 95 (TR.pair TR.str TR.int) v0 x0, keep X].length w) (hB : Below B.heap.size B w) (hI : Its [obox 95 (TR.pair TR.str TR.int) v0 x0, keep X] S f) (x1 : Int) (res : Int × ((List UInt8) × Int)) (hm : log_Log_Crash_m x0 x1 = some res) : Calls Tryz.prog 46 #[v0, .int .i64 x1] w (PostM B S (fun (o : Unit) => .int .i64 res.1) (fun (o : Unit) => [obox 95 (TR.pair TR.str TR.int) v0 res.2, keep X])) := by
 refine calls_enterM 50 Tryz.func46 Tryz.ntmps46 rfl B S f [(0, v0), (1, .int .i64 x1)] [obox 95 (TR.pair TR.str TR.int) v0 x0, keep X] [] rfl ⟨rfl, ⟨rfl, trivial⟩⟩ hB hO hI trivial ?_
 unfold log_Log_Crash_m at hm
 refine GL.seq ?_
 refine GL.region ?_
 refine RL.asg rfl rfl rfl ?_
 refine RL.finG ?_
 refine GL.seq ?_
 refine GL.seq ?_
 obtain ⟨y6, K7, h8, h9, h10, h11, h12⟩ := bindR_K hm
 refine GL.join (ι := Bool) (fun (p : Bool) => [(0, v0), (1, .int .i64 x1), (23, .bool p)]) (fun (p : Bool) => [obox 95 (TR.pair TR.str TR.int) v0 x0, keep X]) (fun (p : Bool) => K7 (.nx p)) ?_ ?_
 ·skip
  refine GL.regionQ rfl rfl (by kernel_rfl) ?_
  refine RL.mv rfl rfl rfl ?_
  refine RL.binI (v := .bool (decide (x1 < (0 : Int)))) rfl rfl rfl rfl rfl ?_
  refine RL.mv rfl rfl rfl ?_
  refine RL.split (t := 10) rfl (fun b13 => ?_) (fun b13 => ?_)
  ·replace h8 := ite_t b13 h8
   refine RL.skip rfl rfl ?_
   refine RL.skip rfl rfl ?_
   refine RL.skip rfl rfl ?_
   refine RL.skip rfl rfl ?_
   refine RL.skip rfl rfl ?_
   refine RL.skip rfl rfl ?_
   refine RL.skip rfl rfl ?_
   refine RL.skip rfl rfl ?_
   refine RL.skip rfl rfl ?_
   refine RL.skip rfl rfl ?_
   refine RL.skip rfl rfl ?_
   refine RL.skip rfl rfl ?_
   refine RL.pickT rfl rfl rfl rfl ?_
   refine RL.finQ ?_
   cases h8
   exact fun a w st => mid_intro true h9 (St.cut [0, 1] ⟨rfl, rfl, rfl, trivial⟩ (by decide) rfl st)
  replace h8 := ite_f b13 h8
  refine RL.mv rfl rfl rfl ?_
  refine RL.mv rfl rfl rfl ?_
  refine RL.nilk 0 rfl rfl rfl rfl PtOf.obox ?_
  refine RL.fadr (off := 0) (fo := 0) 0 Tryz_fld95_0 rfl rfl rfl PtOf.obox (Or.inr ⟨rfl, rfl⟩) ?_
  refine RL.ldPx (off := (0 + 0)) (e' := x0.1) 0 Ex.str Tryz_ln9 rfl rfl (Or.inl rfl) rfl PtOf.obox (Part.fst Part.self) ?_
  refine RL.lenT Tryz.underlying9 rfl rfl rfl ?_
  refine RL.mv rfl rfl rfl ?_
  refine RL.nilk 0 rfl rfl rfl rfl PtOf.obox ?_
  refine RL.fadr (off := 0) (fo := 1) 0 Tryz_fld95_1 rfl rfl rfl PtOf.obox (Or.inr ⟨rfl, rfl⟩) ?_
  refine RL.ldPx (off := (0 + 1)) (e' := x0.2) 0 Ex.ik Tryz_ln3 rfl rfl (Or.inl rfl) rfl PtOf.obox (Part.snd Part.self) ?_
  refine RL.binI (v := .int .i64 (wsub ((x0.1).length : Int) x0.2)) rfl rfl rfl rfl rfl ?_
  refine RL.binI (v := .bool (decide (x1 > (wsub ((x0.1).length : Int) x0.2)))) rfl rfl rfl rfl rfl ?_
  refine RL.pickF rfl rfl rfl rfl ?_
  refine RL.finQ ?_
  cases h8
  exact fun a w st => mid_intro (decide (x1 > (wsub ((x0.1).length : Int) x0.2))) h9 (St.cut [0, 1] ⟨rfl, rfl, rfl, trivial⟩ (by decide) rfl st)
 rintro x5 h14
 have h15 := h10 _ h14
 try dsimp only at h15
 refine GL.weak (env' := [(0, v0), (1, .int .i64 x1), (23, .bool x5)]) (L' := [obox 95 (TR.pair TR.str TR.int) v0 x0, keep X]) (fun _ _ st => st) ?_
 refine GL.cond rfl (fun b16 => ?_) (fun b16 => ?_)
 ·replace h15 := ite_t b16 h15
  refine GL.seq ?_
  refine GL.region ?_
  refine RL.asg rfl rfl rfl ?_
  refine RL.finG ?_
  have h15 := Option.some.inj h15
  subst h15
  exact GL.ret (Gx.ret (v := .int .i64 (1 : Int)) (res1 rfl rfl) (fun a w st => (st.pick [0, 1] (by decide) rfl).toPostM (V := fun (o : Unit) => .int .i64 (((1 : Int), x0).1)) (LR := fun (o : Unit) => [obox 95 (TR.pair TR.str TR.int) v0 (((1 : Int), x0).2), keep X]) ()))
 replace h15 := ite_f b16 h15
 refine GL.skip ?_
 refine GL.seq ?_
 refine GL.regionQ rfl rfl (by kernel_rfl) ?_
 refine RL.mv rfl rfl rfl ?_
 refine RL.nilk 0 rfl rfl rfl rfl PtOf.obox ?_
 refine RL.fadr (off := 0) (fo := 0) 0 Tryz_fld95_0 rfl rfl rfl PtOf.obox (Or.inr ⟨rfl, rfl⟩) ?_
 refine RL.ldPx (off := (0 + 0)) (e' := x0.1) 0 Ex.str Tryz_ln9 rfl rfl (Or.inl rfl) rfl PtOf.obox (Part.fst Part.self) ?_
 refine RL.mv rfl rfl rfl ?_
 refine RL.nilk 0 rfl rfl rfl rfl PtOf.obox ?_
 refine RL.fadr (off := 0) (fo := 1) 0 Tryz_fld95_1 rfl rfl rfl PtOf.obox (Or.inr ⟨rfl, rfl⟩) ?_
 refine RL.ldPx (off := (0 + 1)) (e' := x0.2) 0 Ex.ik Tryz_ln3 rfl rfl (Or.inl rfl) rfl PtOf.obox (Part.snd Part.self) ?_
 refine RL.mv rfl rfl rfl ?_
 refine RL.binI (v := .int .i64 (wadd x0.2 x1)) rfl rfl rfl rfl rfl ?_
 obtain ⟨y19, e20, h15⟩ := bind_some h15
 replace e20 := chk_some e20
 refine RL.cutT (i := 0) (j := (wadd x0.2 x1).toNat) Tryz.underlying9 rfl rfl rfl (Or.inl ⟨rfl, rfl⟩) (Or.inr ⟨_, _, rfl, by rw [Int.toNat_of_nonneg (by omega)]; rfl⟩) (by omega) (by omega) ?_
 refine RL.asg rfl rfl rfl ?_
 refine RL.finQG ?_
 refine GL.seq ?_
 refine GL.region ?_
 refine RL.mv rfl rfl rfl ?_
 obtain ⟨y24, e25, h15⟩ := bind_some h15
 refine RL.call (vs := [.string ⟨((List.take ((wadd x0.2 x1).toNat) x0.1).drop 0 : List UInt8).toArray⟩]) Tryz_fit61 rfl rfl rfl rfl rfl (fun S f w hS hW hi => log_Scan_c S w hS ((List.take ((wadd x0.2 x1).toNat) x0.1).drop 0) _ e25) ?_
 intro v26
 refine RL.mv rfl rfl rfl ?_
 refine RL.ext rfl rfl rfl rfl ?_
 refine RL.ext rfl rfl rfl rfl ?_
 refine RL.asg rfl rfl rfl ?_
 refine RL.asg rfl rfl rfl ?_
 refine RL.finG ?_
 refine GL.seq ?_
 refine GL.region ?_
 refine RL.mv rfl rfl rfl ?_
 refine RL.mv rfl rfl rfl ?_
 refine RL.mv rfl rfl rfl ?_
 refine RL.mv rfl rfl rfl ?_
 obtain ⟨y29, e30, h15⟩ := bind_some h15
 replace e30 := chk_some e30
 refine RL.cutT (i := 0) (j := (y24.2).toNat) Tryz.underlying9 rfl rfl rfl (Or.inl ⟨rfl, rfl⟩) (Or.inr ⟨_, _, rfl, by rw [Int.toNat_of_nonneg (by omega)]; rfl⟩) (by omega) (by omega) ?_
 refine RL.mv rfl rfl rfl ?_
 refine RL.nilk 0 rfl rfl rfl rfl PtOf.obox ?_
 refine RL.fadr (off := 0) (fo := 0) 0 Tryz_fld95_0 rfl rfl rfl PtOf.obox (Or.inr ⟨rfl, rfl⟩) ?_
 refine RL.stP (off := (0 + 0)) (e' := (List.take ((y24.2).toNat) ((List.take ((wadd x0.2 x1).toNat) x0.1).drop 0)).drop 0) (d1 := ((List.take ((y24.2).toNat) ((List.take ((wadd x0.2 x1).toNat) x0.1).drop 0)).drop 0, x0.2)) (r := TR.str) 0 Tryz_ln9 rfl rfl (Or.inl rfl) rfl VR.str rfl (Upd.fst Upd.self) ?_
 refine RL.reL (L' := [obox 95 (TR.pair TR.str TR.int) v0 ((List.take ((y24.2).toNat) ((List.take ((wadd x0.2 x1).toNat) x0.1).drop 0)).drop 0, x0.2), keep X, own 9 TR.str v26 y24.1]) rfl ?_
 refine RL.nilk 0 rfl rfl rfl rfl PtOf.obox ?_
 refine RL.fadr (off := 0) (fo := 1) 0 Tryz_fld95_1 rfl rfl rfl PtOf.obox (Or.inr ⟨rfl, rfl⟩) ?_
 refine RL.stP (off := (0 + 1)) (e' := y24.2) (d1 := (((List.take ((y24.2).toNat) ((List.take ((wadd x0.2 x1).toNat) x0.1).drop 0)).drop 0, x0.2).1, y24.2)) (r := TR.int) 0 Tryz_ln3 rfl rfl (Or.inl rfl) rfl VR.int rfl (Upd.snd Upd.self) ?_
 refine RL.finG ?_
 refine GL.seq ?_
 refine GL.region ?_
 refine RL.asg rfl rfl rfl ?_
 refine RL.finG ?_
 have h15 := Option.some.inj h15
 subst h15
 exact GL.ret (Gx.ret (v := .int .i64 (0 : Int)) (res1 rfl rfl) (fun a w st => (st.pick [0, 1] (by decide) rfl).toPostM (V := fun (o : Unit) => .int .i64 (((0 : Int), (((List.take ((y24.2).toNat) ((List.take ((wadd x0.2 x1).toNat) x0.1).drop 0)).drop 0, x0.2).1, y24.2)).1)) (LR := fun (o : Unit) => [obox 95 (TR.pair TR.str TR.int) v0 (((0 : Int), (((List.take ((y24.2).toNat) ((List.take ((wadd x0.2 x1).toNat) x0.1).drop 0)).drop 0, x0.2).1, y24.2)).2), keep X]) ()))

set_option maxHeartbeats 4000000 in
theorem log_Log_All_c (S : Hp) (w : World) (hS : S.sub w) (v0 : Value) (x0 : ((List UInt8) × Int)) (k0 : ((TR.ptr (TR.pair TR.str TR.int))).vrep S v0 x0) (res : (List (List UInt8))) (hm : log_Log_All_m x0 = some res) : Calls Tryz.prog 62 #[v0] w (Post w S (fun (o : Value) => o) (fun (o : Value) => [own 9 TR.str o res])) := by
 refine calls_enter 14 Tryz.func62 Tryz.ntmps62 rfl S false [(0, v0)] [imm (TR.ptr (TR.pair TR.str TR.int)) v0 x0] rfl ⟨rfl, trivial⟩ hS ⟨k0, trivial⟩ ?_
 unfold log_Log_All_m at hm
 refine GL.seq ?_
 refine GL.region ?_
 refine RL.asg rfl rfl rfl ?_
 refine RL.finG ?_
 refine GL.seq ?_
 refine GL.region ?_
 refine RL.mv rfl rfl rfl ?_
 refine RL.nilk 0 rfl rfl rfl rfl PtOf.imm ?_
 refine RL.fadr (off := 0) (fo := 0) 0 Tryz_fld95_0 rfl rfl rfl PtOf.imm (Or.inr ⟨rfl, rfl⟩) ?_
 refine RL.ldPx (off := (0 + 0)) (e' := x0.1) 0 Ex.str Tryz_ln9 rfl rfl (Or.inl rfl) rfl PtOf.imm (Part.fst Part.self) ?_
 obtain ⟨y5, e6, hm⟩ := bind_some hm
 refine RL.call (vs := [.string ⟨(x0.1 : List UInt8).toArray⟩]) Tryz_fit61 rfl rfl rfl rfl rfl (fun S f w hS hW hi => log_Scan_c S w hS x0.1 _ e6) ?_
 intro v7
 refine RL.mv rfl rfl rfl ?_
 refine RL.ext rfl rfl rfl rfl ?_
 refine RL.ext rfl rfl rfl rfl ?_
 refine RL.asg rfl rfl rfl ?_
 refine RL.asg rfl rfl rfl ?_
 refine RL.finG ?_
 refine GL.seq ?_
 refine GL.region ?_
 refine RL.mv rfl rfl rfl ?_
 refine RL.asg rfl rfl rfl ?_
 refine RL.finG ?_
 have hm := Option.some.inj hm
 subst hm
 exact GL.ret (Gx.ret (v := v7) (res1 rfl rfl) (fun a w st => (st.pick [1] (by decide) rfl).toPost v7))

set_option maxHeartbeats 4000000 in
theorem strings_Split_c (S : Hp) (w : World) (hS : S.sub w) (hT : Tab Tryz.prog (Tryz.lays146_ren.g 1) S) (x0 : List UInt8) (x1 : List UInt8) (res : List (List UInt8)) (hm : strings_Split_m x0 x1 = some res) : Calls Tryz.prog 63 #[.string ⟨(x0 : List UInt8).toArray⟩, .string ⟨(x1 : List UInt8).toArray⟩] w (Post w S (fun (o : Value) => o) (fun (o : Value) => [own 9 TR.str o res])) := by
  unfold strings_Split_m at hm
  obtain ⟨_, hc, hm⟩ := bind_some hm
  obtain ⟨h0, h1⟩ := chk_some hc
  cases hm
  obtain ⟨m, hmx⟩ := hT.max
  have hs0 : (⟨x0.toArray⟩ : ByteArray).size = x0.length := by simp [ByteArray.size]
  have hs1 : (⟨x1.toArray⟩ : ByteArray).size = x1.length := by simp [ByteArray.size]
  have hall := Go.Lib.splitB_all ⟨x1.toArray⟩ (by rw [hs1]; exact h1) 0 _ ⟨x0.toArray⟩ rfl
  have hle := Go.Lib.countB_le ⟨x1.toArray⟩ (by rw [hs1]; exact h1) _ ⟨x0.toArray⟩ (Nat.le_refl _)
  have hl : (splitL x0 x1).length = Go.Lib.countB ⟨x0.toArray⟩ ⟨x1.toArray⟩ + 1 := by unfold splitL; rw [List.length_map]; exact hall
  refine (Any.strings_Split Tryz.lays146 Tryz_info9 ⟨x0.toArray⟩ ⟨x1.toArray⟩ m w (by rw [hs0]; exact h0) (hmx w hS) (by rw [hs1]; exact h1)).mono ?_
  rintro e w' ⟨rfl, rfl⟩
  have e1 : (Go.Lib.splitB ⟨x1.toArray⟩ 0 (Go.Lib.countB ⟨x0.toArray⟩ ⟨x1.toArray⟩) ⟨x0.toArray⟩).map Value.string = (splitL x0 x1).map fun x => Value.string ⟨x.toArray⟩ := by
    unfold splitL; rw [List.map_map]; apply List.map_congr_left; intro b _; simp
  rw [← hl, e1]
  exact post_alloc hS (by simp [TR.str]) (reps_str _) (by rw [hl]; rw [hs0] at hle; unfold maxLen; omega)

set_option maxHeartbeats 4000000 in
theorem strconv_Atoi_c (S : Hp) (w : World) (hS : S.sub w) (x0 : List UInt8) (res : Int) (hm : strconv_Atoi_m x0 = some res) : Calls Tryz.prog 64 #[.string ⟨(x0 : List UInt8).toArray⟩] w (PostV w (.tuple #[.int .i64 res, Value.nilIface])) := by
  unfold strconv_Atoi_m at hm
  obtain ⟨_, hc, hm⟩ := bind_some hm
  replace hc := chk_some hc
  refine (Any.strconv_Atoi Tryz.lays172 ⟨x0.toArray⟩ res (by simpa [ByteArray.size] using hc) (by simpa using hm) w).mono ?_
  rintro e w' ⟨rfl, t, rfl⟩
  exact ⟨rfl, below_bytes _ _ _⟩

set_option maxHeartbeats 4000000 in
theorem house_House_read_c (B : World) (S X : Hp) (f : Nat → Hp) (w : World) (v0 : Value) (u0a : Value) (x0 : ((List ((List UInt8) × (Int × Int))) × ((List ((List UInt8) × ((List UInt8) × (Int × (Int × (Int × Int)))))) × ((List UInt8) × Int)))) (hO : HeapOk B.heap.size S f [obox 78 TrH v0 (x0.1, (x0.2.1, u0a)), obox 95 (TR.pair TR.str TR.int) u0a x0.2.2, keep X].length w) (hB : Below B.heap.size B w) (hI : Its [obox 78 TrH v0 (x0.1, (x0.2.1, u0a)), obox 95 (TR.pair TR.str TR.int) u0a x0.2.2, keep X] S f) (hT : Tab Tryz.prog (Tryz.lays146_ren.g 1) S)  (res : ((List ((List UInt8) × (Int × Int))) × ((List ((List UInt8) × ((List UInt8) × (Int × (Int × (Int × Int)))))) × ((List UInt8) × Int)))) (hm : house_House_read_m x0 = some res) : Calls Tryz.prog 47 #[v0] w (PostM B S (fun (o : Unit) => .tuple #[]) (fun (o : Unit) => [obox 78 TrH v0 (res.1, (res.2.1, u0a)), obox 95 (TR.pair TR.str TR.int) u0a res.2.2, keep X])) := by
 refine calls_enterM 88 Tryz.func47 Tryz.ntmps47 rfl B S f [(0, v0)] [obox 78 TrH v0 (x0.1, (x0.2.1, u0a)), obox 95 (TR.pair TR.str TR.int) u0a x0.2.2, keep X] [] rfl ⟨rfl, trivial⟩ hB hO hI trivial ?_
 unfold house_House_read_m at hm
 refine GL.seq ?_
 refine GL.region ?_
 refine RL.asg rfl rfl rfl ?_
 refine RL.finG ?_
 refine GL.seq ?_
 refine GL.seq ?_
 refine GL.region ?_
 refine RL.mv rfl rfl rfl ?_
 refine RL.nilk 0 rfl rfl rfl rfl PtOf.obox ?_
 refine RL.fadr (off := 0) (fo := 2) 0 Tryz_fld78_2 rfl rfl rfl PtOf.obox (Or.inr ⟨rfl, rfl⟩) ?_
 refine RL.ldPx (off := (0 + 2)) (e' := u0a) 0 Ex.raw Tryz_ln76 rfl rfl (Or.inl rfl) rfl PtOf.obox (Part.snd (Part.snd Part.self)) ?_
 obtain ⟨y5, e6, hm⟩ := bind_some hm
 refine RL.callU (vs := [u0a]) (LR := fun (o : Value) => [own 9 TR.str o y5]) (fun o => ⟨Loc.own TR.flatT_str, trivial⟩) Tryz_fit62 rfl rfl rfl rfl rfl (fun U w hU hW hL => log_Log_All_c U w hU _ _ (hL 1 _ _ rfl Seen.obox) _ e6) ?_
 intro v7
 refine RL.lenS 3 Tryz.underlying98 rfl rfl rfl rfl SlOf.own ?_
 refine RL.mv rfl rfl rfl ?_
 refine RL.finG ?_
 refine GL.weak (fun a w st => st.nilOwn 30 TrA) ?_
 refine GL.lenOwn 3 rfl (fun n141 => ?_)
 obtain ⟨y142, K143, h144, h145, h146, h147, h148⟩ := bindR_K hm
 refine GL.join (ι := (List ((List UInt8) × (Int × Int))) × Value) (fun (p : (List ((List UInt8) × (Int × Int))) × Value) => [(0, v0), (2, p.2)]) (fun (p : (List ((List UInt8) × (Int × Int))) × Value) => [obox 78 TrH v0 (x0.1, (x0.2.1, u0a)), obox 95 (TR.pair TR.str TR.int) u0a x0.2.2, keep X, own 30 TrA p.2 p.1]) (fun (p : (List ((List UInt8) × (Int × Int))) × Value) => K143 (.nx p.1)) ?_ ?_
 ·refine GL.block ?_
  refine GL.loop (ι := Nat × Nat × (List ((List UInt8) × (Int × Int))) × Value) (fun (p : Nat × Nat × (List ((List UInt8) × (Int × Int))) × Value) => [(0, v0), (2, p.2.2.2), (14, v7), (15, .int .i64 ((y5).length : Int)), (16, .int .i64 (p.1 : Int))]) (fun (p : Nat × Nat × (List ((List UInt8) × (Int × Int))) × Value) => [obox 78 TrH v0 (x0.1, (x0.2.1, u0a)), obox 95 (TR.pair TR.str TR.int) u0a x0.2.2, own 30 TrA p.2.2.2 p.2.2.1, own 9 TR.str v7 y5, keep X]) (fun (p : Nat × Nat × (List ((List UInt8) × (Int × Int))) × Value) => p.1 + p.2.1 = (y5).length ∧ rangeN (house_House_read_b1 y5) p.2.1 p.1 p.2.2.1 = some y142) (fun (p : Nat × Nat × (List ((List UInt8) × (Int × Int))) × Value) => p.2.1) (0, (y5).length, [], Value.slice none 0 0) ⟨by simp, h144⟩ (fun a w st => St.cut [0, 1, 4, 3, 2] ⟨rfl, rfl, rfl, rfl, rfl, trivial⟩ (by decide) rfl st) ?_
  rintro ⟨i149, r150, l8, v9⟩ ⟨h155, h154⟩
  try dsimp only at h155 h154
  refine GL.weak (env' := [(0, v0), (2, v9), (14, v7), (15, .int .i64 ((y5).length : Int)), (16, .int .i64 (i149 : Int))]) (L' := [obox 78 TrH v0 (x0.1, (x0.2.1, u0a)), obox 95 (TR.pair TR.str TR.int) u0a x0.2.2, own 30 TrA v9 l8, own 9 TR.str v7 y5, keep X]) (fun _ _ st => st) ?_
  refine GL.seq ?_
  refine GL.region ?_
  refine RL.binI (v := .bool (decide ((i149 : Int) < ((y5).length : Int)))) rfl rfl rfl rfl rfl ?_
  refine RL.finG ?_
  refine GL.seq ?_
  refine GL.cond rfl (fun b157 => ?_) (fun b157 => ?_)
  ·have h158 : i149 < (y5).length := by have := of_decide_eq_true b157; omega
   obtain ⟨r159, hr⟩ : ∃ m, r150 = m + 1 := ⟨r150 - 1, by omega⟩
   subst hr
   obtain ⟨z151, h152, h153⟩ := rangeN_some h154
   unfold house_House_read_b1 at h152
   try dsimp only at h152
   refine GL.skip ?_
   refine GL.seq ?_
   refine GL.block ?_
   refine GL.seq ?_
   refine GL.region ?_
   obtain ⟨y162, e163, h152⟩ := bind_some h152
   refine RL.idxS (sz := 1) 3 Tryz.underlying98 Tryz_ln9 rfl rfl rfl rfl rfl SlOf.own (idx_some e163).1 (idx_some e163).2.1 ?_
   refine RL.ldSx (i := i149) (e' := y162) 3 Ex.str Tryz_ln9 rfl rfl rfl rfl SlOf.own (idx_some e163).2.2 Part.self ?_
   refine RL.asg rfl rfl rfl ?_
   refine RL.finG ?_
   refine GL.seq ?_
   refine GL.region ?_
   refine RL.mv rfl rfl rfl ?_
   obtain ⟨y167, e168, h152⟩ := bind_some h152
   refine RL.call (vs := [.string ⟨(y162 : List UInt8).toArray⟩, .string ⟨(([32] : List UInt8) : List UInt8).toArray⟩]) Tryz_fit63 rfl rfl rfl rfl rfl (fun S f w hS hW hi => strings_Split_c S w hS (hT.mono hW) y162 ([32] : List UInt8) _ e168) ?_
   intro v169
   refine RL.asg rfl rfl rfl ?_
   refine RL.finG ?_
   refine GL.seq ?_
   refine GL.seq ?_
   refine GL.region ?_
   refine RL.mv rfl rfl rfl ?_
   obtain ⟨y172, e173, h152⟩ := bind_some h152
   refine RL.idxS (sz := 1) 5 Tryz.underlying98 Tryz_ln9 rfl rfl rfl rfl rfl SlOf.own (idx_some e173).1 (idx_some e173).2.1 ?_
   refine RL.ldSx (i := ((0 : Int)).toNat) (e' := y172) 5 Ex.str Tryz_ln9 rfl rfl rfl rfl SlOf.own (idx_some e173).2.2 Part.self ?_
   refine RL.binS (v := .bool (y172 == ([111] : List UInt8))) rfl rfl rfl rfl rfl ?_
   refine RL.finG ?_
   refine GL.cond rfl (fun b174 => ?_) (fun b174 => ?_)
   ·replace h152 := ite_t b174 h152
    refine GL.seq ?_
    refine GL.region ?_
    refine RL.mv rfl rfl rfl ?_
    obtain ⟨y179, e180, h152⟩ := bind_some h152
    refine RL.idxS (sz := 1) 5 Tryz.underlying98 Tryz_ln9 rfl rfl rfl rfl rfl SlOf.own (idx_some e180).1 (idx_some e180).2.1 ?_
    refine RL.ldSx (i := ((2 : Int)).toNat) (e' := y179) 5 Ex.str Tryz_ln9 rfl rfl rfl rfl SlOf.own (idx_some e180).2.2 Part.self ?_
    obtain ⟨y181, e182, h152⟩ := bind_some h152
    refine RL.callV (v := .tuple #[.int .i64 y181, Value.nilIface]) (vs := [.string ⟨(y179 : List UInt8).toArray⟩]) Tryz_fit64 rfl (Or.inl rfl) rfl rfl rfl rfl (fun U w hU hW hL => strconv_Atoi_c U w hU y179 _ e182) ?_
    refine RL.mv rfl rfl rfl ?_
    refine RL.ext rfl rfl rfl rfl ?_
    refine RL.ext rfl rfl rfl rfl ?_
    refine RL.asg rfl rfl rfl ?_
    refine RL.asg rfl rfl rfl ?_
    refine RL.finG ?_
    refine GL.seq ?_
    refine GL.region ?_
    refine RL.mv rfl rfl rfl ?_
    refine RL.mv rfl rfl rfl ?_
    obtain ⟨y188, e189, h152⟩ := bind_some h152
    refine RL.idxS (sz := 1) 5 Tryz.underlying98 Tryz_ln9 rfl rfl rfl rfl rfl SlOf.own (idx_some e189).1 (idx_some e189).2.1 ?_
    refine RL.ldSx (i := ((1 : Int)).toNat) (e' := y188) 5 Ex.str Tryz_ln9 rfl rfl rfl rfl SlOf.own (idx_some e189).2.2 Part.self ?_
    refine RL.mv rfl rfl rfl ?_
    obtain ⟨y190, e191, h152⟩ := bind_some h152
    refine RL.callU (vs := [v9, .string ⟨(y188 : List UInt8).toArray⟩, .int .i64 y181]) (LR := fun (o : Value) => [own 30 TrA o y190.1]) (fun o => ⟨Loc.own (TR.flatT_pair TR.flatT_str (TR.flatT_pair TR.flatT_ik TR.flatT_ik)), trivial⟩) Tryz_fit12 rfl rfl rfl rfl rfl (fun U w hU hW hL => ledger_Open_c U w hU _ _ (hL 2 _ _ rfl Seen.own) y188 y181 _ e191) ?_
    intro v192
    refine RL.mv rfl rfl rfl ?_
    refine RL.ext rfl rfl rfl rfl ?_
    refine RL.ext rfl rfl rfl rfl ?_
    refine RL.asg rfl rfl rfl ?_
    refine RL.finG ?_
    refine GL.exit ?_
    refine Gx.here ?_
    refine GL.region ?_
    refine RL.binI (v := .int .i64 ((i149 + 1 : Nat) : Int)) rfl rfl rfl rfl (binI_succ i149 (by omega)) ?_
    refine RL.mv rfl rfl rfl ?_
    refine RL.fin ?_
    cases h152
    exact fun a w st => lop_intro (i149 + 1, r159, y190.1, v192) ⟨by show i149 + 1 + r159 = (y5).length; omega, h153⟩ (by simp) (St.cut [0, 1, 6, 3, 4] ⟨rfl, rfl, rfl, rfl, rfl, trivial⟩ (by decide) rfl st)
   replace h152 := ite_f b174 h152
   refine GL.skip ?_
   refine GL.seq ?_
   refine GL.region ?_
   refine RL.alloc (t := (TR.arr 4 TR.int)) (z := (List.replicate 4 (0 : Int))) Tryz_lo110 (fun S => ⟨rfl, ⟨_, _, rfl, rfl, ⟨_, _, rfl, rfl, ⟨_, _, rfl, rfl, ⟨_, _, rfl, rfl, rfl⟩⟩⟩⟩⟩) rfl rfl rfl ?_
   intro v194
   refine RL.reL (L' := [obox 78 TrH v0 (x0.1, (x0.2.1, u0a)), obox 95 (TR.pair TR.str TR.int) u0a x0.2.2, own 30 TrA v9 l8, own 9 TR.str v7 y5, keep X, own 9 TR.str v169 y167, obox 110 (TR.arr 4 TR.int) v194 (List.replicate 4 (0 : Int))]) rfl ?_
   refine RL.finG ?_
   refine GL.seq ?_
   refine GL.seq ?_
   refine GL.region ?_
   refine RL.mv rfl rfl rfl ?_
   refine RL.finG ?_
   obtain ⟨y224, K225, h226, h227, h228, h229, h230⟩ := bindF_K h152
   refine GL.join (ι := (List Int) × Int) (fun (p : (List Int) × Int) => [(0, v0), (2, v9), (5, v169), (8, v194), (14, v7), (15, .int .i64 ((y5).length : Int)), (16, .int .i64 (i149 : Int))]) (fun (p : (List Int) × Int) => [obox 78 TrH v0 (x0.1, (x0.2.1, u0a)), obox 95 (TR.pair TR.str TR.int) u0a x0.2.2, keep X, own 30 TrA v9 l8, own 9 TR.str v169 y167, obox 110 (TR.arr 4 TR.int) v194 p.1, own 9 TR.str v7 y5]) (fun (p : (List Int) × Int) => K225 (.nx (p.1, p.2))) ?_ ?_
   ·refine GL.block ?_
    refine GL.loop (ι := Nat × (List Int) × Int) (fun (p : Nat × (List Int) × Int) => [(0, v0), (2, v9), (5, v169), (8, v194), (14, v7), (15, .int .i64 ((y5).length : Int)), (16, .int .i64 (i149 : Int)), (42, .int .i64 p.2.2)]) (fun (p : Nat × (List Int) × Int) => [obox 78 TrH v0 (x0.1, (x0.2.1, u0a)), obox 95 (TR.pair TR.str TR.int) u0a x0.2.2, own 30 TrA v9 l8, own 9 TR.str v169 y167, obox 110 (TR.arr 4 TR.int) v194 p.2.1, own 9 TR.str v7 y5, keep X]) (fun (p : Nat × (List Int) × Int) => loopM (house_House_read_b2 y167) p.1 (p.2.1, p.2.2) = some y224) (fun (p : Nat × (List Int) × Int) => p.1) (1048576, (List.replicate 4 (0 : Int)), (0 : Int)) h226 (fun a w st => St.cut [0, 1, 2, 5, 6, 3, 4] ⟨rfl, rfl, rfl, rfl, rfl, rfl, rfl, rfl, trivial⟩ (by decide) rfl st) ?_
    rintro ⟨r232, l209, x210⟩ h236
    try dsimp only at h236
    refine GL.weak (env' := [(0, v0), (2, v9), (5, v169), (8, v194), (14, v7), (15, .int .i64 ((y5).length : Int)), (16, .int .i64 (i149 : Int)), (42, .int .i64 x210)]) (L' := [obox 78 TrH v0 (x0.1, (x0.2.1, u0a)), obox 95 (TR.pair TR.str TR.int) u0a x0.2.2, own 30 TrA v9 l8, own 9 TR.str v169 y167, obox 110 (TR.arr 4 TR.int) v194 l209, own 9 TR.str v7 y5, keep X]) (fun _ _ st => st) ?_
    obtain ⟨r239, z233, hr, h234, h235⟩ := loopM_some h236
    subst hr
    unfold house_House_read_b2 at h234
    try dsimp only at h234
    refine GL.seq ?_
    refine GL.region ?_
    refine RL.binI (v := .bool (decide (x210 < (4 : Int)))) rfl rfl rfl rfl rfl ?_
    refine RL.finG ?_
    refine GL.seq ?_
    refine GL.cond rfl (fun b240 => ?_) (fun b240 => ?_)
    ·replace h234 := ite_t b240 h234
     refine GL.skip ?_
     refine GL.seq ?_
     refine GL.block ?_
     refine GL.seq ?_
     refine GL.region ?_
     refine RL.mv rfl rfl rfl ?_
     refine RL.asg rfl rfl rfl ?_
     refine RL.finG ?_
     refine GL.region ?_
     refine RL.mv rfl rfl rfl ?_
     refine RL.mv rfl rfl rfl ?_
     refine RL.mv rfl rfl rfl ?_
     refine RL.binI (v := .int .i64 (wadd (3 : Int) x210)) rfl rfl rfl rfl rfl ?_
     obtain ⟨y247, e248, h234⟩ := bind_some h234
     refine RL.idxS (sz := 1) 3 Tryz.underlying98 Tryz_ln9 rfl rfl rfl rfl rfl SlOf.own (idx_some e248).1 (idx_some e248).2.1 ?_
     refine RL.ldSx (i := (wadd (3 : Int) x210).toNat) (e' := y247) 3 Ex.str Tryz_ln9 rfl rfl rfl rfl SlOf.own (idx_some e248).2.2 Part.self ?_
     obtain ⟨y249, e250, h234⟩ := bind_some h234
     refine RL.callV (v := .tuple #[.int .i64 y249, Value.nilIface]) (vs := [.string ⟨(y247 : List UInt8).toArray⟩]) Tryz_fit64 rfl (Or.inl rfl) rfl rfl rfl rfl (fun U w hU hW hL => strconv_Atoi_c U w hU y247 _ e250) ?_
     refine RL.mv rfl rfl rfl ?_
     refine RL.ext rfl rfl rfl rfl ?_
     refine RL.ext rfl rfl rfl rfl ?_
     obtain ⟨y251, e252, h234⟩ := bind_some h234
     refine RL.idxA0 (sz := 1) (t' := TR.int) 4 Tryz.underlying110 Tryz_ln3 rfl rfl rfl PtOf.obox rfl rfl Part.self (idx_some e252).1 (idx_some e252).2.1 ?_
     refine RL.stP (off := ((x210).toNat * 1)) (e' := y249) (d1 := (List.set l209 ((x210).toNat) y249)) (r := TR.int) 4 Tryz_ln3 rfl rfl (Or.inl rfl) rfl VR.int rfl (Upd.arr (idx_some e252).2.2 Upd.self) ?_
     refine RL.finG ?_
     refine GL.nilB ?_
     refine GL.region ?_
     refine RL.binI (v := .int .i64 (wadd x210 (1 : Int))) rfl rfl rfl rfl rfl ?_
     refine RL.mv rfl rfl rfl ?_
     refine RL.finG ?_
     cases h234
     exact fun a w st => lop_intro (r239, (List.set l209 ((x210).toNat) y249), wadd x210 (1 : Int)) (by exact h235) (by simp) (St.cut [0, 1, 2, 3, 4, 5, 6] ⟨rfl, rfl, rfl, rfl, rfl, rfl, rfl, rfl, trivial⟩ (by decide) rfl st)
    replace h234 := ite_f b240 h234
    cases h234
    replace h235 : some (Fl.nx _) = some y224 := h235
    cases h235
    exact GL.exit (fun a w st => mid_intro (l209, x210) h227 (St.cut [0, 1, 6, 2, 3, 4, 5] ⟨rfl, rfl, rfl, rfl, rfl, rfl, rfl, trivial⟩ (by decide) rfl st))
   rintro ⟨l209, x210⟩ h253
   have h254 := h228 _ h253
   try dsimp only at h254
   refine GL.weak (env' := [(0, v0), (2, v9), (5, v169), (8, v194), (14, v7), (15, .int .i64 ((y5).length : Int)), (16, .int .i64 (i149 : Int))]) (L' := [obox 78 TrH v0 (x0.1, (x0.2.1, u0a)), obox 95 (TR.pair TR.str TR.int) u0a x0.2.2, keep X, own 30 TrA v9 l8, own 9 TR.str v169 y167, obox 110 (TR.arr 4 TR.int) v194 l209, own 9 TR.str v7 y5]) (fun _ _ st => st) ?_
   refine GL.regionA rfl rfl ?_
   refine RA.mv 0 rfl (by kernel_rfl) rfl rfl rfl ?_
   refine RA.mv 1 rfl (by kernel_rfl) rfl rfl rfl ?_
   obtain ⟨y273, e274, h254⟩ := bind_some h254
   refine RA.idxS (sz := 1) 4 Tryz.underlying98 Tryz_ln9 2 rfl (by kernel_rfl) rfl rfl rfl rfl rfl SlOf.own (idx_some e274).1 (idx_some e274).2.1 ?_
   refine RA.mv 4 rfl (by kernel_rfl) rfl rfl rfl ?_
   obtain ⟨y275, e276, h254⟩ := bind_some h254
   refine RA.idxS (sz := 1) 4 Tryz.underlying98 Tryz_ln9 5 rfl (by kernel_rfl) rfl rfl rfl rfl rfl SlOf.own (idx_some e276).1 (idx_some e276).2.1 ?_
   refine RA.mv 16 rfl (by kernel_rfl) rfl rfl rfl ?_
   obtain ⟨y277, e278, h254⟩ := bind_some h254
   refine RA.idxS (sz := 1) 4 Tryz.underlying98 Tryz_ln9 17 rfl (by kernel_rfl) rfl rfl rfl rfl rfl SlOf.own (idx_some e278).1 (idx_some e278).2.1 ?_
   refine RA.still (le := #[true, true, true, true, true, true, true, true, true, true, true, true, true, true, true, true, true, true, true, false, false, false, false, false]) (f := 5) [3, 6, 7, 8, 9, 10, 11, 12, 13, 14, 15, 18] 19 rfl (by kernel_rfl) ?_
   simp only [pickOps, List.getElem?_toArray, List.getElem?_cons_succ, List.getElem?_cons_zero]
   refine RL.ldSx (i := ((1 : Int)).toNat) (e' := y273) 4 Ex.str Tryz_ln9 rfl rfl rfl rfl SlOf.own (idx_some e274).2.2 Part.self ?_
   refine RL.ldSx (i := ((2 : Int)).toNat) (e' := y275) 4 Ex.str Tryz_ln9 rfl rfl rfl rfl SlOf.own (idx_some e276).2.2 Part.self ?_
   obtain ⟨y279, e280, h254⟩ := bind_some h254
   refine RL.idxA0 (sz := 1) (t' := TR.int) 5 Tryz.underlying110 Tryz_ln3 rfl rfl rfl PtOf.obox rfl rfl Part.self (idx_some e280).1 (idx_some e280).2.1 ?_
   refine RL.ldPx (off := (((0 : Int)).toNat * 1)) (e' := y279) 5 Ex.ik Tryz_ln3 rfl rfl (Or.inl rfl) rfl PtOf.obox (Part.arr (idx_some e280).2.2 Part.self) ?_
   obtain ⟨y281, e282, h254⟩ := bind_some h254
   refine RL.idxA0 (sz := 1) (t' := TR.int) 5 Tryz.underlying110 Tryz_ln3 rfl rfl rfl PtOf.obox rfl rfl Part.self (idx_some e282).1 (idx_some e282).2.1 ?_
   refine RL.ldPx (off := (((1 : Int)).toNat * 1)) (e' := y281) 5 Ex.ik Tryz_ln3 rfl rfl (Or.inl rfl) rfl PtOf.obox (Part.arr (idx_some e282).2.2 Part.self) ?_
   obtain ⟨y283, e284, h254⟩ := bind_some h254
   refine RL.idxA0 (sz := 1) (t' := TR.int) 5 Tryz.underlying110 Tryz_ln3 rfl rfl rfl PtOf.obox rfl rfl Part.self (idx_some e284).1 (idx_some e284).2.1 ?_
   refine RL.ldPx (off := (((2 : Int)).toNat * 1)) (e' := y283) 5 Ex.ik Tryz_ln3 rfl rfl (Or.inl rfl) rfl PtOf.obox (Part.arr (idx_some e284).2.2 Part.self) ?_
   obtain ⟨y285, e286, h254⟩ := bind_some h254
   refine RL.idxA0 (sz := 1) (t' := TR.int) 5 Tryz.underlying110 Tryz_ln3 rfl rfl rfl PtOf.obox rfl rfl Part.self (idx_some e286).1 (idx_some e286).2.1 ?_
   refine RL.ldPx (off := (((3 : Int)).toNat * 1)) (e' := y285) 5 Ex.ik Tryz_ln3 rfl rfl (Or.inl rfl) rfl PtOf.obox (Part.arr (idx_some e286).2.2 Part.self) ?_
   refine RL.bld (t := TrD) (d0 := ((y273, y275, y279, y281, y283, y285) : ((List UInt8) × ((List UInt8) × (Int × (Int × (Int × Int))))))) (pv := [(0, .string ⟨(y273 : List UInt8).toArray⟩), (1, .string ⟨(y275 : List UInt8).toArray⟩), (2, .int .i64 y279), (3, .int .i64 y281), (4, .int .i64 y283), (5, .int .i64 y285)]) rfl Tryz_bld24 rfl rfl rfl ⟨⟨_, _, TR.str, y273, rfl, rfl, VR.str⟩, ⟨⟨_, _, TR.str, y275, rfl, rfl, VR.str⟩, ⟨⟨_, _, TR.int, y279, rfl, rfl, VR.int⟩, ⟨⟨_, _, TR.int, y281, rfl, rfl, VR.int⟩, ⟨⟨_, _, TR.int, y283, rfl, rfl, VR.int⟩, ⟨⟨_, _, TR.int, y285, rfl, rfl, VR.int⟩, trivial⟩⟩⟩⟩⟩⟩ (fun S f hi => by
     obtain ⟨c0, e0, r0⟩ := cells_vrep (t := TR.str) (u := .string ⟨(y273 : List UInt8).toArray⟩) (e := y273) (VR.str S f hi)
     obtain ⟨c1, e1, r1⟩ := cells_vrep (t := TR.str) (u := .string ⟨(y275 : List UInt8).toArray⟩) (e := y275) (VR.str S f hi)
     obtain ⟨c2, e2, r2⟩ := cells_vrep (t := TR.int) (u := .int .i64 y279) (e := y279) (VR.int S f hi)
     obtain ⟨c3, e3, r3⟩ := cells_vrep (t := TR.int) (u := .int .i64 y281) (e := y281) (VR.int S f hi)
     obtain ⟨c4, e4, r4⟩ := cells_vrep (t := TR.int) (u := .int .i64 y283) (e := y283) (VR.int S f hi)
     obtain ⟨c5, e5, r5⟩ := cells_vrep (t := TR.int) (u := .int .i64 y285) (e := y285) (VR.int S f hi)
     show TR.rep TrD S (List.flatten [(.string ⟨(y273 : List UInt8).toArray⟩ : Value).cells.toList, (.string ⟨(y275 : List UInt8).toArray⟩ : Value).cells.toList, (.int .i64 y279 : Value).cells.toList, (.int .i64 y281 : Value).cells.toList, (.int .i64 y283 : Value).cells.toList, (.int .i64 y285 : Value).cells.toList]) _
     simp only [e0, e1, e2, e3, e4, e5,  List.flatten_cons, List.flatten_nil, List.append_nil]
     exact ⟨_, _, rfl, r0, ⟨_, _, rfl, r1, ⟨_, _, rfl, r2, ⟨_, _, rfl, r3, ⟨_, _, rfl, r4, r5⟩⟩⟩⟩⟩) ?_
   intro v287
   refine RL.ldSx (i := ((7 : Int)).toNat) (e' := y277) 4 Ex.str Tryz_ln9 rfl rfl rfl rfl SlOf.own (idx_some e278).2.2 Part.self ?_
   refine RL.finH ?_
   refine RL.fin ?_
   refine RA.next ?_
   refine RA.seq 19 rfl (by kernel_rfl) ?_
   obtain ⟨y288, e289, h254⟩ := bind_some h254
   refine RL.callU (vs := [v9, v287, .string ⟨(y277 : List UInt8).toArray⟩]) (LR := fun (o : Value) => [own 30 TrA o y288.1]) (fun o => ⟨Loc.own (TR.flatT_pair TR.flatT_str (TR.flatT_pair TR.flatT_ik TR.flatT_ik)), trivial⟩) Tryz_fit10 rfl rfl rfl rfl rfl (fun U w hU hW hL => ledger_Take_c U w hU _ _ (hL 3 _ _ rfl Seen.own) _ _ (hL 7 _ _ rfl Seen.imm) y277 _ e289) ?_
   intro v290
   refine RL.fin ?_
   refine RA.next ?_
   refine RA.quiet 20 rfl rfl (by kernel_rfl) ?_
   simp only [List.drop_succ_cons, List.drop_zero]
   refine RL.mv rfl rfl rfl ?_
   refine RL.ext rfl rfl rfl rfl ?_
   refine RL.ext rfl rfl rfl rfl ?_
   refine RL.asg rfl rfl rfl ?_
   refine RL.finQ ?_
   refine RA.outQ ?_
   refine GL.weak (env' := [(0, v0), (2, v290), (14, v7), (15, .int .i64 ((y5).length : Int)), (16, .int .i64 (i149 : Int))]) (L' := [obox 78 TrH v0 (x0.1, (x0.2.1, u0a)), obox 95 (TR.pair TR.str TR.int) u0a x0.2.2, keep X, own 30 TrA v290 y288.1, own 9 TR.str v7 y5]) (fun a w st => St.cut [0, 1, 2, 8, 6] ⟨rfl, rfl, rfl, rfl, rfl, trivial⟩ (by decide) rfl st) ?_
   refine GL.nilB ?_
   refine GL.region ?_
   refine RL.binI (v := .int .i64 ((i149 + 1 : Nat) : Int)) rfl rfl rfl rfl (binI_succ i149 (by omega)) ?_
   refine RL.mv rfl rfl rfl ?_
   refine RL.fin ?_
   cases h254
   exact fun a w st => lop_intro (i149 + 1, r159, y288.1, v290) ⟨by show i149 + 1 + r159 = (y5).length; omega, h153⟩ (by simp) (St.cut [0, 1, 3, 4, 2] ⟨rfl, rfl, rfl, rfl, rfl, trivial⟩ (by decide) rfl st)
  have h158 : ¬ i149 < (y5).length := by have := of_decide_eq_false b157; omega
  obtain rfl : r150 = 0 := by omega
  replace h154 : some (Fl.nx _) = some y142 := h154
  cases h154
  exact GL.exit (fun a w st => mid_intro (l8, v9) h145 (St.cut [0, 1, 4, 2] ⟨rfl, rfl, trivial⟩ (by decide) rfl st))
 rintro ⟨l8, v9⟩ h291
 have h292 := h146 _ h291
 try dsimp only at h292
 refine GL.weak (env' := [(0, v0), (2, v9)]) (L' := [obox 78 TrH v0 (x0.1, (x0.2.1, u0a)), obox 95 (TR.pair TR.str TR.int) u0a x0.2.2, keep X, own 30 TrA v9 l8]) (fun _ _ st => st) ?_
 refine GL.region ?_
 refine RL.mv rfl rfl rfl ?_
 refine RL.mv rfl rfl rfl ?_
 refine RL.mv rfl rfl rfl ?_
 refine RL.nilk 0 rfl rfl rfl rfl PtOf.obox ?_
 refine RL.fadr (off := 0) (fo := 0) 0 Tryz_fld78_0 rfl rfl rfl PtOf.obox (Or.inr ⟨rfl, rfl⟩) ?_
 refine RL.weak (fun a w st => st.freeze 3 rfl) ?_
 refine RL.stP (off := (0 + 0)) (e' := l8) (d1 := ((l8, x0.2).1, ((l8, x0.2).2.1, u0a))) (r := (TR.sl TrA)) 0 Tryz_ln22 rfl rfl (Or.inl rfl) rfl (VR.item 3 rfl) rfl (Upd.fst Upd.self) ?_
 refine RL.reL (L' := [obox 78 TrH v0 ((l8, x0.2).1, ((l8, x0.2).2.1, u0a)), obox 95 (TR.pair TR.str TR.int) u0a x0.2.2, keep X, imm (TR.sl TrA) v9 l8]) rfl ?_
 refine RL.nilk 0 rfl rfl rfl rfl PtOf.obox ?_
 refine RL.fadr (off := 0) (fo := 1) 0 Tryz_fld78_1 rfl rfl rfl PtOf.obox (Or.inr ⟨rfl, rfl⟩) ?_
 refine RL.stP (off := (0 + 1)) (e' := ([] : (List ((List UInt8) × ((List UInt8) × (Int × (Int × (Int × Int)))))))) (d1 := (((l8, x0.2).1, (([] : (List ((List UInt8) × ((List UInt8) × (Int × (Int × (Int × Int))))))), (l8, x0.2).2.2)).1, (((l8, x0.2).1, (([] : (List ((List UInt8) × ((List UInt8) × (Int × (Int × (Int × Int))))))), (l8, x0.2).2.2)).2.1, u0a))) (r := (TR.sl TrD)) 0 Tryz_ln25 rfl rfl (Or.inl rfl) rfl VR.nil rfl (Upd.snd (Upd.fst Upd.self)) ?_
 refine RL.reL (L' := [obox 78 TrH v0 (((l8, x0.2).1, (([] : (List ((List UInt8) × ((List UInt8) × (Int × (Int × (Int × Int))))))), (l8, x0.2).2.2)).1, (((l8, x0.2).1, (([] : (List ((List UInt8) × ((List UInt8) × (Int × (Int × (Int × Int))))))), (l8, x0.2).2.2)).2.1, u0a)), obox 95 (TR.pair TR.str TR.int) u0a x0.2.2, keep X, imm (TR.sl TrA) v9 l8]) rfl ?_
 refine RL.finG ?_
 have h292 := Option.some.inj h292
 subst h292
 exact GL.nil (Gx.retN (v := .tuple #[]) (res0 rfl) (fun a w st => (st.pick [0, 1, 2] (by decide) rfl).toPostM (V := fun (o : Unit) => .tuple #[]) (LR := fun (o : Unit) => [obox 78 TrH v0 ((l8, (([] : (List ((List UInt8) × ((List UInt8) × (Int × (Int × (Int × Int))))))), x0.2.2)).1, ((l8, (([] : (List ((List UInt8) × ((List UInt8) × (Int × (Int × (Int × Int))))))), x0.2.2)).2.1, u0a)), obox 95 (TR.pair TR.str TR.int) u0a ((l8, (([] : (List ((List UInt8) × ((List UInt8) × (Int × (Int × (Int × Int))))))), x0.2.2)).2.2), keep X]) ()))

set_option maxHeartbeats 4000000 in
theorem slices_Delete_api_Deal_api_Deal_c (B : World) (S X : Hp) (f : Nat → Hp) (w : World) (v0 : Value) (x0 : List ((List UInt8) × ((List UInt8) × (Int × (Int × (Int × Int)))))) (hO : HeapOk B.heap.size S f [own 24 TrD v0 x0, keep X].length w) (hB : Below B.heap.size B w) (hI : Its [own 24 TrD v0 x0, keep X] S f) (x1 x2 : Int) (res : List ((List UInt8) × ((List UInt8) × (Int × (Int × (Int × Int)))))) (hm : slices_Delete_api_Deal_api_Deal_m x0 x1 x2 = some res) : Calls Tryz.prog 66 #[v0, .int .i64 x1, .int .i64 x2] w (PostM B S (fun (o : Value) => o) (fun (o : Value) => [own 24 TrD o res, keep X])) := by
  refine calls_enterM 33 Tryz.func66 Tryz.ntmps66 rfl B S f [(0, v0), (1, .int .i64 x1), (2, .int .i64 x2)] [own 24 TrD v0 x0, keep X] [] rfl ⟨rfl, rfl, rfl, trivial⟩ hB hO hI trivial ?_
  unfold slices_Delete_api_Deal_api_Deal_m at hm
  obtain ⟨_, hc, hm⟩ := bind_some hm
  replace hc := chk_some hc
  have hm := Option.some.inj hm
  subst hm
  obtain ⟨i, rfl⟩ : ∃ i : Nat, x1 = (i : Int) := ⟨x1.toNat, by omega⟩
  obtain ⟨j, rfl⟩ : ∃ j : Nat, x2 = (j : Int) := ⟨x2.toNat, by omega⟩
  simp only [Int.toNat_natCast]
  refine GL.capO 0 rfl (fun hcap hmax hrl hcr => ?_)
  repeat refine GL.seq ?_
  refine GL.region ?_
  refine RL.asg rfl rfl rfl ?_
  refine RL.finG ?_
  repeat refine GL.seq ?_
  refine GL.region ?_
  refine RL.mv rfl rfl rfl ?_
  refine RL.mv rfl rfl rfl ?_
  refine RL.mv rfl rfl rfl ?_
  refine RL.mv rfl rfl rfl ?_
  refine RL.lenS 0 Tryz.underlying25 rfl rfl rfl rfl SlOf.own ?_
  refine RL.cut3 (i := i) (j := j) (m := x0.length) 0 Tryz.underlying25 Tryz_ln24 rfl rfl rfl rfl rfl rfl rfl (by omega) (by omega) (by omega) ?_
  intro u
  refine RL.finG ?_
  repeat refine GL.seq ?_
  refine GL.region ?_
  refine RL.mv rfl rfl rfl ?_
  refine RL.mv rfl rfl rfl ?_
  refine RL.binI (v := .bool ((i : Int) == (j : Int))) rfl rfl rfl rfl rfl ?_
  refine RL.finG ?_
  repeat refine GL.seq ?_
  refine GL.cond rfl (fun h => ?_) (fun h => ?_)
  · have hij : i = j := by have := of_decide_eq_true (p := (i : Int) = (j : Int)) (by simpa using h); omega
    subst hij
    repeat refine GL.seq ?_
    refine GL.region ?_
    refine RL.mv rfl rfl rfl ?_
    refine RL.asg rfl rfl rfl ?_
    refine RL.finG ?_
    have hx : x0.take i ++ x0.drop i = x0 := List.take_append_drop _ _
    rw [hx]
    exact GL.ret (Gx.ret (v := v0) (res1 rfl rfl) (fun a w st => (st.pick [0, 1] (by decide) rfl).toPostM (LR := fun (o : Value) => [own 24 TrD o x0, keep X]) v0))
  · have hij : i ≠ j := fun e => by subst e; simp at h
    have hll : (x0.take i ++ x0.drop j).length = i + (x0.length - j) := by rw [List.length_append, List.length_take, List.length_drop]; omega
    refine GL.skip ?_
    repeat refine GL.seq ?_
    refine GL.region ?_
    refine RL.mv rfl rfl rfl ?_
    refine RL.lenS 0 Tryz.underlying25 rfl rfl rfl rfl SlOf.own ?_
    refine RL.asg rfl rfl rfl ?_
    refine RL.finG ?_
    repeat refine GL.seq ?_
    refine GL.regionH 6 rfl rfl (by kernel_rfl) ?_
    simp only [List.take_succ_cons, List.take_zero, List.drop_succ_cons, List.drop_zero]
    refine RL.mv rfl rfl rfl ?_
    refine RL.mv rfl rfl rfl ?_
    refine RL.cutO (i := 0) (j := i) 0 Tryz.underlying25 Tryz_ln24 rfl rfl rfl (Or.inl ⟨rfl, rfl⟩) (Or.inr ⟨_, _, rfl, rfl⟩) rfl (by omega) (by show i ≤ capv v0; omega) ?_
    refine RL.mv rfl rfl rfl ?_
    refine RL.mv rfl rfl rfl ?_
    refine RL.cutO (i := j) (j := x0.length) 0 Tryz.underlying25 Tryz_ln24 rfl rfl rfl (Or.inr ⟨_, _, rfl, rfl⟩) (Or.inl ⟨rfl, rfl⟩) rfl (by omega) hcap ?_
    refine RL.finH ?_
    refine RL.del (i := i) (j := j) 0 Tryz.underlying25 Tryz_lo24 rfl rfl rfl rfl rfl rfl (by omega) (by omega) ?_
    refine RL.asg rfl rfl rfl ?_
    refine RL.finG ?_
    repeat refine GL.seq ?_
    refine GL.region ?_
    refine RL.mv rfl rfl rfl ?_
    refine RL.mv rfl rfl rfl ?_
    refine RL.lenS 0 Tryz.underlying25 rfl rfl rfl rfl SlOf.own ?_
    refine RL.mv rfl rfl rfl ?_
    refine RL.cutO (i := (x0.take i ++ x0.drop j).length) (j := x0.length) 0 Tryz.underlying25 Tryz_ln24 rfl rfl rfl (Or.inr ⟨_, _, rfl, rfl⟩) (Or.inr ⟨_, _, rfl, rfl⟩) rfl (by omega) (by rw [hcr]; exact hcap) ?_
    refine RL.clr (j := x0.length) 0 Tryz.underlying25 Tryz_lo24 (by decide) rfl rfl rfl rfl (by omega) (by rw [hcr]; exact hcap) ?_
    refine RL.finG ?_
    repeat refine GL.seq ?_
    refine GL.region ?_
    refine RL.mv rfl rfl rfl ?_
    refine RL.asg rfl rfl rfl ?_
    refine RL.finG ?_
    exact GL.ret (Gx.ret (v := relen v0 (i + (x0.length - j))) (res1 rfl rfl) (fun a w st => (st.pick [0, 1] (by decide) rfl).toPostM (LR := fun (o : Value) => [own 24 TrD o (x0.take i ++ x0.drop j), keep X]) (relen v0 (i + (x0.length - j)))))

set_option maxHeartbeats 4000000 in
theorem queue_Drop_c (S : Hp) (w : World) (hS : S.sub w) (v0 : Value) (x0 : (List ((List UInt8) × ((List UInt8) × (Int × (Int × (Int × Int))))))) (k0 : ((TR.sl TrD)).vrep S v0 x0) (x1 : (List UInt8)) (x2 : Int) (res : (List ((List UInt8) × ((List UInt8) × (Int × (Int × (Int × Int)))))) × Int) (hm : queue_Drop_m x0 x1 x2 = some res) : Calls Tryz.prog 49 #[v0, .string ⟨(x1 : List UInt8).toArray⟩, .int .i64 x2] w (Post w S (fun (o : Value) => .tuple #[o, .int .i64 res.2]) (fun (o : Value) => [own 24 TrD o res.1])) := by
 refine calls_enter 27 Tryz.func49 Tryz.ntmps49 rfl S false [(0, v0), (1, .string ⟨(x1 : List UInt8).toArray⟩), (2, .int .i64 x2)] [imm (TR.sl TrD) v0 x0] rfl ⟨rfl, ⟨rfl, ⟨rfl, trivial⟩⟩⟩ hS ⟨k0, trivial⟩ ?_
 unfold queue_Drop_m at hm
 refine GL.seq ?_
 refine GL.region ?_
 refine RL.asg rfl rfl rfl ?_
 refine RL.asg rfl rfl rfl ?_
 refine RL.finG ?_
 refine GL.seq ?_
 refine GL.seq ?_
 refine GL.region ?_
 refine RL.mv rfl rfl rfl ?_
 obtain ⟨y6, e7, hm⟩ := bind_some hm
 refine RL.callV (v := .int .i64 y6) (vs := [v0]) Tryz_fit33 rfl (Or.inl rfl) rfl rfl rfl rfl (fun U w hU hW hL => queue_Check_c U w hU _ _ (hL 0 _ _ rfl Seen.imm) _ e7) ?_
 refine RL.asg rfl rfl rfl ?_
 refine RL.finG ?_
 refine GL.seq ?_
 refine GL.region ?_
 refine RL.mv rfl rfl rfl ?_
 refine RL.binI (v := .bool (y6 != (0 : Int))) rfl rfl rfl rfl rfl ?_
 refine RL.finG ?_
 refine GL.cond rfl (fun b8 => ?_) (fun b8 => ?_)
 ·replace hm := ite_t b8 hm
  refine GL.seq ?_
  refine GL.region ?_
  refine RL.mv rfl rfl rfl ?_
  refine RL.asg rfl rfl rfl ?_
  refine RL.asg rfl rfl rfl ?_
  refine RL.finG ?_
  refine GL.weak (fun a w st => st.nilOwn 24 TrD) ?_
  have hm := Option.some.inj hm
  subst hm
  exact GL.ret (Gx.ret (v := .tuple #[Value.slice none 0 0, .int .i64 y6]) (res2 rfl rfl rfl) (fun a w st => (st.pick [1] (by decide) rfl).toPost (Value.slice none 0 0)))
 replace hm := ite_f b8 hm
 refine GL.skip ?_
 refine GL.seq ?_
 refine GL.region ?_
 refine RL.mv rfl rfl rfl ?_
 refine RL.mv rfl rfl rfl ?_
 refine RL.mv rfl rfl rfl ?_
 obtain ⟨y11, e12, hm⟩ := bind_some hm
 refine RL.callV (v := .int .i64 y11) (vs := [v0, .string ⟨(x1 : List UInt8).toArray⟩, .int .i64 x2]) Tryz_fit34 rfl (Or.inl rfl) rfl rfl rfl rfl (fun U w hU hW hL => queue_find_c U w hU _ _ (hL 0 _ _ rfl Seen.imm) x1 x2 _ e12) ?_
 refine RL.asg rfl rfl rfl ?_
 refine RL.finG ?_
 refine GL.seq ?_
 refine GL.seq ?_
 refine GL.region ?_
 refine RL.mv rfl rfl rfl ?_
 refine RL.binI (v := .bool (decide (y11 < (0 : Int)))) rfl rfl rfl rfl rfl ?_
 refine RL.finG ?_
 refine GL.cond rfl (fun b13 => ?_) (fun b13 => ?_)
 ·replace hm := ite_t b13 hm
  refine GL.seq ?_
  refine GL.region ?_
  refine RL.asg rfl rfl rfl ?_
  refine RL.asg rfl rfl rfl ?_
  refine RL.finG ?_
  refine GL.weak (fun a w st => st.nilOwn 24 TrD) ?_
  have hm := Option.some.inj hm
  subst hm
  exact GL.ret (Gx.ret (v := .tuple #[Value.slice none 0 0, .int .i64 (4 : Int)]) (res2 rfl rfl rfl) (fun a w st => (st.pick [1] (by decide) rfl).toPost (Value.slice none 0 0)))
 replace hm := ite_f b13 hm
 refine GL.skip ?_
 refine GL.seq ?_
 refine GL.region ?_
 refine RL.mv rfl rfl rfl ?_
 obtain ⟨y20, e21, hm⟩ := bind_some hm
 refine RL.call (vs := [v0]) Tryz_fit9 rfl rfl rfl rfl rfl (fun S f w hS hW hi => slices_Clone_api_Deal_api_Deal_c S w hS _ _ (hi 0 _ rfl) _ e21) ?_
 intro v22
 refine RL.mv rfl rfl rfl ?_
 refine RL.mv rfl rfl rfl ?_
 refine RL.binI (v := .int .i64 (wadd y11 (1 : Int))) rfl rfl rfl rfl rfl ?_
 obtain ⟨y23, e24, hm⟩ := bind_some hm
 refine RL.callK (vs := [v22, .int .i64 y11, .int .i64 (wadd y11 (1 : Int))]) (V := fun (o : Value) => o) (LR := fun (o : Value) => [own 24 TrD o y23]) (Ls := [own 24 TrD v22 y20]) [1] (by decide) Tryz_fit66 rfl rfl rfl rfl rfl rfl (fun S f X w hO hB hW hI hL => slices_Delete_api_Deal_api_Deal_c _ S X f w _ _  hO hB hI y11 (wadd y11 (1 : Int)) _ e24) ?_
 intro v25
 refine RL.reL (L' := [imm (TR.sl TrD) v0 x0, gone, own 24 TrD v25 y23]) rfl ?_
 refine RL.asg rfl rfl rfl ?_
 refine RL.asg rfl rfl rfl ?_
 refine RL.finG ?_
 have hm := Option.some.inj hm
 subst hm
 exact GL.ret (Gx.ret (v := .tuple #[v25, .int .i64 (0 : Int)]) (res2 rfl rfl rfl) (fun a w st => (st.pick [2] (by decide) rfl).toPost v25))

set_option maxHeartbeats 4000000 in
theorem house_House_Do_c (B : World) (S X : Hp) (f : Nat → Hp) (w : World) (v0 : Value) (u0a : Value) (x0 : ((List ((List UInt8) × (Int × Int))) × ((List ((List UInt8) × ((List UInt8) × (Int × (Int × (Int × Int)))))) × ((List UInt8) × Int)))) (hO : HeapOk B.heap.size S f [obox 78 TrH v0 (x0.1, (x0.2.1, u0a)), obox 95 (TR.pair TR.str TR.int) u0a x0.2.2, keep X].length w) (hB : Below B.heap.size B w) (hI : Its [obox 78 TrH v0 (x0.1, (x0.2.1, u0a)), obox 95 (TR.pair TR.str TR.int) u0a x0.2.2, keep X] S f) (hT : Tab Tryz.prog (Tryz.lays146_ren.g 1) S) (v1 : Value) (x1 : (Int × (Int × ((List UInt8) × ((List UInt8) × ((List UInt8) × (Int × (Int × (Int × Int))))))))) (k1 : (TrE).vrep S v1 x1) (res : (Int × Int) × Int × ((List ((List UInt8) × (Int × Int))) × ((List ((List UInt8) × ((List UInt8) × (Int × (Int × (Int × Int)))))) × ((List UInt8) × Int)))) (hm : house_House_Do_m x0 x1 = some res) : Calls Tryz.prog 26 #[v0, v1] w (PostM B S (fun (o : Value) => .tuple #[o, .int .i64 res.2.1]) (fun (o : Value) => [obox 78 TrH v0 (res.2.2.1, (res.2.2.2.1, u0a)), obox 95 (TR.pair TR.str TR.int) u0a res.2.2.2.2, imm (TR.pair TR.int TR.int) o res.1, keep X])) := by
 refine calls_enterM 124 Tryz.func26 Tryz.ntmps26 rfl B S f [(0, v0), (1, v1)] [obox 78 TrH v0 (x0.1, (x0.2.1, u0a)), obox 95 (TR.pair TR.str TR.int) u0a x0.2.2, keep X] [imm TrE v1 x1] rfl ⟨rfl, ⟨rfl, trivial⟩⟩ hB hO hI ⟨k1, trivial⟩ ?_
 unfold house_House_Do_m at hm
 refine GL.seq ?_
 refine GL.region ?_
 refine RL.box (t := TrE) (e := x1) rfl rfl rfl rfl (VR.item 3 rfl) ?_
 intro v5
 refine RL.alloc (t := (TR.pair TR.int TR.int)) (z := ((0 : Int), (0 : Int))) Tryz_lo57 (fun S => ⟨[.int .i64 0], _, rfl, rfl, rfl⟩) rfl rfl rfl ?_
 intro v6
 refine RL.reL (L' := [obox 78 TrH v0 (x0.1, (x0.2.1, u0a)), obox 95 (TR.pair TR.str TR.int) u0a x0.2.2, keep X, imm TrE v1 x1, obox 61 TrE v5 x1, obox 57 (TR.pair TR.int TR.int) v6 ((0 : Int), (0 : Int))]) rfl ?_
 refine RL.asg rfl rfl rfl ?_
 refine RL.finG ?_
 refine GL.seq ?_
 refine GL.region ?_
 refine RL.bld (t := (TR.pair TR.int TR.int)) (d0 := (((0 : Int), (0 : Int)) : (Int × Int))) (pv := []) rfl Tryz_bld57 rfl rfl rfl trivial (fun S f hi => by
   show TR.rep (TR.pair TR.int TR.int) S (List.flatten [[.int .i64 0], [.int .i64 0]]) _
   simp only [ List.flatten_cons, List.flatten_nil, List.append_nil]
   exact ⟨_, _, rfl, rfl, rfl⟩) ?_
 intro v9
 refine RL.alloc (t := (TR.pair TR.int TR.int)) (z := ((0 : Int), (0 : Int))) Tryz_lo57 (fun S => ⟨[.int .i64 0], _, rfl, rfl, rfl⟩) rfl rfl rfl ?_
 intro v10
 refine RL.reL (L' := [obox 78 TrH v0 (x0.1, (x0.2.1, u0a)), obox 95 (TR.pair TR.str TR.int) u0a x0.2.2, keep X, imm TrE v1 x1, obox 61 TrE v5 x1, obox 57 (TR.pair TR.int TR.int) v6 ((0 : Int), (0 : Int)), imm (TR.pair TR.int TR.int) v9 (((0 : Int), (0 : Int)) : (Int × Int)), obox 57 (TR.pair TR.int TR.int) v10 ((0 : Int), (0 : Int))]) rfl ?_
 refine RL.stP (off := 0) (e' := (((0 : Int), (0 : Int)) : (Int × Int))) (d1 := (((0 : Int), (0 : Int)) : (Int × Int))) (r := (TR.pair TR.int TR.int)) 7 Tryz_ln57 rfl rfl (Or.inr ⟨rfl, rfl⟩) rfl (VR.item 6 rfl) rfl Upd.self ?_
 refine RL.finG ?_
 refine GL.seq ?_
 refine GL.seq ?_
 refine GL.region ?_
 refine RL.fadr (off := 0) (fo := 0) 4 Tryz_fld61_0 rfl rfl rfl PtOf.obox (Or.inr ⟨rfl, rfl⟩) ?_
 refine RL.ldPx (off := (0 + 0)) (e' := x1.1) 4 Ex.ik Tryz_ln3 rfl rfl (Or.inl rfl) rfl PtOf.obox (Part.fst Part.self) ?_
 refine RL.finG ?_
 refine GL.block ?_
 refine GL.seq ?_
 refine GL.region ?_
 refine RL.binI (v := .bool (x1.1 == (1 : Int))) rfl rfl rfl rfl rfl ?_
 refine RL.asg rfl rfl rfl ?_
 refine RL.finG ?_
 refine GL.cond rfl (fun b11 => ?_) (fun b11 => ?_)
 ·replace hm := ite_t b11 hm
  refine GL.seq ?_
  refine GL.regionA rfl rfl ?_
  refine RA.mv 1 rfl (by kernel_rfl) rfl rfl rfl ?_
  obtain ⟨y31, e32, hm⟩ := bind_some hm
  refine RA.meet (ι := Value) (fun (p : Value) => [(4, v6), (18, p), (21, .int .i64 y31.1)]) (fun (p : Value) => [keep X, obox 78 TrH v0 (y31.2.1, (y31.2.2.1, u0a)), obox 95 (TR.pair TR.str TR.int) u0a y31.2.2.2, obox 57 (TR.pair TR.int TR.int) v6 ((0 : Int), (0 : Int)), imm (TR.pair TR.int TR.int) p (((0 : Int), (0 : Int)) : (Int × Int))]) 2 #[true, true, true, true, false, false] (fun h36 => ?_) ?_
  ·skip
   refine RA.meet (ι := Value × Value) (fun (p : Value × Value) => [(4, v6), (18, p.1), (19, v0), (20, p.2)]) (fun (p : Value × Value) => [obox 78 TrH v0 (x0.1, (x0.2.1, u0a)), obox 95 (TR.pair TR.str TR.int) u0a x0.2.2, keep X, obox 57 (TR.pair TR.int TR.int) v6 ((0 : Int), (0 : Int)), imm (TR.pair TR.int TR.int) p.1 (((0 : Int), (0 : Int)) : (Int × Int)), imm TrE p.2 x1]) 3 #[true, true, true, false, false, false] (fun h37 => ?_) ?_
   rotate_left
   ·rintro ⟨v35, v34⟩
    refine RA.weak (env' := [(4, v6), (18, v35), (19, v0), (20, v34)]) (L' := [obox 78 TrH v0 (x0.1, (x0.2.1, u0a)), obox 95 (TR.pair TR.str TR.int) u0a x0.2.2, keep X, obox 57 (TR.pair TR.int TR.int) v6 ((0 : Int), (0 : Int)), imm (TR.pair TR.int TR.int) v35 (((0 : Int), (0 : Int)) : (Int × Int)), imm TrE v34 x1]) (fun _ _ st => st) ?_
    refine RA.seq 3 rfl (by kernel_rfl) ?_
    refine RL.callK (vs := [v0, v34]) (V := fun (o : Unit) => .int .i64 y31.1) (LR := fun (o : Unit) => [obox 78 TrH v0 (y31.2.1, (y31.2.2.1, u0a)), obox 95 (TR.pair TR.str TR.int) u0a y31.2.2.2]) (Ls := [obox 78 TrH v0 (x0.1, (x0.2.1, u0a)), obox 95 (TR.pair TR.str TR.int) u0a x0.2.2]) [0, 1] (by decide) Tryz_fit43 rfl rfl rfl rfl rfl rfl (fun S f X w hO hB hW hI hL => house_House_open_c _ S X f w _ _ x0  hO hB hI (hT.mono hW) _ _ (hL 5 _ _ rfl Sure.imm) _ e32) ?_
    intro _
    refine RL.fin ?_
    refine RA.next ?_
    refine RA.relist 2 #[true, true, true, true, false, false] rfl (by kernel_rfl) ?_
    exact fun a w st => h36 v35 a w (St.cut [2, 6, 7, 3, 4] ⟨rfl, rfl, rfl, trivial⟩ (by decide) rfl st)
   refine RA.meet (ι := Unit) (fun (p : Unit) => [(4, v6), (6, v10), (21, .int .i64 y31.1)]) (fun (p : Unit) => [keep X, obox 78 TrH v0 (y31.2.1, (y31.2.2.1, u0a)), obox 95 (TR.pair TR.str TR.int) u0a y31.2.2.2, obox 57 (TR.pair TR.int TR.int) v6 ((0 : Int), (0 : Int)), obox 57 (TR.pair TR.int TR.int) v10 (((0 : Int), (0 : Int)) : (Int × Int))]) 3 #[false, true, true, true, false, false] (fun h38 => ?_) ?_
   rotate_left
   ·rintro ⟨⟩
    refine RA.weak (env' := [(4, v6), (6, v10), (21, .int .i64 y31.1)]) (L' := [keep X, obox 78 TrH v0 (y31.2.1, (y31.2.2.1, u0a)), obox 95 (TR.pair TR.str TR.int) u0a y31.2.2.2, obox 57 (TR.pair TR.int TR.int) v6 ((0 : Int), (0 : Int)), obox 57 (TR.pair TR.int TR.int) v10 (((0 : Int), (0 : Int)) : (Int × Int))]) (fun _ _ st => st) ?_
    refine RA.seq 0 rfl (by kernel_rfl) ?_
    refine RL.ldP (off := 0) (r := (TR.pair TR.int TR.int)) (e' := (((0 : Int), (0 : Int)) : (Int × Int))) 4 Tryz_ln57 rfl rfl (Or.inr ⟨rfl, rfl⟩) rfl PtOf.obox Part.self ?_
    intro v45
    refine RL.fin ?_
    refine RA.next ?_
    refine RA.relist 2 #[true, true, true, true, false, false] rfl (by kernel_rfl) ?_
    exact fun a w st => h36 v45 a w (St.cut [0, 1, 2, 3, 5] ⟨rfl, rfl, rfl, trivial⟩ (by decide) rfl st)
   refine RA.meet (ι := Value) (fun (p : Value) => [(4, v6), (6, v10), (19, v0), (20, p)]) (fun (p : Value) => [obox 78 TrH v0 (x0.1, (x0.2.1, u0a)), obox 95 (TR.pair TR.str TR.int) u0a x0.2.2, keep X, obox 57 (TR.pair TR.int TR.int) v6 ((0 : Int), (0 : Int)), obox 57 (TR.pair TR.int TR.int) v10 (((0 : Int), (0 : Int)) : (Int × Int)), imm TrE p x1]) 4 #[false, true, true, false, false, false] (fun h39 => ?_) ?_
   rotate_left
   ·rintro v34
    refine RA.weak (env' := [(4, v6), (6, v10), (19, v0), (20, v34)]) (L' := [obox 78 TrH v0 (x0.1, (x0.2.1, u0a)), obox 95 (TR.pair TR.str TR.int) u0a x0.2.2, keep X, obox 57 (TR.pair TR.int TR.int) v6 ((0 : Int), (0 : Int)), obox 57 (TR.pair TR.int TR.int) v10 (((0 : Int), (0 : Int)) : (Int × Int)), imm TrE v34 x1]) (fun _ _ st => st) ?_
    refine RA.many [0, 3] (by kernel_rfl) ⟨⟨_, rfl, ?_⟩, ⟨_, rfl, ?_⟩, trivial⟩
    ·skip
     refine RL.ldP (off := 0) (r := (TR.pair TR.int TR.int)) (e' := (((0 : Int), (0 : Int)) : (Int × Int))) 4 Tryz_ln57 rfl rfl (Or.inr ⟨rfl, rfl⟩) rfl PtOf.obox Part.self ?_
     intro v44
     refine RL.fin ?_
     refine RA.next ?_
     refine RA.relist 3 #[true, true, true, false, false, false] rfl (by kernel_rfl) ?_
     exact fun a w st => h37 (v44, v34) a w (St.cut [0, 1, 2, 3, 6, 5] ⟨rfl, rfl, rfl, rfl, trivial⟩ (by decide) rfl st)
    refine RL.callK (vs := [v0, v34]) (V := fun (o : Unit) => .int .i64 y31.1) (LR := fun (o : Unit) => [obox 78 TrH v0 (y31.2.1, (y31.2.2.1, u0a)), obox 95 (TR.pair TR.str TR.int) u0a y31.2.2.2]) (Ls := [obox 78 TrH v0 (x0.1, (x0.2.1, u0a)), obox 95 (TR.pair TR.str TR.int) u0a x0.2.2]) [0, 1] (by decide) Tryz_fit43 rfl rfl rfl rfl rfl rfl (fun S f X w hO hB hW hI hL => house_House_open_c _ S X f w _ _ x0  hO hB hI (hT.mono hW) _ _ (hL 5 _ _ rfl Sure.imm) _ e32) ?_
    intro _
    refine RL.fin ?_
    refine RA.next ?_
    refine RA.relist 3 #[false, true, true, true, false, false] rfl (by kernel_rfl) ?_
    exact fun a w st => h38 () a w (St.cut [2, 6, 7, 3, 4] ⟨rfl, rfl, rfl, trivial⟩ (by decide) rfl st)
   refine RA.meet (ι := Value) (fun (p : Value) => [(3, v5), (4, v6), (18, p), (19, v0)]) (fun (p : Value) => [obox 78 TrH v0 (x0.1, (x0.2.1, u0a)), obox 95 (TR.pair TR.str TR.int) u0a x0.2.2, keep X, obox 61 TrE v5 x1, obox 57 (TR.pair TR.int TR.int) v6 ((0 : Int), (0 : Int)), imm (TR.pair TR.int TR.int) p (((0 : Int), (0 : Int)) : (Int × Int))]) 4 #[true, true, false, false, false, false] (fun h40 => ?_) ?_
   rotate_left
   ·rintro v33
    refine RA.weak (env' := [(3, v5), (4, v6), (18, v33), (19, v0)]) (L' := [obox 78 TrH v0 (x0.1, (x0.2.1, u0a)), obox 95 (TR.pair TR.str TR.int) u0a x0.2.2, keep X, obox 61 TrE v5 x1, obox 57 (TR.pair TR.int TR.int) v6 ((0 : Int), (0 : Int)), imm (TR.pair TR.int TR.int) v33 (((0 : Int), (0 : Int)) : (Int × Int))]) (fun _ _ st => st) ?_
    refine RA.seq 2 rfl (by kernel_rfl) ?_
    refine RL.ldP (off := 0) (r := TrE) (e' := x1) 3 Tryz_ln61 rfl rfl (Or.inr ⟨rfl, rfl⟩) rfl PtOf.obox Part.self ?_
    intro v43
    refine RL.fin ?_
    refine RA.next ?_
    refine RA.relist 3 #[true, true, true, false, false, false] rfl (by kernel_rfl) ?_
    exact fun a w st => h37 (v33, v43) a w (St.cut [0, 1, 2, 4, 5, 6] ⟨rfl, rfl, rfl, rfl, trivial⟩ (by decide) rfl st)
   refine RA.many [0, 2] (by kernel_rfl) ⟨⟨_, rfl, ?_⟩, ⟨_, rfl, ?_⟩, trivial⟩
   ·skip
    refine RL.ldP (off := 0) (r := (TR.pair TR.int TR.int)) (e' := (((0 : Int), (0 : Int)) : (Int × Int))) 7 Tryz_ln57 rfl rfl (Or.inr ⟨rfl, rfl⟩) rfl PtOf.obox Part.self ?_
    intro v41
    refine RL.fin ?_
    refine RA.next ?_
    refine RA.relist 4 #[true, true, false, false, false, false] rfl (by kernel_rfl) ?_
    exact fun a w st => h40 v41 a w (St.cut [0, 1, 2, 4, 5, 8] ⟨rfl, rfl, rfl, rfl, trivial⟩ (by decide) rfl st)
   refine RL.ldP (off := 0) (r := TrE) (e' := x1) 4 Tryz_ln61 rfl rfl (Or.inr ⟨rfl, rfl⟩) rfl PtOf.obox Part.self ?_
   intro v42
   refine RL.fin ?_
   refine RA.next ?_
   refine RA.relist 4 #[false, true, true, false, false, false] rfl (by kernel_rfl) ?_
   exact fun a w st => h39 v42 a w (St.cut [0, 1, 2, 5, 7, 8] ⟨rfl, rfl, rfl, rfl, trivial⟩ (by decide) rfl st)
  rintro v35
  refine RA.weak (env' := [(4, v6), (18, v35), (21, .int .i64 y31.1)]) (L' := [keep X, obox 78 TrH v0 (y31.2.1, (y31.2.2.1, u0a)), obox 95 (TR.pair TR.str TR.int) u0a y31.2.2.2, obox 57 (TR.pair TR.int TR.int) v6 ((0 : Int), (0 : Int)), imm (TR.pair TR.int TR.int) v35 (((0 : Int), (0 : Int)) : (Int × Int))]) (fun _ _ st => st) ?_
  refine RA.seq 4 rfl (by kernel_rfl) ?_
  refine RL.stP (off := 0) (e' := (((0 : Int), (0 : Int)) : (Int × Int))) (d1 := (((0 : Int), (0 : Int)) : (Int × Int))) (r := (TR.pair TR.int TR.int)) 3 Tryz_ln57 rfl rfl (Or.inr ⟨rfl, rfl⟩) rfl (VR.item 4 rfl) rfl Upd.self ?_
  refine RL.fin ?_
  refine RA.next ?_
  refine RA.quiet 5 rfl rfl (by kernel_rfl) ?_
  simp only [List.drop_succ_cons, List.drop_zero]
  refine RL.asg rfl rfl rfl ?_
  refine RL.finQ ?_
  refine RA.outQ ?_
  refine GL.weak (env' := [(4, v6), (5, .int .i64 y31.1)]) (L' := [keep X, obox 78 TrH v0 (y31.2.1, (y31.2.2.1, u0a)), obox 95 (TR.pair TR.str TR.int) u0a y31.2.2.2, obox 57 (TR.pair TR.int TR.int) v6 (((0 : Int), (0 : Int)) : (Int × Int))]) (fun a w st => St.cut [0, 1, 2, 3] ⟨rfl, rfl, trivial⟩ (by decide) rfl st) ?_
  have hm := Option.some.inj hm
  subst hm
  exact GL.ret (Gx.retX [.cell 4 57, .tmp 5] rfl (fun a w st => by
    have st0 := st
    obtain ⟨u46, hu46, st⟩ := st.cellRes (p := 4) (T := 57) 3 Tryz_ln57 rfl rfl rfl
    exact ⟨[u46, .int .i64 y31.1], ⟨hu46, ⟨(ResTmp st0.env rfl), trivial⟩⟩, (st.pick [1, 2, 4, 0] (by decide) rfl).toPostM (V := fun (o : Value) => .tuple #[o, .int .i64 (((((0 : Int), (0 : Int)) : (Int × Int)), y31.1, y31.2).2.1)]) (LR := fun (o : Value) => [obox 78 TrH v0 ((((((0 : Int), (0 : Int)) : (Int × Int)), y31.1, y31.2).2.2).1, ((((((0 : Int), (0 : Int)) : (Int × Int)), y31.1, y31.2).2.2).2.1, u0a)), obox 95 (TR.pair TR.str TR.int) u0a ((((((0 : Int), (0 : Int)) : (Int × Int)), y31.1, y31.2).2.2).2.2), imm (TR.pair TR.int TR.int) o (((((0 : Int), (0 : Int)) : (Int × Int)), y31.1, y31.2).1), keep X]) u46⟩))
 replace hm := ite_f b11 hm
 refine GL.seq ?_
 refine GL.region ?_
 refine RL.binI (v := .bool (x1.1 == (2 : Int))) rfl rfl rfl rfl rfl ?_
 refine RL.asg rfl rfl rfl ?_
 refine RL.finG ?_
 refine GL.cond rfl (fun b47 => ?_) (fun b47 => ?_)
 ·replace hm := ite_t b47 hm
  refine GL.seq ?_
  refine GL.regionA rfl rfl ?_
  refine RA.mv 0 rfl (by kernel_rfl) rfl rfl rfl ?_
  refine RA.still (le := #[true, true, true, true, true, true, false, false, false, false, false, false]) (f := 6) [1, 2, 3, 4, 5] 6 rfl (by kernel_rfl) ?_
  simp only [pickOps, List.getElem?_toArray, List.getElem?_cons_succ, List.getElem?_cons_zero]
  refine RL.nilk 0 rfl rfl rfl rfl PtOf.obox ?_
  refine RL.fadr (off := 0) (fo := 1) 0 Tryz_fld78_1 rfl rfl rfl PtOf.obox (Or.inr ⟨rfl, rfl⟩) ?_
  refine RL.ldP (off := (0 + 1)) (r := (TR.sl TrD)) (e' := x0.2.1) 0 Tryz_ln25 rfl rfl (Or.inl rfl) rfl PtOf.obox (Part.snd (Part.fst Part.self)) ?_
  intro v53
  refine RL.fadr (off := 0) (fo := 3) 4 Tryz_fld61_3 rfl rfl rfl PtOf.obox (Or.inr ⟨rfl, rfl⟩) ?_
  refine RL.ldP (off := (0 + 3)) (r := TrD) (e' := x1.2.2.2) 4 Tryz_ln24 rfl rfl (Or.inl rfl) rfl PtOf.obox (Part.snd (Part.snd (Part.snd Part.self))) ?_
  intro v54
  refine RL.finH ?_
  refine RL.fin ?_
  refine RA.next ?_
  refine RA.seq 6 rfl (by kernel_rfl) ?_
  obtain ⟨y55, e56, hm⟩ := bind_some hm
  refine RL.call (vs := [v53, v54]) Tryz_fit13 rfl rfl rfl rfl rfl (fun S f w hS hW hi => queue_Add_c S w hS _ _ (hi 8 _ rfl) _ _ (hi 9 _ rfl) _ e56) ?_
  intro v57
  refine RL.fin ?_
  refine RA.next ?_
  refine RA.quiet 7 rfl rfl (by kernel_rfl) ?_
  simp only [List.drop_succ_cons, List.drop_zero]
  refine RL.mv rfl rfl rfl ?_
  refine RL.ext rfl rfl rfl rfl ?_
  refine RL.ext rfl rfl rfl rfl ?_
  refine RL.asg rfl rfl rfl ?_
  refine RL.asg rfl rfl rfl ?_
  refine RL.finQ ?_
  refine RA.outQ ?_
  refine GL.weak (env' := [(0, v0), (4, v6), (6, v10), (7, v57), (8, .int .i64 y55.2)]) (L' := [obox 78 TrH v0 (x0.1, (x0.2.1, u0a)), obox 95 (TR.pair TR.str TR.int) u0a x0.2.2, keep X, obox 57 (TR.pair TR.int TR.int) v6 ((0 : Int), (0 : Int)), obox 57 (TR.pair TR.int TR.int) v10 (((0 : Int), (0 : Int)) : (Int × Int)), own 24 TrD v57 y55.1]) (fun a w st => St.cut [0, 1, 2, 5, 7, 10] ⟨rfl, rfl, rfl, rfl, rfl, trivial⟩ (by decide) rfl st) ?_
  refine GL.seq ?_
  refine GL.seq ?_
  refine GL.region ?_
  refine RL.mv rfl rfl rfl ?_
  refine RL.binI (v := .bool (y55.2 != (0 : Int))) rfl rfl rfl rfl rfl ?_
  refine RL.finG ?_
  refine GL.cond rfl (fun b58 => ?_) (fun b58 => ?_)
  ·replace hm := ite_t b58 hm
   refine GL.seq ?_
   refine GL.region ?_
   refine RL.ldP (off := 0) (r := (TR.pair TR.int TR.int)) (e' := (((0 : Int), (0 : Int)) : (Int × Int))) 4 Tryz_ln57 rfl rfl (Or.inr ⟨rfl, rfl⟩) rfl PtOf.obox Part.self ?_
   intro v60
   refine RL.mv rfl rfl rfl ?_
   refine RL.stP (off := 0) (e' := (((0 : Int), (0 : Int)) : (Int × Int))) (d1 := (((0 : Int), (0 : Int)) : (Int × Int))) (r := (TR.pair TR.int TR.int)) 3 Tryz_ln57 rfl rfl (Or.inr ⟨rfl, rfl⟩) rfl (VR.item 6 rfl) rfl Upd.self ?_
   refine RL.reL (L' := [obox 78 TrH v0 (x0.1, (x0.2.1, u0a)), obox 95 (TR.pair TR.str TR.int) u0a x0.2.2, keep X, obox 57 (TR.pair TR.int TR.int) v6 (((0 : Int), (0 : Int)) : (Int × Int)), obox 57 (TR.pair TR.int TR.int) v10 (((0 : Int), (0 : Int)) : (Int × Int)), own 24 TrD v57 y55.1, imm (TR.pair TR.int TR.int) v60 (((0 : Int), (0 : Int)) : (Int × Int))]) rfl ?_
   refine RL.asg rfl rfl rfl ?_
   refine RL.finG ?_
   have hm := Option.some.inj hm
   subst hm
   exact GL.ret (Gx.retX [.cell 4 57, .tmp 5] rfl (fun a w st => by
     have st0 := st
     obtain ⟨u61, hu61, st⟩ := st.cellRes (p := 4) (T := 57) 3 Tryz_ln57 rfl rfl rfl
     exact ⟨[u61, .int .i64 y55.2], ⟨hu61, ⟨(ResTmp st0.env rfl), trivial⟩⟩, (st.pick [0, 1, 7, 2] (by decide) rfl).toPostM (V := fun (o : Value) => .tuple #[o, .int .i64 (((((0 : Int), (0 : Int)) : (Int × Int)), y55.2, x0).2.1)]) (LR := fun (o : Value) => [obox 78 TrH v0 ((((((0 : Int), (0 : Int)) : (Int × Int)), y55.2, x0).2.2).1, ((((((0 : Int), (0 : Int)) : (Int × Int)), y55.2, x0).2.2).2.1, u0a)), obox 95 (TR.pair TR.str TR.int) u0a ((((((0 : Int), (0 : Int)) : (Int × Int)), y55.2, x0).2.2).2.2), imm (TR.pair TR.int TR.int) o (((((0 : Int), (0 : Int)) : (Int × Int)), y55.2, x0).1), keep X]) u61⟩))
  replace hm := ite_f b58 hm
  refine GL.skip ?_
  refine GL.seq ?_
  refine GL.region ?_
  refine RL.mv rfl rfl rfl ?_
  refine RL.mv rfl rfl rfl ?_
  refine RL.nilk 0 rfl rfl rfl rfl PtOf.obox ?_
  refine RL.fadr (off := 0) (fo := 1) 0 Tryz_fld78_1 rfl rfl rfl PtOf.obox (Or.inr ⟨rfl, rfl⟩) ?_
  refine RL.weak (fun a w st => st.freeze 5 rfl) ?_
  refine RL.stP (off := (0 + 1)) (e' := y55.1) (d1 := ((x0.1, (y55.1, x0.2.2)).1, ((x0.1, (y55.1, x0.2.2)).2.1, u0a))) (r := (TR.sl TrD)) 0 Tryz_ln25 rfl rfl (Or.inl rfl) rfl (VR.item 5 rfl) rfl (Upd.snd (Upd.fst Upd.self)) ?_
  refine RL.reL (L' := [obox 78 TrH v0 ((x0.1, (y55.1, x0.2.2)).1, ((x0.1, (y55.1, x0.2.2)).2.1, u0a)), obox 95 (TR.pair TR.str TR.int) u0a x0.2.2, keep X, obox 57 (TR.pair TR.int TR.int) v6 ((0 : Int), (0 : Int)), obox 57 (TR.pair TR.int TR.int) v10 (((0 : Int), (0 : Int)) : (Int × Int)), imm (TR.sl TrD) v57 y55.1]) rfl ?_
  refine RL.finG ?_
  refine GL.seq ?_
  refine GL.region ?_
  refine RL.ldP (off := 0) (r := (TR.pair TR.int TR.int)) (e' := (((0 : Int), (0 : Int)) : (Int × Int))) 4 Tryz_ln57 rfl rfl (Or.inr ⟨rfl, rfl⟩) rfl PtOf.obox Part.self ?_
  intro v63
  refine RL.stP (off := 0) (e' := (((0 : Int), (0 : Int)) : (Int × Int))) (d1 := (((0 : Int), (0 : Int)) : (Int × Int))) (r := (TR.pair TR.int TR.int)) 3 Tryz_ln57 rfl rfl (Or.inr ⟨rfl, rfl⟩) rfl (VR.item 6 rfl) rfl Upd.self ?_
  refine RL.reL (L' := [obox 78 TrH v0 ((x0.1, (y55.1, x0.2.2)).1, ((x0.1, (y55.1, x0.2.2)).2.1, u0a)), obox 95 (TR.pair TR.str TR.int) u0a x0.2.2, keep X, obox 57 (TR.pair TR.int TR.int) v6 (((0 : Int), (0 : Int)) : (Int × Int)), obox 57 (TR.pair TR.int TR.int) v10 (((0 : Int), (0 : Int)) : (Int × Int)), imm (TR.sl TrD) v57 y55.1, imm (TR.pair TR.int TR.int) v63 (((0 : Int), (0 : Int)) : (Int × Int))]) rfl ?_
  refine RL.asg rfl rfl rfl ?_
  refine RL.finG ?_
  have hm := Option.some.inj hm
  subst hm
  exact GL.ret (Gx.retX [.cell 4 57, .tmp 5] rfl (fun a w st => by
    have st0 := st
    obtain ⟨u65, hu65, st⟩ := st.cellRes (p := 4) (T := 57) 3 Tryz_ln57 rfl rfl rfl
    exact ⟨[u65, .int .i64 (0 : Int)], ⟨hu65, ⟨(ResTmp st0.env rfl), trivial⟩⟩, (st.pick [0, 1, 7, 2] (by decide) rfl).toPostM (V := fun (o : Value) => .tuple #[o, .int .i64 (((((0 : Int), (0 : Int)) : (Int × Int)), (0 : Int), (x0.1, (y55.1, x0.2.2))).2.1)]) (LR := fun (o : Value) => [obox 78 TrH v0 ((((((0 : Int), (0 : Int)) : (Int × Int)), (0 : Int), (x0.1, (y55.1, x0.2.2))).2.2).1, ((((((0 : Int), (0 : Int)) : (Int × Int)), (0 : Int), (x0.1, (y55.1, x0.2.2))).2.2).2.1, u0a)), obox 95 (TR.pair TR.str TR.int) u0a ((((((0 : Int), (0 : Int)) : (Int × Int)), (0 : Int), (x0.1, (y55.1, x0.2.2))).2.2).2.2), imm (TR.pair TR.int TR.int) o (((((0 : Int), (0 : Int)) : (Int × Int)), (0 : Int), (x0.1, (y55.1, x0.2.2))).1), keep X]) u65⟩))
 replace hm := ite_f b47 hm
 refine GL.seq ?_
 refine GL.region ?_
 refine RL.binI (v := .bool (x1.1 == (3 : Int))) rfl rfl rfl rfl rfl ?_
 refine RL.asg rfl rfl rfl ?_
 refine RL.finG ?_
 refine GL.cond rfl (fun b66 => ?_) (fun b66 => ?_)
 ·replace hm := ite_t b66 hm
  refine GL.seq ?_
  refine GL.region ?_
  refine RL.mv rfl rfl rfl ?_
  refine RL.ldP (off := 0) (r := TrE) (e' := x1) 4 Tryz_ln61 rfl rfl (Or.inr ⟨rfl, rfl⟩) rfl PtOf.obox Part.self ?_
  intro v71
  refine RL.reL (L' := [obox 78 TrH v0 (x0.1, (x0.2.1, u0a)), obox 95 (TR.pair TR.str TR.int) u0a x0.2.2, keep X, imm TrE v1 x1, obox 61 TrE v5 x1, obox 57 (TR.pair TR.int TR.int) v6 ((0 : Int), (0 : Int)), imm (TR.pair TR.int TR.int) v9 (((0 : Int), (0 : Int)) : (Int × Int)), obox 57 (TR.pair TR.int TR.int) v10 (((0 : Int), (0 : Int)) : (Int × Int)), imm TrE v71 x1]) rfl ?_
  obtain ⟨y72, e73, hm⟩ := bind_some hm
  refine RL.callK (vs := [v0, v71]) (V := fun (o : Value) => .tuple #[o, .int .i64 y72.2.1]) (LR := fun (o : Value) => [obox 78 TrH v0 (y72.2.2.1, (y72.2.2.2.1, u0a)), obox 95 (TR.pair TR.str TR.int) u0a y72.2.2.2.2, imm (TR.pair TR.int TR.int) o y72.1]) (Ls := [obox 78 TrH v0 (x0.1, (x0.2.1, u0a)), obox 95 (TR.pair TR.str TR.int) u0a x0.2.2]) [0, 1] (by decide) Tryz_fit44 rfl rfl rfl rfl rfl rfl (fun S f X w hO hB hW hI hL => house_House_build_c _ S X f w _ _ x0  hO hB hI (hT.mono hW) _ _ (hL 8 _ _ rfl Sure.imm) _ e73) ?_
  intro v74
  refine RL.reL (L' := [gone, gone, keep X, imm TrE v1 x1, obox 61 TrE v5 x1, obox 57 (TR.pair TR.int TR.int) v6 ((0 : Int), (0 : Int)), imm (TR.pair TR.int TR.int) v9 (((0 : Int), (0 : Int)) : (Int × Int)), obox 57 (TR.pair TR.int TR.int) v10 (((0 : Int), (0 : Int)) : (Int × Int)), imm TrE v71 x1, obox 78 TrH v0 (y72.2.2.1, (y72.2.2.2.1, u0a)), obox 95 (TR.pair TR.str TR.int) u0a y72.2.2.2.2, imm (TR.pair TR.int TR.int) v74 y72.1]) rfl ?_
  refine RL.ext rfl rfl rfl rfl ?_
  refine RL.ext rfl rfl rfl rfl ?_
  refine RL.stP (off := 0) (e' := y72.1) (d1 := y72.1) (r := (TR.pair TR.int TR.int)) 5 Tryz_ln57 rfl rfl (Or.inr ⟨rfl, rfl⟩) rfl (VR.item 11 rfl) rfl Upd.self ?_
  refine RL.asg rfl rfl rfl ?_
  refine RL.finG ?_
  have hm := Option.some.inj hm
  subst hm
  exact GL.ret (Gx.retX [.cell 4 57, .tmp 5] rfl (fun a w st => by
    have st0 := st
    obtain ⟨u75, hu75, st⟩ := st.cellRes (p := 4) (T := 57) 5 Tryz_ln57 rfl rfl rfl
    exact ⟨[u75, .int .i64 y72.2.1], ⟨hu75, ⟨(ResTmp st0.env rfl), trivial⟩⟩, (st.pick [9, 10, 12, 2] (by decide) rfl).toPostM (V := fun (o : Value) => .tuple #[o, .int .i64 ((y72.1, y72.2.1, y72.2.2).2.1)]) (LR := fun (o : Value) => [obox 78 TrH v0 (((y72.1, y72.2.1, y72.2.2).2.2).1, (((y72.1, y72.2.1, y72.2.2).2.2).2.1, u0a)), obox 95 (TR.pair TR.str TR.int) u0a (((y72.1, y72.2.1, y72.2.2).2.2).2.2), imm (TR.pair TR.int TR.int) o ((y72.1, y72.2.1, y72.2.2).1), keep X]) u75⟩))
 replace hm := ite_f b66 hm
 refine GL.seq ?_
 refine GL.region ?_
 refine RL.binI (v := .bool (x1.1 == (4 : Int))) rfl rfl rfl rfl rfl ?_
 refine RL.asg rfl rfl rfl ?_
 refine RL.finG ?_
 refine GL.cond rfl (fun b76 => ?_) (fun b76 => ?_)
 ·replace hm := ite_t b76 hm
  refine GL.seq ?_
  refine GL.region ?_
  refine RL.mv rfl rfl rfl ?_
  refine RL.nilk 0 rfl rfl rfl rfl PtOf.obox ?_
  refine RL.fadr (off := 0) (fo := 2) 0 Tryz_fld78_2 rfl rfl rfl PtOf.obox (Or.inr ⟨rfl, rfl⟩) ?_
  refine RL.ldPx (off := (0 + 2)) (e' := u0a) 0 Ex.raw Tryz_ln76 rfl rfl (Or.inl rfl) rfl PtOf.obox (Part.snd (Part.snd Part.self)) ?_
  obtain ⟨y79, e80, hm⟩ := bind_some hm
  refine RL.callK (vs := [u0a]) (V := fun (o : Unit) => .tuple #[]) (LR := fun (o : Unit) => [obox 95 (TR.pair TR.str TR.int) u0a y79]) (Ls := [obox 95 (TR.pair TR.str TR.int) u0a x0.2.2]) [1] (by decide) Tryz_fit45 rfl rfl rfl rfl rfl rfl (fun S f X w hO hB hW hI hL => log_Log_Sync_c _ S X f w _ _  hO hB hI  _ e80) ?_
  intro _
  refine RL.reL (L' := [obox 78 TrH v0 (x0.1, (x0.2.1, u0a)), gone, keep X, imm TrE v1 x1, obox 61 TrE v5 x1, obox 57 (TR.pair TR.int TR.int) v6 ((0 : Int), (0 : Int)), imm (TR.pair TR.int TR.int) v9 (((0 : Int), (0 : Int)) : (Int × Int)), obox 57 (TR.pair TR.int TR.int) v10 (((0 : Int), (0 : Int)) : (Int × Int)), obox 95 (TR.pair TR.str TR.int) u0a y79]) rfl ?_
  refine RL.finG ?_
  refine GL.seq ?_
  refine GL.region ?_
  refine RL.ldP (off := 0) (r := (TR.pair TR.int TR.int)) (e' := (((0 : Int), (0 : Int)) : (Int × Int))) 7 Tryz_ln57 rfl rfl (Or.inr ⟨rfl, rfl⟩) rfl PtOf.obox Part.self ?_
  intro v82
  refine RL.stP (off := 0) (e' := (((0 : Int), (0 : Int)) : (Int × Int))) (d1 := (((0 : Int), (0 : Int)) : (Int × Int))) (r := (TR.pair TR.int TR.int)) 5 Tryz_ln57 rfl rfl (Or.inr ⟨rfl, rfl⟩) rfl (VR.item 9 rfl) rfl Upd.self ?_
  refine RL.reL (L' := [obox 78 TrH v0 (x0.1, (x0.2.1, u0a)), gone, keep X, imm TrE v1 x1, obox 61 TrE v5 x1, obox 57 (TR.pair TR.int TR.int) v6 (((0 : Int), (0 : Int)) : (Int × Int)), imm (TR.pair TR.int TR.int) v9 (((0 : Int), (0 : Int)) : (Int × Int)), obox 57 (TR.pair TR.int TR.int) v10 (((0 : Int), (0 : Int)) : (Int × Int)), obox 95 (TR.pair TR.str TR.int) u0a y79, imm (TR.pair TR.int TR.int) v82 (((0 : Int), (0 : Int)) : (Int × Int))]) rfl ?_
  refine RL.asg rfl rfl rfl ?_
  refine RL.finG ?_
  have hm := Option.some.inj hm
  subst hm
  exact GL.ret (Gx.retX [.cell 4 57, .tmp 5] rfl (fun a w st => by
    have st0 := st
    obtain ⟨u83, hu83, st⟩ := st.cellRes (p := 4) (T := 57) 5 Tryz_ln57 rfl rfl rfl
    exact ⟨[u83, .int .i64 (0 : Int)], ⟨hu83, ⟨(ResTmp st0.env rfl), trivial⟩⟩, (st.pick [0, 8, 10, 2] (by decide) rfl).toPostM (V := fun (o : Value) => .tuple #[o, .int .i64 (((((0 : Int), (0 : Int)) : (Int × Int)), (0 : Int), (x0.1, (x0.2.1, y79))).2.1)]) (LR := fun (o : Value) => [obox 78 TrH v0 ((((((0 : Int), (0 : Int)) : (Int × Int)), (0 : Int), (x0.1, (x0.2.1, y79))).2.2).1, ((((((0 : Int), (0 : Int)) : (Int × Int)), (0 : Int), (x0.1, (x0.2.1, y79))).2.2).2.1, u0a)), obox 95 (TR.pair TR.str TR.int) u0a ((((((0 : Int), (0 : Int)) : (Int × Int)), (0 : Int), (x0.1, (x0.2.1, y79))).2.2).2.2), imm (TR.pair TR.int TR.int) o (((((0 : Int), (0 : Int)) : (Int × Int)), (0 : Int), (x0.1, (x0.2.1, y79))).1), keep X]) u83⟩))
 replace hm := ite_f b76 hm
 refine GL.seq ?_
 refine GL.region ?_
 refine RL.binI (v := .bool (x1.1 == (5 : Int))) rfl rfl rfl rfl rfl ?_
 refine RL.asg rfl rfl rfl ?_
 refine RL.finG ?_
 refine GL.cond rfl (fun b84 => ?_) (fun b84 => ?_)
 ·replace hm := ite_t b84 hm
  refine GL.seq ?_
  refine GL.seq ?_
  refine GL.regionA rfl rfl ?_
  refine RA.mv 0 rfl (by kernel_rfl) rfl rfl rfl ?_
  refine RA.still (le := #[true, true, true, true, true, true, false, false]) (f := 2) [1, 2, 3, 4, 5] 6 rfl (by kernel_rfl) ?_
  simp only [pickOps, List.getElem?_toArray, List.getElem?_cons_succ, List.getElem?_cons_zero]
  refine RL.nilk 0 rfl rfl rfl rfl PtOf.obox ?_
  refine RL.fadr (off := 0) (fo := 2) 0 Tryz_fld78_2 rfl rfl rfl PtOf.obox (Or.inr ⟨rfl, rfl⟩) ?_
  refine RL.ldPx (off := (0 + 2)) (e' := u0a) 0 Ex.raw Tryz_ln76 rfl rfl (Or.inl rfl) rfl PtOf.obox (Part.snd (Part.snd Part.self)) ?_
  refine RL.fadr (off := 0) (fo := 1) 4 Tryz_fld61_1 rfl rfl rfl PtOf.obox (Or.inr ⟨rfl, rfl⟩) ?_
  refine RL.ldPx (off := (0 + 1)) (e' := x1.2.1) 4 Ex.ik Tryz_ln3 rfl rfl (Or.inl rfl) rfl PtOf.obox (Part.snd (Part.fst Part.self)) ?_
  refine RL.finH ?_
  refine RL.fin ?_
  refine RA.next ?_
  refine RA.seq 6 rfl (by kernel_rfl) ?_
  obtain ⟨y87, e88, hm⟩ := bind_some hm
  refine RL.callK (vs := [u0a, .int .i64 x1.2.1]) (V := fun (o : Unit) => .int .i64 y87.1) (LR := fun (o : Unit) => [obox 95 (TR.pair TR.str TR.int) u0a y87.2]) (Ls := [obox 95 (TR.pair TR.str TR.int) u0a x0.2.2]) [1] (by decide) Tryz_fit46 rfl rfl rfl rfl rfl rfl (fun S f X w hO hB hW hI hL => log_Log_Crash_c _ S X f w _ _  hO hB hI x1.2.1 _ e88) ?_
  intro _
  refine RL.fin ?_
  refine RA.next ?_
  refine RA.quiet 7 rfl rfl (by kernel_rfl) ?_
  simp only [List.drop_succ_cons, List.drop_zero]
  refine RL.asg rfl rfl rfl ?_
  refine RL.reL (L' := [obox 78 TrH v0 (x0.1, (x0.2.1, u0a)), gone, keep X, imm TrE v1 x1, obox 61 TrE v5 x1, obox 57 (TR.pair TR.int TR.int) v6 ((0 : Int), (0 : Int)), imm (TR.pair TR.int TR.int) v9 (((0 : Int), (0 : Int)) : (Int × Int)), obox 57 (TR.pair TR.int TR.int) v10 (((0 : Int), (0 : Int)) : (Int × Int)), obox 95 (TR.pair TR.str TR.int) u0a y87.2]) rfl ?_
  refine RL.finQ ?_
  refine RA.outQ ?_
  refine GL.weak (env' := [(0, v0), (4, v6), (6, v10), (9, .int .i64 y87.1)]) (L' := [obox 78 TrH v0 (x0.1, (x0.2.1, u0a)), keep X, obox 95 (TR.pair TR.str TR.int) u0a y87.2, obox 57 (TR.pair TR.int TR.int) v6 ((0 : Int), (0 : Int)), obox 57 (TR.pair TR.int TR.int) v10 (((0 : Int), (0 : Int)) : (Int × Int))]) (fun a w st => St.cut [0, 2, 8, 5, 7] ⟨rfl, rfl, rfl, rfl, trivial⟩ (by decide) rfl st) ?_
  refine GL.seq ?_
  refine GL.region ?_
  refine RL.mv rfl rfl rfl ?_
  refine RL.binI (v := .bool (y87.1 != (0 : Int))) rfl rfl rfl rfl rfl ?_
  refine RL.finG ?_
  refine GL.cond rfl (fun b89 => ?_) (fun b89 => ?_)
  ·replace hm := ite_t b89 hm
   refine GL.seq ?_
   refine GL.region ?_
   refine RL.ldP (off := 0) (r := (TR.pair TR.int TR.int)) (e' := (((0 : Int), (0 : Int)) : (Int × Int))) 4 Tryz_ln57 rfl rfl (Or.inr ⟨rfl, rfl⟩) rfl PtOf.obox Part.self ?_
   intro v91
   refine RL.mv rfl rfl rfl ?_
   refine RL.stP (off := 0) (e' := (((0 : Int), (0 : Int)) : (Int × Int))) (d1 := (((0 : Int), (0 : Int)) : (Int × Int))) (r := (TR.pair TR.int TR.int)) 3 Tryz_ln57 rfl rfl (Or.inr ⟨rfl, rfl⟩) rfl (VR.item 5 rfl) rfl Upd.self ?_
   refine RL.reL (L' := [obox 78 TrH v0 (x0.1, (x0.2.1, u0a)), keep X, obox 95 (TR.pair TR.str TR.int) u0a y87.2, obox 57 (TR.pair TR.int TR.int) v6 (((0 : Int), (0 : Int)) : (Int × Int)), obox 57 (TR.pair TR.int TR.int) v10 (((0 : Int), (0 : Int)) : (Int × Int)), imm (TR.pair TR.int TR.int) v91 (((0 : Int), (0 : Int)) : (Int × Int))]) rfl ?_
   refine RL.asg rfl rfl rfl ?_
   refine RL.finG ?_
   have hm := Option.some.inj hm
   subst hm
   exact GL.ret (Gx.retX [.cell 4 57, .tmp 5] rfl (fun a w st => by
     have st0 := st
     obtain ⟨u92, hu92, st⟩ := st.cellRes (p := 4) (T := 57) 3 Tryz_ln57 rfl rfl rfl
     exact ⟨[u92, .int .i64 y87.1], ⟨hu92, ⟨(ResTmp st0.env rfl), trivial⟩⟩, (st.pick [0, 2, 6, 1] (by decide) rfl).toPostM (V := fun (o : Value) => .tuple #[o, .int .i64 (((((0 : Int), (0 : Int)) : (Int × Int)), y87.1, (x0.1, (x0.2.1, y87.2))).2.1)]) (LR := fun (o : Value) => [obox 78 TrH v0 ((((((0 : Int), (0 : Int)) : (Int × Int)), y87.1, (x0.1, (x0.2.1, y87.2))).2.2).1, ((((((0 : Int), (0 : Int)) : (Int × Int)), y87.1, (x0.1, (x0.2.1, y87.2))).2.2).2.1, u0a)), obox 95 (TR.pair TR.str TR.int) u0a ((((((0 : Int), (0 : Int)) : (Int × Int)), y87.1, (x0.1, (x0.2.1, y87.2))).2.2).2.2), imm (TR.pair TR.int TR.int) o (((((0 : Int), (0 : Int)) : (Int × Int)), y87.1, (x0.1, (x0.2.1, y87.2))).1), keep X]) u92⟩))
  replace hm := ite_f b89 hm
  refine GL.skip ?_
  refine GL.seq ?_
  refine GL.region ?_
  refine RL.mv rfl rfl rfl ?_
  obtain ⟨y95, e96, hm⟩ := bind_some hm
  refine RL.callK (vs := [v0]) (V := fun (o : Unit) => .tuple #[]) (LR := fun (o : Unit) => [obox 78 TrH v0 (y95.1, (y95.2.1, u0a)), obox 95 (TR.pair TR.str TR.int) u0a y95.2.2]) (Ls := [obox 78 TrH v0 (x0.1, (x0.2.1, u0a)), obox 95 (TR.pair TR.str TR.int) u0a y87.2]) [0, 2] (by decide) Tryz_fit47 rfl rfl rfl rfl rfl rfl (fun S f X w hO hB hW hI hL => house_House_read_c _ S X f w _ _ (x0.1, (x0.2.1, y87.2))  hO hB hI (hT.mono hW)  _ e96) ?_
  intro _
  refine RL.reL (L' := [gone, keep X, gone, obox 57 (TR.pair TR.int TR.int) v6 ((0 : Int), (0 : Int)), obox 57 (TR.pair TR.int TR.int) v10 (((0 : Int), (0 : Int)) : (Int × Int)), obox 78 TrH v0 (y95.1, (y95.2.1, u0a)), obox 95 (TR.pair TR.str TR.int) u0a y95.2.2]) rfl ?_
  refine RL.finG ?_
  refine GL.seq ?_
  refine GL.region ?_
  refine RL.ldP (off := 0) (r := (TR.pair TR.int TR.int)) (e' := (((0 : Int), (0 : Int)) : (Int × Int))) 4 Tryz_ln57 rfl rfl (Or.inr ⟨rfl, rfl⟩) rfl PtOf.obox Part.self ?_
  intro v98
  refine RL.stP (off := 0) (e' := (((0 : Int), (0 : Int)) : (Int × Int))) (d1 := (((0 : Int), (0 : Int)) : (Int × Int))) (r := (TR.pair TR.int TR.int)) 3 Tryz_ln57 rfl rfl (Or.inr ⟨rfl, rfl⟩) rfl (VR.item 7 rfl) rfl Upd.self ?_
  refine RL.reL (L' := [gone, keep X, gone, obox 57 (TR.pair TR.int TR.int) v6 (((0 : Int), (0 : Int)) : (Int × Int)), obox 57 (TR.pair TR.int TR.int) v10 (((0 : Int), (0 : Int)) : (Int × Int)), obox 78 TrH v0 (y95.1, (y95.2.1, u0a)), obox 95 (TR.pair TR.str TR.int) u0a y95.2.2, imm (TR.pair TR.int TR.int) v98 (((0 : Int), (0 : Int)) : (Int × Int))]) rfl ?_
  refine RL.asg rfl rfl rfl ?_
  refine RL.finG ?_
  have hm := Option.some.inj hm
  subst hm
  exact GL.ret (Gx.retX [.cell 4 57, .tmp 5] rfl (fun a w st => by
    have st0 := st
    obtain ⟨u99, hu99, st⟩ := st.cellRes (p := 4) (T := 57) 3 Tryz_ln57 rfl rfl rfl
    exact ⟨[u99, .int .i64 (0 : Int)], ⟨hu99, ⟨(ResTmp st0.env rfl), trivial⟩⟩, (st.pick [5, 6, 8, 1] (by decide) rfl).toPostM (V := fun (o : Value) => .tuple #[o, .int .i64 (((((0 : Int), (0 : Int)) : (Int × Int)), (0 : Int), y95).2.1)]) (LR := fun (o : Value) => [obox 78 TrH v0 ((((((0 : Int), (0 : Int)) : (Int × Int)), (0 : Int), y95).2.2).1, ((((((0 : Int), (0 : Int)) : (Int × Int)), (0 : Int), y95).2.2).2.1, u0a)), obox 95 (TR.pair TR.str TR.int) u0a ((((((0 : Int), (0 : Int)) : (Int × Int)), (0 : Int), y95).2.2).2.2), imm (TR.pair TR.int TR.int) o (((((0 : Int), (0 : Int)) : (Int × Int)), (0 : Int), y95).1), keep X]) u99⟩))
 replace hm := ite_f b84 hm
 refine GL.seq ?_
 refine GL.region ?_
 refine RL.binI (v := .bool (x1.1 == (6 : Int))) rfl rfl rfl rfl rfl ?_
 refine RL.asg rfl rfl rfl ?_
 refine RL.finG ?_
 refine GL.cond rfl (fun b100 => ?_) (fun b100 => ?_)
 ·replace hm := ite_t b100 hm
  refine GL.seq ?_
  refine GL.region ?_
  refine RL.mv rfl rfl rfl ?_
  refine RL.fadr (off := 0) (fo := 2) 4 Tryz_fld61_2 rfl rfl rfl PtOf.obox (Or.inr ⟨rfl, rfl⟩) ?_
  refine RL.ldPx (off := (0 + 2)) (e' := x1.2.2.1) 4 Ex.str Tryz_ln9 rfl rfl (Or.inl rfl) rfl PtOf.obox (Part.snd (Part.snd (Part.fst Part.self))) ?_
  obtain ⟨y103, e104, hm⟩ := bind_some hm
  refine RL.callV (v := .int .i64 y103) (vs := [v0, .string ⟨(x1.2.2.1 : List UInt8).toArray⟩]) Tryz_fit48 rfl (Or.inl rfl) rfl rfl rfl rfl (fun U w hU hW hL => house_House_find_c U w hU _ _ (ptr_held (Helded.snd (Helded.snd (Helded.raw rfl))) (hL 0 _ _ rfl Seen.obox) (hL 1 _ _ rfl Seen.obox)) x1.2.2.1 _ e104) ?_
  refine RL.asg rfl rfl rfl ?_
  refine RL.finG ?_
  refine GL.seq ?_
  refine GL.seq ?_
  refine GL.region ?_
  refine RL.mv rfl rfl rfl ?_
  refine RL.binI (v := .bool (decide (y103 < (0 : Int)))) rfl rfl rfl rfl rfl ?_
  refine RL.finG ?_
  refine GL.cond rfl (fun b105 => ?_) (fun b105 => ?_)
  ·replace hm := ite_t b105 hm
   refine GL.seq ?_
   refine GL.region ?_
   refine RL.ldP (off := 0) (r := (TR.pair TR.int TR.int)) (e' := (((0 : Int), (0 : Int)) : (Int × Int))) 7 Tryz_ln57 rfl rfl (Or.inr ⟨rfl, rfl⟩) rfl PtOf.obox Part.self ?_
   intro v107
   refine RL.reL (L' := [obox 78 TrH v0 (x0.1, (x0.2.1, u0a)), obox 95 (TR.pair TR.str TR.int) u0a x0.2.2, keep X, imm TrE v1 x1, obox 61 TrE v5 x1, obox 57 (TR.pair TR.int TR.int) v6 ((0 : Int), (0 : Int)), imm (TR.pair TR.int TR.int) v9 (((0 : Int), (0 : Int)) : (Int × Int)), obox 57 (TR.pair TR.int TR.int) v10 (((0 : Int), (0 : Int)) : (Int × Int)), imm (TR.pair TR.int TR.int) v107 (((0 : Int), (0 : Int)) : (Int × Int))]) rfl ?_
   refine RL.stP (off := 0) (e' := (((0 : Int), (0 : Int)) : (Int × Int))) (d1 := (((0 : Int), (0 : Int)) : (Int × Int))) (r := (TR.pair TR.int TR.int)) 5 Tryz_ln57 rfl rfl (Or.inr ⟨rfl, rfl⟩) rfl (VR.item 8 rfl) rfl Upd.self ?_
   refine RL.asg rfl rfl rfl ?_
   refine RL.finG ?_
   have hm := Option.some.inj hm
   subst hm
   exact GL.ret (Gx.retX [.cell 4 57, .tmp 5] rfl (fun a w st => by
     have st0 := st
     obtain ⟨u108, hu108, st⟩ := st.cellRes (p := 4) (T := 57) 5 Tryz_ln57 rfl rfl rfl
     exact ⟨[u108, .int .i64 (4 : Int)], ⟨hu108, ⟨(ResTmp st0.env rfl), trivial⟩⟩, (st.pick [0, 1, 9, 2] (by decide) rfl).toPostM (V := fun (o : Value) => .tuple #[o, .int .i64 (((((0 : Int), (0 : Int)) : (Int × Int)), (4 : Int), x0).2.1)]) (LR := fun (o : Value) => [obox 78 TrH v0 ((((((0 : Int), (0 : Int)) : (Int × Int)), (4 : Int), x0).2.2).1, ((((((0 : Int), (0 : Int)) : (Int × Int)), (4 : Int), x0).2.2).2.1, u0a)), obox 95 (TR.pair TR.str TR.int) u0a ((((((0 : Int), (0 : Int)) : (Int × Int)), (4 : Int), x0).2.2).2.2), imm (TR.pair TR.int TR.int) o (((((0 : Int), (0 : Int)) : (Int × Int)), (4 : Int), x0).1), keep X]) u108⟩))
  replace hm := ite_f b105 hm
  refine GL.skip ?_
  refine GL.seq ?_
  refine GL.regionH 17 rfl rfl (by kernel_rfl) ?_
  simp only [List.take_succ_cons, List.take_zero, List.drop_succ_cons, List.drop_zero]
  refine RL.mv rfl rfl rfl ?_
  refine RL.nilk 0 rfl rfl rfl rfl PtOf.obox ?_
  refine RL.fadr (off := 0) (fo := 0) 0 Tryz_fld78_0 rfl rfl rfl PtOf.obox (Or.inr ⟨rfl, rfl⟩) ?_
  refine RL.ldP (off := (0 + 0)) (r := (TR.sl TrA)) (e' := x0.1) 0 Tryz_ln22 rfl rfl (Or.inl rfl) rfl PtOf.obox (Part.fst Part.self) ?_
  intro v116
  refine RL.reL (L' := [obox 78 TrH v0 (x0.1, (x0.2.1, u0a)), obox 95 (TR.pair TR.str TR.int) u0a x0.2.2, keep X, imm TrE v1 x1, obox 61 TrE v5 x1, obox 57 (TR.pair TR.int TR.int) v6 ((0 : Int), (0 : Int)), imm (TR.pair TR.int TR.int) v9 (((0 : Int), (0 : Int)) : (Int × Int)), obox 57 (TR.pair TR.int TR.int) v10 (((0 : Int), (0 : Int)) : (Int × Int)), imm (TR.sl TrA) v116 x0.1]) rfl ?_
  refine RL.mv rfl rfl rfl ?_
  obtain ⟨y117, e118, hm⟩ := bind_some hm
  refine RL.idxS (sz := 3) 8 Tryz.underlying22 Tryz_ln30 rfl rfl rfl rfl rfl SlOf.imm (idx_some e118).1 (idx_some e118).2.1 ?_
  refine RL.fadrS (off := ((y103).toNat * 3)) (fo := 1) 8 Tryz_fld30_1 rfl rfl rfl SlOf.imm (by have := (List.getElem?_eq_some_iff.1 (idx_some e118).2.2).1; (try dsimp only at this ⊢); omega) rfl ?_
  refine RL.ldSx (i := (y103).toNat) (e' := y117.2.1) 8 Ex.ik Tryz_ln3 rfl rfl rfl rfl SlOf.imm (idx_some e118).2.2 (Part.snd (Part.fst Part.self)) ?_
  refine RL.mv rfl rfl rfl ?_
  refine RL.nilk 0 rfl rfl rfl rfl PtOf.obox ?_
  refine RL.fadr (off := 0) (fo := 0) 0 Tryz_fld78_0 rfl rfl rfl PtOf.obox (Or.inr ⟨rfl, rfl⟩) ?_
  refine RL.ldP (off := (0 + 0)) (r := (TR.sl TrA)) (e' := x0.1) 0 Tryz_ln22 rfl rfl (Or.inl rfl) rfl PtOf.obox (Part.fst Part.self) ?_
  intro v119
  refine RL.mv rfl rfl rfl ?_
  obtain ⟨y120, e121, hm⟩ := bind_some hm
  refine RL.idxS (sz := 3) 9 Tryz.underlying22 Tryz_ln30 rfl rfl rfl rfl rfl SlOf.imm (idx_some e121).1 (idx_some e121).2.1 ?_
  refine RL.fadrS (off := ((y103).toNat * 3)) (fo := 2) 9 Tryz_fld30_2 rfl rfl rfl SlOf.imm (by have := (List.getElem?_eq_some_iff.1 (idx_some e121).2.2).1; (try dsimp only at this ⊢); omega) rfl ?_
  refine RL.ldSx (i := (y103).toNat) (e' := y120.2.2) 9 Ex.ik Tryz_ln3 rfl rfl rfl rfl SlOf.imm (idx_some e121).2.2 (Part.snd (Part.snd Part.self)) ?_
  refine RL.bld (t := (TR.pair TR.int TR.int)) (d0 := ((y117.2.1, y120.2.2) : (Int × Int))) (pv := [(0, .int .i64 y117.2.1), (1, .int .i64 y120.2.2)]) rfl Tryz_bld57 rfl rfl rfl ⟨⟨_, _, TR.int, y117.2.1, rfl, rfl, VR.int⟩, ⟨⟨_, _, TR.int, y120.2.2, rfl, rfl, VR.int⟩, trivial⟩⟩ (fun S f hi => by
    obtain ⟨c0, e0, r0⟩ := cells_vrep (t := TR.int) (u := .int .i64 y117.2.1) (e := y117.2.1) (VR.int S f hi)
    obtain ⟨c1, e1, r1⟩ := cells_vrep (t := TR.int) (u := .int .i64 y120.2.2) (e := y120.2.2) (VR.int S f hi)
    show TR.rep (TR.pair TR.int TR.int) S (List.flatten [(.int .i64 y117.2.1 : Value).cells.toList, (.int .i64 y120.2.2 : Value).cells.toList]) _
    simp only [e0, e1,  List.flatten_cons, List.flatten_nil, List.append_nil]
    exact ⟨_, _, rfl, r0, r1⟩) ?_
  intro v122
  refine RL.reL (L' := [obox 78 TrH v0 (x0.1, (x0.2.1, u0a)), obox 95 (TR.pair TR.str TR.int) u0a x0.2.2, keep X, imm TrE v1 x1, obox 61 TrE v5 x1, obox 57 (TR.pair TR.int TR.int) v6 ((0 : Int), (0 : Int)), imm (TR.pair TR.int TR.int) v9 (((0 : Int), (0 : Int)) : (Int × Int)), obox 57 (TR.pair TR.int TR.int) v10 (((0 : Int), (0 : Int)) : (Int × Int)), imm (TR.sl TrA) v116 x0.1, imm (TR.sl TrA) v119 x0.1, imm (TR.pair TR.int TR.int) v122 ((y117.2.1, y120.2.2) : (Int × Int))]) rfl ?_
  refine RL.finH ?_
  refine RL.stP (off := 0) (e' := ((y117.2.1, y120.2.2) : (Int × Int))) (d1 := ((y117.2.1, y120.2.2) : (Int × Int))) (r := (TR.pair TR.int TR.int)) 5 Tryz_ln57 rfl rfl (Or.inr ⟨rfl, rfl⟩) rfl (VR.item 10 rfl) rfl Upd.self ?_
  refine RL.asg rfl rfl rfl ?_
  refine RL.finG ?_
  refine GL.weak (env' := [(4, v6), (5, .int .i64 (0 : Int))]) (L' := [obox 78 TrH v0 (x0.1, (x0.2.1, u0a)), obox 95 (TR.pair TR.str TR.int) u0a x0.2.2, keep X, obox 57 (TR.pair TR.int TR.int) v6 ((y117.2.1, y120.2.2) : (Int × Int))]) (fun a w st => St.cut [0, 1, 2, 5] ⟨rfl, rfl, trivial⟩ (by decide) rfl st) ?_
  have hm := Option.some.inj hm
  subst hm
  exact GL.ret (Gx.retX [.cell 4 57, .tmp 5] rfl (fun a w st => by
    have st0 := st
    obtain ⟨u123, hu123, st⟩ := st.cellRes (p := 4) (T := 57) 3 Tryz_ln57 rfl rfl rfl
    exact ⟨[u123, .int .i64 (0 : Int)], ⟨hu123, ⟨(ResTmp st0.env rfl), trivial⟩⟩, (st.pick [0, 1, 4, 2] (by decide) rfl).toPostM (V := fun (o : Value) => .tuple #[o, .int .i64 ((((y117.2.1, y120.2.2) : (Int × Int)), (0 : Int), x0).2.1)]) (LR := fun (o : Value) => [obox 78 TrH v0 (((((y117.2.1, y120.2.2) : (Int × Int)), (0 : Int), x0).2.2).1, (((((y117.2.1, y120.2.2) : (Int × Int)), (0 : Int), x0).2.2).2.1, u0a)), obox 95 (TR.pair TR.str TR.int) u0a (((((y117.2.1, y120.2.2) : (Int × Int)), (0 : Int), x0).2.2).2.2), imm (TR.pair TR.int TR.int) o ((((y117.2.1, y120.2.2) : (Int × Int)), (0 : Int), x0).1), keep X]) u123⟩))
 replace hm := ite_f b100 hm
 refine GL.seq ?_
 refine GL.region ?_
 refine RL.binI (v := .bool (x1.1 == (7 : Int))) rfl rfl rfl rfl rfl ?_
 refine RL.asg rfl rfl rfl ?_
 refine RL.finG ?_
 refine GL.cond rfl (fun b124 => ?_) (fun b124 => ?_)
 ·replace hm := ite_t b124 hm
  refine GL.seq ?_
  refine GL.regionA rfl rfl ?_
  refine RA.mv 0 rfl (by kernel_rfl) rfl rfl rfl ?_
  refine RA.still (le := #[true, true, true, true, true, true, true, true, false, false, false, false, false, false]) (f := 6) [1, 2, 3, 4, 5, 6, 7] 8 rfl (by kernel_rfl) ?_
  simp only [pickOps, List.getElem?_toArray, List.getElem?_cons_succ, List.getElem?_cons_zero]
  refine RL.nilk 0 rfl rfl rfl rfl PtOf.obox ?_
  refine RL.fadr (off := 0) (fo := 1) 0 Tryz_fld78_1 rfl rfl rfl PtOf.obox (Or.inr ⟨rfl, rfl⟩) ?_
  refine RL.ldP (off := (0 + 1)) (r := (TR.sl TrD)) (e' := x0.2.1) 0 Tryz_ln25 rfl rfl (Or.inl rfl) rfl PtOf.obox (Part.snd (Part.fst Part.self)) ?_
  intro v129
  refine RL.fadr (off := 0) (fo := 2) 4 Tryz_fld61_2 rfl rfl rfl PtOf.obox (Or.inr ⟨rfl, rfl⟩) ?_
  refine RL.ldPx (off := (0 + 2)) (e' := x1.2.2.1) 4 Ex.str Tryz_ln9 rfl rfl (Or.inl rfl) rfl PtOf.obox (Part.snd (Part.snd (Part.fst Part.self))) ?_
  refine RL.fadr (off := 0) (fo := 1) 4 Tryz_fld61_1 rfl rfl rfl PtOf.obox (Or.inr ⟨rfl, rfl⟩) ?_
  refine RL.ldPx (off := (0 + 1)) (e' := x1.2.1) 4 Ex.ik Tryz_ln3 rfl rfl (Or.inl rfl) rfl PtOf.obox (Part.snd (Part.fst Part.self)) ?_
  refine RL.finH ?_
  refine RL.fin ?_
  refine RA.next ?_
  refine RA.seq 8 rfl (by kernel_rfl) ?_
  obtain ⟨y130, e131, hm⟩ := bind_some hm
  refine RL.call (vs := [v129, .string ⟨(x1.2.2.1 : List UInt8).toArray⟩, .int .i64 x1.2.1]) Tryz_fit49 rfl rfl rfl rfl rfl (fun S f w hS hW hi => queue_Drop_c S w hS _ _ (hi 8 _ rfl) x1.2.2.1 x1.2.1 _ e131) ?_
  intro v132
  refine RL.fin ?_
  refine RA.next ?_
  refine RA.quiet 9 rfl rfl (by kernel_rfl) ?_
  simp only [List.drop_succ_cons, List.drop_zero]
  refine RL.mv rfl rfl rfl ?_
  refine RL.ext rfl rfl rfl rfl ?_
  refine RL.ext rfl rfl rfl rfl ?_
  refine RL.asg rfl rfl rfl ?_
  refine RL.asg rfl rfl rfl ?_
  refine RL.finQ ?_
  refine RA.outQ ?_
  refine GL.weak (env' := [(0, v0), (4, v6), (6, v10), (11, v132), (12, .int .i64 y130.2)]) (L' := [obox 78 TrH v0 (x0.1, (x0.2.1, u0a)), obox 95 (TR.pair TR.str TR.int) u0a x0.2.2, keep X, obox 57 (TR.pair TR.int TR.int) v6 ((0 : Int), (0 : Int)), obox 57 (TR.pair TR.int TR.int) v10 (((0 : Int), (0 : Int)) : (Int × Int)), own 24 TrD v132 y130.1]) (fun a w st => St.cut [0, 1, 2, 5, 7, 9] ⟨rfl, rfl, rfl, rfl, rfl, trivial⟩ (by decide) rfl st) ?_
  refine GL.seq ?_
  refine GL.seq ?_
  refine GL.region ?_
  refine RL.mv rfl rfl rfl ?_
  refine RL.binI (v := .bool (y130.2 != (0 : Int))) rfl rfl rfl rfl rfl ?_
  refine RL.finG ?_
  refine GL.cond rfl (fun b133 => ?_) (fun b133 => ?_)
  ·replace hm := ite_t b133 hm
   refine GL.seq ?_
   refine GL.region ?_
   refine RL.ldP (off := 0) (r := (TR.pair TR.int TR.int)) (e' := (((0 : Int), (0 : Int)) : (Int × Int))) 4 Tryz_ln57 rfl rfl (Or.inr ⟨rfl, rfl⟩) rfl PtOf.obox Part.self ?_
   intro v135
   refine RL.mv rfl rfl rfl ?_
   refine RL.stP (off := 0) (e' := (((0 : Int), (0 : Int)) : (Int × Int))) (d1 := (((0 : Int), (0 : Int)) : (Int × Int))) (r := (TR.pair TR.int TR.int)) 3 Tryz_ln57 rfl rfl (Or.inr ⟨rfl, rfl⟩) rfl (VR.item 6 rfl) rfl Upd.self ?_
   refine RL.reL (L' := [obox 78 TrH v0 (x0.1, (x0.2.1, u0a)), obox 95 (TR.pair TR.str TR.int) u0a x0.2.2, keep X, obox 57 (TR.pair TR.int TR.int) v6 (((0 : Int), (0 : Int)) : (Int × Int)), obox 57 (TR.pair TR.int TR.int) v10 (((0 : Int), (0 : Int)) : (Int × Int)), own 24 TrD v132 y130.1, imm (TR.pair TR.int TR.int) v135 (((0 : Int), (0 : Int)) : (Int × Int))]) rfl ?_
   refine RL.asg rfl rfl rfl ?_
   refine RL.finG ?_
   have hm := Option.some.inj hm
   subst hm
   exact GL.ret (Gx.retX [.cell 4 57, .tmp 5] rfl (fun a w st => by
     have st0 := st
     obtain ⟨u136, hu136, st⟩ := st.cellRes (p := 4) (T := 57) 3 Tryz_ln57 rfl rfl rfl
     exact ⟨[u136, .int .i64 y130.2], ⟨hu136, ⟨(ResTmp st0.env rfl), trivial⟩⟩, (st.pick [0, 1, 7, 2] (by decide) rfl).toPostM (V := fun (o : Value) => .tuple #[o, .int .i64 (((((0 : Int), (0 : Int)) : (Int × Int)), y130.2, x0).2.1)]) (LR := fun (o : Value) => [obox 78 TrH v0 ((((((0 : Int), (0 : Int)) : (Int × Int)), y130.2, x0).2.2).1, ((((((0 : Int), (0 : Int)) : (Int × Int)), y130.2, x0).2.2).2.1, u0a)), obox 95 (TR.pair TR.str TR.int) u0a ((((((0 : Int), (0 : Int)) : (Int × Int)), y130.2, x0).2.2).2.2), imm (TR.pair TR.int TR.int) o (((((0 : Int), (0 : Int)) : (Int × Int)), y130.2, x0).1), keep X]) u136⟩))
  replace hm := ite_f b133 hm
  refine GL.skip ?_
  refine GL.seq ?_
  refine GL.region ?_
  refine RL.mv rfl rfl rfl ?_
  refine RL.mv rfl rfl rfl ?_
  refine RL.nilk 0 rfl rfl rfl rfl PtOf.obox ?_
  refine RL.fadr (off := 0) (fo := 1) 0 Tryz_fld78_1 rfl rfl rfl PtOf.obox (Or.inr ⟨rfl, rfl⟩) ?_
  refine RL.weak (fun a w st => st.freeze 5 rfl) ?_
  refine RL.stP (off := (0 + 1)) (e' := y130.1) (d1 := ((x0.1, (y130.1, x0.2.2)).1, ((x0.1, (y130.1, x0.2.2)).2.1, u0a))) (r := (TR.sl TrD)) 0 Tryz_ln25 rfl rfl (Or.inl rfl) rfl (VR.item 5 rfl) rfl (Upd.snd (Upd.fst Upd.self)) ?_
  refine RL.reL (L' := [obox 78 TrH v0 ((x0.1, (y130.1, x0.2.2)).1, ((x0.1, (y130.1, x0.2.2)).2.1, u0a)), obox 95 (TR.pair TR.str TR.int) u0a x0.2.2, keep X, obox 57 (TR.pair TR.int TR.int) v6 ((0 : Int), (0 : Int)), obox 57 (TR.pair TR.int TR.int) v10 (((0 : Int), (0 : Int)) : (Int × Int)), imm (TR.sl TrD) v132 y130.1]) rfl ?_
  refine RL.finG ?_
  refine GL.seq ?_
  refine GL.region ?_
  refine RL.ldP (off := 0) (r := (TR.pair TR.int TR.int)) (e' := (((0 : Int), (0 : Int)) : (Int × Int))) 4 Tryz_ln57 rfl rfl (Or.inr ⟨rfl, rfl⟩) rfl PtOf.obox Part.self ?_
  intro v138
  refine RL.stP (off := 0) (e' := (((0 : Int), (0 : Int)) : (Int × Int))) (d1 := (((0 : Int), (0 : Int)) : (Int × Int))) (r := (TR.pair TR.int TR.int)) 3 Tryz_ln57 rfl rfl (Or.inr ⟨rfl, rfl⟩) rfl (VR.item 6 rfl) rfl Upd.self ?_
  refine RL.reL (L' := [obox 78 TrH v0 ((x0.1, (y130.1, x0.2.2)).1, ((x0.1, (y130.1, x0.2.2)).2.1, u0a)), obox 95 (TR.pair TR.str TR.int) u0a x0.2.2, keep X, obox 57 (TR.pair TR.int TR.int) v6 (((0 : Int), (0 : Int)) : (Int × Int)), obox 57 (TR.pair TR.int TR.int) v10 (((0 : Int), (0 : Int)) : (Int × Int)), imm (TR.sl TrD) v132 y130.1, imm (TR.pair TR.int TR.int) v138 (((0 : Int), (0 : Int)) : (Int × Int))]) rfl ?_
  refine RL.asg rfl rfl rfl ?_
  refine RL.finG ?_
  have hm := Option.some.inj hm
  subst hm
  exact GL.ret (Gx.retX [.cell 4 57, .tmp 5] rfl (fun a w st => by
    have st0 := st
    obtain ⟨u139, hu139, st⟩ := st.cellRes (p := 4) (T := 57) 3 Tryz_ln57 rfl rfl rfl
    exact ⟨[u139, .int .i64 (0 : Int)], ⟨hu139, ⟨(ResTmp st0.env rfl), trivial⟩⟩, (st.pick [0, 1, 7, 2] (by decide) rfl).toPostM (V := fun (o : Value) => .tuple #[o, .int .i64 (((((0 : Int), (0 : Int)) : (Int × Int)), (0 : Int), (x0.1, (y130.1, x0.2.2))).2.1)]) (LR := fun (o : Value) => [obox 78 TrH v0 ((((((0 : Int), (0 : Int)) : (Int × Int)), (0 : Int), (x0.1, (y130.1, x0.2.2))).2.2).1, ((((((0 : Int), (0 : Int)) : (Int × Int)), (0 : Int), (x0.1, (y130.1, x0.2.2))).2.2).2.1, u0a)), obox 95 (TR.pair TR.str TR.int) u0a ((((((0 : Int), (0 : Int)) : (Int × Int)), (0 : Int), (x0.1, (y130.1, x0.2.2))).2.2).2.2), imm (TR.pair TR.int TR.int) o (((((0 : Int), (0 : Int)) : (Int × Int)), (0 : Int), (x0.1, (y130.1, x0.2.2))).1), keep X]) u139⟩))
 replace hm := ite_f b124 hm
 refine GL.skip ?_
 refine GL.nilB ?_
 refine GL.seq ?_
 refine GL.region ?_
 refine RL.ldP (off := 0) (r := (TR.pair TR.int TR.int)) (e' := (((0 : Int), (0 : Int)) : (Int × Int))) 7 Tryz_ln57 rfl rfl (Or.inr ⟨rfl, rfl⟩) rfl PtOf.obox Part.self ?_
 intro v141
 refine RL.reL (L' := [obox 78 TrH v0 (x0.1, (x0.2.1, u0a)), obox 95 (TR.pair TR.str TR.int) u0a x0.2.2, keep X, imm TrE v1 x1, obox 61 TrE v5 x1, obox 57 (TR.pair TR.int TR.int) v6 ((0 : Int), (0 : Int)), imm (TR.pair TR.int TR.int) v9 (((0 : Int), (0 : Int)) : (Int × Int)), obox 57 (TR.pair TR.int TR.int) v10 (((0 : Int), (0 : Int)) : (Int × Int)), imm (TR.pair TR.int TR.int) v141 (((0 : Int), (0 : Int)) : (Int × Int))]) rfl ?_
 refine RL.stP (off := 0) (e' := (((0 : Int), (0 : Int)) : (Int × Int))) (d1 := (((0 : Int), (0 : Int)) : (Int × Int))) (r := (TR.pair TR.int TR.int)) 5 Tryz_ln57 rfl rfl (Or.inr ⟨rfl, rfl⟩) rfl (VR.item 8 rfl) rfl Upd.self ?_
 refine RL.asg rfl rfl rfl ?_
 refine RL.finG ?_
 have hm := Option.some.inj hm
 subst hm
 exact GL.ret (Gx.retX [.cell 4 57, .tmp 5] rfl (fun a w st => by
   have st0 := st
   obtain ⟨u142, hu142, st⟩ := st.cellRes (p := 4) (T := 57) 5 Tryz_ln57 rfl rfl rfl
   exact ⟨[u142, .int .i64 (1 : Int)], ⟨hu142, ⟨(ResTmp st0.env rfl), trivial⟩⟩, (st.pick [0, 1, 9, 2] (by decide) rfl).toPostM (V := fun (o : Value) => .tuple #[o, .int .i64 (((((0 : Int), (0 : Int)) : (Int × Int)), (1 : Int), x0).2.1)]) (LR := fun (o : Value) => [obox 78 TrH v0 ((((((0 : Int), (0 : Int)) : (Int × Int)), (1 : Int), x0).2.2).1, ((((((0 : Int), (0 : Int)) : (Int × Int)), (1 : Int), x0).2.2).2.1, u0a)), obox 95 (TR.pair TR.str TR.int) u0a ((((((0 : Int), (0 : Int)) : (Int × Int)), (1 : Int), x0).2.2).2.2), imm (TR.pair TR.int TR.int) o (((((0 : Int), (0 : Int)) : (Int × Int)), (1 : Int), x0).1), keep X]) u142⟩))

set_option maxHeartbeats 4000000 in
theorem pk_houses_c (S : Hp) (w : World) (hS : S.sub w) (hT : Tab Tryz.prog (Tryz.lays146_ren.g 1) S)  (res : Bool) (hm : pk_houses_m = some res) : Calls Tryz.prog 7 #[] w (PostV w (.bool res)) := by
 refine calls_enter 63 Tryz.func7 Tryz.ntmps7 rfl S false [] [] rfl trivial hS trivial ?_
 unfold pk_houses_m at hm
 refine GL.seq ?_
 refine GL.region ?_
 refine RL.asg rfl rfl rfl ?_
 refine RL.finG ?_
 refine GL.seq ?_
 refine GL.region ?_
 obtain ⟨y5, e6, hm⟩ := bind_some hm
 refine RL.call (vs := []) Tryz_fit25 rfl rfl rfl rfl rfl (fun S f w hS hW hi => house_New_c S w hS  _ e6) ?_
 intro ⟨v7, u9⟩
 refine RL.reL (L' := [obox 78 TrH v7 (y5.1, (y5.2.1, u9)), obox 95 (TR.pair TR.str TR.int) u9 y5.2.2]) rfl ?_
 refine RL.asg rfl rfl rfl ?_
 refine RL.finG ?_
 refine GL.seq ?_
 refine GL.seq ?_
 refine GL.region ?_
 refine RL.mv rfl rfl rfl ?_
 refine RL.eqP 0 Tryz.underlying46 rfl rfl rfl rfl rfl PtOf.obox ?_
 refine RL.finG ?_
 refine GL.cond rfl (fun b10 => ?_) (fun b10 => ?_)
 ·exact absurd b10 (by decide)
 refine GL.skip ?_
 refine GL.seq ?_
 refine GL.region ?_
 refine RL.mv rfl rfl rfl ?_
 refine RL.bld (t := TrE) (d0 := (((1 : Int), (5 : Int), ([97] : List UInt8), (([] : List UInt8), ([] : List UInt8), (0 : Int), (0 : Int), (0 : Int), (0 : Int))) : (Int × (Int × ((List UInt8) × ((List UInt8) × ((List UInt8) × (Int × (Int × (Int × Int)))))))))) (pv := [(0, .int .i64 (1 : Int)), (2, .string ⟨(([97] : List UInt8) : List UInt8).toArray⟩), (1, .int .i64 (5 : Int))]) rfl Tryz_bld61 rfl rfl rfl ⟨⟨_, _, TR.int, (1 : Int), rfl, rfl, VR.int⟩, ⟨⟨_, _, TR.str, ([97] : List UInt8), rfl, rfl, VR.str⟩, ⟨⟨_, _, TR.int, (5 : Int), rfl, rfl, VR.int⟩, trivial⟩⟩⟩ (fun S f hi => by
   obtain ⟨c0, e0, r0⟩ := cells_vrep (t := TR.int) (u := .int .i64 (1 : Int)) (e := (1 : Int)) (VR.int S f hi)
   obtain ⟨c1, e1, r1⟩ := cells_vrep (t := TR.int) (u := .int .i64 (5 : Int)) (e := (5 : Int)) (VR.int S f hi)
   obtain ⟨c2, e2, r2⟩ := cells_vrep (t := TR.str) (u := .string ⟨(([97] : List UInt8) : List UInt8).toArray⟩) (e := ([97] : List UInt8)) (VR.str S f hi)
   show TR.rep TrE S (List.flatten [(.int .i64 (1 : Int) : Value).cells.toList, (.int .i64 (5 : Int) : Value).cells.toList, (.string ⟨(([97] : List UInt8) : List UInt8).toArray⟩ : Value).cells.toList, [.string ⟨#[]⟩, .string ⟨#[]⟩, .int .i64 0, .int .i64 0, .int .i64 0, .int .i64 0]]) _
   simp only [e0, e1, e2,  List.flatten_cons, List.flatten_nil, List.append_nil]
   exact ⟨_, _, rfl, r0, ⟨_, _, rfl, r1, ⟨_, _, rfl, r2, ⟨[.string ⟨#[]⟩], _, rfl, rfl, ⟨[.string ⟨#[]⟩], _, rfl, rfl, ⟨[.int .i64 0], _, rfl, rfl, ⟨[.int .i64 0], _, rfl, rfl, ⟨[.int .i64 0], _, rfl, rfl, rfl⟩⟩⟩⟩⟩⟩⟩⟩) ?_
 intro v16
 obtain ⟨y17, e18, hm⟩ := bind_some hm
 refine RL.callK (vs := [v7, v16]) (V := fun (o : Value) => .tuple #[o, .int .i64 y17.2.1]) (LR := fun (o : Value) => [obox 78 TrH v7 (y17.2.2.1, (y17.2.2.2.1, u9)), obox 95 (TR.pair TR.str TR.int) u9 y17.2.2.2.2, imm (TR.pair TR.int TR.int) o y17.1]) (Ls := [obox 78 TrH v7 (y5.1, (y5.2.1, u9)), obox 95 (TR.pair TR.str TR.int) u9 y5.2.2]) [0, 1] (by decide) Tryz_fit26 rfl rfl rfl rfl rfl rfl (fun S f X w hO hB hW hI hL => house_House_Do_c _ S X f w _ _ y5  hO hB hI (hT.mono hW) _ _ (hL 2 _ _ rfl Sure.imm) _ e18) ?_
 intro v19
 refine RL.reL (L' := [gone, gone, imm TrE v16 (((1 : Int), (5 : Int), ([97] : List UInt8), (([] : List UInt8), ([] : List UInt8), (0 : Int), (0 : Int), (0 : Int), (0 : Int))) : (Int × (Int × ((List UInt8) × ((List UInt8) × ((List UInt8) × (Int × (Int × (Int × Int))))))))), obox 78 TrH v7 (y17.2.2.1, (y17.2.2.2.1, u9)), obox 95 (TR.pair TR.str TR.int) u9 y17.2.2.2.2, imm (TR.pair TR.int TR.int) v19 y17.1]) rfl ?_
 refine RL.mv rfl rfl rfl ?_
 refine RL.ext rfl rfl rfl rfl ?_
 refine RL.ext rfl rfl rfl rfl ?_
 refine RL.alloc (t := (TR.pair TR.int TR.int)) (z := ((0 : Int), (0 : Int))) Tryz_lo57 (fun S => ⟨[.int .i64 0], _, rfl, rfl, rfl⟩) rfl rfl rfl ?_
 intro v20
 refine RL.stP (off := 0) (e' := y17.1) (d1 := y17.1) (r := (TR.pair TR.int TR.int)) 6 Tryz_ln57 rfl rfl (Or.inr ⟨rfl, rfl⟩) rfl (VR.item 5 rfl) rfl Upd.self ?_
 refine RL.reL (L' := [gone, gone, imm TrE v16 (((1 : Int), (5 : Int), ([97] : List UInt8), (([] : List UInt8), ([] : List UInt8), (0 : Int), (0 : Int), (0 : Int), (0 : Int))) : (Int × (Int × ((List UInt8) × ((List UInt8) × ((List UInt8) × (Int × (Int × (Int × Int))))))))), obox 78 TrH v7 (y17.2.2.1, (y17.2.2.2.1, u9)), obox 95 (TR.pair TR.str TR.int) u9 y17.2.2.2.2, imm (TR.pair TR.int TR.int) v19 y17.1, obox 57 (TR.pair TR.int TR.int) v20 y17.1]) rfl ?_
 refine RL.asg rfl rfl rfl ?_
 refine RL.finG ?_
 refine GL.seq ?_
 refine GL.region ?_
 refine RL.mv rfl rfl rfl ?_
 refine RL.bld (t := TrE) (d0 := (((1 : Int), (9 : Int), ([98] : List UInt8), (([] : List UInt8), ([] : List UInt8), (0 : Int), (0 : Int), (0 : Int), (0 : Int))) : (Int × (Int × ((List UInt8) × ((List UInt8) × ((List UInt8) × (Int × (Int × (Int × Int)))))))))) (pv := [(0, .int .i64 (1 : Int)), (2, .string ⟨(([98] : List UInt8) : List UInt8).toArray⟩), (1, .int .i64 (9 : Int))]) rfl Tryz_bld61 rfl rfl rfl ⟨⟨_, _, TR.int, (1 : Int), rfl, rfl, VR.int⟩, ⟨⟨_, _, TR.str, ([98] : List UInt8), rfl, rfl, VR.str⟩, ⟨⟨_, _, TR.int, (9 : Int), rfl, rfl, VR.int⟩, trivial⟩⟩⟩ (fun S f hi => by
   obtain ⟨c0, e0, r0⟩ := cells_vrep (t := TR.int) (u := .int .i64 (1 : Int)) (e := (1 : Int)) (VR.int S f hi)
   obtain ⟨c1, e1, r1⟩ := cells_vrep (t := TR.int) (u := .int .i64 (9 : Int)) (e := (9 : Int)) (VR.int S f hi)
   obtain ⟨c2, e2, r2⟩ := cells_vrep (t := TR.str) (u := .string ⟨(([98] : List UInt8) : List UInt8).toArray⟩) (e := ([98] : List UInt8)) (VR.str S f hi)
   show TR.rep TrE S (List.flatten [(.int .i64 (1 : Int) : Value).cells.toList, (.int .i64 (9 : Int) : Value).cells.toList, (.string ⟨(([98] : List UInt8) : List UInt8).toArray⟩ : Value).cells.toList, [.string ⟨#[]⟩, .string ⟨#[]⟩, .int .i64 0, .int .i64 0, .int .i64 0, .int .i64 0]]) _
   simp only [e0, e1, e2,  List.flatten_cons, List.flatten_nil, List.append_nil]
   exact ⟨_, _, rfl, r0, ⟨_, _, rfl, r1, ⟨_, _, rfl, r2, ⟨[.string ⟨#[]⟩], _, rfl, rfl, ⟨[.string ⟨#[]⟩], _, rfl, rfl, ⟨[.int .i64 0], _, rfl, rfl, ⟨[.int .i64 0], _, rfl, rfl, ⟨[.int .i64 0], _, rfl, rfl, rfl⟩⟩⟩⟩⟩⟩⟩⟩) ?_
 intro v26
 obtain ⟨y27, e28, hm⟩ := bind_some hm
 refine RL.callK (vs := [v7, v26]) (V := fun (o : Value) => .tuple #[o, .int .i64 y27.2.1]) (LR := fun (o : Value) => [obox 78 TrH v7 (y27.2.2.1, (y27.2.2.2.1, u9)), obox 95 (TR.pair TR.str TR.int) u9 y27.2.2.2.2, imm (TR.pair TR.int TR.int) o y27.1]) (Ls := [obox 78 TrH v7 (y17.2.2.1, (y17.2.2.2.1, u9)), obox 95 (TR.pair TR.str TR.int) u9 y17.2.2.2.2]) [3, 4] (by decide) Tryz_fit26 rfl rfl rfl rfl rfl rfl (fun S f X w hO hB hW hI hL => house_House_Do_c _ S X f w _ _ y17.2.2  hO hB hI (hT.mono hW) _ _ (hL 7 _ _ rfl Sure.imm) _ e28) ?_
 intro v29
 refine RL.reL (L' := [gone, gone, imm TrE v16 (((1 : Int), (5 : Int), ([97] : List UInt8), (([] : List UInt8), ([] : List UInt8), (0 : Int), (0 : Int), (0 : Int), (0 : Int))) : (Int × (Int × ((List UInt8) × ((List UInt8) × ((List UInt8) × (Int × (Int × (Int × Int))))))))), gone, gone, imm (TR.pair TR.int TR.int) v19 y17.1, obox 57 (TR.pair TR.int TR.int) v20 y17.1, imm TrE v26 (((1 : Int), (9 : Int), ([98] : List UInt8), (([] : List UInt8), ([] : List UInt8), (0 : Int), (0 : Int), (0 : Int), (0 : Int))) : (Int × (Int × ((List UInt8) × ((List UInt8) × ((List UInt8) × (Int × (Int × (Int × Int))))))))), obox 78 TrH v7 (y27.2.2.1, (y27.2.2.2.1, u9)), obox 95 (TR.pair TR.str TR.int) u9 y27.2.2.2.2, imm (TR.pair TR.int TR.int) v29 y27.1]) rfl ?_
 refine RL.mv rfl rfl rfl ?_
 refine RL.ext rfl rfl rfl rfl ?_
 refine RL.ext rfl rfl rfl rfl ?_
 refine RL.alloc (t := (TR.pair TR.int TR.int)) (z := ((0 : Int), (0 : Int))) Tryz_lo57 (fun S => ⟨[.int .i64 0], _, rfl, rfl, rfl⟩) rfl rfl rfl ?_
 intro v30
 refine RL.stP (off := 0) (e' := y27.1) (d1 := y27.1) (r := (TR.pair TR.int TR.int)) 11 Tryz_ln57 rfl rfl (Or.inr ⟨rfl, rfl⟩) rfl (VR.item 10 rfl) rfl Upd.self ?_
 refine RL.reL (L' := [gone, gone, imm TrE v16 (((1 : Int), (5 : Int), ([97] : List UInt8), (([] : List UInt8), ([] : List UInt8), (0 : Int), (0 : Int), (0 : Int), (0 : Int))) : (Int × (Int × ((List UInt8) × ((List UInt8) × ((List UInt8) × (Int × (Int × (Int × Int))))))))), gone, gone, imm (TR.pair TR.int TR.int) v19 y17.1, obox 57 (TR.pair TR.int TR.int) v20 y17.1, imm TrE v26 (((1 : Int), (9 : Int), ([98] : List UInt8), (([] : List UInt8), ([] : List UInt8), (0 : Int), (0 : Int), (0 : Int), (0 : Int))) : (Int × (Int × ((List UInt8) × ((List UInt8) × ((List UInt8) × (Int × (Int × (Int × Int))))))))), obox 78 TrH v7 (y27.2.2.1, (y27.2.2.2.1, u9)), obox 95 (TR.pair TR.str TR.int) u9 y27.2.2.2.2, imm (TR.pair TR.int TR.int) v29 y27.1, obox 57 (TR.pair TR.int TR.int) v30 y27.1]) rfl ?_
 refine RL.asg rfl rfl rfl ?_
 refine RL.finG ?_
 refine GL.seq ?_
 refine GL.region ?_
 refine RL.mv rfl rfl rfl ?_
 refine RL.bld (t := TrD) (d0 := ((([98] : List UInt8), ([97] : List UInt8), (0 : Int), (3 : Int), (1 : Int), (2 : Int)) : ((List UInt8) × ((List UInt8) × (Int × (Int × (Int × Int))))))) (pv := [(0, .string ⟨(([98] : List UInt8) : List UInt8).toArray⟩), (1, .string ⟨(([97] : List UInt8) : List UInt8).toArray⟩), (3, .int .i64 (3 : Int)), (4, .int .i64 (1 : Int)), (5, .int .i64 (2 : Int))]) rfl Tryz_bld24 rfl rfl rfl ⟨⟨_, _, TR.str, ([98] : List UInt8), rfl, rfl, VR.str⟩, ⟨⟨_, _, TR.str, ([97] : List UInt8), rfl, rfl, VR.str⟩, ⟨⟨_, _, TR.int, (3 : Int), rfl, rfl, VR.int⟩, ⟨⟨_, _, TR.int, (1 : Int), rfl, rfl, VR.int⟩, ⟨⟨_, _, TR.int, (2 : Int), rfl, rfl, VR.int⟩, trivial⟩⟩⟩⟩⟩ (fun S f hi => by
   obtain ⟨c0, e0, r0⟩ := cells_vrep (t := TR.str) (u := .string ⟨(([98] : List UInt8) : List UInt8).toArray⟩) (e := ([98] : List UInt8)) (VR.str S f hi)
   obtain ⟨c1, e1, r1⟩ := cells_vrep (t := TR.str) (u := .string ⟨(([97] : List UInt8) : List UInt8).toArray⟩) (e := ([97] : List UInt8)) (VR.str S f hi)
   obtain ⟨c3, e3, r3⟩ := cells_vrep (t := TR.int) (u := .int .i64 (3 : Int)) (e := (3 : Int)) (VR.int S f hi)
   obtain ⟨c4, e4, r4⟩ := cells_vrep (t := TR.int) (u := .int .i64 (1 : Int)) (e := (1 : Int)) (VR.int S f hi)
   obtain ⟨c5, e5, r5⟩ := cells_vrep (t := TR.int) (u := .int .i64 (2 : Int)) (e := (2 : Int)) (VR.int S f hi)
   show TR.rep TrD S (List.flatten [(.string ⟨(([98] : List UInt8) : List UInt8).toArray⟩ : Value).cells.toList, (.string ⟨(([97] : List UInt8) : List UInt8).toArray⟩ : Value).cells.toList, [.int .i64 0], (.int .i64 (3 : Int) : Value).cells.toList, (.int .i64 (1 : Int) : Value).cells.toList, (.int .i64 (2 : Int) : Value).cells.toList]) _
   simp only [e0, e1, e3, e4, e5,  List.flatten_cons, List.flatten_nil, List.append_nil]
   exact ⟨_, _, rfl, r0, ⟨_, _, rfl, r1, ⟨_, _, rfl, rfl, ⟨_, _, rfl, r3, ⟨_, _, rfl, r4, r5⟩⟩⟩⟩⟩) ?_
 intro v37
 refine RL.bld (t := TrE) (d0 := (((2 : Int), (0 : Int), ([] : List UInt8), ((([98] : List UInt8), ([97] : List UInt8), (0 : Int), (3 : Int), (1 : Int), (2 : Int)) : ((List UInt8) × ((List UInt8) × (Int × (Int × (Int × Int))))))) : (Int × (Int × ((List UInt8) × ((List UInt8) × ((List UInt8) × (Int × (Int × (Int × Int)))))))))) (pv := [(0, .int .i64 (2 : Int)), (3, v37)]) rfl Tryz_bld61 rfl rfl rfl ⟨⟨_, _, TR.int, (2 : Int), rfl, rfl, VR.int⟩, ⟨⟨_, _, TrD, ((([98] : List UInt8), ([97] : List UInt8), (0 : Int), (3 : Int), (1 : Int), (2 : Int)) : ((List UInt8) × ((List UInt8) × (Int × (Int × (Int × Int)))))), rfl, rfl, (VR.item 12 rfl)⟩, trivial⟩⟩ (fun S f hi => by
   obtain ⟨c0, e0, r0⟩ := cells_vrep (t := TR.int) (u := .int .i64 (2 : Int)) (e := (2 : Int)) (VR.int S f hi)
   obtain ⟨c3, e3, r3⟩ := cells_vrep (t := TrD) (u := v37) (e := ((([98] : List UInt8), ([97] : List UInt8), (0 : Int), (3 : Int), (1 : Int), (2 : Int)) : ((List UInt8) × ((List UInt8) × (Int × (Int × (Int × Int))))))) ((VR.item 12 rfl) S f hi)
   show TR.rep TrE S (List.flatten [(.int .i64 (2 : Int) : Value).cells.toList, [.int .i64 0], [.string ⟨#[]⟩], (v37 : Value).cells.toList]) _
   simp only [e0, e3,  List.flatten_cons, List.flatten_nil, List.append_nil]
   exact ⟨_, _, rfl, r0, ⟨_, _, rfl, rfl, ⟨_, _, rfl, rfl, r3⟩⟩⟩) ?_
 intro v38
 refine RL.reL (L' := [gone, gone, imm TrE v16 (((1 : Int), (5 : Int), ([97] : List UInt8), (([] : List UInt8), ([] : List UInt8), (0 : Int), (0 : Int), (0 : Int), (0 : Int))) : (Int × (Int × ((List UInt8) × ((List UInt8) × ((List UInt8) × (Int × (Int × (Int × Int))))))))), gone, gone, imm (TR.pair TR.int TR.int) v19 y17.1, obox 57 (TR.pair TR.int TR.int) v20 y17.1, imm TrE v26 (((1 : Int), (9 : Int), ([98] : List UInt8), (([] : List UInt8), ([] : List UInt8), (0 : Int), (0 : Int), (0 : Int), (0 : Int))) : (Int × (Int × ((List UInt8) × ((List UInt8) × ((List UInt8) × (Int × (Int × (Int × Int))))))))), obox 78 TrH v7 (y27.2.2.1, (y27.2.2.2.1, u9)), obox 95 (TR.pair TR.str TR.int) u9 y27.2.2.2.2, imm (TR.pair TR.int TR.int) v29 y27.1, obox 57 (TR.pair TR.int TR.int) v30 y27.1, imm TrD v37 ((([98] : List UInt8), ([97] : List UInt8), (0 : Int), (3 : Int), (1 : Int), (2 : Int)) : ((List UInt8) × ((List UInt8) × (Int × (Int × (Int × Int)))))), imm TrE v38 (((2 : Int), (0 : Int), ([] : List UInt8), ((([98] : List UInt8), ([97] : List UInt8), (0 : Int), (3 : Int), (1 : Int), (2 : Int)) : ((List UInt8) × ((List UInt8) × (Int × (Int × (Int × Int))))))) : (Int × (Int × ((List UInt8) × ((List UInt8) × ((List UInt8) × (Int × (Int × (Int × Int)))))))))]) rfl ?_
 obtain ⟨y39, e40, hm⟩ := bind_some hm
 refine RL.callK (vs := [v7, v38]) (V := fun (o : Value) => .tuple #[o, .int .i64 y39.2.1]) (LR := fun (o : Value) => [obox 78 TrH v7 (y39.2.2.1, (y39.2.2.2.1, u9)), obox 95 (TR.pair TR.str TR.int) u9 y39.2.2.2.2, imm (TR.pair TR.int TR.int) o y39.1]) (Ls := [obox 78 TrH v7 (y27.2.2.1, (y27.2.2.2.1, u9)), obox 95 (TR.pair TR.str TR.int) u9 y27.2.2.2.2]) [8, 9] (by decide) Tryz_fit26 rfl rfl rfl rfl rfl rfl (fun S f X w hO hB hW hI hL => house_House_Do_c _ S X f w _ _ y27.2.2  hO hB hI (hT.mono hW) _ _ (hL 13 _ _ rfl Sure.imm) _ e40) ?_
 intro v41
 refine RL.reL (L' := [gone, gone, imm TrE v16 (((1 : Int), (5 : Int), ([97] : List UInt8), (([] : List UInt8), ([] : List UInt8), (0 : Int), (0 : Int), (0 : Int), (0 : Int))) : (Int × (Int × ((List UInt8) × ((List UInt8) × ((List UInt8) × (Int × (Int × (Int × Int))))))))), gone, gone, imm (TR.pair TR.int TR.int) v19 y17.1, obox 57 (TR.pair TR.int TR.int) v20 y17.1, imm TrE v26 (((1 : Int), (9 : Int), ([98] : List UInt8), (([] : List UInt8), ([] : List UInt8), (0 : Int), (0 : Int), (0 : Int), (0 : Int))) : (Int × (Int × ((List UInt8) × ((List UInt8) × ((List UInt8) × (Int × (Int × (Int × Int))))))))), gone, gone, imm (TR.pair TR.int TR.int) v29 y27.1, obox 57 (TR.pair TR.int TR.int) v30 y27.1, imm TrD v37 ((([98] : List UInt8), ([97] : List UInt8), (0 : Int), (3 : Int), (1 : Int), (2 : Int)) : ((List UInt8) × ((List UInt8) × (Int × (Int × (Int × Int)))))), imm TrE v38 (((2 : Int), (0 : Int), ([] : List UInt8), ((([98] : List UInt8), ([97] : List UInt8), (0 : Int), (3 : Int), (1 : Int), (2 : Int)) : ((List UInt8) × ((List UInt8) × (Int × (Int × (Int × Int))))))) : (Int × (Int × ((List UInt8) × ((List UInt8) × ((List UInt8) × (Int × (Int × (Int × Int))))))))), obox 78 TrH v7 (y39.2.2.1, (y39.2.2.2.1, u9)), obox 95 (TR.pair TR.str TR.int) u9 y39.2.2.2.2, imm (TR.pair TR.int TR.int) v41 y39.1]) rfl ?_
 refine RL.mv rfl rfl rfl ?_
 refine RL.ext rfl rfl rfl rfl ?_
 refine RL.ext rfl rfl rfl rfl ?_
 refine RL.alloc (t := (TR.pair TR.int TR.int)) (z := ((0 : Int), (0 : Int))) Tryz_lo57 (fun S => ⟨[.int .i64 0], _, rfl, rfl, rfl⟩) rfl rfl rfl ?_
 intro v42
 refine RL.stP (off := 0) (e' := y39.1) (d1 := y39.1) (r := (TR.pair TR.int TR.int)) 17 Tryz_ln57 rfl rfl (Or.inr ⟨rfl, rfl⟩) rfl (VR.item 16 rfl) rfl Upd.self ?_
 refine RL.reL (L' := [gone, gone, imm TrE v16 (((1 : Int), (5 : Int), ([97] : List UInt8), (([] : List UInt8), ([] : List UInt8), (0 : Int), (0 : Int), (0 : Int), (0 : Int))) : (Int × (Int × ((List UInt8) × ((List UInt8) × ((List UInt8) × (Int × (Int × (Int × Int))))))))), gone, gone, imm (TR.pair TR.int TR.int) v19 y17.1, obox 57 (TR.pair TR.int TR.int) v20 y17.1, imm TrE v26 (((1 : Int), (9 : Int), ([98] : List UInt8), (([] : List UInt8), ([] : List UInt8), (0 : Int), (0 : Int), (0 : Int), (0 : Int))) : (Int × (Int × ((List UInt8) × ((List UInt8) × ((List UInt8) × (Int × (Int × (Int × Int))))))))), gone, gone, imm (TR.pair TR.int TR.int) v29 y27.1, obox 57 (TR.pair TR.int TR.int) v30 y27.1, imm TrD v37 ((([98] : List UInt8), ([97] : List UInt8), (0 : Int), (3 : Int), (1 : Int), (2 : Int)) : ((List UInt8) × ((List UInt8) × (Int × (Int × (Int × Int)))))), imm TrE v38 (((2 : Int), (0 : Int), ([] : List UInt8), ((([98] : List UInt8), ([97] : List UInt8), (0 : Int), (3 : Int), (1 : Int), (2 : Int)) : ((List UInt8) × ((List UInt8) × (Int × (Int × (Int × Int))))))) : (Int × (Int × ((List UInt8) × ((List UInt8) × ((List UInt8) × (Int × (Int × (Int × Int))))))))), obox 78 TrH v7 (y39.2.2.1, (y39.2.2.2.1, u9)), obox 95 (TR.pair TR.str TR.int) u9 y39.2.2.2.2, imm (TR.pair TR.int TR.int) v41 y39.1, obox 57 (TR.pair TR.int TR.int) v42 y39.1]) rfl ?_
 refine RL.asg rfl rfl rfl ?_
 refine RL.finG ?_
 refine GL.seq ?_
 refine GL.region ?_
 refine RL.mv rfl rfl rfl ?_
 refine RL.bld (t := TrE) (d0 := (((3 : Int), (2 : Int), ([97] : List UInt8), (([] : List UInt8), ([] : List UInt8), (0 : Int), (0 : Int), (0 : Int), (0 : Int))) : (Int × (Int × ((List UInt8) × ((List UInt8) × ((List UInt8) × (Int × (Int × (Int × Int)))))))))) (pv := [(0, .int .i64 (3 : Int)), (2, .string ⟨(([97] : List UInt8) : List UInt8).toArray⟩), (1, .int .i64 (2 : Int))]) rfl Tryz_bld61 rfl rfl rfl ⟨⟨_, _, TR.int, (3 : Int), rfl, rfl, VR.int⟩, ⟨⟨_, _, TR.str, ([97] : List UInt8), rfl, rfl, VR.str⟩, ⟨⟨_, _, TR.int, (2 : Int), rfl, rfl, VR.int⟩, trivial⟩⟩⟩ (fun S f hi => by
   obtain ⟨c0, e0, r0⟩ := cells_vrep (t := TR.int) (u := .int .i64 (3 : Int)) (e := (3 : Int)) (VR.int S f hi)
   obtain ⟨c1, e1, r1⟩ := cells_vrep (t := TR.int) (u := .int .i64 (2 : Int)) (e := (2 : Int)) (VR.int S f hi)
   obtain ⟨c2, e2, r2⟩ := cells_vrep (t := TR.str) (u := .string ⟨(([97] : List UInt8) : List UInt8).toArray⟩) (e := ([97] : List UInt8)) (VR.str S f hi)
   show TR.rep TrE S (List.flatten [(.int .i64 (3 : Int) : Value).cells.toList, (.int .i64 (2 : Int) : Value).cells.toList, (.string ⟨(([97] : List UInt8) : List UInt8).toArray⟩ : Value).cells.toList, [.string ⟨#[]⟩, .string ⟨#[]⟩, .int .i64 0, .int .i64 0, .int .i64 0, .int .i64 0]]) _
   simp only [e0, e1, e2,  List.flatten_cons, List.flatten_nil, List.append_nil]
   exact ⟨_, _, rfl, r0, ⟨_, _, rfl, r1, ⟨_, _, rfl, r2, ⟨[.string ⟨#[]⟩], _, rfl, rfl, ⟨[.string ⟨#[]⟩], _, rfl, rfl, ⟨[.int .i64 0], _, rfl, rfl, ⟨[.int .i64 0], _, rfl, rfl, ⟨[.int .i64 0], _, rfl, rfl, rfl⟩⟩⟩⟩⟩⟩⟩⟩) ?_
 intro v48
 obtain ⟨y49, e50, hm⟩ := bind_some hm
 refine RL.callK (vs := [v7, v48]) (V := fun (o : Value) => .tuple #[o, .int .i64 y49.2.1]) (LR := fun (o : Value) => [obox 78 TrH v7 (y49.2.2.1, (y49.2.2.2.1, u9)), obox 95 (TR.pair TR.str TR.int) u9 y49.2.2.2.2, imm (TR.pair TR.int TR.int) o y49.1]) (Ls := [obox 78 TrH v7 (y39.2.2.1, (y39.2.2.2.1, u9)), obox 95 (TR.pair TR.str TR.int) u9 y39.2.2.2.2]) [14, 15] (by decide) Tryz_fit26 rfl rfl rfl rfl rfl rfl (fun S f X w hO hB hW hI hL => house_House_Do_c _ S X f w _ _ y39.2.2  hO hB hI (hT.mono hW) _ _ (hL 18 _ _ rfl Sure.imm) _ e50) ?_
 intro v51
 refine RL.reL (L' := [gone, gone, imm TrE v16 (((1 : Int), (5 : Int), ([97] : List UInt8), (([] : List UInt8), ([] : List UInt8), (0 : Int), (0 : Int), (0 : Int), (0 : Int))) : (Int × (Int × ((List UInt8) × ((List UInt8) × ((List UInt8) × (Int × (Int × (Int × Int))))))))), gone, gone, imm (TR.pair TR.int TR.int) v19 y17.1, obox 57 (TR.pair TR.int TR.int) v20 y17.1, imm TrE v26 (((1 : Int), (9 : Int), ([98] : List UInt8), (([] : List UInt8), ([] : List UInt8), (0 : Int), (0 : Int), (0 : Int), (0 : Int))) : (Int × (Int × ((List UInt8) × ((List UInt8) × ((List UInt8) × (Int × (Int × (Int × Int))))))))), gone, gone, imm (TR.pair TR.int TR.int) v29 y27.1, obox 57 (TR.pair TR.int TR.int) v30 y27.1, imm TrD v37 ((([98] : List UInt8), ([97] : List UInt8), (0 : Int), (3 : Int), (1 : Int), (2 : Int)) : ((List UInt8) × ((List UInt8) × (Int × (Int × (Int × Int)))))), imm TrE v38 (((2 : Int), (0 : Int), ([] : List UInt8), ((([98] : List UInt8), ([97] : List UInt8), (0 : Int), (3 : Int), (1 : Int), (2 : Int)) : ((List UInt8) × ((List UInt8) × (Int × (Int × (Int × Int))))))) : (Int × (Int × ((List UInt8) × ((List UInt8) × ((List UInt8) × (Int × (Int × (Int × Int))))))))), gone, gone, imm (TR.pair TR.int TR.int) v41 y39.1, obox 57 (TR.pair TR.int TR.int) v42 y39.1, imm TrE v48 (((3 : Int), (2 : Int), ([97] : List UInt8), (([] : List UInt8), ([] : List UInt8), (0 : Int), (0 : Int), (0 : Int), (0 : Int))) : (Int × (Int × ((List UInt8) × ((List UInt8) × ((List UInt8) × (Int × (Int × (Int × Int))))))))), obox 78 TrH v7 (y49.2.2.1, (y49.2.2.2.1, u9)), obox 95 (TR.pair TR.str TR.int) u9 y49.2.2.2.2, imm (TR.pair TR.int TR.int) v51 y49.1]) rfl ?_
 refine RL.mv rfl rfl rfl ?_
 refine RL.ext rfl rfl rfl rfl ?_
 refine RL.ext rfl rfl rfl rfl ?_
 refine RL.alloc (t := (TR.pair TR.int TR.int)) (z := ((0 : Int), (0 : Int))) Tryz_lo57 (fun S => ⟨[.int .i64 0], _, rfl, rfl, rfl⟩) rfl rfl rfl ?_
 intro v52
 refine RL.stP (off := 0) (e' := y49.1) (d1 := y49.1) (r := (TR.pair TR.int TR.int)) 22 Tryz_ln57 rfl rfl (Or.inr ⟨rfl, rfl⟩) rfl (VR.item 21 rfl) rfl Upd.self ?_
 refine RL.reL (L' := [gone, gone, imm TrE v16 (((1 : Int), (5 : Int), ([97] : List UInt8), (([] : List UInt8), ([] : List UInt8), (0 : Int), (0 : Int), (0 : Int), (0 : Int))) : (Int × (Int × ((List UInt8) × ((List UInt8) × ((List UInt8) × (Int × (Int × (Int × Int))))))))), gone, gone, imm (TR.pair TR.int TR.int) v19 y17.1, obox 57 (TR.pair TR.int TR.int) v20 y17.1, imm TrE v26 (((1 : Int), (9 : Int), ([98] : List UInt8), (([] : List UInt8), ([] : List UInt8), (0 : Int), (0 : Int), (0 : Int), (0 : Int))) : (Int × (Int × ((List UInt8) × ((List UInt8) × ((List UInt8) × (Int × (Int × (Int × Int))))))))), gone, gone, imm (TR.pair TR.int TR.int) v29 y27.1, obox 57 (TR.pair TR.int TR.int) v30 y27.1, imm TrD v37 ((([98] : List UInt8), ([97] : List UInt8), (0 : Int), (3 : Int), (1 : Int), (2 : Int)) : ((List UInt8) × ((List UInt8) × (Int × (Int × (Int × Int)))))), imm TrE v38 (((2 : Int), (0 : Int), ([] : List UInt8), ((([98] : List UInt8), ([97] : List UInt8), (0 : Int), (3 : Int), (1 : Int), (2 : Int)) : ((List UInt8) × ((List UInt8) × (Int × (Int × (Int × Int))))))) : (Int × (Int × ((List UInt8) × ((List UInt8) × ((List UInt8) × (Int × (Int × (Int × Int))))))))), gone, gone, imm (TR.pair TR.int TR.int) v41 y39.1, obox 57 (TR.pair TR.int TR.int) v42 y39.1, imm TrE v48 (((3 : Int), (2 : Int), ([97] : List UInt8), (([] : List UInt8), ([] : List UInt8), (0 : Int), (0 : Int), (0 : Int), (0 : Int))) : (Int × (Int × ((List UInt8) × ((List UInt8) × ((List UInt8) × (Int × (Int × (Int × Int))))))))), obox 78 TrH v7 (y49.2.2.1, (y49.2.2.2.1, u9)), obox 95 (TR.pair TR.str TR.int) u9 y49.2.2.2.2, imm (TR.pair TR.int TR.int) v51 y49.1, obox 57 (TR.pair TR.int TR.int) v52 y49.1]) rfl ?_
 refine RL.asg rfl rfl rfl ?_
 refine RL.finG ?_
 refine GL.seq ?_
 refine GL.region ?_
 refine RL.mv rfl rfl rfl ?_
 refine RL.bld (t := TrE) (d0 := (((6 : Int), (0 : Int), ([97] : List UInt8), (([] : List UInt8), ([] : List UInt8), (0 : Int), (0 : Int), (0 : Int), (0 : Int))) : (Int × (Int × ((List UInt8) × ((List UInt8) × ((List UInt8) × (Int × (Int × (Int × Int)))))))))) (pv := [(0, .int .i64 (6 : Int)), (2, .string ⟨(([97] : List UInt8) : List UInt8).toArray⟩)]) rfl Tryz_bld61 rfl rfl rfl ⟨⟨_, _, TR.int, (6 : Int), rfl, rfl, VR.int⟩, ⟨⟨_, _, TR.str, ([97] : List UInt8), rfl, rfl, VR.str⟩, trivial⟩⟩ (fun S f hi => by
   obtain ⟨c0, e0, r0⟩ := cells_vrep (t := TR.int) (u := .int .i64 (6 : Int)) (e := (6 : Int)) (VR.int S f hi)
   obtain ⟨c2, e2, r2⟩ := cells_vrep (t := TR.str) (u := .string ⟨(([97] : List UInt8) : List UInt8).toArray⟩) (e := ([97] : List UInt8)) (VR.str S f hi)
   show TR.rep TrE S (List.flatten [(.int .i64 (6 : Int) : Value).cells.toList, [.int .i64 0], (.string ⟨(([97] : List UInt8) : List UInt8).toArray⟩ : Value).cells.toList, [.string ⟨#[]⟩, .string ⟨#[]⟩, .int .i64 0, .int .i64 0, .int .i64 0, .int .i64 0]]) _
   simp only [e0, e2,  List.flatten_cons, List.flatten_nil, List.append_nil]
   exact ⟨_, _, rfl, r0, ⟨_, _, rfl, rfl, ⟨_, _, rfl, r2, ⟨[.string ⟨#[]⟩], _, rfl, rfl, ⟨[.string ⟨#[]⟩], _, rfl, rfl, ⟨[.int .i64 0], _, rfl, rfl, ⟨[.int .i64 0], _, rfl, rfl, ⟨[.int .i64 0], _, rfl, rfl, rfl⟩⟩⟩⟩⟩⟩⟩⟩) ?_
 intro v58
 obtain ⟨y59, e60, hm⟩ := bind_some hm
 refine RL.callK (vs := [v7, v58]) (V := fun (o : Value) => .tuple #[o, .int .i64 y59.2.1]) (LR := fun (o : Value) => [obox 78 TrH v7 (y59.2.2.1, (y59.2.2.2.1, u9)), obox 95 (TR.pair TR.str TR.int) u9 y59.2.2.2.2, imm (TR.pair TR.int TR.int) o y59.1]) (Ls := [obox 78 TrH v7 (y49.2.2.1, (y49.2.2.2.1, u9)), obox 95 (TR.pair TR.str TR.int) u9 y49.2.2.2.2]) [19, 20] (by decide) Tryz_fit26 rfl rfl rfl rfl rfl rfl (fun S f X w hO hB hW hI hL => house_House_Do_c _ S X f w _ _ y49.2.2  hO hB hI (hT.mono hW) _ _ (hL 23 _ _ rfl Sure.imm) _ e60) ?_
 intro v61
 refine RL.reL (L' := [gone, gone, imm TrE v16 (((1 : Int), (5 : Int), ([97] : List UInt8), (([] : List UInt8), ([] : List UInt8), (0 : Int), (0 : Int), (0 : Int), (0 : Int))) : (Int × (Int × ((List UInt8) × ((List UInt8) × ((List UInt8) × (Int × (Int × (Int × Int))))))))), gone, gone, imm (TR.pair TR.int TR.int) v19 y17.1, obox 57 (TR.pair TR.int TR.int) v20 y17.1, imm TrE v26 (((1 : Int), (9 : Int), ([98] : List UInt8), (([] : List UInt8), ([] : List UInt8), (0 : Int), (0 : Int), (0 : Int), (0 : Int))) : (Int × (Int × ((List UInt8) × ((List UInt8) × ((List UInt8) × (Int × (Int × (Int × Int))))))))), gone, gone, imm (TR.pair TR.int TR.int) v29 y27.1, obox 57 (TR.pair TR.int TR.int) v30 y27.1, imm TrD v37 ((([98] : List UInt8), ([97] : List UInt8), (0 : Int), (3 : Int), (1 : Int), (2 : Int)) : ((List UInt8) × ((List UInt8) × (Int × (Int × (Int × Int)))))), imm TrE v38 (((2 : Int), (0 : Int), ([] : List UInt8), ((([98] : List UInt8), ([97] : List UInt8), (0 : Int), (3 : Int), (1 : Int), (2 : Int)) : ((List UInt8) × ((List UInt8) × (Int × (Int × (Int × Int))))))) : (Int × (Int × ((List UInt8) × ((List UInt8) × ((List UInt8) × (Int × (Int × (Int × Int))))))))), gone, gone, imm (TR.pair TR.int TR.int) v41 y39.1, obox 57 (TR.pair TR.int TR.int) v42 y39.1, imm TrE v48 (((3 : Int), (2 : Int), ([97] : List UInt8), (([] : List UInt8), ([] : List UInt8), (0 : Int), (0 : Int), (0 : Int), (0 : Int))) : (Int × (Int × ((List UInt8) × ((List UInt8) × ((List UInt8) × (Int × (Int × (Int × Int))))))))), gone, gone, imm (TR.pair TR.int TR.int) v51 y49.1, obox 57 (TR.pair TR.int TR.int) v52 y49.1, imm TrE v58 (((6 : Int), (0 : Int), ([97] : List UInt8), (([] : List UInt8), ([] : List UInt8), (0 : Int), (0 : Int), (0 : Int), (0 : Int))) : (Int × (Int × ((List UInt8) × ((List UInt8) × ((List UInt8) × (Int × (Int × (Int × Int))))))))), obox 78 TrH v7 (y59.2.2.1, (y59.2.2.2.1, u9)), obox 95 (TR.pair TR.str TR.int) u9 y59.2.2.2.2, imm (TR.pair TR.int TR.int) v61 y59.1]) rfl ?_
 refine RL.mv rfl rfl rfl ?_
 refine RL.ext rfl rfl rfl rfl ?_
 refine RL.ext rfl rfl rfl rfl ?_
 refine RL.alloc (t := (TR.pair TR.int TR.int)) (z := ((0 : Int), (0 : Int))) Tryz_lo57 (fun S => ⟨[.int .i64 0], _, rfl, rfl, rfl⟩) rfl rfl rfl ?_
 intro v62
 refine RL.stP (off := 0) (e' := y59.1) (d1 := y59.1) (r := (TR.pair TR.int TR.int)) 27 Tryz_ln57 rfl rfl (Or.inr ⟨rfl, rfl⟩) rfl (VR.item 26 rfl) rfl Upd.self ?_
 refine RL.reL (L' := [gone, gone, imm TrE v16 (((1 : Int), (5 : Int), ([97] : List UInt8), (([] : List UInt8), ([] : List UInt8), (0 : Int), (0 : Int), (0 : Int), (0 : Int))) : (Int × (Int × ((List UInt8) × ((List UInt8) × ((List UInt8) × (Int × (Int × (Int × Int))))))))), gone, gone, imm (TR.pair TR.int TR.int) v19 y17.1, obox 57 (TR.pair TR.int TR.int) v20 y17.1, imm TrE v26 (((1 : Int), (9 : Int), ([98] : List UInt8), (([] : List UInt8), ([] : List UInt8), (0 : Int), (0 : Int), (0 : Int), (0 : Int))) : (Int × (Int × ((List UInt8) × ((List UInt8) × ((List UInt8) × (Int × (Int × (Int × Int))))))))), gone, gone, imm (TR.pair TR.int TR.int) v29 y27.1, obox 57 (TR.pair TR.int TR.int) v30 y27.1, imm TrD v37 ((([98] : List UInt8), ([97] : List UInt8), (0 : Int), (3 : Int), (1 : Int), (2 : Int)) : ((List UInt8) × ((List UInt8) × (Int × (Int × (Int × Int)))))), imm TrE v38 (((2 : Int), (0 : Int), ([] : List UInt8), ((([98] : List UInt8), ([97] : List UInt8), (0 : Int), (3 : Int), (1 : Int), (2 : Int)) : ((List UInt8) × ((List UInt8) × (Int × (Int × (Int × Int))))))) : (Int × (Int × ((List UInt8) × ((List UInt8) × ((List UInt8) × (Int × (Int × (Int × Int))))))))), gone, gone, imm (TR.pair TR.int TR.int) v41 y39.1, obox 57 (TR.pair TR.int TR.int) v42 y39.1, imm TrE v48 (((3 : Int), (2 : Int), ([97] : List UInt8), (([] : List UInt8), ([] : List UInt8), (0 : Int), (0 : Int), (0 : Int), (0 : Int))) : (Int × (Int × ((List UInt8) × ((List UInt8) × ((List UInt8) × (Int × (Int × (Int × Int))))))))), gone, gone, imm (TR.pair TR.int TR.int) v51 y49.1, obox 57 (TR.pair TR.int TR.int) v52 y49.1, imm TrE v58 (((6 : Int), (0 : Int), ([97] : List UInt8), (([] : List UInt8), ([] : List UInt8), (0 : Int), (0 : Int), (0 : Int), (0 : Int))) : (Int × (Int × ((List UInt8) × ((List UInt8) × ((List UInt8) × (Int × (Int × (Int × Int))))))))), obox 78 TrH v7 (y59.2.2.1, (y59.2.2.2.1, u9)), obox 95 (TR.pair TR.str TR.int) u9 y59.2.2.2.2, imm (TR.pair TR.int TR.int) v61 y59.1, obox 57 (TR.pair TR.int TR.int) v62 y59.1]) rfl ?_
 refine RL.asg rfl rfl rfl ?_
 refine RL.finG ?_
 refine GL.seq ?_
 obtain ⟨y82, K83, h84, h85, h86, h87, h88⟩ := bindR_K hm
 refine GL.join (ι := Bool) (fun (p : Bool) => [(0, .bool p)]) (fun (p : Bool) => []) (fun (p : Bool) => K83 (.nx p)) ?_ ?_
 ·skip
  refine GL.region ?_
  refine RL.mv rfl rfl rfl ?_
  refine RL.mv rfl rfl rfl ?_
  refine RL.mv rfl rfl rfl ?_
  refine RL.mv rfl rfl rfl ?_
  refine RL.mv rfl rfl rfl ?_
  refine RL.bS (t := TR.int) (vs := [.int .i64 y17.2.1, .int .i64 y27.2.1, .int .i64 y39.2.1, .int .i64 y49.2.1, .int .i64 y59.2.1]) ([y17.2.1, y27.2.1, y39.2.1, y49.2.1, y59.2.1] : (List Int)) Tryz.underlying79 Tryz_lo32 rfl rfl rfl rfl ⟨VR.int, ⟨VR.int, ⟨VR.int, ⟨VR.int, ⟨VR.int, trivial⟩⟩⟩⟩⟩ rfl (by decide) ?_
  intro v89
  obtain ⟨y90, e91, h84⟩ := bind_some h84
  refine RL.callV (v := .bool y90) (vs := [v89]) Tryz_fit23 rfl (Or.inl rfl) rfl rfl rfl rfl (fun U w hU hW hL => pk_good_c U w hU _ _ (hL 28 _ _ rfl Seen.own) _ e91) ?_
  refine RL.mv rfl rfl rfl ?_
  refine RL.split (t := 53) rfl (fun b92 => ?_) (fun b92 => ?_)
  ·replace h84 := ite_t b92 h84
   refine RL.ldP (off := 0) (r := (TR.pair TR.int TR.int)) (e' := y49.1) 22 Tryz_ln57 rfl rfl (Or.inr ⟨rfl, rfl⟩) rfl PtOf.obox Part.self ?_
   intro v93
   refine RL.reL (L' := [gone, gone, imm TrE v16 (((1 : Int), (5 : Int), ([97] : List UInt8), (([] : List UInt8), ([] : List UInt8), (0 : Int), (0 : Int), (0 : Int), (0 : Int))) : (Int × (Int × ((List UInt8) × ((List UInt8) × ((List UInt8) × (Int × (Int × (Int × Int))))))))), gone, gone, imm (TR.pair TR.int TR.int) v19 y17.1, obox 57 (TR.pair TR.int TR.int) v20 y17.1, imm TrE v26 (((1 : Int), (9 : Int), ([98] : List UInt8), (([] : List UInt8), ([] : List UInt8), (0 : Int), (0 : Int), (0 : Int), (0 : Int))) : (Int × (Int × ((List UInt8) × ((List UInt8) × ((List UInt8) × (Int × (Int × (Int × Int))))))))), gone, gone, imm (TR.pair TR.int TR.int) v29 y27.1, obox 57 (TR.pair TR.int TR.int) v30 y27.1, imm TrD v37 ((([98] : List UInt8), ([97] : List UInt8), (0 : Int), (3 : Int), (1 : Int), (2 : Int)) : ((List UInt8) × ((List UInt8) × (Int × (Int × (Int × Int)))))), imm TrE v38 (((2 : Int), (0 : Int), ([] : List UInt8), ((([98] : List UInt8), ([97] : List UInt8), (0 : Int), (3 : Int), (1 : Int), (2 : Int)) : ((List UInt8) × ((List UInt8) × (Int × (Int × (Int × Int))))))) : (Int × (Int × ((List UInt8) × ((List UInt8) × ((List UInt8) × (Int × (Int × (Int × Int))))))))), gone, gone, imm (TR.pair TR.int TR.int) v41 y39.1, obox 57 (TR.pair TR.int TR.int) v42 y39.1, imm TrE v48 (((3 : Int), (2 : Int), ([97] : List UInt8), (([] : List UInt8), ([] : List UInt8), (0 : Int), (0 : Int), (0 : Int), (0 : Int))) : (Int × (Int × ((List UInt8) × ((List UInt8) × ((List UInt8) × (Int × (Int × (Int × Int))))))))), gone, gone, imm (TR.pair TR.int TR.int) v51 y49.1, obox 57 (TR.pair TR.int TR.int) v52 y49.1, imm TrE v58 (((6 : Int), (0 : Int), ([97] : List UInt8), (([] : List UInt8), ([] : List UInt8), (0 : Int), (0 : Int), (0 : Int), (0 : Int))) : (Int × (Int × ((List UInt8) × ((List UInt8) × ((List UInt8) × (Int × (Int × (Int × Int))))))))), obox 78 TrH v7 (y59.2.2.1, (y59.2.2.2.1, u9)), obox 95 (TR.pair TR.str TR.int) u9 y59.2.2.2.2, imm (TR.pair TR.int TR.int) v61 y59.1, obox 57 (TR.pair TR.int TR.int) v62 y59.1, own 32 TR.int v89 ([y17.2.1, y27.2.1, y39.2.1, y49.2.1, y59.2.1] : (List Int)), imm (TR.pair TR.int TR.int) v93 y49.1]) rfl ?_
   refine RL.bld (t := (TR.pair TR.int TR.int)) (d0 := (((1 : Int), (1 : Int)) : (Int × Int))) (pv := [(0, .int .i64 (1 : Int)), (1, .int .i64 (1 : Int))]) rfl Tryz_bld57 rfl rfl rfl ⟨⟨_, _, TR.int, (1 : Int), rfl, rfl, VR.int⟩, ⟨⟨_, _, TR.int, (1 : Int), rfl, rfl, VR.int⟩, trivial⟩⟩ (fun S f hi => by
     obtain ⟨c0, e0, r0⟩ := cells_vrep (t := TR.int) (u := .int .i64 (1 : Int)) (e := (1 : Int)) (VR.int S f hi)
     obtain ⟨c1, e1, r1⟩ := cells_vrep (t := TR.int) (u := .int .i64 (1 : Int)) (e := (1 : Int)) (VR.int S f hi)
     show TR.rep (TR.pair TR.int TR.int) S (List.flatten [(.int .i64 (1 : Int) : Value).cells.toList, (.int .i64 (1 : Int) : Value).cells.toList]) _
     simp only [e0, e1,  List.flatten_cons, List.flatten_nil, List.append_nil]
     exact ⟨_, _, rfl, r0, r0⟩) ?_
   intro v94
   refine RL.eqG (t := (TR.pair TR.int TR.int)) (e := y49.1) (e' := (((1 : Int), (1 : Int)) : (Int × Int))) rfl Tryz_eq57 (by decide) Tryz.eqGuardType57 rfl rfl rfl rfl (VR.item 29 rfl) (VR.item 30 rfl) ?_
   refine RL.pickT rfl rfl rfl rfl ?_
   refine RL.mv rfl rfl rfl ?_
   refine RL.split (t := 58) rfl (fun b95 => ?_) (fun b95 => ?_)
   ·replace h84 := ite_t b95 h84
    refine RL.ldP (off := 0) (r := (TR.pair TR.int TR.int)) (e' := y59.1) 27 Tryz_ln57 rfl rfl (Or.inr ⟨rfl, rfl⟩) rfl PtOf.obox Part.self ?_
    intro v96
    refine RL.reL (L' := [gone, gone, imm TrE v16 (((1 : Int), (5 : Int), ([97] : List UInt8), (([] : List UInt8), ([] : List UInt8), (0 : Int), (0 : Int), (0 : Int), (0 : Int))) : (Int × (Int × ((List UInt8) × ((List UInt8) × ((List UInt8) × (Int × (Int × (Int × Int))))))))), gone, gone, imm (TR.pair TR.int TR.int) v19 y17.1, obox 57 (TR.pair TR.int TR.int) v20 y17.1, imm TrE v26 (((1 : Int), (9 : Int), ([98] : List UInt8), (([] : List UInt8), ([] : List UInt8), (0 : Int), (0 : Int), (0 : Int), (0 : Int))) : (Int × (Int × ((List UInt8) × ((List UInt8) × ((List UInt8) × (Int × (Int × (Int × Int))))))))), gone, gone, imm (TR.pair TR.int TR.int) v29 y27.1, obox 57 (TR.pair TR.int TR.int) v30 y27.1, imm TrD v37 ((([98] : List UInt8), ([97] : List UInt8), (0 : Int), (3 : Int), (1 : Int), (2 : Int)) : ((List UInt8) × ((List UInt8) × (Int × (Int × (Int × Int)))))), imm TrE v38 (((2 : Int), (0 : Int), ([] : List UInt8), ((([98] : List UInt8), ([97] : List UInt8), (0 : Int), (3 : Int), (1 : Int), (2 : Int)) : ((List UInt8) × ((List UInt8) × (Int × (Int × (Int × Int))))))) : (Int × (Int × ((List UInt8) × ((List UInt8) × ((List UInt8) × (Int × (Int × (Int × Int))))))))), gone, gone, imm (TR.pair TR.int TR.int) v41 y39.1, obox 57 (TR.pair TR.int TR.int) v42 y39.1, imm TrE v48 (((3 : Int), (2 : Int), ([97] : List UInt8), (([] : List UInt8), ([] : List UInt8), (0 : Int), (0 : Int), (0 : Int), (0 : Int))) : (Int × (Int × ((List UInt8) × ((List UInt8) × ((List UInt8) × (Int × (Int × (Int × Int))))))))), gone, gone, imm (TR.pair TR.int TR.int) v51 y49.1, obox 57 (TR.pair TR.int TR.int) v52 y49.1, imm TrE v58 (((6 : Int), (0 : Int), ([97] : List UInt8), (([] : List UInt8), ([] : List UInt8), (0 : Int), (0 : Int), (0 : Int), (0 : Int))) : (Int × (Int × ((List UInt8) × ((List UInt8) × ((List UInt8) × (Int × (Int × (Int × Int))))))))), obox 78 TrH v7 (y59.2.2.1, (y59.2.2.2.1, u9)), obox 95 (TR.pair TR.str TR.int) u9 y59.2.2.2.2, imm (TR.pair TR.int TR.int) v61 y59.1, obox 57 (TR.pair TR.int TR.int) v62 y59.1, own 32 TR.int v89 ([y17.2.1, y27.2.1, y39.2.1, y49.2.1, y59.2.1] : (List Int)), imm (TR.pair TR.int TR.int) v93 y49.1, imm (TR.pair TR.int TR.int) v94 (((1 : Int), (1 : Int)) : (Int × Int)), imm (TR.pair TR.int TR.int) v96 y59.1]) rfl ?_
    refine RL.bld (t := (TR.pair TR.int TR.int)) (d0 := (((9 : Int), (0 : Int)) : (Int × Int))) (pv := [(0, .int .i64 (9 : Int))]) rfl Tryz_bld57 rfl rfl rfl ⟨⟨_, _, TR.int, (9 : Int), rfl, rfl, VR.int⟩, trivial⟩ (fun S f hi => by
      obtain ⟨c0, e0, r0⟩ := cells_vrep (t := TR.int) (u := .int .i64 (9 : Int)) (e := (9 : Int)) (VR.int S f hi)
      show TR.rep (TR.pair TR.int TR.int) S (List.flatten [(.int .i64 (9 : Int) : Value).cells.toList, [.int .i64 0]]) _
      simp only [e0,  List.flatten_cons, List.flatten_nil, List.append_nil]
      exact ⟨_, _, rfl, r0, rfl⟩) ?_
    intro v97
    refine RL.eqG (t := (TR.pair TR.int TR.int)) (e := y59.1) (e' := (((9 : Int), (0 : Int)) : (Int × Int))) rfl Tryz_eq57 (by decide) Tryz.eqGuardType57 rfl rfl rfl rfl (VR.item 31 rfl) (VR.item 32 rfl) ?_
    refine RL.pickT rfl rfl rfl rfl ?_
    refine RL.asg rfl rfl rfl ?_
    refine RL.fin ?_
    cases h84
    exact fun a w st => mid_intro (decide (y59.1 = (((9 : Int), (0 : Int)) : (Int × Int)))) h85 (St.cut [] ⟨rfl, trivial⟩ (by decide) rfl st)
   replace h84 := ite_f b95 h84
   refine RL.skip rfl rfl ?_
   refine RL.skip rfl rfl ?_
   refine RL.skip rfl rfl ?_
   refine RL.pickF rfl rfl rfl rfl ?_
   refine RL.asg rfl rfl rfl ?_
   refine RL.fin ?_
   cases h84
   exact fun a w st => mid_intro false h85 (St.cut [] ⟨rfl, trivial⟩ (by decide) rfl st)
  replace h84 := ite_f b92 h84
  refine RL.skip rfl rfl ?_
  refine RL.skip rfl rfl ?_
  refine RL.skip rfl rfl ?_
  refine RL.pickF rfl rfl rfl rfl ?_
  refine RL.mv rfl rfl rfl ?_
  refine RL.skip rfl rfl ?_
  refine RL.skip rfl rfl ?_
  refine RL.skip rfl rfl ?_
  refine RL.pickF rfl rfl rfl rfl ?_
  refine RL.asg rfl rfl rfl ?_
  refine RL.fin ?_
  cases h84
  exact fun a w st => mid_intro false h85 (St.cut [] ⟨rfl, trivial⟩ (by decide) rfl st)
 rintro x81 h98
 have h99 := h86 _ h98
 try dsimp only at h99
 refine GL.weak (env' := [(0, .bool x81)]) (L' := []) (fun _ _ st => st) ?_
 have h99 := Option.some.inj h99
 subst h99
 exact GL.ret (Gx.ret (v := .bool x81) (res1 rfl rfl) (fun a w st => st.toPostV))

set_option maxHeartbeats 4000000 in
theorem pk_spoil_api_Account_c (B : World) (S X : Hp) (f : Nat → Hp) (w : World) (v0 : Value) (x0 : List ((List UInt8) × (Int × Int))) (hO : HeapOk B.heap.size S f [own 30 TrA v0 x0, keep X].length w) (hB : Below B.heap.size B w) (hI : Its [own 30 TrA v0 x0, keep X] S f) (v1 : Value) (x1 : ((List UInt8) × (Int × Int))) (k1 : (TrA).vrep S v1 x1) (res : List ((List UInt8) × (Int × Int))) (hm : pk_spoil_api_Account_m x0 x1 = some res) : Calls Tryz.prog 11 #[v0, v1] w (PostM B S (fun (_ : Unit) => .tuple #[]) (fun (_ : Unit) => [own 30 TrA v0 res, keep X])) := by
  unfold pk_spoil_api_Account_m at hm
  have hm := Option.some.inj hm
  subst hm
  refine calls_enterM 19 Tryz.func11 Tryz.ntmps11 rfl B S f [(0, v0), (1, v1)] [own 30 TrA v0 x0, keep X] [imm TrA v1 x1] rfl ⟨rfl, rfl, trivial⟩ hB hO hI ⟨k1, trivial⟩ ?_
  refine GL.seq ?_
  refine GL.region ?_
  refine RL.box (t := TrA) (e := x1) rfl rfl rfl rfl (VR.item 2 rfl) ?_
  intro vb
  refine RL.finG ?_
  refine GL.capO 0 rfl (fun hcap hmax hrl hcr => ?_)
  replace hmax : capv v0 ≤ 9223372036854775807 := hmax
  refine GL.weak (fun a w st => st.relenO 0 rfl) ?_
  refine GL.seq ?_
  refine GL.region ?_
  refine RL.mv rfl rfl rfl ?_
  refine RL.mv rfl rfl rfl ?_
  refine RL.capS 0 Tryz.underlying22 rfl rfl rfl rfl ?_
  refine RL.cutAll 0 Tryz.underlying22 Tryz_ln30 rfl rfl rfl rfl rfl ?_
  refine RL.asg rfl rfl rfl ?_
  refine RL.finG ?_
  refine GL.seq ?_
  refine GL.region ?_
  refine RL.mv rfl rfl rfl ?_
  refine RL.lenNx (m := capv v0) 0 Tryz.underlying22 rfl rfl rfl rfl ?_
  refine RL.mv rfl rfl rfl ?_
  refine RL.finG ?_
  refine GL.join (ι := Unit) (fun _ => []) (fun _ => [own 30 TrA (relen v0 (capv v0)) (List.replicate (capv v0) x1), keep X, obox 30 TrA vb x1]) (fun _ => True) ?_ ?_
  · refine GL.block ?_
    refine GL.loop (ι := Nat) (fun i => [(0, relen v0 (capv v0)), (3, vb), (10, .int .i64 ((capv v0 : Nat) : Int)), (11, .int .i64 ((i : Nat) : Int))]) (fun i => [own 30 TrA (relen v0 i) (List.replicate i x1), keep X, obox 30 TrA vb x1]) (fun i => i ≤ capv v0) (fun i => capv v0 - i) 0 (Nat.zero_le _) (fun a w st => St.cut [0, 1, 3] ⟨rfl, rfl, rfl, rfl, trivial⟩ (by decide) rfl st) ?_
    intro i hG
    refine GL.seq ?_
    refine GL.region ?_
    refine RL.binI (v := .bool (decide ((i : Int) < ((capv v0 : Nat) : Int)))) rfl rfl rfl rfl rfl ?_
    refine RL.finG ?_
    refine GL.seq ?_
    refine GL.cond rfl (fun hb => ?_) (fun hb => ?_)
    · have hi : i < capv v0 := by have := of_decide_eq_true hb; omega
      refine GL.skip ?_
      refine GL.seq ?_
      refine GL.block ?_
      refine GL.seq ?_
      refine GL.region ?_
      refine RL.mv rfl rfl rfl ?_
      refine RL.asg rfl rfl rfl ?_
      refine RL.finG ?_
      refine GL.region ?_
      refine RL.mv rfl rfl rfl ?_
      refine RL.mv rfl rfl rfl ?_
      refine RL.ldP (off := 0) (r := TrA) (e' := x1) 2 Tryz_ln30 rfl rfl (Or.inr ⟨rfl, rfl⟩) rfl PtOf.obox Part.self ?_
      intro u
      refine RL.idxNx (sz := 3) 0 Tryz.underlying22 Tryz_ln30 rfl rfl rfl rfl rfl hi ?_
      refine RL.stNx (t := TrA) (e' := x1) 0 Tryz_ln30 rfl rfl rfl rfl (VR.item 3 rfl) rfl (by simp) hi ?_
      rw [replicate_snoc]
      refine RL.finG ?_
      refine GL.nilB ?_
      refine GL.region ?_
      refine RL.binI (v := .int .i64 ((i + 1 : Nat) : Int)) rfl rfl rfl rfl (binI_succ i (by omega)) ?_
      refine RL.mv rfl rfl rfl ?_
      refine RL.fin ?_
      exact fun a w st => lop_intro (i + 1) (by show i + 1 ≤ capv v0; omega) (by show capv v0 - (i + 1) < capv v0 - i; omega) (St.cut [0, 1, 2] ⟨rfl, rfl, rfl, rfl, trivial⟩ (by decide) rfl st)
    · have hi : ¬ i < capv v0 := by have := of_decide_eq_false hb; omega
      obtain rfl : i = capv v0 := by omega
      exact GL.exit (fun a w st => mid_intro () trivial (St.cut [0, 1, 2] trivial (by decide) rfl st))
  · intro _ _
    refine GL.weak (fun a w st => st.spoiled (m := x0.length) 0 rfl hcap hrl) ?_
    exact GL.nil (Gx.retN (v := .tuple #[]) (res0 rfl) (fun a w st => (st.pick [0, 1] (by decide) rfl).toPostM (V := fun (_ : Unit) => .tuple #[]) (LR := fun (_ : Unit) => [own 30 TrA v0 (List.replicate x0.length x1), keep X]) ()))

set_option maxHeartbeats 4000000 in
theorem pk_spoil_api_Deal_c (B : World) (S X : Hp) (f : Nat → Hp) (w : World) (v0 : Value) (x0 : List ((List UInt8) × ((List UInt8) × (Int × (Int × (Int × Int)))))) (hO : HeapOk B.heap.size S f [own 24 TrD v0 x0, keep X].length w) (hB : Below B.heap.size B w) (hI : Its [own 24 TrD v0 x0, keep X] S f) (v1 : Value) (x1 : ((List UInt8) × ((List UInt8) × (Int × (Int × (Int × Int)))))) (k1 : (TrD).vrep S v1 x1) (res : List ((List UInt8) × ((List UInt8) × (Int × (Int × (Int × Int)))))) (hm : pk_spoil_api_Deal_m x0 x1 = some res) : Calls Tryz.prog 14 #[v0, v1] w (PostM B S (fun (_ : Unit) => .tuple #[]) (fun (_ : Unit) => [own 24 TrD v0 res, keep X])) := by
  unfold pk_spoil_api_Deal_m at hm
  have hm := Option.some.inj hm
  subst hm
  refine calls_enterM 19 Tryz.func14 Tryz.ntmps14 rfl B S f [(0, v0), (1, v1)] [own 24 TrD v0 x0, keep X] [imm TrD v1 x1] rfl ⟨rfl, rfl, trivial⟩ hB hO hI ⟨k1, trivial⟩ ?_
  refine GL.seq ?_
  refine GL.region ?_
  refine RL.box (t := TrD) (e := x1) rfl rfl rfl rfl (VR.item 2 rfl) ?_
  intro vb
  refine RL.finG ?_
  refine GL.capO 0 rfl (fun hcap hmax hrl hcr => ?_)
  replace hmax : capv v0 ≤ 9223372036854775807 := hmax
  refine GL.weak (fun a w st => st.relenO 0 rfl) ?_
  refine GL.seq ?_
  refine GL.region ?_
  refine RL.mv rfl rfl rfl ?_
  refine RL.mv rfl rfl rfl ?_
  refine RL.capS 0 Tryz.underlying25 rfl rfl rfl rfl ?_
  refine RL.cutAll 0 Tryz.underlying25 Tryz_ln24 rfl rfl rfl rfl rfl ?_
  refine RL.asg rfl rfl rfl ?_
  refine RL.finG ?_
  refine GL.seq ?_
  refine GL.region ?_
  refine RL.mv rfl rfl rfl ?_
  refine RL.lenNx (m := capv v0) 0 Tryz.underlying25 rfl rfl rfl rfl ?_
  refine RL.mv rfl rfl rfl ?_
  refine RL.finG ?_
  refine GL.join (ι := Unit) (fun _ => []) (fun _ => [own 24 TrD (relen v0 (capv v0)) (List.replicate (capv v0) x1), keep X, obox 24 TrD vb x1]) (fun _ => True) ?_ ?_
  · refine GL.block ?_
    refine GL.loop (ι := Nat) (fun i => [(0, relen v0 (capv v0)), (3, vb), (10, .int .i64 ((capv v0 : Nat) : Int)), (11, .int .i64 ((i : Nat) : Int))]) (fun i => [own 24 TrD (relen v0 i) (List.replicate i x1), keep X, obox 24 TrD vb x1]) (fun i => i ≤ capv v0) (fun i => capv v0 - i) 0 (Nat.zero_le _) (fun a w st => St.cut [0, 1, 3] ⟨rfl, rfl, rfl, rfl, trivial⟩ (by decide) rfl st) ?_
    intro i hG
    refine GL.seq ?_
    refine GL.region ?_
    refine RL.binI (v := .bool (decide ((i : Int) < ((capv v0 : Nat) : Int)))) rfl rfl rfl rfl rfl ?_
    refine RL.finG ?_
    refine GL.seq ?_
    refine GL.cond rfl (fun hb => ?_) (fun hb => ?_)
    · have hi : i < capv v0 := by have := of_decide_eq_true hb; omega
      refine GL.skip ?_
      refine GL.seq ?_
      refine GL.block ?_
      refine GL.seq ?_
      refine GL.region ?_
      refine RL.mv rfl rfl rfl ?_
      refine RL.asg rfl rfl rfl ?_
      refine RL.finG ?_
      refine GL.region ?_
      refine RL.mv rfl rfl rfl ?_
      refine RL.mv rfl rfl rfl ?_
      refine RL.ldP (off := 0) (r := TrD) (e' := x1) 2 Tryz_ln24 rfl rfl (Or.inr ⟨rfl, rfl⟩) rfl PtOf.obox Part.self ?_
      intro u
      refine RL.idxNx (sz := 6) 0 Tryz.underlying25 Tryz_ln24 rfl rfl rfl rfl rfl hi ?_
      refine RL.stNx (t := TrD) (e' := x1) 0 Tryz_ln24 rfl rfl rfl rfl (VR.item 3 rfl) rfl (by simp) hi ?_
      rw [replicate_snoc]
      refine RL.finG ?_
      refine GL.nilB ?_
      refine GL.region ?_
      refine RL.binI (v := .int .i64 ((i + 1 : Nat) : Int)) rfl rfl rfl rfl (binI_succ i (by omega)) ?_
      refine RL.mv rfl rfl rfl ?_
      refine RL.fin ?_
      exact fun a w st => lop_intro (i + 1) (by show i + 1 ≤ capv v0; omega) (by show capv v0 - (i + 1) < capv v0 - i; omega) (St.cut [0, 1, 2] ⟨rfl, rfl, rfl, rfl, trivial⟩ (by decide) rfl st)
    · have hi : ¬ i < capv v0 := by have := of_decide_eq_false hb; omega
      obtain rfl : i = capv v0 := by omega
      exact GL.exit (fun a w st => mid_intro () trivial (St.cut [0, 1, 2] trivial (by decide) rfl st))
  · intro _ _
    refine GL.weak (fun a w st => st.spoiled (m := x0.length) 0 rfl hcap hrl) ?_
    exact GL.nil (Gx.retN (v := .tuple #[]) (res0 rfl) (fun a w st => (st.pick [0, 1] (by decide) rfl).toPostM (V := fun (_ : Unit) => .tuple #[]) (LR := fun (_ : Unit) => [own 24 TrD v0 (List.replicate x0.length x1), keep X]) ()))

set_option maxHeartbeats 4000000 in
theorem pick_Replay_c (S : Hp) (w : World) (hS : S.sub w) (v0 : Value) (x0 : (List ((List UInt8) × ((List UInt8) × (Int × (Int × (Int × Int))))))) (k0 : ((TR.sl TrD)).vrep S v0 x0) (v1 : Value) (x1 : (List ((List UInt8) × (Int × Int)))) (k1 : ((TR.sl TrA)).vrep S v1 x1) (x2 : (List UInt8)) (res : (List ((List UInt8) × (Int × Int))) × Int × Int) (hm : pick_Replay_m x0 x1 x2 = some res) : Calls Tryz.prog 17 #[v0, v1, .string ⟨(x2 : List UInt8).toArray⟩] w (Post w S (fun (o : Value) => .tuple #[o, .int .i64 res.2.1, .int .i64 res.2.2]) (fun (o : Value) => [own 30 TrA o res.1])) := by
 refine calls_enter 46 Tryz.func17 Tryz.ntmps17 rfl S false [(0, v0), (1, v1), (2, .string ⟨(x2 : List UInt8).toArray⟩)] [imm (TR.sl TrD) v0 x0, imm (TR.sl TrA) v1 x1] rfl ⟨rfl, ⟨rfl, ⟨rfl, trivial⟩⟩⟩ hS ⟨k0, ⟨k1, trivial⟩⟩ ?_
 unfold pick_Replay_m at hm
 refine GL.seq ?_
 refine GL.region ?_
 refine RL.asg rfl rfl rfl ?_
 refine RL.asg rfl rfl rfl ?_
 refine RL.asg rfl rfl rfl ?_
 refine RL.finG ?_
 refine GL.seq ?_
 refine GL.seq ?_
 refine GL.region ?_
 refine RL.mv rfl rfl rfl ?_
 obtain ⟨y6, e7, hm⟩ := bind_some hm
 refine RL.callV (v := .int .i64 y6) (vs := [v1]) Tryz_fit27 rfl (Or.inl rfl) rfl rfl rfl rfl (fun U w hU hW hL => ledger_Check_c U w hU _ _ (hL 1 _ _ rfl Seen.imm) _ e7) ?_
 refine RL.asg rfl rfl rfl ?_
 refine RL.finG ?_
 refine GL.seq ?_
 refine GL.region ?_
 refine RL.mv rfl rfl rfl ?_
 refine RL.binI (v := .bool (y6 != (0 : Int))) rfl rfl rfl rfl rfl ?_
 refine RL.finG ?_
 refine GL.cond rfl (fun b8 => ?_) (fun b8 => ?_)
 ·replace hm := ite_t b8 hm
  refine GL.seq ?_
  refine GL.region ?_
  refine RL.mv rfl rfl rfl ?_
  refine RL.asg rfl rfl rfl ?_
  refine RL.asg rfl rfl rfl ?_
  refine RL.asg rfl rfl rfl ?_
  refine RL.finG ?_
  refine GL.weak (fun a w st => st.nilOwn 30 TrA) ?_
  have hm := Option.some.inj hm
  subst hm
  exact GL.ret (Gx.ret (v := .tuple #[Value.slice none 0 0, .int .i64 (0 : Int), .int .i64 y6]) (res3 rfl rfl rfl rfl) (fun a w st => (st.pick [2] (by decide) rfl).toPost (Value.slice none 0 0)))
 replace hm := ite_f b8 hm
 refine GL.skip ?_
 refine GL.seq ?_
 refine GL.region ?_
 refine RL.bS (t := TrA) (vs := []) ([] : (List ((List UInt8) × (Int × Int)))) Tryz.underlying22 Tryz_lo30 rfl rfl rfl rfl trivial rfl (by decide) ?_
 intro v13
 refine RL.mv rfl rfl rfl ?_
 obtain ⟨y14, e15, hm⟩ := bind_some hm
 replace e15 := chk_some e15
 refine RL.app 2 1 Tryz.underlying22 Tryz_lo30 rfl rfl rfl rfl rfl rfl rfl SlOf.imm e15 ?_
 intro v16
 refine RL.reL (L' := [imm (TR.sl TrD) v0 x0, imm (TR.sl TrA) v1 x1, own 30 TrA v16 (([] : (List ((List UInt8) × (Int × Int)))) ++ x1)]) rfl ?_
 refine RL.asg rfl rfl rfl ?_
 refine RL.finG ?_
 refine GL.seq ?_
 refine GL.seq ?_
 refine GL.region ?_
 refine RL.mv rfl rfl rfl ?_
 refine RL.lenS 0 Tryz.underlying25 rfl rfl rfl rfl SlOf.imm ?_
 refine RL.mv rfl rfl rfl ?_
 refine RL.finG ?_
 refine GL.open_ 0 rfl (fun S h => len_imm S h) (fun n36 => ?_)
 obtain ⟨y37, K38, h39, h40, h41, h42, h43⟩ := bindR_K hm
 refine GL.join (ι := (List ((List UInt8) × (Int × Int))) × Value) (fun (p : (List ((List UInt8) × (Int × Int))) × Value) => [(0, v0), (10, p.2)]) (fun (p : (List ((List UInt8) × (Int × Int))) × Value) => [imm (TR.sl TrD) v0 x0, own 30 TrA p.2 p.1]) (fun (p : (List ((List UInt8) × (Int × Int))) × Value) => K38 (.nx p.1)) ?_ ?_
 ·refine GL.block ?_
  refine GL.loop (ι := Nat × (List ((List UInt8) × ((List UInt8) × (Int × (Int × (Int × Int)))))) × (List ((List UInt8) × (Int × Int))) × Value) (fun (p : Nat × (List ((List UInt8) × ((List UInt8) × (Int × (Int × (Int × Int)))))) × (List ((List UInt8) × (Int × Int))) × Value) => [(0, v0), (2, .string ⟨(x2 : List UInt8).toArray⟩), (10, p.2.2.2), (23, v0), (24, .int .i64 ((x0).length : Int)), (25, .int .i64 (p.1 : Int))]) (fun (p : Nat × (List ((List UInt8) × ((List UInt8) × (Int × (Int × (Int × Int)))))) × (List ((List UInt8) × (Int × Int))) × Value) => [imm (TR.sl TrD) v0 x0, own 30 TrA p.2.2.2 p.2.2.1]) (fun (p : Nat × (List ((List UInt8) × ((List UInt8) × (Int × (Int × (Int × Int)))))) × (List ((List UInt8) × (Int × Int))) × Value) => p.1 + p.2.1.length = (x0).length ∧ List.drop p.1 x0 = p.2.1 ∧ rangeL (pick_Replay_b1 x2) p.2.1 p.1 p.2.2.1 = some y37) (fun (p : Nat × (List ((List UInt8) × ((List UInt8) × (Int × (Int × (Int × Int)))))) × (List ((List UInt8) × (Int × Int))) × Value) => p.2.1.length) (0, x0, (([] : (List ((List UInt8) × (Int × Int)))) ++ x1), v16) ⟨by simp, by simp, h39⟩ (fun a w st => St.cut [0, 2] ⟨rfl, rfl, rfl, rfl, rfl, rfl, trivial⟩ (by decide) rfl st) ?_
  rintro ⟨i44, r45, l17, v18⟩ ⟨h50, h51, h49⟩
  try dsimp only at h50 h51 h49
  refine GL.weak (env' := [(0, v0), (2, .string ⟨(x2 : List UInt8).toArray⟩), (10, v18), (23, v0), (24, .int .i64 ((x0).length : Int)), (25, .int .i64 (i44 : Int))]) (L' := [imm (TR.sl TrD) v0 x0, own 30 TrA v18 l17]) (fun _ _ st => st) ?_
  refine GL.seq ?_
  refine GL.region ?_
  refine RL.binI (v := .bool (decide ((i44 : Int) < ((x0).length : Int)))) rfl rfl rfl rfl rfl ?_
  refine RL.finG ?_
  refine GL.seq ?_
  refine GL.cond rfl (fun b52 => ?_) (fun b52 => ?_)
  ·have h53 : i44 < (x0).length := by have := of_decide_eq_true b52; omega
   obtain ⟨y54, r56, hr, e55, h57⟩ := drop_cons h51 rfl h53
   subst hr
   obtain ⟨z46, h47, h48⟩ := rangeL_some h49
   unfold pick_Replay_b1 at h47
   try dsimp only at h47
   refine GL.skip ?_
   refine GL.seq ?_
   refine GL.block ?_
   refine GL.seq ?_
   refine GL.region ?_
   refine RL.mv rfl rfl rfl ?_
   refine RL.idxS (sz := 6) 0 Tryz.underlying25 Tryz_ln24 rfl rfl rfl rfl rfl SlOf.imm (by omega) (by omega) ?_
   refine RL.ldS (i := i44) (r := TrD) (e' := y54) 0 Tryz_ln24 rfl rfl rfl rfl SlOf.imm e55 Part.self ?_
   intro v60
   refine RL.alloc (t := TrD) (z := (([] : List UInt8), ([] : List UInt8), (0 : Int), (0 : Int), (0 : Int), (0 : Int))) Tryz_lo24 (fun S => ⟨[.string ⟨#[]⟩], _, rfl, rfl, ⟨[.string ⟨#[]⟩], _, rfl, rfl, ⟨[.int .i64 0], _, rfl, rfl, ⟨[.int .i64 0], _, rfl, rfl, ⟨[.int .i64 0], _, rfl, rfl, rfl⟩⟩⟩⟩⟩) rfl rfl rfl ?_
   intro v61
   refine RL.reL (L' := [imm (TR.sl TrD) v0 x0, own 30 TrA v18 l17, imm TrD v60 y54, obox 24 TrD v61 (([] : List UInt8), ([] : List UInt8), (0 : Int), (0 : Int), (0 : Int), (0 : Int))]) rfl ?_
   refine RL.asg rfl rfl rfl ?_
   refine RL.stP (off := 0) (e' := y54) (d1 := y54) (r := TrD) 3 Tryz_ln24 rfl rfl (Or.inr ⟨rfl, rfl⟩) rfl (VR.item 2 rfl) rfl Upd.self ?_
   refine RL.finG ?_
   refine GL.seq ?_
   refine GL.region ?_
   refine RL.mv rfl rfl rfl ?_
   refine RL.ldP (off := 0) (r := TrD) (e' := y54) 3 Tryz_ln24 rfl rfl (Or.inr ⟨rfl, rfl⟩) rfl PtOf.obox Part.self ?_
   intro v66
   refine RL.reL (L' := [imm (TR.sl TrD) v0 x0, own 30 TrA v18 l17, imm TrD v60 y54, obox 24 TrD v61 y54, imm TrD v66 y54]) rfl ?_
   refine RL.mv rfl rfl rfl ?_
   obtain ⟨y67, e68, h47⟩ := bind_some h47
   refine RL.callU (vs := [v18, v66, .string ⟨(x2 : List UInt8).toArray⟩]) (LR := fun (o : Value) => [own 30 TrA o y67.1]) (fun o => ⟨Loc.own (TR.flatT_pair TR.flatT_str (TR.flatT_pair TR.flatT_ik TR.flatT_ik)), trivial⟩) Tryz_fit10 rfl rfl rfl rfl rfl (fun U w hU hW hL => ledger_Take_c U w hU _ _ (hL 1 _ _ rfl Seen.own) _ _ (hL 4 _ _ rfl Seen.imm) x2 _ e68) ?_
   intro v69
   refine RL.mv rfl rfl rfl ?_
   refine RL.ext rfl rfl rfl rfl ?_
   refine RL.ext rfl rfl rfl rfl ?_
   refine RL.asg rfl rfl rfl ?_
   refine RL.asg rfl rfl rfl ?_
   refine RL.finG ?_
   refine GL.seq ?_
   refine GL.seq ?_
   refine GL.region ?_
   refine RL.mv rfl rfl rfl ?_
   refine RL.binI (v := .bool (y67.2 != (0 : Int))) rfl rfl rfl rfl rfl ?_
   refine RL.finG ?_
   refine GL.cond rfl (fun b70 => ?_) (fun b70 => ?_)
   ·replace h47 := ite_t b70 h47
    refine GL.seq ?_
    refine GL.region ?_
    refine RL.mv rfl rfl rfl ?_
    refine RL.mv rfl rfl rfl ?_
    refine RL.asg rfl rfl rfl ?_
    refine RL.asg rfl rfl rfl ?_
    refine RL.asg rfl rfl rfl ?_
    refine RL.finG ?_
    refine GL.weak (fun a w st => st.nilOwn 30 TrA) ?_
    cases h47
    replace h48 : some (Fl.rt _) = some y37 := h48
    cases h48
    have hh := h42 _ h40
    subst hh
    exact GL.ret (Gx.ret (v := .tuple #[Value.slice none 0 0, .int .i64 (i44 : Int), .int .i64 y67.2]) (res3 rfl rfl rfl rfl) (fun a w st => (st.pick [6] (by decide) rfl).toPost (Value.slice none 0 0)))
   replace h47 := ite_f b70 h47
   refine GL.skip ?_
   refine GL.region ?_
   refine RL.mv rfl rfl rfl ?_
   refine RL.asg rfl rfl rfl ?_
   refine RL.finG ?_
   refine GL.nilB ?_
   refine GL.region ?_
   refine RL.binI (v := .int .i64 ((i44 + 1 : Nat) : Int)) rfl rfl rfl rfl (binI_succ i44 (by omega)) ?_
   refine RL.mv rfl rfl rfl ?_
   refine RL.fin ?_
   cases h47
   exact fun a w st => lop_intro (i44 + 1, r56, y67.1, v69) ⟨by show i44 + 1 + r56.length = (x0).length; simp only [List.length_cons] at h50; omega, h57, h48⟩ (by simp) (St.cut [0, 5] ⟨rfl, rfl, rfl, rfl, rfl, rfl, trivial⟩ (by decide) rfl st)
  have h53 : ¬ i44 < (x0).length := by have := of_decide_eq_false b52; omega
  obtain rfl : r45 = [] := by rw [← h51]; exact List.drop_of_length_le (by omega)
  replace h49 : some (Fl.nx _) = some y37 := h49
  cases h49
  exact GL.exit (fun a w st => mid_intro (l17, v18) h40 (St.cut [0, 1] ⟨rfl, rfl, trivial⟩ (by decide) rfl st))
 rintro ⟨l17, v18⟩ h71
 have h72 := h41 _ h71
 try dsimp only at h72
 refine GL.weak (env' := [(0, v0), (10, v18)]) (L' := [imm (TR.sl TrD) v0 x0, own 30 TrA v18 l17]) (fun _ _ st => st) ?_
 refine GL.seq ?_
 refine GL.region ?_
 refine RL.mv rfl rfl rfl ?_
 refine RL.mv rfl rfl rfl ?_
 refine RL.lenS 0 Tryz.underlying25 rfl rfl rfl rfl SlOf.imm ?_
 refine RL.asg rfl rfl rfl ?_
 refine RL.asg rfl rfl rfl ?_
 refine RL.asg rfl rfl rfl ?_
 refine RL.finG ?_
 have h72 := Option.some.inj h72
 subst h72
 exact GL.ret (Gx.ret (v := .tuple #[v18, .int .i64 ((x0).length : Int), .int .i64 (0 : Int)]) (res3 rfl rfl rfl rfl) (fun a w st => (st.pick [1] (by decide) rfl).toPost v18))

set_option maxHeartbeats 4000000 in
theorem pk_worked_c (S : Hp) (w : World) (hS : S.sub w) (hT : Tab Tryz.prog (Tryz.lays146_ren.g 1) S) (v0 : Value) (x0 : (List (Int × (Int × ((List UInt8) × ((List UInt8) × ((List UInt8) × (Int × (Int × (Int × Int)))))))))) (k0 : ((TR.sl TrE)).vrep S v0 x0) (res : ((List ((List UInt8) × (Int × Int))) × ((List ((List UInt8) × ((List UInt8) × (Int × (Int × (Int × Int)))))) × ((List UInt8) × Int)))) (hm : pk_worked_m x0 = some res) : Calls Tryz.prog 18 #[v0] w (Post w S (fun (o : Value × Value) => o.1) (fun (o : Value × Value) => [obox 78 TrH o.1 (res.1, (res.2.1, o.2)), obox 95 (TR.pair TR.str TR.int) o.2 res.2.2])) := by
 refine calls_enter 20 Tryz.func18 Tryz.ntmps18 rfl S false [(0, v0)] [imm (TR.sl TrE) v0 x0] rfl ⟨rfl, trivial⟩ hS ⟨k0, trivial⟩ ?_
 unfold pk_worked_m at hm
 refine GL.seq ?_
 refine GL.region ?_
 refine RL.asg rfl rfl rfl ?_
 refine RL.finG ?_
 refine GL.seq ?_
 refine GL.region ?_
 obtain ⟨y6, e7, hm⟩ := bind_some hm
 refine RL.call (vs := []) Tryz_fit25 rfl rfl rfl rfl rfl (fun S f w hS hW hi => house_New_c S w hS  _ e7) ?_
 intro ⟨v8, u9⟩
 refine RL.reL (L' := [imm (TR.sl TrE) v0 x0, obox 78 TrH v8 (y6.1, (y6.2.1, u9)), obox 95 (TR.pair TR.str TR.int) u9 y6.2.2]) rfl ?_
 refine RL.asg rfl rfl rfl ?_
 refine RL.finG ?_
 refine GL.seq ?_
 refine GL.seq ?_
 refine GL.region ?_
 refine RL.mv rfl rfl rfl ?_
 refine RL.eqP 1 Tryz.underlying46 rfl rfl rfl rfl rfl PtOf.obox ?_
 refine RL.finG ?_
 refine GL.cond rfl (fun b10 => ?_) (fun b10 => ?_)
 ·exact absurd b10 (by decide)
 refine GL.skip ?_
 refine GL.seq ?_
 refine GL.seq ?_
 refine GL.region ?_
 refine RL.mv rfl rfl rfl ?_
 refine RL.lenS 0 Tryz.underlying26 rfl rfl rfl rfl SlOf.imm ?_
 refine RL.mv rfl rfl rfl ?_
 refine RL.finG ?_
 refine GL.open_ 0 rfl (fun S h => len_imm S h) (fun n44 => ?_)
 obtain ⟨y45, K46, h47, h48, h49, h50, h51⟩ := bindR_K hm
 refine GL.join (ι := ((List ((List UInt8) × (Int × Int))) × ((List ((List UInt8) × ((List UInt8) × (Int × (Int × (Int × Int)))))) × ((List UInt8) × Int)))) (fun (p : ((List ((List UInt8) × (Int × Int))) × ((List ((List UInt8) × ((List UInt8) × (Int × (Int × (Int × Int)))))) × ((List UInt8) × Int)))) => [(3, v8)]) (fun (p : ((List ((List UInt8) × (Int × Int))) × ((List ((List UInt8) × ((List UInt8) × (Int × (Int × (Int × Int)))))) × ((List UInt8) × Int)))) => [obox 78 TrH v8 (p.1, (p.2.1, u9)), obox 95 (TR.pair TR.str TR.int) u9 p.2.2]) (fun (p : ((List ((List UInt8) × (Int × Int))) × ((List ((List UInt8) × ((List UInt8) × (Int × (Int × (Int × Int)))))) × ((List UInt8) × Int)))) => K46 (.nx p)) ?_ ?_
 ·refine GL.block ?_
  refine GL.loop (ι := Nat × (List (Int × (Int × ((List UInt8) × ((List UInt8) × ((List UInt8) × (Int × (Int × (Int × Int))))))))) × ((List ((List UInt8) × (Int × Int))) × ((List ((List UInt8) × ((List UInt8) × (Int × (Int × (Int × Int)))))) × ((List UInt8) × Int)))) (fun (p : Nat × (List (Int × (Int × ((List UInt8) × ((List UInt8) × ((List UInt8) × (Int × (Int × (Int × Int))))))))) × ((List ((List UInt8) × (Int × Int))) × ((List ((List UInt8) × ((List UInt8) × (Int × (Int × (Int × Int)))))) × ((List UInt8) × Int)))) => [(3, v8), (9, v0), (10, .int .i64 ((x0).length : Int)), (11, .int .i64 (p.1 : Int))]) (fun (p : Nat × (List (Int × (Int × ((List UInt8) × ((List UInt8) × ((List UInt8) × (Int × (Int × (Int × Int))))))))) × ((List ((List UInt8) × (Int × Int))) × ((List ((List UInt8) × ((List UInt8) × (Int × (Int × (Int × Int)))))) × ((List UInt8) × Int)))) => [obox 78 TrH v8 (p.2.2.1, (p.2.2.2.1, u9)), obox 95 (TR.pair TR.str TR.int) u9 p.2.2.2.2, imm (TR.sl TrE) v0 x0]) (fun (p : Nat × (List (Int × (Int × ((List UInt8) × ((List UInt8) × ((List UInt8) × (Int × (Int × (Int × Int))))))))) × ((List ((List UInt8) × (Int × Int))) × ((List ((List UInt8) × ((List UInt8) × (Int × (Int × (Int × Int)))))) × ((List UInt8) × Int)))) => p.1 + p.2.1.length = (x0).length ∧ List.drop p.1 x0 = p.2.1 ∧ rangeL pk_worked_b1 p.2.1 p.1 p.2.2 = some y45) (fun (p : Nat × (List (Int × (Int × ((List UInt8) × ((List UInt8) × ((List UInt8) × (Int × (Int × (Int × Int))))))))) × ((List ((List UInt8) × (Int × Int))) × ((List ((List UInt8) × ((List UInt8) × (Int × (Int × (Int × Int)))))) × ((List UInt8) × Int)))) => p.2.1.length) (0, x0, y6) ⟨by simp, by simp, h47⟩ (fun a w st => St.cut [1, 2, 0] ⟨rfl, rfl, rfl, rfl, trivial⟩ (by decide) rfl st) ?_
  rintro ⟨i52, r53, l27⟩ ⟨h58, h59, h57⟩
  try dsimp only at h58 h59 h57
  refine GL.weak (env' := [(3, v8), (9, v0), (10, .int .i64 ((x0).length : Int)), (11, .int .i64 (i52 : Int))]) (L' := [obox 78 TrH v8 (l27.1, (l27.2.1, u9)), obox 95 (TR.pair TR.str TR.int) u9 l27.2.2, imm (TR.sl TrE) v0 x0]) (fun _ _ st => st) ?_
  refine GL.seq ?_
  refine GL.region ?_
  refine RL.binI (v := .bool (decide ((i52 : Int) < ((x0).length : Int)))) rfl rfl rfl rfl rfl ?_
  refine RL.finG ?_
  refine GL.seq ?_
  refine GL.cond rfl (fun b60 => ?_) (fun b60 => ?_)
  ·have h61 : i52 < (x0).length := by have := of_decide_eq_true b60; omega
   obtain ⟨y62, r64, hr, e63, h65⟩ := drop_cons h59 rfl h61
   subst hr
   obtain ⟨z54, h55, h56⟩ := rangeL_some h57
   unfold pk_worked_b1 at h55
   try dsimp only at h55
   refine GL.skip ?_
   refine GL.seq ?_
   refine GL.block ?_
   refine GL.seq ?_
   refine GL.region ?_
   refine RL.idxS (sz := 9) 2 Tryz.underlying26 Tryz_ln61 rfl rfl rfl rfl rfl SlOf.imm (by omega) (by omega) ?_
   refine RL.ldS (i := i52) (r := TrE) (e' := y62) 2 Tryz_ln61 rfl rfl rfl rfl SlOf.imm e63 Part.self ?_
   intro v68
   refine RL.alloc (t := TrE) (z := ((0 : Int), (0 : Int), ([] : List UInt8), (([] : List UInt8), ([] : List UInt8), (0 : Int), (0 : Int), (0 : Int), (0 : Int)))) Tryz_lo61 (fun S => ⟨[.int .i64 0], _, rfl, rfl, ⟨[.int .i64 0], _, rfl, rfl, ⟨[.string ⟨#[]⟩], _, rfl, rfl, ⟨[.string ⟨#[]⟩], _, rfl, rfl, ⟨[.string ⟨#[]⟩], _, rfl, rfl, ⟨[.int .i64 0], _, rfl, rfl, ⟨[.int .i64 0], _, rfl, rfl, ⟨[.int .i64 0], _, rfl, rfl, rfl⟩⟩⟩⟩⟩⟩⟩⟩) rfl rfl rfl ?_
   intro v69
   refine RL.reL (L' := [obox 78 TrH v8 (l27.1, (l27.2.1, u9)), obox 95 (TR.pair TR.str TR.int) u9 l27.2.2, imm (TR.sl TrE) v0 x0, imm TrE v68 y62, obox 61 TrE v69 ((0 : Int), (0 : Int), ([] : List UInt8), (([] : List UInt8), ([] : List UInt8), (0 : Int), (0 : Int), (0 : Int), (0 : Int)))]) rfl ?_
   refine RL.stP (off := 0) (e' := y62) (d1 := y62) (r := TrE) 4 Tryz_ln61 rfl rfl (Or.inr ⟨rfl, rfl⟩) rfl (VR.item 3 rfl) rfl Upd.self ?_
   refine RL.finG ?_
   refine GL.region ?_
   refine RL.mv rfl rfl rfl ?_
   refine RL.ldP (off := 0) (r := TrE) (e' := y62) 4 Tryz_ln61 rfl rfl (Or.inr ⟨rfl, rfl⟩) rfl PtOf.obox Part.self ?_
   intro v74
   refine RL.reL (L' := [obox 78 TrH v8 (l27.1, (l27.2.1, u9)), obox 95 (TR.pair TR.str TR.int) u9 l27.2.2, imm (TR.sl TrE) v0 x0, imm TrE v68 y62, obox 61 TrE v69 y62, imm TrE v74 y62]) rfl ?_
   obtain ⟨y75, e76, h55⟩ := bind_some h55
   refine RL.callK (vs := [v8, v74]) (V := fun (o : Value) => .tuple #[o, .int .i64 y75.2.1]) (LR := fun (o : Value) => [obox 78 TrH v8 (y75.2.2.1, (y75.2.2.2.1, u9)), obox 95 (TR.pair TR.str TR.int) u9 y75.2.2.2.2, imm (TR.pair TR.int TR.int) o y75.1]) (Ls := [obox 78 TrH v8 (l27.1, (l27.2.1, u9)), obox 95 (TR.pair TR.str TR.int) u9 l27.2.2]) [0, 1] (by decide) Tryz_fit26 rfl rfl rfl rfl rfl rfl (fun S f X w hO hB hW hI hL => house_House_Do_c _ S X f w _ _ l27  hO hB hI (hT.mono hW) _ _ (hL 5 _ _ rfl Sure.imm) _ e76) ?_
   intro v77
   refine RL.reL (L' := [gone, gone, imm (TR.sl TrE) v0 x0, imm TrE v68 y62, obox 61 TrE v69 y62, imm TrE v74 y62, obox 78 TrH v8 (y75.2.2.1, (y75.2.2.2.1, u9)), obox 95 (TR.pair TR.str TR.int) u9 y75.2.2.2.2, imm (TR.pair TR.int TR.int) v77 y75.1]) rfl ?_
   refine RL.finG ?_
   refine GL.nilB ?_
   refine GL.region ?_
   refine RL.binI (v := .int .i64 ((i52 + 1 : Nat) : Int)) rfl rfl rfl rfl (binI_succ i52 (by omega)) ?_
   refine RL.mv rfl rfl rfl ?_
   refine RL.fin ?_
   cases h55
   exact fun a w st => lop_intro (i52 + 1, r64, y75.2.2) ⟨by show i52 + 1 + r64.length = (x0).length; simp only [List.length_cons] at h58; omega, h65, h56⟩ (by simp) (St.cut [6, 7, 2] ⟨rfl, rfl, rfl, rfl, trivial⟩ (by decide) rfl st)
  have h61 : ¬ i52 < (x0).length := by have := of_decide_eq_false b60; omega
  obtain rfl : r53 = [] := by rw [← h59]; exact List.drop_of_length_le (by omega)
  replace h57 : some (Fl.nx _) = some y45 := h57
  cases h57
  exact GL.exit (fun a w st => mid_intro l27 h48 (St.cut [0, 1] ⟨rfl, trivial⟩ (by decide) rfl st))
 rintro l27 h78
 have h79 := h49 _ h78
 try dsimp only at h79
 refine GL.weak (env' := [(3, v8)]) (L' := [obox 78 TrH v8 (l27.1, (l27.2.1, u9)), obox 95 (TR.pair TR.str TR.int) u9 l27.2.2]) (fun _ _ st => st) ?_
 refine GL.seq ?_
 refine GL.region ?_
 refine RL.mv rfl rfl rfl ?_
 refine RL.asg rfl rfl rfl ?_
 refine RL.finG ?_
 have h79 := Option.some.inj h79
 subst h79
 exact GL.ret (Gx.ret (v := v8) (res1 rfl rfl) (fun a w st => (st.pick [0, 1] (by decide) rfl).toPost (v8, u9)))

set_option maxHeartbeats 4000000 in
theorem house_House_Accounts_c (S : Hp) (w : World) (hS : S.sub w) (v0 : Value) (x0 : ((List ((List UInt8) × (Int × Int))) × ((List ((List UInt8) × ((List UInt8) × (Int × (Int × (Int × Int)))))) × ((List UInt8) × Int)))) (k0 : ((TR.ptr (TR.pair (TR.sl TrA) (TR.pair (TR.sl TrD) (TR.ptr (TR.pair TR.str TR.int)))))).vrep S v0 x0) (res : (List ((List UInt8) × (Int × Int)))) (hm : house_House_Accounts_m x0 = some res) : Calls Tryz.prog 19 #[v0] w (Post w S (fun (o : Value) => o) (fun (o : Value) => [own 30 TrA o res])) := by
 refine calls_enter 8 Tryz.func19 Tryz.ntmps19 rfl S false [(0, v0)] [imm (TR.ptr (TR.pair (TR.sl TrA) (TR.pair (TR.sl TrD) (TR.ptr (TR.pair TR.str TR.int))))) v0 x0] rfl ⟨rfl, trivial⟩ hS ⟨k0, trivial⟩ ?_
 unfold house_House_Accounts_m at hm
 refine GL.seq ?_
 refine GL.region ?_
 refine RL.asg rfl rfl rfl ?_
 refine RL.finG ?_
 refine GL.seq ?_
 refine GL.region ?_
 refine RL.mv rfl rfl rfl ?_
 refine RL.nilk 0 rfl rfl rfl rfl PtOf.imm ?_
 refine RL.fadr (off := 0) (fo := 0) 0 Tryz_fld78_0 rfl rfl rfl PtOf.imm (Or.inr ⟨rfl, rfl⟩) ?_
 refine RL.ldP (off := (0 + 0)) (r := (TR.sl TrA)) (e' := x0.1) 0 Tryz_ln22 rfl rfl (Or.inl rfl) rfl PtOf.imm (Part.fst Part.self) ?_
 intro v6
 obtain ⟨y7, e8, hm⟩ := bind_some hm
 refine RL.call (vs := [v6]) Tryz_fit8 rfl rfl rfl rfl rfl (fun S f w hS hW hi => slices_Clone_api_Account_api_Account_c S w hS _ _ (hi 1 _ rfl) _ e8) ?_
 intro v9
 refine RL.reL (L' := [imm (TR.ptr (TR.pair (TR.sl TrA) (TR.pair (TR.sl TrD) (TR.ptr (TR.pair TR.str TR.int))))) v0 x0, imm (TR.sl TrA) v6 x0.1, own 30 TrA v9 y7]) rfl ?_
 refine RL.asg rfl rfl rfl ?_
 refine RL.finG ?_
 have hm := Option.some.inj hm
 subst hm
 exact GL.ret (Gx.ret (v := v9) (res1 rfl rfl) (fun a w st => (st.pick [2] (by decide) rfl).toPost v9))

set_option maxHeartbeats 4000000 in
theorem house_House_Offers_c (S : Hp) (w : World) (hS : S.sub w) (v0 : Value) (x0 : ((List ((List UInt8) × (Int × Int))) × ((List ((List UInt8) × ((List UInt8) × (Int × (Int × (Int × Int)))))) × ((List UInt8) × Int)))) (k0 : ((TR.ptr (TR.pair (TR.sl TrA) (TR.pair (TR.sl TrD) (TR.ptr (TR.pair TR.str TR.int)))))).vrep S v0 x0) (res : (List ((List UInt8) × ((List UInt8) × (Int × (Int × (Int × Int))))))) (hm : house_House_Offers_m x0 = some res) : Calls Tryz.prog 20 #[v0] w (Post w S (fun (o : Value) => o) (fun (o : Value) => [own 24 TrD o res])) := by
 refine calls_enter 8 Tryz.func20 Tryz.ntmps20 rfl S false [(0, v0)] [imm (TR.ptr (TR.pair (TR.sl TrA) (TR.pair (TR.sl TrD) (TR.ptr (TR.pair TR.str TR.int))))) v0 x0] rfl ⟨rfl, trivial⟩ hS ⟨k0, trivial⟩ ?_
 unfold house_House_Offers_m at hm
 refine GL.seq ?_
 refine GL.region ?_
 refine RL.asg rfl rfl rfl ?_
 refine RL.finG ?_
 refine GL.seq ?_
 refine GL.region ?_
 refine RL.mv rfl rfl rfl ?_
 refine RL.nilk 0 rfl rfl rfl rfl PtOf.imm ?_
 refine RL.fadr (off := 0) (fo := 1) 0 Tryz_fld78_1 rfl rfl rfl PtOf.imm (Or.inr ⟨rfl, rfl⟩) ?_
 refine RL.ldP (off := (0 + 1)) (r := (TR.sl TrD)) (e' := x0.2.1) 0 Tryz_ln25 rfl rfl (Or.inl rfl) rfl PtOf.imm (Part.snd (Part.fst Part.self)) ?_
 intro v6
 obtain ⟨y7, e8, hm⟩ := bind_some hm
 refine RL.call (vs := [v6]) Tryz_fit9 rfl rfl rfl rfl rfl (fun S f w hS hW hi => slices_Clone_api_Deal_api_Deal_c S w hS _ _ (hi 1 _ rfl) _ e8) ?_
 intro v9
 refine RL.reL (L' := [imm (TR.ptr (TR.pair (TR.sl TrA) (TR.pair (TR.sl TrD) (TR.ptr (TR.pair TR.str TR.int))))) v0 x0, imm (TR.sl TrD) v6 x0.2.1, own 24 TrD v9 y7]) rfl ?_
 refine RL.asg rfl rfl rfl ?_
 refine RL.finG ?_
 have hm := Option.some.inj hm
 subst hm
 exact GL.ret (Gx.ret (v := v9) (res1 rfl rfl) (fun a w st => (st.pick [2] (by decide) rfl).toPost v9))

set_option maxHeartbeats 4000000 in
theorem slices_Equal_api_Deal_api_Deal_c (S : Hp) (w : World) (hS : S.sub w) (v0 : Value) (x0 : (List ((List UInt8) × ((List UInt8) × (Int × (Int × (Int × Int))))))) (k0 : ((TR.sl TrD)).vrep S v0 x0) (v1 : Value) (x1 : (List ((List UInt8) × ((List UInt8) × (Int × (Int × (Int × Int))))))) (k1 : ((TR.sl TrD)).vrep S v1 x1) (res : Bool) (hm : slices_Equal_api_Deal_api_Deal_m x0 x1 = some res) : Calls Tryz.prog 22 #[v0, v1] w (PostV w (.bool res)) := by
 refine calls_enter 26 Tryz.func22 Tryz.ntmps22 rfl S false [(0, v0), (1, v1)] [imm (TR.sl TrD) v0 x0, imm (TR.sl TrD) v1 x1] rfl ⟨rfl, ⟨rfl, trivial⟩⟩ hS ⟨k0, ⟨k1, trivial⟩⟩ ?_
 unfold slices_Equal_api_Deal_api_Deal_m at hm
 refine GL.seq ?_
 refine GL.region ?_
 refine RL.asg rfl rfl rfl ?_
 refine RL.finG ?_
 refine GL.seq ?_
 refine GL.seq ?_
 refine GL.region ?_
 refine RL.mv rfl rfl rfl ?_
 refine RL.lenS 0 Tryz.underlying25 rfl rfl rfl rfl SlOf.imm ?_
 refine RL.mv rfl rfl rfl ?_
 refine RL.lenS 1 Tryz.underlying25 rfl rfl rfl rfl SlOf.imm ?_
 refine RL.binI (v := .bool (((x0).length : Int) != ((x1).length : Int))) rfl rfl rfl rfl rfl ?_
 refine RL.finG ?_
 refine GL.cond rfl (fun b3 => ?_) (fun b3 => ?_)
 ·replace hm := ite_t b3 hm
  refine GL.seq ?_
  refine GL.region ?_
  refine RL.asg rfl rfl rfl ?_
  refine RL.finG ?_
  have hm := Option.some.inj hm
  subst hm
  exact GL.ret (Gx.ret (v := .bool false) (res1 rfl rfl) (fun a w st => st.toPostV))
 replace hm := ite_f b3 hm
 refine GL.skip ?_
 refine GL.seq ?_
 refine GL.seq ?_
 refine GL.region ?_
 refine RL.mv rfl rfl rfl ?_
 refine RL.lenS 0 Tryz.underlying25 rfl rfl rfl rfl SlOf.imm ?_
 refine RL.mv rfl rfl rfl ?_
 refine RL.finG ?_
 refine GL.open_ 0 rfl (fun S h => len_imm S h) (fun n17 => ?_)
 obtain ⟨y18, K19, h20, h21, h22, h23, h24⟩ := bindR_K hm
 refine GL.join (ι := Unit) (fun (p : Unit) => []) (fun (p : Unit) => []) (fun (p : Unit) => K19 (.nx ())) ?_ ?_
 ·refine GL.block ?_
  refine GL.loop (ι := Nat × (List ((List UInt8) × ((List UInt8) × (Int × (Int × (Int × Int))))))) (fun (p : Nat × (List ((List UInt8) × ((List UInt8) × (Int × (Int × (Int × Int))))))) => [(0, v0), (1, v1), (12, .int .i64 ((x0).length : Int)), (13, .int .i64 (p.1 : Int))]) (fun (p : Nat × (List ((List UInt8) × ((List UInt8) × (Int × (Int × (Int × Int))))))) => [imm (TR.sl TrD) v0 x0, imm (TR.sl TrD) v1 x1]) (fun (p : Nat × (List ((List UInt8) × ((List UInt8) × (Int × (Int × (Int × Int))))))) => p.1 + p.2.length = (x0).length ∧ List.drop p.1 x0 = p.2 ∧ rangeL (slices_Equal_api_Deal_api_Deal_b1 x1) p.2 p.1 () = some y18) (fun (p : Nat × (List ((List UInt8) × ((List UInt8) × (Int × (Int × (Int × Int))))))) => p.2.length) (0, x0) ⟨by simp, by simp, h20⟩ (fun a w st => St.cut [0, 1] ⟨rfl, rfl, rfl, rfl, trivial⟩ (by decide) rfl st) ?_
  rintro ⟨i25, r26⟩ ⟨h31, h32, h30⟩
  try dsimp only at h31 h32 h30
  refine GL.weak (env' := [(0, v0), (1, v1), (12, .int .i64 ((x0).length : Int)), (13, .int .i64 (i25 : Int))]) (L' := [imm (TR.sl TrD) v0 x0, imm (TR.sl TrD) v1 x1]) (fun _ _ st => st) ?_
  refine GL.seq ?_
  refine GL.region ?_
  refine RL.binI (v := .bool (decide ((i25 : Int) < ((x0).length : Int)))) rfl rfl rfl rfl rfl ?_
  refine RL.finG ?_
  refine GL.seq ?_
  refine GL.cond rfl (fun b33 => ?_) (fun b33 => ?_)
  ·have h34 : i25 < (x0).length := by have := of_decide_eq_true b33; omega
   obtain ⟨y35, r37, hr, e36, h38⟩ := drop_cons h32 rfl h34
   subst hr
   obtain ⟨z27, h28, h29⟩ := rangeL_some h30
   unfold slices_Equal_api_Deal_api_Deal_b1 at h28
   try dsimp only at h28
   refine GL.skip ?_
   refine GL.seq ?_
   refine GL.block ?_
   refine GL.seq ?_
   refine GL.region ?_
   refine RL.mv rfl rfl rfl ?_
   refine RL.asg rfl rfl rfl ?_
   refine RL.finG ?_
   refine GL.seq ?_
   refine GL.regionQ rfl rfl (by kernel_rfl) ?_
   refine RL.mv rfl rfl rfl ?_
   refine RL.mv rfl rfl rfl ?_
   refine RL.idxS (sz := 6) 0 Tryz.underlying25 Tryz_ln24 rfl rfl rfl rfl rfl SlOf.imm (by omega) (by omega) ?_
   refine RL.ldS (i := i25) (r := TrD) (e' := y35) 0 Tryz_ln24 rfl rfl rfl rfl SlOf.imm e36 Part.self ?_
   intro v43
   refine RL.mv rfl rfl rfl ?_
   refine RL.mv rfl rfl rfl ?_
   obtain ⟨y44, e45, h28⟩ := bind_some h28
   refine RL.idxS (sz := 6) 1 Tryz.underlying25 Tryz_ln24 rfl rfl rfl rfl rfl SlOf.imm (idx_some e45).1 (idx_some e45).2.1 ?_
   refine RL.ldS (i := i25) (r := TrD) (e' := y44) 1 Tryz_ln24 rfl rfl rfl rfl SlOf.imm (idx_some e45).2.2 Part.self ?_
   intro v46
   refine RL.reL (L' := [imm (TR.sl TrD) v0 x0, imm (TR.sl TrD) v1 x1, imm TrD v43 y35, imm TrD v46 y44]) rfl ?_
   refine RL.neG (t := TrD) (e := y35) (e' := y44) rfl Tryz_eq24 (by decide) Tryz.eqGuardType24 rfl rfl rfl rfl (VR.item 2 rfl) (VR.item 3 rfl) ?_
   refine RL.finQG ?_
   refine GL.cond rfl (fun b47 => ?_) (fun b47 => ?_)
   ·replace h28 := ite_t b47 h28
    refine GL.seq ?_
    refine GL.region ?_
    refine RL.asg rfl rfl rfl ?_
    refine RL.finG ?_
    cases h28
    replace h29 : some (Fl.rt _) = some y18 := h29
    cases h29
    have hh := h23 _ h21
    subst hh
    exact GL.ret (Gx.ret (v := .bool false) (res1 rfl rfl) (fun a w st => st.toPostV))
   replace h28 := ite_f b47 h28
   refine GL.skip ?_
   refine GL.nilB ?_
   refine GL.region ?_
   refine RL.binI (v := .int .i64 ((i25 + 1 : Nat) : Int)) rfl rfl rfl rfl (binI_succ i25 (by omega)) ?_
   refine RL.mv rfl rfl rfl ?_
   refine RL.fin ?_
   cases h28
   exact fun a w st => lop_intro (i25 + 1, r37) ⟨by show i25 + 1 + r37.length = (x0).length; simp only [List.length_cons] at h31; omega, h38, h29⟩ (by simp) (St.cut [0, 1] ⟨rfl, rfl, rfl, rfl, trivial⟩ (by decide) rfl st)
  have h34 : ¬ i25 < (x0).length := by have := of_decide_eq_false b33; omega
  obtain rfl : r26 = [] := by rw [← h32]; exact List.drop_of_length_le (by omega)
  replace h30 : some (Fl.nx _) = some y18 := h30
  cases h30
  exact GL.exit (fun a w st => mid_intro () h21 (St.cut [] trivial (by decide) rfl st))
 rintro ⟨⟩ h48
 have h49 := h22 _ h48
 try dsimp only at h49
 refine GL.weak (env' := []) (L' := []) (fun _ _ st => st) ?_
 refine GL.seq ?_
 refine GL.region ?_
 refine RL.asg rfl rfl rfl ?_
 refine RL.finG ?_
 have h49 := Option.some.inj h49
 subst h49
 exact GL.ret (Gx.ret (v := .bool true) (res1 rfl rfl) (fun a w st => st.toPostV))

set_option maxHeartbeats 4000000 in
theorem pk_HouseOwn_c (S : Hp) (w : World) (hS : S.sub w) (hT : Tab Tryz.prog (Tryz.lays146_ren.g 1) S) (v0 : Value) (x0 : (List ((List UInt8) × (Int × Int)))) (k0 : ((TR.sl TrA)).vrep S v0 x0) (v1 : Value) (x1 : ((List UInt8) × ((List UInt8) × (Int × (Int × (Int × Int)))))) (k1 : (TrD).vrep S v1 x1) (v2 : Value) (x2 : (List ((List UInt8) × ((List UInt8) × (Int × (Int × (Int × Int))))))) (k2 : ((TR.sl TrD)).vrep S v2 x2) (v3 : Value) (x3 : (List (Int × (Int × ((List UInt8) × ((List UInt8) × ((List UInt8) × (Int × (Int × (Int × Int)))))))))) (k3 : ((TR.sl TrE)).vrep S v3 x3) (res : Bool) (hm : pk_HouseOwn_m x0 x1 x2 x3 = some res) : Calls Tryz.prog 3 #[v0, v1, v2, v3] w (PostV w (.bool res)) := by
 refine calls_enter 149 Tryz.func3 Tryz.ntmps3 rfl S false [(0, v0), (1, v1), (2, v2), (3, v3)] [imm (TR.sl TrA) v0 x0, imm TrD v1 x1, imm (TR.sl TrD) v2 x2, imm (TR.sl TrE) v3 x3] rfl ⟨rfl, ⟨rfl, ⟨rfl, ⟨rfl, trivial⟩⟩⟩⟩ hS ⟨k0, ⟨k1, ⟨k2, ⟨k3, trivial⟩⟩⟩⟩ ?_
 unfold pk_HouseOwn_m at hm
 refine GL.seq ?_
 refine GL.region ?_
 refine RL.box (t := TrD) (e := x1) rfl rfl rfl rfl (VR.item 1 rfl) ?_
 intro v6
 refine RL.asg rfl rfl rfl ?_
 refine RL.finG ?_
 refine GL.seq ?_
 refine GL.seq ?_
 obtain ⟨y30, K31, h32, h33, h34, h35, h36⟩ := bindR_K hm
 refine GL.join (ι := Bool) (fun (p : Bool) => [(0, v0), (2, v2), (3, v3), (5, v6), (43, .bool p)]) (fun (p : Bool) => [imm (TR.sl TrA) v0 x0, imm (TR.sl TrD) v2 x2, imm (TR.sl TrE) v3 x3, obox 24 TrD v6 x1]) (fun (p : Bool) => K31 (.nx p)) ?_ ?_
 ·skip
  refine GL.region ?_
  obtain ⟨y37, e38, h32⟩ := bind_some h32
  refine RL.callV (v := .bool y37) (vs := []) Tryz_fit4 rfl (Or.inl rfl) rfl rfl rfl rfl (fun U w hU hW hL => pk_ledgers_c U w hU  _ e38) ?_
  refine RL.notB rfl rfl rfl ?_
  refine RL.mv rfl rfl rfl ?_
  refine RL.split (t := 32) rfl (fun b39 => ?_) (fun b39 => ?_)
  ·replace h32 := ite_t b39 h32
   refine RL.skip rfl rfl ?_
   refine RL.skip rfl rfl ?_
   refine RL.pickT rfl rfl rfl rfl ?_
   refine RL.mv rfl rfl rfl ?_
   refine RL.skip rfl rfl ?_
   refine RL.skip rfl rfl ?_
   refine RL.pickT rfl rfl rfl rfl ?_
   refine RL.mv rfl rfl rfl ?_
   refine RL.skip rfl rfl ?_
   refine RL.skip rfl rfl ?_
   refine RL.pickT rfl rfl rfl rfl ?_
   refine RL.fin ?_
   cases h32
   exact fun a w st => mid_intro true h33 (St.cut [0, 2, 3, 4] ⟨rfl, rfl, rfl, rfl, rfl, trivial⟩ (by decide) rfl st)
  replace h32 := ite_f b39 h32
  obtain ⟨y40, e41, h32⟩ := bind_some h32
  refine RL.callV (v := .bool y40) (vs := []) Tryz_fit5 rfl (Or.inl rfl) rfl rfl rfl rfl (fun U w hU hW hL => pk_queues_c U w hU  _ e41) ?_
  refine RL.notB rfl rfl rfl ?_
  refine RL.pickF rfl rfl rfl rfl ?_
  refine RL.mv rfl rfl rfl ?_
  refine RL.split (t := 36) rfl (fun b42 => ?_) (fun b42 => ?_)
  ·replace h32 := ite_t b42 h32
   refine RL.skip rfl rfl ?_
   refine RL.skip rfl rfl ?_
   refine RL.pickT rfl rfl rfl rfl ?_
   refine RL.mv rfl rfl rfl ?_
   refine RL.skip rfl rfl ?_
   refine RL.skip rfl rfl ?_
   refine RL.pickT rfl rfl rfl rfl ?_
   refine RL.fin ?_
   cases h32
   exact fun a w st => mid_intro true h33 (St.cut [0, 2, 3, 4] ⟨rfl, rfl, rfl, rfl, rfl, trivial⟩ (by decide) rfl st)
  replace h32 := ite_f b42 h32
  obtain ⟨y43, e44, h32⟩ := bind_some h32
  refine RL.callV (v := .bool y43) (vs := []) Tryz_fit6 rfl (Or.inl rfl) rfl rfl rfl rfl (fun U w hU hW hL => pk_picks_c U w hU  _ e44) ?_
  refine RL.notB rfl rfl rfl ?_
  refine RL.pickF rfl rfl rfl rfl ?_
  refine RL.mv rfl rfl rfl ?_
  refine RL.split (t := 40) rfl (fun b45 => ?_) (fun b45 => ?_)
  ·replace h32 := ite_t b45 h32
   refine RL.skip rfl rfl ?_
   refine RL.skip rfl rfl ?_
   refine RL.pickT rfl rfl rfl rfl ?_
   refine RL.fin ?_
   cases h32
   exact fun a w st => mid_intro true h33 (St.cut [0, 2, 3, 4] ⟨rfl, rfl, rfl, rfl, rfl, trivial⟩ (by decide) rfl st)
  replace h32 := ite_f b45 h32
  obtain ⟨y46, e47, h32⟩ := bind_some h32
  refine RL.callV (v := .bool y46) (vs := []) Tryz_fit7 rfl (Or.inl rfl) rfl rfl rfl rfl (fun U w hU hW hL => pk_houses_c U w hU (hT.mono hW)  _ e47) ?_
  refine RL.notB rfl rfl rfl ?_
  refine RL.pickF rfl rfl rfl rfl ?_
  refine RL.fin ?_
  cases h32
  exact fun a w st => mid_intro (!y46) h33 (St.cut [0, 2, 3, 4] ⟨rfl, rfl, rfl, rfl, rfl, trivial⟩ (by decide) rfl st)
 rintro x29 h48
 have h49 := h34 _ h48
 try dsimp only at h49
 refine GL.weak (env' := [(0, v0), (2, v2), (3, v3), (5, v6), (43, .bool x29)]) (L' := [imm (TR.sl TrA) v0 x0, imm (TR.sl TrD) v2 x2, imm (TR.sl TrE) v3 x3, obox 24 TrD v6 x1]) (fun _ _ st => st) ?_
 refine GL.cond rfl (fun b50 => ?_) (fun b50 => ?_)
 ·replace h49 := ite_t b50 h49
  refine GL.seq ?_
  refine GL.region ?_
  refine RL.asg rfl rfl rfl ?_
  refine RL.finG ?_
  have h49 := Option.some.inj h49
  subst h49
  exact GL.ret (Gx.ret (v := .bool false) (res1 rfl rfl) (fun a w st => st.toPostV))
 replace h49 := ite_f b50 h49
 refine GL.skip ?_
 refine GL.seq ?_
 refine GL.region ?_
 refine RL.mv rfl rfl rfl ?_
 obtain ⟨y57, e58, h49⟩ := bind_some h49
 refine RL.call (vs := [v0]) Tryz_fit8 rfl rfl rfl rfl rfl (fun S f w hS hW hi => slices_Clone_api_Account_api_Account_c S w hS _ _ (hi 0 _ rfl) _ e58) ?_
 intro v59
 refine RL.mv rfl rfl rfl ?_
 obtain ⟨y60, e61, h49⟩ := bind_some h49
 refine RL.call (vs := [v2]) Tryz_fit9 rfl rfl rfl rfl rfl (fun S f w hS hW hi => slices_Clone_api_Deal_api_Deal_c S w hS _ _ (hi 1 _ rfl) _ e61) ?_
 intro v62
 refine RL.reL (L' := [imm (TR.sl TrA) v0 x0, imm (TR.sl TrD) v2 x2, imm (TR.sl TrE) v3 x3, obox 24 TrD v6 x1, own 30 TrA v59 y57, own 24 TrD v62 y60]) rfl ?_
 refine RL.asg rfl rfl rfl ?_
 refine RL.asg rfl rfl rfl ?_
 refine RL.finG ?_
 refine GL.seq ?_
 refine GL.region ?_
 refine RL.mv rfl rfl rfl ?_
 refine RL.ldP (off := 0) (r := TrD) (e' := x1) 3 Tryz_ln24 rfl rfl (Or.inr ⟨rfl, rfl⟩) rfl PtOf.obox Part.self ?_
 intro v67
 refine RL.fadr (off := 0) (fo := 1) 3 Tryz_fld24_1 rfl rfl rfl PtOf.obox (Or.inr ⟨rfl, rfl⟩) ?_
 refine RL.ldPx (off := (0 + 1)) (e' := x1.2.1) 3 Ex.str Tryz_ln9 rfl rfl (Or.inl rfl) rfl PtOf.obox (Part.snd (Part.fst Part.self)) ?_
 obtain ⟨y68, e69, h49⟩ := bind_some h49
 refine RL.call (vs := [v0, v67, .string ⟨(x1.2.1 : List UInt8).toArray⟩]) Tryz_fit10 rfl rfl rfl rfl rfl (fun S f w hS hW hi => ledger_Take_c S w hS _ _ (hi 0 _ rfl) _ _ (hi 6 _ rfl) x1.2.1 _ e69) ?_
 intro v70
 refine RL.reL (L' := [imm (TR.sl TrA) v0 x0, imm (TR.sl TrD) v2 x2, imm (TR.sl TrE) v3 x3, obox 24 TrD v6 x1, own 30 TrA v59 y57, own 24 TrD v62 y60, imm TrD v67 x1, own 30 TrA v70 y68.1]) rfl ?_
 refine RL.mv rfl rfl rfl ?_
 refine RL.ext rfl rfl rfl rfl ?_
 refine RL.ext rfl rfl rfl rfl ?_
 refine RL.asg rfl rfl rfl ?_
 refine RL.asg rfl rfl rfl ?_
 refine RL.finG ?_
 refine GL.seq ?_
 refine GL.region ?_
 refine RL.mv rfl rfl rfl ?_
 refine RL.bld (t := TrA) (d0 := ((([] : List UInt8), (0 : Int), (0 : Int)) : ((List UInt8) × (Int × Int)))) (pv := []) rfl Tryz_bld30 rfl rfl rfl trivial (fun S f hi => by
   show TR.rep TrA S (List.flatten [[.string ⟨#[]⟩], [.int .i64 0], [.int .i64 0]]) _
   simp only [ List.flatten_cons, List.flatten_nil, List.append_nil]
   exact ⟨_, _, rfl, rfl, ⟨_, _, rfl, rfl, rfl⟩⟩) ?_
 intro v74
 obtain ⟨y75, e76, h49⟩ := bind_some h49
 refine RL.callK (vs := [v70, v74]) (V := fun (o : Unit) => .tuple #[]) (LR := fun (o : Unit) => [own 30 TrA v70 y75]) (Ls := [own 30 TrA v70 y68.1]) [7] (by decide) Tryz_fit11 rfl rfl rfl rfl rfl rfl (fun S f X w hO hB hW hI hL => pk_spoil_api_Account_c _ S X f w _ _  hO hB hI _ _ (hL 8 _ _ rfl Sure.imm) _ e76) ?_
 intro _
 refine RL.reL (L' := [imm (TR.sl TrA) v0 x0, imm (TR.sl TrD) v2 x2, imm (TR.sl TrE) v3 x3, obox 24 TrD v6 x1, own 30 TrA v59 y57, own 24 TrD v62 y60, imm TrD v67 x1, gone, imm TrA v74 ((([] : List UInt8), (0 : Int), (0 : Int)) : ((List UInt8) × (Int × Int))), own 30 TrA v70 y75]) rfl ?_
 refine RL.finG ?_
 refine GL.seq ?_
 refine GL.region ?_
 refine RL.mv rfl rfl rfl ?_
 refine RL.fadr (off := 0) (fo := 1) 3 Tryz_fld24_1 rfl rfl rfl PtOf.obox (Or.inr ⟨rfl, rfl⟩) ?_
 refine RL.ldPx (off := (0 + 1)) (e' := x1.2.1) 3 Ex.str Tryz_ln9 rfl rfl (Or.inl rfl) rfl PtOf.obox (Part.snd (Part.fst Part.self)) ?_
 obtain ⟨y80, e81, h49⟩ := bind_some h49
 refine RL.call (vs := [v0, .string ⟨(x1.2.1 : List UInt8).toArray⟩, .int .i64 (1 : Int)]) Tryz_fit12 rfl rfl rfl rfl rfl (fun S f w hS hW hi => ledger_Open_c S w hS _ _ (hi 0 _ rfl) x1.2.1 (1 : Int) _ e81) ?_
 intro v82
 refine RL.mv rfl rfl rfl ?_
 refine RL.ext rfl rfl rfl rfl ?_
 refine RL.ext rfl rfl rfl rfl ?_
 refine RL.asg rfl rfl rfl ?_
 refine RL.asg rfl rfl rfl ?_
 refine RL.finG ?_
 refine GL.seq ?_
 refine GL.region ?_
 refine RL.mv rfl rfl rfl ?_
 refine RL.bld (t := TrA) (d0 := ((([] : List UInt8), (0 : Int), (0 : Int)) : ((List UInt8) × (Int × Int)))) (pv := []) rfl Tryz_bld30 rfl rfl rfl trivial (fun S f hi => by
   show TR.rep TrA S (List.flatten [[.string ⟨#[]⟩], [.int .i64 0], [.int .i64 0]]) _
   simp only [ List.flatten_cons, List.flatten_nil, List.append_nil]
   exact ⟨_, _, rfl, rfl, ⟨_, _, rfl, rfl, rfl⟩⟩) ?_
 intro v86
 refine RL.reL (L' := [imm (TR.sl TrA) v0 x0, imm (TR.sl TrD) v2 x2, imm (TR.sl TrE) v3 x3, obox 24 TrD v6 x1, own 30 TrA v59 y57, own 24 TrD v62 y60, imm TrD v67 x1, gone, imm TrA v74 ((([] : List UInt8), (0 : Int), (0 : Int)) : ((List UInt8) × (Int × Int))), own 30 TrA v70 y75, own 30 TrA v82 y80.1, imm TrA v86 ((([] : List UInt8), (0 : Int), (0 : Int)) : ((List UInt8) × (Int × Int)))]) rfl ?_
 obtain ⟨y87, e88, h49⟩ := bind_some h49
 refine RL.callK (vs := [v82, v86]) (V := fun (o : Unit) => .tuple #[]) (LR := fun (o : Unit) => [own 30 TrA v82 y87]) (Ls := [own 30 TrA v82 y80.1]) [10] (by decide) Tryz_fit11 rfl rfl rfl rfl rfl rfl (fun S f X w hO hB hW hI hL => pk_spoil_api_Account_c _ S X f w _ _  hO hB hI _ _ (hL 11 _ _ rfl Sure.imm) _ e88) ?_
 intro _
 refine RL.reL (L' := [imm (TR.sl TrA) v0 x0, imm (TR.sl TrD) v2 x2, imm (TR.sl TrE) v3 x3, obox 24 TrD v6 x1, own 30 TrA v59 y57, own 24 TrD v62 y60, imm TrD v67 x1, gone, imm TrA v74 ((([] : List UInt8), (0 : Int), (0 : Int)) : ((List UInt8) × (Int × Int))), own 30 TrA v70 y75, gone, imm TrA v86 ((([] : List UInt8), (0 : Int), (0 : Int)) : ((List UInt8) × (Int × Int))), own 30 TrA v82 y87]) rfl ?_
 refine RL.finG ?_
 refine GL.seq ?_
 refine GL.region ?_
 refine RL.mv rfl rfl rfl ?_
 refine RL.ldP (off := 0) (r := TrD) (e' := x1) 3 Tryz_ln24 rfl rfl (Or.inr ⟨rfl, rfl⟩) rfl PtOf.obox Part.self ?_
 intro v93
 obtain ⟨y94, e95, h49⟩ := bind_some h49
 refine RL.call (vs := [v2, v93]) Tryz_fit13 rfl rfl rfl rfl rfl (fun S f w hS hW hi => queue_Add_c S w hS _ _ (hi 1 _ rfl) _ _ (hi 13 _ rfl) _ e95) ?_
 intro v96
 refine RL.reL (L' := [imm (TR.sl TrA) v0 x0, imm (TR.sl TrD) v2 x2, imm (TR.sl TrE) v3 x3, obox 24 TrD v6 x1, own 30 TrA v59 y57, own 24 TrD v62 y60, imm TrD v67 x1, gone, imm TrA v74 ((([] : List UInt8), (0 : Int), (0 : Int)) : ((List UInt8) × (Int × Int))), own 30 TrA v70 y75, gone, imm TrA v86 ((([] : List UInt8), (0 : Int), (0 : Int)) : ((List UInt8) × (Int × Int))), own 30 TrA v82 y87, imm TrD v93 x1, own 24 TrD v96 y94.1]) rfl ?_
 refine RL.mv rfl rfl rfl ?_
 refine RL.ext rfl rfl rfl rfl ?_
 refine RL.ext rfl rfl rfl rfl ?_
 refine RL.asg rfl rfl rfl ?_
 refine RL.asg rfl rfl rfl ?_
 refine RL.finG ?_
 refine GL.seq ?_
 refine GL.region ?_
 refine RL.mv rfl rfl rfl ?_
 refine RL.bld (t := TrD) (d0 := ((([] : List UInt8), ([] : List UInt8), (0 : Int), (0 : Int), (0 : Int), (0 : Int)) : ((List UInt8) × ((List UInt8) × (Int × (Int × (Int × Int))))))) (pv := []) rfl Tryz_bld24 rfl rfl rfl trivial (fun S f hi => by
   show TR.rep TrD S (List.flatten [[.string ⟨#[]⟩], [.string ⟨#[]⟩], [.int .i64 0], [.int .i64 0], [.int .i64 0], [.int .i64 0]]) _
   simp only [ List.flatten_cons, List.flatten_nil, List.append_nil]
   exact ⟨_, _, rfl, rfl, ⟨_, _, rfl, rfl, ⟨_, _, rfl, rfl, ⟨_, _, rfl, rfl, ⟨_, _, rfl, rfl, rfl⟩⟩⟩⟩⟩) ?_
 intro v100
 obtain ⟨y101, e102, h49⟩ := bind_some h49
 refine RL.callK (vs := [v96, v100]) (V := fun (o : Unit) => .tuple #[]) (LR := fun (o : Unit) => [own 24 TrD v96 y101]) (Ls := [own 24 TrD v96 y94.1]) [14] (by decide) Tryz_fit14 rfl rfl rfl rfl rfl rfl (fun S f X w hO hB hW hI hL => pk_spoil_api_Deal_c _ S X f w _ _  hO hB hI _ _ (hL 15 _ _ rfl Sure.imm) _ e102) ?_
 intro _
 refine RL.reL (L' := [imm (TR.sl TrA) v0 x0, imm (TR.sl TrD) v2 x2, imm (TR.sl TrE) v3 x3, obox 24 TrD v6 x1, own 30 TrA v59 y57, own 24 TrD v62 y60, imm TrD v67 x1, gone, imm TrA v74 ((([] : List UInt8), (0 : Int), (0 : Int)) : ((List UInt8) × (Int × Int))), own 30 TrA v70 y75, gone, imm TrA v86 ((([] : List UInt8), (0 : Int), (0 : Int)) : ((List UInt8) × (Int × Int))), own 30 TrA v82 y87, imm TrD v93 x1, gone, imm TrD v100 ((([] : List UInt8), ([] : List UInt8), (0 : Int), (0 : Int), (0 : Int), (0 : Int)) : ((List UInt8) × ((List UInt8) × (Int × (Int × (Int × Int)))))), own 24 TrD v96 y101]) rfl ?_
 refine RL.finG ?_
 refine GL.seq ?_
 refine GL.region ?_
 refine RL.mv rfl rfl rfl ?_
 refine RL.mv rfl rfl rfl ?_
 obtain ⟨y106, e107, h49⟩ := bind_some h49
 refine RL.call (vs := [v2, v0]) Tryz_fit15 rfl rfl rfl rfl rfl (fun S f w hS hW hi => queue_Clean_c S w hS _ _ (hi 1 _ rfl) _ _ (hi 0 _ rfl) _ e107) ?_
 intro v108
 refine RL.mv rfl rfl rfl ?_
 refine RL.ext rfl rfl rfl rfl ?_
 refine RL.ext rfl rfl rfl rfl ?_
 refine RL.asg rfl rfl rfl ?_
 refine RL.asg rfl rfl rfl ?_
 refine RL.finG ?_
 refine GL.seq ?_
 refine GL.region ?_
 refine RL.mv rfl rfl rfl ?_
 refine RL.bld (t := TrD) (d0 := ((([] : List UInt8), ([] : List UInt8), (0 : Int), (0 : Int), (0 : Int), (0 : Int)) : ((List UInt8) × ((List UInt8) × (Int × (Int × (Int × Int))))))) (pv := []) rfl Tryz_bld24 rfl rfl rfl trivial (fun S f hi => by
   show TR.rep TrD S (List.flatten [[.string ⟨#[]⟩], [.string ⟨#[]⟩], [.int .i64 0], [.int .i64 0], [.int .i64 0], [.int .i64 0]]) _
   simp only [ List.flatten_cons, List.flatten_nil, List.append_nil]
   exact ⟨_, _, rfl, rfl, ⟨_, _, rfl, rfl, ⟨_, _, rfl, rfl, ⟨_, _, rfl, rfl, ⟨_, _, rfl, rfl, rfl⟩⟩⟩⟩⟩) ?_
 intro v112
 refine RL.reL (L' := [imm (TR.sl TrA) v0 x0, imm (TR.sl TrD) v2 x2, imm (TR.sl TrE) v3 x3, obox 24 TrD v6 x1, own 30 TrA v59 y57, own 24 TrD v62 y60, imm TrD v67 x1, gone, imm TrA v74 ((([] : List UInt8), (0 : Int), (0 : Int)) : ((List UInt8) × (Int × Int))), own 30 TrA v70 y75, gone, imm TrA v86 ((([] : List UInt8), (0 : Int), (0 : Int)) : ((List UInt8) × (Int × Int))), own 30 TrA v82 y87, imm TrD v93 x1, gone, imm TrD v100 ((([] : List UInt8), ([] : List UInt8), (0 : Int), (0 : Int), (0 : Int), (0 : Int)) : ((List UInt8) × ((List UInt8) × (Int × (Int × (Int × Int)))))), own 24 TrD v96 y101, own 24 TrD v108 y106.1, imm TrD v112 ((([] : List UInt8), ([] : List UInt8), (0 : Int), (0 : Int), (0 : Int), (0 : Int)) : ((List UInt8) × ((List UInt8) × (Int × (Int × (Int × Int))))))]) rfl ?_
 obtain ⟨y113, e114, h49⟩ := bind_some h49
 refine RL.callK (vs := [v108, v112]) (V := fun (o : Unit) => .tuple #[]) (LR := fun (o : Unit) => [own 24 TrD v108 y113]) (Ls := [own 24 TrD v108 y106.1]) [17] (by decide) Tryz_fit14 rfl rfl rfl rfl rfl rfl (fun S f X w hO hB hW hI hL => pk_spoil_api_Deal_c _ S X f w _ _  hO hB hI _ _ (hL 18 _ _ rfl Sure.imm) _ e114) ?_
 intro _
 refine RL.reL (L' := [imm (TR.sl TrA) v0 x0, imm (TR.sl TrD) v2 x2, imm (TR.sl TrE) v3 x3, obox 24 TrD v6 x1, own 30 TrA v59 y57, own 24 TrD v62 y60, imm TrD v67 x1, gone, imm TrA v74 ((([] : List UInt8), (0 : Int), (0 : Int)) : ((List UInt8) × (Int × Int))), own 30 TrA v70 y75, gone, imm TrA v86 ((([] : List UInt8), (0 : Int), (0 : Int)) : ((List UInt8) × (Int × Int))), own 30 TrA v82 y87, imm TrD v93 x1, gone, imm TrD v100 ((([] : List UInt8), ([] : List UInt8), (0 : Int), (0 : Int), (0 : Int), (0 : Int)) : ((List UInt8) × ((List UInt8) × (Int × (Int × (Int × Int)))))), own 24 TrD v96 y101, gone, imm TrD v112 ((([] : List UInt8), ([] : List UInt8), (0 : Int), (0 : Int), (0 : Int), (0 : Int)) : ((List UInt8) × ((List UInt8) × (Int × (Int × (Int × Int)))))), own 24 TrD v108 y113]) rfl ?_
 refine RL.finG ?_
 refine GL.seq ?_
 refine GL.region ?_
 refine RL.mv rfl rfl rfl ?_
 refine RL.mv rfl rfl rfl ?_
 refine RL.fadr (off := 0) (fo := 1) 3 Tryz_fld24_1 rfl rfl rfl PtOf.obox (Or.inr ⟨rfl, rfl⟩) ?_
 refine RL.ldPx (off := (0 + 1)) (e' := x1.2.1) 3 Ex.str Tryz_ln9 rfl rfl (Or.inl rfl) rfl PtOf.obox (Part.snd (Part.fst Part.self)) ?_
 obtain ⟨y119, e120, h49⟩ := bind_some h49
 refine RL.call (vs := [v2, v0, .string ⟨(x1.2.1 : List UInt8).toArray⟩, .int .i64 (50 : Int)]) Tryz_fit16 rfl rfl rfl rfl rfl (fun S f w hS hW hi => pick_Build_c S w hS _ _ (hi 1 _ rfl) _ _ (hi 0 _ rfl) x1.2.1 (50 : Int) _ e120) ?_
 intro ⟨v121, v122⟩
 refine RL.mv rfl rfl rfl ?_
 refine RL.ext rfl rfl rfl rfl ?_
 refine RL.ext rfl rfl rfl rfl ?_
 refine RL.ext rfl rfl rfl rfl ?_
 refine RL.asg rfl rfl rfl ?_
 refine RL.asg rfl rfl rfl ?_
 refine RL.asg rfl rfl rfl ?_
 refine RL.finG ?_
 refine GL.seq ?_
 refine GL.region ?_
 refine RL.mv rfl rfl rfl ?_
 refine RL.bld (t := TrA) (d0 := ((([] : List UInt8), (0 : Int), (0 : Int)) : ((List UInt8) × (Int × Int)))) (pv := []) rfl Tryz_bld30 rfl rfl rfl trivial (fun S f hi => by
   show TR.rep TrA S (List.flatten [[.string ⟨#[]⟩], [.int .i64 0], [.int .i64 0]]) _
   simp only [ List.flatten_cons, List.flatten_nil, List.append_nil]
   exact ⟨_, _, rfl, rfl, ⟨_, _, rfl, rfl, rfl⟩⟩) ?_
 intro v126
 refine RL.reL (L' := [imm (TR.sl TrA) v0 x0, imm (TR.sl TrD) v2 x2, imm (TR.sl TrE) v3 x3, obox 24 TrD v6 x1, own 30 TrA v59 y57, own 24 TrD v62 y60, imm TrD v67 x1, gone, imm TrA v74 ((([] : List UInt8), (0 : Int), (0 : Int)) : ((List UInt8) × (Int × Int))), own 30 TrA v70 y75, gone, imm TrA v86 ((([] : List UInt8), (0 : Int), (0 : Int)) : ((List UInt8) × (Int × Int))), own 30 TrA v82 y87, imm TrD v93 x1, gone, imm TrD v100 ((([] : List UInt8), ([] : List UInt8), (0 : Int), (0 : Int), (0 : Int), (0 : Int)) : ((List UInt8) × ((List UInt8) × (Int × (Int × (Int × Int)))))), own 24 TrD v96 y101, gone, imm TrD v112 ((([] : List UInt8), ([] : List UInt8), (0 : Int), (0 : Int), (0 : Int), (0 : Int)) : ((List UInt8) × ((List UInt8) × (Int × (Int × (Int × Int)))))), own 24 TrD v108 y113, own 3 TR.int v121 y119.1, own 30 TrA v122 y119.2.1, imm TrA v126 ((([] : List UInt8), (0 : Int), (0 : Int)) : ((List UInt8) × (Int × Int)))]) rfl ?_
 obtain ⟨y127, e128, h49⟩ := bind_some h49
 refine RL.callK (vs := [v122, v126]) (V := fun (o : Unit) => .tuple #[]) (LR := fun (o : Unit) => [own 30 TrA v122 y127]) (Ls := [own 30 TrA v122 y119.2.1]) [21] (by decide) Tryz_fit11 rfl rfl rfl rfl rfl rfl (fun S f X w hO hB hW hI hL => pk_spoil_api_Account_c _ S X f w _ _  hO hB hI _ _ (hL 22 _ _ rfl Sure.imm) _ e128) ?_
 intro _
 refine RL.reL (L' := [imm (TR.sl TrA) v0 x0, imm (TR.sl TrD) v2 x2, imm (TR.sl TrE) v3 x3, obox 24 TrD v6 x1, own 30 TrA v59 y57, own 24 TrD v62 y60, imm TrD v67 x1, gone, imm TrA v74 ((([] : List UInt8), (0 : Int), (0 : Int)) : ((List UInt8) × (Int × Int))), own 30 TrA v70 y75, gone, imm TrA v86 ((([] : List UInt8), (0 : Int), (0 : Int)) : ((List UInt8) × (Int × Int))), own 30 TrA v82 y87, imm TrD v93 x1, gone, imm TrD v100 ((([] : List UInt8), ([] : List UInt8), (0 : Int), (0 : Int), (0 : Int), (0 : Int)) : ((List UInt8) × ((List UInt8) × (Int × (Int × (Int × Int)))))), own 24 TrD v96 y101, gone, imm TrD v112 ((([] : List UInt8), ([] : List UInt8), (0 : Int), (0 : Int), (0 : Int), (0 : Int)) : ((List UInt8) × ((List UInt8) × (Int × (Int × (Int × Int)))))), own 24 TrD v108 y113, own 3 TR.int v121 y119.1, gone, imm TrA v126 ((([] : List UInt8), (0 : Int), (0 : Int)) : ((List UInt8) × (Int × Int))), own 30 TrA v122 y127]) rfl ?_
 refine RL.finG ?_
 refine GL.seq ?_
 refine GL.region ?_
 refine RL.mv rfl rfl rfl ?_
 refine RL.mv rfl rfl rfl ?_
 refine RL.fadr (off := 0) (fo := 1) 3 Tryz_fld24_1 rfl rfl rfl PtOf.obox (Or.inr ⟨rfl, rfl⟩) ?_
 refine RL.ldPx (off := (0 + 1)) (e' := x1.2.1) 3 Ex.str Tryz_ln9 rfl rfl (Or.inl rfl) rfl PtOf.obox (Part.snd (Part.fst Part.self)) ?_
 obtain ⟨y132, e133, h49⟩ := bind_some h49
 refine RL.call (vs := [v2, v0, .string ⟨(x1.2.1 : List UInt8).toArray⟩]) Tryz_fit17 rfl rfl rfl rfl rfl (fun S f w hS hW hi => pick_Replay_c S w hS _ _ (hi 1 _ rfl) _ _ (hi 0 _ rfl) x1.2.1 _ e133) ?_
 intro v134
 refine RL.mv rfl rfl rfl ?_
 refine RL.ext rfl rfl rfl rfl ?_
 refine RL.ext rfl rfl rfl rfl ?_
 refine RL.ext rfl rfl rfl rfl ?_
 refine RL.asg rfl rfl rfl ?_
 refine RL.asg rfl rfl rfl ?_
 refine RL.asg rfl rfl rfl ?_
 refine RL.finG ?_
 refine GL.seq ?_
 refine GL.region ?_
 refine RL.mv rfl rfl rfl ?_
 refine RL.bld (t := TrA) (d0 := ((([] : List UInt8), (0 : Int), (0 : Int)) : ((List UInt8) × (Int × Int)))) (pv := []) rfl Tryz_bld30 rfl rfl rfl trivial (fun S f hi => by
   show TR.rep TrA S (List.flatten [[.string ⟨#[]⟩], [.int .i64 0], [.int .i64 0]]) _
   simp only [ List.flatten_cons, List.flatten_nil, List.append_nil]
   exact ⟨_, _, rfl, rfl, ⟨_, _, rfl, rfl, rfl⟩⟩) ?_
 intro v138
 refine RL.reL (L' := [imm (TR.sl TrA) v0 x0, imm (TR.sl TrD) v2 x2, imm (TR.sl TrE) v3 x3, obox 24 TrD v6 x1, own 30 TrA v59 y57, own 24 TrD v62 y60, imm TrD v67 x1, gone, imm TrA v74 ((([] : List UInt8), (0 : Int), (0 : Int)) : ((List UInt8) × (Int × Int))), own 30 TrA v70 y75, gone, imm TrA v86 ((([] : List UInt8), (0 : Int), (0 : Int)) : ((List UInt8) × (Int × Int))), own 30 TrA v82 y87, imm TrD v93 x1, gone, imm TrD v100 ((([] : List UInt8), ([] : List UInt8), (0 : Int), (0 : Int), (0 : Int), (0 : Int)) : ((List UInt8) × ((List UInt8) × (Int × (Int × (Int × Int)))))), own 24 TrD v96 y101, gone, imm TrD v112 ((([] : List UInt8), ([] : List UInt8), (0 : Int), (0 : Int), (0 : Int), (0 : Int)) : ((List UInt8) × ((List UInt8) × (Int × (Int × (Int × Int)))))), own 24 TrD v108 y113, own 3 TR.int v121 y119.1, gone, imm TrA v126 ((([] : List UInt8), (0 : Int), (0 : Int)) : ((List UInt8) × (Int × Int))), own 30 TrA v122 y127, own 30 TrA v134 y132.1, imm TrA v138 ((([] : List UInt8), (0 : Int), (0 : Int)) : ((List UInt8) × (Int × Int)))]) rfl ?_
 obtain ⟨y139, e140, h49⟩ := bind_some h49
 refine RL.callK (vs := [v134, v138]) (V := fun (o : Unit) => .tuple #[]) (LR := fun (o : Unit) => [own 30 TrA v134 y139]) (Ls := [own 30 TrA v134 y132.1]) [24] (by decide) Tryz_fit11 rfl rfl rfl rfl rfl rfl (fun S f X w hO hB hW hI hL => pk_spoil_api_Account_c _ S X f w _ _  hO hB hI _ _ (hL 25 _ _ rfl Sure.imm) _ e140) ?_
 intro _
 refine RL.reL (L' := [imm (TR.sl TrA) v0 x0, imm (TR.sl TrD) v2 x2, imm (TR.sl TrE) v3 x3, obox 24 TrD v6 x1, own 30 TrA v59 y57, own 24 TrD v62 y60, imm TrD v67 x1, gone, imm TrA v74 ((([] : List UInt8), (0 : Int), (0 : Int)) : ((List UInt8) × (Int × Int))), own 30 TrA v70 y75, gone, imm TrA v86 ((([] : List UInt8), (0 : Int), (0 : Int)) : ((List UInt8) × (Int × Int))), own 30 TrA v82 y87, imm TrD v93 x1, gone, imm TrD v100 ((([] : List UInt8), ([] : List UInt8), (0 : Int), (0 : Int), (0 : Int), (0 : Int)) : ((List UInt8) × ((List UInt8) × (Int × (Int × (Int × Int)))))), own 24 TrD v96 y101, gone, imm TrD v112 ((([] : List UInt8), ([] : List UInt8), (0 : Int), (0 : Int), (0 : Int), (0 : Int)) : ((List UInt8) × ((List UInt8) × (Int × (Int × (Int × Int)))))), own 24 TrD v108 y113, own 3 TR.int v121 y119.1, gone, imm TrA v126 ((([] : List UInt8), (0 : Int), (0 : Int)) : ((List UInt8) × (Int × Int))), own 30 TrA v122 y127, gone, imm TrA v138 ((([] : List UInt8), (0 : Int), (0 : Int)) : ((List UInt8) × (Int × Int))), own 30 TrA v134 y139]) rfl ?_
 refine RL.finG ?_
 refine GL.seq ?_
 refine GL.region ?_
 refine RL.mv rfl rfl rfl ?_
 obtain ⟨y145, e146, h49⟩ := bind_some h49
 refine RL.call (vs := [v3]) Tryz_fit18 rfl rfl rfl rfl rfl (fun S f w hS hW hi => pk_worked_c S w hS (hT.mono hW) _ _ (hi 2 _ rfl) _ e146) ?_
 intro ⟨v147, u148⟩
 refine RL.reL (L' := [imm (TR.sl TrA) v0 x0, imm (TR.sl TrD) v2 x2, imm (TR.sl TrE) v3 x3, obox 24 TrD v6 x1, own 30 TrA v59 y57, own 24 TrD v62 y60, imm TrD v67 x1, gone, imm TrA v74 ((([] : List UInt8), (0 : Int), (0 : Int)) : ((List UInt8) × (Int × Int))), own 30 TrA v70 y75, gone, imm TrA v86 ((([] : List UInt8), (0 : Int), (0 : Int)) : ((List UInt8) × (Int × Int))), own 30 TrA v82 y87, imm TrD v93 x1, gone, imm TrD v100 ((([] : List UInt8), ([] : List UInt8), (0 : Int), (0 : Int), (0 : Int), (0 : Int)) : ((List UInt8) × ((List UInt8) × (Int × (Int × (Int × Int)))))), own 24 TrD v96 y101, gone, imm TrD v112 ((([] : List UInt8), ([] : List UInt8), (0 : Int), (0 : Int), (0 : Int), (0 : Int)) : ((List UInt8) × ((List UInt8) × (Int × (Int × (Int × Int)))))), own 24 TrD v108 y113, own 3 TR.int v121 y119.1, gone, imm TrA v126 ((([] : List UInt8), (0 : Int), (0 : Int)) : ((List UInt8) × (Int × Int))), own 30 TrA v122 y127, gone, imm TrA v138 ((([] : List UInt8), (0 : Int), (0 : Int)) : ((List UInt8) × (Int × Int))), own 30 TrA v134 y139, obox 78 TrH v147 (y145.1, (y145.2.1, u148)), obox 95 (TR.pair TR.str TR.int) u148 y145.2.2]) rfl ?_
 refine RL.asg rfl rfl rfl ?_
 refine RL.finG ?_
 refine GL.seq ?_
 refine GL.seq ?_
 refine GL.region ?_
 refine RL.mv rfl rfl rfl ?_
 refine RL.eqP 27 Tryz.underlying46 rfl rfl rfl rfl rfl PtOf.obox ?_
 refine RL.finG ?_
 refine GL.cond rfl (fun b149 => ?_) (fun b149 => ?_)
 ·exact absurd b149 (by decide)
 refine GL.skip ?_
 refine GL.seq ?_
 refine GL.region ?_
 refine RL.mv rfl rfl rfl ?_
 obtain ⟨y156, e157, h49⟩ := bind_some h49
 refine RL.callU (vs := [v147]) (LR := fun (o : Value) => [own 30 TrA o y156]) (fun o => ⟨Loc.own (TR.flatT_pair TR.flatT_str (TR.flatT_pair TR.flatT_ik TR.flatT_ik)), trivial⟩) Tryz_fit19 rfl rfl rfl rfl rfl (fun U w hU hW hL => house_House_Accounts_c U w hU _ _ (ptr_held (Helded.snd (Helded.snd (Helded.raw rfl))) (hL 27 _ _ rfl Seen.obox) (hL 28 _ _ rfl Seen.obox)) _ e157) ?_
 intro v158
 refine RL.mv rfl rfl rfl ?_
 obtain ⟨y159, e160, h49⟩ := bind_some h49
 refine RL.callU (vs := [v147]) (LR := fun (o : Value) => [own 24 TrD o y159]) (fun o => ⟨Loc.own (TR.flatT_pair TR.flatT_str (TR.flatT_pair TR.flatT_str (TR.flatT_pair TR.flatT_ik (TR.flatT_pair TR.flatT_ik (TR.flatT_pair TR.flatT_ik TR.flatT_ik))))), trivial⟩) Tryz_fit20 rfl rfl rfl rfl rfl (fun U w hU hW hL => house_House_Offers_c U w hU _ _ (ptr_held (Helded.snd (Helded.snd (Helded.raw rfl))) (hL 27 _ _ rfl Seen.obox) (hL 28 _ _ rfl Seen.obox)) _ e160) ?_
 intro v161
 refine RL.asg rfl rfl rfl ?_
 refine RL.asg rfl rfl rfl ?_
 refine RL.finG ?_
 refine GL.seq ?_
 refine GL.region ?_
 refine RL.mv rfl rfl rfl ?_
 obtain ⟨y168, e169, h49⟩ := bind_some h49
 refine RL.callU (vs := [v158]) (LR := fun (o : Value) => [own 30 TrA o y168]) (fun o => ⟨Loc.own (TR.flatT_pair TR.flatT_str (TR.flatT_pair TR.flatT_ik TR.flatT_ik)), trivial⟩) Tryz_fit8 rfl rfl rfl rfl rfl (fun U w hU hW hL => slices_Clone_api_Account_api_Account_c U w hU _ _ (hL 29 _ _ rfl Seen.own) _ e169) ?_
 intro v170
 refine RL.mv rfl rfl rfl ?_
 obtain ⟨y171, e172, h49⟩ := bind_some h49
 refine RL.callU (vs := [v161]) (LR := fun (o : Value) => [own 24 TrD o y171]) (fun o => ⟨Loc.own (TR.flatT_pair TR.flatT_str (TR.flatT_pair TR.flatT_str (TR.flatT_pair TR.flatT_ik (TR.flatT_pair TR.flatT_ik (TR.flatT_pair TR.flatT_ik TR.flatT_ik))))), trivial⟩) Tryz_fit9 rfl rfl rfl rfl rfl (fun U w hU hW hL => slices_Clone_api_Deal_api_Deal_c U w hU _ _ (hL 30 _ _ rfl Seen.own) _ e172) ?_
 intro v173
 refine RL.asg rfl rfl rfl ?_
 refine RL.asg rfl rfl rfl ?_
 refine RL.finG ?_
 refine GL.seq ?_
 refine GL.region ?_
 refine RL.mv rfl rfl rfl ?_
 refine RL.bld (t := TrA) (d0 := ((([] : List UInt8), (0 : Int), (0 : Int)) : ((List UInt8) × (Int × Int)))) (pv := []) rfl Tryz_bld30 rfl rfl rfl trivial (fun S f hi => by
   show TR.rep TrA S (List.flatten [[.string ⟨#[]⟩], [.int .i64 0], [.int .i64 0]]) _
   simp only [ List.flatten_cons, List.flatten_nil, List.append_nil]
   exact ⟨_, _, rfl, rfl, ⟨_, _, rfl, rfl, rfl⟩⟩) ?_
 intro v177
 obtain ⟨y178, e179, h49⟩ := bind_some h49
 refine RL.callK (vs := [v158, v177]) (V := fun (o : Unit) => .tuple #[]) (LR := fun (o : Unit) => [own 30 TrA v158 y178]) (Ls := [own 30 TrA v158 y156]) [29] (by decide) Tryz_fit11 rfl rfl rfl rfl rfl rfl (fun S f X w hO hB hW hI hL => pk_spoil_api_Account_c _ S X f w _ _  hO hB hI _ _ (hL 33 _ _ rfl Sure.imm) _ e179) ?_
 intro _
 refine RL.reL (L' := [imm (TR.sl TrA) v0 x0, imm (TR.sl TrD) v2 x2, imm (TR.sl TrE) v3 x3, obox 24 TrD v6 x1, own 30 TrA v59 y57, own 24 TrD v62 y60, imm TrD v67 x1, gone, imm TrA v74 ((([] : List UInt8), (0 : Int), (0 : Int)) : ((List UInt8) × (Int × Int))), own 30 TrA v70 y75, gone, imm TrA v86 ((([] : List UInt8), (0 : Int), (0 : Int)) : ((List UInt8) × (Int × Int))), own 30 TrA v82 y87, imm TrD v93 x1, gone, imm TrD v100 ((([] : List UInt8), ([] : List UInt8), (0 : Int), (0 : Int), (0 : Int), (0 : Int)) : ((List UInt8) × ((List UInt8) × (Int × (Int × (Int × Int)))))), own 24 TrD v96 y101, gone, imm TrD v112 ((([] : List UInt8), ([] : List UInt8), (0 : Int), (0 : Int), (0 : Int), (0 : Int)) : ((List UInt8) × ((List UInt8) × (Int × (Int × (Int × Int)))))), own 24 TrD v108 y113, own 3 TR.int v121 y119.1, gone, imm TrA v126 ((([] : List UInt8), (0 : Int), (0 : Int)) : ((List UInt8) × (Int × Int))), own 30 TrA v122 y127, gone, imm TrA v138 ((([] : List UInt8), (0 : Int), (0 : Int)) : ((List UInt8) × (Int × Int))), own 30 TrA v134 y139, obox 78 TrH v147 (y145.1, (y145.2.1, u148)), obox 95 (TR.pair TR.str TR.int) u148 y145.2.2, gone, own 24 TrD v161 y159, own 30 TrA v170 y168, own 24 TrD v173 y171, imm TrA v177 ((([] : List UInt8), (0 : Int), (0 : Int)) : ((List UInt8) × (Int × Int))), own 30 TrA v158 y178]) rfl ?_
 refine RL.finG ?_
 refine GL.seq ?_
 refine GL.region ?_
 refine RL.mv rfl rfl rfl ?_
 refine RL.bld (t := TrD) (d0 := ((([] : List UInt8), ([] : List UInt8), (0 : Int), (0 : Int), (0 : Int), (0 : Int)) : ((List UInt8) × ((List UInt8) × (Int × (Int × (Int × Int))))))) (pv := []) rfl Tryz_bld24 rfl rfl rfl trivial (fun S f hi => by
   show TR.rep TrD S (List.flatten [[.string ⟨#[]⟩], [.string ⟨#[]⟩], [.int .i64 0], [.int .i64 0], [.int .i64 0], [.int .i64 0]]) _
   simp only [ List.flatten_cons, List.flatten_nil, List.append_nil]
   exact ⟨_, _, rfl, rfl, ⟨_, _, rfl, rfl, ⟨_, _, rfl, rfl, ⟨_, _, rfl, rfl, ⟨_, _, rfl, rfl, rfl⟩⟩⟩⟩⟩) ?_
 intro v183
 obtain ⟨y184, e185, h49⟩ := bind_some h49
 refine RL.callK (vs := [v161, v183]) (V := fun (o : Unit) => .tuple #[]) (LR := fun (o : Unit) => [own 24 TrD v161 y184]) (Ls := [own 24 TrD v161 y159]) [30] (by decide) Tryz_fit14 rfl rfl rfl rfl rfl rfl (fun S f X w hO hB hW hI hL => pk_spoil_api_Deal_c _ S X f w _ _  hO hB hI _ _ (hL 35 _ _ rfl Sure.imm) _ e185) ?_
 intro _
 refine RL.reL (L' := [imm (TR.sl TrA) v0 x0, imm (TR.sl TrD) v2 x2, imm (TR.sl TrE) v3 x3, obox 24 TrD v6 x1, own 30 TrA v59 y57, own 24 TrD v62 y60, imm TrD v67 x1, gone, imm TrA v74 ((([] : List UInt8), (0 : Int), (0 : Int)) : ((List UInt8) × (Int × Int))), own 30 TrA v70 y75, gone, imm TrA v86 ((([] : List UInt8), (0 : Int), (0 : Int)) : ((List UInt8) × (Int × Int))), own 30 TrA v82 y87, imm TrD v93 x1, gone, imm TrD v100 ((([] : List UInt8), ([] : List UInt8), (0 : Int), (0 : Int), (0 : Int), (0 : Int)) : ((List UInt8) × ((List UInt8) × (Int × (Int × (Int × Int)))))), own 24 TrD v96 y101, gone, imm TrD v112 ((([] : List UInt8), ([] : List UInt8), (0 : Int), (0 : Int), (0 : Int), (0 : Int)) : ((List UInt8) × ((List UInt8) × (Int × (Int × (Int × Int)))))), own 24 TrD v108 y113, own 3 TR.int v121 y119.1, gone, imm TrA v126 ((([] : List UInt8), (0 : Int), (0 : Int)) : ((List UInt8) × (Int × Int))), own 30 TrA v122 y127, gone, imm TrA v138 ((([] : List UInt8), (0 : Int), (0 : Int)) : ((List UInt8) × (Int × Int))), own 30 TrA v134 y139, obox 78 TrH v147 (y145.1, (y145.2.1, u148)), obox 95 (TR.pair TR.str TR.int) u148 y145.2.2, gone, gone, own 30 TrA v170 y168, own 24 TrD v173 y171, imm TrA v177 ((([] : List UInt8), (0 : Int), (0 : Int)) : ((List UInt8) × (Int × Int))), own 30 TrA v158 y178, imm TrD v183 ((([] : List UInt8), ([] : List UInt8), (0 : Int), (0 : Int), (0 : Int), (0 : Int)) : ((List UInt8) × ((List UInt8) × (Int × (Int × (Int × Int)))))), own 24 TrD v161 y184]) rfl ?_
 refine RL.finG ?_
 refine GL.seq ?_
 obtain ⟨y221, K222, h223, h224, h225, h226, h227⟩ := bindR_K h49
 refine GL.join (ι := Bool) (fun (p : Bool) => [(8, .bool p)]) (fun (p : Bool) => []) (fun (p : Bool) => K222 (.nx p)) ?_ ?_
 ·skip
  refine GL.region ?_
  refine RL.mv rfl rfl rfl ?_
  refine RL.mv rfl rfl rfl ?_
  obtain ⟨y228, e229, h223⟩ := bind_some h223
  refine RL.callV (v := .bool y228) (vs := [v0, v59]) Tryz_fit21 rfl (Or.inl rfl) rfl rfl rfl rfl (fun U w hU hW hL => slices_Equal_api_Account_api_Account_c U w hU _ _ (hL 0 _ _ rfl Seen.imm) _ _ (hL 4 _ _ rfl Seen.own) _ e229) ?_
  refine RL.mv rfl rfl rfl ?_
  refine RL.split (t := 132) rfl (fun b230 => ?_) (fun b230 => ?_)
  ·replace h223 := ite_t b230 h223
   refine RL.mv rfl rfl rfl ?_
   refine RL.mv rfl rfl rfl ?_
   obtain ⟨y231, e232, h223⟩ := bind_some h223
   refine RL.callV (v := .bool y231) (vs := [v2, v62]) Tryz_fit22 rfl (Or.inl rfl) rfl rfl rfl rfl (fun U w hU hW hL => slices_Equal_api_Deal_api_Deal_c U w hU _ _ (hL 1 _ _ rfl Seen.imm) _ _ (hL 5 _ _ rfl Seen.own) _ e232) ?_
   refine RL.pickT rfl rfl rfl rfl ?_
   refine RL.mv rfl rfl rfl ?_
   refine RL.split (t := 137) rfl (fun b233 => ?_) (fun b233 => ?_)
   ·replace h223 := ite_t b233 h223
    refine RL.mv rfl rfl rfl ?_
    obtain ⟨y234, e235, h223⟩ := bind_some h223
    refine RL.callU (vs := [v147]) (LR := fun (o : Value) => [own 30 TrA o y234]) (fun o => ⟨Loc.own (TR.flatT_pair TR.flatT_str (TR.flatT_pair TR.flatT_ik TR.flatT_ik)), trivial⟩) Tryz_fit19 rfl rfl rfl rfl rfl (fun U w hU hW hL => house_House_Accounts_c U w hU _ _ (ptr_held (Helded.snd (Helded.snd (Helded.raw rfl))) (hL 27 _ _ rfl Seen.obox) (hL 28 _ _ rfl Seen.obox)) _ e235) ?_
    intro v236
    refine RL.mv rfl rfl rfl ?_
    obtain ⟨y237, e238, h223⟩ := bind_some h223
    refine RL.callV (v := .bool y237) (vs := [v236, v170]) Tryz_fit21 rfl (Or.inl rfl) rfl rfl rfl rfl (fun U w hU hW hL => slices_Equal_api_Account_api_Account_c U w hU _ _ (hL 37 _ _ rfl Seen.own) _ _ (hL 31 _ _ rfl Seen.own) _ e238) ?_
    refine RL.pickT rfl rfl rfl rfl ?_
    refine RL.mv rfl rfl rfl ?_
    refine RL.split (t := 143) rfl (fun b239 => ?_) (fun b239 => ?_)
    ·replace h223 := ite_t b239 h223
     refine RL.mv rfl rfl rfl ?_
     obtain ⟨y240, e241, h223⟩ := bind_some h223
     refine RL.callU (vs := [v147]) (LR := fun (o : Value) => [own 24 TrD o y240]) (fun o => ⟨Loc.own (TR.flatT_pair TR.flatT_str (TR.flatT_pair TR.flatT_str (TR.flatT_pair TR.flatT_ik (TR.flatT_pair TR.flatT_ik (TR.flatT_pair TR.flatT_ik TR.flatT_ik))))), trivial⟩) Tryz_fit20 rfl rfl rfl rfl rfl (fun U w hU hW hL => house_House_Offers_c U w hU _ _ (ptr_held (Helded.snd (Helded.snd (Helded.raw rfl))) (hL 27 _ _ rfl Seen.obox) (hL 28 _ _ rfl Seen.obox)) _ e241) ?_
     intro v242
     refine RL.mv rfl rfl rfl ?_
     obtain ⟨y243, e244, h223⟩ := bind_some h223
     refine RL.callV (v := .bool y243) (vs := [v242, v173]) Tryz_fit22 rfl (Or.inl rfl) rfl rfl rfl rfl (fun U w hU hW hL => slices_Equal_api_Deal_api_Deal_c U w hU _ _ (hL 38 _ _ rfl Seen.own) _ _ (hL 32 _ _ rfl Seen.own) _ e244) ?_
     refine RL.pickT rfl rfl rfl rfl ?_
     refine RL.asg rfl rfl rfl ?_
     refine RL.fin ?_
     cases h223
     exact fun a w st => mid_intro y243 h224 (St.cut [] ⟨rfl, trivial⟩ (by decide) rfl st)
    replace h223 := ite_f b239 h223
    refine RL.skip rfl rfl ?_
    refine RL.skip rfl rfl ?_
    refine RL.skip rfl rfl ?_
    refine RL.skip rfl rfl ?_
    refine RL.pickF rfl rfl rfl rfl ?_
    refine RL.asg rfl rfl rfl ?_
    refine RL.fin ?_
    cases h223
    exact fun a w st => mid_intro false h224 (St.cut [] ⟨rfl, trivial⟩ (by decide) rfl st)
   replace h223 := ite_f b233 h223
   refine RL.skip rfl rfl ?_
   refine RL.skip rfl rfl ?_
   refine RL.skip rfl rfl ?_
   refine RL.skip rfl rfl ?_
   refine RL.pickF rfl rfl rfl rfl ?_
   refine RL.mv rfl rfl rfl ?_
   refine RL.skip rfl rfl ?_
   refine RL.skip rfl rfl ?_
   refine RL.skip rfl rfl ?_
   refine RL.skip rfl rfl ?_
   refine RL.pickF rfl rfl rfl rfl ?_
   refine RL.asg rfl rfl rfl ?_
   refine RL.fin ?_
   cases h223
   exact fun a w st => mid_intro false h224 (St.cut [] ⟨rfl, trivial⟩ (by decide) rfl st)
  replace h223 := ite_f b230 h223
  refine RL.skip rfl rfl ?_
  refine RL.skip rfl rfl ?_
  refine RL.skip rfl rfl ?_
  refine RL.pickF rfl rfl rfl rfl ?_
  refine RL.mv rfl rfl rfl ?_
  refine RL.skip rfl rfl ?_
  refine RL.skip rfl rfl ?_
  refine RL.skip rfl rfl ?_
  refine RL.skip rfl rfl ?_
  refine RL.pickF rfl rfl rfl rfl ?_
  refine RL.mv rfl rfl rfl ?_
  refine RL.skip rfl rfl ?_
  refine RL.skip rfl rfl ?_
  refine RL.skip rfl rfl ?_
  refine RL.skip rfl rfl ?_
  refine RL.pickF rfl rfl rfl rfl ?_
  refine RL.asg rfl rfl rfl ?_
  refine RL.fin ?_
  cases h223
  exact fun a w st => mid_intro false h224 (St.cut [] ⟨rfl, trivial⟩ (by decide) rfl st)
 rintro x220 h245
 have h246 := h225 _ h245
 try dsimp only at h246
 refine GL.weak (env' := [(8, .bool x220)]) (L' := []) (fun _ _ st => st) ?_
 have h246 := Option.some.inj h246
 subst h246
 exact GL.ret (Gx.ret (v := .bool x220) (res1 rfl rfl) (fun a w st => st.toPostV))
end Go.Wk
