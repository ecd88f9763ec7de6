/- Each function comes to what its model says; printed by a program of this repository. -/
import Derived.Test.YtfekdillbgblkaaProg
import Derived.Test.YtfekdillbgblkaaWGamesOwnModels
import Derived.Test.YtfekdillbgblkaaWGamesOwnWalks1
namespace Go.Wk
open Go.Fw Go.Mo Go.Proofs Go.RowKit
set_option linter.all false
set_option maxRecDepth 100000

set_option maxHeartbeats 4000000 in
theorem equil_Left_c (S : Hp) (w : World) (hS : S.sub w) (v0 : Value) (x0 : (List (List Int))) (k0 : ((TR.sl (TR.sl TR.int))).vrep S v0 x0) (v1 : Value) (x1 : (List (List Int))) (k1 : ((TR.sl (TR.sl TR.int))).vrep S v1 x1) (res : (List Int) × (List Int) × Int) (hm : equil_Left_m x0 x1 = some res) : Calls Try.prog 35 #[v0, v1] w (Post w S (fun (o : Value × Value) => .tuple #[o.1, o.2, .int .i64 res.2.2]) (fun (o : Value × Value) => [own 3 TR.int o.1 res.1, own 3 TR.int o.2 res.2.1])) := by
 refine calls_enter 133 Try.func35 Try.ntmps35 rfl S false [(0, v0), (1, v1)] [imm (TR.sl (TR.sl TR.int)) v0 x0, imm (TR.sl (TR.sl TR.int)) v1 x1] rfl ⟨rfl, ⟨rfl, trivial⟩⟩ hS ⟨k0, ⟨k1, trivial⟩⟩ ?_
 unfold equil_Left_m at hm
 refine GL.seq ?_
 refine GL.region ?_
 refine RL.asg rfl rfl rfl ?_
 refine RL.asg rfl rfl rfl ?_
 refine RL.asg rfl rfl rfl ?_
 refine RL.finG ?_
 refine GL.seq ?_
 refine GL.seq ?_
 refine GL.region ?_
 refine RL.mv rfl rfl rfl ?_
 refine RL.mv rfl rfl rfl ?_
 obtain ⟨y5, e6, hm⟩ := bind_some hm
 refine RL.callV (v := .int .i64 y5) (vs := [v0, v1]) Try_fit87 rfl (Or.inl rfl) rfl rfl rfl rfl (fun U w hU hW hL => equil_Check_c U w hU _ _ (hL 0 _ _ rfl Seen.imm) _ _ (hL 1 _ _ rfl Seen.imm) _ e6) ?_
 refine RL.asg rfl rfl rfl ?_
 refine RL.finG ?_
 refine GL.seq ?_
 refine GL.region ?_
 refine RL.mv rfl rfl rfl ?_
 refine RL.binI (v := .bool (y5 != (0 : Int))) rfl rfl rfl rfl rfl ?_
 refine RL.finG ?_
 refine GL.cond rfl (fun b7 => ?_) (fun b7 => ?_)
 ·replace hm := ite_t b7 hm
  refine GL.seq ?_
  refine GL.region ?_
  refine RL.mv rfl rfl rfl ?_
  refine RL.asg rfl rfl rfl ?_
  refine RL.asg rfl rfl rfl ?_
  refine RL.asg rfl rfl rfl ?_
  refine RL.finG ?_
  refine GL.weak (fun a w st => st.nilOwn 3 TR.int) ?_
  refine GL.weak (fun a w st => st.nilOwn 3 TR.int) ?_
  have hm := Option.some.inj hm
  subst hm
  exact GL.ret (Gx.ret (v := .tuple #[Value.slice none 0 0, Value.slice none 0 0, .int .i64 y5]) (res3 rfl rfl rfl rfl) (fun a w st => (st.pick [2, 3] (by decide) rfl).toPost (Value.slice none 0 0, Value.slice none 0 0)))
 replace hm := ite_f b7 hm
 refine GL.skip ?_
 refine GL.seq ?_
 refine GL.region ?_
 refine RL.mv rfl rfl rfl ?_
 obtain ⟨y11, e12, hm⟩ := bind_some hm
 refine RL.call (vs := [v1]) Try_fit89 rfl rfl rfl rfl rfl (fun S f w hS hW hi => equil_turned_c S w hS _ _ (hi 1 _ rfl) _ e12) ?_
 intro v13
 refine RL.asg rfl rfl rfl ?_
 refine RL.finG ?_
 refine GL.seq ?_
 refine GL.region ?_
 refine RL.alloc (t := (TR.arr 6 TR.bool)) (z := (List.replicate 6 false)) Try_lo112 (fun S => ⟨rfl, ⟨_, _, rfl, rfl, ⟨_, _, rfl, rfl, ⟨_, _, rfl, rfl, ⟨_, _, rfl, rfl, ⟨_, _, rfl, rfl, ⟨_, _, rfl, rfl, rfl⟩⟩⟩⟩⟩⟩⟩) rfl rfl rfl ?_
 intro v16
 refine RL.reL (L' := [imm (TR.sl (TR.sl TR.int)) v0 x0, imm (TR.sl (TR.sl TR.int)) v1 x1, imm (TR.sl (TR.sl TR.int)) v13 y11, obox 112 (TR.arr 6 TR.bool) v16 (List.replicate 6 false)]) rfl ?_
 refine RL.alloc (t := (TR.arr 6 TR.bool)) (z := (List.replicate 6 false)) Try_lo112 (fun S => ⟨rfl, ⟨_, _, rfl, rfl, ⟨_, _, rfl, rfl, ⟨_, _, rfl, rfl, ⟨_, _, rfl, rfl, ⟨_, _, rfl, rfl, ⟨_, _, rfl, rfl, rfl⟩⟩⟩⟩⟩⟩⟩) rfl rfl rfl ?_
 intro v17
 refine RL.finG ?_
 refine GL.seq ?_
 refine GL.seq ?_
 refine GL.region ?_
 refine RL.mv rfl rfl rfl ?_
 refine RL.lenS 0 Try.underlying37 rfl rfl rfl rfl SlOf.imm ?_
 refine RL.mv rfl rfl rfl ?_
 refine RL.finG ?_
 refine GL.open_ 0 rfl (fun S h => len_imm S h) (fun n27 => ?_)
 obtain ⟨y28, K29, h30, h31, h32, h33, h34⟩ := bindR_K hm
 refine GL.join (ι := (List Bool)) (fun (p : (List Bool)) => [(0, v0), (8, v13), (9, v16), (10, v17)]) (fun (p : (List Bool)) => [imm (TR.sl (TR.sl TR.int)) v0 x0, imm (TR.sl (TR.sl TR.int)) v13 y11, obox 112 (TR.arr 6 TR.bool) v16 p, obox 112 (TR.arr 6 TR.bool) v17 (List.replicate 6 false)]) (fun (p : (List Bool)) => K29 (.nx p)) ?_ ?_
 ·refine GL.block ?_
  refine GL.loop (ι := Nat × (List (List Int)) × (List Bool)) (fun (p : Nat × (List (List Int)) × (List Bool)) => [(0, v0), (8, v13), (9, v16), (10, v17), (31, .int .i64 ((x0).length : Int)), (32, .int .i64 (p.1 : Int))]) (fun (p : Nat × (List (List Int)) × (List Bool)) => [imm (TR.sl (TR.sl TR.int)) v0 x0, imm (TR.sl (TR.sl TR.int)) v13 y11, obox 112 (TR.arr 6 TR.bool) v16 p.2.2, obox 112 (TR.arr 6 TR.bool) v17 (List.replicate 6 false)]) (fun (p : Nat × (List (List Int)) × (List Bool)) => p.1 + p.2.1.length = (x0).length ∧ List.drop p.1 x0 = p.2.1 ∧ rangeL equil_Left_b1 p.2.1 p.1 p.2.2 = some y28) (fun (p : Nat × (List (List Int)) × (List Bool)) => p.2.1.length) (0, x0, (List.replicate 6 false)) ⟨by simp, by simp, h30⟩ (fun a w st => St.cut [0, 2, 3, 4] ⟨rfl, rfl, rfl, rfl, rfl, rfl, trivial⟩ (by decide) rfl st) ?_
  rintro ⟨i35, r36, l22⟩ ⟨h41, h42, h40⟩
  try dsimp only at h41 h42 h40
  refine GL.weak (env' := [(0, v0), (8, v13), (9, v16), (10, v17), (31, .int .i64 ((x0).length : Int)), (32, .int .i64 (i35 : Int))]) (L' := [imm (TR.sl (TR.sl TR.int)) v0 x0, imm (TR.sl (TR.sl TR.int)) v13 y11, obox 112 (TR.arr 6 TR.bool) v16 l22, obox 112 (TR.arr 6 TR.bool) v17 (List.replicate 6 false)]) (fun _ _ st => st) ?_
  refine GL.seq ?_
  refine GL.region ?_
  refine RL.binI (v := .bool (decide ((i35 : Int) < ((x0).length : Int)))) rfl rfl rfl rfl rfl ?_
  refine RL.finG ?_
  refine GL.seq ?_
  refine GL.cond rfl (fun b43 => ?_) (fun b43 => ?_)
  ·have h44 : i35 < (x0).length := by have := of_decide_eq_true b43; omega
   obtain ⟨y45, r47, hr, e46, h48⟩ := drop_cons h42 rfl h44
   subst hr
   obtain ⟨z37, h38, h39⟩ := rangeL_some h40
   unfold equil_Left_b1 at h38
   try dsimp only at h38
   refine GL.skip ?_
   refine GL.seq ?_
   refine GL.block ?_
   refine GL.seq ?_
   refine GL.region ?_
   refine RL.mv rfl rfl rfl ?_
   refine RL.asg rfl rfl rfl ?_
   refine RL.finG ?_
   refine GL.region ?_
   refine RL.mv rfl rfl rfl ?_
   obtain ⟨y51, e52, h38⟩ := bind_some h38
   refine RL.idxA0 (sz := 1) (t' := TR.bool) 2 Try.underlying112 Try_ln4 rfl rfl rfl PtOf.obox rfl rfl Part.self (idx_some e52).1 (idx_some e52).2.1 ?_
   refine RL.stP (off := (i35 * 1)) (e' := true) (d1 := (List.set l22 i35 true)) (r := TR.bool) 2 Try_ln4 rfl rfl (Or.inl rfl) rfl VR.bool rfl (Upd.arr (idx_some e52).2.2 Upd.self) ?_
   refine RL.finG ?_
   refine GL.nilB ?_
   refine GL.region ?_
   refine RL.binI (v := .int .i64 ((i35 + 1 : Nat) : Int)) rfl rfl rfl rfl (binI_succ i35 (by omega)) ?_
   refine RL.mv rfl rfl rfl ?_
   refine RL.fin ?_
   cases h38
   exact fun a w st => lop_intro (i35 + 1, r47, (List.set l22 i35 true)) ⟨by show i35 + 1 + r47.length = (x0).length; simp only [List.length_cons] at h41; omega, h48, h39⟩ (by simp) (St.cut [0, 1, 2, 3] ⟨rfl, rfl, rfl, rfl, rfl, rfl, trivial⟩ (by decide) rfl st)
  have h44 : ¬ i35 < (x0).length := by have := of_decide_eq_false b43; omega
  obtain rfl : r36 = [] := by rw [← h42]; exact List.drop_of_length_le (by omega)
  replace h40 : some (Fl.nx _) = some y28 := h40
  cases h40
  exact GL.exit (fun a w st => mid_intro l22 h31 (St.cut [0, 1, 2, 3] ⟨rfl, rfl, rfl, rfl, trivial⟩ (by decide) rfl st))
 rintro l22 h53
 have h54 := h32 _ h53
 try dsimp only at h54
 refine GL.weak (env' := [(0, v0), (8, v13), (9, v16), (10, v17)]) (L' := [imm (TR.sl (TR.sl TR.int)) v0 x0, imm (TR.sl (TR.sl TR.int)) v13 y11, obox 112 (TR.arr 6 TR.bool) v16 l22, obox 112 (TR.arr 6 TR.bool) v17 (List.replicate 6 false)]) (fun _ _ st => st) ?_
 refine GL.seq ?_
 refine GL.seq ?_
 refine GL.region ?_
 refine RL.mv rfl rfl rfl ?_
 refine RL.lenS 1 Try.underlying37 rfl rfl rfl rfl SlOf.imm ?_
 refine RL.mv rfl rfl rfl ?_
 refine RL.finG ?_
 refine GL.open_ 1 rfl (fun S h => len_imm S h) (fun n64 => ?_)
 obtain ⟨y65, K66, h67, h68, h69, h70, h71⟩ := bindR_K h54
 refine GL.join (ι := (List Bool)) (fun (p : (List Bool)) => [(0, v0), (8, v13), (9, v16), (10, v17)]) (fun (p : (List Bool)) => [imm (TR.sl (TR.sl TR.int)) v0 x0, imm (TR.sl (TR.sl TR.int)) v13 y11, obox 112 (TR.arr 6 TR.bool) v16 l22, obox 112 (TR.arr 6 TR.bool) v17 p]) (fun (p : (List Bool)) => K66 (.nx p)) ?_ ?_
 ·refine GL.block ?_
  refine GL.loop (ι := Nat × (List (List Int)) × (List Bool)) (fun (p : Nat × (List (List Int)) × (List Bool)) => [(0, v0), (8, v13), (9, v16), (10, v17), (39, .int .i64 ((y11).length : Int)), (40, .int .i64 (p.1 : Int))]) (fun (p : Nat × (List (List Int)) × (List Bool)) => [imm (TR.sl (TR.sl TR.int)) v0 x0, imm (TR.sl (TR.sl TR.int)) v13 y11, obox 112 (TR.arr 6 TR.bool) v16 l22, obox 112 (TR.arr 6 TR.bool) v17 p.2.2]) (fun (p : Nat × (List (List Int)) × (List Bool)) => p.1 + p.2.1.length = (y11).length ∧ List.drop p.1 y11 = p.2.1 ∧ rangeL equil_Left_b2 p.2.1 p.1 p.2.2 = some y65) (fun (p : Nat × (List (List Int)) × (List Bool)) => p.2.1.length) (0, y11, (List.replicate 6 false)) ⟨by simp, by simp, h67⟩ (fun a w st => St.cut [0, 1, 2, 3] ⟨rfl, rfl, rfl, rfl, rfl, rfl, trivial⟩ (by decide) rfl st) ?_
  rintro ⟨i72, r73, l59⟩ ⟨h78, h79, h77⟩
  try dsimp only at h78 h79 h77
  refine GL.weak (env' := [(0, v0), (8, v13), (9, v16), (10, v17), (39, .int .i64 ((y11).length : Int)), (40, .int .i64 (i72 : Int))]) (L' := [imm (TR.sl (TR.sl TR.int)) v0 x0, imm (TR.sl (TR.sl TR.int)) v13 y11, obox 112 (TR.arr 6 TR.bool) v16 l22, obox 112 (TR.arr 6 TR.bool) v17 l59]) (fun _ _ st => st) ?_
  refine GL.seq ?_
  refine GL.region ?_
  refine RL.binI (v := .bool (decide ((i72 : Int) < ((y11).length : Int)))) rfl rfl rfl rfl rfl ?_
  refine RL.finG ?_
  refine GL.seq ?_
  refine GL.cond rfl (fun b80 => ?_) (fun b80 => ?_)
  ·have h81 : i72 < (y11).length := by have := of_decide_eq_true b80; omega
   obtain ⟨y82, r84, hr, e83, h85⟩ := drop_cons h79 rfl h81
   subst hr
   obtain ⟨z74, h75, h76⟩ := rangeL_some h77
   unfold equil_Left_b2 at h75
   try dsimp only at h75
   refine GL.skip ?_
   refine GL.seq ?_
   refine GL.block ?_
   refine GL.seq ?_
   refine GL.region ?_
   refine RL.mv rfl rfl rfl ?_
   refine RL.asg rfl rfl rfl ?_
   refine RL.finG ?_
   refine GL.region ?_
   refine RL.mv rfl rfl rfl ?_
   obtain ⟨y88, e89, h75⟩ := bind_some h75
   refine RL.idxA0 (sz := 1) (t' := TR.bool) 3 Try.underlying112 Try_ln4 rfl rfl rfl PtOf.obox rfl rfl Part.self (idx_some e89).1 (idx_some e89).2.1 ?_
   refine RL.stP (off := (i72 * 1)) (e' := true) (d1 := (List.set l59 i72 true)) (r := TR.bool) 3 Try_ln4 rfl rfl (Or.inl rfl) rfl VR.bool rfl (Upd.arr (idx_some e89).2.2 Upd.self) ?_
   refine RL.finG ?_
   refine GL.nilB ?_
   refine GL.region ?_
   refine RL.binI (v := .int .i64 ((i72 + 1 : Nat) : Int)) rfl rfl rfl rfl (binI_succ i72 (by omega)) ?_
   refine RL.mv rfl rfl rfl ?_
   refine RL.fin ?_
   cases h75
   exact fun a w st => lop_intro (i72 + 1, r84, (List.set l59 i72 true)) ⟨by show i72 + 1 + r84.length = (y11).length; simp only [List.length_cons] at h78; omega, h85, h76⟩ (by simp) (St.cut [0, 1, 2, 3] ⟨rfl, rfl, rfl, rfl, rfl, rfl, trivial⟩ (by decide) rfl st)
  have h81 : ¬ i72 < (y11).length := by have := of_decide_eq_false b80; omega
  obtain rfl : r73 = [] := by rw [← h79]; exact List.drop_of_length_le (by omega)
  replace h77 : some (Fl.nx _) = some y65 := h77
  cases h77
  exact GL.exit (fun a w st => mid_intro l59 h68 (St.cut [0, 1, 2, 3] ⟨rfl, rfl, rfl, rfl, trivial⟩ (by decide) rfl st))
 rintro l59 h90
 have h91 := h69 _ h90
 try dsimp only at h91
 refine GL.weak (env' := [(0, v0), (8, v13), (9, v16), (10, v17)]) (L' := [imm (TR.sl (TR.sl TR.int)) v0 x0, imm (TR.sl (TR.sl TR.int)) v13 y11, obox 112 (TR.arr 6 TR.bool) v16 l22, obox 112 (TR.arr 6 TR.bool) v17 l59]) (fun _ _ st => st) ?_
 refine GL.seq ?_
 refine GL.seq ?_
 refine GL.region ?_
 refine RL.asg rfl rfl rfl ?_
 refine RL.finG ?_
 obtain ⟨y2042, K2043, h2044, h2045, h2046, h2047, h2048⟩ := bindR_K h91
 refine GL.join (ι := (List Bool) × (List Bool) × Bool) (fun (p : (List Bool) × (List Bool) × Bool) => [(0, v0), (8, v13), (9, v16), (10, v17)]) (fun (p : (List Bool) × (List Bool) × Bool) => [imm (TR.sl (TR.sl TR.int)) v0 x0, imm (TR.sl (TR.sl TR.int)) v13 y11, obox 112 (TR.arr 6 TR.bool) v16 p.1, obox 112 (TR.arr 6 TR.bool) v17 p.2.1]) (fun (p : (List Bool) × (List Bool) × Bool) => K2043 (.nx (p.1, p.2.1, p.2.2))) ?_ ?_
 ·refine GL.block ?_
  refine GL.loop (ι := Nat × (List Bool) × (List Bool) × Bool) (fun (p : Nat × (List Bool) × (List Bool) × Bool) => [(0, v0), (8, v13), (9, v16), (10, v17), (13, .bool p.2.2.2)]) (fun (p : Nat × (List Bool) × (List Bool) × Bool) => [imm (TR.sl (TR.sl TR.int)) v0 x0, imm (TR.sl (TR.sl TR.int)) v13 y11, obox 112 (TR.arr 6 TR.bool) v16 p.2.1, obox 112 (TR.arr 6 TR.bool) v17 p.2.2.1]) (fun (p : Nat × (List Bool) × (List Bool) × Bool) => loopM (equil_Left_b3 x0 y11) p.1 (p.2.1, p.2.2.1, p.2.2.2) = some y2042) (fun (p : Nat × (List Bool) × (List Bool) × Bool) => p.1) (1048576, l22, l59, true) h2044 (fun a w st => St.cut [0, 1, 2, 3] ⟨rfl, rfl, rfl, rfl, rfl, trivial⟩ (by decide) rfl st) ?_
  rintro ⟨r2050, l1066, l1067, x1068⟩ h2054
  try dsimp only at h2054
  refine GL.weak (env' := [(0, v0), (8, v13), (9, v16), (10, v17), (13, .bool x1068)]) (L' := [imm (TR.sl (TR.sl TR.int)) v0 x0, imm (TR.sl (TR.sl TR.int)) v13 y11, obox 112 (TR.arr 6 TR.bool) v16 l1066, obox 112 (TR.arr 6 TR.bool) v17 l1067]) (fun _ _ st => st) ?_
  obtain ⟨r2057, z2051, hr, h2052, h2053⟩ := loopM_some h2054
  subst hr
  unfold equil_Left_b3 at h2052
  try dsimp only at h2052
  refine GL.seq ?_
  refine GL.seq ?_
  refine GL.region ?_
  refine RL.mv rfl rfl rfl ?_
  refine RL.finG ?_
  refine GL.cond rfl (fun b2058 => ?_) (fun b2058 => ?_)
  ·replace h2052 := ite_t b2058 h2052
   refine GL.skip ?_
   refine GL.block ?_
   refine GL.seq ?_
   refine GL.region ?_
   refine RL.asg rfl rfl rfl ?_
   refine RL.finG ?_
   refine GL.seq ?_
   refine GL.seq ?_
   refine GL.region ?_
   refine RL.mv rfl rfl rfl ?_
   refine RL.lenS 0 Try.underlying37 rfl rfl rfl rfl SlOf.imm ?_
   refine RL.mv rfl rfl rfl ?_
   refine RL.finG ?_
   refine GL.open_ 0 rfl (fun S h => len_imm S h) (fun n2368 => ?_)
   obtain ⟨y2369, K2370, h2371, h2372, h2373, h2374, h2375⟩ := bindF_K h2052
   refine GL.join (ι := (List Bool) × Bool) (fun (p : (List Bool) × Bool) => [(0, v0), (8, v13), (9, v16), (10, v17), (13, .bool p.2)]) (fun (p : (List Bool) × Bool) => [imm (TR.sl (TR.sl TR.int)) v0 x0, imm (TR.sl (TR.sl TR.int)) v13 y11, obox 112 (TR.arr 6 TR.bool) v16 p.1, obox 112 (TR.arr 6 TR.bool) v17 l1067]) (fun (p : (List Bool) × Bool) => K2370 (.nx (p.1, p.2))) ?_ ?_
   ·refine GL.block ?_
    refine GL.loop (ι := Nat × (List (List Int)) × (List Bool) × Bool) (fun (p : Nat × (List (List Int)) × (List Bool) × Bool) => [(0, v0), (8, v13), (9, v16), (10, v17), (13, .bool p.2.2.2), (48, .int .i64 ((x0).length : Int)), (49, .int .i64 (p.1 : Int))]) (fun (p : Nat × (List (List Int)) × (List Bool) × Bool) => [imm (TR.sl (TR.sl TR.int)) v0 x0, imm (TR.sl (TR.sl TR.int)) v13 y11, obox 112 (TR.arr 6 TR.bool) v16 p.2.2.1, obox 112 (TR.arr 6 TR.bool) v17 l1067]) (fun (p : Nat × (List (List Int)) × (List Bool) × Bool) => p.1 + p.2.1.length = (x0).length ∧ List.drop p.1 x0 = p.2.1 ∧ rangeL (equil_Left_b4 x0 l1067) p.2.1 p.1 (p.2.2.1, p.2.2.2) = some y2369) (fun (p : Nat × (List (List Int)) × (List Bool) × Bool) => p.2.1.length) (0, x0, l1066, false) ⟨by simp, by simp, h2371⟩ (fun a w st => St.cut [0, 1, 2, 3] ⟨rfl, rfl, rfl, rfl, rfl, rfl, rfl, trivial⟩ (by decide) rfl st) ?_
    rintro ⟨i2376, r2377, l2213, x2214⟩ ⟨h2382, h2383, h2381⟩
    try dsimp only at h2382 h2383 h2381
    refine GL.weak (env' := [(0, v0), (8, v13), (9, v16), (10, v17), (13, .bool x2214), (48, .int .i64 ((x0).length : Int)), (49, .int .i64 (i2376 : Int))]) (L' := [imm (TR.sl (TR.sl TR.int)) v0 x0, imm (TR.sl (TR.sl TR.int)) v13 y11, obox 112 (TR.arr 6 TR.bool) v16 l2213, obox 112 (TR.arr 6 TR.bool) v17 l1067]) (fun _ _ st => st) ?_
    refine GL.seq ?_
    refine GL.region ?_
    refine RL.binI (v := .bool (decide ((i2376 : Int) < ((x0).length : Int)))) rfl rfl rfl rfl rfl ?_
    refine RL.finG ?_
    refine GL.seq ?_
    refine GL.cond rfl (fun b2384 => ?_) (fun b2384 => ?_)
    ·have h2385 : i2376 < (x0).length := by have := of_decide_eq_true b2384; omega
     obtain ⟨y2386, r2388, hr, e2387, h2389⟩ := drop_cons h2383 rfl h2385
     subst hr
     obtain ⟨z2378, h2379, h2380⟩ := rangeL_some h2381
     unfold equil_Left_b4 at h2379
     try dsimp only at h2379
     refine GL.skip ?_
     refine GL.seq ?_
     refine GL.block ?_
     refine GL.seq ?_
     refine GL.region ?_
     refine RL.mv rfl rfl rfl ?_
     refine RL.asg rfl rfl rfl ?_
     refine RL.finG ?_
     refine GL.seq ?_
     refine GL.region ?_
     refine RL.mv rfl rfl rfl ?_
     refine RL.lenS 0 Try.underlying37 rfl rfl rfl rfl SlOf.imm ?_
     refine RL.mv rfl rfl rfl ?_
     refine RL.finG ?_
     refine GL.open_ 0 rfl (fun S h => len_imm S h) (fun n2477 => ?_)
     obtain ⟨y2478, K2479, h2480, h2481, h2482, h2483, h2484⟩ := bindF_K h2379
     refine GL.join (ι := (List Bool) × Bool) (fun (p : (List Bool) × Bool) => [(0, v0), (8, v13), (9, v16), (10, v17), (13, .bool p.2), (48, .int .i64 ((x0).length : Int)), (49, .int .i64 (i2376 : Int))]) (fun (p : (List Bool) × Bool) => [imm (TR.sl (TR.sl TR.int)) v0 x0, imm (TR.sl (TR.sl TR.int)) v13 y11, obox 112 (TR.arr 6 TR.bool) v16 p.1, obox 112 (TR.arr 6 TR.bool) v17 l1067]) (fun (p : (List Bool) × Bool) => K2479 (.nx (p.1, p.2))) ?_ ?_
     ·refine GL.block ?_
      refine GL.loop (ι := Nat × (List (List Int)) × (List Bool) × Bool) (fun (p : Nat × (List (List Int)) × (List Bool) × Bool) => [(0, v0), (8, v13), (9, v16), (10, v17), (13, .bool p.2.2.2), (14, .int .i64 (i2376 : Int)), (48, .int .i64 ((x0).length : Int)), (49, .int .i64 (i2376 : Int)), (53, .int .i64 ((x0).length : Int)), (54, .int .i64 (p.1 : Int))]) (fun (p : Nat × (List (List Int)) × (List Bool) × Bool) => [imm (TR.sl (TR.sl TR.int)) v0 x0, imm (TR.sl (TR.sl TR.int)) v13 y11, obox 112 (TR.arr 6 TR.bool) v16 p.2.2.1, obox 112 (TR.arr 6 TR.bool) v17 l1067]) (fun (p : Nat × (List (List Int)) × (List Bool) × Bool) => p.1 + p.2.1.length = (x0).length ∧ List.drop p.1 x0 = p.2.1 ∧ rangeL (equil_Left_b5 i2376 x0 l1067) p.2.1 p.1 (p.2.2.1, p.2.2.2) = some y2478) (fun (p : Nat × (List (List Int)) × (List Bool) × Bool) => p.2.1.length) (0, x0, l2213, x2214) ⟨by simp, by simp, h2480⟩ (fun a w st => St.cut [0, 1, 2, 3] ⟨rfl, rfl, rfl, rfl, rfl, rfl, rfl, rfl, rfl, rfl, trivial⟩ (by decide) rfl st) ?_
      rintro ⟨i2485, r2486, l2433, x2434⟩ ⟨h2491, h2492, h2490⟩
      try dsimp only at h2491 h2492 h2490
      refine GL.weak (env' := [(0, v0), (8, v13), (9, v16), (10, v17), (13, .bool x2434), (14, .int .i64 (i2376 : Int)), (48, .int .i64 ((x0).length : Int)), (49, .int .i64 (i2376 : Int)), (53, .int .i64 ((x0).length : Int)), (54, .int .i64 (i2485 : Int))]) (L' := [imm (TR.sl (TR.sl TR.int)) v0 x0, imm (TR.sl (TR.sl TR.int)) v13 y11, obox 112 (TR.arr 6 TR.bool) v16 l2433, obox 112 (TR.arr 6 TR.bool) v17 l1067]) (fun _ _ st => st) ?_
      refine GL.seq ?_
      refine GL.region ?_
      refine RL.binI (v := .bool (decide ((i2485 : Int) < ((x0).length : Int)))) rfl rfl rfl rfl rfl ?_
      refine RL.finG ?_
      refine GL.seq ?_
      refine GL.cond rfl (fun b2493 => ?_) (fun b2493 => ?_)
      ·have h2494 : i2485 < (x0).length := by have := of_decide_eq_true b2493; omega
       obtain ⟨y2495, r2497, hr, e2496, h2498⟩ := drop_cons h2492 rfl h2494
       subst hr
       obtain ⟨z2487, h2488, h2489⟩ := rangeL_some h2490
       unfold equil_Left_b5 at h2488
       try dsimp only at h2488
       refine GL.skip ?_
       refine GL.seq ?_
       refine GL.block ?_
       refine GL.seq ?_
       refine GL.region ?_
       refine RL.mv rfl rfl rfl ?_
       refine RL.asg rfl rfl rfl ?_
       refine RL.finG ?_
       refine GL.seq ?_
       obtain ⟨y2518, K2519, h2520, h2521, h2522, h2523, h2524⟩ := bindF_K h2488
       refine GL.join (ι := Bool) (fun (p : Bool) => [(0, v0), (8, v13), (9, v16), (10, v17), (13, .bool x2434), (14, .int .i64 (i2376 : Int)), (48, .int .i64 ((x0).length : Int)), (49, .int .i64 (i2376 : Int)), (53, .int .i64 ((x0).length : Int)), (54, .int .i64 (i2485 : Int)), (71, .bool p)]) (fun (p : Bool) => [imm (TR.sl (TR.sl TR.int)) v0 x0, imm (TR.sl (TR.sl TR.int)) v13 y11, obox 112 (TR.arr 6 TR.bool) v16 l2433, obox 112 (TR.arr 6 TR.bool) v17 l1067]) (fun (p : Bool) => K2519 (.nx p)) ?_ ?_
       ·skip
        refine GL.region ?_
        refine RL.mv rfl rfl rfl ?_
        obtain ⟨y2525, e2526, h2520⟩ := bind_some h2520
        refine RL.idxA0 (sz := 1) (t' := TR.bool) 2 Try.underlying112 Try_ln4 rfl rfl rfl PtOf.obox rfl rfl Part.self (idx_some e2526).1 (idx_some e2526).2.1 ?_
        refine RL.ldPx (off := (i2376 * 1)) (e' := y2525) 2 Ex.bool Try_ln4 rfl rfl (Or.inl rfl) rfl PtOf.obox (Part.arr (idx_some e2526).2.2 Part.self) ?_
        refine RL.mv rfl rfl rfl ?_
        refine RL.split (t := 60) rfl (fun b2527 => ?_) (fun b2527 => ?_)
        ·replace h2520 := ite_t b2527 h2520
         refine RL.mv rfl rfl rfl ?_
         obtain ⟨y2528, e2529, h2520⟩ := bind_some h2520
         refine RL.idxA0 (sz := 1) (t' := TR.bool) 2 Try.underlying112 Try_ln4 rfl rfl rfl PtOf.obox rfl rfl Part.self (idx_some e2529).1 (idx_some e2529).2.1 ?_
         refine RL.ldPx (off := (i2485 * 1)) (e' := y2528) 2 Ex.bool Try_ln4 rfl rfl (Or.inl rfl) rfl PtOf.obox (Part.arr (idx_some e2529).2.2 Part.self) ?_
         refine RL.pickT rfl rfl rfl rfl ?_
         refine RL.mv rfl rfl rfl ?_
         refine RL.split (t := 65) rfl (fun b2530 => ?_) (fun b2530 => ?_)
         ·replace h2520 := ite_t b2530 h2520
          refine RL.mv rfl rfl rfl ?_
          refine RL.mv rfl rfl rfl ?_
          refine RL.mv rfl rfl rfl ?_
          refine RL.ldP (off := 0) (r := (TR.arr 6 TR.bool)) (e' := l1067) 3 Try_ln112 rfl rfl (Or.inr ⟨rfl, rfl⟩) rfl PtOf.obox Part.self ?_
          intro v2531
          obtain ⟨y2532, e2533, h2520⟩ := bind_some h2520
          refine RL.callV (v := .bool y2532) (vs := [v0, .int .i64 (i2376 : Int), .int .i64 (i2485 : Int), v2531]) Try_fit90 rfl (Or.inl rfl) rfl rfl rfl rfl (fun U w hU hW hL => equil_worse_c U w hU _ _ (hL 0 _ _ rfl Seen.imm) (i2376 : Int) (i2485 : Int) _ _ (hL 4 _ _ rfl Seen.imm) _ e2533) ?_
          refine RL.pickT rfl rfl rfl rfl ?_
          refine RL.fin ?_
          cases h2520
          exact fun a w st => mid_intro y2532 h2521 (St.cut [0, 1, 2, 3] ⟨rfl, rfl, rfl, rfl, rfl, rfl, rfl, rfl, rfl, rfl, rfl, trivial⟩ (by decide) rfl st)
         replace h2520 := ite_f b2530 h2520
         refine RL.skip rfl rfl ?_
         refine RL.skip rfl rfl ?_
         refine RL.skip rfl rfl ?_
         refine RL.skip rfl rfl ?_
         refine RL.skip rfl rfl ?_
         refine RL.pickF rfl rfl rfl rfl ?_
         refine RL.fin ?_
         cases h2520
         exact fun a w st => mid_intro false h2521 (St.cut [0, 1, 2, 3] ⟨rfl, rfl, rfl, rfl, rfl, rfl, rfl, rfl, rfl, rfl, rfl, trivial⟩ (by decide) rfl st)
        replace h2520 := ite_f b2527 h2520
        refine RL.skip rfl rfl ?_
        refine RL.skip rfl rfl ?_
        refine RL.skip rfl rfl ?_
        refine RL.pickF rfl rfl rfl rfl ?_
        refine RL.mv rfl rfl rfl ?_
        refine RL.skip rfl rfl ?_
        refine RL.skip rfl rfl ?_
        refine RL.skip rfl rfl ?_
        refine RL.skip rfl rfl ?_
        refine RL.skip rfl rfl ?_
        refine RL.pickF rfl rfl rfl rfl ?_
        refine RL.fin ?_
        cases h2520
        exact fun a w st => mid_intro false h2521 (St.cut [0, 1, 2, 3] ⟨rfl, rfl, rfl, rfl, rfl, rfl, rfl, rfl, rfl, rfl, rfl, trivial⟩ (by decide) rfl st)
       rintro x2517 h2534
       have h2535 := h2522 _ h2534
       try dsimp only at h2535
       refine GL.weak (env' := [(0, v0), (8, v13), (9, v16), (10, v17), (13, .bool x2434), (14, .int .i64 (i2376 : Int)), (48, .int .i64 ((x0).length : Int)), (49, .int .i64 (i2376 : Int)), (53, .int .i64 ((x0).length : Int)), (54, .int .i64 (i2485 : Int)), (71, .bool x2517)]) (L' := [imm (TR.sl (TR.sl TR.int)) v0 x0, imm (TR.sl (TR.sl TR.int)) v13 y11, obox 112 (TR.arr 6 TR.bool) v16 l2433, obox 112 (TR.arr 6 TR.bool) v17 l1067]) (fun _ _ st => st) ?_
       refine GL.cond rfl (fun b2536 => ?_) (fun b2536 => ?_)
       ·replace h2535 := ite_t b2536 h2535
        refine GL.region ?_
        refine RL.mv rfl rfl rfl ?_
        obtain ⟨y2539, e2540, h2535⟩ := bind_some h2535
        refine RL.idxA0 (sz := 1) (t' := TR.bool) 2 Try.underlying112 Try_ln4 rfl rfl rfl PtOf.obox rfl rfl Part.self (idx_some e2540).1 (idx_some e2540).2.1 ?_
        refine RL.stP (off := (i2376 * 1)) (e' := false) (d1 := (List.set l2433 i2376 false)) (r := TR.bool) 2 Try_ln4 rfl rfl (Or.inl rfl) rfl VR.bool rfl (Upd.arr (idx_some e2540).2.2 Upd.self) ?_
        refine RL.asg rfl rfl rfl ?_
        refine RL.finG ?_
        refine GL.nilB ?_
        refine GL.region ?_
        refine RL.binI (v := .int .i64 ((i2485 + 1 : Nat) : Int)) rfl rfl rfl rfl (binI_succ i2485 (by omega)) ?_
        refine RL.mv rfl rfl rfl ?_
        refine RL.fin ?_
        cases h2535
        exact fun a w st => lop_intro (i2485 + 1, r2497, (List.set l2433 i2376 false), true) ⟨by show i2485 + 1 + r2497.length = (x0).length; simp only [List.length_cons] at h2491; omega, h2498, h2489⟩ (by simp) (St.cut [0, 1, 2, 3] ⟨rfl, rfl, rfl, rfl, rfl, rfl, rfl, rfl, rfl, rfl, trivial⟩ (by decide) rfl st)
       replace h2535 := ite_f b2536 h2535
       refine GL.skip ?_
       refine GL.nilB ?_
       refine GL.region ?_
       refine RL.binI (v := .int .i64 ((i2485 + 1 : Nat) : Int)) rfl rfl rfl rfl (binI_succ i2485 (by omega)) ?_
       refine RL.mv rfl rfl rfl ?_
       refine RL.fin ?_
       cases h2535
       exact fun a w st => lop_intro (i2485 + 1, r2497, l2433, x2434) ⟨by show i2485 + 1 + r2497.length = (x0).length; simp only [List.length_cons] at h2491; omega, h2498, h2489⟩ (by simp) (St.cut [0, 1, 2, 3] ⟨rfl, rfl, rfl, rfl, rfl, rfl, rfl, rfl, rfl, rfl, trivial⟩ (by decide) rfl st)
      have h2494 : ¬ i2485 < (x0).length := by have := of_decide_eq_false b2493; omega
      obtain rfl : r2486 = [] := by rw [← h2492]; exact List.drop_of_length_le (by omega)
      replace h2490 : some (Fl.nx _) = some y2478 := h2490
      cases h2490
      exact GL.exit (fun a w st => mid_intro (l2433, x2434) h2481 (St.cut [0, 1, 2, 3] ⟨rfl, rfl, rfl, rfl, rfl, rfl, rfl, trivial⟩ (by decide) rfl st))
     rintro ⟨l2433, x2434⟩ h2541
     have h2542 := h2482 _ h2541
     try dsimp only at h2542
     refine GL.weak (env' := [(0, v0), (8, v13), (9, v16), (10, v17), (13, .bool x2434), (48, .int .i64 ((x0).length : Int)), (49, .int .i64 (i2376 : Int))]) (L' := [imm (TR.sl (TR.sl TR.int)) v0 x0, imm (TR.sl (TR.sl TR.int)) v13 y11, obox 112 (TR.arr 6 TR.bool) v16 l2433, obox 112 (TR.arr 6 TR.bool) v17 l1067]) (fun _ _ st => st) ?_
     refine GL.nilB ?_
     refine GL.region ?_
     refine RL.binI (v := .int .i64 ((i2376 + 1 : Nat) : Int)) rfl rfl rfl rfl (binI_succ i2376 (by omega)) ?_
     refine RL.mv rfl rfl rfl ?_
     refine RL.fin ?_
     cases h2542
     exact fun a w st => lop_intro (i2376 + 1, r2388, l2433, x2434) ⟨by show i2376 + 1 + r2388.length = (x0).length; simp only [List.length_cons] at h2382; omega, h2389, h2380⟩ (by simp) (St.cut [0, 1, 2, 3] ⟨rfl, rfl, rfl, rfl, rfl, rfl, rfl, trivial⟩ (by decide) rfl st)
    have h2385 : ¬ i2376 < (x0).length := by have := of_decide_eq_false b2384; omega
    obtain rfl : r2377 = [] := by rw [← h2383]; exact List.drop_of_length_le (by omega)
    replace h2381 : some (Fl.nx _) = some y2369 := h2381
    cases h2381
    exact GL.exit (fun a w st => mid_intro (l2213, x2214) h2372 (St.cut [0, 1, 2, 3] ⟨rfl, rfl, rfl, rfl, rfl, trivial⟩ (by decide) rfl st))
   rintro ⟨l2213, x2214⟩ h2543
   have h2544 := h2373 _ h2543
   try dsimp only at h2544
   refine GL.weak (env' := [(0, v0), (8, v13), (9, v16), (10, v17), (13, .bool x2214)]) (L' := [imm (TR.sl (TR.sl TR.int)) v0 x0, imm (TR.sl (TR.sl TR.int)) v13 y11, obox 112 (TR.arr 6 TR.bool) v16 l2213, obox 112 (TR.arr 6 TR.bool) v17 l1067]) (fun _ _ st => st) ?_
   refine GL.seq ?_
   refine GL.region ?_
   refine RL.mv rfl rfl rfl ?_
   refine RL.lenS 1 Try.underlying37 rfl rfl rfl rfl SlOf.imm ?_
   refine RL.mv rfl rfl rfl ?_
   refine RL.finG ?_
   refine GL.open_ 1 rfl (fun S h => len_imm S h) (fun n2854 => ?_)
   obtain ⟨y2855, K2856, h2857, h2858, h2859, h2860, h2861⟩ := bindF_K h2544
   refine GL.join (ι := (List Bool) × Bool) (fun (p : (List Bool) × Bool) => [(0, v0), (8, v13), (9, v16), (10, v17), (13, .bool p.2)]) (fun (p : (List Bool) × Bool) => [imm (TR.sl (TR.sl TR.int)) v0 x0, imm (TR.sl (TR.sl TR.int)) v13 y11, obox 112 (TR.arr 6 TR.bool) v16 l2213, obox 112 (TR.arr 6 TR.bool) v17 p.1]) (fun (p : (List Bool) × Bool) => K2856 (.nx (p.1, p.2))) ?_ ?_
   ·refine GL.block ?_
    refine GL.loop (ι := Nat × (List (List Int)) × (List Bool) × Bool) (fun (p : Nat × (List (List Int)) × (List Bool) × Bool) => [(0, v0), (8, v13), (9, v16), (10, v17), (13, .bool p.2.2.2), (77, .int .i64 ((y11).length : Int)), (78, .int .i64 (p.1 : Int))]) (fun (p : Nat × (List (List Int)) × (List Bool) × Bool) => [imm (TR.sl (TR.sl TR.int)) v0 x0, imm (TR.sl (TR.sl TR.int)) v13 y11, obox 112 (TR.arr 6 TR.bool) v16 l2213, obox 112 (TR.arr 6 TR.bool) v17 p.2.2.1]) (fun (p : Nat × (List (List Int)) × (List Bool) × Bool) => p.1 + p.2.1.length = (y11).length ∧ List.drop p.1 y11 = p.2.1 ∧ rangeL (equil_Left_b6 y11 l2213) p.2.1 p.1 (p.2.2.1, p.2.2.2) = some y2855) (fun (p : Nat × (List (List Int)) × (List Bool) × Bool) => p.2.1.length) (0, y11, l1067, x2214) ⟨by simp, by simp, h2857⟩ (fun a w st => St.cut [0, 1, 2, 3] ⟨rfl, rfl, rfl, rfl, rfl, rfl, rfl, trivial⟩ (by decide) rfl st) ?_
    rintro ⟨i2862, r2863, l2699, x2700⟩ ⟨h2868, h2869, h2867⟩
    try dsimp only at h2868 h2869 h2867
    refine GL.weak (env' := [(0, v0), (8, v13), (9, v16), (10, v17), (13, .bool x2700), (77, .int .i64 ((y11).length : Int)), (78, .int .i64 (i2862 : Int))]) (L' := [imm (TR.sl (TR.sl TR.int)) v0 x0, imm (TR.sl (TR.sl TR.int)) v13 y11, obox 112 (TR.arr 6 TR.bool) v16 l2213, obox 112 (TR.arr 6 TR.bool) v17 l2699]) (fun _ _ st => st) ?_
    refine GL.seq ?_
    refine GL.region ?_
    refine RL.binI (v := .bool (decide ((i2862 : Int) < ((y11).length : Int)))) rfl rfl rfl rfl rfl ?_
    refine RL.finG ?_
    refine GL.seq ?_
    refine GL.cond rfl (fun b2870 => ?_) (fun b2870 => ?_)
    ·have h2871 : i2862 < (y11).length := by have := of_decide_eq_true b2870; omega
     obtain ⟨y2872, r2874, hr, e2873, h2875⟩ := drop_cons h2869 rfl h2871
     subst hr
     obtain ⟨z2864, h2865, h2866⟩ := rangeL_some h2867
     unfold equil_Left_b6 at h2865
     try dsimp only at h2865
     refine GL.skip ?_
     refine GL.seq ?_
     refine GL.block ?_
     refine GL.seq ?_
     refine GL.region ?_
     refine RL.mv rfl rfl rfl ?_
     refine RL.asg rfl rfl rfl ?_
     refine RL.finG ?_
     refine GL.seq ?_
     refine GL.region ?_
     refine RL.mv rfl rfl rfl ?_
     refine RL.lenS 1 Try.underlying37 rfl rfl rfl rfl SlOf.imm ?_
     refine RL.mv rfl rfl rfl ?_
     refine RL.finG ?_
     refine GL.open_ 1 rfl (fun S h => len_imm S h) (fun n2963 => ?_)
     obtain ⟨y2964, K2965, h2966, h2967, h2968, h2969, h2970⟩ := bindF_K h2865
     refine GL.join (ι := (List Bool) × Bool) (fun (p : (List Bool) × Bool) => [(0, v0), (8, v13), (9, v16), (10, v17), (13, .bool p.2), (77, .int .i64 ((y11).length : Int)), (78, .int .i64 (i2862 : Int))]) (fun (p : (List Bool) × Bool) => [imm (TR.sl (TR.sl TR.int)) v0 x0, imm (TR.sl (TR.sl TR.int)) v13 y11, obox 112 (TR.arr 6 TR.bool) v16 l2213, obox 112 (TR.arr 6 TR.bool) v17 p.1]) (fun (p : (List Bool) × Bool) => K2965 (.nx (p.1, p.2))) ?_ ?_
     ·refine GL.block ?_
      refine GL.loop (ι := Nat × (List (List Int)) × (List Bool) × Bool) (fun (p : Nat × (List (List Int)) × (List Bool) × Bool) => [(0, v0), (8, v13), (9, v16), (10, v17), (13, .bool p.2.2.2), (16, .int .i64 (i2862 : Int)), (77, .int .i64 ((y11).length : Int)), (78, .int .i64 (i2862 : Int)), (82, .int .i64 ((y11).length : Int)), (83, .int .i64 (p.1 : Int))]) (fun (p : Nat × (List (List Int)) × (List Bool) × Bool) => [imm (TR.sl (TR.sl TR.int)) v0 x0, imm (TR.sl (TR.sl TR.int)) v13 y11, obox 112 (TR.arr 6 TR.bool) v16 l2213, obox 112 (TR.arr 6 TR.bool) v17 p.2.2.1]) (fun (p : Nat × (List (List Int)) × (List Bool) × Bool) => p.1 + p.2.1.length = (y11).length ∧ List.drop p.1 y11 = p.2.1 ∧ rangeL (equil_Left_b7 i2862 y11 l2213) p.2.1 p.1 (p.2.2.1, p.2.2.2) = some y2964) (fun (p : Nat × (List (List Int)) × (List Bool) × Bool) => p.2.1.length) (0, y11, l2699, x2700) ⟨by simp, by simp, h2966⟩ (fun a w st => St.cut [0, 1, 2, 3] ⟨rfl, rfl, rfl, rfl, rfl, rfl, rfl, rfl, rfl, rfl, trivial⟩ (by decide) rfl st) ?_
      rintro ⟨i2971, r2972, l2919, x2920⟩ ⟨h2977, h2978, h2976⟩
      try dsimp only at h2977 h2978 h2976
      refine GL.weak (env' := [(0, v0), (8, v13), (9, v16), (10, v17), (13, .bool x2920), (16, .int .i64 (i2862 : Int)), (77, .int .i64 ((y11).length : Int)), (78, .int .i64 (i2862 : Int)), (82, .int .i64 ((y11).length : Int)), (83, .int .i64 (i2971 : Int))]) (L' := [imm (TR.sl (TR.sl TR.int)) v0 x0, imm (TR.sl (TR.sl TR.int)) v13 y11, obox 112 (TR.arr 6 TR.bool) v16 l2213, obox 112 (TR.arr 6 TR.bool) v17 l2919]) (fun _ _ st => st) ?_
      refine GL.seq ?_
      refine GL.region ?_
      refine RL.binI (v := .bool (decide ((i2971 : Int) < ((y11).length : Int)))) rfl rfl rfl rfl rfl ?_
      refine RL.finG ?_
      refine GL.seq ?_
      refine GL.cond rfl (fun b2979 => ?_) (fun b2979 => ?_)
      ·have h2980 : i2971 < (y11).length := by have := of_decide_eq_true b2979; omega
       obtain ⟨y2981, r2983, hr, e2982, h2984⟩ := drop_cons h2978 rfl h2980
       subst hr
       obtain ⟨z2973, h2974, h2975⟩ := rangeL_some h2976
       unfold equil_Left_b7 at h2974
       try dsimp only at h2974
       refine GL.skip ?_
       refine GL.seq ?_
       refine GL.block ?_
       refine GL.seq ?_
       refine GL.region ?_
       refine RL.mv rfl rfl rfl ?_
       refine RL.asg rfl rfl rfl ?_
       refine RL.finG ?_
       refine GL.seq ?_
       obtain ⟨y3004, K3005, h3006, h3007, h3008, h3009, h3010⟩ := bindF_K h2974
       refine GL.join (ι := Bool) (fun (p : Bool) => [(0, v0), (8, v13), (9, v16), (10, v17), (13, .bool x2920), (16, .int .i64 (i2862 : Int)), (77, .int .i64 ((y11).length : Int)), (78, .int .i64 (i2862 : Int)), (82, .int .i64 ((y11).length : Int)), (83, .int .i64 (i2971 : Int)), (100, .bool p)]) (fun (p : Bool) => [imm (TR.sl (TR.sl TR.int)) v0 x0, imm (TR.sl (TR.sl TR.int)) v13 y11, obox 112 (TR.arr 6 TR.bool) v16 l2213, obox 112 (TR.arr 6 TR.bool) v17 l2919]) (fun (p : Bool) => K3005 (.nx p)) ?_ ?_
       ·skip
        refine GL.region ?_
        refine RL.mv rfl rfl rfl ?_
        obtain ⟨y3011, e3012, h3006⟩ := bind_some h3006
        refine RL.idxA0 (sz := 1) (t' := TR.bool) 3 Try.underlying112 Try_ln4 rfl rfl rfl PtOf.obox rfl rfl Part.self (idx_some e3012).1 (idx_some e3012).2.1 ?_
        refine RL.ldPx (off := (i2862 * 1)) (e' := y3011) 3 Ex.bool Try_ln4 rfl rfl (Or.inl rfl) rfl PtOf.obox (Part.arr (idx_some e3012).2.2 Part.self) ?_
        refine RL.mv rfl rfl rfl ?_
        refine RL.split (t := 89) rfl (fun b3013 => ?_) (fun b3013 => ?_)
        ·replace h3006 := ite_t b3013 h3006
         refine RL.mv rfl rfl rfl ?_
         obtain ⟨y3014, e3015, h3006⟩ := bind_some h3006
         refine RL.idxA0 (sz := 1) (t' := TR.bool) 3 Try.underlying112 Try_ln4 rfl rfl rfl PtOf.obox rfl rfl Part.self (idx_some e3015).1 (idx_some e3015).2.1 ?_
         refine RL.ldPx (off := (i2971 * 1)) (e' := y3014) 3 Ex.bool Try_ln4 rfl rfl (Or.inl rfl) rfl PtOf.obox (Part.arr (idx_some e3015).2.2 Part.self) ?_
         refine RL.pickT rfl rfl rfl rfl ?_
         refine RL.mv rfl rfl rfl ?_
         refine RL.split (t := 94) rfl (fun b3016 => ?_) (fun b3016 => ?_)
         ·replace h3006 := ite_t b3016 h3006
          refine RL.mv rfl rfl rfl ?_
          refine RL.mv rfl rfl rfl ?_
          refine RL.mv rfl rfl rfl ?_
          refine RL.ldP (off := 0) (r := (TR.arr 6 TR.bool)) (e' := l2213) 2 Try_ln112 rfl rfl (Or.inr ⟨rfl, rfl⟩) rfl PtOf.obox Part.self ?_
          intro v3017
          obtain ⟨y3018, e3019, h3006⟩ := bind_some h3006
          refine RL.callV (v := .bool y3018) (vs := [v13, .int .i64 (i2862 : Int), .int .i64 (i2971 : Int), v3017]) Try_fit90 rfl (Or.inl rfl) rfl rfl rfl rfl (fun U w hU hW hL => equil_worse_c U w hU _ _ (hL 1 _ _ rfl Seen.imm) (i2862 : Int) (i2971 : Int) _ _ (hL 4 _ _ rfl Seen.imm) _ e3019) ?_
          refine RL.pickT rfl rfl rfl rfl ?_
          refine RL.fin ?_
          cases h3006
          exact fun a w st => mid_intro y3018 h3007 (St.cut [0, 1, 2, 3] ⟨rfl, rfl, rfl, rfl, rfl, rfl, rfl, rfl, rfl, rfl, rfl, trivial⟩ (by decide) rfl st)
         replace h3006 := ite_f b3016 h3006
         refine RL.skip rfl rfl ?_
         refine RL.skip rfl rfl ?_
         refine RL.skip rfl rfl ?_
         refine RL.skip rfl rfl ?_
         refine RL.skip rfl rfl ?_
         refine RL.pickF rfl rfl rfl rfl ?_
         refine RL.fin ?_
         cases h3006
         exact fun a w st => mid_intro false h3007 (St.cut [0, 1, 2, 3] ⟨rfl, rfl, rfl, rfl, rfl, rfl, rfl, rfl, rfl, rfl, rfl, trivial⟩ (by decide) rfl st)
        replace h3006 := ite_f b3013 h3006
        refine RL.skip rfl rfl ?_
        refine RL.skip rfl rfl ?_
        refine RL.skip rfl rfl ?_
        refine RL.pickF rfl rfl rfl rfl ?_
        refine RL.mv rfl rfl rfl ?_
        refine RL.skip rfl rfl ?_
        refine RL.skip rfl rfl ?_
        refine RL.skip rfl rfl ?_
        refine RL.skip rfl rfl ?_
        refine RL.skip rfl rfl ?_
        refine RL.pickF rfl rfl rfl rfl ?_
        refine RL.fin ?_
        cases h3006
        exact fun a w st => mid_intro false h3007 (St.cut [0, 1, 2, 3] ⟨rfl, rfl, rfl, rfl, rfl, rfl, rfl, rfl, rfl, rfl, rfl, trivial⟩ (by decide) rfl st)
       rintro x3003 h3020
       have h3021 := h3008 _ h3020
       try dsimp only at h3021
       refine GL.weak (env' := [(0, v0), (8, v13), (9, v16), (10, v17), (13, .bool x2920), (16, .int .i64 (i2862 : Int)), (77, .int .i64 ((y11).length : Int)), (78, .int .i64 (i2862 : Int)), (82, .int .i64 ((y11).length : Int)), (83, .int .i64 (i2971 : Int)), (100, .bool x3003)]) (L' := [imm (TR.sl (TR.sl TR.int)) v0 x0, imm (TR.sl (TR.sl TR.int)) v13 y11, obox 112 (TR.arr 6 TR.bool) v16 l2213, obox 112 (TR.arr 6 TR.bool) v17 l2919]) (fun _ _ st => st) ?_
       refine GL.cond rfl (fun b3022 => ?_) (fun b3022 => ?_)
       ·replace h3021 := ite_t b3022 h3021
        refine GL.region ?_
        refine RL.mv rfl rfl rfl ?_
        obtain ⟨y3025, e3026, h3021⟩ := bind_some h3021
        refine RL.idxA0 (sz := 1) (t' := TR.bool) 3 Try.underlying112 Try_ln4 rfl rfl rfl PtOf.obox rfl rfl Part.self (idx_some e3026).1 (idx_some e3026).2.1 ?_
        refine RL.stP (off := (i2862 * 1)) (e' := false) (d1 := (List.set l2919 i2862 false)) (r := TR.bool) 3 Try_ln4 rfl rfl (Or.inl rfl) rfl VR.bool rfl (Upd.arr (idx_some e3026).2.2 Upd.self) ?_
        refine RL.asg rfl rfl rfl ?_
        refine RL.finG ?_
        refine GL.nilB ?_
        refine GL.region ?_
        refine RL.binI (v := .int .i64 ((i2971 + 1 : Nat) : Int)) rfl rfl rfl rfl (binI_succ i2971 (by omega)) ?_
        refine RL.mv rfl rfl rfl ?_
        refine RL.fin ?_
        cases h3021
        exact fun a w st => lop_intro (i2971 + 1, r2983, (List.set l2919 i2862 false), true) ⟨by show i2971 + 1 + r2983.length = (y11).length; simp only [List.length_cons] at h2977; omega, h2984, h2975⟩ (by simp) (St.cut [0, 1, 2, 3] ⟨rfl, rfl, rfl, rfl, rfl, rfl, rfl, rfl, rfl, rfl, trivial⟩ (by decide) rfl st)
       replace h3021 := ite_f b3022 h3021
       refine GL.skip ?_
       refine GL.nilB ?_
       refine GL.region ?_
       refine RL.binI (v := .int .i64 ((i2971 + 1 : Nat) : Int)) rfl rfl rfl rfl (binI_succ i2971 (by omega)) ?_
       refine RL.mv rfl rfl rfl ?_
       refine RL.fin ?_
       cases h3021
       exact fun a w st => lop_intro (i2971 + 1, r2983, l2919, x2920) ⟨by show i2971 + 1 + r2983.length = (y11).length; simp only [List.length_cons] at h2977; omega, h2984, h2975⟩ (by simp) (St.cut [0, 1, 2, 3] ⟨rfl, rfl, rfl, rfl, rfl, rfl, rfl, rfl, rfl, rfl, trivial⟩ (by decide) rfl st)
      have h2980 : ¬ i2971 < (y11).length := by have := of_decide_eq_false b2979; omega
      obtain rfl : r2972 = [] := by rw [← h2978]; exact List.drop_of_length_le (by omega)
      replace h2976 : some (Fl.nx _) = some y2964 := h2976
      cases h2976
      exact GL.exit (fun a w st => mid_intro (l2919, x2920) h2967 (St.cut [0, 1, 2, 3] ⟨rfl, rfl, rfl, rfl, rfl, rfl, rfl, trivial⟩ (by decide) rfl st))
     rintro ⟨l2919, x2920⟩ h3027
     have h3028 := h2968 _ h3027
     try dsimp only at h3028
     refine GL.weak (env' := [(0, v0), (8, v13), (9, v16), (10, v17), (13, .bool x2920), (77, .int .i64 ((y11).length : Int)), (78, .int .i64 (i2862 : Int))]) (L' := [imm (TR.sl (TR.sl TR.int)) v0 x0, imm (TR.sl (TR.sl TR.int)) v13 y11, obox 112 (TR.arr 6 TR.bool) v16 l2213, obox 112 (TR.arr 6 TR.bool) v17 l2919]) (fun _ _ st => st) ?_
     refine GL.nilB ?_
     refine GL.region ?_
     refine RL.binI (v := .int .i64 ((i2862 + 1 : Nat) : Int)) rfl rfl rfl rfl (binI_succ i2862 (by omega)) ?_
     refine RL.mv rfl rfl rfl ?_
     refine RL.fin ?_
     cases h3028
     exact fun a w st => lop_intro (i2862 + 1, r2874, l2919, x2920) ⟨by show i2862 + 1 + r2874.length = (y11).length; simp only [List.length_cons] at h2868; omega, h2875, h2866⟩ (by simp) (St.cut [0, 1, 2, 3] ⟨rfl, rfl, rfl, rfl, rfl, rfl, rfl, trivial⟩ (by decide) rfl st)
    have h2871 : ¬ i2862 < (y11).length := by have := of_decide_eq_false b2870; omega
    obtain rfl : r2863 = [] := by rw [← h2869]; exact List.drop_of_length_le (by omega)
    replace h2867 : some (Fl.nx _) = some y2855 := h2867
    cases h2867
    exact GL.exit (fun a w st => mid_intro (l2699, x2700) h2858 (St.cut [0, 1, 2, 3] ⟨rfl, rfl, rfl, rfl, rfl, trivial⟩ (by decide) rfl st))
   rintro ⟨l2699, x2700⟩ h3029
   have h3030 := h2859 _ h3029
   try dsimp only at h3030
   refine GL.weak (env' := [(0, v0), (8, v13), (9, v16), (10, v17), (13, .bool x2700)]) (L' := [imm (TR.sl (TR.sl TR.int)) v0 x0, imm (TR.sl (TR.sl TR.int)) v13 y11, obox 112 (TR.arr 6 TR.bool) v16 l2213, obox 112 (TR.arr 6 TR.bool) v17 l2699]) (fun _ _ st => st) ?_
   refine GL.nilB ?_
   cases h3030
   exact fun a w st => lop_intro (r2057, l2213, l2699, x2700) (by exact h2053) (by simp) (St.cut [0, 1, 2, 3] ⟨rfl, rfl, rfl, rfl, rfl, trivial⟩ (by decide) rfl st)
  replace h2052 := ite_f b2058 h2052
  cases h2052
  replace h2053 : some (Fl.nx _) = some y2042 := h2053
  cases h2053
  exact GL.exit (fun a w st => mid_intro (l1066, l1067, x1068) h2045 (St.cut [0, 1, 2, 3] ⟨rfl, rfl, rfl, rfl, trivial⟩ (by decide) rfl st))
 rintro ⟨l1066, l1067, x1068⟩ h3031
 have h3032 := h2046 _ h3031
 try dsimp only at h3032
 refine GL.weak (env' := [(0, v0), (8, v13), (9, v16), (10, v17)]) (L' := [imm (TR.sl (TR.sl TR.int)) v0 x0, imm (TR.sl (TR.sl TR.int)) v13 y11, obox 112 (TR.arr 6 TR.bool) v16 l1066, obox 112 (TR.arr 6 TR.bool) v17 l1067]) (fun _ _ st => st) ?_
 refine GL.seq ?_
 refine GL.region ?_
 refine RL.asg rfl rfl rfl ?_
 refine RL.asg rfl rfl rfl ?_
 refine RL.finG ?_
 refine GL.seq ?_
 refine GL.seq ?_
 refine GL.region ?_
 refine RL.mv rfl rfl rfl ?_
 refine RL.lenS 0 Try.underlying37 rfl rfl rfl rfl SlOf.imm ?_
 refine RL.mv rfl rfl rfl ?_
 refine RL.finG ?_
 refine GL.weak (fun a w st => st.nilOwn 3 TR.int) ?_
 refine GL.open_ 0 rfl (fun S h => len_imm S h) (fun n3048 => ?_)
 obtain ⟨y3049, K3050, h3051, h3052, h3053, h3054, h3055⟩ := bindR_K h3032
 refine GL.join (ι := (List Int) × Value) (fun (p : (List Int) × Value) => [(8, v13), (10, v17), (18, p.2), (19, Value.slice none 0 0)]) (fun (p : (List Int) × Value) => [imm (TR.sl (TR.sl TR.int)) v13 y11, obox 112 (TR.arr 6 TR.bool) v17 l1067, own 3 TR.int p.2 p.1]) (fun (p : (List Int) × Value) => K3050 (.nx p.1)) ?_ ?_
 ·refine GL.block ?_
  refine GL.loop (ι := Nat × (List (List Int)) × (List Int) × Value) (fun (p : Nat × (List (List Int)) × (List Int) × Value) => [(8, v13), (9, v16), (10, v17), (18, p.2.2.2), (19, Value.slice none 0 0), (106, .int .i64 ((x0).length : Int)), (107, .int .i64 (p.1 : Int))]) (fun (p : Nat × (List (List Int)) × (List Int) × Value) => [imm (TR.sl (TR.sl TR.int)) v13 y11, obox 112 (TR.arr 6 TR.bool) v16 l1066, obox 112 (TR.arr 6 TR.bool) v17 l1067, own 3 TR.int p.2.2.2 p.2.2.1]) (fun (p : Nat × (List (List Int)) × (List Int) × Value) => p.1 + p.2.1.length = (x0).length ∧ List.drop p.1 x0 = p.2.1 ∧ rangeL (equil_Left_b8 l1066) p.2.1 p.1 p.2.2.1 = some y3049) (fun (p : Nat × (List (List Int)) × (List Int) × Value) => p.2.1.length) (0, x0, [], Value.slice none 0 0) ⟨by simp, by simp, h3051⟩ (fun a w st => St.cut [1, 2, 3, 4] ⟨rfl, rfl, rfl, rfl, rfl, rfl, rfl, trivial⟩ (by decide) rfl st) ?_
  rintro ⟨i3056, r3057, l3033, v3034⟩ ⟨h3062, h3063, h3061⟩
  try dsimp only at h3062 h3063 h3061
  refine GL.weak (env' := [(8, v13), (9, v16), (10, v17), (18, v3034), (19, Value.slice none 0 0), (106, .int .i64 ((x0).length : Int)), (107, .int .i64 (i3056 : Int))]) (L' := [imm (TR.sl (TR.sl TR.int)) v13 y11, obox 112 (TR.arr 6 TR.bool) v16 l1066, obox 112 (TR.arr 6 TR.bool) v17 l1067, own 3 TR.int v3034 l3033]) (fun _ _ st => st) ?_
  refine GL.seq ?_
  refine GL.region ?_
  refine RL.binI (v := .bool (decide ((i3056 : Int) < ((x0).length : Int)))) rfl rfl rfl rfl rfl ?_
  refine RL.finG ?_
  refine GL.seq ?_
  refine GL.cond rfl (fun b3064 => ?_) (fun b3064 => ?_)
  ·have h3065 : i3056 < (x0).length := by have := of_decide_eq_true b3064; omega
   obtain ⟨y3066, r3068, hr, e3067, h3069⟩ := drop_cons h3063 rfl h3065
   subst hr
   obtain ⟨z3058, h3059, h3060⟩ := rangeL_some h3061
   unfold equil_Left_b8 at h3059
   try dsimp only at h3059
   refine GL.skip ?_
   refine GL.seq ?_
   refine GL.block ?_
   refine GL.seq ?_
   refine GL.region ?_
   refine RL.mv rfl rfl rfl ?_
   refine RL.asg rfl rfl rfl ?_
   refine RL.finG ?_
   refine GL.seq ?_
   refine GL.region ?_
   refine RL.mv rfl rfl rfl ?_
   obtain ⟨y3072, e3073, h3059⟩ := bind_some h3059
   refine RL.idxA0 (sz := 1) (t' := TR.bool) 1 Try.underlying112 Try_ln4 rfl rfl rfl PtOf.obox rfl rfl Part.self (idx_some e3073).1 (idx_some e3073).2.1 ?_
   refine RL.ldPx (off := (i3056 * 1)) (e' := y3072) 1 Ex.bool Try_ln4 rfl rfl (Or.inl rfl) rfl PtOf.obox (Part.arr (idx_some e3073).2.2 Part.self) ?_
   refine RL.finG ?_
   refine GL.cond rfl (fun b3074 => ?_) (fun b3074 => ?_)
   ·replace h3059 := ite_t b3074 h3059
    refine GL.region ?_
    refine RL.mv rfl rfl rfl ?_
    refine RL.mv rfl rfl rfl ?_
    refine RL.bS (t := TR.int) (vs := [.int .i64 (i3056 : Int)]) ([(i3056 : Int)] : (List Int)) Try.underlying24 Try_lo3 rfl rfl rfl rfl ⟨VR.int, trivial⟩ rfl (by decide) ?_
    intro v3079
    obtain ⟨y3080, e3081, h3059⟩ := bind_some h3059
    replace e3081 := chk_some e3081
    refine RL.app 3 4 Try.underlying24 Try_lo3 rfl rfl rfl rfl rfl rfl rfl SlOf.own e3081 ?_
    intro v3082
    refine RL.reL (L' := [imm (TR.sl (TR.sl TR.int)) v13 y11, obox 112 (TR.arr 6 TR.bool) v16 l1066, obox 112 (TR.arr 6 TR.bool) v17 l1067, own 3 TR.int v3082 (l3033 ++ ([(i3056 : Int)] : (List Int))), own 3 TR.int v3079 ([(i3056 : Int)] : (List Int))]) rfl ?_
    refine RL.asg rfl rfl rfl ?_
    refine RL.finG ?_
    refine GL.nilB ?_
    refine GL.region ?_
    refine RL.binI (v := .int .i64 ((i3056 + 1 : Nat) : Int)) rfl rfl rfl rfl (binI_succ i3056 (by omega)) ?_
    refine RL.mv rfl rfl rfl ?_
    refine RL.fin ?_
    cases h3059
    exact fun a w st => lop_intro (i3056 + 1, r3068, (l3033 ++ ([(i3056 : Int)] : (List Int))), v3082) ⟨by show i3056 + 1 + r3068.length = (x0).length; simp only [List.length_cons] at h3062; omega, h3069, h3060⟩ (by simp) (St.cut [0, 1, 2, 3] ⟨rfl, rfl, rfl, rfl, rfl, rfl, rfl, trivial⟩ (by decide) rfl st)
   replace h3059 := ite_f b3074 h3059
   refine GL.skip ?_
   refine GL.nilB ?_
   refine GL.region ?_
   refine RL.binI (v := .int .i64 ((i3056 + 1 : Nat) : Int)) rfl rfl rfl rfl (binI_succ i3056 (by omega)) ?_
   refine RL.mv rfl rfl rfl ?_
   refine RL.fin ?_
   cases h3059
   exact fun a w st => lop_intro (i3056 + 1, r3068, l3033, v3034) ⟨by show i3056 + 1 + r3068.length = (x0).length; simp only [List.length_cons] at h3062; omega, h3069, h3060⟩ (by simp) (St.cut [0, 1, 2, 3] ⟨rfl, rfl, rfl, rfl, rfl, rfl, rfl, trivial⟩ (by decide) rfl st)
  have h3065 : ¬ i3056 < (x0).length := by have := of_decide_eq_false b3064; omega
  obtain rfl : r3057 = [] := by rw [← h3063]; exact List.drop_of_length_le (by omega)
  replace h3061 : some (Fl.nx _) = some y3049 := h3061
  cases h3061
  exact GL.exit (fun a w st => mid_intro (l3033, v3034) h3052 (St.cut [0, 2, 3] ⟨rfl, rfl, rfl, rfl, trivial⟩ (by decide) rfl st))
 rintro ⟨l3033, v3034⟩ h3083
 have h3084 := h3053 _ h3083
 try dsimp only at h3084
 refine GL.weak (env' := [(8, v13), (10, v17), (18, v3034), (19, Value.slice none 0 0)]) (L' := [imm (TR.sl (TR.sl TR.int)) v13 y11, obox 112 (TR.arr 6 TR.bool) v17 l1067, own 3 TR.int v3034 l3033]) (fun _ _ st => st) ?_
 refine GL.seq ?_
 refine GL.seq ?_
 refine GL.region ?_
 refine RL.mv rfl rfl rfl ?_
 refine RL.lenS 0 Try.underlying37 rfl rfl rfl rfl SlOf.imm ?_
 refine RL.mv rfl rfl rfl ?_
 refine RL.finG ?_
 refine GL.weak (fun a w st => st.nilOwn 3 TR.int) ?_
 refine GL.open_ 0 rfl (fun S h => len_imm S h) (fun n3100 => ?_)
 obtain ⟨y3101, K3102, h3103, h3104, h3105, h3106, h3107⟩ := bindR_K h3084
 refine GL.join (ι := (List Int) × Value) (fun (p : (List Int) × Value) => [(18, v3034), (19, p.2)]) (fun (p : (List Int) × Value) => [own 3 TR.int v3034 l3033, own 3 TR.int p.2 p.1]) (fun (p : (List Int) × Value) => K3102 (.nx p.1)) ?_ ?_
 ·refine GL.block ?_
  refine GL.loop (ι := Nat × (List (List Int)) × (List Int) × Value) (fun (p : Nat × (List (List Int)) × (List Int) × Value) => [(10, v17), (18, v3034), (19, p.2.2.2), (119, .int .i64 ((y11).length : Int)), (120, .int .i64 (p.1 : Int))]) (fun (p : Nat × (List (List Int)) × (List Int) × Value) => [obox 112 (TR.arr 6 TR.bool) v17 l1067, own 3 TR.int v3034 l3033, own 3 TR.int p.2.2.2 p.2.2.1]) (fun (p : Nat × (List (List Int)) × (List Int) × Value) => p.1 + p.2.1.length = (y11).length ∧ List.drop p.1 y11 = p.2.1 ∧ rangeL (equil_Left_b9 l1067) p.2.1 p.1 p.2.2.1 = some y3101) (fun (p : Nat × (List (List Int)) × (List Int) × Value) => p.2.1.length) (0, y11, [], Value.slice none 0 0) ⟨by simp, by simp, h3103⟩ (fun a w st => St.cut [1, 2, 3] ⟨rfl, rfl, rfl, rfl, rfl, trivial⟩ (by decide) rfl st) ?_
  rintro ⟨i3108, r3109, l3085, v3086⟩ ⟨h3114, h3115, h3113⟩
  try dsimp only at h3114 h3115 h3113
  refine GL.weak (env' := [(10, v17), (18, v3034), (19, v3086), (119, .int .i64 ((y11).length : Int)), (120, .int .i64 (i3108 : Int))]) (L' := [obox 112 (TR.arr 6 TR.bool) v17 l1067, own 3 TR.int v3034 l3033, own 3 TR.int v3086 l3085]) (fun _ _ st => st) ?_
  refine GL.seq ?_
  refine GL.region ?_
  refine RL.binI (v := .bool (decide ((i3108 : Int) < ((y11).length : Int)))) rfl rfl rfl rfl rfl ?_
  refine RL.finG ?_
  refine GL.seq ?_
  refine GL.cond rfl (fun b3116 => ?_) (fun b3116 => ?_)
  ·have h3117 : i3108 < (y11).length := by have := of_decide_eq_true b3116; omega
   obtain ⟨y3118, r3120, hr, e3119, h3121⟩ := drop_cons h3115 rfl h3117
   subst hr
   obtain ⟨z3110, h3111, h3112⟩ := rangeL_some h3113
   unfold equil_Left_b9 at h3111
   try dsimp only at h3111
   refine GL.skip ?_
   refine GL.seq ?_
   refine GL.block ?_
   refine GL.seq ?_
   refine GL.region ?_
   refine RL.mv rfl rfl rfl ?_
   refine RL.asg rfl rfl rfl ?_
   refine RL.finG ?_
   refine GL.seq ?_
   refine GL.region ?_
   refine RL.mv rfl rfl rfl ?_
   obtain ⟨y3124, e3125, h3111⟩ := bind_some h3111
   refine RL.idxA0 (sz := 1) (t' := TR.bool) 0 Try.underlying112 Try_ln4 rfl rfl rfl PtOf.obox rfl rfl Part.self (idx_some e3125).1 (idx_some e3125).2.1 ?_
   refine RL.ldPx (off := (i3108 * 1)) (e' := y3124) 0 Ex.bool Try_ln4 rfl rfl (Or.inl rfl) rfl PtOf.obox (Part.arr (idx_some e3125).2.2 Part.self) ?_
   refine RL.finG ?_
   refine GL.cond rfl (fun b3126 => ?_) (fun b3126 => ?_)
   ·replace h3111 := ite_t b3126 h3111
    refine GL.region ?_
    refine RL.mv rfl rfl rfl ?_
    refine RL.mv rfl rfl rfl ?_
    refine RL.bS (t := TR.int) (vs := [.int .i64 (i3108 : Int)]) ([(i3108 : Int)] : (List Int)) Try.underlying24 Try_lo3 rfl rfl rfl rfl ⟨VR.int, trivial⟩ rfl (by decide) ?_
    intro v3131
    obtain ⟨y3132, e3133, h3111⟩ := bind_some h3111
    replace e3133 := chk_some e3133
    refine RL.app 2 3 Try.underlying24 Try_lo3 rfl rfl rfl rfl rfl rfl rfl SlOf.own e3133 ?_
    intro v3134
    refine RL.reL (L' := [obox 112 (TR.arr 6 TR.bool) v17 l1067, own 3 TR.int v3034 l3033, own 3 TR.int v3134 (l3085 ++ ([(i3108 : Int)] : (List Int))), own 3 TR.int v3131 ([(i3108 : Int)] : (List Int))]) rfl ?_
    refine RL.asg rfl rfl rfl ?_
    refine RL.finG ?_
    refine GL.nilB ?_
    refine GL.region ?_
    refine RL.binI (v := .int .i64 ((i3108 + 1 : Nat) : Int)) rfl rfl rfl rfl (binI_succ i3108 (by omega)) ?_
    refine RL.mv rfl rfl rfl ?_
    refine RL.fin ?_
    cases h3111
    exact fun a w st => lop_intro (i3108 + 1, r3120, (l3085 ++ ([(i3108 : Int)] : (List Int))), v3134) ⟨by show i3108 + 1 + r3120.length = (y11).length; simp only [List.length_cons] at h3114; omega, h3121, h3112⟩ (by simp) (St.cut [0, 1, 2] ⟨rfl, rfl, rfl, rfl, rfl, trivial⟩ (by decide) rfl st)
   replace h3111 := ite_f b3126 h3111
   refine GL.skip ?_
   refine GL.nilB ?_
   refine GL.region ?_
   refine RL.binI (v := .int .i64 ((i3108 + 1 : Nat) : Int)) rfl rfl rfl rfl (binI_succ i3108 (by omega)) ?_
   refine RL.mv rfl rfl rfl ?_
   refine RL.fin ?_
   cases h3111
   exact fun a w st => lop_intro (i3108 + 1, r3120, l3085, v3086) ⟨by show i3108 + 1 + r3120.length = (y11).length; simp only [List.length_cons] at h3114; omega, h3121, h3112⟩ (by simp) (St.cut [0, 1, 2] ⟨rfl, rfl, rfl, rfl, rfl, trivial⟩ (by decide) rfl st)
  have h3117 : ¬ i3108 < (y11).length := by have := of_decide_eq_false b3116; omega
  obtain rfl : r3109 = [] := by rw [← h3115]; exact List.drop_of_length_le (by omega)
  replace h3113 : some (Fl.nx _) = some y3101 := h3113
  cases h3113
  exact GL.exit (fun a w st => mid_intro (l3085, v3086) h3104 (St.cut [1, 2] ⟨rfl, rfl, trivial⟩ (by decide) rfl st))
 rintro ⟨l3085, v3086⟩ h3135
 have h3136 := h3105 _ h3135
 try dsimp only at h3136
 refine GL.weak (env' := [(18, v3034), (19, v3086)]) (L' := [own 3 TR.int v3034 l3033, own 3 TR.int v3086 l3085]) (fun _ _ st => st) ?_
 refine GL.seq ?_
 refine GL.region ?_
 refine RL.mv rfl rfl rfl ?_
 refine RL.mv rfl rfl rfl ?_
 refine RL.asg rfl rfl rfl ?_
 refine RL.asg rfl rfl rfl ?_
 refine RL.asg rfl rfl rfl ?_
 refine RL.finG ?_
 have h3136 := Option.some.inj h3136
 subst h3136
 exact GL.ret (Gx.ret (v := .tuple #[v3034, v3086, .int .i64 (0 : Int)]) (res3 rfl rfl rfl rfl) (fun a w st => (st.pick [0, 1] (by decide) rfl).toPost (v3034, v3086)))

set_option maxHeartbeats 4000000 in
theorem pk_equils_c (S : Hp) (w : World) (hS : S.sub w)  (res : Bool) (hm : pk_equils_m = some res) : Calls Try.prog 26 #[] w (PostV w (.bool res)) := by
 refine calls_enter 47 Try.func26 Try.ntmps26 rfl S false [] [] rfl trivial hS trivial ?_
 unfold pk_equils_m at hm
 refine GL.seq ?_
 refine GL.region ?_
 refine RL.asg rfl rfl rfl ?_
 refine RL.finG ?_
 refine GL.seq ?_
 refine GL.region ?_
 refine RL.bS (t := TR.int) (vs := [.int .i64 (3 : Int), .int .i64 (0 : Int)]) ([(3 : Int), (0 : Int)] : (List Int)) Try.underlying24 Try_lo3 rfl rfl rfl rfl ⟨VR.int, ⟨VR.int, trivial⟩⟩ rfl (by decide) ?_
 intro v7
 refine RL.bS (t := TR.int) (vs := [.int .i64 (5 : Int), .int .i64 (1 : Int)]) ([(5 : Int), (1 : Int)] : (List Int)) Try.underlying24 Try_lo3 rfl rfl rfl rfl ⟨VR.int, ⟨VR.int, trivial⟩⟩ rfl (by decide) ?_
 intro v8
 refine RL.reL (L' := [own 3 TR.int v7 ([(3 : Int), (0 : Int)] : (List Int)), own 3 TR.int v8 ([(5 : Int), (1 : Int)] : (List Int))]) rfl ?_
 refine RL.weak (fun a w st => st.freeze 0 rfl) ?_
 refine RL.weak (fun a w st => st.freeze 1 rfl) ?_
 refine RL.bS (t := (TR.sl TR.int)) (vs := [v7, v8]) ([([(3 : Int), (0 : Int)] : (List Int)), ([(5 : Int), (1 : Int)] : (List Int))] : (List (List Int))) Try.underlying37 Try_lo24 rfl rfl rfl rfl ⟨(VR.item 0 rfl), ⟨(VR.item 1 rfl), trivial⟩⟩ rfl (by decide) ?_
 intro v9
 refine RL.reL (L' := [imm (TR.sl TR.int) v7 ([(3 : Int), (0 : Int)] : (List Int)), imm (TR.sl TR.int) v8 ([(5 : Int), (1 : Int)] : (List Int)), own 24 (TR.sl TR.int) v9 ([([(3 : Int), (0 : Int)] : (List Int)), ([(5 : Int), (1 : Int)] : (List Int))] : (List (List Int)))]) rfl ?_
 refine RL.bS (t := TR.int) (vs := [.int .i64 (3 : Int), .int .i64 (5 : Int)]) ([(3 : Int), (5 : Int)] : (List Int)) Try.underlying24 Try_lo3 rfl rfl rfl rfl ⟨VR.int, ⟨VR.int, trivial⟩⟩ rfl (by decide) ?_
 intro v10
 refine RL.bS (t := TR.int) (vs := [.int .i64 (0 : Int), .int .i64 (1 : Int)]) ([(0 : Int), (1 : Int)] : (List Int)) Try.underlying24 Try_lo3 rfl rfl rfl rfl ⟨VR.int, ⟨VR.int, trivial⟩⟩ rfl (by decide) ?_
 intro v11
 refine RL.reL (L' := [imm (TR.sl TR.int) v7 ([(3 : Int), (0 : Int)] : (List Int)), imm (TR.sl TR.int) v8 ([(5 : Int), (1 : Int)] : (List Int)), own 24 (TR.sl TR.int) v9 ([([(3 : Int), (0 : Int)] : (List Int)), ([(5 : Int), (1 : Int)] : (List Int))] : (List (List Int))), own 3 TR.int v10 ([(3 : Int), (5 : Int)] : (List Int)), own 3 TR.int v11 ([(0 : Int), (1 : Int)] : (List Int))]) rfl ?_
 refine RL.weak (fun a w st => st.freeze 3 rfl) ?_
 refine RL.weak (fun a w st => st.freeze 4 rfl) ?_
 refine RL.bS (t := (TR.sl TR.int)) (vs := [v10, v11]) ([([(3 : Int), (5 : Int)] : (List Int)), ([(0 : Int), (1 : Int)] : (List Int))] : (List (List Int))) Try.underlying37 Try_lo24 rfl rfl rfl rfl ⟨(VR.item 3 rfl), ⟨(VR.item 4 rfl), trivial⟩⟩ rfl (by decide) ?_
 intro v12
 refine RL.reL (L' := [imm (TR.sl TR.int) v7 ([(3 : Int), (0 : Int)] : (List Int)), imm (TR.sl TR.int) v8 ([(5 : Int), (1 : Int)] : (List Int)), own 24 (TR.sl TR.int) v9 ([([(3 : Int), (0 : Int)] : (List Int)), ([(5 : Int), (1 : Int)] : (List Int))] : (List (List Int))), imm (TR.sl TR.int) v10 ([(3 : Int), (5 : Int)] : (List Int)), imm (TR.sl TR.int) v11 ([(0 : Int), (1 : Int)] : (List Int)), own 24 (TR.sl TR.int) v12 ([([(3 : Int), (5 : Int)] : (List Int)), ([(0 : Int), (1 : Int)] : (List Int))] : (List (List Int)))]) rfl ?_
 refine RL.asg rfl rfl rfl ?_
 refine RL.asg rfl rfl rfl ?_
 refine RL.finG ?_
 refine GL.seq ?_
 refine GL.region ?_
 refine RL.mv rfl rfl rfl ?_
 refine RL.mv rfl rfl rfl ?_
 obtain ⟨y16, e17, hm⟩ := bind_some hm
 refine RL.callU (vs := [v9, v12]) (LR := fun (o : Value) => [own 56 (TR.arr 2 TR.int) o y16.1]) (fun o => ⟨Loc.own (TR.flatT_arr TR.flatT_ik), trivial⟩) Try_fit28 rfl rfl rfl rfl rfl (fun U w hU hW hL => equil_Rest_c U w hU _ _ (hL 2 _ _ rfl Seen.own) _ _ (hL 5 _ _ rfl Seen.own) _ e17) ?_
 intro v18
 refine RL.mv rfl rfl rfl ?_
 refine RL.ext rfl rfl rfl rfl ?_
 refine RL.ext rfl rfl rfl rfl ?_
 refine RL.asg rfl rfl rfl ?_
 refine RL.asg rfl rfl rfl ?_
 refine RL.finG ?_
 refine GL.seq ?_
 refine GL.region ?_
 refine RL.mv rfl rfl rfl ?_
 refine RL.mv rfl rfl rfl ?_
 obtain ⟨y23, e24, hm⟩ := bind_some hm
 refine RL.callU (vs := [v9, v12]) (LR := fun (o : Value × Value) => [own 3 TR.int o.1 y23.1, own 3 TR.int o.2 y23.2.1]) (fun o => ⟨Loc.own TR.flatT_ik, ⟨Loc.own TR.flatT_ik, trivial⟩⟩) Try_fit35 rfl rfl rfl rfl rfl (fun U w hU hW hL => equil_Left_c U w hU _ _ (hL 2 _ _ rfl Seen.own) _ _ (hL 5 _ _ rfl Seen.own) _ e24) ?_
 intro ⟨v25, v26⟩
 refine RL.mv rfl rfl rfl ?_
 refine RL.ext rfl rfl rfl rfl ?_
 refine RL.ext rfl rfl rfl rfl ?_
 refine RL.ext rfl rfl rfl rfl ?_
 refine RL.asg rfl rfl rfl ?_
 refine RL.asg rfl rfl rfl ?_
 refine RL.asg rfl rfl rfl ?_
 refine RL.finG ?_
 refine GL.seq ?_
 obtain ⟨y60, K61, h62, h63, h64, h65, h66⟩ := bindR_K hm
 refine GL.join (ι := Bool) (fun (p : Bool) => [(0, .bool p)]) (fun (p : Bool) => []) (fun (p : Bool) => K61 (.nx p)) ?_ ?_
 ·skip
  refine GL.region ?_
  refine RL.mv rfl rfl rfl ?_
  refine RL.mv rfl rfl rfl ?_
  refine RL.bS (t := TR.int) (vs := [.int .i64 y16.2, .int .i64 y23.2.2]) ([y16.2, y23.2.2] : (List Int)) Try.underlying101 Try_lo25 rfl rfl rfl rfl ⟨VR.int, ⟨VR.int, trivial⟩⟩ rfl (by decide) ?_
  intro v67
  obtain ⟨y68, e69, h62⟩ := bind_some h62
  refine RL.callV (v := .bool y68) (vs := [v67]) Try_fit20 rfl (Or.inl rfl) rfl rfl rfl rfl (fun U w hU hW hL => pk_good_c U w hU _ _ (hL 9 _ _ rfl Seen.own) _ e69) ?_
  refine RL.mv rfl rfl rfl ?_
  refine RL.split (t := 31) rfl (fun b70 => ?_) (fun b70 => ?_)
  ·replace h62 := ite_t b70 h62
   refine RL.mv rfl rfl rfl ?_
   refine RL.bldA (t := (TR.arr 2 TR.int)) (d0 := ([(1 : Int), (1 : Int)] : (List Int))) (pv := [(0, .int .i64 (1 : Int)), (1, .int .i64 (1 : Int))]) rfl Try_bld56 (by decide) rfl rfl rfl ⟨⟨_, _, TR.int, (1 : Int), rfl, rfl, VR.int⟩, ⟨⟨_, _, TR.int, (1 : Int), rfl, rfl, VR.int⟩, trivial⟩⟩ (fun S f hi => by
     obtain ⟨c0, e0, r0⟩ := cells_vrep (t := TR.int) (u := .int .i64 (1 : Int)) (e := (1 : Int)) (VR.int S f hi)
     obtain ⟨c1, e1, r1⟩ := cells_vrep (t := TR.int) (u := .int .i64 (1 : Int)) (e := (1 : Int)) (VR.int S f hi)
     show TR.rep (TR.arr 2 TR.int) S (List.flatten [(.int .i64 (1 : Int) : Value).cells.toList, (.int .i64 (1 : Int) : Value).cells.toList]) _
     simp only [e0, e1,  List.flatten_cons, List.flatten_nil, List.append_nil]
     exact ⟨rfl, ⟨_, _, rfl, r0, ⟨_, [], (List.append_nil _).symm, r0, rfl⟩⟩⟩) ?_
   intro v71
   refine RL.reL (L' := [imm (TR.sl TR.int) v7 ([(3 : Int), (0 : Int)] : (List Int)), imm (TR.sl TR.int) v8 ([(5 : Int), (1 : Int)] : (List Int)), own 24 (TR.sl TR.int) v9 ([([(3 : Int), (0 : Int)] : (List Int)), ([(5 : Int), (1 : Int)] : (List Int))] : (List (List Int))), imm (TR.sl TR.int) v10 ([(3 : Int), (5 : Int)] : (List Int)), imm (TR.sl TR.int) v11 ([(0 : Int), (1 : Int)] : (List Int)), own 24 (TR.sl TR.int) v12 ([([(3 : Int), (5 : Int)] : (List Int)), ([(0 : Int), (1 : Int)] : (List Int))] : (List (List Int))), own 56 (TR.arr 2 TR.int) v18 y16.1, own 3 TR.int v25 y23.1, own 3 TR.int v26 y23.2.1, own 25 TR.int v67 ([y16.2, y23.2.2] : (List Int)), imm (TR.arr 2 TR.int) v71 ([(1 : Int), (1 : Int)] : (List Int))]) rfl ?_
   refine RL.bS (t := (TR.arr 2 TR.int)) (vs := [v71]) ([([(1 : Int), (1 : Int)] : (List Int))] : (List (List Int))) Try.underlying51 Try_lo56 rfl rfl rfl rfl ⟨(VR.item 10 rfl), trivial⟩ rfl (by decide) ?_
   intro v72
   obtain ⟨y73, e74, h62⟩ := bind_some h62
   refine RL.callV (v := .bool y73) (vs := [v18, v72]) Try_fit30 rfl (Or.inl rfl) rfl rfl rfl rfl (fun U w hU hW hL => slices_Equal_pairs_c U w hU _ _ (hL 6 _ _ rfl Seen.own) _ _ (hL 11 _ _ rfl Seen.own) _ e74) ?_
   refine RL.pickT rfl rfl rfl rfl ?_
   refine RL.mv rfl rfl rfl ?_
   refine RL.split (t := 37) rfl (fun b75 => ?_) (fun b75 => ?_)
   ·replace h62 := ite_t b75 h62
    refine RL.mv rfl rfl rfl ?_
    refine RL.bS (t := TR.int) (vs := [.int .i64 (1 : Int)]) ([(1 : Int)] : (List Int)) Try.underlying24 Try_lo3 rfl rfl rfl rfl ⟨VR.int, trivial⟩ rfl (by decide) ?_
    intro v76
    refine RL.reL (L' := [imm (TR.sl TR.int) v7 ([(3 : Int), (0 : Int)] : (List Int)), imm (TR.sl TR.int) v8 ([(5 : Int), (1 : Int)] : (List Int)), own 24 (TR.sl TR.int) v9 ([([(3 : Int), (0 : Int)] : (List Int)), ([(5 : Int), (1 : Int)] : (List Int))] : (List (List Int))), imm (TR.sl TR.int) v10 ([(3 : Int), (5 : Int)] : (List Int)), imm (TR.sl TR.int) v11 ([(0 : Int), (1 : Int)] : (List Int)), own 24 (TR.sl TR.int) v12 ([([(3 : Int), (5 : Int)] : (List Int)), ([(0 : Int), (1 : Int)] : (List Int))] : (List (List Int))), own 56 (TR.arr 2 TR.int) v18 y16.1, own 3 TR.int v25 y23.1, own 3 TR.int v26 y23.2.1, own 25 TR.int v67 ([y16.2, y23.2.2] : (List Int)), imm (TR.arr 2 TR.int) v71 ([(1 : Int), (1 : Int)] : (List Int)), own 56 (TR.arr 2 TR.int) v72 ([([(1 : Int), (1 : Int)] : (List Int))] : (List (List Int))), own 3 TR.int v76 ([(1 : Int)] : (List Int))]) rfl ?_
    obtain ⟨y77, e78, h62⟩ := bind_some h62
    refine RL.callV (v := .bool y77) (vs := [v25, v76]) Try_fit22 rfl (Or.inl rfl) rfl rfl rfl rfl (fun U w hU hW hL => slices_Equal_int_int_c U w hU _ _ (hL 7 _ _ rfl Seen.own) _ _ (hL 12 _ _ rfl Seen.own) _ e78) ?_
    refine RL.pickT rfl rfl rfl rfl ?_
    refine RL.mv rfl rfl rfl ?_
    refine RL.split (t := 42) rfl (fun b79 => ?_) (fun b79 => ?_)
    ·replace h62 := ite_t b79 h62
     refine RL.mv rfl rfl rfl ?_
     refine RL.bS (t := TR.int) (vs := [.int .i64 (1 : Int)]) ([(1 : Int)] : (List Int)) Try.underlying24 Try_lo3 rfl rfl rfl rfl ⟨VR.int, trivial⟩ rfl (by decide) ?_
     intro v80
     obtain ⟨y81, e82, h62⟩ := bind_some h62
     refine RL.callV (v := .bool y81) (vs := [v26, v80]) Try_fit22 rfl (Or.inl rfl) rfl rfl rfl rfl (fun U w hU hW hL => slices_Equal_int_int_c U w hU _ _ (hL 8 _ _ rfl Seen.own) _ _ (hL 13 _ _ rfl Seen.own) _ e82) ?_
     refine RL.pickT rfl rfl rfl rfl ?_
     refine RL.asg rfl rfl rfl ?_
     refine RL.fin ?_
     cases h62
     exact fun a w st => mid_intro y81 h63 (St.cut [] ⟨rfl, trivial⟩ (by decide) rfl st)
    replace h62 := ite_f b79 h62
    refine RL.skip rfl rfl ?_
    refine RL.skip rfl rfl ?_
    refine RL.skip rfl rfl ?_
    refine RL.pickF rfl rfl rfl rfl ?_
    refine RL.asg rfl rfl rfl ?_
    refine RL.fin ?_
    cases h62
    exact fun a w st => mid_intro false h63 (St.cut [] ⟨rfl, trivial⟩ (by decide) rfl st)
   replace h62 := ite_f b75 h62
   refine RL.skip rfl rfl ?_
   refine RL.skip rfl rfl ?_
   refine RL.skip rfl rfl ?_
   refine RL.pickF rfl rfl rfl rfl ?_
   refine RL.mv rfl rfl rfl ?_
   refine RL.skip rfl rfl ?_
   refine RL.skip rfl rfl ?_
   refine RL.skip rfl rfl ?_
   refine RL.pickF rfl rfl rfl rfl ?_
   refine RL.asg rfl rfl rfl ?_
   refine RL.fin ?_
   cases h62
   exact fun a w st => mid_intro false h63 (St.cut [] ⟨rfl, trivial⟩ (by decide) rfl st)
  replace h62 := ite_f b70 h62
  refine RL.skip rfl rfl ?_
  refine RL.skip rfl rfl ?_
  refine RL.skip rfl rfl ?_
  refine RL.skip rfl rfl ?_
  refine RL.pickF rfl rfl rfl rfl ?_
  refine RL.mv rfl rfl rfl ?_
  refine RL.skip rfl rfl ?_
  refine RL.skip rfl rfl ?_
  refine RL.skip rfl rfl ?_
  refine RL.pickF rfl rfl rfl rfl ?_
  refine RL.mv rfl rfl rfl ?_
  refine RL.skip rfl rfl ?_
  refine RL.skip rfl rfl ?_
  refine RL.skip rfl rfl ?_
  refine RL.pickF rfl rfl rfl rfl ?_
  refine RL.asg rfl rfl rfl ?_
  refine RL.fin ?_
  cases h62
  exact fun a w st => mid_intro false h63 (St.cut [] ⟨rfl, trivial⟩ (by decide) rfl st)
 rintro x59 h83
 have h84 := h64 _ h83
 try dsimp only at h84
 refine GL.weak (env' := [(0, .bool x59)]) (L' := []) (fun _ _ st => st) ?_
 have h84 := Option.some.inj h84
 subst h84
 exact GL.ret (Gx.ret (v := .bool x59) (res1 rfl rfl) (fun a w st => st.toPostV))

set_option maxHeartbeats 4000000 in
theorem pk_copied_c (S : Hp) (w : World) (hS : S.sub w) (v0 : Value) (x0 : (List (List Int))) (k0 : ((TR.sl (TR.sl TR.int))).vrep S v0 x0) (res : (List (List Int))) (hm : pk_copied_m x0 = some res) : Calls Try.prog 33 #[v0] w (Post w S (fun (o : Value) => o) (fun (o : Value) => [own 24 (TR.sl TR.int) o res])) := by
 refine calls_enter 19 Try.func33 Try.ntmps33 rfl S false [(0, v0)] [imm (TR.sl (TR.sl TR.int)) v0 x0] rfl ⟨rfl, trivial⟩ hS ⟨k0, trivial⟩ ?_
 unfold pk_copied_m at hm
 refine GL.seq ?_
 refine GL.region ?_
 refine RL.asg rfl rfl rfl ?_
 refine RL.finG ?_
 refine GL.seq ?_
 refine GL.region ?_
 refine RL.asg rfl rfl rfl ?_
 refine RL.finG ?_
 refine GL.seq ?_
 refine GL.seq ?_
 refine GL.region ?_
 refine RL.mv rfl rfl rfl ?_
 refine RL.lenS 0 Try.underlying37 rfl rfl rfl rfl SlOf.imm ?_
 refine RL.mv rfl rfl rfl ?_
 refine RL.finG ?_
 refine GL.weak (fun a w st => st.nilOwn 24 (TR.sl TR.int)) ?_
 refine GL.open_ 0 rfl (fun S h => len_imm S h) (fun n24 => ?_)
 obtain ⟨y25, K26, h27, h28, h29, h30, h31⟩ := bindR_K hm
 refine GL.join (ι := (List (List Int)) × Value) (fun (p : (List (List Int)) × Value) => [(3, p.2)]) (fun (p : (List (List Int)) × Value) => [own 24 (TR.sl TR.int) p.2 p.1]) (fun (p : (List (List Int)) × Value) => K26 (.nx p.1)) ?_ ?_
 ·refine GL.block ?_
  refine GL.loop (ι := Nat × (List (List Int)) × (List (List Int)) × Value) (fun (p : Nat × (List (List Int)) × (List (List Int)) × Value) => [(3, p.2.2.2), (6, v0), (7, .int .i64 ((x0).length : Int)), (8, .int .i64 (p.1 : Int))]) (fun (p : Nat × (List (List Int)) × (List (List Int)) × Value) => [own 24 (TR.sl TR.int) p.2.2.2 p.2.2.1, imm (TR.sl (TR.sl TR.int)) v0 x0]) (fun (p : Nat × (List (List Int)) × (List (List Int)) × Value) => p.1 + p.2.1.length = (x0).length ∧ List.drop p.1 x0 = p.2.1 ∧ rangeL pk_copied_b1 p.2.1 p.1 p.2.2.1 = some y25) (fun (p : Nat × (List (List Int)) × (List (List Int)) × Value) => p.2.1.length) (0, x0, [], Value.slice none 0 0) ⟨by simp, by simp, h27⟩ (fun a w st => St.cut [1, 0] ⟨rfl, rfl, rfl, rfl, trivial⟩ (by decide) rfl st) ?_
  rintro ⟨i33, r34, l2, v3⟩ ⟨h39, h40, h38⟩
  try dsimp only at h39 h40 h38
  refine GL.weak (env' := [(3, v3), (6, v0), (7, .int .i64 ((x0).length : Int)), (8, .int .i64 (i33 : Int))]) (L' := [own 24 (TR.sl TR.int) v3 l2, imm (TR.sl (TR.sl TR.int)) v0 x0]) (fun _ _ st => st) ?_
  refine GL.seq ?_
  refine GL.region ?_
  refine RL.binI (v := .bool (decide ((i33 : Int) < ((x0).length : Int)))) rfl rfl rfl rfl rfl ?_
  refine RL.finG ?_
  refine GL.seq ?_
  refine GL.cond rfl (fun b41 => ?_) (fun b41 => ?_)
  ·have h42 : i33 < (x0).length := by have := of_decide_eq_true b41; omega
   obtain ⟨y43, r45, hr, e44, h46⟩ := drop_cons h40 rfl h42
   subst hr
   obtain ⟨z35, h36, h37⟩ := rangeL_some h38
   unfold pk_copied_b1 at h36
   try dsimp only at h36
   refine GL.skip ?_
   refine GL.seq ?_
   refine GL.block ?_
   refine GL.seq ?_
   refine GL.region ?_
   refine RL.idxS (sz := 1) 1 Try.underlying37 Try_ln24 rfl rfl rfl rfl rfl SlOf.imm (by omega) (by omega) ?_
   refine RL.ldS (i := i33) (r := (TR.sl TR.int)) (e' := y43) 1 Try_ln24 rfl rfl rfl rfl SlOf.imm e44 Part.self ?_
   intro v48
   refine RL.asg rfl rfl rfl ?_
   refine RL.finG ?_
   refine GL.region ?_
   refine RL.mv rfl rfl rfl ?_
   refine RL.mv rfl rfl rfl ?_
   obtain ⟨y56, e57, h36⟩ := bind_some h36
   refine RL.call (vs := [v48]) Try_fit18 rfl rfl rfl rfl rfl (fun S f w hS hW hi => slices_Clone_int_int_c S w hS _ _ (hi 2 _ rfl) _ e57) ?_
   intro v58
   refine RL.reL (L' := [own 24 (TR.sl TR.int) v3 l2, imm (TR.sl (TR.sl TR.int)) v0 x0, imm (TR.sl TR.int) v48 y43, own 3 TR.int v58 y56]) rfl ?_
   refine RL.weak (fun a w st => st.freeze 3 rfl) ?_
   refine RL.bS (t := (TR.sl TR.int)) (vs := [v58]) ([y56] : (List (List Int))) Try.underlying37 Try_lo24 rfl rfl rfl rfl ⟨(VR.item 3 rfl), trivial⟩ rfl (by decide) ?_
   intro v59
   refine RL.reL (L' := [own 24 (TR.sl TR.int) v3 l2, imm (TR.sl (TR.sl TR.int)) v0 x0, imm (TR.sl TR.int) v48 y43, imm (TR.sl TR.int) v58 y56, own 24 (TR.sl TR.int) v59 ([y56] : (List (List Int)))]) rfl ?_
   obtain ⟨y60, e61, h36⟩ := bind_some h36
   replace e61 := chk_some e61
   refine RL.appB 0 4 Try.underlying37 Try_lo24 rfl rfl rfl rfl rfl rfl rfl SlOf.own (RoomN.of (N := 5864062014805) Try_info24 (by decide) (by decide)) e61 ?_
   intro v62
   refine RL.asg rfl rfl rfl ?_
   refine RL.finG ?_
   refine GL.nilB ?_
   refine GL.region ?_
   refine RL.binI (v := .int .i64 ((i33 + 1 : Nat) : Int)) rfl rfl rfl rfl (binI_succ i33 (by omega)) ?_
   refine RL.mv rfl rfl rfl ?_
   refine RL.fin ?_
   cases h36
   exact fun a w st => lop_intro (i33 + 1, r45, (l2 ++ ([y56] : (List (List Int)))), v62) ⟨by show i33 + 1 + r45.length = (x0).length; simp only [List.length_cons] at h39; omega, h46, h37⟩ (by simp) (St.cut [0, 1] ⟨rfl, rfl, rfl, rfl, trivial⟩ (by decide) rfl st)
  have h42 : ¬ i33 < (x0).length := by have := of_decide_eq_false b41; omega
  obtain rfl : r34 = [] := by rw [← h40]; exact List.drop_of_length_le (by omega)
  replace h38 : some (Fl.nx _) = some y25 := h38
  cases h38
  exact GL.exit (fun a w st => mid_intro (l2, v3) h28 (St.cut [0] ⟨rfl, trivial⟩ (by decide) rfl st))
 rintro ⟨l2, v3⟩ h63
 have h64 := h29 _ h63
 try dsimp only at h64
 refine GL.weak (env' := [(3, v3)]) (L' := [own 24 (TR.sl TR.int) v3 l2]) (fun _ _ st => st) ?_
 refine GL.seq ?_
 refine GL.region ?_
 refine RL.mv rfl rfl rfl ?_
 refine RL.asg rfl rfl rfl ?_
 refine RL.finG ?_
 have h64 := Option.some.inj h64
 subst h64
 exact GL.ret (Gx.ret (v := v3) (res1 rfl rfl) (fun a w st => (st.pick [0] (by decide) rfl).toPost v3))

set_option maxHeartbeats 4000000 in
theorem saddle_Turned_c (S : Hp) (w : World) (hS : S.sub w) (v0 : Value) (x0 : (List (List Int))) (k0 : ((TR.sl (TR.sl TR.int))).vrep S v0 x0) (res : (List (List Int)) × Int) (hm : saddle_Turned_m x0 = some res) : Calls Try.prog 34 #[v0] w (Post w S (fun (o : Value × (List Value)) => .tuple #[o.1, .int .i64 res.2]) (fun (o : Value × (List Value)) => [own2 24 3 TR.int o.1 o.2 res.1])) := by
 refine calls_enter 47 Try.func34 Try.ntmps34 rfl S false [(0, v0)] [imm (TR.sl (TR.sl TR.int)) v0 x0] rfl ⟨rfl, trivial⟩ hS ⟨k0, trivial⟩ ?_
 unfold saddle_Turned_m at hm
 refine GL.seq ?_
 refine GL.region ?_
 refine RL.asg rfl rfl rfl ?_
 refine RL.asg rfl rfl rfl ?_
 refine RL.finG ?_
 refine GL.seq ?_
 refine GL.seq ?_
 refine GL.region ?_
 refine RL.mv rfl rfl rfl ?_
 obtain ⟨y4, e5, hm⟩ := bind_some hm
 refine RL.callC (v := .int .i64 y4) (vs := [v0]) Try_fit88 rfl rfl rfl rfl (fun U w hU hW hL => saddle_Check_c U w hU _ _ (hL 0 _ _ rfl Seen.imm) _ e5) ?_
 refine RL.asg rfl rfl rfl ?_
 refine RL.finG ?_
 refine GL.seq ?_
 refine GL.region ?_
 refine RL.mv rfl rfl rfl ?_
 refine RL.binI (v := .bool (y4 != (0 : Int))) rfl rfl rfl rfl rfl ?_
 refine RL.finG ?_
 refine GL.cond rfl (fun b6 => ?_) (fun b6 => ?_)
 ·replace hm := ite_t b6 hm
  refine GL.seq ?_
  refine GL.region ?_
  refine RL.mv rfl rfl rfl ?_
  refine RL.asg rfl rfl rfl ?_
  refine RL.asg rfl rfl rfl ?_
  refine RL.finG ?_
  refine GL.weak (fun a w st => st.nilOwn 24 TR.raw) ?_
  refine GL.weak (fun a w st => St.toRows (m := 0) 3 TR.int 1 rfl st) ?_
  have hm := Option.some.inj hm
  subst hm
  exact GL.ret (Gx.ret (v := .tuple #[Value.slice none 0 0, .int .i64 y4]) (res2 rfl rfl rfl) (fun a w st => (st.pick [1] (by decide) rfl).toPost (Value.slice none 0 0, ([] : List Value))))
 replace hm := ite_f b6 hm
 refine GL.skip ?_
 refine GL.seq ?_
 refine GL.region ?_
 refine RL.mv rfl rfl rfl ?_
 obtain ⟨y13, e14, hm⟩ := bind_some hm
 refine RL.idxS (sz := 1) 0 Try.underlying37 Try_ln24 rfl rfl rfl rfl rfl SlOf.imm (idx_some e14).1 (idx_some e14).2.1 ?_
 refine RL.ldS (i := ((0 : Int)).toNat) (r := (TR.sl TR.int)) (e' := y13) 0 Try_ln24 rfl rfl rfl rfl SlOf.imm (idx_some e14).2.2 Part.self ?_
 intro v15
 refine RL.lenS 1 Try.underlying24 rfl rfl rfl rfl SlOf.imm ?_
 obtain ⟨y16, e17, hm⟩ := bind_some hm
 replace e17 := chk_some e17
 refine RL.mkS (t := TR.raw) (z := .slice none 0 0) Try.underlying37 Try_lo24 (fun S => ⟨rfl, rfl⟩) rfl rfl rfl rfl e17.1 e17.2 ?_
 intro v18
 refine RL.weak (fun a w st => st.toRows 3 TR.int 2 rfl) ?_
 refine RL.reL (L' := [imm (TR.sl (TR.sl TR.int)) v0 x0, imm (TR.sl TR.int) v15 y13, own2 24 3 TR.int v18 (List.replicate (((y13).length : Int)).toNat (Value.slice none 0 0)) (List.replicate (((y13).length : Int)).toNat ([] : (List Int)))]) rfl ?_
 refine RL.asg rfl rfl rfl ?_
 refine RL.finG ?_
 refine GL.seq ?_
 refine GL.seq ?_
 refine GL.region ?_
 refine RL.mv rfl rfl rfl ?_
 refine RL.lenR 2 Try.underlying37 rfl rfl rfl rfl ?_
 refine RL.mv rfl rfl rfl ?_
 refine RL.finG ?_
 refine GL.lenR 2 rfl (fun n329 => ?_)
 obtain ⟨y330, K331, h332, h333, h334, h335, h336⟩ := bindR_K hm
 refine GL.join (ι := (List (List Int)) × (List Value)) (fun (p : (List (List Int)) × (List Value)) => [(5, v18)]) (fun (p : (List (List Int)) × (List Value)) => [own2 24 3 TR.int v18 p.2 p.1]) (fun (p : (List (List Int)) × (List Value)) => K331 (.nx p.1)) ?_ ?_
 ·refine GL.block ?_
  refine GL.loop (ι := Nat × Nat × (List (List Int)) × (List Value)) (fun (p : Nat × Nat × (List (List Int)) × (List Value)) => [(0, v0), (5, v18), (20, .int .i64 (((List.replicate (((y13).length : Int)).toNat ([] : (List Int)))).length : Int)), (21, .int .i64 (p.1 : Int))]) (fun (p : Nat × Nat × (List (List Int)) × (List Value)) => [imm (TR.sl (TR.sl TR.int)) v0 x0, own2 24 3 TR.int v18 p.2.2.2 p.2.2.1]) (fun (p : Nat × Nat × (List (List Int)) × (List Value)) => p.1 + p.2.1 = ((List.replicate (((y13).length : Int)).toNat ([] : (List Int)))).length ∧ rangeN (saddle_Turned_b1 x0) p.2.1 p.1 p.2.2.1 = some y330) (fun (p : Nat × Nat × (List (List Int)) × (List Value)) => p.2.1) (0, ((List.replicate (((y13).length : Int)).toNat ([] : (List Int)))).length, (List.replicate (((y13).length : Int)).toNat ([] : (List Int))), (List.replicate (((y13).length : Int)).toNat (Value.slice none 0 0))) ⟨by simp, h332⟩ (fun a w st => St.cut [0, 2] ⟨rfl, rfl, rfl, rfl, trivial⟩ (by decide) rfl st) ?_
  rintro ⟨i337, r338, l173, V174⟩ ⟨h343, h342⟩
  try dsimp only at h343 h342
  refine GL.weak (env' := [(0, v0), (5, v18), (20, .int .i64 (((List.replicate (((y13).length : Int)).toNat ([] : (List Int)))).length : Int)), (21, .int .i64 (i337 : Int))]) (L' := [imm (TR.sl (TR.sl TR.int)) v0 x0, own2 24 3 TR.int v18 V174 l173]) (fun _ _ st => st) ?_
  refine GL.seq ?_
  refine GL.region ?_
  refine RL.binI (v := .bool (decide ((i337 : Int) < (((List.replicate (((y13).length : Int)).toNat ([] : (List Int)))).length : Int)))) rfl rfl rfl rfl rfl ?_
  refine RL.finG ?_
  refine GL.seq ?_
  refine GL.cond rfl (fun b345 => ?_) (fun b345 => ?_)
  ·have h346 : i337 < ((List.replicate (((y13).length : Int)).toNat ([] : (List Int)))).length := by have := of_decide_eq_true b345; omega
   obtain ⟨r347, hr⟩ : ∃ m, r338 = m + 1 := ⟨r338 - 1, by omega⟩
   subst hr
   obtain ⟨z339, h340, h341⟩ := rangeN_some h342
   unfold saddle_Turned_b1 at h340
   try dsimp only at h340
   refine GL.skip ?_
   refine GL.seq ?_
   refine GL.block ?_
   refine GL.seq ?_
   refine GL.region ?_
   refine RL.mv rfl rfl rfl ?_
   refine RL.asg rfl rfl rfl ?_
   refine RL.finG ?_
   refine GL.seq ?_
   refine GL.region ?_
   refine RL.mv rfl rfl rfl ?_
   refine RL.lenS 0 Try.underlying37 rfl rfl rfl rfl SlOf.imm ?_
   refine RL.mv rfl rfl rfl ?_
   refine RL.finG ?_
   refine GL.open_ 0 rfl (fun S h => len_imm S h) (fun n438 => ?_)
   obtain ⟨y439, K440, h441, h442, h443, h444, h445⟩ := bindF_K h340
   refine GL.join (ι := (List (List Int)) × (List Value)) (fun (p : (List (List Int)) × (List Value)) => [(0, v0), (5, v18), (20, .int .i64 (((List.replicate (((y13).length : Int)).toNat ([] : (List Int)))).length : Int)), (21, .int .i64 (i337 : Int))]) (fun (p : (List (List Int)) × (List Value)) => [imm (TR.sl (TR.sl TR.int)) v0 x0, own2 24 3 TR.int v18 p.2 p.1]) (fun (p : (List (List Int)) × (List Value)) => K440 (.nx p.1)) ?_ ?_
   ·refine GL.block ?_
    refine GL.loop (ι := Nat × (List (List Int)) × (List (List Int)) × (List Value)) (fun (p : Nat × (List (List Int)) × (List (List Int)) × (List Value)) => [(0, v0), (5, v18), (6, .int .i64 (i337 : Int)), (20, .int .i64 (((List.replicate (((y13).length : Int)).toNat ([] : (List Int)))).length : Int)), (21, .int .i64 (i337 : Int)), (24, v0), (25, .int .i64 ((x0).length : Int)), (26, .int .i64 (p.1 : Int))]) (fun (p : Nat × (List (List Int)) × (List (List Int)) × (List Value)) => [imm (TR.sl (TR.sl TR.int)) v0 x0, own2 24 3 TR.int v18 p.2.2.2 p.2.2.1]) (fun (p : Nat × (List (List Int)) × (List (List Int)) × (List Value)) => p.1 + p.2.1.length = (x0).length ∧ List.drop p.1 x0 = p.2.1 ∧ rangeL (saddle_Turned_b2 i337) p.2.1 p.1 p.2.2.1 = some y439) (fun (p : Nat × (List (List Int)) × (List (List Int)) × (List Value)) => p.2.1.length) (0, x0, l173, V174) ⟨by simp, by simp, h441⟩ (fun a w st => St.cut [0, 1] ⟨rfl, rfl, rfl, rfl, rfl, rfl, rfl, rfl, trivial⟩ (by decide) rfl st) ?_
    rintro ⟨i446, r447, l392, V393⟩ ⟨h452, h453, h451⟩
    try dsimp only at h452 h453 h451
    refine GL.weak (env' := [(0, v0), (5, v18), (6, .int .i64 (i337 : Int)), (20, .int .i64 (((List.replicate (((y13).length : Int)).toNat ([] : (List Int)))).length : Int)), (21, .int .i64 (i337 : Int)), (24, v0), (25, .int .i64 ((x0).length : Int)), (26, .int .i64 (i446 : Int))]) (L' := [imm (TR.sl (TR.sl TR.int)) v0 x0, own2 24 3 TR.int v18 V393 l392]) (fun _ _ st => st) ?_
    refine GL.seq ?_
    refine GL.region ?_
    refine RL.binI (v := .bool (decide ((i446 : Int) < ((x0).length : Int)))) rfl rfl rfl rfl rfl ?_
    refine RL.finG ?_
    refine GL.seq ?_
    refine GL.cond rfl (fun b454 => ?_) (fun b454 => ?_)
    ·have h455 : i446 < (x0).length := by have := of_decide_eq_true b454; omega
     obtain ⟨y456, r458, hr, e457, h459⟩ := drop_cons h453 rfl h455
     subst hr
     obtain ⟨z448, h449, h450⟩ := rangeL_some h451
     unfold saddle_Turned_b2 at h449
     try dsimp only at h449
     refine GL.skip ?_
     refine GL.seq ?_
     refine GL.block ?_
     refine GL.seq ?_
     refine GL.region ?_
     refine RL.idxS (sz := 1) 0 Try.underlying37 Try_ln24 rfl rfl rfl rfl rfl SlOf.imm (by omega) (by omega) ?_
     refine RL.ldS (i := i446) (r := (TR.sl TR.int)) (e' := y456) 0 Try_ln24 rfl rfl rfl rfl SlOf.imm e457 Part.self ?_
     intro v461
     refine RL.asg rfl rfl rfl ?_
     refine RL.finG ?_
     refine GL.regionA rfl rfl ?_
     refine RA.mv 0 rfl (by kernel_rfl) rfl rfl rfl ?_
     refine RA.mv 1 rfl (by kernel_rfl) rfl rfl rfl ?_
     refine RA.mv 2 rfl (by kernel_rfl) rfl rfl rfl ?_
     refine RA.mv 3 rfl (by kernel_rfl) rfl rfl rfl ?_
     obtain ⟨y481, e482, h449⟩ := bind_some h449
     refine RA.idxR 1 Try.underlying37 Try_ln24 4 rfl (by kernel_rfl) rfl rfl rfl rfl rfl (idx_some e482).1 (idx_some e482).2.1 ?_
     refine RA.mv 6 rfl (by kernel_rfl) rfl rfl rfl ?_
     refine RA.mv 7 rfl (by kernel_rfl) rfl rfl rfl ?_
     obtain ⟨y483, e484, h449⟩ := bind_some h449
     refine RA.idxS (sz := 1) 2 Try.underlying24 Try_ln3 8 rfl (by kernel_rfl) rfl rfl rfl rfl rfl SlOf.imm (idx_some e484).1 (idx_some e484).2.1 ?_
     refine RA.meet (ι := Value) (fun (p : Value) => [(0, v0), (5, v18), (6, .int .i64 (i337 : Int)), (20, .int .i64 (((List.replicate (((y13).length : Int)).toNat ([] : (List Int)))).length : Int)), (21, .int .i64 (i337 : Int)), (24, v0), (25, .int .i64 ((x0).length : Int)), (26, .int .i64 (i446 : Int)), (30, v18), (31, .int .i64 (i337 : Int)), (35, rowv V393 i337), (41, p)]) (fun (p : Value) => [imm (TR.sl (TR.sl TR.int)) v0 x0, own2 24 3 TR.int v18 V393 l392, own 3 TR.int p ([wsub 0 y483] : (List Int))]) 3 #[true, true, true, true, true, true, true, true, true, true, true, true, false, false, false] (fun h488 => ?_) ?_
     ·skip
      refine RA.meet (ι := Unit) (fun (p : Unit) => [(0, v0), (5, v18), (6, .int .i64 (i337 : Int)), (20, .int .i64 (((List.replicate (((y13).length : Int)).toNat ([] : (List Int)))).length : Int)), (21, .int .i64 (i337 : Int)), (24, v0), (25, .int .i64 ((x0).length : Int)), (26, .int .i64 (i446 : Int)), (30, v18), (31, .int .i64 (i337 : Int)), (35, rowv V393 i337), (40, .int .i64 (wsub 0 y483))]) (fun (p : Unit) => [imm (TR.sl (TR.sl TR.int)) v0 x0, own2 24 3 TR.int v18 V393 l392]) 4 #[true, true, true, true, true, true, true, true, true, true, true, false, false, false, false] (fun h489 => ?_) ?_
      rotate_left
      ·rintro ⟨⟩
       refine RA.weak (env' := [(0, v0), (5, v18), (6, .int .i64 (i337 : Int)), (20, .int .i64 (((List.replicate (((y13).length : Int)).toNat ([] : (List Int)))).length : Int)), (21, .int .i64 (i337 : Int)), (24, v0), (25, .int .i64 ((x0).length : Int)), (26, .int .i64 (i446 : Int)), (30, v18), (31, .int .i64 (i337 : Int)), (35, rowv V393 i337), (40, .int .i64 (wsub 0 y483))]) (L' := [imm (TR.sl (TR.sl TR.int)) v0 x0, own2 24 3 TR.int v18 V393 l392]) (fun _ _ st => st) ?_
       refine RA.seq 11 rfl (by kernel_rfl) ?_
       refine RL.bS (t := TR.int) (vs := [.int .i64 (wsub 0 y483)]) ([wsub 0 y483] : (List Int)) Try.underlying24 Try_lo3 rfl rfl rfl rfl ⟨VR.int, trivial⟩ rfl (by decide) ?_
       intro v494
       refine RL.fin ?_
       refine RA.next ?_
       refine RA.relist 3 #[true, true, true, true, true, true, true, true, true, true, true, true, false, false, false] rfl (by kernel_rfl) ?_
       exact fun a w st => h488 v494 a w (St.cut [0, 1, 2] ⟨rfl, rfl, rfl, rfl, rfl, rfl, rfl, rfl, rfl, rfl, rfl, rfl, trivial⟩ (by decide) rfl st)
      refine RA.meet (ι := Value) (fun (p : Value) => [(0, v0), (5, v18), (6, .int .i64 (i337 : Int)), (20, .int .i64 (((List.replicate (((y13).length : Int)).toNat ([] : (List Int)))).length : Int)), (21, .int .i64 (i337 : Int)), (24, v0), (25, .int .i64 ((x0).length : Int)), (26, .int .i64 (i446 : Int)), (30, v18), (31, .int .i64 (i337 : Int)), (34, adr v18 (i337 * 1)), (41, p)]) (fun (p : Value) => [imm (TR.sl (TR.sl TR.int)) v0 x0, own2 24 3 TR.int v18 V393 l392, own 3 TR.int p ([wsub 0 y483] : (List Int))]) 4 #[true, true, true, true, true, false, true, true, true, true, true, true, false, false, false] (fun h490 => ?_) ?_
      rotate_left
      ·rintro v486
       refine RA.weak (env' := [(0, v0), (5, v18), (6, .int .i64 (i337 : Int)), (20, .int .i64 (((List.replicate (((y13).length : Int)).toNat ([] : (List Int)))).length : Int)), (21, .int .i64 (i337 : Int)), (24, v0), (25, .int .i64 ((x0).length : Int)), (26, .int .i64 (i446 : Int)), (30, v18), (31, .int .i64 (i337 : Int)), (34, adr v18 (i337 * 1)), (41, v486)]) (L' := [imm (TR.sl (TR.sl TR.int)) v0 x0, own2 24 3 TR.int v18 V393 l392, own 3 TR.int v486 ([wsub 0 y483] : (List Int))]) (fun _ _ st => st) ?_
       refine RA.seq 5 rfl (by kernel_rfl) ?_
       refine RL.ldR (i := i337) (r := y481) 1 Try_ln24 rfl rfl rfl rfl (idx_some e482).2.2 ?_
       refine RL.fin ?_
       refine RA.next ?_
       refine RA.relist 3 #[true, true, true, true, true, true, true, true, true, true, true, true, false, false, false] rfl (by kernel_rfl) ?_
       exact fun a w st => h488 v486 a w (St.cut [0, 1, 2] ⟨rfl, rfl, rfl, rfl, rfl, rfl, rfl, rfl, rfl, rfl, rfl, rfl, trivial⟩ (by decide) rfl st)
      refine RA.meet (ι := Unit) (fun (p : Unit) => [(0, v0), (5, v18), (6, .int .i64 (i337 : Int)), (20, .int .i64 (((List.replicate (((y13).length : Int)).toNat ([] : (List Int)))).length : Int)), (21, .int .i64 (i337 : Int)), (24, v0), (25, .int .i64 ((x0).length : Int)), (26, .int .i64 (i446 : Int)), (30, v18), (31, .int .i64 (i337 : Int)), (34, adr v18 (i337 * 1)), (40, .int .i64 (wsub 0 y483))]) (fun (p : Unit) => [imm (TR.sl (TR.sl TR.int)) v0 x0, own2 24 3 TR.int v18 V393 l392]) 5 #[true, true, true, true, true, false, true, true, true, true, true, false, false, false, false] (fun h491 => ?_) ?_
      rotate_left
      ·rintro ⟨⟩
       refine RA.weak (env' := [(0, v0), (5, v18), (6, .int .i64 (i337 : Int)), (20, .int .i64 (((List.replicate (((y13).length : Int)).toNat ([] : (List Int)))).length : Int)), (21, .int .i64 (i337 : Int)), (24, v0), (25, .int .i64 ((x0).length : Int)), (26, .int .i64 (i446 : Int)), (30, v18), (31, .int .i64 (i337 : Int)), (34, adr v18 (i337 * 1)), (40, .int .i64 (wsub 0 y483))]) (L' := [imm (TR.sl (TR.sl TR.int)) v0 x0, own2 24 3 TR.int v18 V393 l392]) (fun _ _ st => st) ?_
       refine RA.many [5, 11] (by kernel_rfl) ⟨⟨_, rfl, ?_⟩, ⟨_, rfl, ?_⟩, trivial⟩
       ·skip
        refine RL.ldR (i := i337) (r := y481) 1 Try_ln24 rfl rfl rfl rfl (idx_some e482).2.2 ?_
        refine RL.fin ?_
        refine RA.next ?_
        refine RA.relist 4 #[true, true, true, true, true, true, true, true, true, true, true, false, false, false, false] rfl (by kernel_rfl) ?_
        exact fun a w st => h489 () a w (St.cut [0, 1] ⟨rfl, rfl, rfl, rfl, rfl, rfl, rfl, rfl, rfl, rfl, rfl, rfl, trivial⟩ (by decide) rfl st)
       refine RL.bS (t := TR.int) (vs := [.int .i64 (wsub 0 y483)]) ([wsub 0 y483] : (List Int)) Try.underlying24 Try_lo3 rfl rfl rfl rfl ⟨VR.int, trivial⟩ rfl (by decide) ?_
       intro v493
       refine RL.fin ?_
       refine RA.next ?_
       refine RA.relist 4 #[true, true, true, true, true, false, true, true, true, true, true, true, false, false, false] rfl (by kernel_rfl) ?_
       exact fun a w st => h490 v493 a w (St.cut [0, 1, 2] ⟨rfl, rfl, rfl, rfl, rfl, rfl, rfl, rfl, rfl, rfl, rfl, rfl, trivial⟩ (by decide) rfl st)
      refine RA.meet (ι := Unit) (fun (p : Unit) => [(0, v0), (5, v18), (6, .int .i64 (i337 : Int)), (20, .int .i64 (((List.replicate (((y13).length : Int)).toNat ([] : (List Int)))).length : Int)), (21, .int .i64 (i337 : Int)), (24, v0), (25, .int .i64 ((x0).length : Int)), (26, .int .i64 (i446 : Int)), (30, v18), (31, .int .i64 (i337 : Int)), (35, rowv V393 i337), (38, adr v461 (i337 * 1))]) (fun (p : Unit) => [imm (TR.sl (TR.sl TR.int)) v0 x0, own2 24 3 TR.int v18 V393 l392, imm (TR.sl TR.int) v461 y456]) 6 #[true, true, true, true, true, true, true, true, true, false, false, false, false, false, false] (fun h492 => ?_) ?_
      rotate_left
      ·rintro ⟨⟩
       refine RA.weak (env' := [(0, v0), (5, v18), (6, .int .i64 (i337 : Int)), (20, .int .i64 (((List.replicate (((y13).length : Int)).toNat ([] : (List Int)))).length : Int)), (21, .int .i64 (i337 : Int)), (24, v0), (25, .int .i64 ((x0).length : Int)), (26, .int .i64 (i446 : Int)), (30, v18), (31, .int .i64 (i337 : Int)), (35, rowv V393 i337), (38, adr v461 (i337 * 1))]) (L' := [imm (TR.sl (TR.sl TR.int)) v0 x0, own2 24 3 TR.int v18 V393 l392, imm (TR.sl TR.int) v461 y456]) (fun _ _ st => st) ?_
       refine RA.seq 9 rfl (by kernel_rfl) ?_
       refine RL.ldSx (i := i337) (e' := y483) 2 Ex.ik Try_ln3 rfl rfl rfl rfl SlOf.imm (idx_some e484).2.2 Part.self ?_
       refine RL.fin ?_
       refine RA.next ?_
       refine RA.negI 10 rfl (by kernel_rfl) rfl rfl rfl ?_
       refine RA.relist 4 #[true, true, true, true, true, true, true, true, true, true, true, false, false, false, false] rfl (by kernel_rfl) ?_
       exact fun a w st => h489 () a w (St.cut [0, 1] ⟨rfl, rfl, rfl, rfl, rfl, rfl, rfl, rfl, rfl, rfl, rfl, rfl, trivial⟩ (by decide) rfl st)
      refine RA.many [5, 9] (by kernel_rfl) ⟨⟨_, rfl, ?_⟩, ⟨_, rfl, ?_⟩, trivial⟩
      ·skip
       refine RL.ldR (i := i337) (r := y481) 1 Try_ln24 rfl rfl rfl rfl (idx_some e482).2.2 ?_
       refine RL.fin ?_
       refine RA.next ?_
       refine RA.relist 6 #[true, true, true, true, true, true, true, true, true, false, false, false, false, false, false] rfl (by kernel_rfl) ?_
       exact fun a w st => h492 () a w (St.cut [0, 1, 2] ⟨rfl, rfl, rfl, rfl, rfl, rfl, rfl, rfl, rfl, rfl, rfl, rfl, trivial⟩ (by decide) rfl st)
      refine RL.ldSx (i := i337) (e' := y483) 2 Ex.ik Try_ln3 rfl rfl rfl rfl SlOf.imm (idx_some e484).2.2 Part.self ?_
      refine RL.fin ?_
      refine RA.next ?_
      refine RA.negI 10 rfl (by kernel_rfl) rfl rfl rfl ?_
      refine RA.relist 5 #[true, true, true, true, true, false, true, true, true, true, true, false, false, false, false] rfl (by kernel_rfl) ?_
      exact fun a w st => h491 () a w (St.cut [0, 1] ⟨rfl, rfl, rfl, rfl, rfl, rfl, rfl, rfl, rfl, rfl, rfl, rfl, trivial⟩ (by decide) rfl st)
     rintro v487
     refine RA.weak (env' := [(0, v0), (5, v18), (6, .int .i64 (i337 : Int)), (20, .int .i64 (((List.replicate (((y13).length : Int)).toNat ([] : (List Int)))).length : Int)), (21, .int .i64 (i337 : Int)), (24, v0), (25, .int .i64 ((x0).length : Int)), (26, .int .i64 (i446 : Int)), (30, v18), (31, .int .i64 (i337 : Int)), (35, rowv V393 i337), (41, v487)]) (L' := [imm (TR.sl (TR.sl TR.int)) v0 x0, own2 24 3 TR.int v18 V393 l392, own 3 TR.int v487 ([wsub 0 y483] : (List Int))]) (fun _ _ st => st) ?_
     refine RA.seq 12 rfl (by kernel_rfl) ?_
     refine RL.weak (fun a w st => st.takeRow 1 rfl (idx_some e482).2.2) ?_
     obtain ⟨y495, e496, h449⟩ := bind_some h449
     replace e496 := chk_some e496
     refine RL.app 3 2 Try.underlying24 Try_lo3 rfl rfl rfl rfl rfl rfl rfl SlOf.own e496 ?_
     intro v497
     refine RL.fin ?_
     refine RA.next ?_
     refine RA.seq 13 rfl (by kernel_rfl) ?_
     obtain ⟨y498, e499, h449⟩ := bind_some h449
     refine RL.idxRX 1 Try.underlying37 Try_ln24 rfl rfl rfl rfl rfl (idx_some e499).1 (idx_some e499).2.1 ?_
     refine RL.fin ?_
     refine RA.next ?_
     refine RA.seq 14 rfl (by kernel_rfl) ?_
     refine RL.stSpX (i := i337) (r0 := y498) 1 3 (by decide) Try_ln24 rfl rfl rfl rfl rfl rfl (idx_some e499).2.2 ?_
     refine RL.fin ?_
     refine RA.next ?_
     refine RA.doneG (by kernel_rfl) ?_
     refine GL.weak (env' := [(0, v0), (5, v18), (6, .int .i64 (i337 : Int)), (20, .int .i64 (((List.replicate (((y13).length : Int)).toNat ([] : (List Int)))).length : Int)), (21, .int .i64 (i337 : Int)), (24, v0), (25, .int .i64 ((x0).length : Int)), (26, .int .i64 (i446 : Int))]) (L' := [imm (TR.sl (TR.sl TR.int)) v0 x0, own2 24 3 TR.int v18 (List.set V393 i337 v497) (List.set l392 i337 (y481 ++ ([wsub 0 y483] : (List Int))))]) (fun a w st => St.cut [0, 1] ⟨rfl, rfl, rfl, rfl, rfl, rfl, rfl, rfl, trivial⟩ (by decide) rfl st) ?_
     refine GL.nilB ?_
     refine GL.region ?_
     refine RL.binI (v := .int .i64 ((i446 + 1 : Nat) : Int)) rfl rfl rfl rfl (binI_succ i446 (by omega)) ?_
     refine RL.mv rfl rfl rfl ?_
     refine RL.fin ?_
     cases h449
     exact fun a w st => lop_intro (i446 + 1, r458, (List.set l392 i337 (y481 ++ ([wsub 0 y483] : (List Int)))), (List.set V393 i337 v497)) ⟨by show i446 + 1 + r458.length = (x0).length; simp only [List.length_cons] at h452; omega, h459, h450⟩ (by simp) (St.cut [0, 1] ⟨rfl, rfl, rfl, rfl, rfl, rfl, rfl, rfl, trivial⟩ (by decide) rfl st)
    have h455 : ¬ i446 < (x0).length := by have := of_decide_eq_false b454; omega
    obtain rfl : r447 = [] := by rw [← h453]; exact List.drop_of_length_le (by omega)
    replace h451 : some (Fl.nx _) = some y439 := h451
    cases h451
    exact GL.exit (fun a w st => mid_intro (l392, V393) h442 (St.cut [0, 1] ⟨rfl, rfl, rfl, rfl, trivial⟩ (by decide) rfl st))
   rintro ⟨l392, V393⟩ h500
   have h501 := h443 _ h500
   try dsimp only at h501
   refine GL.weak (env' := [(0, v0), (5, v18), (20, .int .i64 (((List.replicate (((y13).length : Int)).toNat ([] : (List Int)))).length : Int)), (21, .int .i64 (i337 : Int))]) (L' := [imm (TR.sl (TR.sl TR.int)) v0 x0, own2 24 3 TR.int v18 V393 l392]) (fun _ _ st => st) ?_
   refine GL.nilB ?_
   refine GL.region ?_
   refine RL.binI (v := .int .i64 ((i337 + 1 : Nat) : Int)) rfl rfl rfl rfl (binI_succ i337 (by omega)) ?_
   refine RL.mv rfl rfl rfl ?_
   refine RL.fin ?_
   cases h501
   exact fun a w st => lop_intro (i337 + 1, r347, l392, V393) ⟨by show i337 + 1 + r347 = ((List.replicate (((y13).length : Int)).toNat ([] : (List Int)))).length; omega, h341⟩ (by simp) (St.cut [0, 1] ⟨rfl, rfl, rfl, rfl, trivial⟩ (by decide) rfl st)
  have h346 : ¬ i337 < ((List.replicate (((y13).length : Int)).toNat ([] : (List Int)))).length := by have := of_decide_eq_false b345; omega
  obtain rfl : r338 = 0 := by omega
  replace h342 : some (Fl.nx _) = some y330 := h342
  cases h342
  exact GL.exit (fun a w st => mid_intro (l173, V174) h333 (St.cut [1] ⟨rfl, trivial⟩ (by decide) rfl st))
 rintro ⟨l173, V174⟩ h502
 have h503 := h334 _ h502
 try dsimp only at h503
 refine GL.weak (env' := [(5, v18)]) (L' := [own2 24 3 TR.int v18 V174 l173]) (fun _ _ st => st) ?_
 refine GL.seq ?_
 refine GL.region ?_
 refine RL.mv rfl rfl rfl ?_
 refine RL.asg rfl rfl rfl ?_
 refine RL.asg rfl rfl rfl ?_
 refine RL.finG ?_
 have h503 := Option.some.inj h503
 subst h503
 exact GL.ret (Gx.ret (v := .tuple #[v18, .int .i64 (0 : Int)]) (res2 rfl rfl rfl) (fun a w st => (st.pick [0] (by decide) rfl).toPost (v18, V174)))

set_option maxHeartbeats 4000000 in
theorem pk_spoil_int_c (B : World) (S X : Hp) (f : Nat → Hp) (w : World) (v0 : Value) (x0 : List Int) (hO : HeapOk B.heap.size S f [own 3 TR.int v0 x0, keep X].length w) (hB : Below B.heap.size B w) (hI : Its [own 3 TR.int v0 x0, keep X] S f) (x1 : Int) (res : List Int) (hm : pk_spoil_int_m x0 x1 = some res) : Calls Try.prog 21 #[v0, .int .i64 x1] w (PostM B S (fun (_ : Unit) => .tuple #[]) (fun (_ : Unit) => [own 3 TR.int v0 res, keep X])) := by
  unfold pk_spoil_int_m at hm
  have hm := Option.some.inj hm
  subst hm
  refine calls_enterM 19 Try.func21 Try.ntmps21 rfl B S f [(0, v0), (1, .int .i64 x1)] [own 3 TR.int v0 x0, keep X] [] rfl ⟨rfl, rfl, trivial⟩ hB hO hI trivial ?_
  refine GL.capO 0 rfl (fun hcap hmax hrl hcr => ?_)
  replace hmax : capv v0 ≤ 9223372036854775807 := hmax
  refine GL.weak (fun a w st => st.relenO 0 rfl) ?_
  refine GL.seq ?_
  refine GL.region ?_
  refine RL.mv rfl rfl rfl ?_
  refine RL.mv rfl rfl rfl ?_
  refine RL.capS 0 Try.underlying24 rfl rfl rfl rfl ?_
  refine RL.cutAll 0 Try.underlying24 Try_ln3 rfl rfl rfl rfl rfl ?_
  refine RL.asg rfl rfl rfl ?_
  refine RL.finG ?_
  refine GL.seq ?_
  refine GL.region ?_
  refine RL.mv rfl rfl rfl ?_
  refine RL.lenNx (m := capv v0) 0 Try.underlying24 rfl rfl rfl rfl ?_
  refine RL.mv rfl rfl rfl ?_
  refine RL.finG ?_
  refine GL.join (ι := Unit) (fun _ => []) (fun _ => [own 3 TR.int (relen v0 (capv v0)) (List.replicate (capv v0) x1), keep X]) (fun _ => True) ?_ ?_
  · refine GL.block ?_
    refine GL.loop (ι := Nat) (fun i => [(0, relen v0 (capv v0)), (1, .int .i64 x1), (10, .int .i64 ((capv v0 : Nat) : Int)), (11, .int .i64 ((i : Nat) : Int))]) (fun i => [own 3 TR.int (relen v0 i) (List.replicate i x1), keep X]) (fun i => i ≤ capv v0) (fun i => capv v0 - i) 0 (Nat.zero_le _) (fun a w st => St.cut [0, 1] ⟨rfl, rfl, rfl, rfl, trivial⟩ (by decide) rfl st) ?_
    intro i hG
    refine GL.seq ?_
    refine GL.region ?_
    refine RL.binI (v := .bool (decide ((i : Int) < ((capv v0 : Nat) : Int)))) rfl rfl rfl rfl rfl ?_
    refine RL.finG ?_
    refine GL.seq ?_
    refine GL.cond rfl (fun hb => ?_) (fun hb => ?_)
    · have hi : i < capv v0 := by have := of_decide_eq_true hb; omega
      refine GL.skip ?_
      refine GL.seq ?_
      refine GL.block ?_
      refine GL.seq ?_
      refine GL.region ?_
      refine RL.mv rfl rfl rfl ?_
      refine RL.asg rfl rfl rfl ?_
      refine RL.finG ?_
      refine GL.region ?_
      refine RL.mv rfl rfl rfl ?_
      refine RL.mv rfl rfl rfl ?_
      refine RL.mv rfl rfl rfl ?_
      refine RL.idxNx (sz := 1) 0 Try.underlying24 Try_ln3 rfl rfl rfl rfl rfl hi ?_
      refine RL.stNx (t := TR.int) (e' := x1) 0 Try_ln3 rfl rfl rfl rfl VR.int rfl (by simp) hi ?_
      rw [replicate_snoc]
      refine RL.finG ?_
      refine GL.nilB ?_
      refine GL.region ?_
      refine RL.binI (v := .int .i64 ((i + 1 : Nat) : Int)) rfl rfl rfl rfl (binI_succ i (by omega)) ?_
      refine RL.mv rfl rfl rfl ?_
      refine RL.fin ?_
      exact fun a w st => lop_intro (i + 1) (by show i + 1 ≤ capv v0; omega) (by show capv v0 - (i + 1) < capv v0 - i; omega) (St.cut [0, 1] ⟨rfl, rfl, rfl, rfl, trivial⟩ (by decide) rfl st)
    · have hi : ¬ i < capv v0 := by have := of_decide_eq_false hb; omega
      obtain rfl : i = capv v0 := by omega
      exact GL.exit (fun a w st => mid_intro () trivial (St.cut [0, 1] trivial (by decide) rfl st))
  · intro _ _
    refine GL.weak (fun a w st => st.spoiled (m := x0.length) 0 rfl hcap hrl) ?_
    exact GL.nil (Gx.retN (v := .tuple #[]) (res0 rfl) (fun a w st => (st.pick [0, 1] (by decide) rfl).toPostM (V := fun (_ : Unit) => .tuple #[]) (LR := fun (_ : Unit) => [own 3 TR.int v0 (List.replicate x0.length x1), keep X]) ()))

set_option maxHeartbeats 4000000 in
theorem roads_Costs_c (S : Hp) (w : World) (hS : S.sub w) (v0 : Value) (x0 : (List (List Int))) (k0 : ((TR.sl (TR.rec1 (TR.sl TR.int)))).vrep S v0 x0) (v1 : Value) (x1 : (List Int)) (k1 : ((TR.sl TR.int)).vrep S v1 x1) (res : (List Int) × Int) (hm : roads_Costs_m x0 x1 = some res) : Calls Try.prog 38 #[v0, v1] w (Post w S (fun (o : Value) => .tuple #[o, .int .i64 res.2]) (fun (o : Value) => [own 3 TR.int o res.1])) := by
 refine calls_enter 47 Try.func38 Try.ntmps38 rfl S false [(0, v0), (1, v1)] [imm (TR.sl (TR.rec1 (TR.sl TR.int))) v0 x0, imm (TR.sl TR.int) v1 x1] rfl ⟨rfl, ⟨rfl, trivial⟩⟩ hS ⟨k0, ⟨k1, trivial⟩⟩ ?_
 unfold roads_Costs_m at hm
 refine GL.seq ?_
 refine GL.region ?_
 refine RL.asg rfl rfl rfl ?_
 refine RL.asg rfl rfl rfl ?_
 refine RL.finG ?_
 refine GL.seq ?_
 refine GL.seq ?_
 refine GL.region ?_
 refine RL.mv rfl rfl rfl ?_
 refine RL.mv rfl rfl rfl ?_
 obtain ⟨y5, e6, hm⟩ := bind_some hm
 refine RL.callV (v := .int .i64 y5) (vs := [v0, v1]) Try_fit94 rfl (Or.inl rfl) rfl rfl rfl rfl (fun U w hU hW hL => roads_Check_c U w hU _ _ (hL 0 _ _ rfl Seen.imm) _ _ (hL 1 _ _ rfl Seen.imm) _ e6) ?_
 refine RL.asg rfl rfl rfl ?_
 refine RL.finG ?_
 refine GL.seq ?_
 refine GL.region ?_
 refine RL.mv rfl rfl rfl ?_
 refine RL.binI (v := .bool (y5 != (0 : Int))) rfl rfl rfl rfl rfl ?_
 refine RL.finG ?_
 refine GL.cond rfl (fun b7 => ?_) (fun b7 => ?_)
 ·replace hm := ite_t b7 hm
  refine GL.seq ?_
  refine GL.region ?_
  refine RL.mv rfl rfl rfl ?_
  refine RL.asg rfl rfl rfl ?_
  refine RL.asg rfl rfl rfl ?_
  refine RL.finG ?_
  refine GL.weak (fun a w st => st.nilOwn 3 TR.int) ?_
  have hm := Option.some.inj hm
  subst hm
  exact GL.ret (Gx.ret (v := .tuple #[Value.slice none 0 0, .int .i64 y5]) (res2 rfl rfl rfl) (fun a w st => (st.pick [2] (by decide) rfl).toPost (Value.slice none 0 0)))
 replace hm := ite_f b7 hm
 refine GL.skip ?_
 refine GL.seq ?_
 refine GL.region ?_
 refine RL.mv rfl rfl rfl ?_
 refine RL.mv rfl rfl rfl ?_
 obtain ⟨y11, e12, hm⟩ := bind_some hm
 refine RL.call (vs := [v0, v1]) Try_fit96 rfl rfl rfl rfl rfl (fun S f w hS hW hi => roads_load_c S w hS _ _ (hi 0 _ rfl) _ _ (hi 1 _ rfl) _ e12) ?_
 intro v13
 refine RL.asg rfl rfl rfl ?_
 refine RL.finG ?_
 refine GL.seq ?_
 refine GL.region ?_
 refine RL.mv rfl rfl rfl ?_
 refine RL.lenS 1 Try.underlying24 rfl rfl rfl rfl SlOf.imm ?_
 obtain ⟨y17, e18, hm⟩ := bind_some hm
 replace e18 := chk_some e18
 refine RL.mkS (t := TR.int) (z := (0 : Int)) Try.underlying24 Try_lo3 (fun S => rfl) rfl rfl rfl rfl e18.1 e18.2 ?_
 intro v19
 refine RL.reL (L' := [imm (TR.sl (TR.rec1 (TR.sl TR.int))) v0 x0, imm (TR.sl TR.int) v1 x1, own 3 TR.int v13 y11, own 3 TR.int v19 (List.replicate (((x1).length : Int)).toNat (0 : Int))]) rfl ?_
 refine RL.asg rfl rfl rfl ?_
 refine RL.finG ?_
 refine GL.seq ?_
 refine GL.seq ?_
 refine GL.region ?_
 refine RL.mv rfl rfl rfl ?_
 refine RL.lenS 1 Try.underlying24 rfl rfl rfl rfl SlOf.imm ?_
 refine RL.mv rfl rfl rfl ?_
 refine RL.finG ?_
 refine GL.open_ 1 rfl (fun S h => len_imm S h) (fun n65 => ?_)
 obtain ⟨y66, K67, h68, h69, h70, h71, h72⟩ := bindR_K hm
 refine GL.join (ι := (List Int)) (fun (p : (List Int)) => [(8, v19)]) (fun (p : (List Int)) => [own 3 TR.int v19 p]) (fun (p : (List Int)) => K67 (.nx p)) ?_ ?_
 ·refine GL.block ?_
  refine GL.loop (ι := Nat × (List Int) × (List Int)) (fun (p : Nat × (List Int) × (List Int)) => [(0, v0), (7, v13), (8, v19), (23, v1), (24, .int .i64 ((x1).length : Int)), (25, .int .i64 (p.1 : Int))]) (fun (p : Nat × (List Int) × (List Int)) => [imm (TR.sl (TR.rec1 (TR.sl TR.int))) v0 x0, own 3 TR.int v13 y11, own 3 TR.int v19 p.2.2, imm (TR.sl TR.int) v1 x1]) (fun (p : Nat × (List Int) × (List Int)) => p.1 + p.2.1.length = (x1).length ∧ List.drop p.1 x1 = p.2.1 ∧ rangeL (roads_Costs_b1 x0 y11) p.2.1 p.1 p.2.2 = some y66) (fun (p : Nat × (List Int) × (List Int)) => p.2.1.length) (0, x1, (List.replicate (((x1).length : Int)).toNat (0 : Int))) ⟨by simp, by simp, h68⟩ (fun a w st => St.cut [0, 2, 3, 1] ⟨rfl, rfl, rfl, rfl, rfl, rfl, trivial⟩ (by decide) rfl st) ?_
  rintro ⟨i73, r74, l42⟩ ⟨h79, h80, h78⟩
  try dsimp only at h79 h80 h78
  refine GL.weak (env' := [(0, v0), (7, v13), (8, v19), (23, v1), (24, .int .i64 ((x1).length : Int)), (25, .int .i64 (i73 : Int))]) (L' := [imm (TR.sl (TR.rec1 (TR.sl TR.int))) v0 x0, own 3 TR.int v13 y11, own 3 TR.int v19 l42, imm (TR.sl TR.int) v1 x1]) (fun _ _ st => st) ?_
  refine GL.seq ?_
  refine GL.region ?_
  refine RL.binI (v := .bool (decide ((i73 : Int) < ((x1).length : Int)))) rfl rfl rfl rfl rfl ?_
  refine RL.finG ?_
  refine GL.seq ?_
  refine GL.cond rfl (fun b81 => ?_) (fun b81 => ?_)
  ·have h82 : i73 < (x1).length := by have := of_decide_eq_true b81; omega
   obtain ⟨y83, r85, hr, e84, h86⟩ := drop_cons h80 rfl h82
   subst hr
   obtain ⟨z75, h76, h77⟩ := rangeL_some h78
   unfold roads_Costs_b1 at h76
   try dsimp only at h76
   refine GL.skip ?_
   refine GL.seq ?_
   refine GL.block ?_
   refine GL.seq ?_
   refine GL.region ?_
   refine RL.mv rfl rfl rfl ?_
   refine RL.idxS (sz := 1) 3 Try.underlying24 Try_ln3 rfl rfl rfl rfl rfl SlOf.imm (by omega) (by omega) ?_
   refine RL.ldSx (i := i73) (e' := y83) 3 Ex.ik Try_ln3 rfl rfl rfl rfl SlOf.imm e84 Part.self ?_
   refine RL.asg rfl rfl rfl ?_
   refine RL.asg rfl rfl rfl ?_
   refine RL.finG ?_
   refine GL.regionH 15 rfl rfl (by kernel_rfl) ?_
   simp only [List.take_succ_cons, List.take_zero, List.drop_succ_cons, List.drop_zero]
   refine RL.mv rfl rfl rfl ?_
   refine RL.mv rfl rfl rfl ?_
   refine RL.mv rfl rfl rfl ?_
   refine RL.mv rfl rfl rfl ?_
   obtain ⟨y96, e97, h76⟩ := bind_some h76
   refine RL.idxS (sz := 1) 0 Try.underlying58 Try_ln111 rfl rfl rfl rfl rfl SlOf.imm (idx_some e97).1 (idx_some e97).2.1 ?_
   refine RL.fadrS (off := ((y83).toNat * 1)) (fo := 0) 0 Try_fld111_0 rfl rfl rfl SlOf.imm (by have := (List.getElem?_eq_some_iff.1 (idx_some e97).2.2).1; (try dsimp only at this ⊢); omega) rfl ?_
   refine RL.ldS (i := (y83).toNat) (r := (TR.sl TR.int)) (e' := y96) 0 Try_ln24 rfl rfl rfl rfl SlOf.imm (idx_some e97).2.2 (Part.rec1 Part.self) ?_
   intro v98
   refine RL.mv rfl rfl rfl ?_
   refine RL.mv rfl rfl rfl ?_
   obtain ⟨y99, e100, h76⟩ := bind_some h76
   refine RL.idxS (sz := 1) 1 Try.underlying24 Try_ln3 rfl rfl rfl rfl rfl SlOf.own (idx_some e100).1 (idx_some e100).2.1 ?_
   refine RL.ldSx (i := (y83).toNat) (e' := y99) 1 Ex.ik Try_ln3 rfl rfl rfl rfl SlOf.own (idx_some e100).2.2 Part.self ?_
   refine RL.binI (v := .int .i64 (wsub y99 (1 : Int))) rfl rfl rfl rfl rfl ?_
   obtain ⟨y101, e102, h76⟩ := bind_some h76
   refine RL.idxS (sz := 1) 4 Try.underlying24 Try_ln3 rfl rfl rfl rfl rfl SlOf.imm (idx_some e102).1 (idx_some e102).2.1 ?_
   refine RL.ldSx (i := (wsub y99 (1 : Int)).toNat) (e' := y101) 4 Ex.ik Try_ln3 rfl rfl rfl rfl SlOf.imm (idx_some e102).2.2 Part.self ?_
   obtain ⟨y103, e104, h76⟩ := bind_some h76
   refine RL.idxS (sz := 1) 2 Try.underlying24 Try_ln3 rfl rfl rfl rfl rfl SlOf.own (idx_some e104).1 (idx_some e104).2.1 ?_
   refine RL.finH ?_
   refine RL.stS (i := i73) (e' := y101) (e1 := y101) (r := TR.int) 2 Try_ln3 rfl rfl rfl rfl VR.int rfl (idx_some e104).2.2 Upd.self ?_
   refine RL.reL (L' := [imm (TR.sl (TR.rec1 (TR.sl TR.int))) v0 x0, own 3 TR.int v13 y11, own 3 TR.int v19 (List.set l42 i73 y101), imm (TR.sl TR.int) v1 x1, imm (TR.sl TR.int) v98 y96]) rfl ?_
   refine RL.finG ?_
   refine GL.nilB ?_
   refine GL.region ?_
   refine RL.binI (v := .int .i64 ((i73 + 1 : Nat) : Int)) rfl rfl rfl rfl (binI_succ i73 (by omega)) ?_
   refine RL.mv rfl rfl rfl ?_
   refine RL.fin ?_
   cases h76
   exact fun a w st => lop_intro (i73 + 1, r85, (List.set l42 i73 y101)) ⟨by show i73 + 1 + r85.length = (x1).length; simp only [List.length_cons] at h79; omega, h86, h77⟩ (by simp) (St.cut [0, 1, 2, 3] ⟨rfl, rfl, rfl, rfl, rfl, rfl, trivial⟩ (by decide) rfl st)
  have h82 : ¬ i73 < (x1).length := by have := of_decide_eq_false b81; omega
  obtain rfl : r74 = [] := by rw [← h80]; exact List.drop_of_length_le (by omega)
  replace h78 : some (Fl.nx _) = some y66 := h78
  cases h78
  exact GL.exit (fun a w st => mid_intro l42 h69 (St.cut [2] ⟨rfl, trivial⟩ (by decide) rfl st))
 rintro l42 h105
 have h106 := h70 _ h105
 try dsimp only at h106
 refine GL.weak (env' := [(8, v19)]) (L' := [own 3 TR.int v19 l42]) (fun _ _ st => st) ?_
 refine GL.seq ?_
 refine GL.region ?_
 refine RL.mv rfl rfl rfl ?_
 refine RL.asg rfl rfl rfl ?_
 refine RL.asg rfl rfl rfl ?_
 refine RL.finG ?_
 have h106 := Option.some.inj h106
 subst h106
 exact GL.ret (Gx.ret (v := .tuple #[v19, .int .i64 (0 : Int)]) (res2 rfl rfl rfl) (fun a w st => (st.pick [0] (by decide) rfl).toPost v19))

set_option maxHeartbeats 4000000 in
theorem slices_EqualFunc_int_int_int_int_c (S : Hp) (w : World) (hS : S.sub w) (v0 : Value) (x0 : (List (List Int))) (k0 : ((TR.sl (TR.sl TR.int))).vrep S v0 x0) (v1 : Value) (x1 : (List (List Int))) (k1 : ((TR.sl (TR.sl TR.int))).vrep S v1 x1) (f2 : FuncId) (c2 : Array Value) (t2 : Fit Try.prog f2) (g2 : (List Int) → (List Int) → Option Bool) (k2 : ∀ (U : Hp) (w' : World), Hp.le S U → U.sub w' → ∀ (u0 : Value) (a0 : (List Int)) (_ : ((TR.sl TR.int)).vrep U u0 a0) (u1 : Value) (a1 : (List Int)) (_ : ((TR.sl TR.int)).vrep U u1 a1) (rr : Bool), g2 a0 a1 = some rr → Calls Try.prog f2 (#[u0, u1] ++ c2) w' (PostV w' (.bool rr))) (res : Bool) (hm : slices_EqualFunc_int_int_int_int_m x0 x1 g2 = some res) : Calls Try.prog 97 #[v0, v1, .func (.func f2) #[] c2] w (PostV w (.bool res)) := by
 refine calls_enter 32 Try.func97 Try.ntmps97 rfl S false [(0, v0), (1, v1), (2, .func (.func f2) #[] c2)] [imm (TR.sl (TR.sl TR.int)) v0 x0, imm (TR.sl (TR.sl TR.int)) v1 x1] rfl ⟨rfl, ⟨rfl, ⟨rfl, trivial⟩⟩⟩ hS ⟨k0, ⟨k1, trivial⟩⟩ ?_
 unfold slices_EqualFunc_int_int_int_int_m at hm
 refine GL.seq ?_
 refine GL.region ?_
 refine RL.asg rfl rfl rfl ?_
 refine RL.finG ?_
 refine GL.seq ?_
 refine GL.seq ?_
 refine GL.region ?_
 refine RL.mv rfl rfl rfl ?_
 refine RL.lenS 0 Try.underlying37 rfl rfl rfl rfl SlOf.imm ?_
 refine RL.mv rfl rfl rfl ?_
 refine RL.lenS 1 Try.underlying37 rfl rfl rfl rfl SlOf.imm ?_
 refine RL.binI (v := .bool (((x0).length : Int) != ((x1).length : Int))) rfl rfl rfl rfl rfl ?_
 refine RL.finG ?_
 refine GL.cond rfl (fun b4 => ?_) (fun b4 => ?_)
 ·replace hm := ite_t b4 hm
  refine GL.seq ?_
  refine GL.region ?_
  refine RL.asg rfl rfl rfl ?_
  refine RL.finG ?_
  have hm := Option.some.inj hm
  subst hm
  exact GL.ret (Gx.ret (v := .bool false) (res1 rfl rfl) (fun a w st => st.toPostV))
 replace hm := ite_f b4 hm
 refine GL.skip ?_
 refine GL.seq ?_
 refine GL.seq ?_
 refine GL.region ?_
 refine RL.mv rfl rfl rfl ?_
 refine RL.lenS 0 Try.underlying37 rfl rfl rfl rfl SlOf.imm ?_
 refine RL.mv rfl rfl rfl ?_
 refine RL.finG ?_
 refine GL.open_ 0 rfl (fun S h => len_imm S h) (fun n22 => ?_)
 obtain ⟨y23, K24, h25, h26, h27, h28, h29⟩ := bindR_K hm
 refine GL.join (ι := Unit) (fun (p : Unit) => []) (fun (p : Unit) => []) (fun (p : Unit) => K24 (.nx ())) ?_ ?_
 ·refine GL.block ?_
  refine GL.loop (ι := Nat × (List (List Int))) (fun (p : Nat × (List (List Int))) => [(1, v1), (2, .func (.func f2) #[] c2), (15, v0), (16, .int .i64 ((x0).length : Int)), (17, .int .i64 (p.1 : Int))]) (fun (p : Nat × (List (List Int))) => [imm (TR.sl (TR.sl TR.int)) v1 x1, imm (TR.sl (TR.sl TR.int)) v0 x0]) (fun (p : Nat × (List (List Int))) => p.1 + p.2.length = (x0).length ∧ List.drop p.1 x0 = p.2 ∧ rangeL (slices_EqualFunc_int_int_int_int_b1 x1 g2) p.2 p.1 () = some y23) (fun (p : Nat × (List (List Int))) => p.2.length) (0, x0) ⟨by simp, by simp, h25⟩ (fun a w st => St.cut [1, 0] ⟨rfl, rfl, rfl, rfl, rfl, trivial⟩ (by decide) rfl st) ?_
  rintro ⟨i30, r31⟩ ⟨h36, h37, h35⟩
  try dsimp only at h36 h37 h35
  refine GL.weak (env' := [(1, v1), (2, .func (.func f2) #[] c2), (15, v0), (16, .int .i64 ((x0).length : Int)), (17, .int .i64 (i30 : Int))]) (L' := [imm (TR.sl (TR.sl TR.int)) v1 x1, imm (TR.sl (TR.sl TR.int)) v0 x0]) (fun _ _ st => st) ?_
  refine GL.seq ?_
  refine GL.region ?_
  refine RL.binI (v := .bool (decide ((i30 : Int) < ((x0).length : Int)))) rfl rfl rfl rfl rfl ?_
  refine RL.finG ?_
  refine GL.seq ?_
  refine GL.cond rfl (fun b38 => ?_) (fun b38 => ?_)
  ·have h39 : i30 < (x0).length := by have := of_decide_eq_true b38; omega
   obtain ⟨y40, r42, hr, e41, h43⟩ := drop_cons h37 rfl h39
   subst hr
   obtain ⟨z32, h33, h34⟩ := rangeL_some h35
   unfold slices_EqualFunc_int_int_int_int_b1 at h33
   try dsimp only at h33
   refine GL.skip ?_
   refine GL.seq ?_
   refine GL.block ?_
   refine GL.seq ?_
   refine GL.region ?_
   refine RL.mv rfl rfl rfl ?_
   refine RL.idxS (sz := 1) 1 Try.underlying37 Try_ln24 rfl rfl rfl rfl rfl SlOf.imm (by omega) (by omega) ?_
   refine RL.ldS (i := i30) (r := (TR.sl TR.int)) (e' := y40) 1 Try_ln24 rfl rfl rfl rfl SlOf.imm e41 Part.self ?_
   intro v45
   refine RL.asg rfl rfl rfl ?_
   refine RL.asg rfl rfl rfl ?_
   refine RL.finG ?_
   refine GL.seq ?_
   refine GL.region ?_
   refine RL.mv rfl rfl rfl ?_
   refine RL.mv rfl rfl rfl ?_
   obtain ⟨y49, e50, h33⟩ := bind_some h33
   refine RL.idxS (sz := 1) 0 Try.underlying37 Try_ln24 rfl rfl rfl rfl rfl SlOf.imm (idx_some e50).1 (idx_some e50).2.1 ?_
   refine RL.ldS (i := i30) (r := (TR.sl TR.int)) (e' := y49) 0 Try_ln24 rfl rfl rfl rfl SlOf.imm (idx_some e50).2.2 Part.self ?_
   intro v51
   refine RL.reL (L' := [imm (TR.sl (TR.sl TR.int)) v1 x1, imm (TR.sl (TR.sl TR.int)) v0 x0, imm (TR.sl TR.int) v45 y40, imm (TR.sl TR.int) v51 y49]) rfl ?_
   refine RL.asg rfl rfl rfl ?_
   refine RL.finG ?_
   refine GL.seq ?_
   refine GL.region ?_
   refine RL.mv rfl rfl rfl ?_
   refine RL.mv rfl rfl rfl ?_
   refine RL.mv rfl rfl rfl ?_
   obtain ⟨y54, e55, h33⟩ := bind_some h33
   refine RL.callV (v := .bool y54) (vs := [v45, v51]) t2 rfl (Or.inl rfl) rfl rfl rfl rfl (fun U w hU hW hL => k2 U w hW hU _ _ (hL 2 _ _ rfl Seen.imm) _ _ (hL 3 _ _ rfl Seen.imm) _ e55) ?_
   refine RL.notB rfl rfl rfl ?_
   refine RL.finG ?_
   refine GL.cond rfl (fun b56 => ?_) (fun b56 => ?_)
   ·replace h33 := ite_t b56 h33
    refine GL.seq ?_
    refine GL.region ?_
    refine RL.asg rfl rfl rfl ?_
    refine RL.finG ?_
    cases h33
    replace h34 : some (Fl.rt _) = some y23 := h34
    cases h34
    have hh := h28 _ h26
    subst hh
    exact GL.ret (Gx.ret (v := .bool false) (res1 rfl rfl) (fun a w st => st.toPostV))
   replace h33 := ite_f b56 h33
   refine GL.skip ?_
   refine GL.nilB ?_
   refine GL.region ?_
   refine RL.binI (v := .int .i64 ((i30 + 1 : Nat) : Int)) rfl rfl rfl rfl (binI_succ i30 (by omega)) ?_
   refine RL.mv rfl rfl rfl ?_
   refine RL.fin ?_
   cases h33
   exact fun a w st => lop_intro (i30 + 1, r42) ⟨by show i30 + 1 + r42.length = (x0).length; simp only [List.length_cons] at h36; omega, h43, h34⟩ (by simp) (St.cut [0, 1] ⟨rfl, rfl, rfl, rfl, rfl, trivial⟩ (by decide) rfl st)
  have h39 : ¬ i30 < (x0).length := by have := of_decide_eq_false b38; omega
  obtain rfl : r31 = [] := by rw [← h37]; exact List.drop_of_length_le (by omega)
  replace h35 : some (Fl.nx _) = some y23 := h35
  cases h35
  exact GL.exit (fun a w st => mid_intro () h26 (St.cut [] trivial (by decide) rfl st))
 rintro ⟨⟩ h57
 have h58 := h27 _ h57
 try dsimp only at h58
 refine GL.weak (env' := []) (L' := []) (fun _ _ st => st) ?_
 refine GL.seq ?_
 refine GL.region ?_
 refine RL.asg rfl rfl rfl ?_
 refine RL.finG ?_
 have h58 := Option.some.inj h58
 subst h58
 exact GL.ret (Gx.ret (v := .bool true) (res1 rfl rfl) (fun a w st => st.toPostV))

set_option maxHeartbeats 4000000 in
theorem pk_sameRows_c (S : Hp) (w : World) (hS : S.sub w) (v0 : Value) (x0 : (List (List Int))) (k0 : ((TR.sl (TR.sl TR.int))).vrep S v0 x0) (v1 : Value) (x1 : (List (List Int))) (k1 : ((TR.sl (TR.sl TR.int))).vrep S v1 x1) (res : Bool) (hm : pk_sameRows_m x0 x1 = some res) : Calls Try.prog 39 #[v0, v1] w (PostV w (.bool res)) := by
 refine calls_enter 8 Try.func39 Try.ntmps39 rfl S false [(0, v0), (1, v1)] [imm (TR.sl (TR.sl TR.int)) v0 x0, imm (TR.sl (TR.sl TR.int)) v1 x1] rfl ⟨rfl, ⟨rfl, trivial⟩⟩ hS ⟨k0, ⟨k1, trivial⟩⟩ ?_
 unfold pk_sameRows_m at hm
 refine GL.seq ?_
 refine GL.region ?_
 refine RL.asg rfl rfl rfl ?_
 refine RL.finG ?_
 refine GL.seq ?_
 refine GL.region ?_
 refine RL.mv rfl rfl rfl ?_
 refine RL.mv rfl rfl rfl ?_
 obtain ⟨y5, e6, hm⟩ := bind_some hm
 refine RL.callV (v := .bool y5) (vs := [v0, v1, .func (.func 22) #[] #[]]) Try_fit97 rfl (Or.inl rfl) rfl rfl rfl rfl (fun U w hU hW hL => slices_EqualFunc_int_int_int_int_c U w hU _ _ (hL 0 _ _ rfl Seen.imm) _ _ (hL 1 _ _ rfl Seen.imm) 22 #[] Try_fit22 (fun a0 a1 => slices_Equal_int_int_m a0 a1) (fun U' w' hle hU' u0 a0 q0 u1 a1 q1 rr hr => (slices_Equal_int_int_c U' w' hU' u0 a0 q0 u1 a1 q1 rr hr).mono (fun _ _ z => z)) _ e6) ?_
 refine RL.asg rfl rfl rfl ?_
 refine RL.finG ?_
 have hm := Option.some.inj hm
 subst hm
 exact GL.ret (Gx.ret (v := .bool y5) (res1 rfl rfl) (fun a w st => st.toPostV))

set_option maxHeartbeats 4000000 in
theorem pk_GamesOwn_c (S : Hp) (w : World) (hS : S.sub w) (v0 : Value) (x0 : (List (List Int))) (k0 : ((TR.sl (TR.sl TR.int))).vrep S v0 x0) (x1 : Int) (v2 : Value) (x2 : (List Int)) (k2 : ((TR.sl TR.int)).vrep S v2 x2) (v3 : Value) (x3 : (List (List Int))) (k3 : ((TR.sl (TR.rec1 (TR.sl TR.int)))).vrep S v3 x3) (v4 : Value) (x4 : (List Int)) (k4 : ((TR.sl TR.int)).vrep S v4 x4) (res : Bool) (hm : pk_GamesOwn_m x0 x1 x2 x3 x4 = some res) : Calls Try.prog 7 #[v0, .int .i64 x1, v2, v3, v4] w (PostV w (.bool res)) := by
 refine calls_enter 143 Try.func7 Try.ntmps7 rfl S false [(0, v0), (1, .int .i64 x1), (2, v2), (3, v3), (4, v4)] [imm (TR.sl (TR.sl TR.int)) v0 x0, imm (TR.sl TR.int) v2 x2, imm (TR.sl (TR.rec1 (TR.sl TR.int))) v3 x3, imm (TR.sl TR.int) v4 x4] rfl ⟨rfl, ⟨rfl, ⟨rfl, ⟨rfl, ⟨rfl, trivial⟩⟩⟩⟩⟩ hS ⟨k0, ⟨k2, ⟨k3, ⟨k4, trivial⟩⟩⟩⟩ ?_
 unfold pk_GamesOwn_m at hm
 refine GL.seq ?_
 refine GL.region ?_
 refine RL.asg rfl rfl rfl ?_
 refine RL.finG ?_
 refine GL.seq ?_
 refine GL.seq ?_
 obtain ⟨y29, K30, h31, h32, h33, h34, h35⟩ := bindR_K hm
 refine GL.join (ι := Bool) (fun (p : Bool) => [(0, v0), (1, .int .i64 x1), (2, v2), (3, v3), (4, v4), (44, .bool p)]) (fun (p : Bool) => [imm (TR.sl (TR.sl TR.int)) v0 x0, imm (TR.sl TR.int) v2 x2, imm (TR.sl (TR.rec1 (TR.sl TR.int))) v3 x3, imm (TR.sl TR.int) v4 x4]) (fun (p : Bool) => K30 (.nx p)) ?_ ?_
 ·skip
  refine GL.region ?_
  obtain ⟨y36, e37, h31⟩ := bind_some h31
  refine RL.callV (v := .bool y36) (vs := []) Try_fit27 rfl (Or.inl rfl) rfl rfl rfl rfl (fun U w hU hW hL => pk_saddles_c U w hU  _ e37) ?_
  refine RL.notB rfl rfl rfl ?_
  refine RL.mv rfl rfl rfl ?_
  refine RL.split (t := 33) rfl (fun b38 => ?_) (fun b38 => ?_)
  ·replace h31 := ite_t b38 h31
   refine RL.skip rfl rfl ?_
   refine RL.skip rfl rfl ?_
   refine RL.pickT rfl rfl rfl rfl ?_
   refine RL.mv rfl rfl rfl ?_
   refine RL.skip rfl rfl ?_
   refine RL.skip rfl rfl ?_
   refine RL.pickT rfl rfl rfl rfl ?_
   refine RL.mv rfl rfl rfl ?_
   refine RL.skip rfl rfl ?_
   refine RL.skip rfl rfl ?_
   refine RL.pickT rfl rfl rfl rfl ?_
   refine RL.fin ?_
   cases h31
   exact fun a w st => mid_intro true h32 (St.cut [0, 1, 2, 3] ⟨rfl, rfl, rfl, rfl, rfl, rfl, trivial⟩ (by decide) rfl st)
  replace h31 := ite_f b38 h31
  obtain ⟨y39, e40, h31⟩ := bind_some h31
  refine RL.callV (v := .bool y39) (vs := []) Try_fit31 rfl (Or.inl rfl) rfl rfl rfl rfl (fun U w hU hW hL => pk_worths_c U w hU  _ e40) ?_
  refine RL.notB rfl rfl rfl ?_
  refine RL.pickF rfl rfl rfl rfl ?_
  refine RL.mv rfl rfl rfl ?_
  refine RL.split (t := 37) rfl (fun b41 => ?_) (fun b41 => ?_)
  ·replace h31 := ite_t b41 h31
   refine RL.skip rfl rfl ?_
   refine RL.skip rfl rfl ?_
   refine RL.pickT rfl rfl rfl rfl ?_
   refine RL.mv rfl rfl rfl ?_
   refine RL.skip rfl rfl ?_
   refine RL.skip rfl rfl ?_
   refine RL.pickT rfl rfl rfl rfl ?_
   refine RL.fin ?_
   cases h31
   exact fun a w st => mid_intro true h32 (St.cut [0, 1, 2, 3] ⟨rfl, rfl, rfl, rfl, rfl, rfl, trivial⟩ (by decide) rfl st)
  replace h31 := ite_f b41 h31
  obtain ⟨y42, e43, h31⟩ := bind_some h31
  refine RL.callV (v := .bool y42) (vs := []) Try_fit32 rfl (Or.inl rfl) rfl rfl rfl rfl (fun U w hU hW hL => pk_crowds_c U w hU  _ e43) ?_
  refine RL.notB rfl rfl rfl ?_
  refine RL.pickF rfl rfl rfl rfl ?_
  refine RL.mv rfl rfl rfl ?_
  refine RL.split (t := 41) rfl (fun b44 => ?_) (fun b44 => ?_)
  ·replace h31 := ite_t b44 h31
   refine RL.skip rfl rfl ?_
   refine RL.skip rfl rfl ?_
   refine RL.pickT rfl rfl rfl rfl ?_
   refine RL.fin ?_
   cases h31
   exact fun a w st => mid_intro true h32 (St.cut [0, 1, 2, 3] ⟨rfl, rfl, rfl, rfl, rfl, rfl, trivial⟩ (by decide) rfl st)
  replace h31 := ite_f b44 h31
  obtain ⟨y45, e46, h31⟩ := bind_some h31
  refine RL.callV (v := .bool y45) (vs := []) Try_fit26 rfl (Or.inl rfl) rfl rfl rfl rfl (fun U w hU hW hL => pk_equils_c U w hU  _ e46) ?_
  refine RL.notB rfl rfl rfl ?_
  refine RL.pickF rfl rfl rfl rfl ?_
  refine RL.fin ?_
  cases h31
  exact fun a w st => mid_intro (!y45) h32 (St.cut [0, 1, 2, 3] ⟨rfl, rfl, rfl, rfl, rfl, rfl, trivial⟩ (by decide) rfl st)
 rintro x28 h47
 have h48 := h33 _ h47
 try dsimp only at h48
 refine GL.weak (env' := [(0, v0), (1, .int .i64 x1), (2, v2), (3, v3), (4, v4), (44, .bool x28)]) (L' := [imm (TR.sl (TR.sl TR.int)) v0 x0, imm (TR.sl TR.int) v2 x2, imm (TR.sl (TR.rec1 (TR.sl TR.int))) v3 x3, imm (TR.sl TR.int) v4 x4]) (fun _ _ st => st) ?_
 refine GL.cond rfl (fun b49 => ?_) (fun b49 => ?_)
 ·replace h48 := ite_t b49 h48
  refine GL.seq ?_
  refine GL.region ?_
  refine RL.asg rfl rfl rfl ?_
  refine RL.finG ?_
  have h48 := Option.some.inj h48
  subst h48
  exact GL.ret (Gx.ret (v := .bool false) (res1 rfl rfl) (fun a w st => st.toPostV))
 replace h48 := ite_f b49 h48
 refine GL.skip ?_
 refine GL.seq ?_
 refine GL.region ?_
 refine RL.mv rfl rfl rfl ?_
 obtain ⟨y59, e60, h48⟩ := bind_some h48
 refine RL.call (vs := [v0]) Try_fit33 rfl rfl rfl rfl rfl (fun S f w hS hW hi => pk_copied_c S w hS _ _ (hi 0 _ rfl) _ e60) ?_
 intro v61
 refine RL.mv rfl rfl rfl ?_
 obtain ⟨y62, e63, h48⟩ := bind_some h48
 refine RL.call (vs := [v2]) Try_fit18 rfl rfl rfl rfl rfl (fun S f w hS hW hi => slices_Clone_int_int_c S w hS _ _ (hi 1 _ rfl) _ e63) ?_
 intro v64
 refine RL.reL (L' := [imm (TR.sl (TR.sl TR.int)) v0 x0, imm (TR.sl TR.int) v2 x2, imm (TR.sl (TR.rec1 (TR.sl TR.int))) v3 x3, imm (TR.sl TR.int) v4 x4, own 24 (TR.sl TR.int) v61 y59, own 3 TR.int v64 y62]) rfl ?_
 refine RL.mv rfl rfl rfl ?_
 obtain ⟨y65, e66, h48⟩ := bind_some h48
 refine RL.call (vs := [v4]) Try_fit18 rfl rfl rfl rfl rfl (fun S f w hS hW hi => slices_Clone_int_int_c S w hS _ _ (hi 3 _ rfl) _ e66) ?_
 intro v67
 refine RL.asg rfl rfl rfl ?_
 refine RL.asg rfl rfl rfl ?_
 refine RL.asg rfl rfl rfl ?_
 refine RL.finG ?_
 refine GL.seq ?_
 refine GL.region ?_
 refine RL.mv rfl rfl rfl ?_
 obtain ⟨y72, e73, h48⟩ := bind_some h48
 refine RL.call (vs := [v0]) Try_fit34 rfl rfl rfl rfl rfl (fun S f w hS hW hi => saddle_Turned_c S w hS _ _ (hi 0 _ rfl) _ e73) ?_
 intro ⟨v74, V75⟩
 refine RL.reL (L' := [imm (TR.sl (TR.sl TR.int)) v0 x0, imm (TR.sl TR.int) v2 x2, imm (TR.sl (TR.rec1 (TR.sl TR.int))) v3 x3, imm (TR.sl TR.int) v4 x4, own 24 (TR.sl TR.int) v61 y59, own 3 TR.int v64 y62, own 3 TR.int v67 y65, own2 24 3 TR.int v74 V75 y72.1]) rfl ?_
 refine RL.mv rfl rfl rfl ?_
 refine RL.ext rfl rfl rfl rfl ?_
 refine RL.ext rfl rfl rfl rfl ?_
 refine RL.asg rfl rfl rfl ?_
 refine RL.asg rfl rfl rfl ?_
 refine RL.finG ?_
 refine GL.seq ?_
 refine GL.seq ?_
 refine GL.region ?_
 refine RL.mv rfl rfl rfl ?_
 refine RL.lenR 7 Try.underlying37 rfl rfl rfl rfl ?_
 refine RL.mv rfl rfl rfl ?_
 refine RL.finG ?_
 refine GL.lenR 7 rfl (fun n94 => ?_)
 obtain ⟨y95, K96, h97, h98, h99, h100, h101⟩ := bindR_K h48
 refine GL.join (ι := (List (List Int))) (fun (p : (List (List Int))) => [(0, v0), (1, .int .i64 x1), (2, v2), (3, v3), (4, v4), (11, v61), (12, v64), (13, v67)]) (fun (p : (List (List Int))) => [imm (TR.sl (TR.sl TR.int)) v0 x0, imm (TR.sl TR.int) v2 x2, imm (TR.sl (TR.rec1 (TR.sl TR.int))) v3 x3, imm (TR.sl TR.int) v4 x4, own 24 (TR.sl TR.int) v61 y59, own 3 TR.int v64 y62, own 3 TR.int v67 y65]) (fun (p : (List (List Int))) => K96 (.nx p)) ?_ ?_
 ·refine GL.block ?_
  refine GL.loop (ι := Nat × Nat × (List (List Int)) × (List Value)) (fun (p : Nat × Nat × (List (List Int)) × (List Value)) => [(0, v0), (1, .int .i64 x1), (2, v2), (3, v3), (4, v4), (11, v61), (12, v64), (13, v67), (56, v74), (57, .int .i64 ((y72.1).length : Int)), (58, .int .i64 (p.1 : Int))]) (fun (p : Nat × Nat × (List (List Int)) × (List Value)) => [imm (TR.sl (TR.sl TR.int)) v0 x0, imm (TR.sl TR.int) v2 x2, imm (TR.sl (TR.rec1 (TR.sl TR.int))) v3 x3, imm (TR.sl TR.int) v4 x4, own 24 (TR.sl TR.int) v61 y59, own 3 TR.int v64 y62, own 3 TR.int v67 y65, own2 24 3 TR.int v74 p.2.2.2 p.2.2.1]) (fun (p : Nat × Nat × (List (List Int)) × (List Value)) => p.1 + p.2.1 = (y72.1).length ∧ rangeN pk_GamesOwn_b1 p.2.1 p.1 p.2.2.1 = some y95) (fun (p : Nat × Nat × (List (List Int)) × (List Value)) => p.2.1) (0, (y72.1).length, y72.1, V75) ⟨by simp, h97⟩ (fun a w st => St.cut [0, 1, 2, 3, 4, 5, 6, 7] ⟨rfl, rfl, rfl, rfl, rfl, rfl, rfl, rfl, rfl, rfl, rfl, trivial⟩ (by decide) rfl st) ?_
  rintro ⟨i102, r103, l84, V85⟩ ⟨h108, h107⟩
  try dsimp only at h108 h107
  refine GL.weak (env' := [(0, v0), (1, .int .i64 x1), (2, v2), (3, v3), (4, v4), (11, v61), (12, v64), (13, v67), (56, v74), (57, .int .i64 ((y72.1).length : Int)), (58, .int .i64 (i102 : Int))]) (L' := [imm (TR.sl (TR.sl TR.int)) v0 x0, imm (TR.sl TR.int) v2 x2, imm (TR.sl (TR.rec1 (TR.sl TR.int))) v3 x3, imm (TR.sl TR.int) v4 x4, own 24 (TR.sl TR.int) v61 y59, own 3 TR.int v64 y62, own 3 TR.int v67 y65, own2 24 3 TR.int v74 V85 l84]) (fun _ _ st => st) ?_
  refine GL.seq ?_
  refine GL.region ?_
  refine RL.binI (v := .bool (decide ((i102 : Int) < ((y72.1).length : Int)))) rfl rfl rfl rfl rfl ?_
  refine RL.finG ?_
  refine GL.seq ?_
  refine GL.cond rfl (fun b110 => ?_) (fun b110 => ?_)
  ·have h111 : i102 < (y72.1).length := by have := of_decide_eq_true b110; omega
   obtain ⟨r112, hr⟩ : ∃ m, r103 = m + 1 := ⟨r103 - 1, by omega⟩
   subst hr
   obtain ⟨z104, h105, h106⟩ := rangeN_some h107
   unfold pk_GamesOwn_b1 at h105
   try dsimp only at h105
   refine GL.skip ?_
   refine GL.seq ?_
   refine GL.block ?_
   refine GL.seq ?_
   refine GL.region ?_
   obtain ⟨y115, e116, h105⟩ := bind_some h105
   refine RL.idxR 7 Try.underlying37 Try_ln24 rfl rfl rfl rfl rfl (idx_some e116).1 (idx_some e116).2.1 ?_
   refine RL.ldR (i := i102) (r := y115) 7 Try_ln24 rfl rfl rfl rfl (idx_some e116).2.2 ?_
   refine RL.asg rfl rfl rfl ?_
   refine RL.finG ?_
   refine GL.region ?_
   refine RL.mv rfl rfl rfl ?_
   refine RL.weak (fun a w st => st.takeRow 7 rfl (idx_some e116).2.2) ?_
   refine RL.reL (L' := [imm (TR.sl (TR.sl TR.int)) v0 x0, imm (TR.sl TR.int) v2 x2, imm (TR.sl (TR.rec1 (TR.sl TR.int))) v3 x3, imm (TR.sl TR.int) v4 x4, own 24 (TR.sl TR.int) v61 y59, own 3 TR.int v64 y62, own 3 TR.int v67 y65, own2x i102 24 3 TR.int v74 V85 l84, own 3 TR.int (rowv V85 i102) y115]) rfl ?_
   obtain ⟨y119, e120, h105⟩ := bind_some h105
   refine RL.callK (vs := [rowv V85 i102, .int .i64 (-7 : Int)]) (V := fun (o : Unit) => .tuple #[]) (LR := fun (o : Unit) => [own 3 TR.int (rowv V85 i102) y119]) (Ls := [own 3 TR.int (rowv V85 i102) y115]) [8] (by decide) Try_fit21 rfl rfl rfl rfl rfl rfl (fun S f X w hO hB hW hI hL => pk_spoil_int_c _ S X f w _ _  hO hB hI (-7 : Int) _ e120) ?_
   intro _
   refine RL.weak (fun a w st => st.putRow 7 9 (by decide) rfl rfl (idx_some e116).2.2) ?_
   refine RL.reL (L' := [imm (TR.sl (TR.sl TR.int)) v0 x0, imm (TR.sl TR.int) v2 x2, imm (TR.sl (TR.rec1 (TR.sl TR.int))) v3 x3, imm (TR.sl TR.int) v4 x4, own 24 (TR.sl TR.int) v61 y59, own 3 TR.int v64 y62, own 3 TR.int v67 y65, own2 24 3 TR.int v74 V85 (List.set l84 i102 y119), gone, gone]) rfl ?_
   refine RL.finG ?_
   refine GL.nilB ?_
   refine GL.region ?_
   refine RL.binI (v := .int .i64 ((i102 + 1 : Nat) : Int)) rfl rfl rfl rfl (binI_succ i102 (by omega)) ?_
   refine RL.mv rfl rfl rfl ?_
   refine RL.fin ?_
   cases h105
   exact fun a w st => lop_intro (i102 + 1, r112, (List.set l84 i102 y119), V85) ⟨by show i102 + 1 + r112 = (y72.1).length; omega, h106⟩ (by simp) (St.cut [0, 1, 2, 3, 4, 5, 6, 7] ⟨rfl, rfl, rfl, rfl, rfl, rfl, rfl, rfl, rfl, rfl, rfl, trivial⟩ (by decide) rfl st)
  have h111 : ¬ i102 < (y72.1).length := by have := of_decide_eq_false b110; omega
  obtain rfl : r103 = 0 := by omega
  replace h107 : some (Fl.nx _) = some y95 := h107
  cases h107
  exact GL.exit (fun a w st => mid_intro l84 h98 (St.cut [0, 1, 2, 3, 4, 5, 6] ⟨rfl, rfl, rfl, rfl, rfl, rfl, rfl, rfl, trivial⟩ (by decide) rfl st))
 rintro l84 h121
 have h122 := h99 _ h121
 try dsimp only at h122
 refine GL.weak (env' := [(0, v0), (1, .int .i64 x1), (2, v2), (3, v3), (4, v4), (11, v61), (12, v64), (13, v67)]) (L' := [imm (TR.sl (TR.sl TR.int)) v0 x0, imm (TR.sl TR.int) v2 x2, imm (TR.sl (TR.rec1 (TR.sl TR.int))) v3 x3, imm (TR.sl TR.int) v4 x4, own 24 (TR.sl TR.int) v61 y59, own 3 TR.int v64 y62, own 3 TR.int v67 y65]) (fun _ _ st => st) ?_
 refine GL.seq ?_
 refine GL.region ?_
 refine RL.mv rfl rfl rfl ?_
 refine RL.mv rfl rfl rfl ?_
 obtain ⟨y127, e128, h122⟩ := bind_some h122
 refine RL.call (vs := [v0, v0]) Try_fit35 rfl rfl rfl rfl rfl (fun S f w hS hW hi => equil_Left_c S w hS _ _ (hi 0 _ rfl) _ _ (hi 0 _ rfl) _ e128) ?_
 intro ⟨v129, v130⟩
 refine RL.mv rfl rfl rfl ?_
 refine RL.ext rfl rfl rfl rfl ?_
 refine RL.ext rfl rfl rfl rfl ?_
 refine RL.ext rfl rfl rfl rfl ?_
 refine RL.asg rfl rfl rfl ?_
 refine RL.asg rfl rfl rfl ?_
 refine RL.asg rfl rfl rfl ?_
 refine RL.finG ?_
 refine GL.seq ?_
 refine GL.region ?_
 refine RL.mv rfl rfl rfl ?_
 obtain ⟨y133, e134, h122⟩ := bind_some h122
 refine RL.callK (vs := [v129, .int .i64 (-7 : Int)]) (V := fun (o : Unit) => .tuple #[]) (LR := fun (o : Unit) => [own 3 TR.int v129 y133]) (Ls := [own 3 TR.int v129 y127.1]) [7] (by decide) Try_fit21 rfl rfl rfl rfl rfl rfl (fun S f X w hO hB hW hI hL => pk_spoil_int_c _ S X f w _ _  hO hB hI (-7 : Int) _ e134) ?_
 intro _
 refine RL.reL (L' := [imm (TR.sl (TR.sl TR.int)) v0 x0, imm (TR.sl TR.int) v2 x2, imm (TR.sl (TR.rec1 (TR.sl TR.int))) v3 x3, imm (TR.sl TR.int) v4 x4, own 24 (TR.sl TR.int) v61 y59, own 3 TR.int v64 y62, own 3 TR.int v67 y65, gone, own 3 TR.int v130 y127.2.1, own 3 TR.int v129 y133]) rfl ?_
 refine RL.finG ?_
 refine GL.seq ?_
 refine GL.region ?_
 refine RL.mv rfl rfl rfl ?_
 refine RL.mv rfl rfl rfl ?_
 obtain ⟨y138, e139, h122⟩ := bind_some h122
 refine RL.call (vs := [.int .i64 x1, v2]) Try_fit36 rfl rfl rfl rfl rfl (fun S f w hS hW hi => worth_Share_c S w hS x1 _ _ (hi 1 _ rfl) _ e139) ?_
 intro v140
 refine RL.mv rfl rfl rfl ?_
 refine RL.ext rfl rfl rfl rfl ?_
 refine RL.ext rfl rfl rfl rfl ?_
 refine RL.asg rfl rfl rfl ?_
 refine RL.asg rfl rfl rfl ?_
 refine RL.finG ?_
 refine GL.seq ?_
 refine GL.region ?_
 refine RL.mv rfl rfl rfl ?_
 obtain ⟨y143, e144, h122⟩ := bind_some h122
 refine RL.callK (vs := [v140, .int .i64 (-7 : Int)]) (V := fun (o : Unit) => .tuple #[]) (LR := fun (o : Unit) => [own 3 TR.int v140 y143]) (Ls := [own 3 TR.int v140 y138.1]) [10] (by decide) Try_fit21 rfl rfl rfl rfl rfl rfl (fun S f X w hO hB hW hI hL => pk_spoil_int_c _ S X f w _ _  hO hB hI (-7 : Int) _ e144) ?_
 intro _
 refine RL.reL (L' := [imm (TR.sl (TR.sl TR.int)) v0 x0, imm (TR.sl TR.int) v2 x2, imm (TR.sl (TR.rec1 (TR.sl TR.int))) v3 x3, imm (TR.sl TR.int) v4 x4, own 24 (TR.sl TR.int) v61 y59, own 3 TR.int v64 y62, own 3 TR.int v67 y65, gone, own 3 TR.int v130 y127.2.1, own 3 TR.int v129 y133, gone, own 3 TR.int v140 y143]) rfl ?_
 refine RL.finG ?_
 refine GL.seq ?_
 refine GL.region ?_
 refine RL.mv rfl rfl rfl ?_
 refine RL.mv rfl rfl rfl ?_
 obtain ⟨y148, e149, h122⟩ := bind_some h122
 refine RL.call (vs := [v3, v4]) Try_fit37 rfl rfl rfl rfl rfl (fun S f w hS hW hi => roads_Settle_c S w hS _ _ (hi 2 _ rfl) _ _ (hi 3 _ rfl) _ e149) ?_
 intro v150
 refine RL.mv rfl rfl rfl ?_
 refine RL.ext rfl rfl rfl rfl ?_
 refine RL.ext rfl rfl rfl rfl ?_
 refine RL.ext rfl rfl rfl rfl ?_
 refine RL.asg rfl rfl rfl ?_
 refine RL.asg rfl rfl rfl ?_
 refine RL.asg rfl rfl rfl ?_
 refine RL.finG ?_
 refine GL.seq ?_
 refine GL.region ?_
 refine RL.mv rfl rfl rfl ?_
 obtain ⟨y153, e154, h122⟩ := bind_some h122
 refine RL.callK (vs := [v150, .int .i64 (-7 : Int)]) (V := fun (o : Unit) => .tuple #[]) (LR := fun (o : Unit) => [own 3 TR.int v150 y153]) (Ls := [own 3 TR.int v150 y148.1]) [12] (by decide) Try_fit21 rfl rfl rfl rfl rfl rfl (fun S f X w hO hB hW hI hL => pk_spoil_int_c _ S X f w _ _  hO hB hI (-7 : Int) _ e154) ?_
 intro _
 refine RL.reL (L' := [imm (TR.sl (TR.sl TR.int)) v0 x0, imm (TR.sl TR.int) v2 x2, imm (TR.sl (TR.rec1 (TR.sl TR.int))) v3 x3, imm (TR.sl TR.int) v4 x4, own 24 (TR.sl TR.int) v61 y59, own 3 TR.int v64 y62, own 3 TR.int v67 y65, gone, own 3 TR.int v130 y127.2.1, own 3 TR.int v129 y133, gone, own 3 TR.int v140 y143, gone, own 3 TR.int v150 y153]) rfl ?_
 refine RL.finG ?_
 refine GL.seq ?_
 refine GL.region ?_
 refine RL.mv rfl rfl rfl ?_
 refine RL.mv rfl rfl rfl ?_
 obtain ⟨y158, e159, h122⟩ := bind_some h122
 refine RL.call (vs := [v3, v4]) Try_fit38 rfl rfl rfl rfl rfl (fun S f w hS hW hi => roads_Costs_c S w hS _ _ (hi 2 _ rfl) _ _ (hi 3 _ rfl) _ e159) ?_
 intro v160
 refine RL.mv rfl rfl rfl ?_
 refine RL.ext rfl rfl rfl rfl ?_
 refine RL.ext rfl rfl rfl rfl ?_
 refine RL.asg rfl rfl rfl ?_
 refine RL.asg rfl rfl rfl ?_
 refine RL.finG ?_
 refine GL.seq ?_
 refine GL.region ?_
 refine RL.mv rfl rfl rfl ?_
 obtain ⟨y163, e164, h122⟩ := bind_some h122
 refine RL.callK (vs := [v160, .int .i64 (-7 : Int)]) (V := fun (o : Unit) => .tuple #[]) (LR := fun (o : Unit) => [own 3 TR.int v160 y163]) (Ls := [own 3 TR.int v160 y158.1]) [14] (by decide) Try_fit21 rfl rfl rfl rfl rfl rfl (fun S f X w hO hB hW hI hL => pk_spoil_int_c _ S X f w _ _  hO hB hI (-7 : Int) _ e164) ?_
 intro _
 refine RL.reL (L' := [imm (TR.sl (TR.sl TR.int)) v0 x0, imm (TR.sl TR.int) v2 x2, imm (TR.sl (TR.rec1 (TR.sl TR.int))) v3 x3, imm (TR.sl TR.int) v4 x4, own 24 (TR.sl TR.int) v61 y59, own 3 TR.int v64 y62, own 3 TR.int v67 y65, gone, own 3 TR.int v130 y127.2.1, own 3 TR.int v129 y133, gone, own 3 TR.int v140 y143, gone, own 3 TR.int v150 y153, gone, own 3 TR.int v160 y163]) rfl ?_
 refine RL.finG ?_
 refine GL.seq ?_
 refine GL.region ?_
 refine RL.mv rfl rfl rfl ?_
 refine RL.mv rfl rfl rfl ?_
 obtain ⟨y168, e169, h122⟩ := bind_some h122
 refine RL.call (vs := [.int .i64 x1, v2]) Try_fit36 rfl rfl rfl rfl rfl (fun S f w hS hW hi => worth_Share_c S w hS x1 _ _ (hi 1 _ rfl) _ e169) ?_
 intro v170
 refine RL.mv rfl rfl rfl ?_
 refine RL.ext rfl rfl rfl rfl ?_
 refine RL.ext rfl rfl rfl rfl ?_
 refine RL.asg rfl rfl rfl ?_
 refine RL.asg rfl rfl rfl ?_
 refine RL.finG ?_
 refine GL.seq ?_
 refine GL.region ?_
 refine RL.mv rfl rfl rfl ?_
 obtain ⟨y174, e175, h122⟩ := bind_some h122
 refine RL.callU (vs := [v170]) (LR := fun (o : Value) => [own 3 TR.int o y174]) (fun o => ⟨Loc.own TR.flatT_ik, trivial⟩) Try_fit18 rfl rfl rfl rfl rfl (fun U w hU hW hL => slices_Clone_int_int_c U w hU _ _ (hL 16 _ _ rfl Seen.own) _ e175) ?_
 intro v176
 refine RL.asg rfl rfl rfl ?_
 refine RL.finG ?_
 refine GL.seq ?_
 refine GL.region ?_
 refine RL.mv rfl rfl rfl ?_
 obtain ⟨y179, e180, h122⟩ := bind_some h122
 refine RL.callK (vs := [v170, .int .i64 (-7 : Int)]) (V := fun (o : Unit) => .tuple #[]) (LR := fun (o : Unit) => [own 3 TR.int v170 y179]) (Ls := [own 3 TR.int v170 y168.1]) [16] (by decide) Try_fit21 rfl rfl rfl rfl rfl rfl (fun S f X w hO hB hW hI hL => pk_spoil_int_c _ S X f w _ _  hO hB hI (-7 : Int) _ e180) ?_
 intro _
 refine RL.reL (L' := [imm (TR.sl (TR.sl TR.int)) v0 x0, imm (TR.sl TR.int) v2 x2, imm (TR.sl (TR.rec1 (TR.sl TR.int))) v3 x3, imm (TR.sl TR.int) v4 x4, own 24 (TR.sl TR.int) v61 y59, own 3 TR.int v64 y62, own 3 TR.int v67 y65, gone, own 3 TR.int v130 y127.2.1, own 3 TR.int v129 y133, gone, own 3 TR.int v140 y143, gone, own 3 TR.int v150 y153, gone, own 3 TR.int v160 y163, gone, own 3 TR.int v176 y174, own 3 TR.int v170 y179]) rfl ?_
 refine RL.finG ?_
 refine GL.seq ?_
 refine GL.region ?_
 refine RL.mv rfl rfl rfl ?_
 refine RL.mv rfl rfl rfl ?_
 obtain ⟨y184, e185, h122⟩ := bind_some h122
 refine RL.call (vs := [.int .i64 x1, v2]) Try_fit36 rfl rfl rfl rfl rfl (fun S f w hS hW hi => worth_Share_c S w hS x1 _ _ (hi 1 _ rfl) _ e185) ?_
 intro v186
 refine RL.mv rfl rfl rfl ?_
 refine RL.ext rfl rfl rfl rfl ?_
 refine RL.ext rfl rfl rfl rfl ?_
 refine RL.asg rfl rfl rfl ?_
 refine RL.asg rfl rfl rfl ?_
 refine RL.finG ?_
 refine GL.seq ?_
 obtain ⟨y214, K215, h216, h217, h218, h219, h220⟩ := bindR_K h122
 refine GL.join (ι := Bool) (fun (p : Bool) => [(10, .bool p)]) (fun (p : Bool) => []) (fun (p : Bool) => K215 (.nx p)) ?_ ?_
 ·skip
  refine GL.region ?_
  refine RL.mv rfl rfl rfl ?_
  refine RL.mv rfl rfl rfl ?_
  obtain ⟨y221, e222, h216⟩ := bind_some h216
  refine RL.callV (v := .bool y221) (vs := [v0, v61]) Try_fit39 rfl (Or.inl rfl) rfl rfl rfl rfl (fun U w hU hW hL => pk_sameRows_c U w hU _ _ (hL 0 _ _ rfl Seen.imm) _ _ (hL 4 _ _ rfl Seen.own) _ e222) ?_
  refine RL.mv rfl rfl rfl ?_
  refine RL.split (t := 118) rfl (fun b223 => ?_) (fun b223 => ?_)
  ·replace h216 := ite_t b223 h216
   refine RL.mv rfl rfl rfl ?_
   refine RL.mv rfl rfl rfl ?_
   obtain ⟨y224, e225, h216⟩ := bind_some h216
   refine RL.callV (v := .bool y224) (vs := [v2, v64]) Try_fit22 rfl (Or.inl rfl) rfl rfl rfl rfl (fun U w hU hW hL => slices_Equal_int_int_c U w hU _ _ (hL 1 _ _ rfl Seen.imm) _ _ (hL 5 _ _ rfl Seen.own) _ e225) ?_
   refine RL.pickT rfl rfl rfl rfl ?_
   refine RL.mv rfl rfl rfl ?_
   refine RL.split (t := 123) rfl (fun b226 => ?_) (fun b226 => ?_)
   ·replace h216 := ite_t b226 h216
    refine RL.mv rfl rfl rfl ?_
    refine RL.mv rfl rfl rfl ?_
    obtain ⟨y227, e228, h216⟩ := bind_some h216
    refine RL.callV (v := .bool y227) (vs := [v4, v67]) Try_fit22 rfl (Or.inl rfl) rfl rfl rfl rfl (fun U w hU hW hL => slices_Equal_int_int_c U w hU _ _ (hL 3 _ _ rfl Seen.imm) _ _ (hL 6 _ _ rfl Seen.own) _ e228) ?_
    refine RL.pickT rfl rfl rfl rfl ?_
    refine RL.mv rfl rfl rfl ?_
    refine RL.split (t := 128) rfl (fun b229 => ?_) (fun b229 => ?_)
    ·replace h216 := ite_t b229 h216
     refine RL.mv rfl rfl rfl ?_
     refine RL.mv rfl rfl rfl ?_
     refine RL.binI (v := .bool (y138.2 == y168.2)) rfl rfl rfl rfl rfl ?_
     refine RL.pickT rfl rfl rfl rfl ?_
     refine RL.mv rfl rfl rfl ?_
     refine RL.split (t := 133) rfl (fun b230 => ?_) (fun b230 => ?_)
     ·replace h216 := ite_t b230 h216
      refine RL.mv rfl rfl rfl ?_
      refine RL.mv rfl rfl rfl ?_
      refine RL.binI (v := .bool (y138.2 == y184.2)) rfl rfl rfl rfl rfl ?_
      refine RL.pickT rfl rfl rfl rfl ?_
      refine RL.mv rfl rfl rfl ?_
      refine RL.split (t := 138) rfl (fun b231 => ?_) (fun b231 => ?_)
      ·replace h216 := ite_t b231 h216
       refine RL.mv rfl rfl rfl ?_
       refine RL.mv rfl rfl rfl ?_
       obtain ⟨y232, e233, h216⟩ := bind_some h216
       refine RL.callV (v := .bool y232) (vs := [v186, v176]) Try_fit22 rfl (Or.inl rfl) rfl rfl rfl rfl (fun U w hU hW hL => slices_Equal_int_int_c U w hU _ _ (hL 19 _ _ rfl Seen.own) _ _ (hL 17 _ _ rfl Seen.own) _ e233) ?_
       refine RL.pickT rfl rfl rfl rfl ?_
       refine RL.asg rfl rfl rfl ?_
       refine RL.fin ?_
       cases h216
       exact fun a w st => mid_intro y232 h217 (St.cut [] ⟨rfl, trivial⟩ (by decide) rfl st)
      replace h216 := ite_f b231 h216
      refine RL.skip rfl rfl ?_
      refine RL.skip rfl rfl ?_
      refine RL.skip rfl rfl ?_
      refine RL.pickF rfl rfl rfl rfl ?_
      refine RL.asg rfl rfl rfl ?_
      refine RL.fin ?_
      cases h216
      exact fun a w st => mid_intro false h217 (St.cut [] ⟨rfl, trivial⟩ (by decide) rfl st)
     replace h216 := ite_f b230 h216
     refine RL.skip rfl rfl ?_
     refine RL.skip rfl rfl ?_
     refine RL.skip rfl rfl ?_
     refine RL.pickF rfl rfl rfl rfl ?_
     refine RL.mv rfl rfl rfl ?_
     refine RL.skip rfl rfl ?_
     refine RL.skip rfl rfl ?_
     refine RL.skip rfl rfl ?_
     refine RL.pickF rfl rfl rfl rfl ?_
     refine RL.asg rfl rfl rfl ?_
     refine RL.fin ?_
     cases h216
     exact fun a w st => mid_intro false h217 (St.cut [] ⟨rfl, trivial⟩ (by decide) rfl st)
    replace h216 := ite_f b229 h216
    refine RL.skip rfl rfl ?_
    refine RL.skip rfl rfl ?_
    refine RL.skip rfl rfl ?_
    refine RL.pickF rfl rfl rfl rfl ?_
    refine RL.mv rfl rfl rfl ?_
    refine RL.skip rfl rfl ?_
    refine RL.skip rfl rfl ?_
    refine RL.skip rfl rfl ?_
    refine RL.pickF rfl rfl rfl rfl ?_
    refine RL.mv rfl rfl rfl ?_
    refine RL.skip rfl rfl ?_
    refine RL.skip rfl rfl ?_
    refine RL.skip rfl rfl ?_
    refine RL.pickF rfl rfl rfl rfl ?_
    refine RL.asg rfl rfl rfl ?_
    refine RL.fin ?_
    cases h216
    exact fun a w st => mid_intro false h217 (St.cut [] ⟨rfl, trivial⟩ (by decide) rfl st)
   replace h216 := ite_f b226 h216
   refine RL.skip rfl rfl ?_
   refine RL.skip rfl rfl ?_
   refine RL.skip rfl rfl ?_
   refine RL.pickF rfl rfl rfl rfl ?_
   refine RL.mv rfl rfl rfl ?_
   refine RL.skip rfl rfl ?_
   refine RL.skip rfl rfl ?_
   refine RL.skip rfl rfl ?_
   refine RL.pickF rfl rfl rfl rfl ?_
   refine RL.mv rfl rfl rfl ?_
   refine RL.skip rfl rfl ?_
   refine RL.skip rfl rfl ?_
   refine RL.skip rfl rfl ?_
   refine RL.pickF rfl rfl rfl rfl ?_
   refine RL.mv rfl rfl rfl ?_
   refine RL.skip rfl rfl ?_
   refine RL.skip rfl rfl ?_
   refine RL.skip rfl rfl ?_
   refine RL.pickF rfl rfl rfl rfl ?_
   refine RL.asg rfl rfl rfl ?_
   refine RL.fin ?_
   cases h216
   exact fun a w st => mid_intro false h217 (St.cut [] ⟨rfl, trivial⟩ (by decide) rfl st)
  replace h216 := ite_f b223 h216
  refine RL.skip rfl rfl ?_
  refine RL.skip rfl rfl ?_
  refine RL.skip rfl rfl ?_
  refine RL.pickF rfl rfl rfl rfl ?_
  refine RL.mv rfl rfl rfl ?_
  refine RL.skip rfl rfl ?_
  refine RL.skip rfl rfl ?_
  refine RL.skip rfl rfl ?_
  refine RL.pickF rfl rfl rfl rfl ?_
  refine RL.mv rfl rfl rfl ?_
  refine RL.skip rfl rfl ?_
  refine RL.skip rfl rfl ?_
  refine RL.skip rfl rfl ?_
  refine RL.pickF rfl rfl rfl rfl ?_
  refine RL.mv rfl rfl rfl ?_
  refine RL.skip rfl rfl ?_
  refine RL.skip rfl rfl ?_
  refine RL.skip rfl rfl ?_
  refine RL.pickF rfl rfl rfl rfl ?_
  refine RL.mv rfl rfl rfl ?_
  refine RL.skip rfl rfl ?_
  refine RL.skip rfl rfl ?_
  refine RL.skip rfl rfl ?_
  refine RL.pickF rfl rfl rfl rfl ?_
  refine RL.asg rfl rfl rfl ?_
  refine RL.fin ?_
  cases h216
  exact fun a w st => mid_intro false h217 (St.cut [] ⟨rfl, trivial⟩ (by decide) rfl st)
 rintro x213 h234
 have h235 := h218 _ h234
 try dsimp only at h235
 refine GL.weak (env' := [(10, .bool x213)]) (L' := []) (fun _ _ st => st) ?_
 have h235 := Option.some.inj h235
 subst h235
 exact GL.ret (Gx.ret (v := .bool x213) (res1 rfl rfl) (fun a w st => st.toPostV))
end Go.Wk
