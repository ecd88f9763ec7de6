/- Each function comes to what its model says; printed by a program of this repository. -/
import Derived.Test.YtfekdillbgblkaaProg
import Derived.Test.YtfekdillbgblkaaWListsOwnModels
import Derived.Test.YtfekdillbgblkaaWListsOwnWalks1
namespace Go.Wk
open Go.Fw Go.Mo Go.Proofs Go.RowKit
set_option linter.all false
set_option maxRecDepth 100000

set_option maxHeartbeats 4000000 in
theorem slices_stableCmpFunc_int_c (B : World) (S X : Hp) (f : Nat → Hp) (w : World) (v0 : Value) (x0 : (List Int)) (hO : HeapOk B.heap.size S f [own 3 TR.int v0 x0, keep X].length w) (hB : Below B.heap.size B w) (hI : Its [own 3 TR.int v0 x0, keep X] S f) (x1 : Int) (f2 : FuncId) (c2 : Array Value) (t2 : Fit Try.prog f2) (g2 : Int → Int → Option Int) (k2 : ∀ (U : Hp) (w' : World), Hp.le S U → U.sub w' → ∀ (a0 : Int) (a1 : Int) (rr : Int), g2 a0 a1 = some rr → Calls Try.prog f2 (#[.int .i64 a0, .int .i64 a1] ++ c2) w' (PostV w' (.int .i64 rr))) (res : (List Int)) (hm : slices_stableCmpFunc_int_m x0 x1 g2 = some res) : Calls Try.prog 131 #[v0, .int .i64 x1, .func (.func f2) #[] c2] w (PostM B S (fun (o : Unit) => .tuple #[]) (fun (o : Unit) => [own 3 TR.int v0 res, keep X])) := by
 refine calls_enterM 63 Try.func131 Try.ntmps131 rfl B S f [(0, v0), (1, .int .i64 x1), (2, .func (.func f2) #[] c2)] [own 3 TR.int v0 x0, keep X] [] rfl ⟨rfl, ⟨rfl, ⟨rfl, trivial⟩⟩⟩ hB hO hI trivial ?_
 unfold slices_stableCmpFunc_int_m at hm
 refine GL.seq ?_
 refine GL.region ?_
 refine RL.asg rfl rfl rfl ?_
 refine RL.finG ?_
 refine GL.seq ?_
 refine GL.region ?_
 refine RL.mv rfl rfl rfl ?_
 refine RL.asg rfl rfl rfl ?_
 refine RL.asg rfl rfl rfl ?_
 refine RL.finG ?_
 refine GL.seq ?_
 obtain ⟨y27, K28, h29, h30, h31, h32, h33⟩ := bindR_K hm
 refine GL.join (ι := (List Int) × Int × Int) (fun (p : (List Int) × Int × Int) => [(0, v0), (1, .int .i64 x1), (2, .func (.func f2) #[] c2), (6, .int .i64 (20 : Int)), (7, .int .i64 p.2.1)]) (fun (p : (List Int) × Int × Int) => [own 3 TR.int v0 p.1, keep X]) (fun (p : (List Int) × Int × Int) => K28 (.nx (p.1, p.2.1, p.2.2))) ?_ ?_
 ·refine GL.block ?_
  refine GL.loop (ι := Nat × (List Int) × Int × Int) (fun (p : Nat × (List Int) × Int × Int) => [(0, v0), (1, .int .i64 x1), (2, .func (.func f2) #[] c2), (6, .int .i64 (20 : Int)), (7, .int .i64 p.2.2.1), (8, .int .i64 p.2.2.2)]) (fun (p : Nat × (List Int) × Int × Int) => [own 3 TR.int v0 p.2.1, keep X]) (fun (p : Nat × (List Int) × Int × Int) => loopM (slices_stableCmpFunc_int_b1 x1 g2) p.1 (p.2.1, p.2.2.1, p.2.2.2) = some y27) (fun (p : Nat × (List Int) × Int × Int) => p.1) (1048576, x0, (0 : Int), (20 : Int)) h29 (fun a w st => St.cut [0, 1] ⟨rfl, rfl, rfl, rfl, rfl, rfl, trivial⟩ (by decide) rfl st) ?_
  rintro ⟨r35, l15, x16, x17⟩ h39
  try dsimp only at h39
  refine GL.weak (env' := [(0, v0), (1, .int .i64 x1), (2, .func (.func f2) #[] c2), (6, .int .i64 (20 : Int)), (7, .int .i64 x16), (8, .int .i64 x17)]) (L' := [own 3 TR.int v0 l15, keep X]) (fun _ _ st => st) ?_
  obtain ⟨r42, z36, hr, h37, h38⟩ := loopM_some h39
  subst hr
  unfold slices_stableCmpFunc_int_b1 at h37
  try dsimp only at h37
  refine GL.seq ?_
  refine GL.seq ?_
  refine GL.region ?_
  refine RL.mv rfl rfl rfl ?_
  refine RL.mv rfl rfl rfl ?_
  refine RL.binI (v := .bool (decide (x17 ≤ x1))) rfl rfl rfl rfl rfl ?_
  refine RL.finG ?_
  refine GL.cond rfl (fun b43 => ?_) (fun b43 => ?_)
  ·replace h37 := ite_t b43 h37
   refine GL.skip ?_
   refine GL.block ?_
   refine GL.seq ?_
   refine GL.region ?_
   refine RL.mv rfl rfl rfl ?_
   refine RL.mv rfl rfl rfl ?_
   refine RL.mv rfl rfl rfl ?_
   refine RL.mv rfl rfl rfl ?_
   obtain ⟨y50, e51, h37⟩ := bind_some h37
   refine RL.callK (vs := [v0, .int .i64 x16, .int .i64 x17, .func (.func f2) #[] c2]) (V := fun (o : Unit) => .tuple #[]) (LR := fun (o : Unit) => [own 3 TR.int v0 y50]) (Ls := [own 3 TR.int v0 l15]) [0] (by decide) Try_fit134 rfl rfl rfl rfl rfl rfl (fun S f X w hO hB hW hI hL => slices_insertionSortCmpFunc_int_c _ S X f w _ _  hO hB hI x16 x17 f2 c2 t2 g2 (fun U' w' hle => k2 U' w' (Hp.le_trans hW hle)) _ e51) ?_
   intro _
   refine RL.reL (L' := [gone, keep X, own 3 TR.int v0 y50]) rfl ?_
   refine RL.finG ?_
   refine GL.seq ?_
   refine GL.region ?_
   refine RL.mv rfl rfl rfl ?_
   refine RL.asg rfl rfl rfl ?_
   refine RL.finG ?_
   refine GL.region ?_
   refine RL.mv rfl rfl rfl ?_
   refine RL.mv rfl rfl rfl ?_
   refine RL.binI (v := .int .i64 (wadd x17 (20 : Int))) rfl rfl rfl rfl rfl ?_
   refine RL.asg rfl rfl rfl ?_
   refine RL.finG ?_
   refine GL.nilB ?_
   cases h37
   exact fun a w st => lop_intro (r42, y50, x17, wadd x17 (20 : Int)) (by exact h38) (by simp) (St.cut [2, 1] ⟨rfl, rfl, rfl, rfl, rfl, rfl, trivial⟩ (by decide) rfl st)
  replace h37 := ite_f b43 h37
  cases h37
  replace h38 : some (Fl.nx _) = some y27 := h38
  cases h38
  exact GL.exit (fun a w st => mid_intro (l15, x16, x17) h30 (St.cut [0, 1] ⟨rfl, rfl, rfl, rfl, rfl, trivial⟩ (by decide) rfl st))
 rintro ⟨l15, x16, x17⟩ h52
 have h53 := h31 _ h52
 try dsimp only at h53
 refine GL.weak (env' := [(0, v0), (1, .int .i64 x1), (2, .func (.func f2) #[] c2), (6, .int .i64 (20 : Int)), (7, .int .i64 x16)]) (L' := [own 3 TR.int v0 l15, keep X]) (fun _ _ st => st) ?_
 refine GL.seq ?_
 refine GL.region ?_
 refine RL.mv rfl rfl rfl ?_
 refine RL.mv rfl rfl rfl ?_
 refine RL.mv rfl rfl rfl ?_
 refine RL.mv rfl rfl rfl ?_
 obtain ⟨y56, e57, h53⟩ := bind_some h53
 refine RL.callK (vs := [v0, .int .i64 x16, .int .i64 x1, .func (.func f2) #[] c2]) (V := fun (o : Unit) => .tuple #[]) (LR := fun (o : Unit) => [own 3 TR.int v0 y56]) (Ls := [own 3 TR.int v0 l15]) [0] (by decide) Try_fit134 rfl rfl rfl rfl rfl rfl (fun S f X w hO hB hW hI hL => slices_insertionSortCmpFunc_int_c _ S X f w _ _  hO hB hI x16 x1 f2 c2 t2 g2 (fun U' w' hle => k2 U' w' (Hp.le_trans hW hle)) _ e57) ?_
 intro _
 refine RL.reL (L' := [gone, keep X, own 3 TR.int v0 y56]) rfl ?_
 refine RL.finG ?_
 obtain ⟨y106, K107, h108, h109, h110, h111, h112⟩ := bindR_K h53
 refine GL.join (ι := Int) (fun (p : Int) => []) (fun (p : Int) => [own 3 TR.int v0 y56, keep X]) (fun (p : Int) => K107 (.nx p)) ?_ ?_
 ·refine GL.block ?_
  refine GL.loop (ι := Nat × Int) (fun (p : Nat × Int) => [(0, v0), (1, .int .i64 x1), (2, .func (.func f2) #[] c2), (6, .int .i64 p.2)]) (fun (p : Nat × Int) => [own 3 TR.int v0 y56, keep X]) (fun (p : Nat × Int) => loopM (slices_stableCmpFunc_int_b2 x1) p.1 p.2 = some y106) (fun (p : Nat × Int) => p.1) (1048576, (20 : Int)) h108 (fun a w st => St.cut [2, 1] ⟨rfl, rfl, rfl, rfl, trivial⟩ (by decide) rfl st) ?_
  rintro ⟨r114, x58⟩ h118
  try dsimp only at h118
  refine GL.weak (env' := [(0, v0), (1, .int .i64 x1), (2, .func (.func f2) #[] c2), (6, .int .i64 x58)]) (L' := [own 3 TR.int v0 y56, keep X]) (fun _ _ st => st) ?_
  obtain ⟨r121, z115, hr, h116, h117⟩ := loopM_some h118
  subst hr
  unfold slices_stableCmpFunc_int_b2 at h116
  try dsimp only at h116
  refine GL.seq ?_
  refine GL.seq ?_
  refine GL.region ?_
  refine RL.mv rfl rfl rfl ?_
  refine RL.mv rfl rfl rfl ?_
  refine RL.binI (v := .bool (decide (x58 < x1))) rfl rfl rfl rfl rfl ?_
  refine RL.finG ?_
  refine GL.cond rfl (fun b122 => ?_) (fun b122 => ?_)
  ·replace h116 := ite_t b122 h116
   refine GL.skip ?_
   refine GL.block ?_
   refine GL.seq ?_
   refine GL.region ?_
   refine RL.mv rfl rfl rfl ?_
   refine RL.binI (v := .int .i64 (wmul (2 : Int) x58)) rfl rfl rfl rfl rfl ?_
   refine RL.asg rfl rfl rfl ?_
   refine RL.asg rfl rfl rfl ?_
   refine RL.finG ?_
   refine GL.seq ?_
   obtain ⟨y149, K150, h151, h152, h153, h154, h155⟩ := bindF_K h116
   refine GL.join (ι := Int × Int) (fun (p : Int × Int) => [(0, v0), (1, .int .i64 x1), (2, .func (.func f2) #[] c2), (6, .int .i64 x58), (7, .int .i64 p.1)]) (fun (p : Int × Int) => [own 3 TR.int v0 y56, keep X]) (fun (p : Int × Int) => K150 (.nx (p.1, p.2))) ?_ ?_
   ·refine GL.block ?_
    refine GL.loop (ι := Nat × Int × Int) (fun (p : Nat × Int × Int) => [(0, v0), (1, .int .i64 x1), (2, .func (.func f2) #[] c2), (6, .int .i64 x58), (7, .int .i64 p.2.1), (8, .int .i64 p.2.2)]) (fun (p : Nat × Int × Int) => [own 3 TR.int v0 y56, keep X]) (fun (p : Nat × Int × Int) => loopM (slices_stableCmpFunc_int_b3 x1) p.1 (p.2.1, p.2.2) = some y149) (fun (p : Nat × Int × Int) => p.1) (1048576, (0 : Int), wmul (2 : Int) x58) h151 (fun a w st => St.cut [0, 1] ⟨rfl, rfl, rfl, rfl, rfl, rfl, trivial⟩ (by decide) rfl st) ?_
    rintro ⟨r157, x146, x147⟩ h161
    try dsimp only at h161
    refine GL.weak (env' := [(0, v0), (1, .int .i64 x1), (2, .func (.func f2) #[] c2), (6, .int .i64 x58), (7, .int .i64 x146), (8, .int .i64 x147)]) (L' := [own 3 TR.int v0 y56, keep X]) (fun _ _ st => st) ?_
    obtain ⟨r164, z158, hr, h159, h160⟩ := loopM_some h161
    subst hr
    unfold slices_stableCmpFunc_int_b3 at h159
    try dsimp only at h159
    refine GL.seq ?_
    refine GL.seq ?_
    refine GL.region ?_
    refine RL.mv rfl rfl rfl ?_
    refine RL.mv rfl rfl rfl ?_
    refine RL.binI (v := .bool (decide (x147 ≤ x1))) rfl rfl rfl rfl rfl ?_
    refine RL.finG ?_
    refine GL.cond rfl (fun b165 => ?_) (fun b165 => ?_)
    ·replace h159 := ite_t b165 h159
     cases h159
    replace h159 := ite_f b165 h159
    cases h159
    replace h160 : some (Fl.nx _) = some y149 := h160
    cases h160
    exact GL.exit (fun a w st => mid_intro (x146, x147) h152 (St.cut [0, 1] ⟨rfl, rfl, rfl, rfl, rfl, trivial⟩ (by decide) rfl st))
   rintro ⟨x146, x147⟩ h166
   have h167 := h153 _ h166
   try dsimp only at h167
   refine GL.weak (env' := [(0, v0), (1, .int .i64 x1), (2, .func (.func f2) #[] c2), (6, .int .i64 x58), (7, .int .i64 x146)]) (L' := [own 3 TR.int v0 y56, keep X]) (fun _ _ st => st) ?_
   refine GL.seq ?_
   refine GL.seq ?_
   refine GL.region ?_
   refine RL.mv rfl rfl rfl ?_
   refine RL.mv rfl rfl rfl ?_
   refine RL.binI (v := .int .i64 (wadd x146 x58)) rfl rfl rfl rfl rfl ?_
   refine RL.asg rfl rfl rfl ?_
   refine RL.finG ?_
   refine GL.seq ?_
   refine GL.region ?_
   refine RL.mv rfl rfl rfl ?_
   refine RL.mv rfl rfl rfl ?_
   refine RL.binI (v := .bool (decide ((wadd x146 x58) < x1))) rfl rfl rfl rfl rfl ?_
   refine RL.finG ?_
   refine GL.cond rfl (fun b168 => ?_) (fun b168 => ?_)
   ·replace h167 := ite_t b168 h167
    cases h167
   replace h167 := ite_f b168 h167
   refine GL.skip ?_
   refine GL.region ?_
   refine RL.mv rfl rfl rfl ?_
   refine RL.binI (v := .int .i64 (wmul x58 (2 : Int))) rfl rfl rfl rfl rfl ?_
   refine RL.asg rfl rfl rfl ?_
   refine RL.finG ?_
   refine GL.nilB ?_
   cases h167
   exact fun a w st => lop_intro (r121, wmul x58 (2 : Int)) (by exact h117) (by simp) (St.cut [0, 1] ⟨rfl, rfl, rfl, rfl, trivial⟩ (by decide) rfl st)
  replace h116 := ite_f b122 h116
  cases h116
  replace h117 : some (Fl.nx _) = some y106 := h117
  cases h117
  exact GL.exit (fun a w st => mid_intro x58 h109 (St.cut [0, 1] trivial (by decide) rfl st))
 rintro x58 h169
 have h170 := h110 _ h169
 try dsimp only at h170
 refine GL.weak (env' := []) (L' := [own 3 TR.int v0 y56, keep X]) (fun _ _ st => st) ?_
 have h170 := Option.some.inj h170
 subst h170
 exact GL.nil (Gx.retN (v := .tuple #[]) (res0 rfl) (fun a w st => (st.pick [0, 1] (by decide) rfl).toPostM (V := fun (o : Unit) => .tuple #[]) (LR := fun (o : Unit) => [own 3 TR.int v0 y56, keep X]) ()))

set_option maxHeartbeats 4000000 in
theorem slices_SortStableFunc_int_int_c (B : World) (S X : Hp) (f : Nat → Hp) (w : World) (v0 : Value) (x0 : (List Int)) (hO : HeapOk B.heap.size S f [own 3 TR.int v0 x0, keep X].length w) (hB : Below B.heap.size B w) (hI : Its [own 3 TR.int v0 x0, keep X] S f) (f1 : FuncId) (c1 : Array Value) (t1 : Fit Try.prog f1) (g1 : Int → Int → Option Int) (k1 : ∀ (U : Hp) (w' : World), Hp.le S U → U.sub w' → ∀ (a0 : Int) (a1 : Int) (rr : Int), g1 a0 a1 = some rr → Calls Try.prog f1 (#[.int .i64 a0, .int .i64 a1] ++ c1) w' (PostV w' (.int .i64 rr))) (res : (List Int)) (hm : slices_SortStableFunc_int_int_m x0 g1 = some res) : Calls Try.prog 119 #[v0, .func (.func f1) #[] c1] w (PostM B S (fun (o : Unit) => .tuple #[]) (fun (o : Unit) => [own 3 TR.int v0 res, keep X])) := by
 refine calls_enterM 9 Try.func119 Try.ntmps119 rfl B S f [(0, v0), (1, .func (.func f1) #[] c1)] [own 3 TR.int v0 x0, keep X] [] rfl ⟨rfl, ⟨rfl, trivial⟩⟩ hB hO hI trivial ?_
 unfold slices_SortStableFunc_int_int_m at hm
 refine GL.region ?_
 refine RL.mv rfl rfl rfl ?_
 refine RL.mv rfl rfl rfl ?_
 refine RL.lenS 0 Try.underlying24 rfl rfl rfl rfl SlOf.own ?_
 refine RL.mv rfl rfl rfl ?_
 obtain ⟨y5, e6, hm⟩ := bind_some hm
 refine RL.callK (vs := [v0, .int .i64 ((x0).length : Int), .func (.func f1) #[] c1]) (V := fun (o : Unit) => .tuple #[]) (LR := fun (o : Unit) => [own 3 TR.int v0 y5]) (Ls := [own 3 TR.int v0 x0]) [0] (by decide) Try_fit131 rfl rfl rfl rfl rfl rfl (fun S f X w hO hB hW hI hL => slices_stableCmpFunc_int_c _ S X f w _ _  hO hB hI ((x0).length : Int) f1 c1 t1 g1 (fun U' w' hle => k1 U' w' (Hp.le_trans hW hle)) _ e6) ?_
 intro _
 refine RL.reL (L' := [gone, keep X, own 3 TR.int v0 y5]) rfl ?_
 refine RL.finG ?_
 have hm := Option.some.inj hm
 subst hm
 exact GL.nil (Gx.retN (v := .tuple #[]) (res0 rfl) (fun a w st => (st.pick [2, 1] (by decide) rfl).toPostM (V := fun (o : Unit) => .tuple #[]) (LR := fun (o : Unit) => [own 3 TR.int v0 y5, keep X]) ()))

set_option maxHeartbeats 4000000 in
theorem units_Sell_1_c (S : Hp) (w : World) (hS : S.sub w) (x0 : Int) (x1 : Int) (v2 : Value) (x2 : (List Int)) (k2 : ((TR.ptr (TR.sl TR.int))).vrep S v2 x2) (res : Int) (hm : units_Sell_1_m x0 x1 x2 = some res) : Calls Try.prog 120 #[.int .i64 x0, .int .i64 x1, v2] w (PostV w (.int .i64 res)) := by
 refine calls_enter 15 Try.func120 Try.ntmps120 rfl S false [(0, .int .i64 x0), (1, .int .i64 x1), (2, v2)] [imm (TR.ptr (TR.sl TR.int)) v2 x2] rfl ⟨rfl, ⟨rfl, ⟨rfl, trivial⟩⟩⟩ hS ⟨k2, trivial⟩ ?_
 unfold units_Sell_1_m at hm
 refine GL.seq ?_
 refine GL.region ?_
 refine RL.asg rfl rfl rfl ?_
 refine RL.finG ?_
 refine GL.seq ?_
 refine GL.regionQ rfl rfl (by kernel_rfl) ?_
 refine RL.ldP (off := 0) (r := (TR.sl TR.int)) (e' := x2) 0 Try_ln24 rfl rfl (Or.inr ⟨rfl, rfl⟩) rfl PtOf.imm Part.self ?_
 intro v10
 refine RL.mv rfl rfl rfl ?_
 obtain ⟨y11, e12, hm⟩ := bind_some hm
 refine RL.idxS (sz := 1) 1 Try.underlying24 Try_ln3 rfl rfl rfl rfl rfl SlOf.imm (idx_some e12).1 (idx_some e12).2.1 ?_
 refine RL.ldSx (i := (x1).toNat) (e' := y11) 1 Ex.ik Try_ln3 rfl rfl rfl rfl SlOf.imm (idx_some e12).2.2 Part.self ?_
 refine RL.ldP (off := 0) (r := (TR.sl TR.int)) (e' := x2) 0 Try_ln24 rfl rfl (Or.inr ⟨rfl, rfl⟩) rfl PtOf.imm Part.self ?_
 intro v13
 refine RL.reL (L' := [imm (TR.ptr (TR.sl TR.int)) v2 x2, imm (TR.sl TR.int) v10 x2, imm (TR.sl TR.int) v13 x2]) rfl ?_
 refine RL.mv rfl rfl rfl ?_
 obtain ⟨y14, e15, hm⟩ := bind_some hm
 refine RL.idxS (sz := 1) 2 Try.underlying24 Try_ln3 rfl rfl rfl rfl rfl SlOf.imm (idx_some e15).1 (idx_some e15).2.1 ?_
 refine RL.ldSx (i := (x0).toNat) (e' := y14) 2 Ex.ik Try_ln3 rfl rfl rfl rfl SlOf.imm (idx_some e15).2.2 Part.self ?_
 refine RL.binI (v := .int .i64 (wsub y11 y14)) rfl rfl rfl rfl rfl ?_
 refine RL.asg rfl rfl rfl ?_
 refine RL.finQG ?_
 have hm := Option.some.inj hm
 subst hm
 exact GL.ret (Gx.ret (v := .int .i64 (wsub y11 y14)) (res1 rfl rfl) (fun a w st => st.toPostV))

set_option maxHeartbeats 4000000 in
theorem math_bits_Len32_c (S : Hp) (w : World) (hS : S.sub w) (x0 : Int) (res : Int) (hm : math_bits_Len32_m x0 = some res) : Calls Try.prog 145 #[.int .u32 x0] w (PostC w (.int .i64 res)) := by
 refine calls_enter 19 Try.func145 Try.ntmps145 rfl S true [(0, .int .u32 x0)] [] rfl ⟨rfl, trivial⟩ hS trivial ?_
 unfold math_bits_Len32_m at hm
 refine GL.seq ?_
 refine GL.region ?_
 refine RL.asg rfl rfl rfl ?_
 refine RL.finG ?_
 refine GL.seq ?_
 refine GL.seq ?_
 refine GL.region ?_
 refine RL.mv rfl rfl rfl ?_
 refine RL.binI (v := .bool (decide (x0 ≥ (65536 : Int)))) rfl rfl rfl rfl rfl ?_
 refine RL.finG ?_
 obtain ⟨y9, K10, h11, h12, h13, h14, h15⟩ := bindR_K hm
 refine GL.join (ι := Int × Int) (fun (p : Int × Int) => [(0, .int .u32 p.1), (2, .int .i64 p.2)]) (fun (p : Int × Int) => []) (fun (p : Int × Int) => K10 (.nx (p.1, p.2))) ?_ ?_
 ·skip
  refine GL.cond rfl (fun b16 => ?_) (fun b16 => ?_)
  ·replace h11 := ite_t b16 h11
   refine GL.seq ?_
   refine GL.region ?_
   refine RL.mv rfl rfl rfl ?_
   obtain ⟨y19, e20, h11⟩ := bind_some h11
   replace e20 := chk_some e20
   refine RL.sh (by simp) rfl rfl rfl rfl e20 ?_
   refine RL.asg rfl rfl rfl ?_
   refine RL.finG ?_
   refine GL.region ?_
   refine RL.asg rfl rfl rfl ?_
   refine RL.finG ?_
   cases h11
   exact fun a w st => mid_intro (Int.fdiv x0 (2 ^ (min (16 : Int).toNat (IntKind.bits .u32))), (16 : Int)) h12 (St.cut [] ⟨rfl, rfl, trivial⟩ (by decide) rfl st)
  replace h11 := ite_f b16 h11
  refine GL.skip ?_
  cases h11
  exact fun a w st => mid_intro (x0, (0 : Int)) h12 (St.cut [] ⟨rfl, rfl, trivial⟩ (by decide) rfl st)
 rintro ⟨x7, x8⟩ h21
 have h22 := h13 _ h21
 try dsimp only at h22
 refine GL.weak (env' := [(0, .int .u32 x7), (2, .int .i64 x8)]) (L' := []) (fun _ _ st => st) ?_
 refine GL.seq ?_
 refine GL.seq ?_
 refine GL.region ?_
 refine RL.mv rfl rfl rfl ?_
 refine RL.binI (v := .bool (decide (x7 ≥ (256 : Int)))) rfl rfl rfl rfl rfl ?_
 refine RL.finG ?_
 obtain ⟨y30, K31, h32, h33, h34, h35, h36⟩ := bindR_K h22
 refine GL.join (ι := Int × Int) (fun (p : Int × Int) => [(0, .int .u32 p.1), (2, .int .i64 p.2)]) (fun (p : Int × Int) => []) (fun (p : Int × Int) => K31 (.nx (p.1, p.2))) ?_ ?_
 ·skip
  refine GL.cond rfl (fun b37 => ?_) (fun b37 => ?_)
  ·replace h32 := ite_t b37 h32
   refine GL.seq ?_
   refine GL.region ?_
   refine RL.mv rfl rfl rfl ?_
   obtain ⟨y40, e41, h32⟩ := bind_some h32
   replace e41 := chk_some e41
   refine RL.sh (by simp) rfl rfl rfl rfl e41 ?_
   refine RL.asg rfl rfl rfl ?_
   refine RL.finG ?_
   refine GL.region ?_
   refine RL.mv rfl rfl rfl ?_
   refine RL.binI (v := .int .i64 (wadd x8 (8 : Int))) rfl rfl rfl rfl rfl ?_
   refine RL.asg rfl rfl rfl ?_
   refine RL.finG ?_
   cases h32
   exact fun a w st => mid_intro (Int.fdiv x7 (2 ^ (min (8 : Int).toNat (IntKind.bits .u32))), wadd x8 (8 : Int)) h33 (St.cut [] ⟨rfl, rfl, trivial⟩ (by decide) rfl st)
  replace h32 := ite_f b37 h32
  refine GL.skip ?_
  cases h32
  exact fun a w st => mid_intro (x7, x8) h33 (St.cut [] ⟨rfl, rfl, trivial⟩ (by decide) rfl st)
 rintro ⟨x28, x29⟩ h42
 have h43 := h34 _ h42
 try dsimp only at h43
 refine GL.weak (env' := [(0, .int .u32 x28), (2, .int .i64 x29)]) (L' := []) (fun _ _ st => st) ?_
 refine GL.seq ?_
 refine GL.region ?_
 refine RL.mv rfl rfl rfl ?_
 refine RL.mv rfl rfl rfl ?_
 refine RL.cvI Try.underlying160 Try.underlying5 rfl rfl rfl ?_
 obtain ⟨y46, e47, h43⟩ := bind_some h43
 refine RL.idxT Try.underlying9 rfl rfl rfl rfl (idx_some e47).1 (idx_some e47).2.2 ?_
 refine RL.cvI Try.underlying5 Try.underlying3 rfl rfl rfl ?_
 refine RL.binI (v := .int .i64 (wadd x29 (IntKind.wrap .i64 (y46.toNat : Int)))) rfl rfl rfl rfl rfl ?_
 refine RL.asg rfl rfl rfl ?_
 refine RL.finG ?_
 have h43 := Option.some.inj h43
 subst h43
 exact GL.ret (Gx.ret (v := .int .i64 (wadd x29 (IntKind.wrap .i64 (y46.toNat : Int)))) (res1 rfl rfl) (fun a w st => st.toPostC rfl))

set_option maxHeartbeats 4000000 in
theorem math_bits_Len64_c (S : Hp) (w : World) (hS : S.sub w) (x0 : Int) (res : Int) (hm : math_bits_Len64_m x0 = some res) : Calls Try.prog 146 #[.int .u64 x0] w (PostC w (.int .i64 res)) := by
 refine calls_enter 25 Try.func146 Try.ntmps146 rfl S true [(0, .int .u64 x0)] [] rfl ⟨rfl, trivial⟩ hS trivial ?_
 unfold math_bits_Len64_m at hm
 refine GL.seq ?_
 refine GL.region ?_
 refine RL.asg rfl rfl rfl ?_
 refine RL.finG ?_
 refine GL.seq ?_
 refine GL.seq ?_
 refine GL.region ?_
 refine RL.mv rfl rfl rfl ?_
 refine RL.binI (v := .bool (decide (x0 ≥ (4294967296 : Int)))) rfl rfl rfl rfl rfl ?_
 refine RL.finG ?_
 obtain ⟨y9, K10, h11, h12, h13, h14, h15⟩ := bindR_K hm
 refine GL.join (ι := Int × Int) (fun (p : Int × Int) => [(0, .int .u64 p.1), (2, .int .i64 p.2)]) (fun (p : Int × Int) => []) (fun (p : Int × Int) => K10 (.nx (p.1, p.2))) ?_ ?_
 ·skip
  refine GL.cond rfl (fun b16 => ?_) (fun b16 => ?_)
  ·replace h11 := ite_t b16 h11
   refine GL.seq ?_
   refine GL.region ?_
   refine RL.mv rfl rfl rfl ?_
   obtain ⟨y19, e20, h11⟩ := bind_some h11
   replace e20 := chk_some e20
   refine RL.sh (by simp) rfl rfl rfl rfl e20 ?_
   refine RL.asg rfl rfl rfl ?_
   refine RL.finG ?_
   refine GL.region ?_
   refine RL.asg rfl rfl rfl ?_
   refine RL.finG ?_
   cases h11
   exact fun a w st => mid_intro (Int.fdiv x0 (2 ^ (min (32 : Int).toNat (IntKind.bits .u64))), (32 : Int)) h12 (St.cut [] ⟨rfl, rfl, trivial⟩ (by decide) rfl st)
  replace h11 := ite_f b16 h11
  refine GL.skip ?_
  cases h11
  exact fun a w st => mid_intro (x0, (0 : Int)) h12 (St.cut [] ⟨rfl, rfl, trivial⟩ (by decide) rfl st)
 rintro ⟨x7, x8⟩ h21
 have h22 := h13 _ h21
 try dsimp only at h22
 refine GL.weak (env' := [(0, .int .u64 x7), (2, .int .i64 x8)]) (L' := []) (fun _ _ st => st) ?_
 refine GL.seq ?_
 refine GL.seq ?_
 refine GL.region ?_
 refine RL.mv rfl rfl rfl ?_
 refine RL.binI (v := .bool (decide (x7 ≥ (65536 : Int)))) rfl rfl rfl rfl rfl ?_
 refine RL.finG ?_
 obtain ⟨y30, K31, h32, h33, h34, h35, h36⟩ := bindR_K h22
 refine GL.join (ι := Int × Int) (fun (p : Int × Int) => [(0, .int .u64 p.1), (2, .int .i64 p.2)]) (fun (p : Int × Int) => []) (fun (p : Int × Int) => K31 (.nx (p.1, p.2))) ?_ ?_
 ·skip
  refine GL.cond rfl (fun b37 => ?_) (fun b37 => ?_)
  ·replace h32 := ite_t b37 h32
   refine GL.seq ?_
   refine GL.region ?_
   refine RL.mv rfl rfl rfl ?_
   obtain ⟨y40, e41, h32⟩ := bind_some h32
   replace e41 := chk_some e41
   refine RL.sh (by simp) rfl rfl rfl rfl e41 ?_
   refine RL.asg rfl rfl rfl ?_
   refine RL.finG ?_
   refine GL.region ?_
   refine RL.mv rfl rfl rfl ?_
   refine RL.binI (v := .int .i64 (wadd x8 (16 : Int))) rfl rfl rfl rfl rfl ?_
   refine RL.asg rfl rfl rfl ?_
   refine RL.finG ?_
   cases h32
   exact fun a w st => mid_intro (Int.fdiv x7 (2 ^ (min (16 : Int).toNat (IntKind.bits .u64))), wadd x8 (16 : Int)) h33 (St.cut [] ⟨rfl, rfl, trivial⟩ (by decide) rfl st)
  replace h32 := ite_f b37 h32
  refine GL.skip ?_
  cases h32
  exact fun a w st => mid_intro (x7, x8) h33 (St.cut [] ⟨rfl, rfl, trivial⟩ (by decide) rfl st)
 rintro ⟨x28, x29⟩ h42
 have h43 := h34 _ h42
 try dsimp only at h43
 refine GL.weak (env' := [(0, .int .u64 x28), (2, .int .i64 x29)]) (L' := []) (fun _ _ st => st) ?_
 refine GL.seq ?_
 refine GL.seq ?_
 refine GL.region ?_
 refine RL.mv rfl rfl rfl ?_
 refine RL.binI (v := .bool (decide (x28 ≥ (256 : Int)))) rfl rfl rfl rfl rfl ?_
 refine RL.finG ?_
 obtain ⟨y51, K52, h53, h54, h55, h56, h57⟩ := bindR_K h43
 refine GL.join (ι := Int × Int) (fun (p : Int × Int) => [(0, .int .u64 p.1), (2, .int .i64 p.2)]) (fun (p : Int × Int) => []) (fun (p : Int × Int) => K52 (.nx (p.1, p.2))) ?_ ?_
 ·skip
  refine GL.cond rfl (fun b58 => ?_) (fun b58 => ?_)
  ·replace h53 := ite_t b58 h53
   refine GL.seq ?_
   refine GL.region ?_
   refine RL.mv rfl rfl rfl ?_
   obtain ⟨y61, e62, h53⟩ := bind_some h53
   replace e62 := chk_some e62
   refine RL.sh (by simp) rfl rfl rfl rfl e62 ?_
   refine RL.asg rfl rfl rfl ?_
   refine RL.finG ?_
   refine GL.region ?_
   refine RL.mv rfl rfl rfl ?_
   refine RL.binI (v := .int .i64 (wadd x29 (8 : Int))) rfl rfl rfl rfl rfl ?_
   refine RL.asg rfl rfl rfl ?_
   refine RL.finG ?_
   cases h53
   exact fun a w st => mid_intro (Int.fdiv x28 (2 ^ (min (8 : Int).toNat (IntKind.bits .u64))), wadd x29 (8 : Int)) h54 (St.cut [] ⟨rfl, rfl, trivial⟩ (by decide) rfl st)
  replace h53 := ite_f b58 h53
  refine GL.skip ?_
  cases h53
  exact fun a w st => mid_intro (x28, x29) h54 (St.cut [] ⟨rfl, rfl, trivial⟩ (by decide) rfl st)
 rintro ⟨x49, x50⟩ h63
 have h64 := h55 _ h63
 try dsimp only at h64
 refine GL.weak (env' := [(0, .int .u64 x49), (2, .int .i64 x50)]) (L' := []) (fun _ _ st => st) ?_
 refine GL.seq ?_
 refine GL.region ?_
 refine RL.mv rfl rfl rfl ?_
 refine RL.mv rfl rfl rfl ?_
 refine RL.cvI Try.underlying162 Try.underlying5 rfl rfl rfl ?_
 obtain ⟨y67, e68, h64⟩ := bind_some h64
 refine RL.idxT Try.underlying9 rfl rfl rfl rfl (idx_some e68).1 (idx_some e68).2.2 ?_
 refine RL.cvI Try.underlying5 Try.underlying3 rfl rfl rfl ?_
 refine RL.binI (v := .int .i64 (wadd x50 (IntKind.wrap .i64 (y67.toNat : Int)))) rfl rfl rfl rfl rfl ?_
 refine RL.asg rfl rfl rfl ?_
 refine RL.finG ?_
 have h64 := Option.some.inj h64
 subst h64
 exact GL.ret (Gx.ret (v := .int .i64 (wadd x50 (IntKind.wrap .i64 (y67.toNat : Int)))) (res1 rfl rfl) (fun a w st => st.toPostC rfl))

set_option maxHeartbeats 4000000 in
theorem math_bits_Len_c (S : Hp) (w : World) (hS : S.sub w) (x0 : Int) (res : Int) (hm : math_bits_Len_m x0 = some res) : Calls Try.prog 133 #[.int .u64 x0] w (PostC w (.int .i64 res)) := by
 refine calls_enter 8 Try.func133 Try.ntmps133 rfl S true [(0, .int .u64 x0)] [] rfl ⟨rfl, trivial⟩ hS trivial ?_
 unfold math_bits_Len_m at hm
 refine GL.seq ?_
 refine GL.region ?_
 refine RL.asg rfl rfl rfl ?_
 refine RL.finG ?_
 refine GL.seq ?_
 refine GL.cond rfl (fun b2 => ?_) (fun b2 => ?_)
 ·replace hm := ite_t b2 hm
  refine GL.seq ?_
  refine GL.region ?_
  refine RL.mv rfl rfl rfl ?_
  refine RL.cvI Try.underlying98 Try.underlying160 rfl rfl rfl ?_
  obtain ⟨y5, e6, hm⟩ := bind_some hm
  refine RL.callC (v := .int .i64 y5) (vs := [.int .u32 (IntKind.wrap .u32 x0)]) Try_fit145 rfl rfl rfl rfl (fun U w hU hW hL => math_bits_Len32_c U w hU (IntKind.wrap .u32 x0) _ e6) ?_
  refine RL.asg rfl rfl rfl ?_
  refine RL.finG ?_
  have hm := Option.some.inj hm
  subst hm
  exact GL.ret (Gx.ret (v := .int .i64 y5) (res1 rfl rfl) (fun a w st => st.toPostC rfl))
 replace hm := ite_f b2 hm
 refine GL.skip ?_
 refine GL.seq ?_
 refine GL.region ?_
 refine RL.mv rfl rfl rfl ?_
 obtain ⟨y9, e10, hm⟩ := bind_some hm
 refine RL.callC (v := .int .i64 y9) (vs := [.int .u64 x0]) Try_fit146 rfl rfl rfl rfl (fun U w hU hW hL => math_bits_Len64_c U w hU x0 _ e10) ?_
 refine RL.asg rfl rfl rfl ?_
 refine RL.finG ?_
 have hm := Option.some.inj hm
 subst hm
 exact GL.ret (Gx.ret (v := .int .i64 y9) (res1 rfl rfl) (fun a w st => st.toPostC rfl))

set_option maxHeartbeats 4000000 in
theorem cmp_isNaN_int_c (S : Hp) (w : World) (hS : S.sub w) (x0 : Int) (res : Bool) (hm : cmp_isNaN_int_m x0 = some res) : Calls Try.prog 153 #[.int .i64 x0] w (PostC w (.bool res)) := by
 refine calls_enter 6 Try.func153 Try.ntmps153 rfl S true [(0, .int .i64 x0)] [] rfl ⟨rfl, trivial⟩ hS trivial ?_
 unfold cmp_isNaN_int_m at hm
 refine GL.seq ?_
 refine GL.region ?_
 refine RL.asg rfl rfl rfl ?_
 refine RL.finG ?_
 refine GL.seq ?_
 refine GL.region ?_
 refine RL.mv rfl rfl rfl ?_
 refine RL.mv rfl rfl rfl ?_
 refine RL.binI (v := .bool (x0 != x0)) rfl rfl rfl rfl rfl ?_
 refine RL.asg rfl rfl rfl ?_
 refine RL.finG ?_
 have hm := Option.some.inj hm
 subst hm
 exact GL.ret (Gx.ret (v := .bool (x0 != x0)) (res1 rfl rfl) (fun a w st => st.toPostC rfl))

set_option maxHeartbeats 4000000 in
theorem cmp_Less_int_c (S : Hp) (w : World) (hS : S.sub w) (x0 : Int) (x1 : Int) (res : Bool) (hm : cmp_Less_int_m x0 x1 = some res) : Calls Try.prog 142 #[.int .i64 x0, .int .i64 x1] w (PostC w (.bool res)) := by
 refine calls_enter 17 Try.func142 Try.ntmps142 rfl S true [(0, .int .i64 x0), (1, .int .i64 x1)] [] rfl ⟨rfl, ⟨rfl, trivial⟩⟩ hS trivial ?_
 unfold cmp_Less_int_m at hm
 refine GL.seq ?_
 refine GL.region ?_
 refine RL.asg rfl rfl rfl ?_
 refine RL.finG ?_
 refine GL.seq ?_
 obtain ⟨y16, K17, h18, h19, h20, h21, h22⟩ := bindR_K hm
 refine GL.join (ι := Bool) (fun (p : Bool) => [(4, .bool p)]) (fun (p : Bool) => []) (fun (p : Bool) => K17 (.nx p)) ?_ ?_
 ·skip
  refine GL.region ?_
  refine RL.mv rfl rfl rfl ?_
  obtain ⟨y23, e24, h18⟩ := bind_some h18
  refine RL.callC (v := .bool y23) (vs := [.int .i64 x0]) Try_fit153 rfl rfl rfl rfl (fun U w hU hW hL => cmp_isNaN_int_c U w hU x0 _ e24) ?_
  refine RL.mv rfl rfl rfl ?_
  refine RL.split (t := 7) rfl (fun b25 => ?_) (fun b25 => ?_)
  ·replace h18 := ite_t b25 h18
   refine RL.mv rfl rfl rfl ?_
   obtain ⟨y26, e27, h18⟩ := bind_some h18
   refine RL.callC (v := .bool y26) (vs := [.int .i64 x1]) Try_fit153 rfl rfl rfl rfl (fun U w hU hW hL => cmp_isNaN_int_c U w hU x1 _ e27) ?_
   refine RL.notB rfl rfl rfl ?_
   refine RL.pickT rfl rfl rfl rfl ?_
   refine RL.mv rfl rfl rfl ?_
   refine RL.split (t := 12) rfl (fun b28 => ?_) (fun b28 => ?_)
   ·replace h18 := ite_t b28 h18
    refine RL.skip rfl rfl ?_
    refine RL.skip rfl rfl ?_
    refine RL.skip rfl rfl ?_
    refine RL.pickT rfl rfl rfl rfl ?_
    refine RL.asg rfl rfl rfl ?_
    refine RL.fin ?_
    cases h18
    exact fun a w st => mid_intro true h19 (St.cut [] ⟨rfl, trivial⟩ (by decide) rfl st)
   replace h18 := ite_f b28 h18
   refine RL.mv rfl rfl rfl ?_
   refine RL.mv rfl rfl rfl ?_
   refine RL.binI (v := .bool (decide (x0 < x1))) rfl rfl rfl rfl rfl ?_
   refine RL.pickF rfl rfl rfl rfl ?_
   refine RL.asg rfl rfl rfl ?_
   refine RL.fin ?_
   cases h18
   exact fun a w st => mid_intro (decide (x0 < x1)) h19 (St.cut [] ⟨rfl, trivial⟩ (by decide) rfl st)
  replace h18 := ite_f b25 h18
  refine RL.skip rfl rfl ?_
  refine RL.skip rfl rfl ?_
  refine RL.skip rfl rfl ?_
  refine RL.pickF rfl rfl rfl rfl ?_
  refine RL.mv rfl rfl rfl ?_
  refine RL.mv rfl rfl rfl ?_
  refine RL.mv rfl rfl rfl ?_
  refine RL.binI (v := .bool (decide (x0 < x1))) rfl rfl rfl rfl rfl ?_
  refine RL.pickF rfl rfl rfl rfl ?_
  refine RL.asg rfl rfl rfl ?_
  refine RL.fin ?_
  cases h18
  exact fun a w st => mid_intro (decide (x0 < x1)) h19 (St.cut [] ⟨rfl, trivial⟩ (by decide) rfl st)
 rintro x15 h29
 have h30 := h20 _ h29
 try dsimp only at h30
 refine GL.weak (env' := [(4, .bool x15)]) (L' := []) (fun _ _ st => st) ?_
 have h30 := Option.some.inj h30
 subst h30
 exact GL.ret (Gx.ret (v := .bool x15) (res1 rfl rfl) (fun a w st => st.toPostC rfl))

set_option maxHeartbeats 4000000 in
theorem slices_insertionSortOrdered_int_c (B : World) (S X : Hp) (f : Nat → Hp) (w : World) (v0 : Value) (x0 : (List Int)) (hO : HeapOk B.heap.size S f [own 3 TR.int v0 x0, keep X].length w) (hB : Below B.heap.size B w) (hI : Its [own 3 TR.int v0 x0, keep X] S f) (x1 : Int) (x2 : Int) (res : (List Int)) (hm : slices_insertionSortOrdered_int_m x0 x1 x2 = some res) : Calls Try.prog 136 #[v0, .int .i64 x1, .int .i64 x2] w (PostM B S (fun (o : Unit) => .tuple #[]) (fun (o : Unit) => [own 3 TR.int v0 res, keep X])) := by
 refine calls_enterM 49 Try.func136 Try.ntmps136 rfl B S f [(0, v0), (1, .int .i64 x1), (2, .int .i64 x2)] [own 3 TR.int v0 x0, keep X] [] rfl ⟨rfl, ⟨rfl, ⟨rfl, trivial⟩⟩⟩ hB hO hI trivial ?_
 unfold slices_insertionSortOrdered_int_m at hm
 refine GL.seq ?_
 refine GL.region ?_
 refine RL.mv rfl rfl rfl ?_
 refine RL.binI (v := .int .i64 (wadd x1 (1 : Int))) rfl rfl rfl rfl rfl ?_
 refine RL.asg rfl rfl rfl ?_
 refine RL.finG ?_
 obtain ⟨y339, K340, h341, h342, h343, h344, h345⟩ := bindR_K hm
 refine GL.join (ι := (List Int) × Int) (fun (p : (List Int) × Int) => []) (fun (p : (List Int) × Int) => [own 3 TR.int v0 p.1, keep X]) (fun (p : (List Int) × Int) => K340 (.nx (p.1, p.2))) ?_ ?_
 ·refine GL.block ?_
  refine GL.loop (ι := Nat × (List Int) × Int) (fun (p : Nat × (List Int) × Int) => [(0, v0), (1, .int .i64 x1), (2, .int .i64 x2), (6, .int .i64 p.2.2)]) (fun (p : Nat × (List Int) × Int) => [own 3 TR.int v0 p.2.1, keep X]) (fun (p : Nat × (List Int) × Int) => loopM (slices_insertionSortOrdered_int_b1 x2 x1) p.1 (p.2.1, p.2.2) = some y339) (fun (p : Nat × (List Int) × Int) => p.1) (1048576, x0, wadd x1 (1 : Int)) h341 (fun a w st => St.cut [0, 1] ⟨rfl, rfl, rfl, rfl, trivial⟩ (by decide) rfl st) ?_
  rintro ⟨r347, l171, x172⟩ h351
  try dsimp only at h351
  refine GL.weak (env' := [(0, v0), (1, .int .i64 x1), (2, .int .i64 x2), (6, .int .i64 x172)]) (L' := [own 3 TR.int v0 l171, keep X]) (fun _ _ st => st) ?_
  obtain ⟨r354, z348, hr, h349, h350⟩ := loopM_some h351
  subst hr
  unfold slices_insertionSortOrdered_int_b1 at h349
  try dsimp only at h349
  refine GL.seq ?_
  refine GL.seq ?_
  refine GL.region ?_
  refine RL.mv rfl rfl rfl ?_
  refine RL.mv rfl rfl rfl ?_
  refine RL.binI (v := .bool (decide (x172 < x2))) rfl rfl rfl rfl rfl ?_
  refine RL.finG ?_
  refine GL.cond rfl (fun b355 => ?_) (fun b355 => ?_)
  ·replace h349 := ite_t b355 h349
   refine GL.skip ?_
   refine GL.seq ?_
   refine GL.block ?_
   refine GL.seq ?_
   refine GL.region ?_
   refine RL.mv rfl rfl rfl ?_
   refine RL.asg rfl rfl rfl ?_
   refine RL.finG ?_
   obtain ⟨y455, K456, h457, h458, h459, h460, h461⟩ := bindF_K h349
   refine GL.join (ι := (List Int) × Int) (fun (p : (List Int) × Int) => [(0, v0), (1, .int .i64 x1), (2, .int .i64 x2), (6, .int .i64 x172)]) (fun (p : (List Int) × Int) => [own 3 TR.int v0 p.1, keep X]) (fun (p : (List Int) × Int) => K456 (.nx (p.1, p.2))) ?_ ?_
   ·refine GL.block ?_
    refine GL.loop (ι := Nat × (List Int) × Int) (fun (p : Nat × (List Int) × Int) => [(0, v0), (1, .int .i64 x1), (2, .int .i64 x2), (6, .int .i64 x172), (7, .int .i64 p.2.2)]) (fun (p : Nat × (List Int) × Int) => [own 3 TR.int v0 p.2.1, keep X]) (fun (p : Nat × (List Int) × Int) => loopM (slices_insertionSortOrdered_int_b2 x1) p.1 (p.2.1, p.2.2) = some y455) (fun (p : Nat × (List Int) × Int) => p.1) (1048576, l171, x172) h457 (fun a w st => St.cut [0, 1] ⟨rfl, rfl, rfl, rfl, rfl, trivial⟩ (by decide) rfl st) ?_
    rintro ⟨r463, l405, x406⟩ h467
    try dsimp only at h467
    refine GL.weak (env' := [(0, v0), (1, .int .i64 x1), (2, .int .i64 x2), (6, .int .i64 x172), (7, .int .i64 x406)]) (L' := [own 3 TR.int v0 l405, keep X]) (fun _ _ st => st) ?_
    obtain ⟨r470, z464, hr, h465, h466⟩ := loopM_some h467
    subst hr
    unfold slices_insertionSortOrdered_int_b2 at h465
    try dsimp only at h465
    refine GL.seq ?_
    refine GL.seq ?_
    obtain ⟨y486, K487, h488, h489, h490, h491, h492⟩ := bindF_K h465
    refine GL.join (ι := Bool) (fun (p : Bool) => [(0, v0), (1, .int .i64 x1), (2, .int .i64 x2), (6, .int .i64 x172), (7, .int .i64 x406), (30, .bool p)]) (fun (p : Bool) => [own 3 TR.int v0 l405, keep X]) (fun (p : Bool) => K487 (.nx p)) ?_ ?_
    ·skip
     refine GL.regionQ rfl rfl (by kernel_rfl) ?_
     refine RL.mv rfl rfl rfl ?_
     refine RL.mv rfl rfl rfl ?_
     refine RL.binI (v := .bool (decide (x406 > x1))) rfl rfl rfl rfl rfl ?_
     refine RL.mv rfl rfl rfl ?_
     refine RL.split (t := 19) rfl (fun b493 => ?_) (fun b493 => ?_)
     ·replace h488 := ite_t b493 h488
      refine RL.mv rfl rfl rfl ?_
      refine RL.mv rfl rfl rfl ?_
      obtain ⟨y494, e495, h488⟩ := bind_some h488
      refine RL.idxS (sz := 1) 0 Try.underlying24 Try_ln3 rfl rfl rfl rfl rfl SlOf.own (idx_some e495).1 (idx_some e495).2.1 ?_
      refine RL.ldSx (i := (x406).toNat) (e' := y494) 0 Ex.ik Try_ln3 rfl rfl rfl rfl SlOf.own (idx_some e495).2.2 Part.self ?_
      refine RL.mv rfl rfl rfl ?_
      refine RL.mv rfl rfl rfl ?_
      refine RL.binI (v := .int .i64 (wsub x406 (1 : Int))) rfl rfl rfl rfl rfl ?_
      obtain ⟨y496, e497, h488⟩ := bind_some h488
      refine RL.idxS (sz := 1) 0 Try.underlying24 Try_ln3 rfl rfl rfl rfl rfl SlOf.own (idx_some e497).1 (idx_some e497).2.1 ?_
      refine RL.ldSx (i := (wsub x406 (1 : Int)).toNat) (e' := y496) 0 Ex.ik Try_ln3 rfl rfl rfl rfl SlOf.own (idx_some e497).2.2 Part.self ?_
      obtain ⟨y498, e499, h488⟩ := bind_some h488
      refine RL.callC (v := .bool y498) (vs := [.int .i64 y494, .int .i64 y496]) Try_fit142 rfl rfl rfl rfl (fun U w hU hW hL => cmp_Less_int_c U w hU y494 y496 _ e499) ?_
      refine RL.pickT rfl rfl rfl rfl ?_
      refine RL.finQ ?_
      cases h488
      exact fun a w st => mid_intro y498 h489 (St.cut [0, 1] ⟨rfl, rfl, rfl, rfl, rfl, rfl, trivial⟩ (by decide) rfl st)
     replace h488 := ite_f b493 h488
     refine RL.skip rfl rfl ?_
     refine RL.skip rfl rfl ?_
     refine RL.skip rfl rfl ?_
     refine RL.skip rfl rfl ?_
     refine RL.skip rfl rfl ?_
     refine RL.skip rfl rfl ?_
     refine RL.skip rfl rfl ?_
     refine RL.skip rfl rfl ?_
     refine RL.skip rfl rfl ?_
     refine RL.skip rfl rfl ?_
     refine RL.pickF rfl rfl rfl rfl ?_
     refine RL.finQ ?_
     cases h488
     exact fun a w st => mid_intro false h489 (St.cut [0, 1] ⟨rfl, rfl, rfl, rfl, rfl, rfl, trivial⟩ (by decide) rfl st)
    rintro x485 h500
    have h501 := h490 _ h500
    try dsimp only at h501
    refine GL.weak (env' := [(0, v0), (1, .int .i64 x1), (2, .int .i64 x2), (6, .int .i64 x172), (7, .int .i64 x406), (30, .bool x485)]) (L' := [own 3 TR.int v0 l405, keep X]) (fun _ _ st => st) ?_
    refine GL.cond rfl (fun b502 => ?_) (fun b502 => ?_)
    ·replace h501 := ite_t b502 h501
     refine GL.skip ?_
     refine GL.seq ?_
     refine GL.block ?_
     refine GL.regionA rfl rfl ?_
     refine RA.mv 0 rfl (by kernel_rfl) rfl rfl rfl ?_
     refine RA.mv 1 rfl (by kernel_rfl) rfl rfl rfl ?_
     refine RA.mv 2 rfl (by kernel_rfl) rfl rfl rfl ?_
     refine RA.mv 3 rfl (by kernel_rfl) rfl rfl rfl ?_
     refine RA.binI (v := .int .i64 (wsub x406 (1 : Int))) 4 rfl (by kernel_rfl) rfl rfl rfl rfl rfl ?_
     refine RA.mv 5 rfl (by kernel_rfl) rfl rfl rfl ?_
     refine RA.mv 6 rfl (by kernel_rfl) rfl rfl rfl ?_
     refine RA.binI (v := .int .i64 (wsub x406 (1 : Int))) 7 rfl (by kernel_rfl) rfl rfl rfl rfl rfl ?_
     obtain ⟨y511, e512, h501⟩ := bind_some h501
     refine RA.idxS (sz := 1) 0 Try.underlying24 Try_ln3 8 rfl (by kernel_rfl) rfl rfl rfl rfl rfl SlOf.own (idx_some e512).1 (idx_some e512).2.1 ?_
     refine RA.mv 10 rfl (by kernel_rfl) rfl rfl rfl ?_
     refine RA.mv 11 rfl (by kernel_rfl) rfl rfl rfl ?_
     obtain ⟨y513, e514, h501⟩ := bind_some h501
     refine RA.idxS (sz := 1) 0 Try.underlying24 Try_ln3 12 rfl (by kernel_rfl) rfl rfl rfl rfl rfl SlOf.own (idx_some e514).1 (idx_some e514).2.1 ?_
     refine RA.still (le := #[true, true, true, true, true, true, true, true, true, true, true, true, true, true, true, false, false, false]) (f := 3) [9, 13, 14] 15 rfl (by kernel_rfl) ?_
     simp only [pickOps, List.getElem?_toArray, List.getElem?_cons_succ, List.getElem?_cons_zero]
     refine RL.ldSx (i := (wsub x406 (1 : Int)).toNat) (e' := y511) 0 Ex.ik Try_ln3 rfl rfl rfl rfl SlOf.own (idx_some e512).2.2 Part.self ?_
     refine RL.ldSx (i := (x406).toNat) (e' := y513) 0 Ex.ik Try_ln3 rfl rfl rfl rfl SlOf.own (idx_some e514).2.2 Part.self ?_
     obtain ⟨y515, e516, h501⟩ := bind_some h501
     refine RL.idxS (sz := 1) 0 Try.underlying24 Try_ln3 rfl rfl rfl rfl rfl SlOf.own (idx_some e516).1 (idx_some e516).2.1 ?_
     refine RL.finH ?_
     refine RL.fin ?_
     refine RA.next ?_
     refine RA.seq 15 rfl (by kernel_rfl) ?_
     refine RL.stS (i := (x406).toNat) (e' := y511) (e1 := y511) (r := TR.int) 0 Try_ln3 rfl rfl rfl rfl VR.int rfl (idx_some e516).2.2 Upd.self ?_
     refine RL.fin ?_
     refine RA.next ?_
     obtain ⟨y517, e518, h501⟩ := bind_some h501
     refine RA.idxS (sz := 1) 0 Try.underlying24 Try_ln3 16 rfl (by kernel_rfl) rfl rfl rfl rfl rfl SlOf.own (idx_some e518).1 (idx_some e518).2.1 ?_
     refine RA.seq 17 rfl (by kernel_rfl) ?_
     refine RL.stS (i := (wsub x406 (1 : Int)).toNat) (e' := y513) (e1 := y513) (r := TR.int) 0 Try_ln3 rfl rfl rfl rfl VR.int rfl (idx_some e518).2.2 Upd.self ?_
     refine RL.fin ?_
     refine RA.next ?_
     refine RA.doneG (by kernel_rfl) ?_
     refine GL.weak (env' := [(0, v0), (1, .int .i64 x1), (2, .int .i64 x2), (6, .int .i64 x172), (7, .int .i64 x406)]) (L' := [own 3 TR.int v0 (List.set (List.set l405 ((x406).toNat) y511) ((wsub x406 (1 : Int)).toNat) y513), keep X]) (fun a w st => St.cut [0, 1] ⟨rfl, rfl, rfl, rfl, rfl, trivial⟩ (by decide) rfl st) ?_
     refine GL.nilB ?_
     refine GL.region ?_
     refine RL.mv rfl rfl rfl ?_
     refine RL.binI (v := .int .i64 (wsub x406 (1 : Int))) rfl rfl rfl rfl rfl ?_
     refine RL.asg rfl rfl rfl ?_
     refine RL.finG ?_
     cases h501
     exact fun a w st => lop_intro (r470, (List.set (List.set l405 ((x406).toNat) y511) ((wsub x406 (1 : Int)).toNat) y513), wsub x406 (1 : Int)) (by exact h466) (by simp) (St.cut [0, 1] ⟨rfl, rfl, rfl, rfl, rfl, trivial⟩ (by decide) rfl st)
    replace h501 := ite_f b502 h501
    cases h501
    replace h466 : some (Fl.nx _) = some y455 := h466
    cases h466
    exact GL.exit (fun a w st => mid_intro (l405, x406) h458 (St.cut [0, 1] ⟨rfl, rfl, rfl, rfl, trivial⟩ (by decide) rfl st))
   rintro ⟨l405, x406⟩ h519
   have h520 := h459 _ h519
   try dsimp only at h520
   refine GL.weak (env' := [(0, v0), (1, .int .i64 x1), (2, .int .i64 x2), (6, .int .i64 x172)]) (L' := [own 3 TR.int v0 l405, keep X]) (fun _ _ st => st) ?_
   refine GL.nilB ?_
   refine GL.region ?_
   refine RL.mv rfl rfl rfl ?_
   refine RL.binI (v := .int .i64 (wadd x172 (1 : Int))) rfl rfl rfl rfl rfl ?_
   refine RL.asg rfl rfl rfl ?_
   refine RL.finG ?_
   cases h520
   exact fun a w st => lop_intro (r354, l405, wadd x172 (1 : Int)) (by exact h350) (by simp) (St.cut [0, 1] ⟨rfl, rfl, rfl, rfl, trivial⟩ (by decide) rfl st)
  replace h349 := ite_f b355 h349
  cases h349
  replace h350 : some (Fl.nx _) = some y339 := h350
  cases h350
  exact GL.exit (fun a w st => mid_intro (l171, x172) h342 (St.cut [0, 1] trivial (by decide) rfl st))
 rintro ⟨l171, x172⟩ h521
 have h522 := h343 _ h521
 try dsimp only at h522
 refine GL.weak (env' := []) (L' := [own 3 TR.int v0 l171, keep X]) (fun _ _ st => st) ?_
 have h522 := Option.some.inj h522
 subst h522
 exact GL.nil (Gx.retN (v := .tuple #[]) (res0 rfl) (fun a w st => (st.pick [0, 1] (by decide) rfl).toPostM (V := fun (o : Unit) => .tuple #[]) (LR := fun (o : Unit) => [own 3 TR.int v0 l171, keep X]) ()))

set_option maxHeartbeats 4000000 in
theorem slices_pdqsortOrdered_int_c (B : World) (S X : Hp) (f : Nat → Hp) (w : World) (v0 : Value) (x0 : (List Int)) (hO : HeapOk B.heap.size S f [own 3 TR.int v0 x0, keep X].length w) (hB : Below B.heap.size B w) (hI : Its [own 3 TR.int v0 x0, keep X] S f) (x1 : Int) (x2 : Int) (x3 : Int) (res : (List Int)) (hm : slices_pdqsortOrdered_int_m x0 x1 x2 x3 = some res) : Calls Try.prog 132 #[v0, .int .i64 x1, .int .i64 x2, .int .i64 x3] w (PostM B S (fun (o : Unit) => .tuple #[]) (fun (o : Unit) => [own 3 TR.int v0 res, keep X])) := by
 refine calls_enterM 134 Try.func132 Try.ntmps132 rfl B S f [(0, v0), (1, .int .i64 x1), (2, .int .i64 x2), (3, .int .i64 x3)] [own 3 TR.int v0 x0, keep X] [] rfl ⟨rfl, ⟨rfl, ⟨rfl, ⟨rfl, trivial⟩⟩⟩⟩ hB hO hI trivial ?_
 unfold slices_pdqsortOrdered_int_m at hm
 refine GL.seq ?_
 refine GL.region ?_
 refine RL.asg rfl rfl rfl ?_
 refine RL.finG ?_
 refine GL.seq ?_
 refine GL.region ?_
 refine RL.asg rfl rfl rfl ?_
 refine RL.finG ?_
 obtain ⟨y82, K83, h84, h85, h86, h87, h88⟩ := bindR_K hm
 refine GL.join (ι := (List Int) × Int × Int × Int × Bool × Bool) (fun (p : (List Int) × Int × Int × Int × Bool × Bool) => []) (fun (p : (List Int) × Int × Int × Int × Bool × Bool) => [own 3 TR.int v0 p.1, keep X]) (fun (p : (List Int) × Int × Int × Int × Bool × Bool) => K83 (.nx (p.1, p.2.1, p.2.2.1, p.2.2.2.1, p.2.2.2.2.1, p.2.2.2.2.2))) ?_ ?_
 ·refine GL.block ?_
  refine GL.loop (ι := Nat × (List Int) × Int × Int × Int × Bool × Bool) (fun (p : Nat × (List Int) × Int × Int × Int × Bool × Bool) => [(0, v0), (1, .int .i64 p.2.2.1), (2, .int .i64 p.2.2.2.1), (3, .int .i64 p.2.2.2.2.1), (8, .bool p.2.2.2.2.2.1), (9, .bool p.2.2.2.2.2.2)]) (fun (p : Nat × (List Int) × Int × Int × Int × Bool × Bool) => [own 3 TR.int v0 p.2.1, keep X]) (fun (p : Nat × (List Int) × Int × Int × Int × Bool × Bool) => loopM slices_pdqsortOrdered_int_b1 p.1 (p.2.1, p.2.2.1, p.2.2.2.1, p.2.2.2.2.1, p.2.2.2.2.2.1, p.2.2.2.2.2.2) = some y82) (fun (p : Nat × (List Int) × Int × Int × Int × Bool × Bool) => p.1) (1048576, x0, x1, x2, x3, true, true) h84 (fun a w st => St.cut [0, 1] ⟨rfl, rfl, rfl, rfl, rfl, rfl, trivial⟩ (by decide) rfl st) ?_
  rintro ⟨r90, l43, x44, x45, x46, x47, x48⟩ h94
  try dsimp only at h94
  refine GL.weak (env' := [(0, v0), (1, .int .i64 x44), (2, .int .i64 x45), (3, .int .i64 x46), (8, .bool x47), (9, .bool x48)]) (L' := [own 3 TR.int v0 l43, keep X]) (fun _ _ st => st) ?_
  obtain ⟨r97, z91, hr, h92, h93⟩ := loopM_some h94
  subst hr
  unfold slices_pdqsortOrdered_int_b1 at h92
  try dsimp only at h92
  refine GL.block ?_
  refine GL.seq ?_
  refine GL.region ?_
  refine RL.mv rfl rfl rfl ?_
  refine RL.mv rfl rfl rfl ?_
  refine RL.binI (v := .int .i64 (wsub x45 x44)) rfl rfl rfl rfl rfl ?_
  refine RL.asg rfl rfl rfl ?_
  refine RL.finG ?_
  refine GL.seq ?_
  refine GL.seq ?_
  refine GL.region ?_
  refine RL.mv rfl rfl rfl ?_
  refine RL.binI (v := .bool (decide ((wsub x45 x44) ≤ (12 : Int)))) rfl rfl rfl rfl rfl ?_
  refine RL.finG ?_
  refine GL.cond rfl (fun b98 => ?_) (fun b98 => ?_)
  ·replace h92 := ite_t b98 h92
   refine GL.seq ?_
   refine GL.region ?_
   refine RL.mv rfl rfl rfl ?_
   refine RL.mv rfl rfl rfl ?_
   refine RL.mv rfl rfl rfl ?_
   obtain ⟨y105, e106, h92⟩ := bind_some h92
   refine RL.callK (vs := [v0, .int .i64 x44, .int .i64 x45]) (V := fun (o : Unit) => .tuple #[]) (LR := fun (o : Unit) => [own 3 TR.int v0 y105]) (Ls := [own 3 TR.int v0 l43]) [0] (by decide) Try_fit136 rfl rfl rfl rfl rfl rfl (fun S f X w hO hB hW hI hL => slices_insertionSortOrdered_int_c _ S X f w _ _  hO hB hI x44 x45 _ e106) ?_
   intro _
   refine RL.reL (L' := [gone, keep X, own 3 TR.int v0 y105]) rfl ?_
   refine RL.finG ?_
   cases h92
   replace h93 : some (Fl.rt _) = some y82 := h93
   cases h93
   have hh := h87 _ h85
   subst hh
   exact GL.ret (Gx.ret (v := .tuple #[]) (res0 rfl) (fun a w st => (st.pick [2, 1] (by decide) rfl).toPostM (V := fun (o : Unit) => .tuple #[]) (LR := fun (o : Unit) => [own 3 TR.int v0 y105, keep X]) ()))
  replace h92 := ite_f b98 h92
  refine GL.skip ?_
  refine GL.seq ?_
  refine GL.seq ?_
  refine GL.region ?_
  refine RL.mv rfl rfl rfl ?_
  refine RL.binI (v := .bool (x46 == (0 : Int))) rfl rfl rfl rfl rfl ?_
  refine RL.finG ?_
  refine GL.cond rfl (fun b119 => ?_) (fun b119 => ?_)
  ·replace h92 := ite_t b119 h92
   cases h92
  replace h92 := ite_f b119 h92
  cases h92
 rintro ⟨l43, x44, x45, x46, x47, x48⟩ h131
 have h132 := h86 _ h131
 try dsimp only at h132
 cases h132

set_option maxHeartbeats 4000000 in
theorem slices_Sort_int_int_c (B : World) (S X : Hp) (f : Nat → Hp) (w : World) (v0 : Value) (x0 : (List Int)) (hO : HeapOk B.heap.size S f [own 3 TR.int v0 x0, keep X].length w) (hB : Below B.heap.size B w) (hI : Its [own 3 TR.int v0 x0, keep X] S f)  (res : (List Int)) (hm : slices_Sort_int_int_m x0 = some res) : Calls Try.prog 121 #[v0] w (PostM B S (fun (o : Unit) => .tuple #[]) (fun (o : Unit) => [own 3 TR.int v0 res, keep X])) := by
 refine calls_enterM 11 Try.func121 Try.ntmps121 rfl B S f [(0, v0)] [own 3 TR.int v0 x0, keep X] [] rfl ⟨rfl, trivial⟩ hB hO hI trivial ?_
 unfold slices_Sort_int_int_m at hm
 refine GL.seq ?_
 refine GL.region ?_
 refine RL.mv rfl rfl rfl ?_
 refine RL.lenS 0 Try.underlying24 rfl rfl rfl rfl SlOf.own ?_
 refine RL.asg rfl rfl rfl ?_
 refine RL.finG ?_
 refine GL.region ?_
 refine RL.mv rfl rfl rfl ?_
 refine RL.mv rfl rfl rfl ?_
 refine RL.mv rfl rfl rfl ?_
 refine RL.cvI Try.underlying3 Try.underlying98 rfl rfl rfl ?_
 obtain ⟨y6, e7, hm⟩ := bind_some hm
 refine RL.callC (v := .int .i64 y6) (vs := [.int .u64 (IntKind.wrap .u64 ((x0).length : Int))]) Try_fit133 rfl rfl rfl rfl (fun U w hU hW hL => math_bits_Len_c U w hU (IntKind.wrap .u64 ((x0).length : Int)) _ e7) ?_
 obtain ⟨y8, e9, hm⟩ := bind_some hm
 refine RL.callK (vs := [v0, .int .i64 (0 : Int), .int .i64 ((x0).length : Int), .int .i64 y6]) (V := fun (o : Unit) => .tuple #[]) (LR := fun (o : Unit) => [own 3 TR.int v0 y8]) (Ls := [own 3 TR.int v0 x0]) [0] (by decide) Try_fit132 rfl rfl rfl rfl rfl rfl (fun S f X w hO hB hW hI hL => slices_pdqsortOrdered_int_c _ S X f w _ _  hO hB hI (0 : Int) ((x0).length : Int) y6 _ e9) ?_
 intro _
 refine RL.reL (L' := [gone, keep X, own 3 TR.int v0 y8]) rfl ?_
 refine RL.finG ?_
 have hm := Option.some.inj hm
 subst hm
 exact GL.nil (Gx.retN (v := .tuple #[]) (res0 rfl) (fun a w st => (st.pick [2, 1] (by decide) rfl).toPostM (V := fun (o : Unit) => .tuple #[]) (LR := fun (o : Unit) => [own 3 TR.int v0 y8, keep X]) ()))

set_option maxHeartbeats 4000000 in
theorem units_Sell_c (S : Hp) (w : World) (hS : S.sub w) (v0 : Value) (x0 : (List Int)) (k0 : ((TR.sl TR.int)).vrep S v0 x0) (x1 : Int) (res : (List Int) × Int × Int) (hm : units_Sell_m x0 x1 = some res) : Calls Try.prog 66 #[v0, .int .i64 x1] w (Post w S (fun (o : Value) => .tuple #[o, .int .i64 res.2.1, .int .i64 res.2.2]) (fun (o : Value) => [own 3 TR.int o res.1])) := by
 refine calls_enter 56 Try.func66 Try.ntmps66 rfl S false [(0, v0), (1, .int .i64 x1)] [imm (TR.sl TR.int) v0 x0] rfl ⟨rfl, ⟨rfl, trivial⟩⟩ hS ⟨k0, trivial⟩ ?_
 unfold units_Sell_m at hm
 refine GL.seq ?_
 refine GL.region ?_
 refine RL.box (t := (TR.sl TR.int)) (e := x0) rfl rfl rfl rfl (VR.item 0 rfl) ?_
 intro v4
 refine RL.asg rfl rfl rfl ?_
 refine RL.asg rfl rfl rfl ?_
 refine RL.asg rfl rfl rfl ?_
 refine RL.finG ?_
 refine GL.seq ?_
 refine GL.seq ?_
 refine GL.region ?_
 refine RL.ldP (off := 0) (r := (TR.sl TR.int)) (e' := x0) 1 Try_ln24 rfl rfl (Or.inr ⟨rfl, rfl⟩) rfl PtOf.obox Part.self ?_
 intro v8
 refine RL.reL (L' := [imm (TR.sl TR.int) v0 x0, obox 24 (TR.sl TR.int) v4 x0, imm (TR.sl TR.int) v8 x0]) rfl ?_
 obtain ⟨y9, e10, hm⟩ := bind_some hm
 refine RL.callC (v := .int .i64 y9) (vs := [v8, .int .i64 (0 : Int)]) Try_fit118 rfl rfl rfl rfl (fun U w hU hW hL => auction_Check_c U w hU _ _ (hL 2 _ _ rfl Seen.imm) (0 : Int) _ e10) ?_
 refine RL.asg rfl rfl rfl ?_
 refine RL.finG ?_
 refine GL.seq ?_
 refine GL.region ?_
 refine RL.mv rfl rfl rfl ?_
 refine RL.binI (v := .bool (y9 != (0 : Int))) rfl rfl rfl rfl rfl ?_
 refine RL.finG ?_
 refine GL.cond rfl (fun b11 => ?_) (fun b11 => ?_)
 ·replace hm := ite_t b11 hm
  refine GL.seq ?_
  refine GL.region ?_
  refine RL.mv rfl rfl rfl ?_
  refine RL.asg rfl rfl rfl ?_
  refine RL.asg rfl rfl rfl ?_
  refine RL.asg rfl rfl rfl ?_
  refine RL.finG ?_
  refine GL.weak (fun a w st => st.nilOwn 3 TR.int) ?_
  have hm := Option.some.inj hm
  subst hm
  exact GL.ret (Gx.ret (v := .tuple #[Value.slice none 0 0, .int .i64 (0 : Int), .int .i64 y9]) (res3 rfl rfl rfl rfl) (fun a w st => (st.pick [3] (by decide) rfl).toPost (Value.slice none 0 0)))
 replace hm := ite_f b11 hm
 refine GL.skip ?_
 refine GL.seq ?_
 refine GL.seq ?_
 obtain ⟨y15, K16, h17, h18, h19, h20, h21⟩ := bindR_K hm
 refine GL.join (ι := Bool) (fun (p : Bool) => [(1, .int .i64 x1), (2, v4), (21, .bool p)]) (fun (p : Bool) => [obox 24 (TR.sl TR.int) v4 x0]) (fun (p : Bool) => K16 (.nx p)) ?_ ?_
 ·skip
  refine GL.region ?_
  refine RL.mv rfl rfl rfl ?_
  refine RL.binI (v := .bool (decide (x1 < (0 : Int)))) rfl rfl rfl rfl rfl ?_
  refine RL.mv rfl rfl rfl ?_
  refine RL.split (t := 18) rfl (fun b22 => ?_) (fun b22 => ?_)
  ·replace h17 := ite_t b22 h17
   refine RL.skip rfl rfl ?_
   refine RL.skip rfl rfl ?_
   refine RL.pickT rfl rfl rfl rfl ?_
   refine RL.fin ?_
   cases h17
   exact fun a w st => mid_intro true h18 (St.cut [1] ⟨rfl, rfl, rfl, trivial⟩ (by decide) rfl st)
  replace h17 := ite_f b22 h17
  refine RL.mv rfl rfl rfl ?_
  refine RL.binI (v := .bool (decide (x1 > (10 : Int)))) rfl rfl rfl rfl rfl ?_
  refine RL.pickF rfl rfl rfl rfl ?_
  refine RL.fin ?_
  cases h17
  exact fun a w st => mid_intro (decide (x1 > (10 : Int))) h18 (St.cut [1] ⟨rfl, rfl, rfl, trivial⟩ (by decide) rfl st)
 rintro x14 h23
 have h24 := h19 _ h23
 try dsimp only at h24
 refine GL.weak (env' := [(1, .int .i64 x1), (2, v4), (21, .bool x14)]) (L' := [obox 24 (TR.sl TR.int) v4 x0]) (fun _ _ st => st) ?_
 refine GL.cond rfl (fun b25 => ?_) (fun b25 => ?_)
 ·replace h24 := ite_t b25 h24
  refine GL.seq ?_
  refine GL.region ?_
  refine RL.asg rfl rfl rfl ?_
  refine RL.asg rfl rfl rfl ?_
  refine RL.asg rfl rfl rfl ?_
  refine RL.finG ?_
  refine GL.weak (fun a w st => st.nilOwn 3 TR.int) ?_
  have h24 := Option.some.inj h24
  subst h24
  exact GL.ret (Gx.ret (v := .tuple #[Value.slice none 0 0, .int .i64 (0 : Int), .int .i64 (1 : Int)]) (res3 rfl rfl rfl rfl) (fun a w st => (st.pick [1] (by decide) rfl).toPost (Value.slice none 0 0)))
 replace h24 := ite_f b25 h24
 refine GL.skip ?_
 refine GL.seq ?_
 refine GL.region ?_
 refine RL.ldP (off := 0) (r := (TR.sl TR.int)) (e' := x0) 0 Try_ln24 rfl rfl (Or.inr ⟨rfl, rfl⟩) rfl PtOf.obox Part.self ?_
 intro v30
 refine RL.lenS 1 Try.underlying24 rfl rfl rfl rfl SlOf.imm ?_
 obtain ⟨y31, e32, h24⟩ := bind_some h24
 replace e32 := chk_some e32
 refine RL.mkS (t := TR.int) (z := (0 : Int)) Try.underlying24 Try_lo3 (fun S => rfl) rfl rfl rfl rfl e32.1 e32.2 ?_
 intro v33
 refine RL.reL (L' := [obox 24 (TR.sl TR.int) v4 x0, imm (TR.sl TR.int) v30 x0, own 3 TR.int v33 (List.replicate (((x0).length : Int)).toNat (0 : Int))]) rfl ?_
 refine RL.asg rfl rfl rfl ?_
 refine RL.finG ?_
 refine GL.seq ?_
 refine GL.seq ?_
 refine GL.region ?_
 refine RL.mv rfl rfl rfl ?_
 refine RL.lenS 2 Try.underlying24 rfl rfl rfl rfl SlOf.own ?_
 refine RL.mv rfl rfl rfl ?_
 refine RL.finG ?_
 refine GL.lenOwn 2 rfl (fun n43 => ?_)
 obtain ⟨y44, K45, h46, h47, h48, h49, h50⟩ := bindR_K h24
 refine GL.join (ι := (List Int)) (fun (p : (List Int)) => [(1, .int .i64 x1), (2, v4), (8, v33)]) (fun (p : (List Int)) => [obox 24 (TR.sl TR.int) v4 x0, own 3 TR.int v33 p]) (fun (p : (List Int)) => K45 (.nx p)) ?_ ?_
 ·refine GL.block ?_
  refine GL.loop (ι := Nat × Nat × (List Int)) (fun (p : Nat × Nat × (List Int)) => [(1, .int .i64 x1), (2, v4), (8, v33), (26, .int .i64 (((List.replicate (((x0).length : Int)).toNat (0 : Int))).length : Int)), (27, .int .i64 (p.1 : Int))]) (fun (p : Nat × Nat × (List Int)) => [obox 24 (TR.sl TR.int) v4 x0, own 3 TR.int v33 p.2.2]) (fun (p : Nat × Nat × (List Int)) => p.1 + p.2.1 = ((List.replicate (((x0).length : Int)).toNat (0 : Int))).length ∧ rangeN units_Sell_b1 p.2.1 p.1 p.2.2 = some y44) (fun (p : Nat × Nat × (List Int)) => p.2.1) (0, ((List.replicate (((x0).length : Int)).toNat (0 : Int))).length, (List.replicate (((x0).length : Int)).toNat (0 : Int))) ⟨by simp, h46⟩ (fun a w st => St.cut [0, 2] ⟨rfl, rfl, rfl, rfl, rfl, trivial⟩ (by decide) rfl st) ?_
  rintro ⟨i51, r52, l38⟩ ⟨h57, h56⟩
  try dsimp only at h57 h56
  refine GL.weak (env' := [(1, .int .i64 x1), (2, v4), (8, v33), (26, .int .i64 (((List.replicate (((x0).length : Int)).toNat (0 : Int))).length : Int)), (27, .int .i64 (i51 : Int))]) (L' := [obox 24 (TR.sl TR.int) v4 x0, own 3 TR.int v33 l38]) (fun _ _ st => st) ?_
  refine GL.seq ?_
  refine GL.region ?_
  refine RL.binI (v := .bool (decide ((i51 : Int) < (((List.replicate (((x0).length : Int)).toNat (0 : Int))).length : Int)))) rfl rfl rfl rfl rfl ?_
  refine RL.finG ?_
  refine GL.seq ?_
  refine GL.cond rfl (fun b59 => ?_) (fun b59 => ?_)
  ·have h60 : i51 < ((List.replicate (((x0).length : Int)).toNat (0 : Int))).length := by have := of_decide_eq_true b59; omega
   obtain ⟨r61, hr⟩ : ∃ m, r52 = m + 1 := ⟨r52 - 1, by omega⟩
   subst hr
   obtain ⟨z53, h54, h55⟩ := rangeN_some h56
   unfold units_Sell_b1 at h54
   try dsimp only at h54
   refine GL.skip ?_
   refine GL.seq ?_
   refine GL.block ?_
   refine GL.seq ?_
   refine GL.region ?_
   refine RL.mv rfl rfl rfl ?_
   refine RL.asg rfl rfl rfl ?_
   refine RL.finG ?_
   refine GL.region ?_
   refine RL.mv rfl rfl rfl ?_
   refine RL.mv rfl rfl rfl ?_
   refine RL.mv rfl rfl rfl ?_
   obtain ⟨y64, e65, h54⟩ := bind_some h54
   refine RL.idxS (sz := 1) 1 Try.underlying24 Try_ln3 rfl rfl rfl rfl rfl SlOf.own (idx_some e65).1 (idx_some e65).2.1 ?_
   refine RL.stS (i := i51) (e' := (i51 : Int)) (e1 := (i51 : Int)) (r := TR.int) 1 Try_ln3 rfl rfl rfl rfl VR.int rfl (idx_some e65).2.2 Upd.self ?_
   refine RL.finG ?_
   refine GL.nilB ?_
   refine GL.region ?_
   refine RL.binI (v := .int .i64 ((i51 + 1 : Nat) : Int)) rfl rfl rfl rfl (binI_succ i51 (by omega)) ?_
   refine RL.mv rfl rfl rfl ?_
   refine RL.fin ?_
   cases h54
   exact fun a w st => lop_intro (i51 + 1, r61, (List.set l38 i51 (i51 : Int))) ⟨by show i51 + 1 + r61 = ((List.replicate (((x0).length : Int)).toNat (0 : Int))).length; omega, h55⟩ (by simp) (St.cut [0, 1] ⟨rfl, rfl, rfl, rfl, rfl, trivial⟩ (by decide) rfl st)
  have h60 : ¬ i51 < ((List.replicate (((x0).length : Int)).toNat (0 : Int))).length := by have := of_decide_eq_false b59; omega
  obtain rfl : r52 = 0 := by omega
  replace h56 : some (Fl.nx _) = some y44 := h56
  cases h56
  exact GL.exit (fun a w st => mid_intro l38 h47 (St.cut [0, 1] ⟨rfl, rfl, rfl, trivial⟩ (by decide) rfl st))
 rintro l38 h66
 have h67 := h48 _ h66
 try dsimp only at h67
 refine GL.weak (env' := [(1, .int .i64 x1), (2, v4), (8, v33)]) (L' := [obox 24 (TR.sl TR.int) v4 x0, own 3 TR.int v33 l38]) (fun _ _ st => st) ?_
 refine GL.seq ?_
 refine GL.region ?_
 refine RL.mv rfl rfl rfl ?_
 refine RL.mkF (vs := [v4]) rfl rfl rfl ?_
 refine RL.weak (fun a w st => st.freezeB 0 rfl) ?_
 obtain ⟨y70, e71, h67⟩ := bind_some h67
 refine RL.callK (vs := [v33, .func (.func 120) #[] #[v4]]) (V := fun (o : Unit) => .tuple #[]) (LR := fun (o : Unit) => [own 3 TR.int v33 y70]) (Ls := [own 3 TR.int v33 l38]) [1] (by decide) Try_fit119 rfl rfl rfl rfl rfl rfl (fun S f X w hO hB hW hI hL => slices_SortStableFunc_int_int_c _ S X f w _ _  hO hB hI 120 #[v4] Try_fit120 (fun a0 a1 => units_Sell_1_m a0 a1 x0) (fun U' w' hle hU' a0 a1 rr hr => (units_Sell_1_c U' w' hU' a0 a1 _ _ (TR.vrep_mono hle (hL 0 _ _ rfl Sure.imm)) rr hr).mono (fun _ _ z => z)) _ e71) ?_
 intro _
 refine RL.reL (L' := [imm (TR.ptr (TR.sl TR.int)) v4 x0, gone, own 3 TR.int v33 y70]) rfl ?_
 refine RL.finG ?_
 refine GL.seq ?_
 refine GL.region ?_
 refine RL.asg rfl rfl rfl ?_
 refine RL.finG ?_
 refine GL.seq ?_
 refine GL.seq ?_
 refine GL.region ?_
 refine RL.mv rfl rfl rfl ?_
 refine RL.mv rfl rfl rfl ?_
 refine RL.lenS 2 Try.underlying24 rfl rfl rfl rfl SlOf.own ?_
 refine RL.binI (v := .bool (decide (x1 < ((y70).length : Int)))) rfl rfl rfl rfl rfl ?_
 refine RL.finG ?_
 obtain ⟨y90, K91, h92, h93, h94, h95, h96⟩ := bindR_K h67
 refine GL.join (ι := (List Int) × Int × Value) (fun (p : (List Int) × Int × Value) => [(8, p.2.2), (10, .int .i64 p.2.1)]) (fun (p : (List Int) × Int × Value) => [own 3 TR.int p.2.2 p.1]) (fun (p : (List Int) × Int × Value) => K91 (.nx (p.1, p.2.1))) ?_ ?_
 ·skip
  refine GL.cond rfl (fun b97 => ?_) (fun b97 => ?_)
  ·replace h92 := ite_t b97 h92
   refine GL.seq ?_
   refine GL.regionQ rfl rfl (by kernel_rfl) ?_
   refine RL.ldP (off := 0) (r := (TR.sl TR.int)) (e' := x0) 0 Try_ln24 rfl rfl (Or.inr ⟨rfl, rfl⟩) rfl PtOf.imm Part.self ?_
   intro v103
   refine RL.mv rfl rfl rfl ?_
   refine RL.mv rfl rfl rfl ?_
   obtain ⟨y104, e105, h92⟩ := bind_some h92
   refine RL.idxS (sz := 1) 2 Try.underlying24 Try_ln3 rfl rfl rfl rfl rfl SlOf.own (idx_some e105).1 (idx_some e105).2.1 ?_
   refine RL.ldSx (i := (x1).toNat) (e' := y104) 2 Ex.ik Try_ln3 rfl rfl rfl rfl SlOf.own (idx_some e105).2.2 Part.self ?_
   obtain ⟨y106, e107, h92⟩ := bind_some h92
   refine RL.idxS (sz := 1) 3 Try.underlying24 Try_ln3 rfl rfl rfl rfl rfl SlOf.imm (idx_some e107).1 (idx_some e107).2.1 ?_
   refine RL.ldSx (i := (y104).toNat) (e' := y106) 3 Ex.ik Try_ln3 rfl rfl rfl rfl SlOf.imm (idx_some e107).2.2 Part.self ?_
   refine RL.asg rfl rfl rfl ?_
   refine RL.finQG ?_
   refine GL.region ?_
   refine RL.mv rfl rfl rfl ?_
   refine RL.mv rfl rfl rfl ?_
   obtain ⟨y110, e111, h92⟩ := bind_some h92
   replace e111 := chk_some e111
   refine RL.cutF (t := TR.int) (i := (x1).toNat) (kd := .i64) 2 Try.underlying24 Try_ln3 rfl rfl rfl (by rw [Int.toNat_of_nonneg (by omega)]; rfl) rfl (by omega) ?_
   refine RL.reL (L' := [imm (TR.ptr (TR.sl TR.int)) v4 x0, gone, own 3 TR.int (relen v33 ((x1).toNat)) (List.take ((x1).toNat) y70), imm (TR.sl TR.int) v103 x0]) rfl ?_
   refine RL.asg rfl rfl rfl ?_
   refine RL.finG ?_
   cases h92
   exact fun a w st => mid_intro ((List.take ((x1).toNat) y70), y106, relen v33 ((x1).toNat)) h93 (St.cut [2] ⟨rfl, rfl, trivial⟩ (by decide) rfl st)
  replace h92 := ite_f b97 h92
  refine GL.skip ?_
  cases h92
  exact fun a w st => mid_intro (y70, (0 : Int), v33) h93 (St.cut [2] ⟨rfl, rfl, trivial⟩ (by decide) rfl st)
 rintro ⟨l87, x89, v88⟩ h112
 have h113 := h94 _ h112
 try dsimp only at h113
 refine GL.weak (env' := [(8, v88), (10, .int .i64 x89)]) (L' := [own 3 TR.int v88 l87]) (fun _ _ st => st) ?_
 refine GL.seq ?_
 refine GL.region ?_
 refine RL.mv rfl rfl rfl ?_
 obtain ⟨y116, e117, h113⟩ := bind_some h113
 refine RL.callK (vs := [v88]) (V := fun (o : Unit) => .tuple #[]) (LR := fun (o : Unit) => [own 3 TR.int v88 y116]) (Ls := [own 3 TR.int v88 l87]) [0] (by decide) Try_fit121 rfl rfl rfl rfl rfl rfl (fun S f X w hO hB hW hI hL => slices_Sort_int_int_c _ S X f w _ _  hO hB hI  _ e117) ?_
 intro _
 refine RL.reL (L' := [gone, own 3 TR.int v88 y116]) rfl ?_
 refine RL.finG ?_
 refine GL.seq ?_
 refine GL.region ?_
 refine RL.mv rfl rfl rfl ?_
 refine RL.mv rfl rfl rfl ?_
 refine RL.asg rfl rfl rfl ?_
 refine RL.asg rfl rfl rfl ?_
 refine RL.asg rfl rfl rfl ?_
 refine RL.finG ?_
 have h113 := Option.some.inj h113
 subst h113
 exact GL.ret (Gx.ret (v := .tuple #[v88, .int .i64 x89, .int .i64 (0 : Int)]) (res3 rfl rfl rfl rfl) (fun a w st => (st.pick [1] (by decide) rfl).toPost v88))

set_option maxHeartbeats 4000000 in
theorem slices_Clone_int_int_c (S : Hp) (w : World) (hS : S.sub w) (v0 : Value) (x0 : List Int) (k0 : (TR.sl TR.int).vrep S v0 x0) (res : List Int) (hm : slices_Clone_int_int_m x0 = some res) : Calls Try.prog 18 #[v0] w (Post w S (fun (o : Value) => o) (fun (o : Value) => [own 3 TR.int o res])) := by
  refine calls_enter 8 Try.func18 Try.ntmps18 rfl S false [(0, v0)] [imm (TR.sl TR.int) v0 x0] rfl ⟨rfl, trivial⟩ hS ⟨k0, trivial⟩ ?_
  unfold slices_Clone_int_int_m at hm
  obtain ⟨_, hc, hm⟩ := bind_some hm
  replace hc := chk_some hc
  have hm := Option.some.inj hm
  subst hm
  refine GL.seq (GL.region (RL.asg rfl rfl rfl (RL.finG (GL.seq (GL.seq (GL.region ?_))))))
  refine RL.mv rfl rfl rfl ?_
  refine RL.eqNil 0 Try.underlying24 rfl rfl rfl rfl rfl SlOf.imm (fun b hb => ?_)
  refine RL.finG (GL.cond rfl (fun h => ?_) (fun h => ?_))
  · have := hb h
    subst this
    refine GL.seq (GL.region (RL.asg rfl rfl rfl (RL.finG ?_)))
    refine GL.weak (fun a w st => st.nilOwn 3 TR.int) ?_
    exact GL.ret (Gx.ret (v := Value.slice none 0 0) (res1 rfl rfl) (fun a w st => (st.pick [1] (by decide) rfl).toPost (Value.slice none 0 0)))
  · refine GL.skip (GL.seq (GL.region ?_))
    refine RL.bS (t := TR.int) (vs := []) ([] : List Int) Try.underlying24 Try_lo3 rfl rfl rfl rfl trivial rfl (by decide) ?_
    intro v1
    refine RL.mv rfl rfl rfl ?_
    refine RL.appB 1 0 Try.underlying24 Try_lo3 rfl rfl rfl rfl rfl rfl rfl SlOf.imm (RoomN.of (N := 17592186044416) Try_info3 (by decide) (by decide)) (by simpa using hc) ?_
    intro v2
    refine RL.asg rfl rfl rfl (RL.finG ?_)
    exact GL.ret (Gx.ret (v := v2) (res1 rfl rfl) (fun a w st => (st.pick [1] (by decide) rfl).toPost v2))

set_option maxHeartbeats 4000000 in
theorem slices_Reverse_int_int_c (B : World) (S X : Hp) (f : Nat → Hp) (w : World) (v0 : Value) (x0 : (List Int)) (hO : HeapOk B.heap.size S f [own 3 TR.int v0 x0, keep X].length w) (hB : Below B.heap.size B w) (hI : Its [own 3 TR.int v0 x0, keep X] S f)  (res : (List Int)) (hm : slices_Reverse_int_int_m x0 = some res) : Calls Try.prog 130 #[v0] w (PostM B S (fun (o : Unit) => .tuple #[]) (fun (o : Unit) => [own 3 TR.int v0 res, keep X])) := by
 refine calls_enterM 28 Try.func130 Try.ntmps130 rfl B S f [(0, v0)] [own 3 TR.int v0 x0, keep X] [] rfl ⟨rfl, trivial⟩ hB hO hI trivial ?_
 unfold slices_Reverse_int_int_m at hm
 refine GL.seq ?_
 refine GL.region ?_
 refine RL.mv rfl rfl rfl ?_
 refine RL.lenS 0 Try.underlying24 rfl rfl rfl rfl SlOf.own ?_
 refine RL.binI (v := .int .i64 (wsub ((x0).length : Int) (1 : Int))) rfl rfl rfl rfl rfl ?_
 refine RL.asg rfl rfl rfl ?_
 refine RL.asg rfl rfl rfl ?_
 refine RL.finG ?_
 obtain ⟨y41, K42, h43, h44, h45, h46, h47⟩ := bindR_K hm
 refine GL.join (ι := (List Int) × Int × Int) (fun (p : (List Int) × Int × Int) => []) (fun (p : (List Int) × Int × Int) => [own 3 TR.int v0 p.1, keep X]) (fun (p : (List Int) × Int × Int) => K42 (.nx (p.1, p.2.1, p.2.2))) ?_ ?_
 ·refine GL.block ?_
  refine GL.loop (ι := Nat × (List Int) × Int × Int) (fun (p : Nat × (List Int) × Int × Int) => [(0, v0), (2, .int .i64 p.2.2.1), (3, .int .i64 p.2.2.2)]) (fun (p : Nat × (List Int) × Int × Int) => [own 3 TR.int v0 p.2.1, keep X]) (fun (p : Nat × (List Int) × Int × Int) => loopM slices_Reverse_int_int_b1 p.1 (p.2.1, p.2.2.1, p.2.2.2) = some y41) (fun (p : Nat × (List Int) × Int × Int) => p.1) (1048576, x0, (0 : Int), wsub ((x0).length : Int) (1 : Int)) h43 (fun a w st => St.cut [0, 1] ⟨rfl, rfl, rfl, trivial⟩ (by decide) rfl st) ?_
  rintro ⟨r49, l21, x22, x23⟩ h53
  try dsimp only at h53
  refine GL.weak (env' := [(0, v0), (2, .int .i64 x22), (3, .int .i64 x23)]) (L' := [own 3 TR.int v0 l21, keep X]) (fun _ _ st => st) ?_
  obtain ⟨r56, z50, hr, h51, h52⟩ := loopM_some h53
  subst hr
  unfold slices_Reverse_int_int_b1 at h51
  try dsimp only at h51
  refine GL.seq ?_
  refine GL.seq ?_
  refine GL.region ?_
  refine RL.mv rfl rfl rfl ?_
  refine RL.mv rfl rfl rfl ?_
  refine RL.binI (v := .bool (decide (x22 < x23))) rfl rfl rfl rfl rfl ?_
  refine RL.finG ?_
  refine GL.cond rfl (fun b57 => ?_) (fun b57 => ?_)
  ·replace h51 := ite_t b57 h51
   refine GL.skip ?_
   refine GL.seq ?_
   refine GL.block ?_
   refine GL.regionA rfl rfl ?_
   refine RA.mv 0 rfl (by kernel_rfl) rfl rfl rfl ?_
   refine RA.mv 1 rfl (by kernel_rfl) rfl rfl rfl ?_
   refine RA.mv 2 rfl (by kernel_rfl) rfl rfl rfl ?_
   refine RA.mv 3 rfl (by kernel_rfl) rfl rfl rfl ?_
   refine RA.mv 4 rfl (by kernel_rfl) rfl rfl rfl ?_
   refine RA.mv 5 rfl (by kernel_rfl) rfl rfl rfl ?_
   obtain ⟨y66, e67, h51⟩ := bind_some h51
   refine RA.idxS (sz := 1) 0 Try.underlying24 Try_ln3 6 rfl (by kernel_rfl) rfl rfl rfl rfl rfl SlOf.own (idx_some e67).1 (idx_some e67).2.1 ?_
   refine RA.mv 8 rfl (by kernel_rfl) rfl rfl rfl ?_
   refine RA.mv 9 rfl (by kernel_rfl) rfl rfl rfl ?_
   obtain ⟨y68, e69, h51⟩ := bind_some h51
   refine RA.idxS (sz := 1) 0 Try.underlying24 Try_ln3 10 rfl (by kernel_rfl) rfl rfl rfl rfl rfl SlOf.own (idx_some e69).1 (idx_some e69).2.1 ?_
   refine RA.still (le := #[true, true, true, true, true, true, true, true, true, true, true, true, true, false, false, false]) (f := 3) [7, 11, 12] 13 rfl (by kernel_rfl) ?_
   simp only [pickOps, List.getElem?_toArray, List.getElem?_cons_succ, List.getElem?_cons_zero]
   refine RL.ldSx (i := (x23).toNat) (e' := y66) 0 Ex.ik Try_ln3 rfl rfl rfl rfl SlOf.own (idx_some e67).2.2 Part.self ?_
   refine RL.ldSx (i := (x22).toNat) (e' := y68) 0 Ex.ik Try_ln3 rfl rfl rfl rfl SlOf.own (idx_some e69).2.2 Part.self ?_
   obtain ⟨y70, e71, h51⟩ := bind_some h51
   refine RL.idxS (sz := 1) 0 Try.underlying24 Try_ln3 rfl rfl rfl rfl rfl SlOf.own (idx_some e71).1 (idx_some e71).2.1 ?_
   refine RL.finH ?_
   refine RL.fin ?_
   refine RA.next ?_
   refine RA.seq 13 rfl (by kernel_rfl) ?_
   refine RL.stS (i := (x22).toNat) (e' := y66) (e1 := y66) (r := TR.int) 0 Try_ln3 rfl rfl rfl rfl VR.int rfl (idx_some e71).2.2 Upd.self ?_
   refine RL.fin ?_
   refine RA.next ?_
   obtain ⟨y72, e73, h51⟩ := bind_some h51
   refine RA.idxS (sz := 1) 0 Try.underlying24 Try_ln3 14 rfl (by kernel_rfl) rfl rfl rfl rfl rfl SlOf.own (idx_some e73).1 (idx_some e73).2.1 ?_
   refine RA.seq 15 rfl (by kernel_rfl) ?_
   refine RL.stS (i := (x23).toNat) (e' := y68) (e1 := y68) (r := TR.int) 0 Try_ln3 rfl rfl rfl rfl VR.int rfl (idx_some e73).2.2 Upd.self ?_
   refine RL.fin ?_
   refine RA.next ?_
   refine RA.doneG (by kernel_rfl) ?_
   refine GL.weak (env' := [(0, v0), (2, .int .i64 x22), (3, .int .i64 x23)]) (L' := [own 3 TR.int v0 (List.set (List.set l21 ((x22).toNat) y66) ((x23).toNat) y68), keep X]) (fun a w st => St.cut [0, 1] ⟨rfl, rfl, rfl, trivial⟩ (by decide) rfl st) ?_
   refine GL.nilB ?_
   refine GL.region ?_
   refine RL.mv rfl rfl rfl ?_
   refine RL.binI (v := .int .i64 (wadd x22 (1 : Int))) rfl rfl rfl rfl rfl ?_
   refine RL.mv rfl rfl rfl ?_
   refine RL.binI (v := .int .i64 (wsub x23 (1 : Int))) rfl rfl rfl rfl rfl ?_
   refine RL.asg rfl rfl rfl ?_
   refine RL.asg rfl rfl rfl ?_
   refine RL.finG ?_
   cases h51
   exact fun a w st => lop_intro (r56, (List.set (List.set l21 ((x22).toNat) y66) ((x23).toNat) y68), wadd x22 (1 : Int), wsub x23 (1 : Int)) (by exact h52) (by simp) (St.cut [0, 1] ⟨rfl, rfl, rfl, trivial⟩ (by decide) rfl st)
  replace h51 := ite_f b57 h51
  cases h51
  replace h52 : some (Fl.nx _) = some y41 := h52
  cases h52
  exact GL.exit (fun a w st => mid_intro (l21, x22, x23) h44 (St.cut [0, 1] trivial (by decide) rfl st))
 rintro ⟨l21, x22, x23⟩ h74
 have h75 := h45 _ h74
 try dsimp only at h75
 refine GL.weak (env' := []) (L' := [own 3 TR.int v0 l21, keep X]) (fun _ _ st => st) ?_
 have h75 := Option.some.inj h75
 subst h75
 exact GL.nil (Gx.retN (v := .tuple #[]) (res0 rfl) (fun a w st => (st.pick [0, 1] (by decide) rfl).toPostM (V := fun (o : Unit) => .tuple #[]) (LR := fun (o : Unit) => [own 3 TR.int v0 l21, keep X]) ()))

set_option maxHeartbeats 4000000 in
theorem units_Meet_c (S : Hp) (w : World) (hS : S.sub w) (v0 : Value) (x0 : (List Int)) (k0 : ((TR.sl TR.int)).vrep S v0 x0) (v1 : Value) (x1 : (List Int)) (k1 : ((TR.sl TR.int)).vrep S v1 x1) (res : Int × Int × Int × Int) (hm : units_Meet_m x0 x1 = some res) : Calls Try.prog 113 #[v0, v1] w (PostV w (.tuple #[.int .i64 res.1, .int .i64 res.2.1, .int .i64 res.2.2.1, .int .i64 res.2.2.2])) := by
 refine calls_enter 93 Try.func113 Try.ntmps113 rfl S false [(0, v0), (1, v1)] [imm (TR.sl TR.int) v0 x0, imm (TR.sl TR.int) v1 x1] rfl ⟨rfl, ⟨rfl, trivial⟩⟩ hS ⟨k0, ⟨k1, trivial⟩⟩ ?_
 unfold units_Meet_m at hm
 refine GL.seq ?_
 refine GL.region ?_
 refine RL.asg rfl rfl rfl ?_
 refine RL.asg rfl rfl rfl ?_
 refine RL.asg rfl rfl rfl ?_
 refine RL.asg rfl rfl rfl ?_
 refine RL.finG ?_
 refine GL.seq ?_
 refine GL.seq ?_
 refine GL.region ?_
 refine RL.mv rfl rfl rfl ?_
 obtain ⟨y5, e6, hm⟩ := bind_some hm
 refine RL.callC (v := .int .i64 y5) (vs := [v0, .int .i64 (0 : Int)]) Try_fit118 rfl rfl rfl rfl (fun U w hU hW hL => auction_Check_c U w hU _ _ (hL 0 _ _ rfl Seen.imm) (0 : Int) _ e6) ?_
 refine RL.asg rfl rfl rfl ?_
 refine RL.finG ?_
 refine GL.seq ?_
 refine GL.region ?_
 refine RL.mv rfl rfl rfl ?_
 refine RL.binI (v := .bool (y5 != (0 : Int))) rfl rfl rfl rfl rfl ?_
 refine RL.finG ?_
 refine GL.cond rfl (fun b7 => ?_) (fun b7 => ?_)
 ·replace hm := ite_t b7 hm
  refine GL.seq ?_
  refine GL.region ?_
  refine RL.mv rfl rfl rfl ?_
  refine RL.asg rfl rfl rfl ?_
  refine RL.asg rfl rfl rfl ?_
  refine RL.asg rfl rfl rfl ?_
  refine RL.asg rfl rfl rfl ?_
  refine RL.finG ?_
  have hm := Option.some.inj hm
  subst hm
  exact GL.ret (Gx.ret (v := .tuple #[.int .i64 (0 : Int), .int .i64 (0 : Int), .int .i64 (0 : Int), .int .i64 y5]) (res4 rfl rfl rfl rfl rfl) (fun a w st => st.toPostV))
 replace hm := ite_f b7 hm
 refine GL.skip ?_
 refine GL.seq ?_
 refine GL.seq ?_
 refine GL.region ?_
 refine RL.mv rfl rfl rfl ?_
 obtain ⟨y10, e11, hm⟩ := bind_some hm
 refine RL.callC (v := .int .i64 y10) (vs := [v1, .int .i64 (0 : Int)]) Try_fit118 rfl rfl rfl rfl (fun U w hU hW hL => auction_Check_c U w hU _ _ (hL 1 _ _ rfl Seen.imm) (0 : Int) _ e11) ?_
 refine RL.asg rfl rfl rfl ?_
 refine RL.finG ?_
 refine GL.seq ?_
 refine GL.region ?_
 refine RL.mv rfl rfl rfl ?_
 refine RL.binI (v := .bool (y10 != (0 : Int))) rfl rfl rfl rfl rfl ?_
 refine RL.finG ?_
 refine GL.cond rfl (fun b12 => ?_) (fun b12 => ?_)
 ·replace hm := ite_t b12 hm
  refine GL.seq ?_
  refine GL.region ?_
  refine RL.mv rfl rfl rfl ?_
  refine RL.asg rfl rfl rfl ?_
  refine RL.asg rfl rfl rfl ?_
  refine RL.asg rfl rfl rfl ?_
  refine RL.asg rfl rfl rfl ?_
  refine RL.finG ?_
  have hm := Option.some.inj hm
  subst hm
  exact GL.ret (Gx.ret (v := .tuple #[.int .i64 (0 : Int), .int .i64 (0 : Int), .int .i64 (0 : Int), .int .i64 y10]) (res4 rfl rfl rfl rfl rfl) (fun a w st => st.toPostV))
 replace hm := ite_f b12 hm
 refine GL.skip ?_
 refine GL.seq ?_
 refine GL.region ?_
 refine RL.mv rfl rfl rfl ?_
 obtain ⟨y19, e20, hm⟩ := bind_some hm
 refine RL.call (vs := [v0]) Try_fit18 rfl rfl rfl rfl rfl (fun S f w hS hW hi => slices_Clone_int_int_c S w hS _ _ (hi 0 _ rfl) _ e20) ?_
 intro v21
 refine RL.mv rfl rfl rfl ?_
 obtain ⟨y22, e23, hm⟩ := bind_some hm
 refine RL.call (vs := [v1]) Try_fit18 rfl rfl rfl rfl rfl (fun S f w hS hW hi => slices_Clone_int_int_c S w hS _ _ (hi 1 _ rfl) _ e23) ?_
 intro v24
 refine RL.reL (L' := [imm (TR.sl TR.int) v0 x0, imm (TR.sl TR.int) v1 x1, own 3 TR.int v21 y19, own 3 TR.int v24 y22]) rfl ?_
 refine RL.asg rfl rfl rfl ?_
 refine RL.asg rfl rfl rfl ?_
 refine RL.finG ?_
 refine GL.seq ?_
 refine GL.region ?_
 refine RL.mv rfl rfl rfl ?_
 obtain ⟨y27, e28, hm⟩ := bind_some hm
 refine RL.callK (vs := [v21]) (V := fun (o : Unit) => .tuple #[]) (LR := fun (o : Unit) => [own 3 TR.int v21 y27]) (Ls := [own 3 TR.int v21 y19]) [2] (by decide) Try_fit121 rfl rfl rfl rfl rfl rfl (fun S f X w hO hB hW hI hL => slices_Sort_int_int_c _ S X f w _ _  hO hB hI  _ e28) ?_
 intro _
 refine RL.reL (L' := [imm (TR.sl TR.int) v0 x0, imm (TR.sl TR.int) v1 x1, gone, own 3 TR.int v24 y22, own 3 TR.int v21 y27]) rfl ?_
 refine RL.finG ?_
 refine GL.seq ?_
 refine GL.region ?_
 refine RL.mv rfl rfl rfl ?_
 obtain ⟨y31, e32, hm⟩ := bind_some hm
 refine RL.callK (vs := [v21]) (V := fun (o : Unit) => .tuple #[]) (LR := fun (o : Unit) => [own 3 TR.int v21 y31]) (Ls := [own 3 TR.int v21 y27]) [4] (by decide) Try_fit130 rfl rfl rfl rfl rfl rfl (fun S f X w hO hB hW hI hL => slices_Reverse_int_int_c _ S X f w _ _  hO hB hI  _ e32) ?_
 intro _
 refine RL.reL (L' := [imm (TR.sl TR.int) v0 x0, imm (TR.sl TR.int) v1 x1, gone, own 3 TR.int v24 y22, gone, own 3 TR.int v21 y31]) rfl ?_
 refine RL.finG ?_
 refine GL.seq ?_
 refine GL.region ?_
 refine RL.mv rfl rfl rfl ?_
 obtain ⟨y35, e36, hm⟩ := bind_some hm
 refine RL.callK (vs := [v24]) (V := fun (o : Unit) => .tuple #[]) (LR := fun (o : Unit) => [own 3 TR.int v24 y35]) (Ls := [own 3 TR.int v24 y22]) [3] (by decide) Try_fit121 rfl rfl rfl rfl rfl rfl (fun S f X w hO hB hW hI hL => slices_Sort_int_int_c _ S X f w _ _  hO hB hI  _ e36) ?_
 intro _
 refine RL.reL (L' := [imm (TR.sl TR.int) v0 x0, imm (TR.sl TR.int) v1 x1, gone, gone, gone, own 3 TR.int v21 y31, own 3 TR.int v24 y35]) rfl ?_
 refine RL.finG ?_
 refine GL.seq ?_
 refine GL.region ?_
 refine RL.asg rfl rfl rfl ?_
 refine RL.finG ?_
 refine GL.seq ?_
 obtain ⟨y67, K68, h69, h70, h71, h72, h73⟩ := bindR_K hm
 refine GL.join (ι := Int) (fun (p : Int) => [(10, v21), (11, v24), (12, .int .i64 p)]) (fun (p : Int) => [own 3 TR.int v21 y31, own 3 TR.int v24 y35]) (fun (p : Int) => K68 (.nx p)) ?_ ?_
 ·refine GL.block ?_
  refine GL.loop (ι := Nat × Int) (fun (p : Nat × Int) => [(10, v21), (11, v24), (12, .int .i64 p.2)]) (fun (p : Nat × Int) => [own 3 TR.int v21 y31, own 3 TR.int v24 y35]) (fun (p : Nat × Int) => loopM (units_Meet_b1 y31 y35) p.1 p.2 = some y67) (fun (p : Nat × Int) => p.1) (1048576, (0 : Int)) h69 (fun a w st => St.cut [5, 6] ⟨rfl, rfl, rfl, trivial⟩ (by decide) rfl st) ?_
  rintro ⟨r75, x37⟩ h79
  try dsimp only at h79
  refine GL.weak (env' := [(10, v21), (11, v24), (12, .int .i64 x37)]) (L' := [own 3 TR.int v21 y31, own 3 TR.int v24 y35]) (fun _ _ st => st) ?_
  obtain ⟨r82, z76, hr, h77, h78⟩ := loopM_some h79
  subst hr
  unfold units_Meet_b1 at h77
  try dsimp only at h77
  refine GL.seq ?_
  refine GL.seq ?_
  obtain ⟨y96, K97, h98, h99, h100, h101, h102⟩ := bindF_K h77
  refine GL.join (ι := Bool) (fun (p : Bool) => [(10, v21), (11, v24), (12, .int .i64 x37), (55, .bool p)]) (fun (p : Bool) => [own 3 TR.int v21 y31, own 3 TR.int v24 y35]) (fun (p : Bool) => K97 (.nx p)) ?_ ?_
  ·skip
   refine GL.regionQ rfl rfl (by kernel_rfl) ?_
   refine RL.mv rfl rfl rfl ?_
   refine RL.mv rfl rfl rfl ?_
   refine RL.lenS 0 Try.underlying24 rfl rfl rfl rfl SlOf.own ?_
   refine RL.binI (v := .bool (decide (x37 < ((y31).length : Int)))) rfl rfl rfl rfl rfl ?_
   refine RL.mv rfl rfl rfl ?_
   refine RL.split (t := 39) rfl (fun b103 => ?_) (fun b103 => ?_)
   ·replace h98 := ite_t b103 h98
    refine RL.mv rfl rfl rfl ?_
    refine RL.mv rfl rfl rfl ?_
    refine RL.lenS 1 Try.underlying24 rfl rfl rfl rfl SlOf.own ?_
    refine RL.binI (v := .bool (decide (x37 < ((y35).length : Int)))) rfl rfl rfl rfl rfl ?_
    refine RL.pickT rfl rfl rfl rfl ?_
    refine RL.mv rfl rfl rfl ?_
    refine RL.split (t := 45) rfl (fun b104 => ?_) (fun b104 => ?_)
    ·replace h98 := ite_t b104 h98
     refine RL.mv rfl rfl rfl ?_
     refine RL.mv rfl rfl rfl ?_
     obtain ⟨y105, e106, h98⟩ := bind_some h98
     refine RL.idxS (sz := 1) 0 Try.underlying24 Try_ln3 rfl rfl rfl rfl rfl SlOf.own (idx_some e106).1 (idx_some e106).2.1 ?_
     refine RL.ldSx (i := (x37).toNat) (e' := y105) 0 Ex.ik Try_ln3 rfl rfl rfl rfl SlOf.own (idx_some e106).2.2 Part.self ?_
     refine RL.mv rfl rfl rfl ?_
     refine RL.mv rfl rfl rfl ?_
     obtain ⟨y107, e108, h98⟩ := bind_some h98
     refine RL.idxS (sz := 1) 1 Try.underlying24 Try_ln3 rfl rfl rfl rfl rfl SlOf.own (idx_some e108).1 (idx_some e108).2.1 ?_
     refine RL.ldSx (i := (x37).toNat) (e' := y107) 1 Ex.ik Try_ln3 rfl rfl rfl rfl SlOf.own (idx_some e108).2.2 Part.self ?_
     refine RL.binI (v := .bool (decide (y105 ≥ y107))) rfl rfl rfl rfl rfl ?_
     refine RL.pickT rfl rfl rfl rfl ?_
     refine RL.finQ ?_
     cases h98
     exact fun a w st => mid_intro (decide (y105 ≥ y107)) h99 (St.cut [0, 1] ⟨rfl, rfl, rfl, rfl, trivial⟩ (by decide) rfl st)
    replace h98 := ite_f b104 h98
    refine RL.skip rfl rfl ?_
    refine RL.skip rfl rfl ?_
    refine RL.skip rfl rfl ?_
    refine RL.skip rfl rfl ?_
    refine RL.skip rfl rfl ?_
    refine RL.skip rfl rfl ?_
    refine RL.skip rfl rfl ?_
    refine RL.skip rfl rfl ?_
    refine RL.skip rfl rfl ?_
    refine RL.pickF rfl rfl rfl rfl ?_
    refine RL.finQ ?_
    cases h98
    exact fun a w st => mid_intro false h99 (St.cut [0, 1] ⟨rfl, rfl, rfl, rfl, trivial⟩ (by decide) rfl st)
   replace h98 := ite_f b103 h98
   refine RL.skip rfl rfl ?_
   refine RL.skip rfl rfl ?_
   refine RL.skip rfl rfl ?_
   refine RL.skip rfl rfl ?_
   refine RL.pickF rfl rfl rfl rfl ?_
   refine RL.mv rfl rfl rfl ?_
   refine RL.skip rfl rfl ?_
   refine RL.skip rfl rfl ?_
   refine RL.skip rfl rfl ?_
   refine RL.skip rfl rfl ?_
   refine RL.skip rfl rfl ?_
   refine RL.skip rfl rfl ?_
   refine RL.skip rfl rfl ?_
   refine RL.skip rfl rfl ?_
   refine RL.skip rfl rfl ?_
   refine RL.pickF rfl rfl rfl rfl ?_
   refine RL.finQ ?_
   cases h98
   exact fun a w st => mid_intro false h99 (St.cut [0, 1] ⟨rfl, rfl, rfl, rfl, trivial⟩ (by decide) rfl st)
  rintro x95 h109
  have h110 := h100 _ h109
  try dsimp only at h110
  refine GL.weak (env' := [(10, v21), (11, v24), (12, .int .i64 x37), (55, .bool x95)]) (L' := [own 3 TR.int v21 y31, own 3 TR.int v24 y35]) (fun _ _ st => st) ?_
  refine GL.cond rfl (fun b111 => ?_) (fun b111 => ?_)
  ·replace h110 := ite_t b111 h110
   refine GL.skip ?_
   refine GL.block ?_
   refine GL.region ?_
   refine RL.mv rfl rfl rfl ?_
   refine RL.binI (v := .int .i64 (wadd x37 (1 : Int))) rfl rfl rfl rfl rfl ?_
   refine RL.asg rfl rfl rfl ?_
   refine RL.finG ?_
   refine GL.nilB ?_
   cases h110
   exact fun a w st => lop_intro (r82, wadd x37 (1 : Int)) (by exact h78) (by simp) (St.cut [0, 1] ⟨rfl, rfl, rfl, trivial⟩ (by decide) rfl st)
  replace h110 := ite_f b111 h110
  cases h110
  replace h78 : some (Fl.nx _) = some y67 := h78
  cases h78
  exact GL.exit (fun a w st => mid_intro x37 h70 (St.cut [0, 1] ⟨rfl, rfl, rfl, trivial⟩ (by decide) rfl st))
 rintro x37 h112
 have h113 := h71 _ h112
 try dsimp only at h113
 refine GL.weak (env' := [(10, v21), (11, v24), (12, .int .i64 x37)]) (L' := [own 3 TR.int v21 y31, own 3 TR.int v24 y35]) (fun _ _ st => st) ?_
 refine GL.seq ?_
 refine GL.seq ?_
 refine GL.region ?_
 refine RL.mv rfl rfl rfl ?_
 refine RL.binI (v := .bool (x37 == (0 : Int))) rfl rfl rfl rfl rfl ?_
 refine RL.finG ?_
 refine GL.cond rfl (fun b114 => ?_) (fun b114 => ?_)
 ·replace h113 := ite_t b114 h113
  refine GL.seq ?_
  refine GL.region ?_
  refine RL.asg rfl rfl rfl ?_
  refine RL.asg rfl rfl rfl ?_
  refine RL.asg rfl rfl rfl ?_
  refine RL.asg rfl rfl rfl ?_
  refine RL.finG ?_
  have h113 := Option.some.inj h113
  subst h113
  exact GL.ret (Gx.ret (v := .tuple #[.int .i64 (0 : Int), .int .i64 (0 : Int), .int .i64 (0 : Int), .int .i64 (4 : Int)]) (res4 rfl rfl rfl rfl rfl) (fun a w st => st.toPostV))
 replace h113 := ite_f b114 h113
 refine GL.skip ?_
 refine GL.seq ?_
 refine GL.regionQ rfl rfl (by kernel_rfl) ?_
 refine RL.mv rfl rfl rfl ?_
 refine RL.mv rfl rfl rfl ?_
 refine RL.binI (v := .int .i64 (wsub x37 (1 : Int))) rfl rfl rfl rfl rfl ?_
 obtain ⟨y119, e120, h113⟩ := bind_some h113
 refine RL.idxS (sz := 1) 1 Try.underlying24 Try_ln3 rfl rfl rfl rfl rfl SlOf.own (idx_some e120).1 (idx_some e120).2.1 ?_
 refine RL.ldSx (i := (wsub x37 (1 : Int)).toNat) (e' := y119) 1 Ex.ik Try_ln3 rfl rfl rfl rfl SlOf.own (idx_some e120).2.2 Part.self ?_
 refine RL.mv rfl rfl rfl ?_
 refine RL.mv rfl rfl rfl ?_
 refine RL.binI (v := .int .i64 (wsub x37 (1 : Int))) rfl rfl rfl rfl rfl ?_
 obtain ⟨y121, e122, h113⟩ := bind_some h113
 refine RL.idxS (sz := 1) 0 Try.underlying24 Try_ln3 rfl rfl rfl rfl rfl SlOf.own (idx_some e122).1 (idx_some e122).2.1 ?_
 refine RL.ldSx (i := (wsub x37 (1 : Int)).toNat) (e' := y121) 0 Ex.ik Try_ln3 rfl rfl rfl rfl SlOf.own (idx_some e122).2.2 Part.self ?_
 refine RL.asg rfl rfl rfl ?_
 refine RL.asg rfl rfl rfl ?_
 refine RL.finQG ?_
 refine GL.seq ?_
 refine GL.seq ?_
 refine GL.region ?_
 refine RL.mv rfl rfl rfl ?_
 refine RL.mv rfl rfl rfl ?_
 refine RL.lenS 0 Try.underlying24 rfl rfl rfl rfl SlOf.own ?_
 refine RL.binI (v := .bool (decide (x37 < ((y31).length : Int)))) rfl rfl rfl rfl rfl ?_
 refine RL.finG ?_
 obtain ⟨y129, K130, h131, h132, h133, h134, h135⟩ := bindR_K h113
 refine GL.join (ι := Int) (fun (p : Int) => [(11, v24), (12, .int .i64 x37), (13, .int .i64 p), (14, .int .i64 y121)]) (fun (p : Int) => [own 3 TR.int v24 y35]) (fun (p : Int) => K130 (.nx p)) ?_ ?_
 ·skip
  refine GL.cond rfl (fun b136 => ?_) (fun b136 => ?_)
  ·replace h131 := ite_t b136 h131
   refine GL.region ?_
   refine RL.mv rfl rfl rfl ?_
   refine RL.mv rfl rfl rfl ?_
   refine RL.mv rfl rfl rfl ?_
   obtain ⟨y139, e140, h131⟩ := bind_some h131
   refine RL.idxS (sz := 1) 0 Try.underlying24 Try_ln3 rfl rfl rfl rfl rfl SlOf.own (idx_some e140).1 (idx_some e140).2.1 ?_
   refine RL.ldSx (i := (x37).toNat) (e' := y139) 0 Ex.ik Try_ln3 rfl rfl rfl rfl SlOf.own (idx_some e140).2.2 Part.self ?_
   refine RL.maxI rfl rfl rfl rfl ?_
   refine RL.asg rfl rfl rfl ?_
   refine RL.finG ?_
   cases h131
   exact fun a w st => mid_intro (if y139 > y119 then y139 else y119) h132 (St.cut [1] ⟨rfl, rfl, rfl, rfl, trivial⟩ (by decide) rfl st)
  replace h131 := ite_f b136 h131
  refine GL.skip ?_
  cases h131
  exact fun a w st => mid_intro y119 h132 (St.cut [1] ⟨rfl, rfl, rfl, rfl, trivial⟩ (by decide) rfl st)
 rintro x128 h141
 have h142 := h133 _ h141
 try dsimp only at h142
 refine GL.weak (env' := [(11, v24), (12, .int .i64 x37), (13, .int .i64 x128), (14, .int .i64 y121)]) (L' := [own 3 TR.int v24 y35]) (fun _ _ st => st) ?_
 refine GL.seq ?_
 refine GL.seq ?_
 refine GL.region ?_
 refine RL.mv rfl rfl rfl ?_
 refine RL.mv rfl rfl rfl ?_
 refine RL.lenS 0 Try.underlying24 rfl rfl rfl rfl SlOf.own ?_
 refine RL.binI (v := .bool (decide (x37 < ((y35).length : Int)))) rfl rfl rfl rfl rfl ?_
 refine RL.finG ?_
 obtain ⟨y149, K150, h151, h152, h153, h154, h155⟩ := bindR_K h142
 refine GL.join (ι := Int) (fun (p : Int) => [(12, .int .i64 x37), (13, .int .i64 x128), (14, .int .i64 p)]) (fun (p : Int) => []) (fun (p : Int) => K150 (.nx p)) ?_ ?_
 ·skip
  refine GL.cond rfl (fun b156 => ?_) (fun b156 => ?_)
  ·replace h151 := ite_t b156 h151
   refine GL.region ?_
   refine RL.mv rfl rfl rfl ?_
   refine RL.mv rfl rfl rfl ?_
   refine RL.mv rfl rfl rfl ?_
   obtain ⟨y159, e160, h151⟩ := bind_some h151
   refine RL.idxS (sz := 1) 0 Try.underlying24 Try_ln3 rfl rfl rfl rfl rfl SlOf.own (idx_some e160).1 (idx_some e160).2.1 ?_
   refine RL.ldSx (i := (x37).toNat) (e' := y159) 0 Ex.ik Try_ln3 rfl rfl rfl rfl SlOf.own (idx_some e160).2.2 Part.self ?_
   refine RL.minI rfl rfl rfl rfl ?_
   refine RL.asg rfl rfl rfl ?_
   refine RL.finG ?_
   cases h151
   exact fun a w st => mid_intro (if y159 < y121 then y159 else y121) h152 (St.cut [] ⟨rfl, rfl, rfl, trivial⟩ (by decide) rfl st)
  replace h151 := ite_f b156 h151
  refine GL.skip ?_
  cases h151
  exact fun a w st => mid_intro y121 h152 (St.cut [] ⟨rfl, rfl, rfl, trivial⟩ (by decide) rfl st)
 rintro x148 h161
 have h162 := h153 _ h161
 try dsimp only at h162
 refine GL.weak (env' := [(12, .int .i64 x37), (13, .int .i64 x128), (14, .int .i64 x148)]) (L' := []) (fun _ _ st => st) ?_
 refine GL.seq ?_
 refine GL.region ?_
 refine RL.mv rfl rfl rfl ?_
 refine RL.mv rfl rfl rfl ?_
 refine RL.mv rfl rfl rfl ?_
 refine RL.asg rfl rfl rfl ?_
 refine RL.asg rfl rfl rfl ?_
 refine RL.asg rfl rfl rfl ?_
 refine RL.asg rfl rfl rfl ?_
 refine RL.finG ?_
 have h162 := Option.some.inj h162
 subst h162
 exact GL.ret (Gx.ret (v := .tuple #[.int .i64 x37, .int .i64 x128, .int .i64 x148, .int .i64 (0 : Int)]) (res4 rfl rfl rfl rfl rfl) (fun a w st => st.toPostV))

set_option maxHeartbeats 4000000 in
theorem pk_sells_c (S : Hp) (w : World) (hS : S.sub w)  (res : Bool) (hm : pk_sells_m = some res) : Calls Try.prog 55 #[] w (PostV w (.bool res)) := by
 refine calls_enter 47 Try.func55 Try.ntmps55 rfl S false [] [] rfl trivial hS trivial ?_
 unfold pk_sells_m at hm
 refine GL.seq ?_
 refine GL.region ?_
 refine RL.asg rfl rfl rfl ?_
 refine RL.finG ?_
 refine GL.seq ?_
 refine GL.region ?_
 refine RL.bS (t := TR.int) (vs := [.int .i64 (4 : Int), .int .i64 (8 : Int), .int .i64 (6 : Int), .int .i64 (1 : Int)]) ([(4 : Int), (8 : Int), (6 : Int), (1 : Int)] : (List Int)) Try.underlying24 Try_lo3 rfl rfl rfl rfl ⟨VR.int, ⟨VR.int, ⟨VR.int, ⟨VR.int, trivial⟩⟩⟩⟩ rfl (by decide) ?_
 intro v5
 obtain ⟨y6, e7, hm⟩ := bind_some hm
 refine RL.callU (vs := [v5, .int .i64 (2 : Int)]) (LR := fun (o : Value) => [own 3 TR.int o y6.1]) (fun o => ⟨Loc.own TR.flatT_ik, trivial⟩) Try_fit66 rfl rfl rfl rfl rfl (fun U w hU hW hL => units_Sell_c U w hU _ _ (hL 0 _ _ rfl Seen.own) (2 : Int) _ e7) ?_
 intro v8
 refine RL.mv rfl rfl rfl ?_
 refine RL.ext rfl rfl rfl rfl ?_
 refine RL.ext rfl rfl rfl rfl ?_
 refine RL.ext rfl rfl rfl rfl ?_
 refine RL.asg rfl rfl rfl ?_
 refine RL.asg rfl rfl rfl ?_
 refine RL.asg rfl rfl rfl ?_
 refine RL.finG ?_
 refine GL.seq ?_
 refine GL.region ?_
 refine RL.bS (t := TR.int) (vs := [.int .i64 (9 : Int), .int .i64 (5 : Int), .int .i64 (2 : Int)]) ([(9 : Int), (5 : Int), (2 : Int)] : (List Int)) Try.underlying24 Try_lo3 rfl rfl rfl rfl ⟨VR.int, ⟨VR.int, ⟨VR.int, trivial⟩⟩⟩ rfl (by decide) ?_
 intro v13
 refine RL.reL (L' := [own 3 TR.int v5 ([(4 : Int), (8 : Int), (6 : Int), (1 : Int)] : (List Int)), own 3 TR.int v8 y6.1, own 3 TR.int v13 ([(9 : Int), (5 : Int), (2 : Int)] : (List Int))]) rfl ?_
 refine RL.bS (t := TR.int) (vs := [.int .i64 (3 : Int), .int .i64 (4 : Int), .int .i64 (7 : Int)]) ([(3 : Int), (4 : Int), (7 : Int)] : (List Int)) Try.underlying24 Try_lo3 rfl rfl rfl rfl ⟨VR.int, ⟨VR.int, ⟨VR.int, trivial⟩⟩⟩ rfl (by decide) ?_
 intro v14
 obtain ⟨y15, e16, hm⟩ := bind_some hm
 refine RL.callV (v := .tuple #[.int .i64 y15.1, .int .i64 y15.2.1, .int .i64 y15.2.2.1, .int .i64 y15.2.2.2]) (vs := [v13, v14]) Try_fit113 rfl (Or.inl rfl) rfl rfl rfl rfl (fun U w hU hW hL => units_Meet_c U w hU _ _ (hL 2 _ _ rfl Seen.own) _ _ (hL 3 _ _ rfl Seen.own) _ e16) ?_
 refine RL.mv rfl rfl rfl ?_
 refine RL.ext rfl rfl rfl rfl ?_
 refine RL.ext rfl rfl rfl rfl ?_
 refine RL.ext rfl rfl rfl rfl ?_
 refine RL.ext rfl rfl rfl rfl ?_
 refine RL.asg rfl rfl rfl ?_
 refine RL.asg rfl rfl rfl ?_
 refine RL.asg rfl rfl rfl ?_
 refine RL.asg rfl rfl rfl ?_
 refine RL.finG ?_
 refine GL.seq ?_
 obtain ⟨y40, K41, h42, h43, h44, h45, h46⟩ := bindR_K hm
 refine GL.join (ι := Bool) (fun (p : Bool) => [(0, .bool p)]) (fun (p : Bool) => []) (fun (p : Bool) => K41 (.nx p)) ?_ ?_
 ·skip
  refine GL.region ?_
  refine RL.mv rfl rfl rfl ?_
  refine RL.mv rfl rfl rfl ?_
  refine RL.bS (t := TR.int) (vs := [.int .i64 y6.2.2, .int .i64 y15.2.2.2]) ([y6.2.2, y15.2.2.2] : (List Int)) Try.underlying101 Try_lo25 rfl rfl rfl rfl ⟨VR.int, ⟨VR.int, trivial⟩⟩ rfl (by decide) ?_
  intro v47
  refine RL.reL (L' := [own 3 TR.int v5 ([(4 : Int), (8 : Int), (6 : Int), (1 : Int)] : (List Int)), own 3 TR.int v8 y6.1, own 3 TR.int v13 ([(9 : Int), (5 : Int), (2 : Int)] : (List Int)), own 3 TR.int v14 ([(3 : Int), (4 : Int), (7 : Int)] : (List Int)), own 25 TR.int v47 ([y6.2.2, y15.2.2.2] : (List Int))]) rfl ?_
  obtain ⟨y48, e49, h42⟩ := bind_some h42
  refine RL.callV (v := .bool y48) (vs := [v47]) Try_fit20 rfl (Or.inl rfl) rfl rfl rfl rfl (fun U w hU hW hL => pk_good_c U w hU _ _ (hL 4 _ _ rfl Seen.own) _ e49) ?_
  refine RL.mv rfl rfl rfl ?_
  refine RL.split (t := 26) rfl (fun b50 => ?_) (fun b50 => ?_)
  ·replace h42 := ite_t b50 h42
   refine RL.mv rfl rfl rfl ?_
   refine RL.bS (t := TR.int) (vs := [.int .i64 (1 : Int), .int .i64 (2 : Int)]) ([(1 : Int), (2 : Int)] : (List Int)) Try.underlying24 Try_lo3 rfl rfl rfl rfl ⟨VR.int, ⟨VR.int, trivial⟩⟩ rfl (by decide) ?_
   intro v51
   obtain ⟨y52, e53, h42⟩ := bind_some h42
   refine RL.callV (v := .bool y52) (vs := [v8, v51]) Try_fit22 rfl (Or.inl rfl) rfl rfl rfl rfl (fun U w hU hW hL => slices_Equal_int_int_c U w hU _ _ (hL 1 _ _ rfl Seen.own) _ _ (hL 5 _ _ rfl Seen.own) _ e53) ?_
   refine RL.pickT rfl rfl rfl rfl ?_
   refine RL.mv rfl rfl rfl ?_
   refine RL.split (t := 31) rfl (fun b54 => ?_) (fun b54 => ?_)
   ·replace h42 := ite_t b54 h42
    refine RL.mv rfl rfl rfl ?_
    refine RL.binI (v := .bool (y6.2.1 == (4 : Int))) rfl rfl rfl rfl rfl ?_
    refine RL.pickT rfl rfl rfl rfl ?_
    refine RL.mv rfl rfl rfl ?_
    refine RL.split (t := 35) rfl (fun b55 => ?_) (fun b55 => ?_)
    ·replace h42 := ite_t b55 h42
     refine RL.mv rfl rfl rfl ?_
     refine RL.binI (v := .bool (y15.1 == (2 : Int))) rfl rfl rfl rfl rfl ?_
     refine RL.pickT rfl rfl rfl rfl ?_
     refine RL.mv rfl rfl rfl ?_
     refine RL.split (t := 39) rfl (fun b56 => ?_) (fun b56 => ?_)
     ·replace h42 := ite_t b56 h42
      refine RL.mv rfl rfl rfl ?_
      refine RL.binI (v := .bool (y15.2.1 == (4 : Int))) rfl rfl rfl rfl rfl ?_
      refine RL.pickT rfl rfl rfl rfl ?_
      refine RL.mv rfl rfl rfl ?_
      refine RL.split (t := 43) rfl (fun b57 => ?_) (fun b57 => ?_)
      ·replace h42 := ite_t b57 h42
       refine RL.mv rfl rfl rfl ?_
       refine RL.binI (v := .bool (y15.2.2.1 == (5 : Int))) rfl rfl rfl rfl rfl ?_
       refine RL.pickT rfl rfl rfl rfl ?_
       refine RL.asg rfl rfl rfl ?_
       refine RL.fin ?_
       cases h42
       exact fun a w st => mid_intro (y15.2.2.1 == (5 : Int)) h43 (St.cut [] ⟨rfl, trivial⟩ (by decide) rfl st)
      replace h42 := ite_f b57 h42
      refine RL.skip rfl rfl ?_
      refine RL.skip rfl rfl ?_
      refine RL.pickF rfl rfl rfl rfl ?_
      refine RL.asg rfl rfl rfl ?_
      refine RL.fin ?_
      cases h42
      exact fun a w st => mid_intro false h43 (St.cut [] ⟨rfl, trivial⟩ (by decide) rfl st)
     replace h42 := ite_f b56 h42
     refine RL.skip rfl rfl ?_
     refine RL.skip rfl rfl ?_
     refine RL.pickF rfl rfl rfl rfl ?_
     refine RL.mv rfl rfl rfl ?_
     refine RL.skip rfl rfl ?_
     refine RL.skip rfl rfl ?_
     refine RL.pickF rfl rfl rfl rfl ?_
     refine RL.asg rfl rfl rfl ?_
     refine RL.fin ?_
     cases h42
     exact fun a w st => mid_intro false h43 (St.cut [] ⟨rfl, trivial⟩ (by decide) rfl st)
    replace h42 := ite_f b55 h42
    refine RL.skip rfl rfl ?_
    refine RL.skip rfl rfl ?_
    refine RL.pickF rfl rfl rfl rfl ?_
    refine RL.mv rfl rfl rfl ?_
    refine RL.skip rfl rfl ?_
    refine RL.skip rfl rfl ?_
    refine RL.pickF rfl rfl rfl rfl ?_
    refine RL.mv rfl rfl rfl ?_
    refine RL.skip rfl rfl ?_
    refine RL.skip rfl rfl ?_
    refine RL.pickF rfl rfl rfl rfl ?_
    refine RL.asg rfl rfl rfl ?_
    refine RL.fin ?_
    cases h42
    exact fun a w st => mid_intro false h43 (St.cut [] ⟨rfl, trivial⟩ (by decide) rfl st)
   replace h42 := ite_f b54 h42
   refine RL.skip rfl rfl ?_
   refine RL.skip rfl rfl ?_
   refine RL.pickF rfl rfl rfl rfl ?_
   refine RL.mv rfl rfl rfl ?_
   refine RL.skip rfl rfl ?_
   refine RL.skip rfl rfl ?_
   refine RL.pickF rfl rfl rfl rfl ?_
   refine RL.mv rfl rfl rfl ?_
   refine RL.skip rfl rfl ?_
   refine RL.skip rfl rfl ?_
   refine RL.pickF rfl rfl rfl rfl ?_
   refine RL.mv rfl rfl rfl ?_
   refine RL.skip rfl rfl ?_
   refine RL.skip rfl rfl ?_
   refine RL.pickF rfl rfl rfl rfl ?_
   refine RL.asg rfl rfl rfl ?_
   refine RL.fin ?_
   cases h42
   exact fun a w st => mid_intro false h43 (St.cut [] ⟨rfl, trivial⟩ (by decide) rfl st)
  replace h42 := ite_f b50 h42
  refine RL.skip rfl rfl ?_
  refine RL.skip rfl rfl ?_
  refine RL.skip rfl rfl ?_
  refine RL.pickF rfl rfl rfl rfl ?_
  refine RL.mv rfl rfl rfl ?_
  refine RL.skip rfl rfl ?_
  refine RL.skip rfl rfl ?_
  refine RL.pickF rfl rfl rfl rfl ?_
  refine RL.mv rfl rfl rfl ?_
  refine RL.skip rfl rfl ?_
  refine RL.skip rfl rfl ?_
  refine RL.pickF rfl rfl rfl rfl ?_
  refine RL.mv rfl rfl rfl ?_
  refine RL.skip rfl rfl ?_
  refine RL.skip rfl rfl ?_
  refine RL.pickF rfl rfl rfl rfl ?_
  refine RL.mv rfl rfl rfl ?_
  refine RL.skip rfl rfl ?_
  refine RL.skip rfl rfl ?_
  refine RL.pickF rfl rfl rfl rfl ?_
  refine RL.asg rfl rfl rfl ?_
  refine RL.fin ?_
  cases h42
  exact fun a w st => mid_intro false h43 (St.cut [] ⟨rfl, trivial⟩ (by decide) rfl st)
 rintro x39 h58
 have h59 := h44 _ h58
 try dsimp only at h59
 refine GL.weak (env' := [(0, .bool x39)]) (L' := []) (fun _ _ st => st) ?_
 have h59 := Option.some.inj h59
 subst h59
 exact GL.ret (Gx.ret (v := .bool x39) (res1 rfl rfl) (fun a w st => st.toPostV))

set_option maxHeartbeats 4000000 in
theorem knap_Check_c (S : Hp) (w : World) (hS : S.sub w) (v0 : Value) (x0 : (List (Int × Int))) (k0 : ((TR.sl (TR.pair TR.int TR.int))).vrep S v0 x0) (x1 : Int) (res : Int) (hm : knap_Check_m x0 x1 = some res) : Calls Try.prog 124 #[v0, .int .i64 x1] w (PostV w (.int .i64 res)) := by
 refine calls_enter 41 Try.func124 Try.ntmps124 rfl S false [(0, v0), (1, .int .i64 x1)] [imm (TR.sl (TR.pair TR.int TR.int)) v0 x0] rfl ⟨rfl, ⟨rfl, trivial⟩⟩ hS ⟨k0, trivial⟩ ?_
 unfold knap_Check_m at hm
 refine GL.seq ?_
 refine GL.region ?_
 refine RL.asg rfl rfl rfl ?_
 refine RL.finG ?_
 refine GL.seq ?_
 refine GL.seq ?_
 refine GL.region ?_
 refine RL.mv rfl rfl rfl ?_
 refine RL.lenS 0 Try.underlying77 rfl rfl rfl rfl SlOf.imm ?_
 refine RL.binI (v := .bool (decide (((x0).length : Int) > (12 : Int)))) rfl rfl rfl rfl rfl ?_
 refine RL.finG ?_
 refine GL.cond rfl (fun b3 => ?_) (fun b3 => ?_)
 ·replace hm := ite_t b3 hm
  refine GL.seq ?_
  refine GL.region ?_
  refine RL.asg rfl rfl rfl ?_
  refine RL.finG ?_
  have hm := Option.some.inj hm
  subst hm
  exact GL.ret (Gx.ret (v := .int .i64 (2 : Int)) (res1 rfl rfl) (fun a w st => st.toPostV))
 replace hm := ite_f b3 hm
 refine GL.skip ?_
 refine GL.seq ?_
 refine GL.seq ?_
 refine GL.region ?_
 refine RL.mv rfl rfl rfl ?_
 refine RL.lenS 0 Try.underlying77 rfl rfl rfl rfl SlOf.imm ?_
 refine RL.mv rfl rfl rfl ?_
 refine RL.finG ?_
 refine GL.open_ 0 rfl (fun S h => len_imm S h) (fun n32 => ?_)
 obtain ⟨y33, K34, h35, h36, h37, h38, h39⟩ := bindR_K hm
 refine GL.join (ι := Unit) (fun (p : Unit) => [(1, .int .i64 x1)]) (fun (p : Unit) => []) (fun (p : Unit) => K34 (.nx ())) ?_ ?_
 ·refine GL.block ?_
  refine GL.loop (ι := Nat × (List (Int × Int))) (fun (p : Nat × (List (Int × Int))) => [(1, .int .i64 x1), (10, v0), (11, .int .i64 ((x0).length : Int)), (12, .int .i64 (p.1 : Int))]) (fun (p : Nat × (List (Int × Int))) => [imm (TR.sl (TR.pair TR.int TR.int)) v0 x0]) (fun (p : Nat × (List (Int × Int))) => p.1 + p.2.length = (x0).length ∧ List.drop p.1 x0 = p.2 ∧ rangeL knap_Check_b1 p.2 p.1 () = some y33) (fun (p : Nat × (List (Int × Int))) => p.2.length) (0, x0) ⟨by simp, by simp, h35⟩ (fun a w st => St.cut [0] ⟨rfl, rfl, rfl, rfl, trivial⟩ (by decide) rfl st) ?_
  rintro ⟨i40, r41⟩ ⟨h46, h47, h45⟩
  try dsimp only at h46 h47 h45
  refine GL.weak (env' := [(1, .int .i64 x1), (10, v0), (11, .int .i64 ((x0).length : Int)), (12, .int .i64 (i40 : Int))]) (L' := [imm (TR.sl (TR.pair TR.int TR.int)) v0 x0]) (fun _ _ st => st) ?_
  refine GL.seq ?_
  refine GL.region ?_
  refine RL.binI (v := .bool (decide ((i40 : Int) < ((x0).length : Int)))) rfl rfl rfl rfl rfl ?_
  refine RL.finG ?_
  refine GL.seq ?_
  refine GL.cond rfl (fun b48 => ?_) (fun b48 => ?_)
  ·have h49 : i40 < (x0).length := by have := of_decide_eq_true b48; omega
   obtain ⟨y50, r52, hr, e51, h53⟩ := drop_cons h47 rfl h49
   subst hr
   obtain ⟨z42, h43, h44⟩ := rangeL_some h45
   unfold knap_Check_b1 at h43
   try dsimp only at h43
   refine GL.skip ?_
   refine GL.seq ?_
   refine GL.block ?_
   refine GL.seq ?_
   refine GL.region ?_
   refine RL.idxS (sz := 2) 0 Try.underlying77 Try_ln80 rfl rfl rfl rfl rfl SlOf.imm (by omega) (by omega) ?_
   refine RL.ldS (i := i40) (r := (TR.pair TR.int TR.int)) (e' := y50) 0 Try_ln80 rfl rfl rfl rfl SlOf.imm e51 Part.self ?_
   intro v56
   refine RL.alloc (t := (TR.pair TR.int TR.int)) (z := ((0 : Int), (0 : Int))) Try_lo80 (fun S => ⟨[.int .i64 0], _, rfl, rfl, rfl⟩) rfl rfl rfl ?_
   intro v57
   refine RL.reL (L' := [imm (TR.sl (TR.pair TR.int TR.int)) v0 x0, imm (TR.pair TR.int TR.int) v56 y50, obox 80 (TR.pair TR.int TR.int) v57 ((0 : Int), (0 : Int))]) rfl ?_
   refine RL.stP (off := 0) (e' := y50) (d1 := y50) (r := (TR.pair TR.int TR.int)) 2 Try_ln80 rfl rfl (Or.inr ⟨rfl, rfl⟩) rfl (VR.item 1 rfl) rfl Upd.self ?_
   refine RL.finG ?_
   refine GL.seq ?_
   obtain ⟨y65, K66, h67, h68, h69, h70, h71⟩ := bindF_K h43
   refine GL.join (ι := Bool) (fun (p : Bool) => [(1, .int .i64 x1), (10, v0), (11, .int .i64 ((x0).length : Int)), (12, .int .i64 (i40 : Int)), (33, .bool p)]) (fun (p : Bool) => [imm (TR.sl (TR.pair TR.int TR.int)) v0 x0]) (fun (p : Bool) => K66 (.nx p)) ?_ ?_
   ·skip
    refine GL.region ?_
    refine RL.fadr (off := 0) (fo := 0) 2 Try_fld80_0 rfl rfl rfl PtOf.obox (Or.inr ⟨rfl, rfl⟩) ?_
    refine RL.ldPx (off := (0 + 0)) (e' := y50.1) 2 Ex.ik Try_ln3 rfl rfl (Or.inl rfl) rfl PtOf.obox (Part.fst Part.self) ?_
    refine RL.binI (v := .bool (decide (y50.1 < (1 : Int)))) rfl rfl rfl rfl rfl ?_
    refine RL.mv rfl rfl rfl ?_
    refine RL.split (t := 19) rfl (fun b72 => ?_) (fun b72 => ?_)
    ·replace h67 := ite_t b72 h67
     refine RL.skip rfl rfl ?_
     refine RL.skip rfl rfl ?_
     refine RL.skip rfl rfl ?_
     refine RL.pickT rfl rfl rfl rfl ?_
     refine RL.mv rfl rfl rfl ?_
     refine RL.skip rfl rfl ?_
     refine RL.skip rfl rfl ?_
     refine RL.skip rfl rfl ?_
     refine RL.pickT rfl rfl rfl rfl ?_
     refine RL.mv rfl rfl rfl ?_
     refine RL.skip rfl rfl ?_
     refine RL.skip rfl rfl ?_
     refine RL.skip rfl rfl ?_
     refine RL.pickT rfl rfl rfl rfl ?_
     refine RL.fin ?_
     cases h67
     exact fun a w st => mid_intro true h68 (St.cut [0] ⟨rfl, rfl, rfl, rfl, rfl, trivial⟩ (by decide) rfl st)
    replace h67 := ite_f b72 h67
    refine RL.fadr (off := 0) (fo := 0) 2 Try_fld80_0 rfl rfl rfl PtOf.obox (Or.inr ⟨rfl, rfl⟩) ?_
    refine RL.ldPx (off := (0 + 0)) (e' := y50.1) 2 Ex.ik Try_ln3 rfl rfl (Or.inl rfl) rfl PtOf.obox (Part.fst Part.self) ?_
    refine RL.binI (v := .bool (decide (y50.1 > (100 : Int)))) rfl rfl rfl rfl rfl ?_
    refine RL.pickF rfl rfl rfl rfl ?_
    refine RL.mv rfl rfl rfl ?_
    refine RL.split (t := 24) rfl (fun b73 => ?_) (fun b73 => ?_)
    ·replace h67 := ite_t b73 h67
     refine RL.skip rfl rfl ?_
     refine RL.skip rfl rfl ?_
     refine RL.skip rfl rfl ?_
     refine RL.pickT rfl rfl rfl rfl ?_
     refine RL.mv rfl rfl rfl ?_
     refine RL.skip rfl rfl ?_
     refine RL.skip rfl rfl ?_
     refine RL.skip rfl rfl ?_
     refine RL.pickT rfl rfl rfl rfl ?_
     refine RL.fin ?_
     cases h67
     exact fun a w st => mid_intro true h68 (St.cut [0] ⟨rfl, rfl, rfl, rfl, rfl, trivial⟩ (by decide) rfl st)
    replace h67 := ite_f b73 h67
    refine RL.fadr (off := 0) (fo := 1) 2 Try_fld80_1 rfl rfl rfl PtOf.obox (Or.inr ⟨rfl, rfl⟩) ?_
    refine RL.ldPx (off := (0 + 1)) (e' := y50.2) 2 Ex.ik Try_ln3 rfl rfl (Or.inl rfl) rfl PtOf.obox (Part.snd Part.self) ?_
    refine RL.binI (v := .bool (decide (y50.2 < (0 : Int)))) rfl rfl rfl rfl rfl ?_
    refine RL.pickF rfl rfl rfl rfl ?_
    refine RL.mv rfl rfl rfl ?_
    refine RL.split (t := 29) rfl (fun b74 => ?_) (fun b74 => ?_)
    ·replace h67 := ite_t b74 h67
     refine RL.skip rfl rfl ?_
     refine RL.skip rfl rfl ?_
     refine RL.skip rfl rfl ?_
     refine RL.pickT rfl rfl rfl rfl ?_
     refine RL.fin ?_
     cases h67
     exact fun a w st => mid_intro true h68 (St.cut [0] ⟨rfl, rfl, rfl, rfl, rfl, trivial⟩ (by decide) rfl st)
    replace h67 := ite_f b74 h67
    refine RL.fadr (off := 0) (fo := 1) 2 Try_fld80_1 rfl rfl rfl PtOf.obox (Or.inr ⟨rfl, rfl⟩) ?_
    refine RL.ldPx (off := (0 + 1)) (e' := y50.2) 2 Ex.ik Try_ln3 rfl rfl (Or.inl rfl) rfl PtOf.obox (Part.snd Part.self) ?_
    refine RL.binI (v := .bool (decide (y50.2 > (1000000 : Int)))) rfl rfl rfl rfl rfl ?_
    refine RL.pickF rfl rfl rfl rfl ?_
    refine RL.fin ?_
    cases h67
    exact fun a w st => mid_intro (decide (y50.2 > (1000000 : Int))) h68 (St.cut [0] ⟨rfl, rfl, rfl, rfl, rfl, trivial⟩ (by decide) rfl st)
   rintro x64 h75
   have h76 := h69 _ h75
   try dsimp only at h76
   refine GL.weak (env' := [(1, .int .i64 x1), (10, v0), (11, .int .i64 ((x0).length : Int)), (12, .int .i64 (i40 : Int)), (33, .bool x64)]) (L' := [imm (TR.sl (TR.pair TR.int TR.int)) v0 x0]) (fun _ _ st => st) ?_
   refine GL.cond rfl (fun b77 => ?_) (fun b77 => ?_)
   ·replace h76 := ite_t b77 h76
    refine GL.seq ?_
    refine GL.region ?_
    refine RL.asg rfl rfl rfl ?_
    refine RL.finG ?_
    cases h76
    replace h44 : some (Fl.rt _) = some y33 := h44
    cases h44
    have hh := h38 _ h36
    subst hh
    exact GL.ret (Gx.ret (v := .int .i64 (1 : Int)) (res1 rfl rfl) (fun a w st => st.toPostV))
   replace h76 := ite_f b77 h76
   refine GL.skip ?_
   refine GL.nilB ?_
   refine GL.region ?_
   refine RL.binI (v := .int .i64 ((i40 + 1 : Nat) : Int)) rfl rfl rfl rfl (binI_succ i40 (by omega)) ?_
   refine RL.mv rfl rfl rfl ?_
   refine RL.fin ?_
   cases h76
   exact fun a w st => lop_intro (i40 + 1, r52) ⟨by show i40 + 1 + r52.length = (x0).length; simp only [List.length_cons] at h46; omega, h53, h44⟩ (by simp) (St.cut [0] ⟨rfl, rfl, rfl, rfl, trivial⟩ (by decide) rfl st)
  have h49 : ¬ i40 < (x0).length := by have := of_decide_eq_false b48; omega
  obtain rfl : r41 = [] := by rw [← h47]; exact List.drop_of_length_le (by omega)
  replace h45 : some (Fl.nx _) = some y33 := h45
  cases h45
  exact GL.exit (fun a w st => mid_intro () h36 (St.cut [] ⟨rfl, trivial⟩ (by decide) rfl st))
 rintro ⟨⟩ h78
 have h79 := h37 _ h78
 try dsimp only at h79
 refine GL.weak (env' := [(1, .int .i64 x1)]) (L' := []) (fun _ _ st => st) ?_
 refine GL.seq ?_
 refine GL.seq ?_
 obtain ⟨y83, K84, h85, h86, h87, h88, h89⟩ := bindR_K h79
 refine GL.join (ι := Bool) (fun (p : Bool) => [(40, .bool p)]) (fun (p : Bool) => []) (fun (p : Bool) => K84 (.nx p)) ?_ ?_
 ·skip
  refine GL.region ?_
  refine RL.mv rfl rfl rfl ?_
  refine RL.binI (v := .bool (decide (x1 < (0 : Int)))) rfl rfl rfl rfl rfl ?_
  refine RL.mv rfl rfl rfl ?_
  refine RL.split (t := 37) rfl (fun b90 => ?_) (fun b90 => ?_)
  ·replace h85 := ite_t b90 h85
   refine RL.skip rfl rfl ?_
   refine RL.skip rfl rfl ?_
   refine RL.pickT rfl rfl rfl rfl ?_
   refine RL.fin ?_
   cases h85
   exact fun a w st => mid_intro true h86 (St.cut [] ⟨rfl, trivial⟩ (by decide) rfl st)
  replace h85 := ite_f b90 h85
  refine RL.mv rfl rfl rfl ?_
  refine RL.binI (v := .bool (decide (x1 > (1000 : Int)))) rfl rfl rfl rfl rfl ?_
  refine RL.pickF rfl rfl rfl rfl ?_
  refine RL.fin ?_
  cases h85
  exact fun a w st => mid_intro (decide (x1 > (1000 : Int))) h86 (St.cut [] ⟨rfl, trivial⟩ (by decide) rfl st)
 rintro x82 h91
 have h92 := h87 _ h91
 try dsimp only at h92
 refine GL.weak (env' := [(40, .bool x82)]) (L' := []) (fun _ _ st => st) ?_
 refine GL.cond rfl (fun b93 => ?_) (fun b93 => ?_)
 ·replace h92 := ite_t b93 h92
  refine GL.seq ?_
  refine GL.region ?_
  refine RL.asg rfl rfl rfl ?_
  refine RL.finG ?_
  have h92 := Option.some.inj h92
  subst h92
  exact GL.ret (Gx.ret (v := .int .i64 (1 : Int)) (res1 rfl rfl) (fun a w st => st.toPostV))
 replace h92 := ite_f b93 h92
 refine GL.skip ?_
 refine GL.seq ?_
 refine GL.region ?_
 refine RL.asg rfl rfl rfl ?_
 refine RL.finG ?_
 have h92 := Option.some.inj h92
 subst h92
 exact GL.ret (Gx.ret (v := .int .i64 (0 : Int)) (res1 rfl rfl) (fun a w st => st.toPostV))

set_option maxHeartbeats 4000000 in
theorem knap_Most_c (S : Hp) (w : World) (hS : S.sub w) (v0 : Value) (x0 : (List (Int × Int))) (k0 : ((TR.sl (TR.pair TR.int TR.int))).vrep S v0 x0) (x1 : Int) (res : (List Int) × Int × Int) (hm : knap_Most_m x0 x1 = some res) : Calls Try.prog 70 #[v0, .int .i64 x1] w (Post w S (fun (o : Value) => .tuple #[o, .int .i64 res.2.1, .int .i64 res.2.2]) (fun (o : Value) => [own 3 TR.int o res.1])) := by
 refine calls_enter 162 Try.func70 Try.ntmps70 rfl S false [(0, v0), (1, .int .i64 x1)] [imm (TR.sl (TR.pair TR.int TR.int)) v0 x0] rfl ⟨rfl, ⟨rfl, trivial⟩⟩ hS ⟨k0, trivial⟩ ?_
 unfold knap_Most_m at hm
 refine GL.seq ?_
 refine GL.region ?_
 refine RL.asg rfl rfl rfl ?_
 refine RL.asg rfl rfl rfl ?_
 refine RL.asg rfl rfl rfl ?_
 refine RL.finG ?_
 refine GL.seq ?_
 refine GL.seq ?_
 refine GL.region ?_
 refine RL.mv rfl rfl rfl ?_
 refine RL.mv rfl rfl rfl ?_
 obtain ⟨y5, e6, hm⟩ := bind_some hm
 refine RL.callV (v := .int .i64 y5) (vs := [v0, .int .i64 x1]) Try_fit124 rfl (Or.inl rfl) rfl rfl rfl rfl (fun U w hU hW hL => knap_Check_c U w hU _ _ (hL 0 _ _ rfl Seen.imm) x1 _ e6) ?_
 refine RL.asg rfl rfl rfl ?_
 refine RL.finG ?_
 refine GL.seq ?_
 refine GL.region ?_
 refine RL.mv rfl rfl rfl ?_
 refine RL.binI (v := .bool (y5 != (0 : Int))) rfl rfl rfl rfl rfl ?_
 refine RL.finG ?_
 refine GL.cond rfl (fun b7 => ?_) (fun b7 => ?_)
 ·replace hm := ite_t b7 hm
  refine GL.seq ?_
  refine GL.region ?_
  refine RL.mv rfl rfl rfl ?_
  refine RL.asg rfl rfl rfl ?_
  refine RL.asg rfl rfl rfl ?_
  refine RL.asg rfl rfl rfl ?_
  refine RL.finG ?_
  refine GL.weak (fun a w st => st.nilOwn 3 TR.int) ?_
  have hm := Option.some.inj hm
  subst hm
  exact GL.ret (Gx.ret (v := .tuple #[Value.slice none 0 0, .int .i64 (0 : Int), .int .i64 y5]) (res3 rfl rfl rfl rfl) (fun a w st => (st.pick [1] (by decide) rfl).toPost (Value.slice none 0 0)))
 replace hm := ite_f b7 hm
 refine GL.skip ?_
 refine GL.seq ?_
 refine GL.region ?_
 refine RL.mv rfl rfl rfl ?_
 refine RL.lenS 0 Try.underlying77 rfl rfl rfl rfl SlOf.imm ?_
 refine RL.binI (v := .int .i64 (wadd ((x0).length : Int) (1 : Int))) rfl rfl rfl rfl rfl ?_
 obtain ⟨y11, e12, hm⟩ := bind_some hm
 replace e12 := chk_some e12
 refine RL.mkS (t := TR.raw) (z := .slice none 0 0) Try.underlying37 Try_lo24 (fun S => ⟨rfl, rfl⟩) rfl rfl rfl rfl e12.1 e12.2 ?_
 intro v13
 refine RL.weak (fun a w st => st.toRows 3 TR.int 1 rfl) ?_
 refine RL.reL (L' := [imm (TR.sl (TR.pair TR.int TR.int)) v0 x0, own2 24 3 TR.int v13 (List.replicate (wadd ((x0).length : Int) (1 : Int)).toNat (Value.slice none 0 0)) (List.replicate (wadd ((x0).length : Int) (1 : Int)).toNat ([] : (List Int)))]) rfl ?_
 refine RL.asg rfl rfl rfl ?_
 refine RL.finG ?_
 refine GL.seq ?_
 refine GL.region ?_
 refine RL.mv rfl rfl rfl ?_
 refine RL.mv rfl rfl rfl ?_
 refine RL.lenS 0 Try.underlying77 rfl rfl rfl rfl SlOf.imm ?_
 refine RL.mv rfl rfl rfl ?_
 refine RL.binI (v := .int .i64 (wadd x1 (1 : Int))) rfl rfl rfl rfl rfl ?_
 obtain ⟨y19, e20, hm⟩ := bind_some hm
 replace e20 := chk_some e20
 refine RL.mkS (t := TR.int) (z := (0 : Int)) Try.underlying24 Try_lo3 (fun S => rfl) rfl rfl rfl rfl e20.1 e20.2 ?_
 intro v21
 obtain ⟨y22, e23, hm⟩ := bind_some hm
 refine RL.idxR 1 Try.underlying37 Try_ln24 rfl rfl rfl rfl rfl (idx_some e23).1 (idx_some e23).2.1 ?_
 refine RL.stSp (i := (((x0).length : Int)).toNat) (r0 := y22) 1 2 (by decide) Try_ln24 rfl rfl rfl rfl rfl rfl (idx_some e23).2.2 ?_
 refine RL.reL (L' := [imm (TR.sl (TR.pair TR.int TR.int)) v0 x0, own2 24 3 TR.int v13 (List.set (List.replicate (wadd ((x0).length : Int) (1 : Int)).toNat (Value.slice none 0 0)) ((((x0).length : Int)).toNat) v21) (List.set (List.replicate (wadd ((x0).length : Int) (1 : Int)).toNat ([] : (List Int))) ((((x0).length : Int)).toNat) (List.replicate (wadd x1 (1 : Int)).toNat (0 : Int))), gone]) rfl ?_
 refine RL.finG ?_
 refine GL.seq ?_
 refine GL.seq ?_
 refine GL.region ?_
 refine RL.mv rfl rfl rfl ?_
 refine RL.lenS 0 Try.underlying77 rfl rfl rfl rfl SlOf.imm ?_
 refine RL.binI (v := .int .i64 (wsub ((x0).length : Int) (1 : Int))) rfl rfl rfl rfl rfl ?_
 refine RL.asg rfl rfl rfl ?_
 refine RL.finG ?_
 obtain ⟨y402, K403, h404, h405, h406, h407, h408⟩ := bindR_K hm
 refine GL.join (ι := (List (List Int)) × Int × (List Value)) (fun (p : (List (List Int)) × Int × (List Value)) => [(0, v0), (1, .int .i64 x1), (8, v13)]) (fun (p : (List (List Int)) × Int × (List Value)) => [imm (TR.sl (TR.pair TR.int TR.int)) v0 x0, own2 24 3 TR.int v13 p.2.2 p.1]) (fun (p : (List (List Int)) × Int × (List Value)) => K403 (.nx (p.1, p.2.1))) ?_ ?_
 ·refine GL.block ?_
  refine GL.loop (ι := Nat × (List (List Int)) × Int × (List Value)) (fun (p : Nat × (List (List Int)) × Int × (List Value)) => [(0, v0), (1, .int .i64 x1), (8, v13), (9, .int .i64 p.2.2.1)]) (fun (p : Nat × (List (List Int)) × Int × (List Value)) => [imm (TR.sl (TR.pair TR.int TR.int)) v0 x0, own2 24 3 TR.int v13 p.2.2.2 p.2.1]) (fun (p : Nat × (List (List Int)) × Int × (List Value)) => loopM (knap_Most_b1 x1 x0) p.1 (p.2.1, p.2.2.1) = some y402) (fun (p : Nat × (List (List Int)) × Int × (List Value)) => p.1) (1048576, (List.set (List.replicate (wadd ((x0).length : Int) (1 : Int)).toNat ([] : (List Int))) ((((x0).length : Int)).toNat) (List.replicate (wadd x1 (1 : Int)).toNat (0 : Int))), wsub ((x0).length : Int) (1 : Int), (List.set (List.replicate (wadd ((x0).length : Int) (1 : Int)).toNat (Value.slice none 0 0)) ((((x0).length : Int)).toNat) v21)) h404 (fun a w st => St.cut [0, 1] ⟨rfl, rfl, rfl, rfl, trivial⟩ (by decide) rfl st) ?_
  rintro ⟨r410, l212, x214, V213⟩ h414
  try dsimp only at h414
  refine GL.weak (env' := [(0, v0), (1, .int .i64 x1), (8, v13), (9, .int .i64 x214)]) (L' := [imm (TR.sl (TR.pair TR.int TR.int)) v0 x0, own2 24 3 TR.int v13 V213 l212]) (fun _ _ st => st) ?_
  obtain ⟨r417, z411, hr, h412, h413⟩ := loopM_some h414
  subst hr
  unfold knap_Most_b1 at h412
  try dsimp only at h412
  refine GL.seq ?_
  refine GL.seq ?_
  refine GL.region ?_
  refine RL.mv rfl rfl rfl ?_
  refine RL.binI (v := .bool (decide (x214 ≥ (0 : Int)))) rfl rfl rfl rfl rfl ?_
  refine RL.finG ?_
  refine GL.cond rfl (fun b418 => ?_) (fun b418 => ?_)
  ·replace h412 := ite_t b418 h412
   refine GL.skip ?_
   refine GL.seq ?_
   refine GL.block ?_
   refine GL.seq ?_
   refine GL.region ?_
   refine RL.mv rfl rfl rfl ?_
   refine RL.mv rfl rfl rfl ?_
   refine RL.mv rfl rfl rfl ?_
   refine RL.binI (v := .int .i64 (wadd x1 (1 : Int))) rfl rfl rfl rfl rfl ?_
   obtain ⟨y424, e425, h412⟩ := bind_some h412
   replace e425 := chk_some e425
   refine RL.mkS (t := TR.int) (z := (0 : Int)) Try.underlying24 Try_lo3 (fun S => rfl) rfl rfl rfl rfl e425.1 e425.2 ?_
   intro v426
   obtain ⟨y427, e428, h412⟩ := bind_some h412
   refine RL.idxR 1 Try.underlying37 Try_ln24 rfl rfl rfl rfl rfl (idx_some e428).1 (idx_some e428).2.1 ?_
   refine RL.stSp (i := (x214).toNat) (r0 := y427) 1 2 (by decide) Try_ln24 rfl rfl rfl rfl rfl rfl (idx_some e428).2.2 ?_
   refine RL.reL (L' := [imm (TR.sl (TR.pair TR.int TR.int)) v0 x0, own2 24 3 TR.int v13 (List.set V213 ((x214).toNat) v426) (List.set l212 ((x214).toNat) (List.replicate (wadd x1 (1 : Int)).toNat (0 : Int))), gone]) rfl ?_
   refine RL.finG ?_
   refine GL.seq ?_
   refine GL.region ?_
   refine RL.mv rfl rfl rfl ?_
   refine RL.mv rfl rfl rfl ?_
   obtain ⟨y431, e432, h412⟩ := bind_some h412
   refine RL.idxR 1 Try.underlying37 Try_ln24 rfl rfl rfl rfl rfl (idx_some e432).1 (idx_some e432).2.1 ?_
   refine RL.ldR (i := (x214).toNat) (r := y431) 1 Try_ln24 rfl rfl rfl rfl (idx_some e432).2.2 ?_
   refine RL.lenS 1 Try.underlying24 rfl rfl rfl rfl (SlOf.row (idx_some e432).2.2) ?_
   refine RL.mv rfl rfl rfl ?_
   refine RL.finG ?_
   obtain ⟨y534, e535, h412⟩ := bind_some h412
   replace e535 := chk_some e535
   obtain ⟨y536, K537, h538, h539, h540, h541, h542⟩ := bindF_K h412
   refine GL.join (ι := (List (List Int)) × (List Value)) (fun (p : (List (List Int)) × (List Value)) => [(0, v0), (1, .int .i64 x1), (8, v13), (9, .int .i64 x214)]) (fun (p : (List (List Int)) × (List Value)) => [imm (TR.sl (TR.pair TR.int TR.int)) v0 x0, own2 24 3 TR.int v13 p.2 p.1]) (fun (p : (List (List Int)) × (List Value)) => K537 (.nx p.1)) ?_ ?_
   ·refine GL.block ?_
    refine GL.loop (ι := Nat × Nat × (List (List Int)) × (List Value)) (fun (p : Nat × Nat × (List (List Int)) × (List Value)) => [(0, v0), (1, .int .i64 x1), (8, v13), (9, .int .i64 x214), (50, .int .i64 ((y431).length : Int)), (51, .int .i64 (p.1 : Int))]) (fun (p : Nat × Nat × (List (List Int)) × (List Value)) => [imm (TR.sl (TR.pair TR.int TR.int)) v0 x0, own2 24 3 TR.int v13 p.2.2.2 p.2.2.1]) (fun (p : Nat × Nat × (List (List Int)) × (List Value)) => p.1 + p.2.1 = (((y431).length : Int)).toNat ∧ rangeN (knap_Most_b2 x214 x0) p.2.1 p.1 p.2.2.1 = some y536) (fun (p : Nat × Nat × (List (List Int)) × (List Value)) => p.2.1) (0, (((y431).length : Int)).toNat, (List.set l212 ((x214).toNat) (List.replicate (wadd x1 (1 : Int)).toNat (0 : Int))), (List.set V213 ((x214).toNat) v426)) ⟨by simp, h538⟩ (fun a w st => St.cut [0, 1] ⟨rfl, rfl, rfl, rfl, rfl, rfl, trivial⟩ (by decide) rfl st) ?_
    rintro ⟨i543, r544, l482, V483⟩ ⟨h549, h548⟩
    try dsimp only at h549 h548
    refine GL.weak (env' := [(0, v0), (1, .int .i64 x1), (8, v13), (9, .int .i64 x214), (50, .int .i64 ((y431).length : Int)), (51, .int .i64 (i543 : Int))]) (L' := [imm (TR.sl (TR.pair TR.int TR.int)) v0 x0, own2 24 3 TR.int v13 V483 l482]) (fun _ _ st => st) ?_
    refine GL.seq ?_
    refine GL.region ?_
    refine RL.binI (v := .bool (decide ((i543 : Int) < ((y431).length : Int)))) rfl rfl rfl rfl rfl ?_
    refine RL.finG ?_
    refine GL.seq ?_
    refine GL.cond rfl (fun b551 => ?_) (fun b551 => ?_)
    ·have h552 : i543 < (((y431).length : Int)).toNat := by have := of_decide_eq_true b551; omega
     obtain ⟨r553, hr⟩ : ∃ m, r544 = m + 1 := ⟨r544 - 1, by omega⟩
     subst hr
     obtain ⟨z545, h546, h547⟩ := rangeN_some h548
     unfold knap_Most_b2 at h546
     try dsimp only at h546
     refine GL.skip ?_
     refine GL.seq ?_
     refine GL.block ?_
     refine GL.seq ?_
     refine GL.region ?_
     refine RL.mv rfl rfl rfl ?_
     refine RL.asg rfl rfl rfl ?_
     refine RL.finG ?_
     refine GL.seq ?_
     refine GL.regionH 14 rfl rfl (by kernel_rfl) ?_
     simp only [List.take_succ_cons, List.take_zero, List.drop_succ_cons, List.drop_zero]
     refine RL.mv rfl rfl rfl ?_
     refine RL.mv rfl rfl rfl ?_
     obtain ⟨y562, e563, h546⟩ := bind_some h546
     refine RL.idxR 1 Try.underlying37 Try_ln24 rfl rfl rfl rfl rfl (idx_some e563).1 (idx_some e563).2.1 ?_
     refine RL.ldR (i := (x214).toNat) (r := y562) 1 Try_ln24 rfl rfl rfl rfl (idx_some e563).2.2 ?_
     refine RL.mv rfl rfl rfl ?_
     refine RL.mv rfl rfl rfl ?_
     refine RL.mv rfl rfl rfl ?_
     refine RL.binI (v := .int .i64 (wadd x214 (1 : Int))) rfl rfl rfl rfl rfl ?_
     obtain ⟨y564, e565, h546⟩ := bind_some h546
     refine RL.idxR 1 Try.underlying37 Try_ln24 rfl rfl rfl rfl rfl (idx_some e565).1 (idx_some e565).2.1 ?_
     refine RL.ldR (i := (wadd x214 (1 : Int)).toNat) (r := y564) 1 Try_ln24 rfl rfl rfl rfl (idx_some e565).2.2 ?_
     refine RL.mv rfl rfl rfl ?_
     obtain ⟨y566, e567, h546⟩ := bind_some h546
     refine RL.idxS (sz := 1) 1 Try.underlying24 Try_ln3 rfl rfl rfl rfl rfl (SlOf.row (idx_some e565).2.2) (idx_some e567).1 (idx_some e567).2.1 ?_
     refine RL.ldSx (i := i543) (e' := y566) 1 Ex.ik Try_ln3 rfl rfl rfl rfl (SlOf.row (idx_some e565).2.2) (idx_some e567).2.2 Part.self ?_
     obtain ⟨y568, e569, h546⟩ := bind_some h546
     refine RL.idxS (sz := 1) 1 Try.underlying24 Try_ln3 rfl rfl rfl rfl rfl (SlOf.row (idx_some e563).2.2) (idx_some e569).1 (idx_some e569).2.1 ?_
     refine RL.finH ?_
     refine RL.stR (i := (x214).toNat) (j := i543) (row := y562) (e' := y566) (e1 := y566) (r := TR.int) 1 Try_ln3 rfl rfl rfl rfl VR.int rfl (idx_some e563).2.2 (idx_some e569).2.2 Upd.self ?_
     refine RL.finG ?_
     refine GL.seq ?_
     refine GL.region ?_
     refine RL.mv rfl rfl rfl ?_
     refine RL.mv rfl rfl rfl ?_
     obtain ⟨y574, e575, h546⟩ := bind_some h546
     refine RL.idxS (sz := 2) 0 Try.underlying77 Try_ln80 rfl rfl rfl rfl rfl SlOf.imm (idx_some e575).1 (idx_some e575).2.1 ?_
     refine RL.ldS (i := (x214).toNat) (r := (TR.pair TR.int TR.int)) (e' := y574) 0 Try_ln80 rfl rfl rfl rfl SlOf.imm (idx_some e575).2.2 Part.self ?_
     intro v576
     refine RL.reL (L' := [imm (TR.sl (TR.pair TR.int TR.int)) v0 x0, own2 24 3 TR.int v13 V483 (List.set l482 ((x214).toNat) (List.set y562 i543 y566)), imm (TR.pair TR.int TR.int) v576 y574]) rfl ?_
     refine RL.alloc (t := (TR.pair TR.int TR.int)) (z := ((0 : Int), (0 : Int))) Try_lo80 (fun S => ⟨[.int .i64 0], _, rfl, rfl, rfl⟩) rfl rfl rfl ?_
     intro v577
     refine RL.stP (off := 0) (e' := y574) (d1 := y574) (r := (TR.pair TR.int TR.int)) 3 Try_ln80 rfl rfl (Or.inr ⟨rfl, rfl⟩) rfl (VR.item 2 rfl) rfl Upd.self ?_
     refine RL.reL (L' := [imm (TR.sl (TR.pair TR.int TR.int)) v0 x0, own2 24 3 TR.int v13 V483 (List.set l482 ((x214).toNat) (List.set y562 i543 y566)), imm (TR.pair TR.int TR.int) v576 y574, obox 80 (TR.pair TR.int TR.int) v577 y574]) rfl ?_
     refine RL.finG ?_
     refine GL.seq ?_
     refine GL.region ?_
     refine RL.fadr (off := 0) (fo := 0) 3 Try_fld80_0 rfl rfl rfl PtOf.obox (Or.inr ⟨rfl, rfl⟩) ?_
     refine RL.ldPx (off := (0 + 0)) (e' := y574.1) 3 Ex.ik Try_ln3 rfl rfl (Or.inl rfl) rfl PtOf.obox (Part.fst Part.self) ?_
     refine RL.mv rfl rfl rfl ?_
     refine RL.binI (v := .bool (decide (y574.1 ≤ (i543 : Int)))) rfl rfl rfl rfl rfl ?_
     refine RL.finG ?_
     refine GL.cond rfl (fun b578 => ?_) (fun b578 => ?_)
     ·replace h546 := ite_t b578 h546
      refine GL.regionH 28 rfl rfl (by kernel_rfl) ?_
      simp only [List.take_succ_cons, List.take_zero, List.drop_succ_cons, List.drop_zero]
      refine RL.mv rfl rfl rfl ?_
      refine RL.mv rfl rfl rfl ?_
      obtain ⟨y591, e592, h546⟩ := bind_some h546
      refine RL.idxR 1 Try.underlying37 Try_ln24 rfl rfl rfl rfl rfl (idx_some e592).1 (idx_some e592).2.1 ?_
      refine RL.ldR (i := (x214).toNat) (r := y591) 1 Try_ln24 rfl rfl rfl rfl (idx_some e592).2.2 ?_
      refine RL.mv rfl rfl rfl ?_
      refine RL.mv rfl rfl rfl ?_
      refine RL.mv rfl rfl rfl ?_
      obtain ⟨y593, e594, h546⟩ := bind_some h546
      refine RL.idxR 1 Try.underlying37 Try_ln24 rfl rfl rfl rfl rfl (idx_some e594).1 (idx_some e594).2.1 ?_
      refine RL.ldR (i := (x214).toNat) (r := y593) 1 Try_ln24 rfl rfl rfl rfl (idx_some e594).2.2 ?_
      refine RL.mv rfl rfl rfl ?_
      obtain ⟨y595, e596, h546⟩ := bind_some h546
      refine RL.idxS (sz := 1) 1 Try.underlying24 Try_ln3 rfl rfl rfl rfl rfl (SlOf.row (idx_some e594).2.2) (idx_some e596).1 (idx_some e596).2.1 ?_
      refine RL.ldSx (i := i543) (e' := y595) 1 Ex.ik Try_ln3 rfl rfl rfl rfl (SlOf.row (idx_some e594).2.2) (idx_some e596).2.2 Part.self ?_
      refine RL.fadr (off := 0) (fo := 1) 3 Try_fld80_1 rfl rfl rfl PtOf.obox (Or.inr ⟨rfl, rfl⟩) ?_
      refine RL.ldPx (off := (0 + 1)) (e' := y574.2) 3 Ex.ik Try_ln3 rfl rfl (Or.inl rfl) rfl PtOf.obox (Part.snd Part.self) ?_
      refine RL.mv rfl rfl rfl ?_
      refine RL.mv rfl rfl rfl ?_
      refine RL.binI (v := .int .i64 (wadd x214 (1 : Int))) rfl rfl rfl rfl rfl ?_
      obtain ⟨y597, e598, h546⟩ := bind_some h546
      refine RL.idxR 1 Try.underlying37 Try_ln24 rfl rfl rfl rfl rfl (idx_some e598).1 (idx_some e598).2.1 ?_
      refine RL.ldR (i := (wadd x214 (1 : Int)).toNat) (r := y597) 1 Try_ln24 rfl rfl rfl rfl (idx_some e598).2.2 ?_
      refine RL.mv rfl rfl rfl ?_
      refine RL.fadr (off := 0) (fo := 0) 3 Try_fld80_0 rfl rfl rfl PtOf.obox (Or.inr ⟨rfl, rfl⟩) ?_
      refine RL.ldPx (off := (0 + 0)) (e' := y574.1) 3 Ex.ik Try_ln3 rfl rfl (Or.inl rfl) rfl PtOf.obox (Part.fst Part.self) ?_
      refine RL.binI (v := .int .i64 (wsub (i543 : Int) y574.1)) rfl rfl rfl rfl rfl ?_
      obtain ⟨y599, e600, h546⟩ := bind_some h546
      refine RL.idxS (sz := 1) 1 Try.underlying24 Try_ln3 rfl rfl rfl rfl rfl (SlOf.row (idx_some e598).2.2) (idx_some e600).1 (idx_some e600).2.1 ?_
      refine RL.ldSx (i := (wsub (i543 : Int) y574.1).toNat) (e' := y599) 1 Ex.ik Try_ln3 rfl rfl rfl rfl (SlOf.row (idx_some e598).2.2) (idx_some e600).2.2 Part.self ?_
      refine RL.binI (v := .int .i64 (wadd y574.2 y599)) rfl rfl rfl rfl rfl ?_
      refine RL.maxI rfl rfl rfl rfl ?_
      obtain ⟨y601, e602, h546⟩ := bind_some h546
      refine RL.idxS (sz := 1) 1 Try.underlying24 Try_ln3 rfl rfl rfl rfl rfl (SlOf.row (idx_some e592).2.2) (idx_some e602).1 (idx_some e602).2.1 ?_
      refine RL.finH ?_
      refine RL.stR (i := (x214).toNat) (j := i543) (row := y591) (e' := if (wadd y574.2 y599) > y595 then wadd y574.2 y599 else y595) (e1 := if (wadd y574.2 y599) > y595 then wadd y574.2 y599 else y595) (r := TR.int) 1 Try_ln3 rfl rfl rfl rfl VR.int rfl (idx_some e592).2.2 (idx_some e602).2.2 Upd.self ?_
      refine RL.finG ?_
      refine GL.weak (env' := [(0, v0), (1, .int .i64 x1), (8, v13), (9, .int .i64 x214), (50, .int .i64 ((y431).length : Int)), (51, .int .i64 (i543 : Int))]) (L' := [imm (TR.sl (TR.pair TR.int TR.int)) v0 x0, own2 24 3 TR.int v13 V483 (List.set (List.set l482 ((x214).toNat) (List.set y562 i543 y566)) ((x214).toNat) (List.set y591 i543 (if (wadd y574.2 y599) > y595 then wadd y574.2 y599 else y595)))]) (fun a w st => St.cut [0, 1] ⟨rfl, rfl, rfl, rfl, rfl, rfl, trivial⟩ (by decide) rfl st) ?_
      refine GL.nilB ?_
      refine GL.region ?_
      refine RL.binI (v := .int .i64 ((i543 + 1 : Nat) : Int)) rfl rfl rfl rfl (binI_succ i543 (by omega)) ?_
      refine RL.mv rfl rfl rfl ?_
      refine RL.fin ?_
      cases h546
      exact fun a w st => lop_intro (i543 + 1, r553, (List.set (List.set l482 ((x214).toNat) (List.set y562 i543 y566)) ((x214).toNat) (List.set y591 i543 (if (wadd y574.2 y599) > y595 then wadd y574.2 y599 else y595))), V483) ⟨by show i543 + 1 + r553 = (((y431).length : Int)).toNat; omega, h547⟩ (by simp) (St.cut [0, 1] ⟨rfl, rfl, rfl, rfl, rfl, rfl, trivial⟩ (by decide) rfl st)
     replace h546 := ite_f b578 h546
     refine GL.skip ?_
     refine GL.nilB ?_
     refine GL.region ?_
     refine RL.binI (v := .int .i64 ((i543 + 1 : Nat) : Int)) rfl rfl rfl rfl (binI_succ i543 (by omega)) ?_
     refine RL.mv rfl rfl rfl ?_
     refine RL.fin ?_
     cases h546
     exact fun a w st => lop_intro (i543 + 1, r553, (List.set l482 ((x214).toNat) (List.set y562 i543 y566)), V483) ⟨by show i543 + 1 + r553 = (((y431).length : Int)).toNat; omega, h547⟩ (by simp) (St.cut [0, 1] ⟨rfl, rfl, rfl, rfl, rfl, rfl, trivial⟩ (by decide) rfl st)
    have h552 : ¬ i543 < (((y431).length : Int)).toNat := by have := of_decide_eq_false b551; omega
    obtain rfl : r544 = 0 := by omega
    replace h548 : some (Fl.nx _) = some y536 := h548
    cases h548
    exact GL.exit (fun a w st => mid_intro (l482, V483) h539 (St.cut [0, 1] ⟨rfl, rfl, rfl, rfl, trivial⟩ (by decide) rfl st))
   rintro ⟨l482, V483⟩ h603
   have h604 := h540 _ h603
   try dsimp only at h604
   refine GL.weak (env' := [(0, v0), (1, .int .i64 x1), (8, v13), (9, .int .i64 x214)]) (L' := [imm (TR.sl (TR.pair TR.int TR.int)) v0 x0, own2 24 3 TR.int v13 V483 l482]) (fun _ _ st => st) ?_
   refine GL.nilB ?_
   refine GL.region ?_
   refine RL.mv rfl rfl rfl ?_
   refine RL.binI (v := .int .i64 (wsub x214 (1 : Int))) rfl rfl rfl rfl rfl ?_
   refine RL.asg rfl rfl rfl ?_
   refine RL.finG ?_
   cases h604
   exact fun a w st => lop_intro (r417, l482, wsub x214 (1 : Int), V483) (by exact h413) (by simp) (St.cut [0, 1] ⟨rfl, rfl, rfl, rfl, trivial⟩ (by decide) rfl st)
  replace h412 := ite_f b418 h412
  cases h412
  replace h413 : some (Fl.nx _) = some y402 := h413
  cases h413
  exact GL.exit (fun a w st => mid_intro (l212, x214, V213) h405 (St.cut [0, 1] ⟨rfl, rfl, rfl, trivial⟩ (by decide) rfl st))
 rintro ⟨l212, x214, V213⟩ h605
 have h606 := h406 _ h605
 try dsimp only at h606
 refine GL.weak (env' := [(0, v0), (1, .int .i64 x1), (8, v13)]) (L' := [imm (TR.sl (TR.pair TR.int TR.int)) v0 x0, own2 24 3 TR.int v13 V213 l212]) (fun _ _ st => st) ?_
 refine GL.seq ?_
 refine GL.region ?_
 refine RL.asg rfl rfl rfl ?_
 refine RL.finG ?_
 refine GL.seq ?_
 refine GL.region ?_
 refine RL.mv rfl rfl rfl ?_
 refine RL.asg rfl rfl rfl ?_
 refine RL.finG ?_
 refine GL.seq ?_
 refine GL.seq ?_
 refine GL.region ?_
 refine RL.mv rfl rfl rfl ?_
 refine RL.lenS 0 Try.underlying77 rfl rfl rfl rfl SlOf.imm ?_
 refine RL.mv rfl rfl rfl ?_
 refine RL.finG ?_
 refine GL.weak (fun a w st => st.nilOwn 3 TR.int) ?_
 refine GL.open_ 0 rfl (fun S h => len_imm S h) (fun n667 => ?_)
 obtain ⟨y668, K669, h670, h671, h672, h673, h674⟩ := bindR_K h606
 refine GL.join (ι := (List Int) × Int × Value) (fun (p : (List Int) × Int × Value) => [(1, .int .i64 x1), (8, v13), (12, p.2.2)]) (fun (p : (List Int) × Int × Value) => [own2 24 3 TR.int v13 V213 l212, own 3 TR.int p.2.2 p.1]) (fun (p : (List Int) × Int × Value) => K669 (.nx (p.1, p.2.1))) ?_ ?_
 ·refine GL.block ?_
  refine GL.loop (ι := Nat × (List (Int × Int)) × (List Int) × Int × Value) (fun (p : Nat × (List (Int × Int)) × (List Int) × Int × Value) => [(1, .int .i64 x1), (8, v13), (12, p.2.2.2.2), (13, .int .i64 p.2.2.2.1), (106, v0), (107, .int .i64 ((x0).length : Int)), (108, .int .i64 (p.1 : Int))]) (fun (p : Nat × (List (Int × Int)) × (List Int) × Int × Value) => [own2 24 3 TR.int v13 V213 l212, own 3 TR.int p.2.2.2.2 p.2.2.1, imm (TR.sl (TR.pair TR.int TR.int)) v0 x0]) (fun (p : Nat × (List (Int × Int)) × (List Int) × Int × Value) => p.1 + p.2.1.length = (x0).length ∧ List.drop p.1 x0 = p.2.1 ∧ rangeL (knap_Most_b3 l212) p.2.1 p.1 (p.2.2.1, p.2.2.2.1) = some y668) (fun (p : Nat × (List (Int × Int)) × (List Int) × Int × Value) => p.2.1.length) (0, x0, [], x1, Value.slice none 0 0) ⟨by simp, by simp, h670⟩ (fun a w st => St.cut [1, 2, 0] ⟨rfl, rfl, rfl, rfl, rfl, rfl, rfl, trivial⟩ (by decide) rfl st) ?_
  rintro ⟨i675, r676, l607, x609, v608⟩ ⟨h681, h682, h680⟩
  try dsimp only at h681 h682 h680
  refine GL.weak (env' := [(1, .int .i64 x1), (8, v13), (12, v608), (13, .int .i64 x609), (106, v0), (107, .int .i64 ((x0).length : Int)), (108, .int .i64 (i675 : Int))]) (L' := [own2 24 3 TR.int v13 V213 l212, own 3 TR.int v608 l607, imm (TR.sl (TR.pair TR.int TR.int)) v0 x0]) (fun _ _ st => st) ?_
  refine GL.seq ?_
  refine GL.region ?_
  refine RL.binI (v := .bool (decide ((i675 : Int) < ((x0).length : Int)))) rfl rfl rfl rfl rfl ?_
  refine RL.finG ?_
  refine GL.seq ?_
  refine GL.cond rfl (fun b683 => ?_) (fun b683 => ?_)
  ·have h684 : i675 < (x0).length := by have := of_decide_eq_true b683; omega
   obtain ⟨y685, r687, hr, e686, h688⟩ := drop_cons h682 rfl h684
   subst hr
   obtain ⟨z677, h678, h679⟩ := rangeL_some h680
   unfold knap_Most_b3 at h678
   try dsimp only at h678
   refine GL.skip ?_
   refine GL.seq ?_
   refine GL.block ?_
   refine GL.seq ?_
   refine GL.region ?_
   refine RL.mv rfl rfl rfl ?_
   refine RL.idxS (sz := 2) 2 Try.underlying77 Try_ln80 rfl rfl rfl rfl rfl SlOf.imm (by omega) (by omega) ?_
   refine RL.ldS (i := i675) (r := (TR.pair TR.int TR.int)) (e' := y685) 2 Try_ln80 rfl rfl rfl rfl SlOf.imm e686 Part.self ?_
   intro v691
   refine RL.alloc (t := (TR.pair TR.int TR.int)) (z := ((0 : Int), (0 : Int))) Try_lo80 (fun S => ⟨[.int .i64 0], _, rfl, rfl, rfl⟩) rfl rfl rfl ?_
   intro v692
   refine RL.reL (L' := [own2 24 3 TR.int v13 V213 l212, own 3 TR.int v608 l607, imm (TR.sl (TR.pair TR.int TR.int)) v0 x0, imm (TR.pair TR.int TR.int) v691 y685, obox 80 (TR.pair TR.int TR.int) v692 ((0 : Int), (0 : Int))]) rfl ?_
   refine RL.asg rfl rfl rfl ?_
   refine RL.stP (off := 0) (e' := y685) (d1 := y685) (r := (TR.pair TR.int TR.int)) 4 Try_ln80 rfl rfl (Or.inr ⟨rfl, rfl⟩) rfl (VR.item 3 rfl) rfl Upd.self ?_
   refine RL.finG ?_
   refine GL.seq ?_
   obtain ⟨y714, K715, h716, h717, h718, h719, h720⟩ := bindF_K h678
   refine GL.join (ι := Bool) (fun (p : Bool) => [(1, .int .i64 x1), (8, v13), (12, v608), (13, .int .i64 x609), (14, .int .i64 (i675 : Int)), (15, v692), (106, v0), (107, .int .i64 ((x0).length : Int)), (108, .int .i64 (i675 : Int)), (145, .bool p)]) (fun (p : Bool) => [own2 24 3 TR.int v13 V213 l212, own 3 TR.int v608 l607, obox 80 (TR.pair TR.int TR.int) v692 y685, imm (TR.sl (TR.pair TR.int TR.int)) v0 x0]) (fun (p : Bool) => K715 (.nx p)) ?_ ?_
   ·skip
    refine GL.regionQ rfl rfl (by kernel_rfl) ?_
    refine RL.fadr (off := 0) (fo := 0) 4 Try_fld80_0 rfl rfl rfl PtOf.obox (Or.inr ⟨rfl, rfl⟩) ?_
    refine RL.ldPx (off := (0 + 0)) (e' := y685.1) 4 Ex.ik Try_ln3 rfl rfl (Or.inl rfl) rfl PtOf.obox (Part.fst Part.self) ?_
    refine RL.mv rfl rfl rfl ?_
    refine RL.binI (v := .bool (decide (y685.1 ≤ x609))) rfl rfl rfl rfl rfl ?_
    refine RL.mv rfl rfl rfl ?_
    refine RL.split (t := 117) rfl (fun b721 => ?_) (fun b721 => ?_)
    ·replace h716 := ite_t b721 h716
     refine RL.fadr (off := 0) (fo := 1) 4 Try_fld80_1 rfl rfl rfl PtOf.obox (Or.inr ⟨rfl, rfl⟩) ?_
     refine RL.ldPx (off := (0 + 1)) (e' := y685.2) 4 Ex.ik Try_ln3 rfl rfl (Or.inl rfl) rfl PtOf.obox (Part.snd Part.self) ?_
     refine RL.binI (v := .bool (decide (y685.2 > (0 : Int)))) rfl rfl rfl rfl rfl ?_
     refine RL.pickT rfl rfl rfl rfl ?_
     refine RL.mv rfl rfl rfl ?_
     refine RL.split (t := 122) rfl (fun b722 => ?_) (fun b722 => ?_)
     ·replace h716 := ite_t b722 h716
      refine RL.fadr (off := 0) (fo := 1) 4 Try_fld80_1 rfl rfl rfl PtOf.obox (Or.inr ⟨rfl, rfl⟩) ?_
      refine RL.ldPx (off := (0 + 1)) (e' := y685.2) 4 Ex.ik Try_ln3 rfl rfl (Or.inl rfl) rfl PtOf.obox (Part.snd Part.self) ?_
      refine RL.mv rfl rfl rfl ?_
      refine RL.mv rfl rfl rfl ?_
      refine RL.binI (v := .int .i64 (wadd (i675 : Int) (1 : Int))) rfl rfl rfl rfl rfl ?_
      obtain ⟨y723, e724, h716⟩ := bind_some h716
      refine RL.idxR 0 Try.underlying37 Try_ln24 rfl rfl rfl rfl rfl (idx_some e724).1 (idx_some e724).2.1 ?_
      refine RL.ldR (i := (wadd (i675 : Int) (1 : Int)).toNat) (r := y723) 0 Try_ln24 rfl rfl rfl rfl (idx_some e724).2.2 ?_
      refine RL.mv rfl rfl rfl ?_
      refine RL.fadr (off := 0) (fo := 0) 4 Try_fld80_0 rfl rfl rfl PtOf.obox (Or.inr ⟨rfl, rfl⟩) ?_
      refine RL.ldPx (off := (0 + 0)) (e' := y685.1) 4 Ex.ik Try_ln3 rfl rfl (Or.inl rfl) rfl PtOf.obox (Part.fst Part.self) ?_
      refine RL.binI (v := .int .i64 (wsub x609 y685.1)) rfl rfl rfl rfl rfl ?_
      obtain ⟨y725, e726, h716⟩ := bind_some h716
      refine RL.idxS (sz := 1) 0 Try.underlying24 Try_ln3 rfl rfl rfl rfl rfl (SlOf.row (idx_some e724).2.2) (idx_some e726).1 (idx_some e726).2.1 ?_
      refine RL.ldSx (i := (wsub x609 y685.1).toNat) (e' := y725) 0 Ex.ik Try_ln3 rfl rfl rfl rfl (SlOf.row (idx_some e724).2.2) (idx_some e726).2.2 Part.self ?_
      refine RL.binI (v := .int .i64 (wadd y685.2 y725)) rfl rfl rfl rfl rfl ?_
      refine RL.mv rfl rfl rfl ?_
      refine RL.mv rfl rfl rfl ?_
      obtain ⟨y727, e728, h716⟩ := bind_some h716
      refine RL.idxR 0 Try.underlying37 Try_ln24 rfl rfl rfl rfl rfl (idx_some e728).1 (idx_some e728).2.1 ?_
      refine RL.ldR (i := i675) (r := y727) 0 Try_ln24 rfl rfl rfl rfl (idx_some e728).2.2 ?_
      refine RL.mv rfl rfl rfl ?_
      obtain ⟨y729, e730, h716⟩ := bind_some h716
      refine RL.idxS (sz := 1) 0 Try.underlying24 Try_ln3 rfl rfl rfl rfl rfl (SlOf.row (idx_some e728).2.2) (idx_some e730).1 (idx_some e730).2.1 ?_
      refine RL.ldSx (i := (x609).toNat) (e' := y729) 0 Ex.ik Try_ln3 rfl rfl rfl rfl (SlOf.row (idx_some e728).2.2) (idx_some e730).2.2 Part.self ?_
      refine RL.binI (v := .bool ((wadd y685.2 y725) == y729)) rfl rfl rfl rfl rfl ?_
      refine RL.pickT rfl rfl rfl rfl ?_
      refine RL.finQ ?_
      cases h716
      exact fun a w st => mid_intro ((wadd y685.2 y725) == y729) h717 (St.cut [0, 1, 4, 2] ⟨rfl, rfl, rfl, rfl, rfl, rfl, rfl, rfl, rfl, rfl, trivial⟩ (by decide) rfl st)
     replace h716 := ite_f b722 h716
     refine RL.skip rfl rfl ?_
     refine RL.skip rfl rfl ?_
     refine RL.skip rfl rfl ?_
     refine RL.skip rfl rfl ?_
     refine RL.skip rfl rfl ?_
     refine RL.skip rfl rfl ?_
     refine RL.skip rfl rfl ?_
     refine RL.skip rfl rfl ?_
     refine RL.skip rfl rfl ?_
     refine RL.skip rfl rfl ?_
     refine RL.skip rfl rfl ?_
     refine RL.skip rfl rfl ?_
     refine RL.skip rfl rfl ?_
     refine RL.skip rfl rfl ?_
     refine RL.skip rfl rfl ?_
     refine RL.skip rfl rfl ?_
     refine RL.skip rfl rfl ?_
     refine RL.skip rfl rfl ?_
     refine RL.skip rfl rfl ?_
     refine RL.skip rfl rfl ?_
     refine RL.skip rfl rfl ?_
     refine RL.skip rfl rfl ?_
     refine RL.pickF rfl rfl rfl rfl ?_
     refine RL.finQ ?_
     cases h716
     exact fun a w st => mid_intro false h717 (St.cut [0, 1, 4, 2] ⟨rfl, rfl, rfl, rfl, rfl, rfl, rfl, rfl, rfl, rfl, trivial⟩ (by decide) rfl st)
    replace h716 := ite_f b721 h716
    refine RL.skip rfl rfl ?_
    refine RL.skip rfl rfl ?_
    refine RL.skip rfl rfl ?_
    refine RL.pickF rfl rfl rfl rfl ?_
    refine RL.mv rfl rfl rfl ?_
    refine RL.skip rfl rfl ?_
    refine RL.skip rfl rfl ?_
    refine RL.skip rfl rfl ?_
    refine RL.skip rfl rfl ?_
    refine RL.skip rfl rfl ?_
    refine RL.skip rfl rfl ?_
    refine RL.skip rfl rfl ?_
    refine RL.skip rfl rfl ?_
    refine RL.skip rfl rfl ?_
    refine RL.skip rfl rfl ?_
    refine RL.skip rfl rfl ?_
    refine RL.skip rfl rfl ?_
    refine RL.skip rfl rfl ?_
    refine RL.skip rfl rfl ?_
    refine RL.skip rfl rfl ?_
    refine RL.skip rfl rfl ?_
    refine RL.skip rfl rfl ?_
    refine RL.skip rfl rfl ?_
    refine RL.skip rfl rfl ?_
    refine RL.skip rfl rfl ?_
    refine RL.skip rfl rfl ?_
    refine RL.skip rfl rfl ?_
    refine RL.pickF rfl rfl rfl rfl ?_
    refine RL.finQ ?_
    cases h716
    exact fun a w st => mid_intro false h717 (St.cut [0, 1, 4, 2] ⟨rfl, rfl, rfl, rfl, rfl, rfl, rfl, rfl, rfl, rfl, trivial⟩ (by decide) rfl st)
   rintro x713 h731
   have h732 := h718 _ h731
   try dsimp only at h732
   refine GL.weak (env' := [(1, .int .i64 x1), (8, v13), (12, v608), (13, .int .i64 x609), (14, .int .i64 (i675 : Int)), (15, v692), (106, v0), (107, .int .i64 ((x0).length : Int)), (108, .int .i64 (i675 : Int)), (145, .bool x713)]) (L' := [own2 24 3 TR.int v13 V213 l212, own 3 TR.int v608 l607, obox 80 (TR.pair TR.int TR.int) v692 y685, imm (TR.sl (TR.pair TR.int TR.int)) v0 x0]) (fun _ _ st => st) ?_
   refine GL.cond rfl (fun b733 => ?_) (fun b733 => ?_)
   ·replace h732 := ite_t b733 h732
    refine GL.seq ?_
    refine GL.region ?_
    refine RL.mv rfl rfl rfl ?_
    refine RL.mv rfl rfl rfl ?_
    refine RL.bS (t := TR.int) (vs := [.int .i64 (i675 : Int)]) ([(i675 : Int)] : (List Int)) Try.underlying24 Try_lo3 rfl rfl rfl rfl ⟨VR.int, trivial⟩ rfl (by decide) ?_
    intro v738
    obtain ⟨y739, e740, h732⟩ := bind_some h732
    replace e740 := chk_some e740
    refine RL.app 1 4 Try.underlying24 Try_lo3 rfl rfl rfl rfl rfl rfl rfl SlOf.own e740 ?_
    intro v741
    refine RL.reL (L' := [own2 24 3 TR.int v13 V213 l212, own 3 TR.int v741 (l607 ++ ([(i675 : Int)] : (List Int))), obox 80 (TR.pair TR.int TR.int) v692 y685, imm (TR.sl (TR.pair TR.int TR.int)) v0 x0, own 3 TR.int v738 ([(i675 : Int)] : (List Int))]) rfl ?_
    refine RL.asg rfl rfl rfl ?_
    refine RL.finG ?_
    refine GL.region ?_
    refine RL.mv rfl rfl rfl ?_
    refine RL.fadr (off := 0) (fo := 0) 2 Try_fld80_0 rfl rfl rfl PtOf.obox (Or.inr ⟨rfl, rfl⟩) ?_
    refine RL.ldPx (off := (0 + 0)) (e' := y685.1) 2 Ex.ik Try_ln3 rfl rfl (Or.inl rfl) rfl PtOf.obox (Part.fst Part.self) ?_
    refine RL.binI (v := .int .i64 (wsub x609 y685.1)) rfl rfl rfl rfl rfl ?_
    refine RL.asg rfl rfl rfl ?_
    refine RL.finG ?_
    refine GL.nilB ?_
    refine GL.region ?_
    refine RL.binI (v := .int .i64 ((i675 + 1 : Nat) : Int)) rfl rfl rfl rfl (binI_succ i675 (by omega)) ?_
    refine RL.mv rfl rfl rfl ?_
    refine RL.fin ?_
    cases h732
    exact fun a w st => lop_intro (i675 + 1, r687, (l607 ++ ([(i675 : Int)] : (List Int))), wsub x609 y685.1, v741) ⟨by show i675 + 1 + r687.length = (x0).length; simp only [List.length_cons] at h681; omega, h688, h679⟩ (by simp) (St.cut [0, 1, 3] ⟨rfl, rfl, rfl, rfl, rfl, rfl, rfl, trivial⟩ (by decide) rfl st)
   replace h732 := ite_f b733 h732
   refine GL.skip ?_
   refine GL.nilB ?_
   refine GL.region ?_
   refine RL.binI (v := .int .i64 ((i675 + 1 : Nat) : Int)) rfl rfl rfl rfl (binI_succ i675 (by omega)) ?_
   refine RL.mv rfl rfl rfl ?_
   refine RL.fin ?_
   cases h732
   exact fun a w st => lop_intro (i675 + 1, r687, l607, x609, v608) ⟨by show i675 + 1 + r687.length = (x0).length; simp only [List.length_cons] at h681; omega, h688, h679⟩ (by simp) (St.cut [0, 1, 3] ⟨rfl, rfl, rfl, rfl, rfl, rfl, rfl, trivial⟩ (by decide) rfl st)
  have h684 : ¬ i675 < (x0).length := by have := of_decide_eq_false b683; omega
  obtain rfl : r676 = [] := by rw [← h682]; exact List.drop_of_length_le (by omega)
  replace h680 : some (Fl.nx _) = some y668 := h680
  cases h680
  exact GL.exit (fun a w st => mid_intro (l607, x609, v608) h671 (St.cut [0, 1] ⟨rfl, rfl, rfl, trivial⟩ (by decide) rfl st))
 rintro ⟨l607, x609, v608⟩ h742
 have h743 := h672 _ h742
 try dsimp only at h743
 refine GL.weak (env' := [(1, .int .i64 x1), (8, v13), (12, v608)]) (L' := [own2 24 3 TR.int v13 V213 l212, own 3 TR.int v608 l607]) (fun _ _ st => st) ?_
 refine GL.seq ?_
 refine GL.regionQ rfl rfl (by kernel_rfl) ?_
 refine RL.mv rfl rfl rfl ?_
 refine RL.mv rfl rfl rfl ?_
 obtain ⟨y748, e749, h743⟩ := bind_some h743
 refine RL.idxR 0 Try.underlying37 Try_ln24 rfl rfl rfl rfl rfl (idx_some e749).1 (idx_some e749).2.1 ?_
 refine RL.ldR (i := ((0 : Int)).toNat) (r := y748) 0 Try_ln24 rfl rfl rfl rfl (idx_some e749).2.2 ?_
 refine RL.mv rfl rfl rfl ?_
 obtain ⟨y750, e751, h743⟩ := bind_some h743
 refine RL.idxS (sz := 1) 0 Try.underlying24 Try_ln3 rfl rfl rfl rfl rfl (SlOf.row (idx_some e749).2.2) (idx_some e751).1 (idx_some e751).2.1 ?_
 refine RL.ldSx (i := (x1).toNat) (e' := y750) 0 Ex.ik Try_ln3 rfl rfl rfl rfl (SlOf.row (idx_some e749).2.2) (idx_some e751).2.2 Part.self ?_
 refine RL.asg rfl rfl rfl ?_
 refine RL.asg rfl rfl rfl ?_
 refine RL.asg rfl rfl rfl ?_
 refine RL.finQG ?_
 have h743 := Option.some.inj h743
 subst h743
 exact GL.ret (Gx.ret (v := .tuple #[v608, .int .i64 y750, .int .i64 (0 : Int)]) (res3 rfl rfl rfl rfl) (fun a w st => (st.pick [1] (by decide) rfl).toPost v608))

set_option maxHeartbeats 4000000 in
theorem pk_knaps_c (S : Hp) (w : World) (hS : S.sub w)  (res : Bool) (hm : pk_knaps_m = some res) : Calls Try.prog 56 #[] w (PostV w (.bool res)) := by
 refine calls_enter 24 Try.func56 Try.ntmps56 rfl S false [] [] rfl trivial hS trivial ?_
 unfold pk_knaps_m at hm
 refine GL.seq ?_
 refine GL.region ?_
 refine RL.asg rfl rfl rfl ?_
 refine RL.finG ?_
 refine GL.seq ?_
 refine GL.region ?_
 refine RL.bld (t := (TR.pair TR.int TR.int)) (d0 := (((2 : Int), (3 : Int)) : (Int × Int))) (pv := [(0, .int .i64 (2 : Int)), (1, .int .i64 (3 : Int))]) rfl Try_bld80 rfl rfl rfl ⟨⟨_, _, TR.int, (2 : Int), rfl, rfl, VR.int⟩, ⟨⟨_, _, TR.int, (3 : Int), rfl, rfl, VR.int⟩, trivial⟩⟩ (fun S f hi => by
   obtain ⟨c0, e0, r0⟩ := cells_vrep (t := TR.int) (u := .int .i64 (2 : Int)) (e := (2 : Int)) (VR.int S f hi)
   obtain ⟨c1, e1, r1⟩ := cells_vrep (t := TR.int) (u := .int .i64 (3 : Int)) (e := (3 : Int)) (VR.int S f hi)
   show TR.rep (TR.pair TR.int TR.int) S (List.flatten [(.int .i64 (2 : Int) : Value).cells.toList, (.int .i64 (3 : Int) : Value).cells.toList]) _
   simp only [e0, e1,  List.flatten_cons, List.flatten_nil, List.append_nil]
   exact ⟨_, _, rfl, r0, r1⟩) ?_
 intro v8
 refine RL.bld (t := (TR.pair TR.int TR.int)) (d0 := (((3 : Int), (4 : Int)) : (Int × Int))) (pv := [(0, .int .i64 (3 : Int)), (1, .int .i64 (4 : Int))]) rfl Try_bld80 rfl rfl rfl ⟨⟨_, _, TR.int, (3 : Int), rfl, rfl, VR.int⟩, ⟨⟨_, _, TR.int, (4 : Int), rfl, rfl, VR.int⟩, trivial⟩⟩ (fun S f hi => by
   obtain ⟨c0, e0, r0⟩ := cells_vrep (t := TR.int) (u := .int .i64 (3 : Int)) (e := (3 : Int)) (VR.int S f hi)
   obtain ⟨c1, e1, r1⟩ := cells_vrep (t := TR.int) (u := .int .i64 (4 : Int)) (e := (4 : Int)) (VR.int S f hi)
   show TR.rep (TR.pair TR.int TR.int) S (List.flatten [(.int .i64 (3 : Int) : Value).cells.toList, (.int .i64 (4 : Int) : Value).cells.toList]) _
   simp only [e0, e1,  List.flatten_cons, List.flatten_nil, List.append_nil]
   exact ⟨_, _, rfl, r0, r1⟩) ?_
 intro v9
 refine RL.reL (L' := [imm (TR.pair TR.int TR.int) v8 (((2 : Int), (3 : Int)) : (Int × Int)), imm (TR.pair TR.int TR.int) v9 (((3 : Int), (4 : Int)) : (Int × Int))]) rfl ?_
 refine RL.bld (t := (TR.pair TR.int TR.int)) (d0 := (((4 : Int), (6 : Int)) : (Int × Int))) (pv := [(0, .int .i64 (4 : Int)), (1, .int .i64 (6 : Int))]) rfl Try_bld80 rfl rfl rfl ⟨⟨_, _, TR.int, (4 : Int), rfl, rfl, VR.int⟩, ⟨⟨_, _, TR.int, (6 : Int), rfl, rfl, VR.int⟩, trivial⟩⟩ (fun S f hi => by
   obtain ⟨c0, e0, r0⟩ := cells_vrep (t := TR.int) (u := .int .i64 (4 : Int)) (e := (4 : Int)) (VR.int S f hi)
   obtain ⟨c1, e1, r1⟩ := cells_vrep (t := TR.int) (u := .int .i64 (6 : Int)) (e := (6 : Int)) (VR.int S f hi)
   show TR.rep (TR.pair TR.int TR.int) S (List.flatten [(.int .i64 (4 : Int) : Value).cells.toList, (.int .i64 (6 : Int) : Value).cells.toList]) _
   simp only [e0, e1,  List.flatten_cons, List.flatten_nil, List.append_nil]
   exact ⟨_, _, rfl, r0, r1⟩) ?_
 intro v10
 refine RL.bS (t := (TR.pair TR.int TR.int)) (vs := [v8, v9, v10]) ([(((2 : Int), (3 : Int)) : (Int × Int)), (((3 : Int), (4 : Int)) : (Int × Int)), (((4 : Int), (6 : Int)) : (Int × Int))] : (List (Int × Int))) Try.underlying77 Try_lo80 rfl rfl rfl rfl ⟨(VR.item 0 rfl), ⟨(VR.item 1 rfl), ⟨(VR.item 2 rfl), trivial⟩⟩⟩ rfl (by decide) ?_
 intro v11
 refine RL.reL (L' := [imm (TR.pair TR.int TR.int) v8 (((2 : Int), (3 : Int)) : (Int × Int)), imm (TR.pair TR.int TR.int) v9 (((3 : Int), (4 : Int)) : (Int × Int)), imm (TR.pair TR.int TR.int) v10 (((4 : Int), (6 : Int)) : (Int × Int)), own 80 (TR.pair TR.int TR.int) v11 ([(((2 : Int), (3 : Int)) : (Int × Int)), (((3 : Int), (4 : Int)) : (Int × Int)), (((4 : Int), (6 : Int)) : (Int × Int))] : (List (Int × Int)))]) rfl ?_
 obtain ⟨y12, e13, hm⟩ := bind_some hm
 refine RL.callU (vs := [v11, .int .i64 (5 : Int)]) (LR := fun (o : Value) => [own 3 TR.int o y12.1]) (fun o => ⟨Loc.own TR.flatT_ik, trivial⟩) Try_fit70 rfl rfl rfl rfl rfl (fun U w hU hW hL => knap_Most_c U w hU _ _ (hL 3 _ _ rfl Seen.own) (5 : Int) _ e13) ?_
 intro v14
 refine RL.mv rfl rfl rfl ?_
 refine RL.ext rfl rfl rfl rfl ?_
 refine RL.ext rfl rfl rfl rfl ?_
 refine RL.ext rfl rfl rfl rfl ?_
 refine RL.asg rfl rfl rfl ?_
 refine RL.asg rfl rfl rfl ?_
 refine RL.asg rfl rfl rfl ?_
 refine RL.finG ?_
 refine GL.seq ?_
 obtain ⟨y26, K27, h28, h29, h30, h31, h32⟩ := bindR_K hm
 refine GL.join (ι := Bool) (fun (p : Bool) => [(0, .bool p)]) (fun (p : Bool) => []) (fun (p : Bool) => K27 (.nx p)) ?_ ?_
 ·skip
  refine GL.region ?_
  refine RL.mv rfl rfl rfl ?_
  refine RL.binI (v := .bool (y12.2.2 == (0 : Int))) rfl rfl rfl rfl rfl ?_
  refine RL.mv rfl rfl rfl ?_
  refine RL.split (t := 15) rfl (fun b33 => ?_) (fun b33 => ?_)
  ·replace h28 := ite_t b33 h28
   refine RL.mv rfl rfl rfl ?_
   refine RL.binI (v := .bool (y12.2.1 == (7 : Int))) rfl rfl rfl rfl rfl ?_
   refine RL.pickT rfl rfl rfl rfl ?_
   refine RL.mv rfl rfl rfl ?_
   refine RL.split (t := 19) rfl (fun b34 => ?_) (fun b34 => ?_)
   ·replace h28 := ite_t b34 h28
    refine RL.mv rfl rfl rfl ?_
    refine RL.bS (t := TR.int) (vs := [.int .i64 (0 : Int), .int .i64 (1 : Int)]) ([(0 : Int), (1 : Int)] : (List Int)) Try.underlying24 Try_lo3 rfl rfl rfl rfl ⟨VR.int, ⟨VR.int, trivial⟩⟩ rfl (by decide) ?_
    intro v35
    obtain ⟨y36, e37, h28⟩ := bind_some h28
    refine RL.callV (v := .bool y36) (vs := [v14, v35]) Try_fit22 rfl (Or.inl rfl) rfl rfl rfl rfl (fun U w hU hW hL => slices_Equal_int_int_c U w hU _ _ (hL 4 _ _ rfl Seen.own) _ _ (hL 5 _ _ rfl Seen.own) _ e37) ?_
    refine RL.pickT rfl rfl rfl rfl ?_
    refine RL.asg rfl rfl rfl ?_
    refine RL.fin ?_
    cases h28
    exact fun a w st => mid_intro y36 h29 (St.cut [] ⟨rfl, trivial⟩ (by decide) rfl st)
   replace h28 := ite_f b34 h28
   refine RL.skip rfl rfl ?_
   refine RL.skip rfl rfl ?_
   refine RL.skip rfl rfl ?_
   refine RL.pickF rfl rfl rfl rfl ?_
   refine RL.asg rfl rfl rfl ?_
   refine RL.fin ?_
   cases h28
   exact fun a w st => mid_intro false h29 (St.cut [] ⟨rfl, trivial⟩ (by decide) rfl st)
  replace h28 := ite_f b33 h28
  refine RL.skip rfl rfl ?_
  refine RL.skip rfl rfl ?_
  refine RL.pickF rfl rfl rfl rfl ?_
  refine RL.mv rfl rfl rfl ?_
  refine RL.skip rfl rfl ?_
  refine RL.skip rfl rfl ?_
  refine RL.skip rfl rfl ?_
  refine RL.pickF rfl rfl rfl rfl ?_
  refine RL.asg rfl rfl rfl ?_
  refine RL.fin ?_
  cases h28
  exact fun a w st => mid_intro false h29 (St.cut [] ⟨rfl, trivial⟩ (by decide) rfl st)
 rintro x25 h38
 have h39 := h30 _ h38
 try dsimp only at h39
 refine GL.weak (env' := [(0, .bool x25)]) (L' := []) (fun _ _ st => st) ?_
 have h39 := Option.some.inj h39
 subst h39
 exact GL.ret (Gx.ret (v := .bool x25) (res1 rfl rfl) (fun a w st => st.toPostV))

set_option maxHeartbeats 4000000 in
theorem pk_copied_c (S : Hp) (w : World) (hS : S.sub w) (v0 : Value) (x0 : (List (List Int))) (k0 : ((TR.sl (TR.sl TR.int))).vrep S v0 x0) (res : (List (List Int))) (hm : pk_copied_m x0 = some res) : Calls Try.prog 33 #[v0] w (Post w S (fun (o : Value) => o) (fun (o : Value) => [own 24 (TR.sl TR.int) o res])) := by
 refine calls_enter 19 Try.func33 Try.ntmps33 rfl S false [(0, v0)] [imm (TR.sl (TR.sl TR.int)) v0 x0] rfl ⟨rfl, trivial⟩ hS ⟨k0, trivial⟩ ?_
 unfold pk_copied_m at hm
 refine GL.seq ?_
 refine GL.region ?_
 refine RL.asg rfl rfl rfl ?_
 refine RL.finG ?_
 refine GL.seq ?_
 refine GL.region ?_
 refine RL.asg rfl rfl rfl ?_
 refine RL.finG ?_
 refine GL.seq ?_
 refine GL.seq ?_
 refine GL.region ?_
 refine RL.mv rfl rfl rfl ?_
 refine RL.lenS 0 Try.underlying37 rfl rfl rfl rfl SlOf.imm ?_
 refine RL.mv rfl rfl rfl ?_
 refine RL.finG ?_
 refine GL.weak (fun a w st => st.nilOwn 24 (TR.sl TR.int)) ?_
 refine GL.open_ 0 rfl (fun S h => len_imm S h) (fun n24 => ?_)
 obtain ⟨y25, K26, h27, h28, h29, h30, h31⟩ := bindR_K hm
 refine GL.join (ι := (List (List Int)) × Value) (fun (p : (List (List Int)) × Value) => [(3, p.2)]) (fun (p : (List (List Int)) × Value) => [own 24 (TR.sl TR.int) p.2 p.1]) (fun (p : (List (List Int)) × Value) => K26 (.nx p.1)) ?_ ?_
 ·refine GL.block ?_
  refine GL.loop (ι := Nat × (List (List Int)) × (List (List Int)) × Value) (fun (p : Nat × (List (List Int)) × (List (List Int)) × Value) => [(3, p.2.2.2), (6, v0), (7, .int .i64 ((x0).length : Int)), (8, .int .i64 (p.1 : Int))]) (fun (p : Nat × (List (List Int)) × (List (List Int)) × Value) => [own 24 (TR.sl TR.int) p.2.2.2 p.2.2.1, imm (TR.sl (TR.sl TR.int)) v0 x0]) (fun (p : Nat × (List (List Int)) × (List (List Int)) × Value) => p.1 + p.2.1.length = (x0).length ∧ List.drop p.1 x0 = p.2.1 ∧ rangeL pk_copied_b1 p.2.1 p.1 p.2.2.1 = some y25) (fun (p : Nat × (List (List Int)) × (List (List Int)) × Value) => p.2.1.length) (0, x0, [], Value.slice none 0 0) ⟨by simp, by simp, h27⟩ (fun a w st => St.cut [1, 0] ⟨rfl, rfl, rfl, rfl, trivial⟩ (by decide) rfl st) ?_
  rintro ⟨i33, r34, l2, v3⟩ ⟨h39, h40, h38⟩
  try dsimp only at h39 h40 h38
  refine GL.weak (env' := [(3, v3), (6, v0), (7, .int .i64 ((x0).length : Int)), (8, .int .i64 (i33 : Int))]) (L' := [own 24 (TR.sl TR.int) v3 l2, imm (TR.sl (TR.sl TR.int)) v0 x0]) (fun _ _ st => st) ?_
  refine GL.seq ?_
  refine GL.region ?_
  refine RL.binI (v := .bool (decide ((i33 : Int) < ((x0).length : Int)))) rfl rfl rfl rfl rfl ?_
  refine RL.finG ?_
  refine GL.seq ?_
  refine GL.cond rfl (fun b41 => ?_) (fun b41 => ?_)
  ·have h42 : i33 < (x0).length := by have := of_decide_eq_true b41; omega
   obtain ⟨y43, r45, hr, e44, h46⟩ := drop_cons h40 rfl h42
   subst hr
   obtain ⟨z35, h36, h37⟩ := rangeL_some h38
   unfold pk_copied_b1 at h36
   try dsimp only at h36
   refine GL.skip ?_
   refine GL.seq ?_
   refine GL.block ?_
   refine GL.seq ?_
   refine GL.region ?_
   refine RL.idxS (sz := 1) 1 Try.underlying37 Try_ln24 rfl rfl rfl rfl rfl SlOf.imm (by omega) (by omega) ?_
   refine RL.ldS (i := i33) (r := (TR.sl TR.int)) (e' := y43) 1 Try_ln24 rfl rfl rfl rfl SlOf.imm e44 Part.self ?_
   intro v48
   refine RL.asg rfl rfl rfl ?_
   refine RL.finG ?_
   refine GL.region ?_
   refine RL.mv rfl rfl rfl ?_
   refine RL.mv rfl rfl rfl ?_
   obtain ⟨y56, e57, h36⟩ := bind_some h36
   refine RL.call (vs := [v48]) Try_fit18 rfl rfl rfl rfl rfl (fun S f w hS hW hi => slices_Clone_int_int_c S w hS _ _ (hi 2 _ rfl) _ e57) ?_
   intro v58
   refine RL.reL (L' := [own 24 (TR.sl TR.int) v3 l2, imm (TR.sl (TR.sl TR.int)) v0 x0, imm (TR.sl TR.int) v48 y43, own 3 TR.int v58 y56]) rfl ?_
   refine RL.weak (fun a w st => st.freeze 3 rfl) ?_
   refine RL.bS (t := (TR.sl TR.int)) (vs := [v58]) ([y56] : (List (List Int))) Try.underlying37 Try_lo24 rfl rfl rfl rfl ⟨(VR.item 3 rfl), trivial⟩ rfl (by decide) ?_
   intro v59
   refine RL.reL (L' := [own 24 (TR.sl TR.int) v3 l2, imm (TR.sl (TR.sl TR.int)) v0 x0, imm (TR.sl TR.int) v48 y43, imm (TR.sl TR.int) v58 y56, own 24 (TR.sl TR.int) v59 ([y56] : (List (List Int)))]) rfl ?_
   obtain ⟨y60, e61, h36⟩ := bind_some h36
   replace e61 := chk_some e61
   refine RL.appB 0 4 Try.underlying37 Try_lo24 rfl rfl rfl rfl rfl rfl rfl SlOf.own (RoomN.of (N := 5864062014805) Try_info24 (by decide) (by decide)) e61 ?_
   intro v62
   refine RL.asg rfl rfl rfl ?_
   refine RL.finG ?_
   refine GL.nilB ?_
   refine GL.region ?_
   refine RL.binI (v := .int .i64 ((i33 + 1 : Nat) : Int)) rfl rfl rfl rfl (binI_succ i33 (by omega)) ?_
   refine RL.mv rfl rfl rfl ?_
   refine RL.fin ?_
   cases h36
   exact fun a w st => lop_intro (i33 + 1, r45, (l2 ++ ([y56] : (List (List Int)))), v62) ⟨by show i33 + 1 + r45.length = (x0).length; simp only [List.length_cons] at h39; omega, h46, h37⟩ (by simp) (St.cut [0, 1] ⟨rfl, rfl, rfl, rfl, trivial⟩ (by decide) rfl st)
  have h42 : ¬ i33 < (x0).length := by have := of_decide_eq_false b41; omega
  obtain rfl : r34 = [] := by rw [← h40]; exact List.drop_of_length_le (by omega)
  replace h38 : some (Fl.nx _) = some y25 := h38
  cases h38
  exact GL.exit (fun a w st => mid_intro (l2, v3) h28 (St.cut [0] ⟨rfl, trivial⟩ (by decide) rfl st))
 rintro ⟨l2, v3⟩ h63
 have h64 := h29 _ h63
 try dsimp only at h64
 refine GL.weak (env' := [(3, v3)]) (L' := [own 24 (TR.sl TR.int) v3 l2]) (fun _ _ st => st) ?_
 refine GL.seq ?_
 refine GL.region ?_
 refine RL.mv rfl rfl rfl ?_
 refine RL.asg rfl rfl rfl ?_
 refine RL.finG ?_
 have h64 := Option.some.inj h64
 subst h64
 exact GL.ret (Gx.ret (v := v3) (res1 rfl rfl) (fun a w st => (st.pick [0] (by decide) rfl).toPost v3))

set_option maxHeartbeats 4000000 in
theorem slices_Clone_api_Item_api_Item_c (S : Hp) (w : World) (hS : S.sub w) (v0 : Value) (x0 : List (Int × Int)) (k0 : (TR.sl (TR.pair TR.int TR.int)).vrep S v0 x0) (res : List (Int × Int)) (hm : slices_Clone_api_Item_api_Item_m x0 = some res) : Calls Try.prog 57 #[v0] w (Post w S (fun (o : Value) => o) (fun (o : Value) => [own 80 (TR.pair TR.int TR.int) o res])) := by
  refine calls_enter 8 Try.func57 Try.ntmps57 rfl S false [(0, v0)] [imm (TR.sl (TR.pair TR.int TR.int)) v0 x0] rfl ⟨rfl, trivial⟩ hS ⟨k0, trivial⟩ ?_
  unfold slices_Clone_api_Item_api_Item_m at hm
  obtain ⟨_, hc, hm⟩ := bind_some hm
  replace hc := chk_some hc
  have hm := Option.some.inj hm
  subst hm
  refine GL.seq (GL.region (RL.asg rfl rfl rfl (RL.finG (GL.seq (GL.seq (GL.region ?_))))))
  refine RL.mv rfl rfl rfl ?_
  refine RL.eqNil 0 Try.underlying77 rfl rfl rfl rfl rfl SlOf.imm (fun b hb => ?_)
  refine RL.finG (GL.cond rfl (fun h => ?_) (fun h => ?_))
  · have := hb h
    subst this
    refine GL.seq (GL.region (RL.asg rfl rfl rfl (RL.finG ?_)))
    refine GL.weak (fun a w st => st.nilOwn 80 (TR.pair TR.int TR.int)) ?_
    exact GL.ret (Gx.ret (v := Value.slice none 0 0) (res1 rfl rfl) (fun a w st => (st.pick [1] (by decide) rfl).toPost (Value.slice none 0 0)))
  · refine GL.skip (GL.seq (GL.region ?_))
    refine RL.bS (t := (TR.pair TR.int TR.int)) (vs := []) ([] : List (Int × Int)) Try.underlying77 Try_lo80 rfl rfl rfl rfl trivial rfl (by decide) ?_
    intro v1
    refine RL.mv rfl rfl rfl ?_
    refine RL.appB 1 0 Try.underlying77 Try_lo80 rfl rfl rfl rfl rfl rfl rfl SlOf.imm (RoomN.of (N := 8796093022208) Try_info80 (by decide) (by decide)) (by simpa using hc) ?_
    intro v2
    refine RL.asg rfl rfl rfl (RL.finG ?_)
    exact GL.ret (Gx.ret (v := v2) (res1 rfl rfl) (fun a w st => (st.pick [1] (by decide) rfl).toPost v2))

set_option maxHeartbeats 4000000 in
theorem pk_ListsOwn_1_c (S : Hp) (w : World) (hS : S.sub w) (v0 : Value) (x0 : (List Int)) (k0 : ((TR.ptr (TR.sl TR.int))).vrep S v0 x0) (v1 : Value) (x1 : Int) (k1 : ((TR.ptr TR.int)).vrep S v1 x1) (res : (List Int)) (hm : pk_ListsOwn_1_m x0 x1 = some res) : Calls Try.prog 58 #[v0, v1] w (Post w S (fun (o : Value) => o) (fun (o : Value) => [own 3 TR.int o res])) := by
 refine calls_enter 12 Try.func58 Try.ntmps58 rfl S false [(0, v0), (1, v1)] [imm (TR.ptr (TR.sl TR.int)) v0 x0, imm (TR.ptr TR.int) v1 x1] rfl ⟨rfl, ⟨rfl, trivial⟩⟩ hS ⟨k0, ⟨k1, trivial⟩⟩ ?_
 unfold pk_ListsOwn_1_m at hm
 refine GL.seq ?_
 refine GL.region ?_
 refine RL.asg rfl rfl rfl ?_
 refine RL.finG ?_
 refine GL.seq ?_
 refine GL.region ?_
 refine RL.ldP (off := 0) (r := (TR.sl TR.int)) (e' := x0) 0 Try_ln24 rfl rfl (Or.inr ⟨rfl, rfl⟩) rfl PtOf.imm Part.self ?_
 intro v7
 refine RL.ldPx (off := 0) (e' := x1) 1 Ex.ik Try_ln3 rfl rfl (Or.inr ⟨rfl, rfl⟩) rfl PtOf.imm Part.self ?_
 obtain ⟨y8, e9, hm⟩ := bind_some hm
 refine RL.call (vs := [v7, .int .i64 x1]) Try_fit59 rfl rfl rfl rfl rfl (fun S f w hS hW hi => power_Swings_c S w hS _ _ (hi 2 _ rfl) x1 _ e9) ?_
 intro v10
 refine RL.reL (L' := [imm (TR.ptr (TR.sl TR.int)) v0 x0, imm (TR.ptr TR.int) v1 x1, imm (TR.sl TR.int) v7 x0, own 3 TR.int v10 y8.1]) rfl ?_
 refine RL.mv rfl rfl rfl ?_
 refine RL.ext rfl rfl rfl rfl ?_
 refine RL.ext rfl rfl rfl rfl ?_
 refine RL.asg rfl rfl rfl ?_
 refine RL.asg rfl rfl rfl ?_
 refine RL.finG ?_
 refine GL.seq ?_
 refine GL.region ?_
 refine RL.mv rfl rfl rfl ?_
 refine RL.asg rfl rfl rfl ?_
 refine RL.finG ?_
 have hm := Option.some.inj hm
 subst hm
 exact GL.ret (Gx.ret (v := v10) (res1 rfl rfl) (fun a w st => (st.pick [3] (by decide) rfl).toPost v10))

set_option maxHeartbeats 4000000 in
theorem pk_ListsOwn_2_c (S : Hp) (w : World) (hS : S.sub w) (v0 : Value) (x0 : (List Int)) (k0 : ((TR.ptr (TR.sl TR.int))).vrep S v0 x0) (v1 : Value) (x1 : Int) (k1 : ((TR.ptr TR.int)).vrep S v1 x1) (res : (List Int)) (hm : pk_ListsOwn_2_m x0 x1 = some res) : Calls Try.prog 60 #[v0, v1] w (Post w S (fun (o : Value) => o) (fun (o : Value) => [own 3 TR.int o res])) := by
 refine calls_enter 12 Try.func60 Try.ntmps60 rfl S false [(0, v0), (1, v1)] [imm (TR.ptr (TR.sl TR.int)) v0 x0, imm (TR.ptr TR.int) v1 x1] rfl ⟨rfl, ⟨rfl, trivial⟩⟩ hS ⟨k0, ⟨k1, trivial⟩⟩ ?_
 unfold pk_ListsOwn_2_m at hm
 refine GL.seq ?_
 refine GL.region ?_
 refine RL.asg rfl rfl rfl ?_
 refine RL.finG ?_
 refine GL.seq ?_
 refine GL.region ?_
 refine RL.ldP (off := 0) (r := (TR.sl TR.int)) (e' := x0) 0 Try_ln24 rfl rfl (Or.inr ⟨rfl, rfl⟩) rfl PtOf.imm Part.self ?_
 intro v7
 refine RL.ldPx (off := 0) (e' := x1) 1 Ex.ik Try_ln3 rfl rfl (Or.inr ⟨rfl, rfl⟩) rfl PtOf.imm Part.self ?_
 obtain ⟨y8, e9, hm⟩ := bind_some hm
 refine RL.call (vs := [.int .i64 (1 : Int), v7, .int .i64 x1]) Try_fit61 rfl rfl rfl rfl rfl (fun S f w hS hW hi => seats_Share_c S w hS (1 : Int) _ _ (hi 2 _ rfl) x1 _ e9) ?_
 intro v10
 refine RL.reL (L' := [imm (TR.ptr (TR.sl TR.int)) v0 x0, imm (TR.ptr TR.int) v1 x1, imm (TR.sl TR.int) v7 x0, own 3 TR.int v10 y8.1]) rfl ?_
 refine RL.mv rfl rfl rfl ?_
 refine RL.ext rfl rfl rfl rfl ?_
 refine RL.ext rfl rfl rfl rfl ?_
 refine RL.asg rfl rfl rfl ?_
 refine RL.asg rfl rfl rfl ?_
 refine RL.finG ?_
 refine GL.seq ?_
 refine GL.region ?_
 refine RL.mv rfl rfl rfl ?_
 refine RL.asg rfl rfl rfl ?_
 refine RL.finG ?_
 have hm := Option.some.inj hm
 subst hm
 exact GL.ret (Gx.ret (v := v10) (res1 rfl rfl) (fun a w st => (st.pick [3] (by decide) rfl).toPost v10))

set_option maxHeartbeats 4000000 in
theorem pk_ListsOwn_3_c (S : Hp) (w : World) (hS : S.sub w) (v0 : Value) (x0 : (List Int)) (k0 : ((TR.ptr (TR.sl TR.int))).vrep S v0 x0) (v1 : Value) (x1 : Int) (k1 : ((TR.ptr TR.int)).vrep S v1 x1) (res : (List Int)) (hm : pk_ListsOwn_3_m x0 x1 = some res) : Calls Try.prog 62 #[v0, v1] w (Post w S (fun (o : Value) => o) (fun (o : Value) => [own 3 TR.int o res])) := by
 refine calls_enter 12 Try.func62 Try.ntmps62 rfl S false [(0, v0), (1, v1)] [imm (TR.ptr (TR.sl TR.int)) v0 x0, imm (TR.ptr TR.int) v1 x1] rfl ⟨rfl, ⟨rfl, trivial⟩⟩ hS ⟨k0, ⟨k1, trivial⟩⟩ ?_
 unfold pk_ListsOwn_3_m at hm
 refine GL.seq ?_
 refine GL.region ?_
 refine RL.asg rfl rfl rfl ?_
 refine RL.finG ?_
 refine GL.seq ?_
 refine GL.region ?_
 refine RL.ldP (off := 0) (r := (TR.sl TR.int)) (e' := x0) 0 Try_ln24 rfl rfl (Or.inr ⟨rfl, rfl⟩) rfl PtOf.imm Part.self ?_
 intro v7
 refine RL.ldPx (off := 0) (e' := x1) 1 Ex.ik Try_ln3 rfl rfl (Or.inr ⟨rfl, rfl⟩) rfl PtOf.imm Part.self ?_
 obtain ⟨y8, e9, hm⟩ := bind_some hm
 refine RL.call (vs := [.int .i64 (3 : Int), v7, .int .i64 x1]) Try_fit61 rfl rfl rfl rfl rfl (fun S f w hS hW hi => seats_Share_c S w hS (3 : Int) _ _ (hi 2 _ rfl) x1 _ e9) ?_
 intro v10
 refine RL.reL (L' := [imm (TR.ptr (TR.sl TR.int)) v0 x0, imm (TR.ptr TR.int) v1 x1, imm (TR.sl TR.int) v7 x0, own 3 TR.int v10 y8.1]) rfl ?_
 refine RL.mv rfl rfl rfl ?_
 refine RL.ext rfl rfl rfl rfl ?_
 refine RL.ext rfl rfl rfl rfl ?_
 refine RL.asg rfl rfl rfl ?_
 refine RL.asg rfl rfl rfl ?_
 refine RL.finG ?_
 refine GL.seq ?_
 refine GL.region ?_
 refine RL.mv rfl rfl rfl ?_
 refine RL.asg rfl rfl rfl ?_
 refine RL.finG ?_
 have hm := Option.some.inj hm
 subst hm
 exact GL.ret (Gx.ret (v := v10) (res1 rfl rfl) (fun a w st => (st.pick [3] (by decide) rfl).toPost v10))

set_option maxHeartbeats 4000000 in
theorem piles_Table_c (S : Hp) (w : World) (hS : S.sub w) (x0 : Int) (v1 : Value) (x1 : (List Int)) (k1 : ((TR.sl TR.int)).vrep S v1 x1) (res : (List Int) × Int) (hm : piles_Table_m x0 x1 = some res) : Calls Try.prog 64 #[.int .i64 x0, v1] w (Post w S (fun (o : Value) => .tuple #[o, .int .i64 res.2]) (fun (o : Value) => [own 3 TR.int o res.1])) := by
 refine calls_enter 74 Try.func64 Try.ntmps64 rfl S false [(0, .int .i64 x0), (1, v1)] [imm (TR.sl TR.int) v1 x1] rfl ⟨rfl, ⟨rfl, trivial⟩⟩ hS ⟨k1, trivial⟩ ?_
 unfold piles_Table_m at hm
 refine GL.seq ?_
 refine GL.region ?_
 refine RL.asg rfl rfl rfl ?_
 refine RL.asg rfl rfl rfl ?_
 refine RL.finG ?_
 refine GL.seq ?_
 refine GL.seq ?_
 obtain ⟨y6, K7, h8, h9, h10, h11, h12⟩ := bindR_K hm
 refine GL.join (ι := Bool) (fun (p : Bool) => [(0, .int .i64 x0), (1, v1), (18, .bool p)]) (fun (p : Bool) => [imm (TR.sl TR.int) v1 x1]) (fun (p : Bool) => K7 (.nx p)) ?_ ?_
 ·skip
  refine GL.region ?_
  refine RL.mv rfl rfl rfl ?_
  refine RL.binI (v := .bool (decide (x0 < (0 : Int)))) rfl rfl rfl rfl rfl ?_
  refine RL.mv rfl rfl rfl ?_
  refine RL.split (t := 15) rfl (fun b13 => ?_) (fun b13 => ?_)
  ·replace h8 := ite_t b13 h8
   refine RL.skip rfl rfl ?_
   refine RL.skip rfl rfl ?_
   refine RL.pickT rfl rfl rfl rfl ?_
   refine RL.fin ?_
   cases h8
   exact fun a w st => mid_intro true h9 (St.cut [0] ⟨rfl, rfl, rfl, trivial⟩ (by decide) rfl st)
  replace h8 := ite_f b13 h8
  refine RL.mv rfl rfl rfl ?_
  refine RL.binI (v := .bool (decide (x0 > (40 : Int)))) rfl rfl rfl rfl rfl ?_
  refine RL.pickF rfl rfl rfl rfl ?_
  refine RL.fin ?_
  cases h8
  exact fun a w st => mid_intro (decide (x0 > (40 : Int))) h9 (St.cut [0] ⟨rfl, rfl, rfl, trivial⟩ (by decide) rfl st)
 rintro x5 h14
 have h15 := h10 _ h14
 try dsimp only at h15
 refine GL.weak (env' := [(0, .int .i64 x0), (1, v1), (18, .bool x5)]) (L' := [imm (TR.sl TR.int) v1 x1]) (fun _ _ st => st) ?_
 refine GL.cond rfl (fun b16 => ?_) (fun b16 => ?_)
 ·replace h15 := ite_t b16 h15
  refine GL.seq ?_
  refine GL.region ?_
  refine RL.asg rfl rfl rfl ?_
  refine RL.asg rfl rfl rfl ?_
  refine RL.finG ?_
  refine GL.weak (fun a w st => st.nilOwn 3 TR.int) ?_
  have h15 := Option.some.inj h15
  subst h15
  exact GL.ret (Gx.ret (v := .tuple #[Value.slice none 0 0, .int .i64 (1 : Int)]) (res2 rfl rfl rfl) (fun a w st => (st.pick [1] (by decide) rfl).toPost (Value.slice none 0 0)))
 replace h15 := ite_f b16 h15
 refine GL.skip ?_
 refine GL.seq ?_
 refine GL.seq ?_
 refine GL.region ?_
 refine RL.mv rfl rfl rfl ?_
 refine RL.lenS 0 Try.underlying24 rfl rfl rfl rfl SlOf.imm ?_
 refine RL.binI (v := .bool (decide (((x1).length : Int) > (6 : Int)))) rfl rfl rfl rfl rfl ?_
 refine RL.finG ?_
 refine GL.cond rfl (fun b17 => ?_) (fun b17 => ?_)
 ·replace h15 := ite_t b17 h15
  refine GL.seq ?_
  refine GL.region ?_
  refine RL.asg rfl rfl rfl ?_
  refine RL.asg rfl rfl rfl ?_
  refine RL.finG ?_
  refine GL.weak (fun a w st => st.nilOwn 3 TR.int) ?_
  have h15 := Option.some.inj h15
  subst h15
  exact GL.ret (Gx.ret (v := .tuple #[Value.slice none 0 0, .int .i64 (2 : Int)]) (res2 rfl rfl rfl) (fun a w st => (st.pick [1] (by decide) rfl).toPost (Value.slice none 0 0)))
 replace h15 := ite_f b17 h15
 refine GL.skip ?_
 refine GL.seq ?_
 refine GL.seq ?_
 refine GL.region ?_
 refine RL.mv rfl rfl rfl ?_
 refine RL.lenS 0 Try.underlying24 rfl rfl rfl rfl SlOf.imm ?_
 refine RL.mv rfl rfl rfl ?_
 refine RL.finG ?_
 refine GL.open_ 0 rfl (fun S h => len_imm S h) (fun n36 => ?_)
 obtain ⟨y37, K38, h39, h40, h41, h42, h43⟩ := bindR_K h15
 refine GL.join (ι := Unit) (fun (p : Unit) => [(0, .int .i64 x0), (1, v1)]) (fun (p : Unit) => [imm (TR.sl TR.int) v1 x1]) (fun (p : Unit) => K38 (.nx ())) ?_ ?_
 ·refine GL.block ?_
  refine GL.loop (ι := Nat × (List Int)) (fun (p : Nat × (List Int)) => [(0, .int .i64 x0), (1, v1), (22, v1), (23, .int .i64 ((x1).length : Int)), (24, .int .i64 (p.1 : Int))]) (fun (p : Nat × (List Int)) => [imm (TR.sl TR.int) v1 x1]) (fun (p : Nat × (List Int)) => p.1 + p.2.length = (x1).length ∧ List.drop p.1 x1 = p.2 ∧ rangeL piles_Table_b1 p.2 p.1 () = some y37) (fun (p : Nat × (List Int)) => p.2.length) (0, x1) ⟨by simp, by simp, h39⟩ (fun a w st => St.cut [0] ⟨rfl, rfl, rfl, rfl, rfl, trivial⟩ (by decide) rfl st) ?_
  rintro ⟨i44, r45⟩ ⟨h50, h51, h49⟩
  try dsimp only at h50 h51 h49
  refine GL.weak (env' := [(0, .int .i64 x0), (1, v1), (22, v1), (23, .int .i64 ((x1).length : Int)), (24, .int .i64 (i44 : Int))]) (L' := [imm (TR.sl TR.int) v1 x1]) (fun _ _ st => st) ?_
  refine GL.seq ?_
  refine GL.region ?_
  refine RL.binI (v := .bool (decide ((i44 : Int) < ((x1).length : Int)))) rfl rfl rfl rfl rfl ?_
  refine RL.finG ?_
  refine GL.seq ?_
  refine GL.cond rfl (fun b52 => ?_) (fun b52 => ?_)
  ·have h53 : i44 < (x1).length := by have := of_decide_eq_true b52; omega
   obtain ⟨y54, r56, hr, e55, h57⟩ := drop_cons h51 rfl h53
   subst hr
   obtain ⟨z46, h47, h48⟩ := rangeL_some h49
   unfold piles_Table_b1 at h47
   try dsimp only at h47
   refine GL.skip ?_
   refine GL.seq ?_
   refine GL.block ?_
   refine GL.seq ?_
   refine GL.region ?_
   refine RL.idxS (sz := 1) 0 Try.underlying24 Try_ln3 rfl rfl rfl rfl rfl SlOf.imm (by omega) (by omega) ?_
   refine RL.ldSx (i := i44) (e' := y54) 0 Ex.ik Try_ln3 rfl rfl rfl rfl SlOf.imm e55 Part.self ?_
   refine RL.asg rfl rfl rfl ?_
   refine RL.finG ?_
   refine GL.seq ?_
   obtain ⟨y61, K62, h63, h64, h65, h66, h67⟩ := bindF_K h47
   refine GL.join (ι := Bool) (fun (p : Bool) => [(0, .int .i64 x0), (1, v1), (22, v1), (23, .int .i64 ((x1).length : Int)), (24, .int .i64 (i44 : Int)), (33, .bool p)]) (fun (p : Bool) => [imm (TR.sl TR.int) v1 x1]) (fun (p : Bool) => K62 (.nx p)) ?_ ?_
   ·skip
    refine GL.region ?_
    refine RL.mv rfl rfl rfl ?_
    refine RL.binI (v := .bool (decide (y54 < (1 : Int)))) rfl rfl rfl rfl rfl ?_
    refine RL.mv rfl rfl rfl ?_
    refine RL.split (t := 30) rfl (fun b68 => ?_) (fun b68 => ?_)
    ·replace h63 := ite_t b68 h63
     refine RL.skip rfl rfl ?_
     refine RL.skip rfl rfl ?_
     refine RL.pickT rfl rfl rfl rfl ?_
     refine RL.fin ?_
     cases h63
     exact fun a w st => mid_intro true h64 (St.cut [0] ⟨rfl, rfl, rfl, rfl, rfl, rfl, trivial⟩ (by decide) rfl st)
    replace h63 := ite_f b68 h63
    refine RL.mv rfl rfl rfl ?_
    refine RL.binI (v := .bool (decide (y54 > (40 : Int)))) rfl rfl rfl rfl rfl ?_
    refine RL.pickF rfl rfl rfl rfl ?_
    refine RL.fin ?_
    cases h63
    exact fun a w st => mid_intro (decide (y54 > (40 : Int))) h64 (St.cut [0] ⟨rfl, rfl, rfl, rfl, rfl, rfl, trivial⟩ (by decide) rfl st)
   rintro x60 h69
   have h70 := h65 _ h69
   try dsimp only at h70
   refine GL.weak (env' := [(0, .int .i64 x0), (1, v1), (22, v1), (23, .int .i64 ((x1).length : Int)), (24, .int .i64 (i44 : Int)), (33, .bool x60)]) (L' := [imm (TR.sl TR.int) v1 x1]) (fun _ _ st => st) ?_
   refine GL.cond rfl (fun b71 => ?_) (fun b71 => ?_)
   ·replace h70 := ite_t b71 h70
    refine GL.seq ?_
    refine GL.region ?_
    refine RL.asg rfl rfl rfl ?_
    refine RL.asg rfl rfl rfl ?_
    refine RL.finG ?_
    refine GL.weak (fun a w st => st.nilOwn 3 TR.int) ?_
    cases h70
    replace h48 : some (Fl.rt _) = some y37 := h48
    cases h48
    have hh := h42 _ h40
    subst hh
    exact GL.ret (Gx.ret (v := .tuple #[Value.slice none 0 0, .int .i64 (3 : Int)]) (res2 rfl rfl rfl) (fun a w st => (st.pick [1] (by decide) rfl).toPost (Value.slice none 0 0)))
   replace h70 := ite_f b71 h70
   refine GL.skip ?_
   refine GL.nilB ?_
   refine GL.region ?_
   refine RL.binI (v := .int .i64 ((i44 + 1 : Nat) : Int)) rfl rfl rfl rfl (binI_succ i44 (by omega)) ?_
   refine RL.mv rfl rfl rfl ?_
   refine RL.fin ?_
   cases h70
   exact fun a w st => lop_intro (i44 + 1, r56) ⟨by show i44 + 1 + r56.length = (x1).length; simp only [List.length_cons] at h50; omega, h57, h48⟩ (by simp) (St.cut [0] ⟨rfl, rfl, rfl, rfl, rfl, trivial⟩ (by decide) rfl st)
  have h53 : ¬ i44 < (x1).length := by have := of_decide_eq_false b52; omega
  obtain rfl : r45 = [] := by rw [← h51]; exact List.drop_of_length_le (by omega)
  replace h49 : some (Fl.nx _) = some y37 := h49
  cases h49
  exact GL.exit (fun a w st => mid_intro () h40 (St.cut [0] ⟨rfl, rfl, trivial⟩ (by decide) rfl st))
 rintro ⟨⟩ h72
 have h73 := h41 _ h72
 try dsimp only at h73
 refine GL.weak (env' := [(0, .int .i64 x0), (1, v1)]) (L' := [imm (TR.sl TR.int) v1 x1]) (fun _ _ st => st) ?_
 refine GL.seq ?_
 refine GL.region ?_
 refine RL.mv rfl rfl rfl ?_
 refine RL.binI (v := .int .i64 (wadd x0 (1 : Int))) rfl rfl rfl rfl rfl ?_
 obtain ⟨y77, e78, h73⟩ := bind_some h73
 replace e78 := chk_some e78
 refine RL.mkS (t := TR.int) (z := (0 : Int)) Try.underlying24 Try_lo3 (fun S => rfl) rfl rfl rfl rfl e78.1 e78.2 ?_
 intro v79
 refine RL.asg rfl rfl rfl ?_
 refine RL.finG ?_
 refine GL.seq ?_
 refine GL.seq ?_
 refine GL.region ?_
 refine RL.mv rfl rfl rfl ?_
 refine RL.lenS 1 Try.underlying24 rfl rfl rfl rfl SlOf.own ?_
 refine RL.mv rfl rfl rfl ?_
 refine RL.finG ?_
 refine GL.lenOwn 1 rfl (fun n345 => ?_)
 obtain ⟨y346, K347, h348, h349, h350, h351, h352⟩ := bindR_K h73
 refine GL.join (ι := (List Int)) (fun (p : (List Int)) => [(8, v79)]) (fun (p : (List Int)) => [own 3 TR.int v79 p]) (fun (p : (List Int)) => K347 (.nx p)) ?_ ?_
 ·refine GL.block ?_
  refine GL.loop (ι := Nat × Nat × (List Int)) (fun (p : Nat × Nat × (List Int)) => [(1, v1), (8, v79), (39, .int .i64 (((List.replicate (wadd x0 (1 : Int)).toNat (0 : Int))).length : Int)), (40, .int .i64 (p.1 : Int))]) (fun (p : Nat × Nat × (List Int)) => [imm (TR.sl TR.int) v1 x1, own 3 TR.int v79 p.2.2]) (fun (p : Nat × Nat × (List Int)) => p.1 + p.2.1 = ((List.replicate (wadd x0 (1 : Int)).toNat (0 : Int))).length ∧ rangeN (piles_Table_b2 x1) p.2.1 p.1 p.2.2 = some y346) (fun (p : Nat × Nat × (List Int)) => p.2.1) (0, ((List.replicate (wadd x0 (1 : Int)).toNat (0 : Int))).length, (List.replicate (wadd x0 (1 : Int)).toNat (0 : Int))) ⟨by simp, h348⟩ (fun a w st => St.cut [0, 1] ⟨rfl, rfl, rfl, rfl, trivial⟩ (by decide) rfl st) ?_
  rintro ⟨i353, r354, l212⟩ ⟨h359, h358⟩
  try dsimp only at h359 h358
  refine GL.weak (env' := [(1, v1), (8, v79), (39, .int .i64 (((List.replicate (wadd x0 (1 : Int)).toNat (0 : Int))).length : Int)), (40, .int .i64 (i353 : Int))]) (L' := [imm (TR.sl TR.int) v1 x1, own 3 TR.int v79 l212]) (fun _ _ st => st) ?_
  refine GL.seq ?_
  refine GL.region ?_
  refine RL.binI (v := .bool (decide ((i353 : Int) < (((List.replicate (wadd x0 (1 : Int)).toNat (0 : Int))).length : Int)))) rfl rfl rfl rfl rfl ?_
  refine RL.finG ?_
  refine GL.seq ?_
  refine GL.cond rfl (fun b361 => ?_) (fun b361 => ?_)
  ·have h362 : i353 < ((List.replicate (wadd x0 (1 : Int)).toNat (0 : Int))).length := by have := of_decide_eq_true b361; omega
   obtain ⟨r363, hr⟩ : ∃ m, r354 = m + 1 := ⟨r354 - 1, by omega⟩
   subst hr
   obtain ⟨z355, h356, h357⟩ := rangeN_some h358
   unfold piles_Table_b2 at h356
   try dsimp only at h356
   refine GL.skip ?_
   refine GL.seq ?_
   refine GL.block ?_
   refine GL.seq ?_
   refine GL.region ?_
   refine RL.mv rfl rfl rfl ?_
   refine RL.asg rfl rfl rfl ?_
   refine RL.finG ?_
   refine GL.seq ?_
   refine GL.region ?_
   refine RL.alloc (t := (TR.arr 7 TR.bool)) (z := (List.replicate 7 false)) Try_lo137 (fun S => ⟨rfl, ⟨_, _, rfl, rfl, ⟨_, _, rfl, rfl, ⟨_, _, rfl, rfl, ⟨_, _, rfl, rfl, ⟨_, _, rfl, rfl, ⟨_, _, rfl, rfl, ⟨_, _, rfl, rfl, rfl⟩⟩⟩⟩⟩⟩⟩⟩) rfl rfl rfl ?_
   intro v365
   refine RL.finG ?_
   refine GL.seq ?_
   refine GL.seq ?_
   refine GL.region ?_
   refine RL.mv rfl rfl rfl ?_
   refine RL.lenS 0 Try.underlying24 rfl rfl rfl rfl SlOf.imm ?_
   refine RL.mv rfl rfl rfl ?_
   refine RL.finG ?_
   refine GL.open_ 0 rfl (fun S h => len_imm S h) (fun n393 => ?_)
   obtain ⟨y394, K395, h396, h397, h398, h399, h400⟩ := bindF_K h356
   refine GL.join (ι := (List Bool)) (fun (p : (List Bool)) => [(1, v1), (8, v79), (9, .int .i64 (i353 : Int)), (10, v365), (39, .int .i64 (((List.replicate (wadd x0 (1 : Int)).toNat (0 : Int))).length : Int)), (40, .int .i64 (i353 : Int))]) (fun (p : (List Bool)) => [imm (TR.sl TR.int) v1 x1, own 3 TR.int v79 l212, obox 137 (TR.arr 7 TR.bool) v365 p]) (fun (p : (List Bool)) => K395 (.nx p)) ?_ ?_
   ·refine GL.block ?_
    refine GL.loop (ι := Nat × (List Int) × (List Bool)) (fun (p : Nat × (List Int) × (List Bool)) => [(1, v1), (8, v79), (9, .int .i64 (i353 : Int)), (10, v365), (39, .int .i64 (((List.replicate (wadd x0 (1 : Int)).toNat (0 : Int))).length : Int)), (40, .int .i64 (i353 : Int)), (43, v1), (44, .int .i64 ((x1).length : Int)), (45, .int .i64 (p.1 : Int))]) (fun (p : Nat × (List Int) × (List Bool)) => [imm (TR.sl TR.int) v1 x1, own 3 TR.int v79 l212, obox 137 (TR.arr 7 TR.bool) v365 p.2.2]) (fun (p : Nat × (List Int) × (List Bool)) => p.1 + p.2.1.length = (x1).length ∧ List.drop p.1 x1 = p.2.1 ∧ rangeL (piles_Table_b3 i353 l212) p.2.1 p.1 p.2.2 = some y394) (fun (p : Nat × (List Int) × (List Bool)) => p.2.1.length) (0, x1, (List.replicate 7 false)) ⟨by simp, by simp, h396⟩ (fun a w st => St.cut [0, 1, 2] ⟨rfl, rfl, rfl, rfl, rfl, rfl, rfl, rfl, rfl, trivial⟩ (by decide) rfl st) ?_
    rintro ⟨i401, r402, l379⟩ ⟨h407, h408, h406⟩
    try dsimp only at h407 h408 h406
    refine GL.weak (env' := [(1, v1), (8, v79), (9, .int .i64 (i353 : Int)), (10, v365), (39, .int .i64 (((List.replicate (wadd x0 (1 : Int)).toNat (0 : Int))).length : Int)), (40, .int .i64 (i353 : Int)), (43, v1), (44, .int .i64 ((x1).length : Int)), (45, .int .i64 (i401 : Int))]) (L' := [imm (TR.sl TR.int) v1 x1, own 3 TR.int v79 l212, obox 137 (TR.arr 7 TR.bool) v365 l379]) (fun _ _ st => st) ?_
    refine GL.seq ?_
    refine GL.region ?_
    refine RL.binI (v := .bool (decide ((i401 : Int) < ((x1).length : Int)))) rfl rfl rfl rfl rfl ?_
    refine RL.finG ?_
    refine GL.seq ?_
    refine GL.cond rfl (fun b409 => ?_) (fun b409 => ?_)
    ·have h410 : i401 < (x1).length := by have := of_decide_eq_true b409; omega
     obtain ⟨y411, r413, hr, e412, h414⟩ := drop_cons h408 rfl h410
     subst hr
     obtain ⟨z403, h404, h405⟩ := rangeL_some h406
     unfold piles_Table_b3 at h404
     try dsimp only at h404
     refine GL.skip ?_
     refine GL.seq ?_
     refine GL.block ?_
     refine GL.seq ?_
     refine GL.region ?_
     refine RL.idxS (sz := 1) 0 Try.underlying24 Try_ln3 rfl rfl rfl rfl rfl SlOf.imm (by omega) (by omega) ?_
     refine RL.ldSx (i := i401) (e' := y411) 0 Ex.ik Try_ln3 rfl rfl rfl rfl SlOf.imm e412 Part.self ?_
     refine RL.asg rfl rfl rfl ?_
     refine RL.finG ?_
     refine GL.seq ?_
     refine GL.region ?_
     refine RL.mv rfl rfl rfl ?_
     refine RL.mv rfl rfl rfl ?_
     refine RL.binI (v := .bool (decide (y411 ≤ (i353 : Int)))) rfl rfl rfl rfl rfl ?_
     refine RL.finG ?_
     refine GL.cond rfl (fun b415 => ?_) (fun b415 => ?_)
     ·replace h404 := ite_t b415 h404
      refine GL.region ?_
      refine RL.mv rfl rfl rfl ?_
      refine RL.mv rfl rfl rfl ?_
      refine RL.mv rfl rfl rfl ?_
      refine RL.binI (v := .int .i64 (wsub (i353 : Int) y411)) rfl rfl rfl rfl rfl ?_
      obtain ⟨y420, e421, h404⟩ := bind_some h404
      refine RL.idxS (sz := 1) 1 Try.underlying24 Try_ln3 rfl rfl rfl rfl rfl SlOf.own (idx_some e421).1 (idx_some e421).2.1 ?_
      refine RL.ldSx (i := (wsub (i353 : Int) y411).toNat) (e' := y420) 1 Ex.ik Try_ln3 rfl rfl rfl rfl SlOf.own (idx_some e421).2.2 Part.self ?_
      obtain ⟨y422, e423, h404⟩ := bind_some h404
      refine RL.idxA0 (sz := 1) (t' := TR.bool) 2 Try.underlying137 Try_ln4 rfl rfl rfl PtOf.obox rfl rfl Part.self (idx_some e423).1 (idx_some e423).2.1 ?_
      refine RL.stP (off := ((y420).toNat * 1)) (e' := true) (d1 := (List.set l379 ((y420).toNat) true)) (r := TR.bool) 2 Try_ln4 rfl rfl (Or.inl rfl) rfl VR.bool rfl (Upd.arr (idx_some e423).2.2 Upd.self) ?_
      refine RL.finG ?_
      refine GL.nilB ?_
      refine GL.region ?_
      refine RL.binI (v := .int .i64 ((i401 + 1 : Nat) : Int)) rfl rfl rfl rfl (binI_succ i401 (by omega)) ?_
      refine RL.mv rfl rfl rfl ?_
      refine RL.fin ?_
      cases h404
      exact fun a w st => lop_intro (i401 + 1, r413, (List.set l379 ((y420).toNat) true)) ⟨by show i401 + 1 + r413.length = (x1).length; simp only [List.length_cons] at h407; omega, h414, h405⟩ (by simp) (St.cut [0, 1, 2] ⟨rfl, rfl, rfl, rfl, rfl, rfl, rfl, rfl, rfl, trivial⟩ (by decide) rfl st)
     replace h404 := ite_f b415 h404
     refine GL.skip ?_
     refine GL.nilB ?_
     refine GL.region ?_
     refine RL.binI (v := .int .i64 ((i401 + 1 : Nat) : Int)) rfl rfl rfl rfl (binI_succ i401 (by omega)) ?_
     refine RL.mv rfl rfl rfl ?_
     refine RL.fin ?_
     cases h404
     exact fun a w st => lop_intro (i401 + 1, r413, l379) ⟨by show i401 + 1 + r413.length = (x1).length; simp only [List.length_cons] at h407; omega, h414, h405⟩ (by simp) (St.cut [0, 1, 2] ⟨rfl, rfl, rfl, rfl, rfl, rfl, rfl, rfl, rfl, trivial⟩ (by decide) rfl st)
    have h410 : ¬ i401 < (x1).length := by have := of_decide_eq_false b409; omega
    obtain rfl : r402 = [] := by rw [← h408]; exact List.drop_of_length_le (by omega)
    replace h406 : some (Fl.nx _) = some y394 := h406
    cases h406
    exact GL.exit (fun a w st => mid_intro l379 h397 (St.cut [0, 1, 2] ⟨rfl, rfl, rfl, rfl, rfl, rfl, trivial⟩ (by decide) rfl st))
   rintro l379 h424
   have h425 := h398 _ h424
   try dsimp only at h425
   refine GL.weak (env' := [(1, v1), (8, v79), (9, .int .i64 (i353 : Int)), (10, v365), (39, .int .i64 (((List.replicate (wadd x0 (1 : Int)).toNat (0 : Int))).length : Int)), (40, .int .i64 (i353 : Int))]) (L' := [imm (TR.sl TR.int) v1 x1, own 3 TR.int v79 l212, obox 137 (TR.arr 7 TR.bool) v365 l379]) (fun _ _ st => st) ?_
   obtain ⟨y461, K462, h463, h464, h465, h466, h467⟩ := bindF_K h425
   refine GL.join (ι := (List Int)) (fun (p : (List Int)) => [(1, v1), (8, v79), (39, .int .i64 (((List.replicate (wadd x0 (1 : Int)).toNat (0 : Int))).length : Int)), (40, .int .i64 (i353 : Int))]) (fun (p : (List Int)) => [imm (TR.sl TR.int) v1 x1, own 3 TR.int v79 p]) (fun (p : (List Int)) => K462 (.nx p)) ?_ ?_
   ·refine GL.block ?_
    refine GL.loop (ι := Nat × (List Int)) (fun (p : Nat × (List Int)) => [(1, v1), (8, v79), (9, .int .i64 (i353 : Int)), (10, v365), (39, .int .i64 (((List.replicate (wadd x0 (1 : Int)).toNat (0 : Int))).length : Int)), (40, .int .i64 (i353 : Int))]) (fun (p : Nat × (List Int)) => [imm (TR.sl TR.int) v1 x1, own 3 TR.int v79 p.2, obox 137 (TR.arr 7 TR.bool) v365 l379]) (fun (p : Nat × (List Int)) => loopM (piles_Table_b4 i353 l379) p.1 p.2 = some y461) (fun (p : Nat × (List Int)) => p.1) (1048576, l212) h463 (fun a w st => St.cut [0, 1, 2] ⟨rfl, rfl, rfl, rfl, rfl, rfl, trivial⟩ (by decide) rfl st) ?_
    rintro ⟨r469, l443⟩ h473
    try dsimp only at h473
    refine GL.weak (env' := [(1, v1), (8, v79), (9, .int .i64 (i353 : Int)), (10, v365), (39, .int .i64 (((List.replicate (wadd x0 (1 : Int)).toNat (0 : Int))).length : Int)), (40, .int .i64 (i353 : Int))]) (L' := [imm (TR.sl TR.int) v1 x1, own 3 TR.int v79 l443, obox 137 (TR.arr 7 TR.bool) v365 l379]) (fun _ _ st => st) ?_
    obtain ⟨r476, z470, hr, h471, h472⟩ := loopM_some h473
    subst hr
    unfold piles_Table_b4 at h471
    try dsimp only at h471
    refine GL.seq ?_
    refine GL.seq ?_
    refine GL.region ?_
    refine RL.mv rfl rfl rfl ?_
    refine RL.mv rfl rfl rfl ?_
    obtain ⟨y481, e482, h471⟩ := bind_some h471
    refine RL.idxS (sz := 1) 1 Try.underlying24 Try_ln3 rfl rfl rfl rfl rfl SlOf.own (idx_some e482).1 (idx_some e482).2.1 ?_
    refine RL.ldSx (i := i353) (e' := y481) 1 Ex.ik Try_ln3 rfl rfl rfl rfl SlOf.own (idx_some e482).2.2 Part.self ?_
    obtain ⟨y483, e484, h471⟩ := bind_some h471
    refine RL.idxA0 (sz := 1) (t' := TR.bool) 2 Try.underlying137 Try_ln4 rfl rfl rfl PtOf.obox rfl rfl Part.self (idx_some e484).1 (idx_some e484).2.1 ?_
    refine RL.ldPx (off := ((y481).toNat * 1)) (e' := y483) 2 Ex.bool Try_ln4 rfl rfl (Or.inl rfl) rfl PtOf.obox (Part.arr (idx_some e484).2.2 Part.self) ?_
    refine RL.finG ?_
    refine GL.cond rfl (fun b485 => ?_) (fun b485 => ?_)
    ·replace h471 := ite_t b485 h471
     refine GL.skip ?_
     refine GL.block ?_
     refine GL.region ?_
     refine RL.mv rfl rfl rfl ?_
     refine RL.mv rfl rfl rfl ?_
     obtain ⟨y490, e491, h471⟩ := bind_some h471
     refine RL.idxS (sz := 1) 1 Try.underlying24 Try_ln3 rfl rfl rfl rfl rfl SlOf.own (idx_some e491).1 (idx_some e491).2.1 ?_
     refine RL.ldSx (i := i353) (e' := y490) 1 Ex.ik Try_ln3 rfl rfl rfl rfl SlOf.own (idx_some e491).2.2 Part.self ?_
     refine RL.binI (v := .int .i64 (wadd y490 (1 : Int))) rfl rfl rfl rfl rfl ?_
     obtain ⟨y492, e493, h471⟩ := bind_some h471
     refine RL.idxS (sz := 1) 1 Try.underlying24 Try_ln3 rfl rfl rfl rfl rfl SlOf.own (idx_some e493).1 (idx_some e493).2.1 ?_
     refine RL.stS (i := i353) (e' := wadd y490 (1 : Int)) (e1 := wadd y490 (1 : Int)) (r := TR.int) 1 Try_ln3 rfl rfl rfl rfl VR.int rfl (idx_some e493).2.2 Upd.self ?_
     refine RL.finG ?_
     refine GL.nilB ?_
     cases h471
     exact fun a w st => lop_intro (r476, (List.set l443 i353 (wadd y490 (1 : Int)))) (by exact h472) (by simp) (St.cut [0, 1, 2] ⟨rfl, rfl, rfl, rfl, rfl, rfl, trivial⟩ (by decide) rfl st)
    replace h471 := ite_f b485 h471
    cases h471
    replace h472 : some (Fl.nx _) = some y461 := h472
    cases h472
    exact GL.exit (fun a w st => mid_intro l443 h464 (St.cut [0, 1] ⟨rfl, rfl, rfl, rfl, trivial⟩ (by decide) rfl st))
   rintro l443 h494
   have h495 := h465 _ h494
   try dsimp only at h495
   refine GL.weak (env' := [(1, v1), (8, v79), (39, .int .i64 (((List.replicate (wadd x0 (1 : Int)).toNat (0 : Int))).length : Int)), (40, .int .i64 (i353 : Int))]) (L' := [imm (TR.sl TR.int) v1 x1, own 3 TR.int v79 l443]) (fun _ _ st => st) ?_
   refine GL.nilB ?_
   refine GL.region ?_
   refine RL.binI (v := .int .i64 ((i353 + 1 : Nat) : Int)) rfl rfl rfl rfl (binI_succ i353 (by omega)) ?_
   refine RL.mv rfl rfl rfl ?_
   refine RL.fin ?_
   cases h495
   exact fun a w st => lop_intro (i353 + 1, r363, l443) ⟨by show i353 + 1 + r363 = ((List.replicate (wadd x0 (1 : Int)).toNat (0 : Int))).length; omega, h357⟩ (by simp) (St.cut [0, 1] ⟨rfl, rfl, rfl, rfl, trivial⟩ (by decide) rfl st)
  have h362 : ¬ i353 < ((List.replicate (wadd x0 (1 : Int)).toNat (0 : Int))).length := by have := of_decide_eq_false b361; omega
  obtain rfl : r354 = 0 := by omega
  replace h358 : some (Fl.nx _) = some y346 := h358
  cases h358
  exact GL.exit (fun a w st => mid_intro l212 h349 (St.cut [1] ⟨rfl, trivial⟩ (by decide) rfl st))
 rintro l212 h496
 have h497 := h350 _ h496
 try dsimp only at h497
 refine GL.weak (env' := [(8, v79)]) (L' := [own 3 TR.int v79 l212]) (fun _ _ st => st) ?_
 refine GL.seq ?_
 refine GL.region ?_
 refine RL.mv rfl rfl rfl ?_
 refine RL.asg rfl rfl rfl ?_
 refine RL.asg rfl rfl rfl ?_
 refine RL.finG ?_
 have h497 := Option.some.inj h497
 subst h497
 exact GL.ret (Gx.ret (v := .tuple #[v79, .int .i64 (0 : Int)]) (res2 rfl rfl rfl) (fun a w st => (st.pick [0] (by decide) rfl).toPost v79))

set_option maxHeartbeats 4000000 in
theorem pk_ListsOwn_4_c (S : Hp) (w : World) (hS : S.sub w) (v0 : Value) (x0 : Int) (k0 : ((TR.ptr TR.int)).vrep S v0 x0) (v1 : Value) (x1 : (List Int)) (k1 : ((TR.ptr (TR.sl TR.int))).vrep S v1 x1) (res : (List Int)) (hm : pk_ListsOwn_4_m x0 x1 = some res) : Calls Try.prog 63 #[v0, v1] w (Post w S (fun (o : Value) => o) (fun (o : Value) => [own 3 TR.int o res])) := by
 refine calls_enter 12 Try.func63 Try.ntmps63 rfl S false [(0, v0), (1, v1)] [imm (TR.ptr TR.int) v0 x0, imm (TR.ptr (TR.sl TR.int)) v1 x1] rfl ⟨rfl, ⟨rfl, trivial⟩⟩ hS ⟨k0, ⟨k1, trivial⟩⟩ ?_
 unfold pk_ListsOwn_4_m at hm
 refine GL.seq ?_
 refine GL.region ?_
 refine RL.asg rfl rfl rfl ?_
 refine RL.finG ?_
 refine GL.seq ?_
 refine GL.region ?_
 refine RL.ldPx (off := 0) (e' := x0) 0 Ex.ik Try_ln3 rfl rfl (Or.inr ⟨rfl, rfl⟩) rfl PtOf.imm Part.self ?_
 refine RL.ldP (off := 0) (r := (TR.sl TR.int)) (e' := x1) 1 Try_ln24 rfl rfl (Or.inr ⟨rfl, rfl⟩) rfl PtOf.imm Part.self ?_
 intro v7
 obtain ⟨y8, e9, hm⟩ := bind_some hm
 refine RL.call (vs := [.int .i64 x0, v7]) Try_fit64 rfl rfl rfl rfl rfl (fun S f w hS hW hi => piles_Table_c S w hS x0 _ _ (hi 2 _ rfl) _ e9) ?_
 intro v10
 refine RL.reL (L' := [imm (TR.ptr TR.int) v0 x0, imm (TR.ptr (TR.sl TR.int)) v1 x1, imm (TR.sl TR.int) v7 x1, own 3 TR.int v10 y8.1]) rfl ?_
 refine RL.mv rfl rfl rfl ?_
 refine RL.ext rfl rfl rfl rfl ?_
 refine RL.ext rfl rfl rfl rfl ?_
 refine RL.asg rfl rfl rfl ?_
 refine RL.asg rfl rfl rfl ?_
 refine RL.finG ?_
 refine GL.seq ?_
 refine GL.region ?_
 refine RL.mv rfl rfl rfl ?_
 refine RL.asg rfl rfl rfl ?_
 refine RL.finG ?_
 have hm := Option.some.inj hm
 subst hm
 exact GL.ret (Gx.ret (v := v10) (res1 rfl rfl) (fun a w st => (st.pick [3] (by decide) rfl).toPost v10))

set_option maxHeartbeats 4000000 in
theorem pk_ListsOwn_5_c (S : Hp) (w : World) (hS : S.sub w) (v0 : Value) (x0 : (List Int)) (k0 : ((TR.ptr (TR.sl TR.int))).vrep S v0 x0) (v1 : Value) (x1 : Int) (k1 : ((TR.ptr TR.int)).vrep S v1 x1) (res : (List Int)) (hm : pk_ListsOwn_5_m x0 x1 = some res) : Calls Try.prog 65 #[v0, v1] w (Post w S (fun (o : Value) => o) (fun (o : Value) => [own 3 TR.int o res])) := by
 refine calls_enter 14 Try.func65 Try.ntmps65 rfl S false [(0, v0), (1, v1)] [imm (TR.ptr (TR.sl TR.int)) v0 x0, imm (TR.ptr TR.int) v1 x1] rfl ⟨rfl, ⟨rfl, trivial⟩⟩ hS ⟨k0, ⟨k1, trivial⟩⟩ ?_
 unfold pk_ListsOwn_5_m at hm
 refine GL.seq ?_
 refine GL.region ?_
 refine RL.asg rfl rfl rfl ?_
 refine RL.finG ?_
 refine GL.seq ?_
 refine GL.region ?_
 refine RL.ldP (off := 0) (r := (TR.sl TR.int)) (e' := x0) 0 Try_ln24 rfl rfl (Or.inr ⟨rfl, rfl⟩) rfl PtOf.imm Part.self ?_
 intro v7
 refine RL.ldPx (off := 0) (e' := x1) 1 Ex.ik Try_ln3 rfl rfl (Or.inr ⟨rfl, rfl⟩) rfl PtOf.imm Part.self ?_
 obtain ⟨y8, e9, hm⟩ := bind_some hm
 refine RL.call (vs := [v7, .int .i64 x1]) Try_fit66 rfl rfl rfl rfl rfl (fun S f w hS hW hi => units_Sell_c S w hS _ _ (hi 2 _ rfl) x1 _ e9) ?_
 intro v10
 refine RL.reL (L' := [imm (TR.ptr (TR.sl TR.int)) v0 x0, imm (TR.ptr TR.int) v1 x1, imm (TR.sl TR.int) v7 x0, own 3 TR.int v10 y8.1]) rfl ?_
 refine RL.mv rfl rfl rfl ?_
 refine RL.ext rfl rfl rfl rfl ?_
 refine RL.ext rfl rfl rfl rfl ?_
 refine RL.ext rfl rfl rfl rfl ?_
 refine RL.asg rfl rfl rfl ?_
 refine RL.asg rfl rfl rfl ?_
 refine RL.asg rfl rfl rfl ?_
 refine RL.finG ?_
 refine GL.seq ?_
 refine GL.region ?_
 refine RL.mv rfl rfl rfl ?_
 refine RL.asg rfl rfl rfl ?_
 refine RL.finG ?_
 have hm := Option.some.inj hm
 subst hm
 exact GL.ret (Gx.ret (v := v10) (res1 rfl rfl) (fun a w st => (st.pick [3] (by decide) rfl).toPost v10))

set_option maxHeartbeats 4000000 in
theorem pk_ListsOwn_6_c (S : Hp) (w : World) (hS : S.sub w) (v0 : Value) (x0 : (List (List Int))) (k0 : ((TR.ptr (TR.sl (TR.sl TR.int)))).vrep S v0 x0) (res : (List Int)) (hm : pk_ListsOwn_6_m x0 = some res) : Calls Try.prog 67 #[v0] w (Post w S (fun (o : Value) => o) (fun (o : Value) => [own 3 TR.int o res])) := by
 refine calls_enter 12 Try.func67 Try.ntmps67 rfl S false [(0, v0)] [imm (TR.ptr (TR.sl (TR.sl TR.int))) v0 x0] rfl ⟨rfl, trivial⟩ hS ⟨k0, trivial⟩ ?_
 unfold pk_ListsOwn_6_m at hm
 refine GL.seq ?_
 refine GL.region ?_
 refine RL.asg rfl rfl rfl ?_
 refine RL.finG ?_
 refine GL.seq ?_
 refine GL.region ?_
 refine RL.ldP (off := 0) (r := (TR.sl (TR.sl TR.int))) (e' := x0) 0 Try_ln37 rfl rfl (Or.inr ⟨rfl, rfl⟩) rfl PtOf.imm Part.self ?_
 intro v7
 obtain ⟨y8, e9, hm⟩ := bind_some hm
 refine RL.call (vs := [v7]) Try_fit68 rfl rfl rfl rfl rfl (fun S f w hS hW hi => trade_Swap_c S w hS _ _ (hi 1 _ rfl) _ e9) ?_
 intro ⟨v10, v11⟩
 refine RL.reL (L' := [imm (TR.ptr (TR.sl (TR.sl TR.int))) v0 x0, imm (TR.sl (TR.sl TR.int)) v7 x0, own 3 TR.int v10 y8.1, own 24 (TR.sl TR.int) v11 y8.2.1]) rfl ?_
 refine RL.mv rfl rfl rfl ?_
 refine RL.ext rfl rfl rfl rfl ?_
 refine RL.ext rfl rfl rfl rfl ?_
 refine RL.ext rfl rfl rfl rfl ?_
 refine RL.asg rfl rfl rfl ?_
 refine RL.asg rfl rfl rfl ?_
 refine RL.asg rfl rfl rfl ?_
 refine RL.finG ?_
 refine GL.seq ?_
 refine GL.region ?_
 refine RL.mv rfl rfl rfl ?_
 refine RL.asg rfl rfl rfl ?_
 refine RL.finG ?_
 have hm := Option.some.inj hm
 subst hm
 exact GL.ret (Gx.ret (v := v10) (res1 rfl rfl) (fun a w st => (st.pick [2] (by decide) rfl).toPost v10))

set_option maxHeartbeats 4000000 in
theorem pk_ListsOwn_7_c (S : Hp) (w : World) (hS : S.sub w) (v0 : Value) (x0 : (List (Int × Int))) (k0 : ((TR.ptr (TR.sl (TR.pair TR.int TR.int)))).vrep S v0 x0) (v1 : Value) (x1 : Int) (k1 : ((TR.ptr TR.int)).vrep S v1 x1) (res : (List Int)) (hm : pk_ListsOwn_7_m x0 x1 = some res) : Calls Try.prog 69 #[v0, v1] w (Post w S (fun (o : Value) => o) (fun (o : Value) => [own 3 TR.int o res])) := by
 refine calls_enter 14 Try.func69 Try.ntmps69 rfl S false [(0, v0), (1, v1)] [imm (TR.ptr (TR.sl (TR.pair TR.int TR.int))) v0 x0, imm (TR.ptr TR.int) v1 x1] rfl ⟨rfl, ⟨rfl, trivial⟩⟩ hS ⟨k0, ⟨k1, trivial⟩⟩ ?_
 unfold pk_ListsOwn_7_m at hm
 refine GL.seq ?_
 refine GL.region ?_
 refine RL.asg rfl rfl rfl ?_
 refine RL.finG ?_
 refine GL.seq ?_
 refine GL.region ?_
 refine RL.ldP (off := 0) (r := (TR.sl (TR.pair TR.int TR.int))) (e' := x0) 0 Try_ln77 rfl rfl (Or.inr ⟨rfl, rfl⟩) rfl PtOf.imm Part.self ?_
 intro v7
 refine RL.ldPx (off := 0) (e' := x1) 1 Ex.ik Try_ln3 rfl rfl (Or.inr ⟨rfl, rfl⟩) rfl PtOf.imm Part.self ?_
 obtain ⟨y8, e9, hm⟩ := bind_some hm
 refine RL.call (vs := [v7, .int .i64 x1]) Try_fit70 rfl rfl rfl rfl rfl (fun S f w hS hW hi => knap_Most_c S w hS _ _ (hi 2 _ rfl) x1 _ e9) ?_
 intro v10
 refine RL.reL (L' := [imm (TR.ptr (TR.sl (TR.pair TR.int TR.int))) v0 x0, imm (TR.ptr TR.int) v1 x1, imm (TR.sl (TR.pair TR.int TR.int)) v7 x0, own 3 TR.int v10 y8.1]) rfl ?_
 refine RL.mv rfl rfl rfl ?_
 refine RL.ext rfl rfl rfl rfl ?_
 refine RL.ext rfl rfl rfl rfl ?_
 refine RL.ext rfl rfl rfl rfl ?_
 refine RL.asg rfl rfl rfl ?_
 refine RL.asg rfl rfl rfl ?_
 refine RL.asg rfl rfl rfl ?_
 refine RL.finG ?_
 refine GL.seq ?_
 refine GL.region ?_
 refine RL.mv rfl rfl rfl ?_
 refine RL.asg rfl rfl rfl ?_
 refine RL.finG ?_
 have hm := Option.some.inj hm
 subst hm
 exact GL.ret (Gx.ret (v := v10) (res1 rfl rfl) (fun a w st => (st.pick [3] (by decide) rfl).toPost v10))

set_option maxHeartbeats 4000000 in
theorem knap_Greedy_c (S : Hp) (w : World) (hS : S.sub w) (v0 : Value) (x0 : (List (Int × Int))) (k0 : ((TR.sl (TR.pair TR.int TR.int))).vrep S v0 x0) (x1 : Int) (res : (List Int) × Int × Int) (hm : knap_Greedy_m x0 x1 = some res) : Calls Try.prog 72 #[v0, .int .i64 x1] w (Post w S (fun (o : Value) => .tuple #[o, .int .i64 res.2.1, .int .i64 res.2.2]) (fun (o : Value) => [own 3 TR.int o res.1])) := by
 refine calls_enter 103 Try.func72 Try.ntmps72 rfl S false [(0, v0), (1, .int .i64 x1)] [imm (TR.sl (TR.pair TR.int TR.int)) v0 x0] rfl ⟨rfl, ⟨rfl, trivial⟩⟩ hS ⟨k0, trivial⟩ ?_
 unfold knap_Greedy_m at hm
 refine GL.seq ?_
 refine GL.region ?_
 refine RL.asg rfl rfl rfl ?_
 refine RL.asg rfl rfl rfl ?_
 refine RL.asg rfl rfl rfl ?_
 refine RL.finG ?_
 refine GL.seq ?_
 refine GL.seq ?_
 refine GL.region ?_
 refine RL.mv rfl rfl rfl ?_
 refine RL.mv rfl rfl rfl ?_
 obtain ⟨y5, e6, hm⟩ := bind_some hm
 refine RL.callV (v := .int .i64 y5) (vs := [v0, .int .i64 x1]) Try_fit124 rfl (Or.inl rfl) rfl rfl rfl rfl (fun U w hU hW hL => knap_Check_c U w hU _ _ (hL 0 _ _ rfl Seen.imm) x1 _ e6) ?_
 refine RL.asg rfl rfl rfl ?_
 refine RL.finG ?_
 refine GL.seq ?_
 refine GL.region ?_
 refine RL.mv rfl rfl rfl ?_
 refine RL.binI (v := .bool (y5 != (0 : Int))) rfl rfl rfl rfl rfl ?_
 refine RL.finG ?_
 refine GL.cond rfl (fun b7 => ?_) (fun b7 => ?_)
 ·replace hm := ite_t b7 hm
  refine GL.seq ?_
  refine GL.region ?_
  refine RL.mv rfl rfl rfl ?_
  refine RL.asg rfl rfl rfl ?_
  refine RL.asg rfl rfl rfl ?_
  refine RL.asg rfl rfl rfl ?_
  refine RL.finG ?_
  refine GL.weak (fun a w st => st.nilOwn 3 TR.int) ?_
  have hm := Option.some.inj hm
  subst hm
  exact GL.ret (Gx.ret (v := .tuple #[Value.slice none 0 0, .int .i64 (0 : Int), .int .i64 y5]) (res3 rfl rfl rfl rfl) (fun a w st => (st.pick [1] (by decide) rfl).toPost (Value.slice none 0 0)))
 replace hm := ite_f b7 hm
 refine GL.skip ?_
 refine GL.seq ?_
 refine GL.region ?_
 refine RL.mv rfl rfl rfl ?_
 refine RL.lenS 0 Try.underlying77 rfl rfl rfl rfl SlOf.imm ?_
 obtain ⟨y11, e12, hm⟩ := bind_some hm
 replace e12 := chk_some e12
 refine RL.mkS (t := TR.int) (z := (0 : Int)) Try.underlying24 Try_lo3 (fun S => rfl) rfl rfl rfl rfl e12.1 e12.2 ?_
 intro v13
 refine RL.asg rfl rfl rfl ?_
 refine RL.finG ?_
 refine GL.seq ?_
 refine GL.region ?_
 refine RL.asg rfl rfl rfl ?_
 refine RL.finG ?_
 refine GL.seq ?_
 obtain ⟨y271, K272, h273, h274, h275, h276, h277⟩ := bindR_K hm
 refine GL.join (ι := Int × (List Int) × Int) (fun (p : Int × (List Int) × Int) => [(0, v0), (8, v13), (9, .int .i64 p.2.2)]) (fun (p : Int × (List Int) × Int) => [imm (TR.sl (TR.pair TR.int TR.int)) v0 x0, own 3 TR.int v13 p.2.1]) (fun (p : Int × (List Int) × Int) => K272 (.nx (p.1, p.2.1, p.2.2))) ?_ ?_
 ·refine GL.block ?_
  refine GL.loop (ι := Nat × Int × (List Int) × Int) (fun (p : Nat × Int × (List Int) × Int) => [(0, v0), (1, .int .i64 p.2.1), (8, v13), (9, .int .i64 p.2.2.2)]) (fun (p : Nat × Int × (List Int) × Int) => [imm (TR.sl (TR.pair TR.int TR.int)) v0 x0, own 3 TR.int v13 p.2.2.1]) (fun (p : Nat × Int × (List Int) × Int) => loopM (knap_Greedy_b1 x0) p.1 (p.2.1, p.2.2.1, p.2.2.2) = some y271) (fun (p : Nat × Int × (List Int) × Int) => p.1) (1048576, x1, (List.replicate (((x0).length : Int)).toNat (0 : Int)), (0 : Int)) h273 (fun a w st => St.cut [0, 1] ⟨rfl, rfl, rfl, rfl, trivial⟩ (by decide) rfl st) ?_
  rintro ⟨r279, x142, l143, x144⟩ h283
  try dsimp only at h283
  refine GL.weak (env' := [(0, v0), (1, .int .i64 x142), (8, v13), (9, .int .i64 x144)]) (L' := [imm (TR.sl (TR.pair TR.int TR.int)) v0 x0, own 3 TR.int v13 l143]) (fun _ _ st => st) ?_
  obtain ⟨r286, z280, hr, h281, h282⟩ := loopM_some h283
  subst hr
  unfold knap_Greedy_b1 at h281
  try dsimp only at h281
  refine GL.block ?_
  refine GL.seq ?_
  refine GL.region ?_
  refine RL.asg rfl rfl rfl ?_
  refine RL.finG ?_
  refine GL.seq ?_
  refine GL.seq ?_
  refine GL.region ?_
  refine RL.mv rfl rfl rfl ?_
  refine RL.lenS 0 Try.underlying77 rfl rfl rfl rfl SlOf.imm ?_
  refine RL.mv rfl rfl rfl ?_
  refine RL.finG ?_
  refine GL.open_ 0 rfl (fun S h => len_imm S h) (fun n334 => ?_)
  obtain ⟨y335, K336, h337, h338, h339, h340, h341⟩ := bindF_K h281
  refine GL.join (ι := Int) (fun (p : Int) => [(0, v0), (1, .int .i64 x142), (8, v13), (9, .int .i64 x144), (10, .int .i64 p)]) (fun (p : Int) => [imm (TR.sl (TR.pair TR.int TR.int)) v0 x0, own 3 TR.int v13 l143]) (fun (p : Int) => K336 (.nx p)) ?_ ?_
  ·refine GL.block ?_
   refine GL.loop (ι := Nat × (List (Int × Int)) × Int) (fun (p : Nat × (List (Int × Int)) × Int) => [(0, v0), (1, .int .i64 x142), (8, v13), (9, .int .i64 x144), (10, .int .i64 p.2.2), (24, v0), (25, .int .i64 ((x0).length : Int)), (26, .int .i64 (p.1 : Int))]) (fun (p : Nat × (List (Int × Int)) × Int) => [imm (TR.sl (TR.pair TR.int TR.int)) v0 x0, own 3 TR.int v13 l143]) (fun (p : Nat × (List (Int × Int)) × Int) => p.1 + p.2.1.length = (x0).length ∧ List.drop p.1 x0 = p.2.1 ∧ rangeL (knap_Greedy_b2 l143 x142 x0) p.2.1 p.1 p.2.2 = some y335) (fun (p : Nat × (List (Int × Int)) × Int) => p.2.1.length) (0, x0, (-1 : Int)) ⟨by simp, by simp, h337⟩ (fun a w st => St.cut [0, 1] ⟨rfl, rfl, rfl, rfl, rfl, rfl, rfl, rfl, trivial⟩ (by decide) rfl st) ?_
   rintro ⟨i342, r343, x287⟩ ⟨h348, h349, h347⟩
   try dsimp only at h348 h349 h347
   refine GL.weak (env' := [(0, v0), (1, .int .i64 x142), (8, v13), (9, .int .i64 x144), (10, .int .i64 x287), (24, v0), (25, .int .i64 ((x0).length : Int)), (26, .int .i64 (i342 : Int))]) (L' := [imm (TR.sl (TR.pair TR.int TR.int)) v0 x0, own 3 TR.int v13 l143]) (fun _ _ st => st) ?_
   refine GL.seq ?_
   refine GL.region ?_
   refine RL.binI (v := .bool (decide ((i342 : Int) < ((x0).length : Int)))) rfl rfl rfl rfl rfl ?_
   refine RL.finG ?_
   refine GL.seq ?_
   refine GL.cond rfl (fun b350 => ?_) (fun b350 => ?_)
   ·have h351 : i342 < (x0).length := by have := of_decide_eq_true b350; omega
    obtain ⟨y352, r354, hr, e353, h355⟩ := drop_cons h349 rfl h351
    subst hr
    obtain ⟨z344, h345, h346⟩ := rangeL_some h347
    unfold knap_Greedy_b2 at h345
    try dsimp only at h345
    refine GL.skip ?_
    refine GL.seq ?_
    refine GL.block ?_
    refine GL.seq ?_
    refine GL.region ?_
    refine RL.mv rfl rfl rfl ?_
    refine RL.idxS (sz := 2) 0 Try.underlying77 Try_ln80 rfl rfl rfl rfl rfl SlOf.imm (by omega) (by omega) ?_
    refine RL.ldS (i := i342) (r := (TR.pair TR.int TR.int)) (e' := y352) 0 Try_ln80 rfl rfl rfl rfl SlOf.imm e353 Part.self ?_
    intro v358
    refine RL.alloc (t := (TR.pair TR.int TR.int)) (z := ((0 : Int), (0 : Int))) Try_lo80 (fun S => ⟨[.int .i64 0], _, rfl, rfl, rfl⟩) rfl rfl rfl ?_
    intro v359
    refine RL.reL (L' := [imm (TR.sl (TR.pair TR.int TR.int)) v0 x0, own 3 TR.int v13 l143, imm (TR.pair TR.int TR.int) v358 y352, obox 80 (TR.pair TR.int TR.int) v359 ((0 : Int), (0 : Int))]) rfl ?_
    refine RL.asg rfl rfl rfl ?_
    refine RL.stP (off := 0) (e' := y352) (d1 := y352) (r := (TR.pair TR.int TR.int)) 3 Try_ln80 rfl rfl (Or.inr ⟨rfl, rfl⟩) rfl (VR.item 2 rfl) rfl Upd.self ?_
    refine RL.finG ?_
    refine GL.seq ?_
    obtain ⟨y379, K380, h381, h382, h383, h384, h385⟩ := bindF_K h345
    refine GL.join (ι := Bool) (fun (p : Bool) => [(0, v0), (1, .int .i64 x142), (8, v13), (9, .int .i64 x144), (10, .int .i64 x287), (11, .int .i64 (i342 : Int)), (24, v0), (25, .int .i64 ((x0).length : Int)), (26, .int .i64 (i342 : Int)), (64, .bool p)]) (fun (p : Bool) => [imm (TR.sl (TR.pair TR.int TR.int)) v0 x0, own 3 TR.int v13 l143]) (fun (p : Bool) => K380 (.nx p)) ?_ ?_
    ·skip
     refine GL.regionQ rfl rfl (by kernel_rfl) ?_
     refine RL.mv rfl rfl rfl ?_
     refine RL.mv rfl rfl rfl ?_
     obtain ⟨y386, e387, h381⟩ := bind_some h381
     refine RL.idxS (sz := 1) 1 Try.underlying24 Try_ln3 rfl rfl rfl rfl rfl SlOf.own (idx_some e387).1 (idx_some e387).2.1 ?_
     refine RL.ldSx (i := i342) (e' := y386) 1 Ex.ik Try_ln3 rfl rfl rfl rfl SlOf.own (idx_some e387).2.2 Part.self ?_
     refine RL.binI (v := .bool (y386 == (0 : Int))) rfl rfl rfl rfl rfl ?_
     refine RL.mv rfl rfl rfl ?_
     refine RL.split (t := 36) rfl (fun b388 => ?_) (fun b388 => ?_)
     ·replace h381 := ite_t b388 h381
      refine RL.fadr (off := 0) (fo := 0) 3 Try_fld80_0 rfl rfl rfl PtOf.obox (Or.inr ⟨rfl, rfl⟩) ?_
      refine RL.ldPx (off := (0 + 0)) (e' := y352.1) 3 Ex.ik Try_ln3 rfl rfl (Or.inl rfl) rfl PtOf.obox (Part.fst Part.self) ?_
      refine RL.mv rfl rfl rfl ?_
      refine RL.binI (v := .bool (decide (y352.1 ≤ x142))) rfl rfl rfl rfl rfl ?_
      refine RL.pickT rfl rfl rfl rfl ?_
      refine RL.mv rfl rfl rfl ?_
      refine RL.split (t := 42) rfl (fun b389 => ?_) (fun b389 => ?_)
      ·replace h381 := ite_t b389 h381
       refine RL.mv rfl rfl rfl ?_
       refine RL.binI (v := .bool (decide (x287 < (0 : Int)))) rfl rfl rfl rfl rfl ?_
       refine RL.mv rfl rfl rfl ?_
       refine RL.split (t := 45) rfl (fun b390 => ?_) (fun b390 => ?_)
       ·replace h381 := ite_t b390 h381
        refine RL.skip rfl rfl ?_
        refine RL.skip rfl rfl ?_
        refine RL.skip rfl rfl ?_
        refine RL.skip rfl rfl ?_
        refine RL.skip rfl rfl ?_
        refine RL.skip rfl rfl ?_
        refine RL.skip rfl rfl ?_
        refine RL.skip rfl rfl ?_
        refine RL.skip rfl rfl ?_
        refine RL.skip rfl rfl ?_
        refine RL.skip rfl rfl ?_
        refine RL.skip rfl rfl ?_
        refine RL.skip rfl rfl ?_
        refine RL.skip rfl rfl ?_
        refine RL.skip rfl rfl ?_
        refine RL.skip rfl rfl ?_
        refine RL.skip rfl rfl ?_
        refine RL.pickT rfl rfl rfl rfl ?_
        refine RL.pickT rfl rfl rfl rfl ?_
        refine RL.finQ ?_
        cases h381
        exact fun a w st => mid_intro true h382 (St.cut [0, 1] ⟨rfl, rfl, rfl, rfl, rfl, rfl, rfl, rfl, rfl, rfl, trivial⟩ (by decide) rfl st)
       replace h381 := ite_f b390 h381
       refine RL.fadr (off := 0) (fo := 1) 3 Try_fld80_1 rfl rfl rfl PtOf.obox (Or.inr ⟨rfl, rfl⟩) ?_
       refine RL.ldPx (off := (0 + 1)) (e' := y352.2) 3 Ex.ik Try_ln3 rfl rfl (Or.inl rfl) rfl PtOf.obox (Part.snd Part.self) ?_
       refine RL.mv rfl rfl rfl ?_
       refine RL.mv rfl rfl rfl ?_
       obtain ⟨y391, e392, h381⟩ := bind_some h381
       refine RL.idxS (sz := 2) 0 Try.underlying77 Try_ln80 rfl rfl rfl rfl rfl SlOf.imm (idx_some e392).1 (idx_some e392).2.1 ?_
       refine RL.fadrS (off := ((x287).toNat * 2)) (fo := 0) 0 Try_fld80_0 rfl rfl rfl SlOf.imm (by have := (List.getElem?_eq_some_iff.1 (idx_some e392).2.2).1; (try dsimp only at this ⊢); omega) rfl ?_
       refine RL.ldSx (i := (x287).toNat) (e' := y391.1) 0 Ex.ik Try_ln3 rfl rfl rfl rfl SlOf.imm (idx_some e392).2.2 (Part.fst Part.self) ?_
       refine RL.binI (v := .int .i64 (wmul y352.2 y391.1)) rfl rfl rfl rfl rfl ?_
       refine RL.mv rfl rfl rfl ?_
       refine RL.mv rfl rfl rfl ?_
       obtain ⟨y393, e394, h381⟩ := bind_some h381
       refine RL.idxS (sz := 2) 0 Try.underlying77 Try_ln80 rfl rfl rfl rfl rfl SlOf.imm (idx_some e394).1 (idx_some e394).2.1 ?_
       refine RL.fadrS (off := ((x287).toNat * 2)) (fo := 1) 0 Try_fld80_1 rfl rfl rfl SlOf.imm (by have := (List.getElem?_eq_some_iff.1 (idx_some e394).2.2).1; (try dsimp only at this ⊢); omega) rfl ?_
       refine RL.ldSx (i := (x287).toNat) (e' := y393.2) 0 Ex.ik Try_ln3 rfl rfl rfl rfl SlOf.imm (idx_some e394).2.2 (Part.snd Part.self) ?_
       refine RL.fadr (off := 0) (fo := 0) 3 Try_fld80_0 rfl rfl rfl PtOf.obox (Or.inr ⟨rfl, rfl⟩) ?_
       refine RL.ldPx (off := (0 + 0)) (e' := y352.1) 3 Ex.ik Try_ln3 rfl rfl (Or.inl rfl) rfl PtOf.obox (Part.fst Part.self) ?_
       refine RL.binI (v := .int .i64 (wmul y393.2 y352.1)) rfl rfl rfl rfl rfl ?_
       refine RL.binI (v := .bool (decide ((wmul y352.2 y391.1) > (wmul y393.2 y352.1)))) rfl rfl rfl rfl rfl ?_
       refine RL.pickF rfl rfl rfl rfl ?_
       refine RL.pickT rfl rfl rfl rfl ?_
       refine RL.finQ ?_
       cases h381
       exact fun a w st => mid_intro (decide ((wmul y352.2 y391.1) > (wmul y393.2 y352.1))) h382 (St.cut [0, 1] ⟨rfl, rfl, rfl, rfl, rfl, rfl, rfl, rfl, rfl, rfl, trivial⟩ (by decide) rfl st)
      replace h381 := ite_f b389 h381
      refine RL.skip rfl rfl ?_
      refine RL.skip rfl rfl ?_
      refine RL.skip rfl rfl ?_
      refine RL.skip rfl rfl ?_
      refine RL.skip rfl rfl ?_
      refine RL.skip rfl rfl ?_
      refine RL.skip rfl rfl ?_
      refine RL.skip rfl rfl ?_
      refine RL.skip rfl rfl ?_
      refine RL.skip rfl rfl ?_
      refine RL.skip rfl rfl ?_
      refine RL.skip rfl rfl ?_
      refine RL.skip rfl rfl ?_
      refine RL.skip rfl rfl ?_
      refine RL.skip rfl rfl ?_
      refine RL.skip rfl rfl ?_
      refine RL.skip rfl rfl ?_
      refine RL.skip rfl rfl ?_
      refine RL.skip rfl rfl ?_
      refine RL.skip rfl rfl ?_
      refine RL.skip rfl rfl ?_
      refine RL.pickF rfl rfl rfl rfl ?_
      refine RL.finQ ?_
      cases h381
      exact fun a w st => mid_intro false h382 (St.cut [0, 1] ⟨rfl, rfl, rfl, rfl, rfl, rfl, rfl, rfl, rfl, rfl, trivial⟩ (by decide) rfl st)
     replace h381 := ite_f b388 h381
     refine RL.skip rfl rfl ?_
     refine RL.skip rfl rfl ?_
     refine RL.skip rfl rfl ?_
     refine RL.skip rfl rfl ?_
     refine RL.pickF rfl rfl rfl rfl ?_
     refine RL.mv rfl rfl rfl ?_
     refine RL.skip rfl rfl ?_
     refine RL.skip rfl rfl ?_
     refine RL.skip rfl rfl ?_
     refine RL.skip rfl rfl ?_
     refine RL.skip rfl rfl ?_
     refine RL.skip rfl rfl ?_
     refine RL.skip rfl rfl ?_
     refine RL.skip rfl rfl ?_
     refine RL.skip rfl rfl ?_
     refine RL.skip rfl rfl ?_
     refine RL.skip rfl rfl ?_
     refine RL.skip rfl rfl ?_
     refine RL.skip rfl rfl ?_
     refine RL.skip rfl rfl ?_
     refine RL.skip rfl rfl ?_
     refine RL.skip rfl rfl ?_
     refine RL.skip rfl rfl ?_
     refine RL.skip rfl rfl ?_
     refine RL.skip rfl rfl ?_
     refine RL.skip rfl rfl ?_
     refine RL.skip rfl rfl ?_
     refine RL.pickF rfl rfl rfl rfl ?_
     refine RL.finQ ?_
     cases h381
     exact fun a w st => mid_intro false h382 (St.cut [0, 1] ⟨rfl, rfl, rfl, rfl, rfl, rfl, rfl, rfl, rfl, rfl, trivial⟩ (by decide) rfl st)
    rintro x378 h395
    have h396 := h383 _ h395
    try dsimp only at h396
    refine GL.weak (env' := [(0, v0), (1, .int .i64 x142), (8, v13), (9, .int .i64 x144), (10, .int .i64 x287), (11, .int .i64 (i342 : Int)), (24, v0), (25, .int .i64 ((x0).length : Int)), (26, .int .i64 (i342 : Int)), (64, .bool x378)]) (L' := [imm (TR.sl (TR.pair TR.int TR.int)) v0 x0, own 3 TR.int v13 l143]) (fun _ _ st => st) ?_
    refine GL.cond rfl (fun b397 => ?_) (fun b397 => ?_)
    ·replace h396 := ite_t b397 h396
     refine GL.region ?_
     refine RL.mv rfl rfl rfl ?_
     refine RL.asg rfl rfl rfl ?_
     refine RL.finG ?_
     refine GL.nilB ?_
     refine GL.region ?_
     refine RL.binI (v := .int .i64 ((i342 + 1 : Nat) : Int)) rfl rfl rfl rfl (binI_succ i342 (by omega)) ?_
     refine RL.mv rfl rfl rfl ?_
     refine RL.fin ?_
     cases h396
     exact fun a w st => lop_intro (i342 + 1, r354, (i342 : Int)) ⟨by show i342 + 1 + r354.length = (x0).length; simp only [List.length_cons] at h348; omega, h355, h346⟩ (by simp) (St.cut [0, 1] ⟨rfl, rfl, rfl, rfl, rfl, rfl, rfl, rfl, trivial⟩ (by decide) rfl st)
    replace h396 := ite_f b397 h396
    refine GL.skip ?_
    refine GL.nilB ?_
    refine GL.region ?_
    refine RL.binI (v := .int .i64 ((i342 + 1 : Nat) : Int)) rfl rfl rfl rfl (binI_succ i342 (by omega)) ?_
    refine RL.mv rfl rfl rfl ?_
    refine RL.fin ?_
    cases h396
    exact fun a w st => lop_intro (i342 + 1, r354, x287) ⟨by show i342 + 1 + r354.length = (x0).length; simp only [List.length_cons] at h348; omega, h355, h346⟩ (by simp) (St.cut [0, 1] ⟨rfl, rfl, rfl, rfl, rfl, rfl, rfl, rfl, trivial⟩ (by decide) rfl st)
   have h351 : ¬ i342 < (x0).length := by have := of_decide_eq_false b350; omega
   obtain rfl : r343 = [] := by rw [← h349]; exact List.drop_of_length_le (by omega)
   replace h347 : some (Fl.nx _) = some y335 := h347
   cases h347
   exact GL.exit (fun a w st => mid_intro x287 h338 (St.cut [0, 1] ⟨rfl, rfl, rfl, rfl, rfl, trivial⟩ (by decide) rfl st))
  rintro x287 h398
  have h399 := h339 _ h398
  try dsimp only at h399
  refine GL.weak (env' := [(0, v0), (1, .int .i64 x142), (8, v13), (9, .int .i64 x144), (10, .int .i64 x287)]) (L' := [imm (TR.sl (TR.pair TR.int TR.int)) v0 x0, own 3 TR.int v13 l143]) (fun _ _ st => st) ?_
  refine GL.seq ?_
  refine GL.seq ?_
  refine GL.region ?_
  refine RL.mv rfl rfl rfl ?_
  refine RL.binI (v := .bool (decide (x287 < (0 : Int)))) rfl rfl rfl rfl rfl ?_
  refine RL.finG ?_
  refine GL.cond rfl (fun b400 => ?_) (fun b400 => ?_)
  ·replace h399 := ite_t b400 h399
   cases h399
   replace h282 : some (Fl.nx _) = some y271 := h282
   cases h282
   exact GL.exit (fun a w st => mid_intro (x142, l143, x144) h274 (St.cut [0, 1] ⟨rfl, rfl, rfl, trivial⟩ (by decide) rfl st))
  replace h399 := ite_f b400 h399
  refine GL.skip ?_
  refine GL.seq ?_
  refine GL.region ?_
  refine RL.mv rfl rfl rfl ?_
  refine RL.mv rfl rfl rfl ?_
  obtain ⟨y403, e404, h399⟩ := bind_some h399
  refine RL.idxS (sz := 1) 1 Try.underlying24 Try_ln3 rfl rfl rfl rfl rfl SlOf.own (idx_some e404).1 (idx_some e404).2.1 ?_
  refine RL.stS (i := (x287).toNat) (e' := (1 : Int)) (e1 := (1 : Int)) (r := TR.int) 1 Try_ln3 rfl rfl rfl rfl VR.int rfl (idx_some e404).2.2 Upd.self ?_
  refine RL.finG ?_
  refine GL.seq ?_
  refine GL.region ?_
  refine RL.mv rfl rfl rfl ?_
  refine RL.mv rfl rfl rfl ?_
  refine RL.mv rfl rfl rfl ?_
  obtain ⟨y407, e408, h399⟩ := bind_some h399
  refine RL.idxS (sz := 2) 0 Try.underlying77 Try_ln80 rfl rfl rfl rfl rfl SlOf.imm (idx_some e408).1 (idx_some e408).2.1 ?_
  refine RL.fadrS (off := ((x287).toNat * 2)) (fo := 0) 0 Try_fld80_0 rfl rfl rfl SlOf.imm (by have := (List.getElem?_eq_some_iff.1 (idx_some e408).2.2).1; (try dsimp only at this ⊢); omega) rfl ?_
  refine RL.ldSx (i := (x287).toNat) (e' := y407.1) 0 Ex.ik Try_ln3 rfl rfl rfl rfl SlOf.imm (idx_some e408).2.2 (Part.fst Part.self) ?_
  refine RL.binI (v := .int .i64 (wsub x142 y407.1)) rfl rfl rfl rfl rfl ?_
  refine RL.asg rfl rfl rfl ?_
  refine RL.finG ?_
  refine GL.region ?_
  refine RL.mv rfl rfl rfl ?_
  refine RL.mv rfl rfl rfl ?_
  refine RL.mv rfl rfl rfl ?_
  obtain ⟨y411, e412, h399⟩ := bind_some h399
  refine RL.idxS (sz := 2) 0 Try.underlying77 Try_ln80 rfl rfl rfl rfl rfl SlOf.imm (idx_some e412).1 (idx_some e412).2.1 ?_
  refine RL.fadrS (off := ((x287).toNat * 2)) (fo := 1) 0 Try_fld80_1 rfl rfl rfl SlOf.imm (by have := (List.getElem?_eq_some_iff.1 (idx_some e412).2.2).1; (try dsimp only at this ⊢); omega) rfl ?_
  refine RL.ldSx (i := (x287).toNat) (e' := y411.2) 0 Ex.ik Try_ln3 rfl rfl rfl rfl SlOf.imm (idx_some e412).2.2 (Part.snd Part.self) ?_
  refine RL.binI (v := .int .i64 (wadd x144 y411.2)) rfl rfl rfl rfl rfl ?_
  refine RL.asg rfl rfl rfl ?_
  refine RL.finG ?_
  refine GL.nilB ?_
  cases h399
  exact fun a w st => lop_intro (r286, wsub x142 y407.1, (List.set l143 ((x287).toNat) (1 : Int)), wadd x144 y411.2) (by exact h282) (by simp) (St.cut [0, 1] ⟨rfl, rfl, rfl, rfl, trivial⟩ (by decide) rfl st)
 rintro ⟨x142, l143, x144⟩ h413
 have h414 := h275 _ h413
 try dsimp only at h414
 refine GL.weak (env' := [(0, v0), (8, v13), (9, .int .i64 x144)]) (L' := [imm (TR.sl (TR.pair TR.int TR.int)) v0 x0, own 3 TR.int v13 l143]) (fun _ _ st => st) ?_
 refine GL.seq ?_
 refine GL.region ?_
 refine RL.asg rfl rfl rfl ?_
 refine RL.finG ?_
 refine GL.seq ?_
 refine GL.seq ?_
 refine GL.region ?_
 refine RL.mv rfl rfl rfl ?_
 refine RL.lenS 0 Try.underlying77 rfl rfl rfl rfl SlOf.imm ?_
 refine RL.mv rfl rfl rfl ?_
 refine RL.finG ?_
 refine GL.weak (fun a w st => st.nilOwn 3 TR.int) ?_
 refine GL.open_ 0 rfl (fun S h => len_imm S h) (fun n430 => ?_)
 obtain ⟨y431, K432, h433, h434, h435, h436, h437⟩ := bindR_K h414
 refine GL.join (ι := (List Int) × Value) (fun (p : (List Int) × Value) => [(9, .int .i64 x144), (13, p.2)]) (fun (p : (List Int) × Value) => [own 3 TR.int p.2 p.1]) (fun (p : (List Int) × Value) => K432 (.nx p.1)) ?_ ?_
 ·refine GL.block ?_
  refine GL.loop (ι := Nat × (List (Int × Int)) × (List Int) × Value) (fun (p : Nat × (List (Int × Int)) × (List Int) × Value) => [(8, v13), (9, .int .i64 x144), (13, p.2.2.2), (87, .int .i64 ((x0).length : Int)), (88, .int .i64 (p.1 : Int))]) (fun (p : Nat × (List (Int × Int)) × (List Int) × Value) => [own 3 TR.int v13 l143, own 3 TR.int p.2.2.2 p.2.2.1]) (fun (p : Nat × (List (Int × Int)) × (List Int) × Value) => p.1 + p.2.1.length = (x0).length ∧ List.drop p.1 x0 = p.2.1 ∧ rangeL (knap_Greedy_b3 l143) p.2.1 p.1 p.2.2.1 = some y431) (fun (p : Nat × (List (Int × Int)) × (List Int) × Value) => p.2.1.length) (0, x0, [], Value.slice none 0 0) ⟨by simp, by simp, h433⟩ (fun a w st => St.cut [1, 2] ⟨rfl, rfl, rfl, rfl, rfl, trivial⟩ (by decide) rfl st) ?_
  rintro ⟨i438, r439, l415, v416⟩ ⟨h444, h445, h443⟩
  try dsimp only at h444 h445 h443
  refine GL.weak (env' := [(8, v13), (9, .int .i64 x144), (13, v416), (87, .int .i64 ((x0).length : Int)), (88, .int .i64 (i438 : Int))]) (L' := [own 3 TR.int v13 l143, own 3 TR.int v416 l415]) (fun _ _ st => st) ?_
  refine GL.seq ?_
  refine GL.region ?_
  refine RL.binI (v := .bool (decide ((i438 : Int) < ((x0).length : Int)))) rfl rfl rfl rfl rfl ?_
  refine RL.finG ?_
  refine GL.seq ?_
  refine GL.cond rfl (fun b446 => ?_) (fun b446 => ?_)
  ·have h447 : i438 < (x0).length := by have := of_decide_eq_true b446; omega
   obtain ⟨y448, r450, hr, e449, h451⟩ := drop_cons h445 rfl h447
   subst hr
   obtain ⟨z440, h441, h442⟩ := rangeL_some h443
   unfold knap_Greedy_b3 at h441
   try dsimp only at h441
   refine GL.skip ?_
   refine GL.seq ?_
   refine GL.block ?_
   refine GL.seq ?_
   refine GL.region ?_
   refine RL.mv rfl rfl rfl ?_
   refine RL.asg rfl rfl rfl ?_
   refine RL.finG ?_
   refine GL.seq ?_
   refine GL.region ?_
   refine RL.mv rfl rfl rfl ?_
   refine RL.mv rfl rfl rfl ?_
   obtain ⟨y454, e455, h441⟩ := bind_some h441
   refine RL.idxS (sz := 1) 0 Try.underlying24 Try_ln3 rfl rfl rfl rfl rfl SlOf.own (idx_some e455).1 (idx_some e455).2.1 ?_
   refine RL.ldSx (i := i438) (e' := y454) 0 Ex.ik Try_ln3 rfl rfl rfl rfl SlOf.own (idx_some e455).2.2 Part.self ?_
   refine RL.binI (v := .bool (y454 == (1 : Int))) rfl rfl rfl rfl rfl ?_
   refine RL.finG ?_
   refine GL.cond rfl (fun b456 => ?_) (fun b456 => ?_)
   ·replace h441 := ite_t b456 h441
    refine GL.region ?_
    refine RL.mv rfl rfl rfl ?_
    refine RL.mv rfl rfl rfl ?_
    refine RL.bS (t := TR.int) (vs := [.int .i64 (i438 : Int)]) ([(i438 : Int)] : (List Int)) Try.underlying24 Try_lo3 rfl rfl rfl rfl ⟨VR.int, trivial⟩ rfl (by decide) ?_
    intro v461
    obtain ⟨y462, e463, h441⟩ := bind_some h441
    replace e463 := chk_some e463
    refine RL.app 1 2 Try.underlying24 Try_lo3 rfl rfl rfl rfl rfl rfl rfl SlOf.own e463 ?_
    intro v464
    refine RL.reL (L' := [own 3 TR.int v13 l143, own 3 TR.int v464 (l415 ++ ([(i438 : Int)] : (List Int))), own 3 TR.int v461 ([(i438 : Int)] : (List Int))]) rfl ?_
    refine RL.asg rfl rfl rfl ?_
    refine RL.finG ?_
    refine GL.nilB ?_
    refine GL.region ?_
    refine RL.binI (v := .int .i64 ((i438 + 1 : Nat) : Int)) rfl rfl rfl rfl (binI_succ i438 (by omega)) ?_
    refine RL.mv rfl rfl rfl ?_
    refine RL.fin ?_
    cases h441
    exact fun a w st => lop_intro (i438 + 1, r450, (l415 ++ ([(i438 : Int)] : (List Int))), v464) ⟨by show i438 + 1 + r450.length = (x0).length; simp only [List.length_cons] at h444; omega, h451, h442⟩ (by simp) (St.cut [0, 1] ⟨rfl, rfl, rfl, rfl, rfl, trivial⟩ (by decide) rfl st)
   replace h441 := ite_f b456 h441
   refine GL.skip ?_
   refine GL.nilB ?_
   refine GL.region ?_
   refine RL.binI (v := .int .i64 ((i438 + 1 : Nat) : Int)) rfl rfl rfl rfl (binI_succ i438 (by omega)) ?_
   refine RL.mv rfl rfl rfl ?_
   refine RL.fin ?_
   cases h441
   exact fun a w st => lop_intro (i438 + 1, r450, l415, v416) ⟨by show i438 + 1 + r450.length = (x0).length; simp only [List.length_cons] at h444; omega, h451, h442⟩ (by simp) (St.cut [0, 1] ⟨rfl, rfl, rfl, rfl, rfl, trivial⟩ (by decide) rfl st)
  have h447 : ¬ i438 < (x0).length := by have := of_decide_eq_false b446; omega
  obtain rfl : r439 = [] := by rw [← h445]; exact List.drop_of_length_le (by omega)
  replace h443 : some (Fl.nx _) = some y431 := h443
  cases h443
  exact GL.exit (fun a w st => mid_intro (l415, v416) h434 (St.cut [1] ⟨rfl, rfl, trivial⟩ (by decide) rfl st))
 rintro ⟨l415, v416⟩ h465
 have h466 := h435 _ h465
 try dsimp only at h466
 refine GL.weak (env' := [(9, .int .i64 x144), (13, v416)]) (L' := [own 3 TR.int v416 l415]) (fun _ _ st => st) ?_
 refine GL.seq ?_
 refine GL.region ?_
 refine RL.mv rfl rfl rfl ?_
 refine RL.mv rfl rfl rfl ?_
 refine RL.asg rfl rfl rfl ?_
 refine RL.asg rfl rfl rfl ?_
 refine RL.asg rfl rfl rfl ?_
 refine RL.finG ?_
 have h466 := Option.some.inj h466
 subst h466
 exact GL.ret (Gx.ret (v := .tuple #[v416, .int .i64 x144, .int .i64 (0 : Int)]) (res3 rfl rfl rfl rfl) (fun a w st => (st.pick [0] (by decide) rfl).toPost v416))

set_option maxHeartbeats 4000000 in
theorem pk_ListsOwn_8_c (S : Hp) (w : World) (hS : S.sub w) (v0 : Value) (x0 : (List (Int × Int))) (k0 : ((TR.ptr (TR.sl (TR.pair TR.int TR.int)))).vrep S v0 x0) (v1 : Value) (x1 : Int) (k1 : ((TR.ptr TR.int)).vrep S v1 x1) (res : (List Int)) (hm : pk_ListsOwn_8_m x0 x1 = some res) : Calls Try.prog 71 #[v0, v1] w (Post w S (fun (o : Value) => o) (fun (o : Value) => [own 3 TR.int o res])) := by
 refine calls_enter 14 Try.func71 Try.ntmps71 rfl S false [(0, v0), (1, v1)] [imm (TR.ptr (TR.sl (TR.pair TR.int TR.int))) v0 x0, imm (TR.ptr TR.int) v1 x1] rfl ⟨rfl, ⟨rfl, trivial⟩⟩ hS ⟨k0, ⟨k1, trivial⟩⟩ ?_
 unfold pk_ListsOwn_8_m at hm
 refine GL.seq ?_
 refine GL.region ?_
 refine RL.asg rfl rfl rfl ?_
 refine RL.finG ?_
 refine GL.seq ?_
 refine GL.region ?_
 refine RL.ldP (off := 0) (r := (TR.sl (TR.pair TR.int TR.int))) (e' := x0) 0 Try_ln77 rfl rfl (Or.inr ⟨rfl, rfl⟩) rfl PtOf.imm Part.self ?_
 intro v7
 refine RL.ldPx (off := 0) (e' := x1) 1 Ex.ik Try_ln3 rfl rfl (Or.inr ⟨rfl, rfl⟩) rfl PtOf.imm Part.self ?_
 obtain ⟨y8, e9, hm⟩ := bind_some hm
 refine RL.call (vs := [v7, .int .i64 x1]) Try_fit72 rfl rfl rfl rfl rfl (fun S f w hS hW hi => knap_Greedy_c S w hS _ _ (hi 2 _ rfl) x1 _ e9) ?_
 intro v10
 refine RL.reL (L' := [imm (TR.ptr (TR.sl (TR.pair TR.int TR.int))) v0 x0, imm (TR.ptr TR.int) v1 x1, imm (TR.sl (TR.pair TR.int TR.int)) v7 x0, own 3 TR.int v10 y8.1]) rfl ?_
 refine RL.mv rfl rfl rfl ?_
 refine RL.ext rfl rfl rfl rfl ?_
 refine RL.ext rfl rfl rfl rfl ?_
 refine RL.ext rfl rfl rfl rfl ?_
 refine RL.asg rfl rfl rfl ?_
 refine RL.asg rfl rfl rfl ?_
 refine RL.asg rfl rfl rfl ?_
 refine RL.finG ?_
 refine GL.seq ?_
 refine GL.region ?_
 refine RL.mv rfl rfl rfl ?_
 refine RL.asg rfl rfl rfl ?_
 refine RL.finG ?_
 have hm := Option.some.inj hm
 subst hm
 exact GL.ret (Gx.ret (v := v10) (res1 rfl rfl) (fun a w st => (st.pick [3] (by decide) rfl).toPost v10))

set_option maxHeartbeats 4000000 in
theorem pk_spoil_int_c (B : World) (S X : Hp) (f : Nat → Hp) (w : World) (v0 : Value) (x0 : List Int) (hO : HeapOk B.heap.size S f [own 3 TR.int v0 x0, keep X].length w) (hB : Below B.heap.size B w) (hI : Its [own 3 TR.int v0 x0, keep X] S f) (x1 : Int) (res : List Int) (hm : pk_spoil_int_m x0 x1 = some res) : Calls Try.prog 21 #[v0, .int .i64 x1] w (PostM B S (fun (_ : Unit) => .tuple #[]) (fun (_ : Unit) => [own 3 TR.int v0 res, keep X])) := by
  unfold pk_spoil_int_m at hm
  have hm := Option.some.inj hm
  subst hm
  refine calls_enterM 19 Try.func21 Try.ntmps21 rfl B S f [(0, v0), (1, .int .i64 x1)] [own 3 TR.int v0 x0, keep X] [] rfl ⟨rfl, rfl, trivial⟩ hB hO hI trivial ?_
  refine GL.capO 0 rfl (fun hcap hmax hrl hcr => ?_)
  replace hmax : capv v0 ≤ 9223372036854775807 := hmax
  refine GL.weak (fun a w st => st.relenO 0 rfl) ?_
  refine GL.seq ?_
  refine GL.region ?_
  refine RL.mv rfl rfl rfl ?_
  refine RL.mv rfl rfl rfl ?_
  refine RL.capS 0 Try.underlying24 rfl rfl rfl rfl ?_
  refine RL.cutAll 0 Try.underlying24 Try_ln3 rfl rfl rfl rfl rfl ?_
  refine RL.asg rfl rfl rfl ?_
  refine RL.finG ?_
  refine GL.seq ?_
  refine GL.region ?_
  refine RL.mv rfl rfl rfl ?_
  refine RL.lenNx (m := capv v0) 0 Try.underlying24 rfl rfl rfl rfl ?_
  refine RL.mv rfl rfl rfl ?_
  refine RL.finG ?_
  refine GL.join (ι := Unit) (fun _ => []) (fun _ => [own 3 TR.int (relen v0 (capv v0)) (List.replicate (capv v0) x1), keep X]) (fun _ => True) ?_ ?_
  · refine GL.block ?_
    refine GL.loop (ι := Nat) (fun i => [(0, relen v0 (capv v0)), (1, .int .i64 x1), (10, .int .i64 ((capv v0 : Nat) : Int)), (11, .int .i64 ((i : Nat) : Int))]) (fun i => [own 3 TR.int (relen v0 i) (List.replicate i x1), keep X]) (fun i => i ≤ capv v0) (fun i => capv v0 - i) 0 (Nat.zero_le _) (fun a w st => St.cut [0, 1] ⟨rfl, rfl, rfl, rfl, trivial⟩ (by decide) rfl st) ?_
    intro i hG
    refine GL.seq ?_
    refine GL.region ?_
    refine RL.binI (v := .bool (decide ((i : Int) < ((capv v0 : Nat) : Int)))) rfl rfl rfl rfl rfl ?_
    refine RL.finG ?_
    refine GL.seq ?_
    refine GL.cond rfl (fun hb => ?_) (fun hb => ?_)
    · have hi : i < capv v0 := by have := of_decide_eq_true hb; omega
      refine GL.skip ?_
      refine GL.seq ?_
      refine GL.block ?_
      refine GL.seq ?_
      refine GL.region ?_
      refine RL.mv rfl rfl rfl ?_
      refine RL.asg rfl rfl rfl ?_
      refine RL.finG ?_
      refine GL.region ?_
      refine RL.mv rfl rfl rfl ?_
      refine RL.mv rfl rfl rfl ?_
      refine RL.mv rfl rfl rfl ?_
      refine RL.idxNx (sz := 1) 0 Try.underlying24 Try_ln3 rfl rfl rfl rfl rfl hi ?_
      refine RL.stNx (t := TR.int) (e' := x1) 0 Try_ln3 rfl rfl rfl rfl VR.int rfl (by simp) hi ?_
      rw [replicate_snoc]
      refine RL.finG ?_
      refine GL.nilB ?_
      refine GL.region ?_
      refine RL.binI (v := .int .i64 ((i + 1 : Nat) : Int)) rfl rfl rfl rfl (binI_succ i (by omega)) ?_
      refine RL.mv rfl rfl rfl ?_
      refine RL.fin ?_
      exact fun a w st => lop_intro (i + 1) (by show i + 1 ≤ capv v0; omega) (by show capv v0 - (i + 1) < capv v0 - i; omega) (St.cut [0, 1] ⟨rfl, rfl, rfl, rfl, trivial⟩ (by decide) rfl st)
    · have hi : ¬ i < capv v0 := by have := of_decide_eq_false hb; omega
      obtain rfl : i = capv v0 := by omega
      exact GL.exit (fun a w st => mid_intro () trivial (St.cut [0, 1] trivial (by decide) rfl st))
  · intro _ _
    refine GL.weak (fun a w st => st.spoiled (m := x0.length) 0 rfl hcap hrl) ?_
    exact GL.nil (Gx.retN (v := .tuple #[]) (res0 rfl) (fun a w st => (st.pick [0, 1] (by decide) rfl).toPostM (V := fun (_ : Unit) => .tuple #[]) (LR := fun (_ : Unit) => [own 3 TR.int v0 (List.replicate x0.length x1), keep X]) ()))

set_option maxHeartbeats 4000000 in
theorem slices_Index_int_int_c (S : Hp) (w : World) (hS : S.sub w) (v0 : Value) (x0 : (List Int)) (k0 : ((TR.sl TR.int)).vrep S v0 x0) (x1 : Int) (res : Int) (hm : slices_Index_int_int_m x0 x1 = some res) : Calls Try.prog 85 #[v0, .int .i64 x1] w (PostC w (.int .i64 res)) := by
 refine calls_enter 19 Try.func85 Try.ntmps85 rfl S true [(0, v0), (1, .int .i64 x1)] [imm (TR.sl TR.int) v0 x0] rfl ⟨rfl, ⟨rfl, trivial⟩⟩ hS ⟨k0, trivial⟩ ?_
 unfold slices_Index_int_int_m at hm
 refine GL.seq ?_
 refine GL.region ?_
 refine RL.asg rfl rfl rfl ?_
 refine RL.finG ?_
 refine GL.seq ?_
 refine GL.seq ?_
 refine GL.region ?_
 refine RL.mv rfl rfl rfl ?_
 refine RL.lenS 0 Try.underlying24 rfl rfl rfl rfl SlOf.imm ?_
 refine RL.mv rfl rfl rfl ?_
 refine RL.finG ?_
 refine GL.open_ 0 rfl (fun S h => len_imm S h) (fun n8 => ?_)
 obtain ⟨y9, K10, h11, h12, h13, h14, h15⟩ := bindR_K hm
 refine GL.join (ι := Unit) (fun (p : Unit) => []) (fun (p : Unit) => []) (fun (p : Unit) => K10 (.nx ())) ?_ ?_
 ·refine GL.block ?_
  refine GL.loop (ι := Nat × (List Int)) (fun (p : Nat × (List Int)) => [(0, v0), (1, .int .i64 x1), (7, .int .i64 ((x0).length : Int)), (8, .int .i64 (p.1 : Int))]) (fun (p : Nat × (List Int)) => [imm (TR.sl TR.int) v0 x0]) (fun (p : Nat × (List Int)) => p.1 + p.2.length = (x0).length ∧ List.drop p.1 x0 = p.2 ∧ rangeL (slices_Index_int_int_b1 x1) p.2 p.1 () = some y9) (fun (p : Nat × (List Int)) => p.2.length) (0, x0) ⟨by simp, by simp, h11⟩ (fun a w st => St.cut [0] ⟨rfl, rfl, rfl, rfl, trivial⟩ (by decide) rfl st) ?_
  rintro ⟨i17, r18⟩ ⟨h23, h24, h22⟩
  try dsimp only at h23 h24 h22
  refine GL.weak (env' := [(0, v0), (1, .int .i64 x1), (7, .int .i64 ((x0).length : Int)), (8, .int .i64 (i17 : Int))]) (L' := [imm (TR.sl TR.int) v0 x0]) (fun _ _ st => st) ?_
  refine GL.seq ?_
  refine GL.region ?_
  refine RL.binI (v := .bool (decide ((i17 : Int) < ((x0).length : Int)))) rfl rfl rfl rfl rfl ?_
  refine RL.finG ?_
  refine GL.seq ?_
  refine GL.cond rfl (fun b25 => ?_) (fun b25 => ?_)
  ·have h26 : i17 < (x0).length := by have := of_decide_eq_true b25; omega
   obtain ⟨y27, r29, hr, e28, h30⟩ := drop_cons h24 rfl h26
   subst hr
   obtain ⟨z19, h20, h21⟩ := rangeL_some h22
   unfold slices_Index_int_int_b1 at h20
   try dsimp only at h20
   refine GL.skip ?_
   refine GL.seq ?_
   refine GL.block ?_
   refine GL.seq ?_
   refine GL.region ?_
   refine RL.mv rfl rfl rfl ?_
   refine RL.asg rfl rfl rfl ?_
   refine RL.finG ?_
   refine GL.seq ?_
   refine GL.region ?_
   refine RL.mv rfl rfl rfl ?_
   refine RL.mv rfl rfl rfl ?_
   refine RL.mv rfl rfl rfl ?_
   refine RL.idxS (sz := 1) 0 Try.underlying24 Try_ln3 rfl rfl rfl rfl rfl SlOf.imm (by omega) (by omega) ?_
   refine RL.ldSx (i := i17) (e' := y27) 0 Ex.ik Try_ln3 rfl rfl rfl rfl SlOf.imm e28 Part.self ?_
   refine RL.binI (v := .bool (x1 == y27)) rfl rfl rfl rfl rfl ?_
   refine RL.finG ?_
   refine GL.cond rfl (fun b31 => ?_) (fun b31 => ?_)
   ·replace h20 := ite_t b31 h20
    refine GL.seq ?_
    refine GL.region ?_
    refine RL.mv rfl rfl rfl ?_
    refine RL.asg rfl rfl rfl ?_
    refine RL.finG ?_
    cases h20
    replace h21 : some (Fl.rt _) = some y9 := h21
    cases h21
    have hh := h14 _ h12
    subst hh
    exact GL.ret (Gx.ret (v := .int .i64 (i17 : Int)) (res1 rfl rfl) (fun a w st => st.toPostC rfl))
   replace h20 := ite_f b31 h20
   refine GL.skip ?_
   refine GL.nilB ?_
   refine GL.region ?_
   refine RL.binI (v := .int .i64 ((i17 + 1 : Nat) : Int)) rfl rfl rfl rfl (binI_succ i17 (by omega)) ?_
   refine RL.mv rfl rfl rfl ?_
   refine RL.fin ?_
   cases h20
   exact fun a w st => lop_intro (i17 + 1, r29) ⟨by show i17 + 1 + r29.length = (x0).length; simp only [List.length_cons] at h23; omega, h30, h21⟩ (by simp) (St.cut [0] ⟨rfl, rfl, rfl, rfl, trivial⟩ (by decide) rfl st)
  have h26 : ¬ i17 < (x0).length := by have := of_decide_eq_false b25; omega
  obtain rfl : r18 = [] := by rw [← h24]; exact List.drop_of_length_le (by omega)
  replace h22 : some (Fl.nx _) = some y9 := h22
  cases h22
  exact GL.exit (fun a w st => mid_intro () h12 (St.cut [] trivial (by decide) rfl st))
 rintro ⟨⟩ h32
 have h33 := h13 _ h32
 try dsimp only at h33
 refine GL.weak (env' := []) (L' := []) (fun _ _ st => st) ?_
 refine GL.seq ?_
 refine GL.region ?_
 refine RL.asg rfl rfl rfl ?_
 refine RL.finG ?_
 have h33 := Option.some.inj h33
 subst h33
 exact GL.ret (Gx.ret (v := .int .i64 (-1 : Int)) (res1 rfl rfl) (fun a w st => st.toPostC rfl))

set_option maxHeartbeats 4000000 in
theorem slices_Contains_int_int_c (S : Hp) (w : World) (hS : S.sub w) (v0 : Value) (x0 : (List Int)) (k0 : ((TR.sl TR.int)).vrep S v0 x0) (x1 : Int) (res : Bool) (hm : slices_Contains_int_int_m x0 x1 = some res) : Calls Try.prog 25 #[v0, .int .i64 x1] w (PostC w (.bool res)) := by
 refine calls_enter 9 Try.func25 Try.ntmps25 rfl S true [(0, v0), (1, .int .i64 x1)] [imm (TR.sl TR.int) v0 x0] rfl ⟨rfl, ⟨rfl, trivial⟩⟩ hS ⟨k0, trivial⟩ ?_
 unfold slices_Contains_int_int_m at hm
 refine GL.seq ?_
 refine GL.region ?_
 refine RL.asg rfl rfl rfl ?_
 refine RL.finG ?_
 refine GL.seq ?_
 refine GL.region ?_
 refine RL.mv rfl rfl rfl ?_
 refine RL.mv rfl rfl rfl ?_
 obtain ⟨y5, e6, hm⟩ := bind_some hm
 refine RL.callC (v := .int .i64 y5) (vs := [v0, .int .i64 x1]) Try_fit85 rfl rfl rfl rfl (fun U w hU hW hL => slices_Index_int_int_c U w hU _ _ (hL 0 _ _ rfl Seen.imm) x1 _ e6) ?_
 refine RL.binI (v := .bool (decide (y5 ≥ (0 : Int)))) rfl rfl rfl rfl rfl ?_
 refine RL.asg rfl rfl rfl ?_
 refine RL.finG ?_
 have hm := Option.some.inj hm
 subst hm
 exact GL.ret (Gx.ret (v := .bool (decide (y5 ≥ (0 : Int)))) (res1 rfl rfl) (fun a w st => st.toPostC rfl))

set_option maxHeartbeats 4000000 in
theorem slices_EqualFunc_int_int_int_int_c (S : Hp) (w : World) (hS : S.sub w) (v0 : Value) (x0 : (List (List Int))) (k0 : ((TR.sl (TR.sl TR.int))).vrep S v0 x0) (v1 : Value) (x1 : (List (List Int))) (k1 : ((TR.sl (TR.sl TR.int))).vrep S v1 x1) (f2 : FuncId) (c2 : Array Value) (t2 : Fit Try.prog f2) (g2 : (List Int) → (List Int) → Option Bool) (k2 : ∀ (U : Hp) (w' : World), Hp.le S U → U.sub w' → ∀ (u0 : Value) (a0 : (List Int)) (_ : ((TR.sl TR.int)).vrep U u0 a0) (u1 : Value) (a1 : (List Int)) (_ : ((TR.sl TR.int)).vrep U u1 a1) (rr : Bool), g2 a0 a1 = some rr → Calls Try.prog f2 (#[u0, u1] ++ c2) w' (PostV w' (.bool rr))) (res : Bool) (hm : slices_EqualFunc_int_int_int_int_m x0 x1 g2 = some res) : Calls Try.prog 97 #[v0, v1, .func (.func f2) #[] c2] w (PostV w (.bool res)) := by
 refine calls_enter 32 Try.func97 Try.ntmps97 rfl S false [(0, v0), (1, v1), (2, .func (.func f2) #[] c2)] [imm (TR.sl (TR.sl TR.int)) v0 x0, imm (TR.sl (TR.sl TR.int)) v1 x1] rfl ⟨rfl, ⟨rfl, ⟨rfl, trivial⟩⟩⟩ hS ⟨k0, ⟨k1, trivial⟩⟩ ?_
 unfold slices_EqualFunc_int_int_int_int_m at hm
 refine GL.seq ?_
 refine GL.region ?_
 refine RL.asg rfl rfl rfl ?_
 refine RL.finG ?_
 refine GL.seq ?_
 refine GL.seq ?_
 refine GL.region ?_
 refine RL.mv rfl rfl rfl ?_
 refine RL.lenS 0 Try.underlying37 rfl rfl rfl rfl SlOf.imm ?_
 refine RL.mv rfl rfl rfl ?_
 refine RL.lenS 1 Try.underlying37 rfl rfl rfl rfl SlOf.imm ?_
 refine RL.binI (v := .bool (((x0).length : Int) != ((x1).length : Int))) rfl rfl rfl rfl rfl ?_
 refine RL.finG ?_
 refine GL.cond rfl (fun b4 => ?_) (fun b4 => ?_)
 ·replace hm := ite_t b4 hm
  refine GL.seq ?_
  refine GL.region ?_
  refine RL.asg rfl rfl rfl ?_
  refine RL.finG ?_
  have hm := Option.some.inj hm
  subst hm
  exact GL.ret (Gx.ret (v := .bool false) (res1 rfl rfl) (fun a w st => st.toPostV))
 replace hm := ite_f b4 hm
 refine GL.skip ?_
 refine GL.seq ?_
 refine GL.seq ?_
 refine GL.region ?_
 refine RL.mv rfl rfl rfl ?_
 refine RL.lenS 0 Try.underlying37 rfl rfl rfl rfl SlOf.imm ?_
 refine RL.mv rfl rfl rfl ?_
 refine RL.finG ?_
 refine GL.open_ 0 rfl (fun S h => len_imm S h) (fun n22 => ?_)
 obtain ⟨y23, K24, h25, h26, h27, h28, h29⟩ := bindR_K hm
 refine GL.join (ι := Unit) (fun (p : Unit) => []) (fun (p : Unit) => []) (fun (p : Unit) => K24 (.nx ())) ?_ ?_
 ·refine GL.block ?_
  refine GL.loop (ι := Nat × (List (List Int))) (fun (p : Nat × (List (List Int))) => [(1, v1), (2, .func (.func f2) #[] c2), (15, v0), (16, .int .i64 ((x0).length : Int)), (17, .int .i64 (p.1 : Int))]) (fun (p : Nat × (List (List Int))) => [imm (TR.sl (TR.sl TR.int)) v1 x1, imm (TR.sl (TR.sl TR.int)) v0 x0]) (fun (p : Nat × (List (List Int))) => p.1 + p.2.length = (x0).length ∧ List.drop p.1 x0 = p.2 ∧ rangeL (slices_EqualFunc_int_int_int_int_b1 x1 g2) p.2 p.1 () = some y23) (fun (p : Nat × (List (List Int))) => p.2.length) (0, x0) ⟨by simp, by simp, h25⟩ (fun a w st => St.cut [1, 0] ⟨rfl, rfl, rfl, rfl, rfl, trivial⟩ (by decide) rfl st) ?_
  rintro ⟨i30, r31⟩ ⟨h36, h37, h35⟩
  try dsimp only at h36 h37 h35
  refine GL.weak (env' := [(1, v1), (2, .func (.func f2) #[] c2), (15, v0), (16, .int .i64 ((x0).length : Int)), (17, .int .i64 (i30 : Int))]) (L' := [imm (TR.sl (TR.sl TR.int)) v1 x1, imm (TR.sl (TR.sl TR.int)) v0 x0]) (fun _ _ st => st) ?_
  refine GL.seq ?_
  refine GL.region ?_
  refine RL.binI (v := .bool (decide ((i30 : Int) < ((x0).length : Int)))) rfl rfl rfl rfl rfl ?_
  refine RL.finG ?_
  refine GL.seq ?_
  refine GL.cond rfl (fun b38 => ?_) (fun b38 => ?_)
  ·have h39 : i30 < (x0).length := by have := of_decide_eq_true b38; omega
   obtain ⟨y40, r42, hr, e41, h43⟩ := drop_cons h37 rfl h39
   subst hr
   obtain ⟨z32, h33, h34⟩ := rangeL_some h35
   unfold slices_EqualFunc_int_int_int_int_b1 at h33
   try dsimp only at h33
   refine GL.skip ?_
   refine GL.seq ?_
   refine GL.block ?_
   refine GL.seq ?_
   refine GL.region ?_
   refine RL.mv rfl rfl rfl ?_
   refine RL.idxS (sz := 1) 1 Try.underlying37 Try_ln24 rfl rfl rfl rfl rfl SlOf.imm (by omega) (by omega) ?_
   refine RL.ldS (i := i30) (r := (TR.sl TR.int)) (e' := y40) 1 Try_ln24 rfl rfl rfl rfl SlOf.imm e41 Part.self ?_
   intro v45
   refine RL.asg rfl rfl rfl ?_
   refine RL.asg rfl rfl rfl ?_
   refine RL.finG ?_
   refine GL.seq ?_
   refine GL.region ?_
   refine RL.mv rfl rfl rfl ?_
   refine RL.mv rfl rfl rfl ?_
   obtain ⟨y49, e50, h33⟩ := bind_some h33
   refine RL.idxS (sz := 1) 0 Try.underlying37 Try_ln24 rfl rfl rfl rfl rfl SlOf.imm (idx_some e50).1 (idx_some e50).2.1 ?_
   refine RL.ldS (i := i30) (r := (TR.sl TR.int)) (e' := y49) 0 Try_ln24 rfl rfl rfl rfl SlOf.imm (idx_some e50).2.2 Part.self ?_
   intro v51
   refine RL.reL (L' := [imm (TR.sl (TR.sl TR.int)) v1 x1, imm (TR.sl (TR.sl TR.int)) v0 x0, imm (TR.sl TR.int) v45 y40, imm (TR.sl TR.int) v51 y49]) rfl ?_
   refine RL.asg rfl rfl rfl ?_
   refine RL.finG ?_
   refine GL.seq ?_
   refine GL.region ?_
   refine RL.mv rfl rfl rfl ?_
   refine RL.mv rfl rfl rfl ?_
   refine RL.mv rfl rfl rfl ?_
   obtain ⟨y54, e55, h33⟩ := bind_some h33
   refine RL.callV (v := .bool y54) (vs := [v45, v51]) t2 rfl (Or.inl rfl) rfl rfl rfl rfl (fun U w hU hW hL => k2 U w hW hU _ _ (hL 2 _ _ rfl Seen.imm) _ _ (hL 3 _ _ rfl Seen.imm) _ e55) ?_
   refine RL.notB rfl rfl rfl ?_
   refine RL.finG ?_
   refine GL.cond rfl (fun b56 => ?_) (fun b56 => ?_)
   ·replace h33 := ite_t b56 h33
    refine GL.seq ?_
    refine GL.region ?_
    refine RL.asg rfl rfl rfl ?_
    refine RL.finG ?_
    cases h33
    replace h34 : some (Fl.rt _) = some y23 := h34
    cases h34
    have hh := h28 _ h26
    subst hh
    exact GL.ret (Gx.ret (v := .bool false) (res1 rfl rfl) (fun a w st => st.toPostV))
   replace h33 := ite_f b56 h33
   refine GL.skip ?_
   refine GL.nilB ?_
   refine GL.region ?_
   refine RL.binI (v := .int .i64 ((i30 + 1 : Nat) : Int)) rfl rfl rfl rfl (binI_succ i30 (by omega)) ?_
   refine RL.mv rfl rfl rfl ?_
   refine RL.fin ?_
   cases h33
   exact fun a w st => lop_intro (i30 + 1, r42) ⟨by show i30 + 1 + r42.length = (x0).length; simp only [List.length_cons] at h36; omega, h43, h34⟩ (by simp) (St.cut [0, 1] ⟨rfl, rfl, rfl, rfl, rfl, trivial⟩ (by decide) rfl st)
  have h39 : ¬ i30 < (x0).length := by have := of_decide_eq_false b38; omega
  obtain rfl : r31 = [] := by rw [← h37]; exact List.drop_of_length_le (by omega)
  replace h35 : some (Fl.nx _) = some y23 := h35
  cases h35
  exact GL.exit (fun a w st => mid_intro () h26 (St.cut [] trivial (by decide) rfl st))
 rintro ⟨⟩ h57
 have h58 := h27 _ h57
 try dsimp only at h58
 refine GL.weak (env' := []) (L' := []) (fun _ _ st => st) ?_
 refine GL.seq ?_
 refine GL.region ?_
 refine RL.asg rfl rfl rfl ?_
 refine RL.finG ?_
 have h58 := Option.some.inj h58
 subst h58
 exact GL.ret (Gx.ret (v := .bool true) (res1 rfl rfl) (fun a w st => st.toPostV))

set_option maxHeartbeats 4000000 in
theorem pk_sameRows_c (S : Hp) (w : World) (hS : S.sub w) (v0 : Value) (x0 : (List (List Int))) (k0 : ((TR.sl (TR.sl TR.int))).vrep S v0 x0) (v1 : Value) (x1 : (List (List Int))) (k1 : ((TR.sl (TR.sl TR.int))).vrep S v1 x1) (res : Bool) (hm : pk_sameRows_m x0 x1 = some res) : Calls Try.prog 39 #[v0, v1] w (PostV w (.bool res)) := by
 refine calls_enter 8 Try.func39 Try.ntmps39 rfl S false [(0, v0), (1, v1)] [imm (TR.sl (TR.sl TR.int)) v0 x0, imm (TR.sl (TR.sl TR.int)) v1 x1] rfl ⟨rfl, ⟨rfl, trivial⟩⟩ hS ⟨k0, ⟨k1, trivial⟩⟩ ?_
 unfold pk_sameRows_m at hm
 refine GL.seq ?_
 refine GL.region ?_
 refine RL.asg rfl rfl rfl ?_
 refine RL.finG ?_
 refine GL.seq ?_
 refine GL.region ?_
 refine RL.mv rfl rfl rfl ?_
 refine RL.mv rfl rfl rfl ?_
 obtain ⟨y5, e6, hm⟩ := bind_some hm
 refine RL.callV (v := .bool y5) (vs := [v0, v1, .func (.func 22) #[] #[]]) Try_fit97 rfl (Or.inl rfl) rfl rfl rfl rfl (fun U w hU hW hL => slices_EqualFunc_int_int_int_int_c U w hU _ _ (hL 0 _ _ rfl Seen.imm) _ _ (hL 1 _ _ rfl Seen.imm) 22 #[] Try_fit22 (fun a0 a1 => slices_Equal_int_int_m a0 a1) (fun U' w' hle hU' u0 a0 q0 u1 a1 q1 rr hr => (slices_Equal_int_int_c U' w' hU' u0 a0 q0 u1 a1 q1 rr hr).mono (fun _ _ z => z)) _ e6) ?_
 refine RL.asg rfl rfl rfl ?_
 refine RL.finG ?_
 have hm := Option.some.inj hm
 subst hm
 exact GL.ret (Gx.ret (v := .bool y5) (res1 rfl rfl) (fun a w st => st.toPostV))

set_option maxHeartbeats 4000000 in
theorem slices_Equal_api_Item_api_Item_c (S : Hp) (w : World) (hS : S.sub w) (v0 : Value) (x0 : (List (Int × Int))) (k0 : ((TR.sl (TR.pair TR.int TR.int))).vrep S v0 x0) (v1 : Value) (x1 : (List (Int × Int))) (k1 : ((TR.sl (TR.pair TR.int TR.int))).vrep S v1 x1) (res : Bool) (hm : slices_Equal_api_Item_api_Item_m x0 x1 = some res) : Calls Try.prog 73 #[v0, v1] w (PostV w (.bool res)) := by
 refine calls_enter 26 Try.func73 Try.ntmps73 rfl S false [(0, v0), (1, v1)] [imm (TR.sl (TR.pair TR.int TR.int)) v0 x0, imm (TR.sl (TR.pair TR.int TR.int)) v1 x1] rfl ⟨rfl, ⟨rfl, trivial⟩⟩ hS ⟨k0, ⟨k1, trivial⟩⟩ ?_
 unfold slices_Equal_api_Item_api_Item_m at hm
 refine GL.seq ?_
 refine GL.region ?_
 refine RL.asg rfl rfl rfl ?_
 refine RL.finG ?_
 refine GL.seq ?_
 refine GL.seq ?_
 refine GL.region ?_
 refine RL.mv rfl rfl rfl ?_
 refine RL.lenS 0 Try.underlying77 rfl rfl rfl rfl SlOf.imm ?_
 refine RL.mv rfl rfl rfl ?_
 refine RL.lenS 1 Try.underlying77 rfl rfl rfl rfl SlOf.imm ?_
 refine RL.binI (v := .bool (((x0).length : Int) != ((x1).length : Int))) rfl rfl rfl rfl rfl ?_
 refine RL.finG ?_
 refine GL.cond rfl (fun b3 => ?_) (fun b3 => ?_)
 ·replace hm := ite_t b3 hm
  refine GL.seq ?_
  refine GL.region ?_
  refine RL.asg rfl rfl rfl ?_
  refine RL.finG ?_
  have hm := Option.some.inj hm
  subst hm
  exact GL.ret (Gx.ret (v := .bool false) (res1 rfl rfl) (fun a w st => st.toPostV))
 replace hm := ite_f b3 hm
 refine GL.skip ?_
 refine GL.seq ?_
 refine GL.seq ?_
 refine GL.region ?_
 refine RL.mv rfl rfl rfl ?_
 refine RL.lenS 0 Try.underlying77 rfl rfl rfl rfl SlOf.imm ?_
 refine RL.mv rfl rfl rfl ?_
 refine RL.finG ?_
 refine GL.open_ 0 rfl (fun S h => len_imm S h) (fun n17 => ?_)
 obtain ⟨y18, K19, h20, h21, h22, h23, h24⟩ := bindR_K hm
 refine GL.join (ι := Unit) (fun (p : Unit) => []) (fun (p : Unit) => []) (fun (p : Unit) => K19 (.nx ())) ?_ ?_
 ·refine GL.block ?_
  refine GL.loop (ι := Nat × (List (Int × Int))) (fun (p : Nat × (List (Int × Int))) => [(0, v0), (1, v1), (12, .int .i64 ((x0).length : Int)), (13, .int .i64 (p.1 : Int))]) (fun (p : Nat × (List (Int × Int))) => [imm (TR.sl (TR.pair TR.int TR.int)) v0 x0, imm (TR.sl (TR.pair TR.int TR.int)) v1 x1]) (fun (p : Nat × (List (Int × Int))) => p.1 + p.2.length = (x0).length ∧ List.drop p.1 x0 = p.2 ∧ rangeL (slices_Equal_api_Item_api_Item_b1 x1) p.2 p.1 () = some y18) (fun (p : Nat × (List (Int × Int))) => p.2.length) (0, x0) ⟨by simp, by simp, h20⟩ (fun a w st => St.cut [0, 1] ⟨rfl, rfl, rfl, rfl, trivial⟩ (by decide) rfl st) ?_
  rintro ⟨i25, r26⟩ ⟨h31, h32, h30⟩
  try dsimp only at h31 h32 h30
  refine GL.weak (env' := [(0, v0), (1, v1), (12, .int .i64 ((x0).length : Int)), (13, .int .i64 (i25 : Int))]) (L' := [imm (TR.sl (TR.pair TR.int TR.int)) v0 x0, imm (TR.sl (TR.pair TR.int TR.int)) v1 x1]) (fun _ _ st => st) ?_
  refine GL.seq ?_
  refine GL.region ?_
  refine RL.binI (v := .bool (decide ((i25 : Int) < ((x0).length : Int)))) rfl rfl rfl rfl rfl ?_
  refine RL.finG ?_
  refine GL.seq ?_
  refine GL.cond rfl (fun b33 => ?_) (fun b33 => ?_)
  ·have h34 : i25 < (x0).length := by have := of_decide_eq_true b33; omega
   obtain ⟨y35, r37, hr, e36, h38⟩ := drop_cons h32 rfl h34
   subst hr
   obtain ⟨z27, h28, h29⟩ := rangeL_some h30
   unfold slices_Equal_api_Item_api_Item_b1 at h28
   try dsimp only at h28
   refine GL.skip ?_
   refine GL.seq ?_
   refine GL.block ?_
   refine GL.seq ?_
   refine GL.region ?_
   refine RL.mv rfl rfl rfl ?_
   refine RL.asg rfl rfl rfl ?_
   refine RL.finG ?_
   refine GL.seq ?_
   refine GL.regionQ rfl rfl (by kernel_rfl) ?_
   refine RL.mv rfl rfl rfl ?_
   refine RL.mv rfl rfl rfl ?_
   refine RL.idxS (sz := 2) 0 Try.underlying77 Try_ln80 rfl rfl rfl rfl rfl SlOf.imm (by omega) (by omega) ?_
   refine RL.ldS (i := i25) (r := (TR.pair TR.int TR.int)) (e' := y35) 0 Try_ln80 rfl rfl rfl rfl SlOf.imm e36 Part.self ?_
   intro v43
   refine RL.mv rfl rfl rfl ?_
   refine RL.mv rfl rfl rfl ?_
   obtain ⟨y44, e45, h28⟩ := bind_some h28
   refine RL.idxS (sz := 2) 1 Try.underlying77 Try_ln80 rfl rfl rfl rfl rfl SlOf.imm (idx_some e45).1 (idx_some e45).2.1 ?_
   refine RL.ldS (i := i25) (r := (TR.pair TR.int TR.int)) (e' := y44) 1 Try_ln80 rfl rfl rfl rfl SlOf.imm (idx_some e45).2.2 Part.self ?_
   intro v46
   refine RL.reL (L' := [imm (TR.sl (TR.pair TR.int TR.int)) v0 x0, imm (TR.sl (TR.pair TR.int TR.int)) v1 x1, imm (TR.pair TR.int TR.int) v43 y35, imm (TR.pair TR.int TR.int) v46 y44]) rfl ?_
   refine RL.neG (t := (TR.pair TR.int TR.int)) (e := y35) (e' := y44) rfl Try_eq80 (by decide) Try.eqGuardType80 rfl rfl rfl rfl (VR.item 2 rfl) (VR.item 3 rfl) ?_
   refine RL.finQG ?_
   refine GL.cond rfl (fun b47 => ?_) (fun b47 => ?_)
   ·replace h28 := ite_t b47 h28
    refine GL.seq ?_
    refine GL.region ?_
    refine RL.asg rfl rfl rfl ?_
    refine RL.finG ?_
    cases h28
    replace h29 : some (Fl.rt _) = some y18 := h29
    cases h29
    have hh := h23 _ h21
    subst hh
    exact GL.ret (Gx.ret (v := .bool false) (res1 rfl rfl) (fun a w st => st.toPostV))
   replace h28 := ite_f b47 h28
   refine GL.skip ?_
   refine GL.nilB ?_
   refine GL.region ?_
   refine RL.binI (v := .int .i64 ((i25 + 1 : Nat) : Int)) rfl rfl rfl rfl (binI_succ i25 (by omega)) ?_
   refine RL.mv rfl rfl rfl ?_
   refine RL.fin ?_
   cases h28
   exact fun a w st => lop_intro (i25 + 1, r37) ⟨by show i25 + 1 + r37.length = (x0).length; simp only [List.length_cons] at h31; omega, h38, h29⟩ (by simp) (St.cut [0, 1] ⟨rfl, rfl, rfl, rfl, trivial⟩ (by decide) rfl st)
  have h34 : ¬ i25 < (x0).length := by have := of_decide_eq_false b33; omega
  obtain rfl : r26 = [] := by rw [← h32]; exact List.drop_of_length_le (by omega)
  replace h30 : some (Fl.nx _) = some y18 := h30
  cases h30
  exact GL.exit (fun a w st => mid_intro () h21 (St.cut [] trivial (by decide) rfl st))
 rintro ⟨⟩ h48
 have h49 := h22 _ h48
 try dsimp only at h49
 refine GL.weak (env' := []) (L' := []) (fun _ _ st => st) ?_
 refine GL.seq ?_
 refine GL.region ?_
 refine RL.asg rfl rfl rfl ?_
 refine RL.finG ?_
 have h49 := Option.some.inj h49
 subst h49
 exact GL.ret (Gx.ret (v := .bool true) (res1 rfl rfl) (fun a w st => st.toPostV))
end Go.Wk
