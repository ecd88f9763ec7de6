/- Each function comes to what its model says; printed by a program of this repository. -/
import Derived.Test.YtmkeolaifmjgdaaGreatDoorProg
import Derived.Test.YtmkeolaifmjgdaaGreatDoorWDeskFrontModels
import Derived.Test.YtmkeolaifmjgdaaGreatDoorWDeskFrontWalks3
namespace Go.Wk
open Go.Fw Go.Mo Go.Proofs Go.RowKit
set_option linter.all false
set_option maxRecDepth 100000
set_option maxHeartbeats 4000000

theorem auction_Check_c (S : Hp) (w : World) (hS : S.sub w) (v0 : Value) (x0 : (List Int)) (k0 : ((TR.sl TR.int)).vrep S v0 x0) (x1 : Int) (res : Int) (hm : auction_Check_m x0 x1 = some res) : Calls Tryz.prog 51 #[v0, .int .i64 x1] w (PostC w (.int .i64 res)) := by
 refine calls_enter 29 Tryz.func51 Tryz.ntmps51 rfl S true [(0, v0), (1, .int .i64 x1)] [imm (TR.sl TR.int) v0 x0] rfl ⟨rfl, ⟨rfl, trivial⟩⟩ hS ⟨k0, trivial⟩ ?_
 unfold auction_Check_m at hm
 refine GL.seq ?_
 refine GL.region ?_
 refine RL.asg rfl rfl rfl ?_
 refine RL.finG ?_
 refine GL.seq ?_
 refine GL.seq ?_
 refine GL.region ?_
 refine RL.mv rfl rfl rfl ?_
 refine RL.lenS 0 Tryz.underlying61 rfl rfl rfl rfl SlOf.imm ?_
 refine RL.binI (v := .bool (decide (((x0).length : Int) > (10 : Int)))) rfl rfl rfl rfl rfl ?_
 refine RL.finG ?_
 refine GL.cond rfl (fun b3 => ?_) (fun b3 => ?_)
 ·replace hm := ite_t b3 hm
  refine GL.seq ?_
  refine GL.region ?_
  refine RL.asg rfl rfl rfl ?_
  refine RL.finG ?_
  have hm := Option.some.inj hm
  subst hm
  exact GL.ret (Gx.ret (v := .int .i64 (2 : Int)) (res1 rfl rfl) (fun a w st => st.toPostC rfl))
 replace hm := ite_f b3 hm
 refine GL.skip ?_
 refine GL.seq ?_
 refine GL.seq ?_
 refine GL.region ?_
 refine RL.mv rfl rfl rfl ?_
 refine RL.lenS 0 Tryz.underlying61 rfl rfl rfl rfl SlOf.imm ?_
 refine RL.mv rfl rfl rfl ?_
 refine RL.finG ?_
 refine GL.open_ 0 rfl (fun S h => len_imm S h) (fun n22 => ?_)
 obtain ⟨y23, K24, h25, h26, h27, h28, h29⟩ := bindR_K hm
 refine GL.join (ι := Unit) (fun (p : Unit) => [(1, .int .i64 x1)]) (fun (p : Unit) => []) (fun (p : Unit) => K24 (.nx ())) ?_ ?_
 ·refine GL.block ?_
  refine GL.loop (ι := Nat × (List Int)) (fun (p : Nat × (List Int)) => [(1, .int .i64 x1), (10, v0), (11, .int .i64 ((x0).length : Int)), (12, .int .i64 (p.1 : Int))]) (fun (p : Nat × (List Int)) => [imm (TR.sl TR.int) v0 x0]) (fun (p : Nat × (List Int)) => p.1 + p.2.length = (x0).length ∧ List.drop p.1 x0 = p.2 ∧ rangeL auction_Check_b1 p.2 p.1 () = some y23) (fun (p : Nat × (List Int)) => p.2.length) (0, x0) ⟨by simp, by simp, h25⟩ (fun a w st => St.cut [0] ⟨rfl, rfl, rfl, rfl, trivial⟩ (by decide) rfl st) ?_
  rintro ⟨i30, r31⟩ ⟨h36, h37, h35⟩
  try dsimp only at h36 h37 h35
  refine GL.weak (env' := [(1, .int .i64 x1), (10, v0), (11, .int .i64 ((x0).length : Int)), (12, .int .i64 (i30 : Int))]) (L' := [imm (TR.sl TR.int) v0 x0]) (fun _ _ st => st) ?_
  refine GL.seq ?_
  refine GL.region ?_
  refine RL.binI (v := .bool (decide ((i30 : Int) < ((x0).length : Int)))) rfl rfl rfl rfl rfl ?_
  refine RL.finG ?_
  refine GL.seq ?_
  refine GL.cond rfl (fun b38 => ?_) (fun b38 => ?_)
  ·have h39 : i30 < (x0).length := by have := of_decide_eq_true b38; omega
   obtain ⟨y40, r42, hr, e41, h43⟩ := drop_cons h37 rfl h39
   subst hr
   obtain ⟨z32, h33, h34⟩ := rangeL_some h35
   unfold auction_Check_b1 at h33
   try dsimp only at h33
   refine GL.skip ?_
   refine GL.seq ?_
   refine GL.block ?_
   refine GL.seq ?_
   refine GL.region ?_
   refine RL.idxS (sz := 1) 0 Tryz.underlying61 Tryz_ln3 rfl rfl rfl rfl rfl SlOf.imm (by omega) (by omega) ?_
   refine RL.ldSx (i := i30) (e' := y40) 0 Ex.ik Tryz_ln3 rfl rfl rfl rfl SlOf.imm e41 Part.self ?_
   refine RL.asg rfl rfl rfl ?_
   refine RL.finG ?_
   refine GL.seq ?_
   obtain ⟨y47, K48, h49, h50, h51, h52, h53⟩ := bindF_K h33
   refine GL.join (ι := Bool) (fun (p : Bool) => [(1, .int .i64 x1), (10, v0), (11, .int .i64 ((x0).length : Int)), (12, .int .i64 (i30 : Int)), (21, .bool p)]) (fun (p : Bool) => [imm (TR.sl TR.int) v0 x0]) (fun (p : Bool) => K48 (.nx p)) ?_ ?_
   ·skip
    refine GL.region ?_
    refine RL.mv rfl rfl rfl ?_
    refine RL.binI (v := .bool (decide (y40 < (0 : Int)))) rfl rfl rfl rfl rfl ?_
    refine RL.mv rfl rfl rfl ?_
    refine RL.split (t := 18) rfl (fun b54 => ?_) (fun b54 => ?_)
    ·replace h49 := ite_t b54 h49
     refine RL.skip rfl rfl ?_
     refine RL.skip rfl rfl ?_
     refine RL.pickT rfl rfl rfl rfl ?_
     refine RL.fin ?_
     cases h49
     exact fun a w st => mid_intro true h50 (St.cut [0] ⟨rfl, rfl, rfl, rfl, rfl, trivial⟩ (by decide) rfl st)
    replace h49 := ite_f b54 h49
    refine RL.mv rfl rfl rfl ?_
    refine RL.binI (v := .bool (decide (y40 > (1000000 : Int)))) rfl rfl rfl rfl rfl ?_
    refine RL.pickF rfl rfl rfl rfl ?_
    refine RL.fin ?_
    cases h49
    exact fun a w st => mid_intro (decide (y40 > (1000000 : Int))) h50 (St.cut [0] ⟨rfl, rfl, rfl, rfl, rfl, trivial⟩ (by decide) rfl st)
   rintro x46 h55
   have h56 := h51 _ h55
   try dsimp only at h56
   refine GL.weak (env' := [(1, .int .i64 x1), (10, v0), (11, .int .i64 ((x0).length : Int)), (12, .int .i64 (i30 : Int)), (21, .bool x46)]) (L' := [imm (TR.sl TR.int) v0 x0]) (fun _ _ st => st) ?_
   refine GL.cond rfl (fun b57 => ?_) (fun b57 => ?_)
   ·replace h56 := ite_t b57 h56
    refine GL.seq ?_
    refine GL.region ?_
    refine RL.asg rfl rfl rfl ?_
    refine RL.finG ?_
    cases h56
    replace h34 : some (Fl.rt _) = some y23 := h34
    cases h34
    have hh := h28 _ h26
    subst hh
    exact GL.ret (Gx.ret (v := .int .i64 (1 : Int)) (res1 rfl rfl) (fun a w st => st.toPostC rfl))
   replace h56 := ite_f b57 h56
   refine GL.skip ?_
   refine GL.nilB ?_
   refine GL.region ?_
   refine RL.binI (v := .int .i64 ((i30 + 1 : Nat) : Int)) rfl rfl rfl rfl (binI_succ i30 (by omega)) ?_
   refine RL.mv rfl rfl rfl ?_
   refine RL.fin ?_
   cases h56
   exact fun a w st => lop_intro (i30 + 1, r42) ⟨by show i30 + 1 + r42.length = (x0).length; simp only [List.length_cons] at h36; omega, h43, h34⟩ (by simp) (St.cut [0] ⟨rfl, rfl, rfl, rfl, trivial⟩ (by decide) rfl st)
  have h39 : ¬ i30 < (x0).length := by have := of_decide_eq_false b38; omega
  obtain rfl : r31 = [] := by rw [← h37]; exact List.drop_of_length_le (by omega)
  replace h35 : some (Fl.nx _) = some y23 := h35
  cases h35
  exact GL.exit (fun a w st => mid_intro () h26 (St.cut [] ⟨rfl, trivial⟩ (by decide) rfl st))
 rintro ⟨⟩ h58
 have h59 := h27 _ h58
 try dsimp only at h59
 refine GL.weak (env' := [(1, .int .i64 x1)]) (L' := []) (fun _ _ st => st) ?_
 refine GL.seq ?_
 refine GL.seq ?_
 obtain ⟨y63, K64, h65, h66, h67, h68, h69⟩ := bindR_K h59
 refine GL.join (ι := Bool) (fun (p : Bool) => [(28, .bool p)]) (fun (p : Bool) => []) (fun (p : Bool) => K64 (.nx p)) ?_ ?_
 ·skip
  refine GL.region ?_
  refine RL.mv rfl rfl rfl ?_
  refine RL.binI (v := .bool (decide (x1 < (0 : Int)))) rfl rfl rfl rfl rfl ?_
  refine RL.mv rfl rfl rfl ?_
  refine RL.split (t := 25) rfl (fun b70 => ?_) (fun b70 => ?_)
  ·replace h65 := ite_t b70 h65
   refine RL.skip rfl rfl ?_
   refine RL.skip rfl rfl ?_
   refine RL.pickT rfl rfl rfl rfl ?_
   refine RL.fin ?_
   cases h65
   exact fun a w st => mid_intro true h66 (St.cut [] ⟨rfl, trivial⟩ (by decide) rfl st)
  replace h65 := ite_f b70 h65
  refine RL.mv rfl rfl rfl ?_
  refine RL.binI (v := .bool (decide (x1 > (1000000 : Int)))) rfl rfl rfl rfl rfl ?_
  refine RL.pickF rfl rfl rfl rfl ?_
  refine RL.fin ?_
  cases h65
  exact fun a w st => mid_intro (decide (x1 > (1000000 : Int))) h66 (St.cut [] ⟨rfl, trivial⟩ (by decide) rfl st)
 rintro x62 h71
 have h72 := h67 _ h71
 try dsimp only at h72
 refine GL.weak (env' := [(28, .bool x62)]) (L' := []) (fun _ _ st => st) ?_
 refine GL.cond rfl (fun b73 => ?_) (fun b73 => ?_)
 ·replace h72 := ite_t b73 h72
  refine GL.seq ?_
  refine GL.region ?_
  refine RL.asg rfl rfl rfl ?_
  refine RL.finG ?_
  have h72 := Option.some.inj h72
  subst h72
  exact GL.ret (Gx.ret (v := .int .i64 (1 : Int)) (res1 rfl rfl) (fun a w st => st.toPostC rfl))
 replace h72 := ite_f b73 h72
 refine GL.skip ?_
 refine GL.seq ?_
 refine GL.region ?_
 refine RL.asg rfl rfl rfl ?_
 refine RL.finG ?_
 have h72 := Option.some.inj h72
 subst h72
 exact GL.ret (Gx.ret (v := .int .i64 (0 : Int)) (res1 rfl rfl) (fun a w st => st.toPostC rfl))

theorem auction_two_c (S : Hp) (w : World) (hS : S.sub w) (v0 : Value) (x0 : (List Int)) (k0 : ((TR.sl TR.int)).vrep S v0 x0) (x1 : Int) (res : Int × Int) (hm : auction_two_m x0 x1 = some res) : Calls Tryz.prog 52 #[v0, .int .i64 x1] w (PostC w (.tuple #[.int .i64 res.1, .int .i64 res.2])) := by
 refine calls_enter 53 Tryz.func52 Tryz.ntmps52 rfl S true [(0, v0), (1, .int .i64 x1)] [imm (TR.sl TR.int) v0 x0] rfl ⟨rfl, ⟨rfl, trivial⟩⟩ hS ⟨k0, trivial⟩ ?_
 unfold auction_two_m at hm
 refine GL.seq ?_
 refine GL.region ?_
 refine RL.asg rfl rfl rfl ?_
 refine RL.asg rfl rfl rfl ?_
 refine RL.finG ?_
 refine GL.seq ?_
 refine GL.region ?_
 refine RL.asg rfl rfl rfl ?_
 refine RL.finG ?_
 refine GL.seq ?_
 refine GL.seq ?_
 refine GL.region ?_
 refine RL.mv rfl rfl rfl ?_
 refine RL.lenS 0 Tryz.underlying61 rfl rfl rfl rfl SlOf.imm ?_
 refine RL.mv rfl rfl rfl ?_
 refine RL.finG ?_
 refine GL.open_ 0 rfl (fun S h => len_imm S h) (fun n31 => ?_)
 obtain ⟨y32, K33, h34, h35, h36, h37, h38⟩ := bindR_K hm
 refine GL.join (ι := Int) (fun (p : Int) => [(0, v0), (1, .int .i64 x1), (6, .int .i64 p)]) (fun (p : Int) => [imm (TR.sl TR.int) v0 x0]) (fun (p : Int) => K33 (.nx p)) ?_ ?_
 ·refine GL.block ?_
  refine GL.loop (ι := Nat × (List Int) × Int) (fun (p : Nat × (List Int) × Int) => [(0, v0), (1, .int .i64 x1), (6, .int .i64 p.2.2), (12, v0), (13, .int .i64 ((x0).length : Int)), (14, .int .i64 (p.1 : Int))]) (fun (p : Nat × (List Int) × Int) => [imm (TR.sl TR.int) v0 x0]) (fun (p : Nat × (List Int) × Int) => p.1 + p.2.1.length = (x0).length ∧ List.drop p.1 x0 = p.2.1 ∧ rangeL (auction_two_b1 x1 x0) p.2.1 p.1 p.2.2 = some y32) (fun (p : Nat × (List Int) × Int) => p.2.1.length) (0, x0, (-1 : Int)) ⟨by simp, by simp, h34⟩ (fun a w st => St.cut [0] ⟨rfl, rfl, rfl, rfl, rfl, rfl, trivial⟩ (by decide) rfl st) ?_
  rintro ⟨i39, r40, x3⟩ ⟨h45, h46, h44⟩
  try dsimp only at h45 h46 h44
  refine GL.weak (env' := [(0, v0), (1, .int .i64 x1), (6, .int .i64 x3), (12, v0), (13, .int .i64 ((x0).length : Int)), (14, .int .i64 (i39 : Int))]) (L' := [imm (TR.sl TR.int) v0 x0]) (fun _ _ st => st) ?_
  refine GL.seq ?_
  refine GL.region ?_
  refine RL.binI (v := .bool (decide ((i39 : Int) < ((x0).length : Int)))) rfl rfl rfl rfl rfl ?_
  refine RL.finG ?_
  refine GL.seq ?_
  refine GL.cond rfl (fun b47 => ?_) (fun b47 => ?_)
  ·have h48 : i39 < (x0).length := by have := of_decide_eq_true b47; omega
   obtain ⟨y49, r51, hr, e50, h52⟩ := drop_cons h46 rfl h48
   subst hr
   obtain ⟨z41, h42, h43⟩ := rangeL_some h44
   unfold auction_two_b1 at h42
   try dsimp only at h42
   refine GL.skip ?_
   refine GL.seq ?_
   refine GL.block ?_
   refine GL.seq ?_
   refine GL.region ?_
   refine RL.mv rfl rfl rfl ?_
   refine RL.idxS (sz := 1) 0 Tryz.underlying61 Tryz_ln3 rfl rfl rfl rfl rfl SlOf.imm (by omega) (by omega) ?_
   refine RL.ldSx (i := i39) (e' := y49) 0 Ex.ik Tryz_ln3 rfl rfl rfl rfl SlOf.imm e50 Part.self ?_
   refine RL.asg rfl rfl rfl ?_
   refine RL.asg rfl rfl rfl ?_
   refine RL.finG ?_
   refine GL.seq ?_
   obtain ⟨y62, K63, h64, h65, h66, h67, h68⟩ := bindF_K h42
   refine GL.join (ι := Bool) (fun (p : Bool) => [(0, v0), (1, .int .i64 x1), (6, .int .i64 x3), (7, .int .i64 (i39 : Int)), (12, v0), (13, .int .i64 ((x0).length : Int)), (14, .int .i64 (i39 : Int)), (33, .bool p)]) (fun (p : Bool) => [imm (TR.sl TR.int) v0 x0]) (fun (p : Bool) => K63 (.nx p)) ?_ ?_
   ·skip
    refine GL.region ?_
    refine RL.mv rfl rfl rfl ?_
    refine RL.mv rfl rfl rfl ?_
    refine RL.binI (v := .bool (decide (y49 ≥ x1))) rfl rfl rfl rfl rfl ?_
    refine RL.mv rfl rfl rfl ?_
    refine RL.split (t := 22) rfl (fun b69 => ?_) (fun b69 => ?_)
    ·replace h64 := ite_t b69 h64
     refine RL.mv rfl rfl rfl ?_
     refine RL.binI (v := .bool (decide (x3 < (0 : Int)))) rfl rfl rfl rfl rfl ?_
     refine RL.mv rfl rfl rfl ?_
     refine RL.split (t := 25) rfl (fun b70 => ?_) (fun b70 => ?_)
     ·replace h64 := ite_t b70 h64
      refine RL.skip rfl rfl ?_
      refine RL.skip rfl rfl ?_
      refine RL.skip rfl rfl ?_
      refine RL.skip rfl rfl ?_
      refine RL.skip rfl rfl ?_
      refine RL.skip rfl rfl ?_
      refine RL.pickT rfl rfl rfl rfl ?_
      refine RL.pickT rfl rfl rfl rfl ?_
      refine RL.fin ?_
      cases h64
      exact fun a w st => mid_intro true h65 (St.cut [0] ⟨rfl, rfl, rfl, rfl, rfl, rfl, rfl, rfl, trivial⟩ (by decide) rfl st)
     replace h64 := ite_f b70 h64
     refine RL.mv rfl rfl rfl ?_
     refine RL.mv rfl rfl rfl ?_
     refine RL.mv rfl rfl rfl ?_
     obtain ⟨y71, e72, h64⟩ := bind_some h64
     refine RL.idxS (sz := 1) 0 Tryz.underlying61 Tryz_ln3 rfl rfl rfl rfl rfl SlOf.imm (idx_some e72).1 (idx_some e72).2.1 ?_
     refine RL.ldSx (i := (x3).toNat) (e' := y71) 0 Ex.ik Tryz_ln3 rfl rfl rfl rfl SlOf.imm (idx_some e72).2.2 Part.self ?_
     refine RL.binI (v := .bool (decide (y49 > y71))) rfl rfl rfl rfl rfl ?_
     refine RL.pickF rfl rfl rfl rfl ?_
     refine RL.pickT rfl rfl rfl rfl ?_
     refine RL.fin ?_
     cases h64
     exact fun a w st => mid_intro (decide (y49 > y71)) h65 (St.cut [0] ⟨rfl, rfl, rfl, rfl, rfl, rfl, rfl, rfl, trivial⟩ (by decide) rfl st)
    replace h64 := ite_f b69 h64
    refine RL.skip rfl rfl ?_
    refine RL.skip rfl rfl ?_
    refine RL.skip rfl rfl ?_
    refine RL.skip rfl rfl ?_
    refine RL.skip rfl rfl ?_
    refine RL.skip rfl rfl ?_
    refine RL.skip rfl rfl ?_
    refine RL.skip rfl rfl ?_
    refine RL.skip rfl rfl ?_
    refine RL.skip rfl rfl ?_
    refine RL.pickF rfl rfl rfl rfl ?_
    refine RL.fin ?_
    cases h64
    exact fun a w st => mid_intro false h65 (St.cut [0] ⟨rfl, rfl, rfl, rfl, rfl, rfl, rfl, rfl, trivial⟩ (by decide) rfl st)
   rintro x61 h73
   have h74 := h66 _ h73
   try dsimp only at h74
   refine GL.weak (env' := [(0, v0), (1, .int .i64 x1), (6, .int .i64 x3), (7, .int .i64 (i39 : Int)), (12, v0), (13, .int .i64 ((x0).length : Int)), (14, .int .i64 (i39 : Int)), (33, .bool x61)]) (L' := [imm (TR.sl TR.int) v0 x0]) (fun _ _ st => st) ?_
   refine GL.cond rfl (fun b75 => ?_) (fun b75 => ?_)
   ·replace h74 := ite_t b75 h74
    refine GL.region ?_
    refine RL.mv rfl rfl rfl ?_
    refine RL.asg rfl rfl rfl ?_
    refine RL.finG ?_
    refine GL.nilB ?_
    refine GL.region ?_
    refine RL.binI (v := .int .i64 ((i39 + 1 : Nat) : Int)) rfl rfl rfl rfl (binI_succ i39 (by omega)) ?_
    refine RL.mv rfl rfl rfl ?_
    refine RL.fin ?_
    cases h74
    exact fun a w st => lop_intro (i39 + 1, r51, (i39 : Int)) ⟨by show i39 + 1 + r51.length = (x0).length; simp only [List.length_cons] at h45; omega, h52, h43⟩ (by simp) (St.cut [0] ⟨rfl, rfl, rfl, rfl, rfl, rfl, trivial⟩ (by decide) rfl st)
   replace h74 := ite_f b75 h74
   refine GL.skip ?_
   refine GL.nilB ?_
   refine GL.region ?_
   refine RL.binI (v := .int .i64 ((i39 + 1 : Nat) : Int)) rfl rfl rfl rfl (binI_succ i39 (by omega)) ?_
   refine RL.mv rfl rfl rfl ?_
   refine RL.fin ?_
   cases h74
   exact fun a w st => lop_intro (i39 + 1, r51, x3) ⟨by show i39 + 1 + r51.length = (x0).length; simp only [List.length_cons] at h45; omega, h52, h43⟩ (by simp) (St.cut [0] ⟨rfl, rfl, rfl, rfl, rfl, rfl, trivial⟩ (by decide) rfl st)
  have h48 : ¬ i39 < (x0).length := by have := of_decide_eq_false b47; omega
  obtain rfl : r40 = [] := by rw [← h46]; exact List.drop_of_length_le (by omega)
  replace h44 : some (Fl.nx _) = some y32 := h44
  cases h44
  exact GL.exit (fun a w st => mid_intro x3 h35 (St.cut [0] ⟨rfl, rfl, rfl, trivial⟩ (by decide) rfl st))
 rintro x3 h76
 have h77 := h36 _ h76
 try dsimp only at h77
 refine GL.weak (env' := [(0, v0), (1, .int .i64 x1), (6, .int .i64 x3)]) (L' := [imm (TR.sl TR.int) v0 x0]) (fun _ _ st => st) ?_
 refine GL.seq ?_
 refine GL.region ?_
 refine RL.mv rfl rfl rfl ?_
 refine RL.asg rfl rfl rfl ?_
 refine RL.finG ?_
 refine GL.seq ?_
 refine GL.seq ?_
 refine GL.region ?_
 refine RL.mv rfl rfl rfl ?_
 refine RL.lenS 0 Tryz.underlying61 rfl rfl rfl rfl SlOf.imm ?_
 refine RL.mv rfl rfl rfl ?_
 refine RL.finG ?_
 refine GL.open_ 0 rfl (fun S h => len_imm S h) (fun n84 => ?_)
 obtain ⟨y85, K86, h87, h88, h89, h90, h91⟩ := bindR_K h77
 refine GL.join (ι := Int) (fun (p : Int) => [(6, .int .i64 x3), (9, .int .i64 p)]) (fun (p : Int) => []) (fun (p : Int) => K86 (.nx p)) ?_ ?_
 ·refine GL.block ?_
  refine GL.loop (ι := Nat × (List Int) × Int) (fun (p : Nat × (List Int) × Int) => [(6, .int .i64 x3), (9, .int .i64 p.2.2), (37, v0), (38, .int .i64 ((x0).length : Int)), (39, .int .i64 (p.1 : Int))]) (fun (p : Nat × (List Int) × Int) => [imm (TR.sl TR.int) v0 x0]) (fun (p : Nat × (List Int) × Int) => p.1 + p.2.1.length = (x0).length ∧ List.drop p.1 x0 = p.2.1 ∧ rangeL (auction_two_b2 x3) p.2.1 p.1 p.2.2 = some y85) (fun (p : Nat × (List Int) × Int) => p.2.1.length) (0, x0, x1) ⟨by simp, by simp, h87⟩ (fun a w st => St.cut [0] ⟨rfl, rfl, rfl, rfl, rfl, trivial⟩ (by decide) rfl st) ?_
  rintro ⟨i92, r93, x78⟩ ⟨h98, h99, h97⟩
  try dsimp only at h98 h99 h97
  refine GL.weak (env' := [(6, .int .i64 x3), (9, .int .i64 x78), (37, v0), (38, .int .i64 ((x0).length : Int)), (39, .int .i64 (i92 : Int))]) (L' := [imm (TR.sl TR.int) v0 x0]) (fun _ _ st => st) ?_
  refine GL.seq ?_
  refine GL.region ?_
  refine RL.binI (v := .bool (decide ((i92 : Int) < ((x0).length : Int)))) rfl rfl rfl rfl rfl ?_
  refine RL.finG ?_
  refine GL.seq ?_
  refine GL.cond rfl (fun b100 => ?_) (fun b100 => ?_)
  ·have h101 : i92 < (x0).length := by have := of_decide_eq_true b100; omega
   obtain ⟨y102, r104, hr, e103, h105⟩ := drop_cons h99 rfl h101
   subst hr
   obtain ⟨z94, h95, h96⟩ := rangeL_some h97
   unfold auction_two_b2 at h95
   try dsimp only at h95
   refine GL.skip ?_
   refine GL.seq ?_
   refine GL.block ?_
   refine GL.seq ?_
   refine GL.region ?_
   refine RL.mv rfl rfl rfl ?_
   refine RL.idxS (sz := 1) 0 Tryz.underlying61 Tryz_ln3 rfl rfl rfl rfl rfl SlOf.imm (by omega) (by omega) ?_
   refine RL.ldSx (i := i92) (e' := y102) 0 Ex.ik Tryz_ln3 rfl rfl rfl rfl SlOf.imm e103 Part.self ?_
   refine RL.asg rfl rfl rfl ?_
   refine RL.asg rfl rfl rfl ?_
   refine RL.finG ?_
   refine GL.seq ?_
   refine GL.region ?_
   refine RL.mv rfl rfl rfl ?_
   refine RL.mv rfl rfl rfl ?_
   refine RL.binI (v := .bool ((i92 : Int) != x3)) rfl rfl rfl rfl rfl ?_
   refine RL.finG ?_
   refine GL.cond rfl (fun b106 => ?_) (fun b106 => ?_)
   ·replace h95 := ite_t b106 h95
    refine GL.region ?_
    refine RL.mv rfl rfl rfl ?_
    refine RL.mv rfl rfl rfl ?_
    refine RL.maxI rfl rfl rfl rfl ?_
    refine RL.asg rfl rfl rfl ?_
    refine RL.finG ?_
    refine GL.nilB ?_
    refine GL.region ?_
    refine RL.binI (v := .int .i64 ((i92 + 1 : Nat) : Int)) rfl rfl rfl rfl (binI_succ i92 (by omega)) ?_
    refine RL.mv rfl rfl rfl ?_
    refine RL.fin ?_
    cases h95
    exact fun a w st => lop_intro (i92 + 1, r104, if y102 > x78 then y102 else x78) ⟨by show i92 + 1 + r104.length = (x0).length; simp only [List.length_cons] at h98; omega, h105, h96⟩ (by simp) (St.cut [0] ⟨rfl, rfl, rfl, rfl, rfl, trivial⟩ (by decide) rfl st)
   replace h95 := ite_f b106 h95
   refine GL.skip ?_
   refine GL.nilB ?_
   refine GL.region ?_
   refine RL.binI (v := .int .i64 ((i92 + 1 : Nat) : Int)) rfl rfl rfl rfl (binI_succ i92 (by omega)) ?_
   refine RL.mv rfl rfl rfl ?_
   refine RL.fin ?_
   cases h95
   exact fun a w st => lop_intro (i92 + 1, r104, x78) ⟨by show i92 + 1 + r104.length = (x0).length; simp only [List.length_cons] at h98; omega, h105, h96⟩ (by simp) (St.cut [0] ⟨rfl, rfl, rfl, rfl, rfl, trivial⟩ (by decide) rfl st)
  have h101 : ¬ i92 < (x0).length := by have := of_decide_eq_false b100; omega
  obtain rfl : r93 = [] := by rw [← h99]; exact List.drop_of_length_le (by omega)
  replace h97 : some (Fl.nx _) = some y85 := h97
  cases h97
  exact GL.exit (fun a w st => mid_intro x78 h88 (St.cut [] ⟨rfl, rfl, trivial⟩ (by decide) rfl st))
 rintro x78 h107
 have h108 := h89 _ h107
 try dsimp only at h108
 refine GL.weak (env' := [(6, .int .i64 x3), (9, .int .i64 x78)]) (L' := []) (fun _ _ st => st) ?_
 refine GL.seq ?_
 refine GL.region ?_
 refine RL.mv rfl rfl rfl ?_
 refine RL.mv rfl rfl rfl ?_
 refine RL.asg rfl rfl rfl ?_
 refine RL.asg rfl rfl rfl ?_
 refine RL.finG ?_
 have h108 := Option.some.inj h108
 subst h108
 exact GL.ret (Gx.ret (v := .tuple #[.int .i64 x3, .int .i64 x78]) (res2 rfl rfl rfl) (fun a w st => st.toPostC rfl))

theorem auction_Second_c (S : Hp) (w : World) (hS : S.sub w) (v0 : Value) (x0 : (List Int)) (k0 : ((TR.sl TR.int)).vrep S v0 x0) (x1 : Int) (res : Int × Int × Int) (hm : auction_Second_m x0 x1 = some res) : Calls Tryz.prog 31 #[v0, .int .i64 x1] w (PostC w (.tuple #[.int .i64 res.1, .int .i64 res.2.1, .int .i64 res.2.2])) := by
 refine calls_enter 26 Tryz.func31 Tryz.ntmps31 rfl S true [(0, v0), (1, .int .i64 x1)] [imm (TR.sl TR.int) v0 x0] rfl ⟨rfl, ⟨rfl, trivial⟩⟩ hS ⟨k0, trivial⟩ ?_
 unfold auction_Second_m at hm
 refine GL.seq ?_
 refine GL.region ?_
 refine RL.asg rfl rfl rfl ?_
 refine RL.asg rfl rfl rfl ?_
 refine RL.asg rfl rfl rfl ?_
 refine RL.finG ?_
 refine GL.seq ?_
 refine GL.seq ?_
 refine GL.region ?_
 refine RL.mv rfl rfl rfl ?_
 refine RL.mv rfl rfl rfl ?_
 obtain ⟨y5, e6, hm⟩ := bind_some hm
 refine RL.callC (v := .int .i64 y5) (vs := [v0, .int .i64 x1]) Tryz_fit51 rfl rfl rfl rfl (fun U w hU hW hL => auction_Check_c U w hU _ _ (hL 0 _ _ rfl Seen.imm) x1 _ e6) ?_
 refine RL.asg rfl rfl rfl ?_
 refine RL.finG ?_
 refine GL.seq ?_
 refine GL.region ?_
 refine RL.mv rfl rfl rfl ?_
 refine RL.binI (v := .bool (y5 != (0 : Int))) rfl rfl rfl rfl rfl ?_
 refine RL.finG ?_
 refine GL.cond rfl (fun b7 => ?_) (fun b7 => ?_)
 ·replace hm := ite_t b7 hm
  refine GL.seq ?_
  refine GL.region ?_
  refine RL.mv rfl rfl rfl ?_
  refine RL.asg rfl rfl rfl ?_
  refine RL.asg rfl rfl rfl ?_
  refine RL.asg rfl rfl rfl ?_
  refine RL.finG ?_
  have hm := Option.some.inj hm
  subst hm
  exact GL.ret (Gx.ret (v := .tuple #[.int .i64 (0 : Int), .int .i64 (0 : Int), .int .i64 y5]) (res3 rfl rfl rfl rfl) (fun a w st => st.toPostC rfl))
 replace hm := ite_f b7 hm
 refine GL.skip ?_
 refine GL.seq ?_
 refine GL.region ?_
 refine RL.mv rfl rfl rfl ?_
 refine RL.mv rfl rfl rfl ?_
 obtain ⟨y10, e11, hm⟩ := bind_some hm
 refine RL.callC (v := .tuple #[.int .i64 y10.1, .int .i64 y10.2]) (vs := [v0, .int .i64 x1]) Tryz_fit52 rfl rfl rfl rfl (fun U w hU hW hL => auction_two_c U w hU _ _ (hL 0 _ _ rfl Seen.imm) x1 _ e11) ?_
 refine RL.mv rfl rfl rfl ?_
 refine RL.ext rfl rfl rfl rfl ?_
 refine RL.ext rfl rfl rfl rfl ?_
 refine RL.asg rfl rfl rfl ?_
 refine RL.asg rfl rfl rfl ?_
 refine RL.finG ?_
 refine GL.seq ?_
 refine GL.seq ?_
 refine GL.region ?_
 refine RL.mv rfl rfl rfl ?_
 refine RL.binI (v := .bool (decide (y10.1 < (0 : Int)))) rfl rfl rfl rfl rfl ?_
 refine RL.finG ?_
 refine GL.cond rfl (fun b12 => ?_) (fun b12 => ?_)
 ·replace hm := ite_t b12 hm
  refine GL.seq ?_
  refine GL.region ?_
  refine RL.asg rfl rfl rfl ?_
  refine RL.asg rfl rfl rfl ?_
  refine RL.asg rfl rfl rfl ?_
  refine RL.finG ?_
  have hm := Option.some.inj hm
  subst hm
  exact GL.ret (Gx.ret (v := .tuple #[.int .i64 (0 : Int), .int .i64 (0 : Int), .int .i64 (4 : Int)]) (res3 rfl rfl rfl rfl) (fun a w st => st.toPostC rfl))
 replace hm := ite_f b12 hm
 refine GL.skip ?_
 refine GL.seq ?_
 refine GL.region ?_
 refine RL.mv rfl rfl rfl ?_
 refine RL.mv rfl rfl rfl ?_
 refine RL.asg rfl rfl rfl ?_
 refine RL.asg rfl rfl rfl ?_
 refine RL.asg rfl rfl rfl ?_
 refine RL.finG ?_
 have hm := Option.some.inj hm
 subst hm
 exact GL.ret (Gx.ret (v := .tuple #[.int .i64 y10.1, .int .i64 y10.2, .int .i64 (0 : Int)]) (res3 rfl rfl rfl rfl) (fun a w st => st.toPostC rfl))

theorem seats_Check_c (S : Hp) (w : World) (hS : S.sub w) (v0 : Value) (x0 : (List Int)) (k0 : ((TR.sl TR.int)).vrep S v0 x0) (x1 : Int) (res : Int) (hm : seats_Check_m x0 x1 = some res) : Calls Tryz.prog 53 #[v0, .int .i64 x1] w (PostC w (.int .i64 res)) := by
 refine calls_enter 40 Tryz.func53 Tryz.ntmps53 rfl S true [(0, v0), (1, .int .i64 x1)] [imm (TR.sl TR.int) v0 x0] rfl ⟨rfl, ⟨rfl, trivial⟩⟩ hS ⟨k0, trivial⟩ ?_
 unfold seats_Check_m at hm
 refine GL.seq ?_
 refine GL.region ?_
 refine RL.asg rfl rfl rfl ?_
 refine RL.finG ?_
 refine GL.seq ?_
 refine GL.seq ?_
 obtain ⟨y6, K7, h8, h9, h10, h11, h12⟩ := bindR_K hm
 refine GL.join (ι := Bool) (fun (p : Bool) => [(0, v0), (1, .int .i64 x1), (15, .bool p)]) (fun (p : Bool) => [imm (TR.sl TR.int) v0 x0]) (fun (p : Bool) => K7 (.nx p)) ?_ ?_
 ·skip
  refine GL.region ?_
  refine RL.mv rfl rfl rfl ?_
  refine RL.lenS 0 Tryz.underlying61 rfl rfl rfl rfl SlOf.imm ?_
  refine RL.binI (v := .bool (decide (((x0).length : Int) < (1 : Int)))) rfl rfl rfl rfl rfl ?_
  refine RL.mv rfl rfl rfl ?_
  refine RL.split (t := 11) rfl (fun b13 => ?_) (fun b13 => ?_)
  ·replace h8 := ite_t b13 h8
   refine RL.skip rfl rfl ?_
   refine RL.skip rfl rfl ?_
   refine RL.skip rfl rfl ?_
   refine RL.pickT rfl rfl rfl rfl ?_
   refine RL.fin ?_
   cases h8
   exact fun a w st => mid_intro true h9 (St.cut [0] ⟨rfl, rfl, rfl, trivial⟩ (by decide) rfl st)
  replace h8 := ite_f b13 h8
  refine RL.mv rfl rfl rfl ?_
  refine RL.lenS 0 Tryz.underlying61 rfl rfl rfl rfl SlOf.imm ?_
  refine RL.binI (v := .bool (decide (((x0).length : Int) > (8 : Int)))) rfl rfl rfl rfl rfl ?_
  refine RL.pickF rfl rfl rfl rfl ?_
  refine RL.fin ?_
  cases h8
  exact fun a w st => mid_intro (decide (((x0).length : Int) > (8 : Int))) h9 (St.cut [0] ⟨rfl, rfl, rfl, trivial⟩ (by decide) rfl st)
 rintro x5 h14
 have h15 := h10 _ h14
 try dsimp only at h15
 refine GL.weak (env' := [(0, v0), (1, .int .i64 x1), (15, .bool x5)]) (L' := [imm (TR.sl TR.int) v0 x0]) (fun _ _ st => st) ?_
 refine GL.cond rfl (fun b16 => ?_) (fun b16 => ?_)
 ·replace h15 := ite_t b16 h15
  refine GL.seq ?_
  refine GL.region ?_
  refine RL.asg rfl rfl rfl ?_
  refine RL.finG ?_
  have h15 := Option.some.inj h15
  subst h15
  exact GL.ret (Gx.ret (v := .int .i64 (2 : Int)) (res1 rfl rfl) (fun a w st => st.toPostC rfl))
 replace h15 := ite_f b16 h15
 refine GL.skip ?_
 refine GL.seq ?_
 refine GL.region ?_
 refine RL.asg rfl rfl rfl ?_
 refine RL.finG ?_
 refine GL.seq ?_
 refine GL.seq ?_
 refine GL.region ?_
 refine RL.mv rfl rfl rfl ?_
 refine RL.lenS 0 Tryz.underlying61 rfl rfl rfl rfl SlOf.imm ?_
 refine RL.mv rfl rfl rfl ?_
 refine RL.finG ?_
 refine GL.open_ 0 rfl (fun S h => len_imm S h) (fun n36 => ?_)
 obtain ⟨y37, K38, h39, h40, h41, h42, h43⟩ := bindR_K h15
 refine GL.join (ι := Int) (fun (p : Int) => [(1, .int .i64 x1), (5, .int .i64 p)]) (fun (p : Int) => []) (fun (p : Int) => K38 (.nx p)) ?_ ?_
 ·refine GL.block ?_
  refine GL.loop (ι := Nat × (List Int) × Int) (fun (p : Nat × (List Int) × Int) => [(1, .int .i64 x1), (5, .int .i64 p.2.2), (16, v0), (17, .int .i64 ((x0).length : Int)), (18, .int .i64 (p.1 : Int))]) (fun (p : Nat × (List Int) × Int) => [imm (TR.sl TR.int) v0 x0]) (fun (p : Nat × (List Int) × Int) => p.1 + p.2.1.length = (x0).length ∧ List.drop p.1 x0 = p.2.1 ∧ rangeL seats_Check_b1 p.2.1 p.1 p.2.2 = some y37) (fun (p : Nat × (List Int) × Int) => p.2.1.length) (0, x0, (0 : Int)) ⟨by simp, by simp, h39⟩ (fun a w st => St.cut [0] ⟨rfl, rfl, rfl, rfl, rfl, trivial⟩ (by decide) rfl st) ?_
  rintro ⟨i44, r45, x17⟩ ⟨h50, h51, h49⟩
  try dsimp only at h50 h51 h49
  refine GL.weak (env' := [(1, .int .i64 x1), (5, .int .i64 x17), (16, v0), (17, .int .i64 ((x0).length : Int)), (18, .int .i64 (i44 : Int))]) (L' := [imm (TR.sl TR.int) v0 x0]) (fun _ _ st => st) ?_
  refine GL.seq ?_
  refine GL.region ?_
  refine RL.binI (v := .bool (decide ((i44 : Int) < ((x0).length : Int)))) rfl rfl rfl rfl rfl ?_
  refine RL.finG ?_
  refine GL.seq ?_
  refine GL.cond rfl (fun b52 => ?_) (fun b52 => ?_)
  ·have h53 : i44 < (x0).length := by have := of_decide_eq_true b52; omega
   obtain ⟨y54, r56, hr, e55, h57⟩ := drop_cons h51 rfl h53
   subst hr
   obtain ⟨z46, h47, h48⟩ := rangeL_some h49
   unfold seats_Check_b1 at h47
   try dsimp only at h47
   refine GL.skip ?_
   refine GL.seq ?_
   refine GL.block ?_
   refine GL.seq ?_
   refine GL.region ?_
   refine RL.idxS (sz := 1) 0 Tryz.underlying61 Tryz_ln3 rfl rfl rfl rfl rfl SlOf.imm (by omega) (by omega) ?_
   refine RL.ldSx (i := i44) (e' := y54) 0 Ex.ik Tryz_ln3 rfl rfl rfl rfl SlOf.imm e55 Part.self ?_
   refine RL.asg rfl rfl rfl ?_
   refine RL.finG ?_
   refine GL.seq ?_
   refine GL.seq ?_
   obtain ⟨y61, K62, h63, h64, h65, h66, h67⟩ := bindF_K h47
   refine GL.join (ι := Bool) (fun (p : Bool) => [(1, .int .i64 x1), (5, .int .i64 x17), (7, .int .i64 y54), (16, v0), (17, .int .i64 ((x0).length : Int)), (18, .int .i64 (i44 : Int)), (27, .bool p)]) (fun (p : Bool) => [imm (TR.sl TR.int) v0 x0]) (fun (p : Bool) => K62 (.nx p)) ?_ ?_
   ·skip
    refine GL.region ?_
    refine RL.mv rfl rfl rfl ?_
    refine RL.binI (v := .bool (decide (y54 < (0 : Int)))) rfl rfl rfl rfl rfl ?_
    refine RL.mv rfl rfl rfl ?_
    refine RL.split (t := 24) rfl (fun b68 => ?_) (fun b68 => ?_)
    ·replace h63 := ite_t b68 h63
     refine RL.skip rfl rfl ?_
     refine RL.skip rfl rfl ?_
     refine RL.pickT rfl rfl rfl rfl ?_
     refine RL.fin ?_
     cases h63
     exact fun a w st => mid_intro true h64 (St.cut [0] ⟨rfl, rfl, rfl, rfl, rfl, rfl, rfl, trivial⟩ (by decide) rfl st)
    replace h63 := ite_f b68 h63
    refine RL.mv rfl rfl rfl ?_
    refine RL.binI (v := .bool (decide (y54 > (1000000 : Int)))) rfl rfl rfl rfl rfl ?_
    refine RL.pickF rfl rfl rfl rfl ?_
    refine RL.fin ?_
    cases h63
    exact fun a w st => mid_intro (decide (y54 > (1000000 : Int))) h64 (St.cut [0] ⟨rfl, rfl, rfl, rfl, rfl, rfl, rfl, trivial⟩ (by decide) rfl st)
   rintro x60 h69
   have h70 := h65 _ h69
   try dsimp only at h70
   refine GL.weak (env' := [(1, .int .i64 x1), (5, .int .i64 x17), (7, .int .i64 y54), (16, v0), (17, .int .i64 ((x0).length : Int)), (18, .int .i64 (i44 : Int)), (27, .bool x60)]) (L' := [imm (TR.sl TR.int) v0 x0]) (fun _ _ st => st) ?_
   refine GL.cond rfl (fun b71 => ?_) (fun b71 => ?_)
   ·replace h70 := ite_t b71 h70
    refine GL.seq ?_
    refine GL.region ?_
    refine RL.asg rfl rfl rfl ?_
    refine RL.finG ?_
    cases h70
    replace h48 : some (Fl.rt _) = some y37 := h48
    cases h48
    have hh := h42 _ h40
    subst hh
    exact GL.ret (Gx.ret (v := .int .i64 (1 : Int)) (res1 rfl rfl) (fun a w st => st.toPostC rfl))
   replace h70 := ite_f b71 h70
   refine GL.skip ?_
   refine GL.region ?_
   refine RL.mv rfl rfl rfl ?_
   refine RL.mv rfl rfl rfl ?_
   refine RL.binI (v := .int .i64 (wadd x17 y54)) rfl rfl rfl rfl rfl ?_
   refine RL.asg rfl rfl rfl ?_
   refine RL.finG ?_
   refine GL.nilB ?_
   refine GL.region ?_
   refine RL.binI (v := .int .i64 ((i44 + 1 : Nat) : Int)) rfl rfl rfl rfl (binI_succ i44 (by omega)) ?_
   refine RL.mv rfl rfl rfl ?_
   refine RL.fin ?_
   cases h70
   exact fun a w st => lop_intro (i44 + 1, r56, wadd x17 y54) ⟨by show i44 + 1 + r56.length = (x0).length; simp only [List.length_cons] at h50; omega, h57, h48⟩ (by simp) (St.cut [0] ⟨rfl, rfl, rfl, rfl, rfl, trivial⟩ (by decide) rfl st)
  have h53 : ¬ i44 < (x0).length := by have := of_decide_eq_false b52; omega
  obtain rfl : r45 = [] := by rw [← h51]; exact List.drop_of_length_le (by omega)
  replace h49 : some (Fl.nx _) = some y37 := h49
  cases h49
  exact GL.exit (fun a w st => mid_intro x17 h40 (St.cut [] ⟨rfl, rfl, trivial⟩ (by decide) rfl st))
 rintro x17 h72
 have h73 := h41 _ h72
 try dsimp only at h73
 refine GL.weak (env' := [(1, .int .i64 x1), (5, .int .i64 x17)]) (L' := []) (fun _ _ st => st) ?_
 refine GL.seq ?_
 refine GL.seq ?_
 refine GL.region ?_
 refine RL.mv rfl rfl rfl ?_
 refine RL.binI (v := .bool (x17 == (0 : Int))) rfl rfl rfl rfl rfl ?_
 refine RL.finG ?_
 refine GL.cond rfl (fun b74 => ?_) (fun b74 => ?_)
 ·replace h73 := ite_t b74 h73
  refine GL.seq ?_
  refine GL.region ?_
  refine RL.asg rfl rfl rfl ?_
  refine RL.finG ?_
  have h73 := Option.some.inj h73
  subst h73
  exact GL.ret (Gx.ret (v := .int .i64 (4 : Int)) (res1 rfl rfl) (fun a w st => st.toPostC rfl))
 replace h73 := ite_f b74 h73
 refine GL.skip ?_
 refine GL.seq ?_
 refine GL.seq ?_
 obtain ⟨y78, K79, h80, h81, h82, h83, h84⟩ := bindR_K h73
 refine GL.join (ι := Bool) (fun (p : Bool) => [(39, .bool p)]) (fun (p : Bool) => []) (fun (p : Bool) => K79 (.nx p)) ?_ ?_
 ·skip
  refine GL.region ?_
  refine RL.mv rfl rfl rfl ?_
  refine RL.binI (v := .bool (decide (x1 < (0 : Int)))) rfl rfl rfl rfl rfl ?_
  refine RL.mv rfl rfl rfl ?_
  refine RL.split (t := 36) rfl (fun b85 => ?_) (fun b85 => ?_)
  ·replace h80 := ite_t b85 h80
   refine RL.skip rfl rfl ?_
   refine RL.skip rfl rfl ?_
   refine RL.pickT rfl rfl rfl rfl ?_
   refine RL.fin ?_
   cases h80
   exact fun a w st => mid_intro true h81 (St.cut [] ⟨rfl, trivial⟩ (by decide) rfl st)
  replace h80 := ite_f b85 h80
  refine RL.mv rfl rfl rfl ?_
  refine RL.binI (v := .bool (decide (x1 > (100 : Int)))) rfl rfl rfl rfl rfl ?_
  refine RL.pickF rfl rfl rfl rfl ?_
  refine RL.fin ?_
  cases h80
  exact fun a w st => mid_intro (decide (x1 > (100 : Int))) h81 (St.cut [] ⟨rfl, trivial⟩ (by decide) rfl st)
 rintro x77 h86
 have h87 := h82 _ h86
 try dsimp only at h87
 refine GL.weak (env' := [(39, .bool x77)]) (L' := []) (fun _ _ st => st) ?_
 refine GL.cond rfl (fun b88 => ?_) (fun b88 => ?_)
 ·replace h87 := ite_t b88 h87
  refine GL.seq ?_
  refine GL.region ?_
  refine RL.asg rfl rfl rfl ?_
  refine RL.finG ?_
  have h87 := Option.some.inj h87
  subst h87
  exact GL.ret (Gx.ret (v := .int .i64 (1 : Int)) (res1 rfl rfl) (fun a w st => st.toPostC rfl))
 replace h87 := ite_f b88 h87
 refine GL.skip ?_
 refine GL.seq ?_
 refine GL.region ?_
 refine RL.asg rfl rfl rfl ?_
 refine RL.finG ?_
 have h87 := Option.some.inj h87
 subst h87
 exact GL.ret (Gx.ret (v := .int .i64 (0 : Int)) (res1 rfl rfl) (fun a w st => st.toPostC rfl))

theorem seats_divided_c (S : Hp) (w : World) (hS : S.sub w) (v0 : Value) (x0 : (List Int)) (k0 : ((TR.sl TR.int)).vrep S v0 x0) (x1 : Int) (x2 : Int) (res : (List Int)) (hm : seats_divided_m x0 x1 x2 = some res) : Calls Tryz.prog 54 #[v0, .int .i64 x1, .int .i64 x2] w (Post w S (fun (o : Value) => o) (fun (o : Value) => [own 3 TR.int o res])) := by
 refine calls_enter 56 Tryz.func54 Tryz.ntmps54 rfl S false [(0, v0), (1, .int .i64 x1), (2, .int .i64 x2)] [imm (TR.sl TR.int) v0 x0] rfl ⟨rfl, ⟨rfl, ⟨rfl, trivial⟩⟩⟩ hS ⟨k0, trivial⟩ ?_
 unfold seats_divided_m at hm
 refine GL.seq ?_
 refine GL.region ?_
 refine RL.asg rfl rfl rfl ?_
 refine RL.finG ?_
 refine GL.seq ?_
 refine GL.region ?_
 refine RL.mv rfl rfl rfl ?_
 refine RL.lenS 0 Tryz.underlying61 rfl rfl rfl rfl SlOf.imm ?_
 obtain ⟨y7, e8, hm⟩ := bind_some hm
 replace e8 := chk_some e8
 refine RL.mkS (t := TR.int) (z := (0 : Int)) Tryz.underlying61 Tryz_lo3 (fun S => rfl) rfl rfl rfl rfl e8.1 e8.2 ?_
 intro v9
 refine RL.asg rfl rfl rfl ?_
 refine RL.finG ?_
 refine GL.seq ?_
 refine GL.seq ?_
 refine GL.region ?_
 refine RL.mv rfl rfl rfl ?_
 refine RL.mv rfl rfl rfl ?_
 refine RL.finG ?_
 obtain ⟨y138, e139, hm⟩ := bind_some hm
 replace e139 := chk_some e139
 obtain ⟨y140, K141, h142, h143, h144, h145, h146⟩ := bindR_K hm
 refine GL.join (ι := (List Int)) (fun (p : (List Int)) => [(7, v9)]) (fun (p : (List Int)) => [own 3 TR.int v9 p]) (fun (p : (List Int)) => K141 (.nx p)) ?_ ?_
 ·refine GL.block ?_
  refine GL.loop (ι := Nat × Nat × (List Int)) (fun (p : Nat × Nat × (List Int)) => [(0, v0), (2, .int .i64 x2), (7, v9), (14, .int .i64 x1), (15, .int .i64 (p.1 : Int))]) (fun (p : Nat × Nat × (List Int)) => [imm (TR.sl TR.int) v0 x0, own 3 TR.int v9 p.2.2]) (fun (p : Nat × Nat × (List Int)) => p.1 + p.2.1 = (x1).toNat ∧ rangeN (seats_divided_b1 x0 x2) p.2.1 p.1 p.2.2 = some y140) (fun (p : Nat × Nat × (List Int)) => p.2.1) (0, (x1).toNat, (List.replicate (((x0).length : Int)).toNat (0 : Int))) ⟨by simp, h142⟩ (fun a w st => St.cut [0, 1] ⟨rfl, rfl, rfl, rfl, rfl, trivial⟩ (by decide) rfl st) ?_
  rintro ⟨i147, r148, l73⟩ ⟨h153, h152⟩
  try dsimp only at h153 h152
  refine GL.weak (env' := [(0, v0), (2, .int .i64 x2), (7, v9), (14, .int .i64 x1), (15, .int .i64 (i147 : Int))]) (L' := [imm (TR.sl TR.int) v0 x0, own 3 TR.int v9 l73]) (fun _ _ st => st) ?_
  refine GL.seq ?_
  refine GL.region ?_
  refine RL.binI (v := .bool (decide ((i147 : Int) < x1))) rfl rfl rfl rfl rfl ?_
  refine RL.finG ?_
  refine GL.seq ?_
  refine GL.cond rfl (fun b155 => ?_) (fun b155 => ?_)
  ·have h156 : i147 < (x1).toNat := by have := of_decide_eq_true b155; omega
   obtain ⟨r157, hr⟩ : ∃ m, r148 = m + 1 := ⟨r148 - 1, by omega⟩
   subst hr
   obtain ⟨z149, h150, h151⟩ := rangeN_some h152
   unfold seats_divided_b1 at h150
   try dsimp only at h150
   refine GL.skip ?_
   refine GL.seq ?_
   refine GL.block ?_
   refine GL.seq ?_
   refine GL.region ?_
   refine RL.asg rfl rfl rfl ?_
   refine RL.finG ?_
   refine GL.seq ?_
   refine GL.seq ?_
   refine GL.region ?_
   refine RL.mv rfl rfl rfl ?_
   refine RL.lenS 0 Tryz.underlying61 rfl rfl rfl rfl SlOf.imm ?_
   refine RL.mv rfl rfl rfl ?_
   refine RL.finG ?_
   refine GL.open_ 0 rfl (fun S h => len_imm S h) (fun n176 => ?_)
   obtain ⟨y177, K178, h179, h180, h181, h182, h183⟩ := bindF_K h150
   refine GL.join (ι := Int) (fun (p : Int) => [(0, v0), (2, .int .i64 x2), (7, v9), (8, .int .i64 p), (14, .int .i64 x1), (15, .int .i64 (i147 : Int))]) (fun (p : Int) => [imm (TR.sl TR.int) v0 x0, own 3 TR.int v9 l73]) (fun (p : Int) => K178 (.nx p)) ?_ ?_
   ·refine GL.block ?_
    refine GL.loop (ι := Nat × (List Int) × Int) (fun (p : Nat × (List Int) × Int) => [(0, v0), (2, .int .i64 x2), (7, v9), (8, .int .i64 p.2.2), (14, .int .i64 x1), (15, .int .i64 (i147 : Int)), (17, v0), (18, .int .i64 ((x0).length : Int)), (19, .int .i64 (p.1 : Int))]) (fun (p : Nat × (List Int) × Int) => [imm (TR.sl TR.int) v0 x0, own 3 TR.int v9 l73]) (fun (p : Nat × (List Int) × Int) => p.1 + p.2.1.length = (x0).length ∧ List.drop p.1 x0 = p.2.1 ∧ rangeL (seats_divided_b2 l73 x0 x2) p.2.1 p.1 p.2.2 = some y177) (fun (p : Nat × (List Int) × Int) => p.2.1.length) (0, x0, (0 : Int)) ⟨by simp, by simp, h179⟩ (fun a w st => St.cut [0, 1] ⟨rfl, rfl, rfl, rfl, rfl, rfl, rfl, rfl, rfl, trivial⟩ (by decide) rfl st) ?_
    rintro ⟨i184, r185, x158⟩ ⟨h190, h191, h189⟩
    try dsimp only at h190 h191 h189
    refine GL.weak (env' := [(0, v0), (2, .int .i64 x2), (7, v9), (8, .int .i64 x158), (14, .int .i64 x1), (15, .int .i64 (i147 : Int)), (17, v0), (18, .int .i64 ((x0).length : Int)), (19, .int .i64 (i184 : Int))]) (L' := [imm (TR.sl TR.int) v0 x0, own 3 TR.int v9 l73]) (fun _ _ st => st) ?_
    refine GL.seq ?_
    refine GL.region ?_
    refine RL.binI (v := .bool (decide ((i184 : Int) < ((x0).length : Int)))) rfl rfl rfl rfl rfl ?_
    refine RL.finG ?_
    refine GL.seq ?_
    refine GL.cond rfl (fun b192 => ?_) (fun b192 => ?_)
    ·have h193 : i184 < (x0).length := by have := of_decide_eq_true b192; omega
     obtain ⟨y194, r196, hr, e195, h197⟩ := drop_cons h191 rfl h193
     subst hr
     obtain ⟨z186, h187, h188⟩ := rangeL_some h189
     unfold seats_divided_b2 at h187
     try dsimp only at h187
     refine GL.skip ?_
     refine GL.seq ?_
     refine GL.block ?_
     refine GL.seq ?_
     refine GL.region ?_
     refine RL.mv rfl rfl rfl ?_
     refine RL.idxS (sz := 1) 0 Tryz.underlying61 Tryz_ln3 rfl rfl rfl rfl rfl SlOf.imm (by omega) (by omega) ?_
     refine RL.ldSx (i := i184) (e' := y194) 0 Ex.ik Tryz_ln3 rfl rfl rfl rfl SlOf.imm e195 Part.self ?_
     refine RL.asg rfl rfl rfl ?_
     refine RL.asg rfl rfl rfl ?_
     refine RL.finG ?_
     refine GL.seq ?_
     refine GL.regionQ rfl rfl (by kernel_rfl) ?_
     refine RL.mv rfl rfl rfl ?_
     refine RL.mv rfl rfl rfl ?_
     refine RL.mv rfl rfl rfl ?_
     refine RL.mv rfl rfl rfl ?_
     obtain ⟨y204, e205, h187⟩ := bind_some h187
     refine RL.idxS (sz := 1) 1 Tryz.underlying61 Tryz_ln3 rfl rfl rfl rfl rfl SlOf.own (idx_some e205).1 (idx_some e205).2.1 ?_
     refine RL.ldSx (i := (x158).toNat) (e' := y204) 1 Ex.ik Tryz_ln3 rfl rfl rfl rfl SlOf.own (idx_some e205).2.2 Part.self ?_
     refine RL.binI (v := .int .i64 (wmul x2 y204)) rfl rfl rfl rfl rfl ?_
     refine RL.binI (v := .int .i64 (wadd (wmul x2 y204) (1 : Int))) rfl rfl rfl rfl rfl ?_
     refine RL.binI (v := .int .i64 (wmul y194 (wadd (wmul x2 y204) (1 : Int)))) rfl rfl rfl rfl rfl ?_
     refine RL.mv rfl rfl rfl ?_
     refine RL.mv rfl rfl rfl ?_
     obtain ⟨y206, e207, h187⟩ := bind_some h187
     refine RL.idxS (sz := 1) 0 Tryz.underlying61 Tryz_ln3 rfl rfl rfl rfl rfl SlOf.imm (idx_some e207).1 (idx_some e207).2.1 ?_
     refine RL.ldSx (i := (x158).toNat) (e' := y206) 0 Ex.ik Tryz_ln3 rfl rfl rfl rfl SlOf.imm (idx_some e207).2.2 Part.self ?_
     refine RL.mv rfl rfl rfl ?_
     refine RL.mv rfl rfl rfl ?_
     refine RL.mv rfl rfl rfl ?_
     obtain ⟨y208, e209, h187⟩ := bind_some h187
     refine RL.idxS (sz := 1) 1 Tryz.underlying61 Tryz_ln3 rfl rfl rfl rfl rfl SlOf.own (idx_some e209).1 (idx_some e209).2.1 ?_
     refine RL.ldSx (i := i184) (e' := y208) 1 Ex.ik Tryz_ln3 rfl rfl rfl rfl SlOf.own (idx_some e209).2.2 Part.self ?_
     refine RL.binI (v := .int .i64 (wmul x2 y208)) rfl rfl rfl rfl rfl ?_
     refine RL.binI (v := .int .i64 (wadd (wmul x2 y208) (1 : Int))) rfl rfl rfl rfl rfl ?_
     refine RL.binI (v := .int .i64 (wmul y206 (wadd (wmul x2 y208) (1 : Int)))) rfl rfl rfl rfl rfl ?_
     refine RL.binI (v := .bool (decide ((wmul y194 (wadd (wmul x2 y204) (1 : Int))) > (wmul y206 (wadd (wmul x2 y208) (1 : Int)))))) rfl rfl rfl rfl rfl ?_
     refine RL.finQG ?_
     refine GL.weak (env' := [(0, v0), (2, .int .i64 x2), (7, v9), (8, .int .i64 x158), (9, .int .i64 (i184 : Int)), (14, .int .i64 x1), (15, .int .i64 (i147 : Int)), (17, v0), (18, .int .i64 ((x0).length : Int)), (19, .int .i64 (i184 : Int)), (45, .bool (decide ((wmul y194 (wadd (wmul x2 y204) (1 : Int))) > (wmul y206 (wadd (wmul x2 y208) (1 : Int))))))]) (L' := [imm (TR.sl TR.int) v0 x0, own 3 TR.int v9 l73]) (fun a w st => St.cut [0, 1] ⟨rfl, rfl, rfl, rfl, rfl, rfl, rfl, rfl, rfl, rfl, rfl, trivial⟩ (by decide) rfl st) ?_
     refine GL.cond rfl (fun b210 => ?_) (fun b210 => ?_)
     ·replace h187 := ite_t b210 h187
      refine GL.region ?_
      refine RL.mv rfl rfl rfl ?_
      refine RL.asg rfl rfl rfl ?_
      refine RL.finG ?_
      refine GL.nilB ?_
      refine GL.region ?_
      refine RL.binI (v := .int .i64 ((i184 + 1 : Nat) : Int)) rfl rfl rfl rfl (binI_succ i184 (by omega)) ?_
      refine RL.mv rfl rfl rfl ?_
      refine RL.fin ?_
      cases h187
      exact fun a w st => lop_intro (i184 + 1, r196, (i184 : Int)) ⟨by show i184 + 1 + r196.length = (x0).length; simp only [List.length_cons] at h190; omega, h197, h188⟩ (by simp) (St.cut [0, 1] ⟨rfl, rfl, rfl, rfl, rfl, rfl, rfl, rfl, rfl, trivial⟩ (by decide) rfl st)
     replace h187 := ite_f b210 h187
     refine GL.skip ?_
     refine GL.nilB ?_
     refine GL.region ?_
     refine RL.binI (v := .int .i64 ((i184 + 1 : Nat) : Int)) rfl rfl rfl rfl (binI_succ i184 (by omega)) ?_
     refine RL.mv rfl rfl rfl ?_
     refine RL.fin ?_
     cases h187
     exact fun a w st => lop_intro (i184 + 1, r196, x158) ⟨by show i184 + 1 + r196.length = (x0).length; simp only [List.length_cons] at h190; omega, h197, h188⟩ (by simp) (St.cut [0, 1] ⟨rfl, rfl, rfl, rfl, rfl, rfl, rfl, rfl, rfl, trivial⟩ (by decide) rfl st)
    have h193 : ¬ i184 < (x0).length := by have := of_decide_eq_false b192; omega
    obtain rfl : r185 = [] := by rw [← h191]; exact List.drop_of_length_le (by omega)
    replace h189 : some (Fl.nx _) = some y177 := h189
    cases h189
    exact GL.exit (fun a w st => mid_intro x158 h180 (St.cut [0, 1] ⟨rfl, rfl, rfl, rfl, rfl, rfl, trivial⟩ (by decide) rfl st))
   rintro x158 h211
   have h212 := h181 _ h211
   try dsimp only at h212
   refine GL.weak (env' := [(0, v0), (2, .int .i64 x2), (7, v9), (8, .int .i64 x158), (14, .int .i64 x1), (15, .int .i64 (i147 : Int))]) (L' := [imm (TR.sl TR.int) v0 x0, own 3 TR.int v9 l73]) (fun _ _ st => st) ?_
   refine GL.region ?_
   refine RL.mv rfl rfl rfl ?_
   refine RL.mv rfl rfl rfl ?_
   obtain ⟨y217, e218, h212⟩ := bind_some h212
   refine RL.idxS (sz := 1) 1 Tryz.underlying61 Tryz_ln3 rfl rfl rfl rfl rfl SlOf.own (idx_some e218).1 (idx_some e218).2.1 ?_
   refine RL.ldSx (i := (x158).toNat) (e' := y217) 1 Ex.ik Tryz_ln3 rfl rfl rfl rfl SlOf.own (idx_some e218).2.2 Part.self ?_
   refine RL.binI (v := .int .i64 (wadd y217 (1 : Int))) rfl rfl rfl rfl rfl ?_
   obtain ⟨y219, e220, h212⟩ := bind_some h212
   refine RL.idxS (sz := 1) 1 Tryz.underlying61 Tryz_ln3 rfl rfl rfl rfl rfl SlOf.own (idx_some e220).1 (idx_some e220).2.1 ?_
   refine RL.stS (i := (x158).toNat) (e' := wadd y217 (1 : Int)) (e1 := wadd y217 (1 : Int)) (r := TR.int) 1 Tryz_ln3 rfl rfl rfl rfl VR.int rfl (idx_some e220).2.2 Upd.self ?_
   refine RL.finG ?_
   refine GL.nilB ?_
   refine GL.region ?_
   refine RL.binI (v := .int .i64 ((i147 + 1 : Nat) : Int)) rfl rfl rfl rfl (binI_succ i147 (by omega)) ?_
   refine RL.mv rfl rfl rfl ?_
   refine RL.fin ?_
   cases h212
   exact fun a w st => lop_intro (i147 + 1, r157, (List.set l73 ((x158).toNat) (wadd y217 (1 : Int)))) ⟨by show i147 + 1 + r157 = (x1).toNat; omega, h151⟩ (by simp) (St.cut [0, 1] ⟨rfl, rfl, rfl, rfl, rfl, trivial⟩ (by decide) rfl st)
  have h156 : ¬ i147 < (x1).toNat := by have := of_decide_eq_false b155; omega
  obtain rfl : r148 = 0 := by omega
  replace h152 : some (Fl.nx _) = some y140 := h152
  cases h152
  exact GL.exit (fun a w st => mid_intro l73 h143 (St.cut [1] ⟨rfl, trivial⟩ (by decide) rfl st))
 rintro l73 h221
 have h222 := h144 _ h221
 try dsimp only at h222
 refine GL.weak (env' := [(7, v9)]) (L' := [own 3 TR.int v9 l73]) (fun _ _ st => st) ?_
 refine GL.seq ?_
 refine GL.region ?_
 refine RL.mv rfl rfl rfl ?_
 refine RL.asg rfl rfl rfl ?_
 refine RL.finG ?_
 have h222 := Option.some.inj h222
 subst h222
 exact GL.ret (Gx.ret (v := v9) (res1 rfl rfl) (fun a w st => (st.pick [0] (by decide) rfl).toPost v9))

theorem seats_Share_c (S : Hp) (w : World) (hS : S.sub w) (x0 : Int) (v1 : Value) (x1 : (List Int)) (k1 : ((TR.sl TR.int)).vrep S v1 x1) (x2 : Int) (res : (List Int) × Int) (hm : seats_Share_m x0 x1 x2 = some res) : Calls Tryz.prog 32 #[.int .i64 x0, v1, .int .i64 x2] w (Post w S (fun (o : Value) => .tuple #[o, .int .i64 res.2]) (fun (o : Value) => [own 3 TR.int o res.1])) := by
 refine calls_enter 119 Tryz.func32 Tryz.ntmps32 rfl S false [(0, .int .i64 x0), (1, v1), (2, .int .i64 x2)] [imm (TR.sl TR.int) v1 x1] rfl ⟨rfl, ⟨rfl, ⟨rfl, trivial⟩⟩⟩ hS ⟨k1, trivial⟩ ?_
 unfold seats_Share_m at hm
 refine GL.seq ?_
 refine GL.region ?_
 refine RL.asg rfl rfl rfl ?_
 refine RL.asg rfl rfl rfl ?_
 refine RL.finG ?_
 refine GL.seq ?_
 refine GL.seq ?_
 obtain ⟨y7, K8, h9, h10, h11, h12, h13⟩ := bindR_K hm
 refine GL.join (ι := Bool) (fun (p : Bool) => [(0, .int .i64 x0), (1, v1), (2, .int .i64 x2), (24, .bool p)]) (fun (p : Bool) => [imm (TR.sl TR.int) v1 x1]) (fun (p : Bool) => K8 (.nx p)) ?_ ?_
 ·skip
  refine GL.region ?_
  refine RL.mv rfl rfl rfl ?_
  refine RL.binI (v := .bool (decide (x0 < (1 : Int)))) rfl rfl rfl rfl rfl ?_
  refine RL.mv rfl rfl rfl ?_
  refine RL.split (t := 21) rfl (fun b14 => ?_) (fun b14 => ?_)
  ·replace h9 := ite_t b14 h9
   refine RL.skip rfl rfl ?_
   refine RL.skip rfl rfl ?_
   refine RL.pickT rfl rfl rfl rfl ?_
   refine RL.fin ?_
   cases h9
   exact fun a w st => mid_intro true h10 (St.cut [0] ⟨rfl, rfl, rfl, rfl, trivial⟩ (by decide) rfl st)
  replace h9 := ite_f b14 h9
  refine RL.mv rfl rfl rfl ?_
  refine RL.binI (v := .bool (decide (x0 > (3 : Int)))) rfl rfl rfl rfl rfl ?_
  refine RL.pickF rfl rfl rfl rfl ?_
  refine RL.fin ?_
  cases h9
  exact fun a w st => mid_intro (decide (x0 > (3 : Int))) h10 (St.cut [0] ⟨rfl, rfl, rfl, rfl, trivial⟩ (by decide) rfl st)
 rintro x6 h15
 have h16 := h11 _ h15
 try dsimp only at h16
 refine GL.weak (env' := [(0, .int .i64 x0), (1, v1), (2, .int .i64 x2), (24, .bool x6)]) (L' := [imm (TR.sl TR.int) v1 x1]) (fun _ _ st => st) ?_
 refine GL.cond rfl (fun b17 => ?_) (fun b17 => ?_)
 ·replace h16 := ite_t b17 h16
  refine GL.seq ?_
  refine GL.region ?_
  refine RL.asg rfl rfl rfl ?_
  refine RL.asg rfl rfl rfl ?_
  refine RL.finG ?_
  refine GL.weak (fun a w st => st.nilOwn 3 TR.int) ?_
  have h16 := Option.some.inj h16
  subst h16
  exact GL.ret (Gx.ret (v := .tuple #[Value.slice none 0 0, .int .i64 (1 : Int)]) (res2 rfl rfl rfl) (fun a w st => (st.pick [1] (by decide) rfl).toPost (Value.slice none 0 0)))
 replace h16 := ite_f b17 h16
 refine GL.skip ?_
 refine GL.seq ?_
 refine GL.seq ?_
 refine GL.region ?_
 refine RL.mv rfl rfl rfl ?_
 refine RL.mv rfl rfl rfl ?_
 obtain ⟨y20, e21, h16⟩ := bind_some h16
 refine RL.callC (v := .int .i64 y20) (vs := [v1, .int .i64 x2]) Tryz_fit53 rfl rfl rfl rfl (fun U w hU hW hL => seats_Check_c U w hU _ _ (hL 0 _ _ rfl Seen.imm) x2 _ e21) ?_
 refine RL.asg rfl rfl rfl ?_
 refine RL.finG ?_
 refine GL.seq ?_
 refine GL.region ?_
 refine RL.mv rfl rfl rfl ?_
 refine RL.binI (v := .bool (y20 != (0 : Int))) rfl rfl rfl rfl rfl ?_
 refine RL.finG ?_
 refine GL.cond rfl (fun b22 => ?_) (fun b22 => ?_)
 ·replace h16 := ite_t b22 h16
  refine GL.seq ?_
  refine GL.region ?_
  refine RL.mv rfl rfl rfl ?_
  refine RL.asg rfl rfl rfl ?_
  refine RL.asg rfl rfl rfl ?_
  refine RL.finG ?_
  refine GL.weak (fun a w st => st.nilOwn 3 TR.int) ?_
  have h16 := Option.some.inj h16
  subst h16
  exact GL.ret (Gx.ret (v := .tuple #[Value.slice none 0 0, .int .i64 y20]) (res2 rfl rfl rfl) (fun a w st => (st.pick [1] (by decide) rfl).toPost (Value.slice none 0 0)))
 replace h16 := ite_f b22 h16
 refine GL.skip ?_
 refine GL.seq ?_
 refine GL.seq ?_
 refine GL.region ?_
 refine RL.mv rfl rfl rfl ?_
 refine RL.finG ?_
 refine GL.block ?_
 refine GL.seq ?_
 refine GL.region ?_
 refine RL.binI (v := .bool (x0 == (1 : Int))) rfl rfl rfl rfl rfl ?_
 refine RL.asg rfl rfl rfl ?_
 refine RL.finG ?_
 refine GL.cond rfl (fun b23 => ?_) (fun b23 => ?_)
 ·replace h16 := ite_t b23 h16
  refine GL.seq ?_
  refine GL.region ?_
  refine RL.mv rfl rfl rfl ?_
  refine RL.mv rfl rfl rfl ?_
  obtain ⟨y27, e28, h16⟩ := bind_some h16
  refine RL.call (vs := [v1, .int .i64 x2, .int .i64 (1 : Int)]) Tryz_fit54 rfl rfl rfl rfl rfl (fun S f w hS hW hi => seats_divided_c S w hS _ _ (hi 0 _ rfl) x2 (1 : Int) _ e28) ?_
  intro v29
  refine RL.asg rfl rfl rfl ?_
  refine RL.asg rfl rfl rfl ?_
  refine RL.finG ?_
  have h16 := Option.some.inj h16
  subst h16
  exact GL.ret (Gx.ret (v := .tuple #[v29, .int .i64 (0 : Int)]) (res2 rfl rfl rfl) (fun a w st => (st.pick [1] (by decide) rfl).toPost v29))
 replace h16 := ite_f b23 h16
 refine GL.seq ?_
 refine GL.region ?_
 refine RL.binI (v := .bool (x0 == (2 : Int))) rfl rfl rfl rfl rfl ?_
 refine RL.asg rfl rfl rfl ?_
 refine RL.finG ?_
 refine GL.cond rfl (fun b30 => ?_) (fun b30 => ?_)
 ·replace h16 := ite_t b30 h16
  refine GL.seq ?_
  refine GL.region ?_
  refine RL.mv rfl rfl rfl ?_
  refine RL.mv rfl rfl rfl ?_
  obtain ⟨y34, e35, h16⟩ := bind_some h16
  refine RL.call (vs := [v1, .int .i64 x2, .int .i64 (2 : Int)]) Tryz_fit54 rfl rfl rfl rfl rfl (fun S f w hS hW hi => seats_divided_c S w hS _ _ (hi 0 _ rfl) x2 (2 : Int) _ e35) ?_
  intro v36
  refine RL.asg rfl rfl rfl ?_
  refine RL.asg rfl rfl rfl ?_
  refine RL.finG ?_
  have h16 := Option.some.inj h16
  subst h16
  exact GL.ret (Gx.ret (v := .tuple #[v36, .int .i64 (0 : Int)]) (res2 rfl rfl rfl) (fun a w st => (st.pick [1] (by decide) rfl).toPost v36))
 replace h16 := ite_f b30 h16
 refine GL.skip ?_
 refine GL.nilB ?_
 refine GL.seq ?_
 refine GL.region ?_
 refine RL.asg rfl rfl rfl ?_
 refine RL.finG ?_
 refine GL.seq ?_
 refine GL.seq ?_
 refine GL.region ?_
 refine RL.mv rfl rfl rfl ?_
 refine RL.lenS 0 Tryz.underlying61 rfl rfl rfl rfl SlOf.imm ?_
 refine RL.mv rfl rfl rfl ?_
 refine RL.finG ?_
 refine GL.open_ 0 rfl (fun S h => len_imm S h) (fun n42 => ?_)
 obtain ⟨y43, K44, h45, h46, h47, h48, h49⟩ := bindR_K h16
 refine GL.join (ι := Int) (fun (p : Int) => [(1, v1), (2, .int .i64 x2), (9, .int .i64 p)]) (fun (p : Int) => [imm (TR.sl TR.int) v1 x1]) (fun (p : Int) => K44 (.nx p)) ?_ ?_
 ·refine GL.block ?_
  refine GL.loop (ι := Nat × (List Int) × Int) (fun (p : Nat × (List Int) × Int) => [(1, v1), (2, .int .i64 x2), (9, .int .i64 p.2.2), (42, v1), (43, .int .i64 ((x1).length : Int)), (44, .int .i64 (p.1 : Int))]) (fun (p : Nat × (List Int) × Int) => [imm (TR.sl TR.int) v1 x1]) (fun (p : Nat × (List Int) × Int) => p.1 + p.2.1.length = (x1).length ∧ List.drop p.1 x1 = p.2.1 ∧ rangeL seats_Share_b1 p.2.1 p.1 p.2.2 = some y43) (fun (p : Nat × (List Int) × Int) => p.2.1.length) (0, x1, (0 : Int)) ⟨by simp, by simp, h45⟩ (fun a w st => St.cut [0] ⟨rfl, rfl, rfl, rfl, rfl, rfl, trivial⟩ (by decide) rfl st) ?_
  rintro ⟨i50, r51, x37⟩ ⟨h56, h57, h55⟩
  try dsimp only at h56 h57 h55
  refine GL.weak (env' := [(1, v1), (2, .int .i64 x2), (9, .int .i64 x37), (42, v1), (43, .int .i64 ((x1).length : Int)), (44, .int .i64 (i50 : Int))]) (L' := [imm (TR.sl TR.int) v1 x1]) (fun _ _ st => st) ?_
  refine GL.seq ?_
  refine GL.region ?_
  refine RL.binI (v := .bool (decide ((i50 : Int) < ((x1).length : Int)))) rfl rfl rfl rfl rfl ?_
  refine RL.finG ?_
  refine GL.seq ?_
  refine GL.cond rfl (fun b58 => ?_) (fun b58 => ?_)
  ·have h59 : i50 < (x1).length := by have := of_decide_eq_true b58; omega
   obtain ⟨y60, r62, hr, e61, h63⟩ := drop_cons h57 rfl h59
   subst hr
   obtain ⟨z52, h53, h54⟩ := rangeL_some h55
   unfold seats_Share_b1 at h53
   try dsimp only at h53
   refine GL.skip ?_
   refine GL.seq ?_
   refine GL.block ?_
   refine GL.seq ?_
   refine GL.region ?_
   refine RL.idxS (sz := 1) 0 Tryz.underlying61 Tryz_ln3 rfl rfl rfl rfl rfl SlOf.imm (by omega) (by omega) ?_
   refine RL.ldSx (i := i50) (e' := y60) 0 Ex.ik Tryz_ln3 rfl rfl rfl rfl SlOf.imm e61 Part.self ?_
   refine RL.asg rfl rfl rfl ?_
   refine RL.finG ?_
   refine GL.region ?_
   refine RL.mv rfl rfl rfl ?_
   refine RL.mv rfl rfl rfl ?_
   refine RL.binI (v := .int .i64 (wadd x37 y60)) rfl rfl rfl rfl rfl ?_
   refine RL.asg rfl rfl rfl ?_
   refine RL.finG ?_
   refine GL.nilB ?_
   refine GL.region ?_
   refine RL.binI (v := .int .i64 ((i50 + 1 : Nat) : Int)) rfl rfl rfl rfl (binI_succ i50 (by omega)) ?_
   refine RL.mv rfl rfl rfl ?_
   refine RL.fin ?_
   cases h53
   exact fun a w st => lop_intro (i50 + 1, r62, wadd x37 y60) ⟨by show i50 + 1 + r62.length = (x1).length; simp only [List.length_cons] at h56; omega, h63, h54⟩ (by simp) (St.cut [0] ⟨rfl, rfl, rfl, rfl, rfl, rfl, trivial⟩ (by decide) rfl st)
  have h59 : ¬ i50 < (x1).length := by have := of_decide_eq_false b58; omega
  obtain rfl : r51 = [] := by rw [← h57]; exact List.drop_of_length_le (by omega)
  replace h55 : some (Fl.nx _) = some y43 := h55
  cases h55
  exact GL.exit (fun a w st => mid_intro x37 h46 (St.cut [0] ⟨rfl, rfl, rfl, trivial⟩ (by decide) rfl st))
 rintro x37 h64
 have h65 := h47 _ h64
 try dsimp only at h65
 refine GL.weak (env' := [(1, v1), (2, .int .i64 x2), (9, .int .i64 x37)]) (L' := [imm (TR.sl TR.int) v1 x1]) (fun _ _ st => st) ?_
 refine GL.seq ?_
 refine GL.region ?_
 refine RL.mv rfl rfl rfl ?_
 refine RL.lenS 0 Tryz.underlying61 rfl rfl rfl rfl SlOf.imm ?_
 obtain ⟨y69, e70, h65⟩ := bind_some h65
 replace e70 := chk_some e70
 refine RL.mkS (t := TR.int) (z := (0 : Int)) Tryz.underlying61 Tryz_lo3 (fun S => rfl) rfl rfl rfl rfl e70.1 e70.2 ?_
 intro v71
 refine RL.asg rfl rfl rfl ?_
 refine RL.finG ?_
 refine GL.seq ?_
 refine GL.region ?_
 refine RL.mv rfl rfl rfl ?_
 refine RL.lenS 0 Tryz.underlying61 rfl rfl rfl rfl SlOf.imm ?_
 obtain ⟨y75, e76, h65⟩ := bind_some h65
 replace e76 := chk_some e76
 refine RL.mkS (t := TR.int) (z := (0 : Int)) Tryz.underlying61 Tryz_lo3 (fun S => rfl) rfl rfl rfl rfl e76.1 e76.2 ?_
 intro v77
 refine RL.reL (L' := [imm (TR.sl TR.int) v1 x1, own 3 TR.int v71 (List.replicate (((x1).length : Int)).toNat (0 : Int)), own 3 TR.int v77 (List.replicate (((x1).length : Int)).toNat (0 : Int))]) rfl ?_
 refine RL.asg rfl rfl rfl ?_
 refine RL.finG ?_
 refine GL.seq ?_
 refine GL.region ?_
 refine RL.mv rfl rfl rfl ?_
 refine RL.asg rfl rfl rfl ?_
 refine RL.finG ?_
 refine GL.seq ?_
 refine GL.seq ?_
 refine GL.region ?_
 refine RL.mv rfl rfl rfl ?_
 refine RL.lenS 0 Tryz.underlying61 rfl rfl rfl rfl SlOf.imm ?_
 refine RL.mv rfl rfl rfl ?_
 refine RL.finG ?_
 refine GL.open_ 0 rfl (fun S h => len_imm S h) (fun n130 => ?_)
 obtain ⟨y131, K132, h133, h134, h135, h136, h137⟩ := bindR_K h65
 refine GL.join (ι := (List Int) × (List Int) × Int) (fun (p : (List Int) × (List Int) × Int) => [(12, v71), (13, v77), (14, .int .i64 p.2.2)]) (fun (p : (List Int) × (List Int) × Int) => [own 3 TR.int v71 p.1, own 3 TR.int v77 p.2.1]) (fun (p : (List Int) × (List Int) × Int) => K132 (.nx (p.1, p.2.1, p.2.2))) ?_ ?_
 ·refine GL.block ?_
  refine GL.loop (ι := Nat × (List Int) × (List Int) × (List Int) × Int) (fun (p : Nat × (List Int) × (List Int) × (List Int) × Int) => [(2, .int .i64 x2), (9, .int .i64 x37), (12, v71), (13, v77), (14, .int .i64 p.2.2.2.2), (59, v1), (60, .int .i64 ((x1).length : Int)), (61, .int .i64 (p.1 : Int))]) (fun (p : Nat × (List Int) × (List Int) × (List Int) × Int) => [own 3 TR.int v71 p.2.2.1, own 3 TR.int v77 p.2.2.2.1, imm (TR.sl TR.int) v1 x1]) (fun (p : Nat × (List Int) × (List Int) × (List Int) × Int) => p.1 + p.2.1.length = (x1).length ∧ List.drop p.1 x1 = p.2.1 ∧ rangeL (seats_Share_b2 x37 x2) p.2.1 p.1 (p.2.2.1, p.2.2.2.1, p.2.2.2.2) = some y131) (fun (p : Nat × (List Int) × (List Int) × (List Int) × Int) => p.2.1.length) (0, x1, (List.replicate (((x1).length : Int)).toNat (0 : Int)), (List.replicate (((x1).length : Int)).toNat (0 : Int)), x2) ⟨by simp, by simp, h133⟩ (fun a w st => St.cut [1, 2, 0] ⟨rfl, rfl, rfl, rfl, rfl, rfl, rfl, rfl, trivial⟩ (by decide) rfl st) ?_
  rintro ⟨i138, r139, l103, l104, x105⟩ ⟨h144, h145, h143⟩
  try dsimp only at h144 h145 h143
  refine GL.weak (env' := [(2, .int .i64 x2), (9, .int .i64 x37), (12, v71), (13, v77), (14, .int .i64 x105), (59, v1), (60, .int .i64 ((x1).length : Int)), (61, .int .i64 (i138 : Int))]) (L' := [own 3 TR.int v71 l103, own 3 TR.int v77 l104, imm (TR.sl TR.int) v1 x1]) (fun _ _ st => st) ?_
  refine GL.seq ?_
  refine GL.region ?_
  refine RL.binI (v := .bool (decide ((i138 : Int) < ((x1).length : Int)))) rfl rfl rfl rfl rfl ?_
  refine RL.finG ?_
  refine GL.seq ?_
  refine GL.cond rfl (fun b146 => ?_) (fun b146 => ?_)
  ·have h147 : i138 < (x1).length := by have := of_decide_eq_true b146; omega
   obtain ⟨y148, r150, hr, e149, h151⟩ := drop_cons h145 rfl h147
   subst hr
   obtain ⟨z140, h141, h142⟩ := rangeL_some h143
   unfold seats_Share_b2 at h141
   try dsimp only at h141
   refine GL.skip ?_
   refine GL.seq ?_
   refine GL.block ?_
   refine GL.seq ?_
   refine GL.region ?_
   refine RL.mv rfl rfl rfl ?_
   refine RL.idxS (sz := 1) 2 Tryz.underlying61 Tryz_ln3 rfl rfl rfl rfl rfl SlOf.imm (by omega) (by omega) ?_
   refine RL.ldSx (i := i138) (e' := y148) 2 Ex.ik Tryz_ln3 rfl rfl rfl rfl SlOf.imm e149 Part.self ?_
   refine RL.asg rfl rfl rfl ?_
   refine RL.asg rfl rfl rfl ?_
   refine RL.finG ?_
   refine GL.seq ?_
   refine GL.regionA rfl rfl ?_
   refine RA.mv 0 rfl (by kernel_rfl) rfl rfl rfl ?_
   refine RA.mv 1 rfl (by kernel_rfl) rfl rfl rfl ?_
   refine RA.mv 2 rfl (by kernel_rfl) rfl rfl rfl ?_
   refine RA.mv 3 rfl (by kernel_rfl) rfl rfl rfl ?_
   refine RA.mv 4 rfl (by kernel_rfl) rfl rfl rfl ?_
   refine RA.mv 5 rfl (by kernel_rfl) rfl rfl rfl ?_
   refine RA.binI (v := .int .i64 (wmul y148 x2)) 6 rfl (by kernel_rfl) rfl rfl rfl rfl rfl ?_
   refine RA.mv 7 rfl (by kernel_rfl) rfl rfl rfl ?_
   obtain ⟨y160, e161, h141⟩ := bind_some h141
   replace e161 := chk_some e161
   refine RA.quo 8 rfl (by kernel_rfl) rfl rfl rfl rfl e161 ?_
   refine RA.mv 9 rfl (by kernel_rfl) rfl rfl rfl ?_
   refine RA.mv 10 rfl (by kernel_rfl) rfl rfl rfl ?_
   refine RA.binI (v := .int .i64 (wmul y148 x2)) 11 rfl (by kernel_rfl) rfl rfl rfl rfl rfl ?_
   refine RA.mv 12 rfl (by kernel_rfl) rfl rfl rfl ?_
   obtain ⟨y162, e163, h141⟩ := bind_some h141
   replace e163 := chk_some e163
   refine RA.rem 13 rfl (by kernel_rfl) rfl rfl rfl rfl e163 ?_
   obtain ⟨y164, e165, h141⟩ := bind_some h141
   refine RA.idxS (sz := 1) 0 Tryz.underlying61 Tryz_ln3 14 rfl (by kernel_rfl) rfl rfl rfl rfl rfl SlOf.own (idx_some e165).1 (idx_some e165).2.1 ?_
   refine RA.seq 15 rfl (by kernel_rfl) ?_
   refine RL.stS (i := i138) (e' := IntKind.wrap .i64 (Int.tdiv (wmul y148 x2) x37)) (e1 := IntKind.wrap .i64 (Int.tdiv (wmul y148 x2) x37)) (r := TR.int) 0 Tryz_ln3 rfl rfl rfl rfl VR.int rfl (idx_some e165).2.2 Upd.self ?_
   refine RL.fin ?_
   refine RA.next ?_
   obtain ⟨y166, e167, h141⟩ := bind_some h141
   refine RA.idxS (sz := 1) 1 Tryz.underlying61 Tryz_ln3 16 rfl (by kernel_rfl) rfl rfl rfl rfl rfl SlOf.own (idx_some e167).1 (idx_some e167).2.1 ?_
   refine RA.seq 17 rfl (by kernel_rfl) ?_
   refine RL.stS (i := i138) (e' := Int.tmod (wmul y148 x2) x37) (e1 := Int.tmod (wmul y148 x2) x37) (r := TR.int) 1 Tryz_ln3 rfl rfl rfl rfl VR.int rfl (idx_some e167).2.2 Upd.self ?_
   refine RL.fin ?_
   refine RA.next ?_
   refine RA.doneG (by kernel_rfl) ?_
   refine GL.weak (env' := [(2, .int .i64 x2), (9, .int .i64 x37), (12, v71), (13, v77), (14, .int .i64 x105), (15, .int .i64 (i138 : Int)), (59, v1), (60, .int .i64 ((x1).length : Int)), (61, .int .i64 (i138 : Int))]) (L' := [own 3 TR.int v71 (List.set l103 i138 (IntKind.wrap .i64 (Int.tdiv (wmul y148 x2) x37))), own 3 TR.int v77 (List.set l104 i138 (Int.tmod (wmul y148 x2) x37)), imm (TR.sl TR.int) v1 x1]) (fun a w st => St.cut [0, 1, 2] ⟨rfl, rfl, rfl, rfl, rfl, rfl, rfl, rfl, rfl, trivial⟩ (by decide) rfl st) ?_
   refine GL.region ?_
   refine RL.mv rfl rfl rfl ?_
   refine RL.mv rfl rfl rfl ?_
   refine RL.mv rfl rfl rfl ?_
   obtain ⟨y170, e171, h141⟩ := bind_some h141
   refine RL.idxS (sz := 1) 0 Tryz.underlying61 Tryz_ln3 rfl rfl rfl rfl rfl SlOf.own (idx_some e171).1 (idx_some e171).2.1 ?_
   refine RL.ldSx (i := i138) (e' := y170) 0 Ex.ik Tryz_ln3 rfl rfl rfl rfl SlOf.own (idx_some e171).2.2 Part.self ?_
   refine RL.binI (v := .int .i64 (wsub x105 y170)) rfl rfl rfl rfl rfl ?_
   refine RL.asg rfl rfl rfl ?_
   refine RL.finG ?_
   refine GL.nilB ?_
   refine GL.region ?_
   refine RL.binI (v := .int .i64 ((i138 + 1 : Nat) : Int)) rfl rfl rfl rfl (binI_succ i138 (by omega)) ?_
   refine RL.mv rfl rfl rfl ?_
   refine RL.fin ?_
   cases h141
   exact fun a w st => lop_intro (i138 + 1, r150, (List.set l103 i138 (IntKind.wrap .i64 (Int.tdiv (wmul y148 x2) x37))), (List.set l104 i138 (Int.tmod (wmul y148 x2) x37)), wsub x105 y170) ⟨by show i138 + 1 + r150.length = (x1).length; simp only [List.length_cons] at h144; omega, h151, h142⟩ (by simp) (St.cut [0, 1, 2] ⟨rfl, rfl, rfl, rfl, rfl, rfl, rfl, rfl, trivial⟩ (by decide) rfl st)
  have h147 : ¬ i138 < (x1).length := by have := of_decide_eq_false b146; omega
  obtain rfl : r139 = [] := by rw [← h145]; exact List.drop_of_length_le (by omega)
  replace h143 : some (Fl.nx _) = some y131 := h143
  cases h143
  exact GL.exit (fun a w st => mid_intro (l103, l104, x105) h134 (St.cut [0, 1] ⟨rfl, rfl, rfl, trivial⟩ (by decide) rfl st))
 rintro ⟨l103, l104, x105⟩ h172
 have h173 := h135 _ h172
 try dsimp only at h173
 refine GL.weak (env' := [(12, v71), (13, v77), (14, .int .i64 x105)]) (L' := [own 3 TR.int v71 l103, own 3 TR.int v77 l104]) (fun _ _ st => st) ?_
 refine GL.seq ?_
 refine GL.seq ?_
 refine GL.region ?_
 refine RL.mv rfl rfl rfl ?_
 refine RL.mv rfl rfl rfl ?_
 refine RL.finG ?_
 obtain ⟨y281, e282, h173⟩ := bind_some h173
 replace e282 := chk_some e282
 obtain ⟨y283, K284, h285, h286, h287, h288, h289⟩ := bindR_K h173
 refine GL.join (ι := (List Int) × (List Int)) (fun (p : (List Int) × (List Int)) => [(12, v71)]) (fun (p : (List Int) × (List Int)) => [own 3 TR.int v71 p.1]) (fun (p : (List Int) × (List Int)) => K284 (.nx (p.1, p.2))) ?_ ?_
 ·refine GL.block ?_
  refine GL.loop (ι := Nat × Nat × (List Int) × (List Int)) (fun (p : Nat × Nat × (List Int) × (List Int)) => [(12, v71), (13, v77), (89, .int .i64 x105), (90, .int .i64 (p.1 : Int))]) (fun (p : Nat × Nat × (List Int) × (List Int)) => [own 3 TR.int v71 p.2.2.1, own 3 TR.int v77 p.2.2.2]) (fun (p : Nat × Nat × (List Int) × (List Int)) => p.1 + p.2.1 = (x105).toNat ∧ rangeN seats_Share_b3 p.2.1 p.1 (p.2.2.1, p.2.2.2) = some y283) (fun (p : Nat × Nat × (List Int) × (List Int)) => p.2.1) (0, (x105).toNat, l103, l104) ⟨by simp, h285⟩ (fun a w st => St.cut [0, 1] ⟨rfl, rfl, rfl, rfl, trivial⟩ (by decide) rfl st) ?_
  rintro ⟨i290, r291, l226, l227⟩ ⟨h296, h295⟩
  try dsimp only at h296 h295
  refine GL.weak (env' := [(12, v71), (13, v77), (89, .int .i64 x105), (90, .int .i64 (i290 : Int))]) (L' := [own 3 TR.int v71 l226, own 3 TR.int v77 l227]) (fun _ _ st => st) ?_
  refine GL.seq ?_
  refine GL.region ?_
  refine RL.binI (v := .bool (decide ((i290 : Int) < x105))) rfl rfl rfl rfl rfl ?_
  refine RL.finG ?_
  refine GL.seq ?_
  refine GL.cond rfl (fun b298 => ?_) (fun b298 => ?_)
  ·have h299 : i290 < (x105).toNat := by have := of_decide_eq_true b298; omega
   obtain ⟨r300, hr⟩ : ∃ m, r291 = m + 1 := ⟨r291 - 1, by omega⟩
   subst hr
   obtain ⟨z292, h293, h294⟩ := rangeN_some h295
   unfold seats_Share_b3 at h293
   try dsimp only at h293
   refine GL.skip ?_
   refine GL.seq ?_
   refine GL.block ?_
   refine GL.seq ?_
   refine GL.region ?_
   refine RL.asg rfl rfl rfl ?_
   refine RL.finG ?_
   refine GL.seq ?_
   refine GL.seq ?_
   refine GL.region ?_
   refine RL.mv rfl rfl rfl ?_
   refine RL.lenS 1 Tryz.underlying61 rfl rfl rfl rfl SlOf.own ?_
   refine RL.mv rfl rfl rfl ?_
   refine RL.finG ?_
   refine GL.lenOwn 1 rfl (fun n311 => ?_)
   obtain ⟨y312, K313, h314, h315, h316, h317, h318⟩ := bindF_K h293
   refine GL.join (ι := Int) (fun (p : Int) => [(12, v71), (13, v77), (17, .int .i64 p), (89, .int .i64 x105), (90, .int .i64 (i290 : Int))]) (fun (p : Int) => [own 3 TR.int v71 l226, own 3 TR.int v77 l227]) (fun (p : Int) => K313 (.nx p)) ?_ ?_
   ·refine GL.block ?_
    refine GL.loop (ι := Nat × Nat × Int) (fun (p : Nat × Nat × Int) => [(12, v71), (13, v77), (17, .int .i64 p.2.2), (89, .int .i64 x105), (90, .int .i64 (i290 : Int)), (93, .int .i64 ((l227).length : Int)), (94, .int .i64 (p.1 : Int))]) (fun (p : Nat × Nat × Int) => [own 3 TR.int v71 l226, own 3 TR.int v77 l227]) (fun (p : Nat × Nat × Int) => p.1 + p.2.1 = (l227).length ∧ rangeN (seats_Share_b4 l227) p.2.1 p.1 p.2.2 = some y312) (fun (p : Nat × Nat × Int) => p.2.1) (0, (l227).length, (0 : Int)) ⟨by simp, h314⟩ (fun a w st => St.cut [0, 1] ⟨rfl, rfl, rfl, rfl, rfl, rfl, rfl, trivial⟩ (by decide) rfl st) ?_
    rintro ⟨i319, r320, x301⟩ ⟨h325, h324⟩
    try dsimp only at h325 h324
    refine GL.weak (env' := [(12, v71), (13, v77), (17, .int .i64 x301), (89, .int .i64 x105), (90, .int .i64 (i290 : Int)), (93, .int .i64 ((l227).length : Int)), (94, .int .i64 (i319 : Int))]) (L' := [own 3 TR.int v71 l226, own 3 TR.int v77 l227]) (fun _ _ st => st) ?_
    refine GL.seq ?_
    refine GL.region ?_
    refine RL.binI (v := .bool (decide ((i319 : Int) < ((l227).length : Int)))) rfl rfl rfl rfl rfl ?_
    refine RL.finG ?_
    refine GL.seq ?_
    refine GL.cond rfl (fun b327 => ?_) (fun b327 => ?_)
    ·have h328 : i319 < (l227).length := by have := of_decide_eq_true b327; omega
     obtain ⟨r329, hr⟩ : ∃ m, r320 = m + 1 := ⟨r320 - 1, by omega⟩
     subst hr
     obtain ⟨z321, h322, h323⟩ := rangeN_some h324
     unfold seats_Share_b4 at h322
     try dsimp only at h322
     refine GL.skip ?_
     refine GL.seq ?_
     refine GL.block ?_
     refine GL.seq ?_
     refine GL.region ?_
     refine RL.mv rfl rfl rfl ?_
     refine RL.asg rfl rfl rfl ?_
     refine RL.finG ?_
     refine GL.seq ?_
     refine GL.regionQ rfl rfl (by kernel_rfl) ?_
     refine RL.mv rfl rfl rfl ?_
     refine RL.mv rfl rfl rfl ?_
     obtain ⟨y334, e335, h322⟩ := bind_some h322
     refine RL.idxS (sz := 1) 1 Tryz.underlying61 Tryz_ln3 rfl rfl rfl rfl rfl SlOf.own (idx_some e335).1 (idx_some e335).2.1 ?_
     refine RL.ldSx (i := i319) (e' := y334) 1 Ex.ik Tryz_ln3 rfl rfl rfl rfl SlOf.own (idx_some e335).2.2 Part.self ?_
     refine RL.mv rfl rfl rfl ?_
     refine RL.mv rfl rfl rfl ?_
     obtain ⟨y336, e337, h322⟩ := bind_some h322
     refine RL.idxS (sz := 1) 1 Tryz.underlying61 Tryz_ln3 rfl rfl rfl rfl rfl SlOf.own (idx_some e337).1 (idx_some e337).2.1 ?_
     refine RL.ldSx (i := (x301).toNat) (e' := y336) 1 Ex.ik Tryz_ln3 rfl rfl rfl rfl SlOf.own (idx_some e337).2.2 Part.self ?_
     refine RL.binI (v := .bool (decide (y334 > y336))) rfl rfl rfl rfl rfl ?_
     refine RL.finQG ?_
     refine GL.cond rfl (fun b338 => ?_) (fun b338 => ?_)
     ·replace h322 := ite_t b338 h322
      refine GL.region ?_
      refine RL.mv rfl rfl rfl ?_
      refine RL.asg rfl rfl rfl ?_
      refine RL.finG ?_
      refine GL.nilB ?_
      refine GL.region ?_
      refine RL.binI (v := .int .i64 ((i319 + 1 : Nat) : Int)) rfl rfl rfl rfl (binI_succ i319 (by omega)) ?_
      refine RL.mv rfl rfl rfl ?_
      refine RL.fin ?_
      cases h322
      exact fun a w st => lop_intro (i319 + 1, r329, (i319 : Int)) ⟨by show i319 + 1 + r329 = (l227).length; omega, h323⟩ (by simp) (St.cut [0, 1] ⟨rfl, rfl, rfl, rfl, rfl, rfl, rfl, trivial⟩ (by decide) rfl st)
     replace h322 := ite_f b338 h322
     refine GL.skip ?_
     refine GL.nilB ?_
     refine GL.region ?_
     refine RL.binI (v := .int .i64 ((i319 + 1 : Nat) : Int)) rfl rfl rfl rfl (binI_succ i319 (by omega)) ?_
     refine RL.mv rfl rfl rfl ?_
     refine RL.fin ?_
     cases h322
     exact fun a w st => lop_intro (i319 + 1, r329, x301) ⟨by show i319 + 1 + r329 = (l227).length; omega, h323⟩ (by simp) (St.cut [0, 1] ⟨rfl, rfl, rfl, rfl, rfl, rfl, rfl, trivial⟩ (by decide) rfl st)
    have h328 : ¬ i319 < (l227).length := by have := of_decide_eq_false b327; omega
    obtain rfl : r320 = 0 := by omega
    replace h324 : some (Fl.nx _) = some y312 := h324
    cases h324
    exact GL.exit (fun a w st => mid_intro x301 h315 (St.cut [0, 1] ⟨rfl, rfl, rfl, rfl, rfl, trivial⟩ (by decide) rfl st))
   rintro x301 h339
   have h340 := h316 _ h339
   try dsimp only at h340
   refine GL.weak (env' := [(12, v71), (13, v77), (17, .int .i64 x301), (89, .int .i64 x105), (90, .int .i64 (i290 : Int))]) (L' := [own 3 TR.int v71 l226, own 3 TR.int v77 l227]) (fun _ _ st => st) ?_
   refine GL.seq ?_
   refine GL.region ?_
   refine RL.mv rfl rfl rfl ?_
   refine RL.mv rfl rfl rfl ?_
   obtain ⟨y345, e346, h340⟩ := bind_some h340
   refine RL.idxS (sz := 1) 0 Tryz.underlying61 Tryz_ln3 rfl rfl rfl rfl rfl SlOf.own (idx_some e346).1 (idx_some e346).2.1 ?_
   refine RL.ldSx (i := (x301).toNat) (e' := y345) 0 Ex.ik Tryz_ln3 rfl rfl rfl rfl SlOf.own (idx_some e346).2.2 Part.self ?_
   refine RL.binI (v := .int .i64 (wadd y345 (1 : Int))) rfl rfl rfl rfl rfl ?_
   obtain ⟨y347, e348, h340⟩ := bind_some h340
   refine RL.idxS (sz := 1) 0 Tryz.underlying61 Tryz_ln3 rfl rfl rfl rfl rfl SlOf.own (idx_some e348).1 (idx_some e348).2.1 ?_
   refine RL.stS (i := (x301).toNat) (e' := wadd y345 (1 : Int)) (e1 := wadd y345 (1 : Int)) (r := TR.int) 0 Tryz_ln3 rfl rfl rfl rfl VR.int rfl (idx_some e348).2.2 Upd.self ?_
   refine RL.finG ?_
   refine GL.region ?_
   refine RL.mv rfl rfl rfl ?_
   refine RL.mv rfl rfl rfl ?_
   obtain ⟨y351, e352, h340⟩ := bind_some h340
   refine RL.idxS (sz := 1) 1 Tryz.underlying61 Tryz_ln3 rfl rfl rfl rfl rfl SlOf.own (idx_some e352).1 (idx_some e352).2.1 ?_
   refine RL.stS (i := (x301).toNat) (e' := (-1 : Int)) (e1 := (-1 : Int)) (r := TR.int) 1 Tryz_ln3 rfl rfl rfl rfl VR.int rfl (idx_some e352).2.2 Upd.self ?_
   refine RL.reL (L' := [own 3 TR.int v71 (List.set l226 ((x301).toNat) (wadd y345 (1 : Int))), own 3 TR.int v77 (List.set l227 ((x301).toNat) (-1 : Int))]) rfl ?_
   refine RL.finG ?_
   refine GL.nilB ?_
   refine GL.region ?_
   refine RL.binI (v := .int .i64 ((i290 + 1 : Nat) : Int)) rfl rfl rfl rfl (binI_succ i290 (by omega)) ?_
   refine RL.mv rfl rfl rfl ?_
   refine RL.fin ?_
   cases h340
   exact fun a w st => lop_intro (i290 + 1, r300, (List.set l226 ((x301).toNat) (wadd y345 (1 : Int))), (List.set l227 ((x301).toNat) (-1 : Int))) ⟨by show i290 + 1 + r300 = (x105).toNat; omega, h294⟩ (by simp) (St.cut [0, 1] ⟨rfl, rfl, rfl, rfl, trivial⟩ (by decide) rfl st)
  have h299 : ¬ i290 < (x105).toNat := by have := of_decide_eq_false b298; omega
  obtain rfl : r291 = 0 := by omega
  replace h295 : some (Fl.nx _) = some y283 := h295
  cases h295
  exact GL.exit (fun a w st => mid_intro (l226, l227) h286 (St.cut [0] ⟨rfl, trivial⟩ (by decide) rfl st))
 rintro ⟨l226, l227⟩ h353
 have h354 := h287 _ h353
 try dsimp only at h354
 refine GL.weak (env' := [(12, v71)]) (L' := [own 3 TR.int v71 l226]) (fun _ _ st => st) ?_
 refine GL.seq ?_
 refine GL.region ?_
 refine RL.mv rfl rfl rfl ?_
 refine RL.asg rfl rfl rfl ?_
 refine RL.asg rfl rfl rfl ?_
 refine RL.finG ?_
 have h354 := Option.some.inj h354
 subst h354
 exact GL.ret (Gx.ret (v := .tuple #[v71, .int .i64 (0 : Int)]) (res2 rfl rfl rfl) (fun a w st => (st.pick [0] (by decide) rfl).toPost v71))

theorem power_Check_c (S : Hp) (w : World) (hS : S.sub w) (v0 : Value) (x0 : (List Int)) (k0 : ((TR.sl TR.int)).vrep S v0 x0) (x1 : Int) (res : Int) (hm : power_Check_m x0 x1 = some res) : Calls Tryz.prog 55 #[v0, .int .i64 x1] w (PostC w (.int .i64 res)) := by
 refine calls_enter 39 Tryz.func55 Tryz.ntmps55 rfl S true [(0, v0), (1, .int .i64 x1)] [imm (TR.sl TR.int) v0 x0] rfl ⟨rfl, ⟨rfl, trivial⟩⟩ hS ⟨k0, trivial⟩ ?_
 unfold power_Check_m at hm
 refine GL.seq ?_
 refine GL.region ?_
 refine RL.asg rfl rfl rfl ?_
 refine RL.finG ?_
 refine GL.seq ?_
 refine GL.seq ?_
 obtain ⟨y6, K7, h8, h9, h10, h11, h12⟩ := bindR_K hm
 refine GL.join (ι := Bool) (fun (p : Bool) => [(0, v0), (1, .int .i64 x1), (15, .bool p)]) (fun (p : Bool) => [imm (TR.sl TR.int) v0 x0]) (fun (p : Bool) => K7 (.nx p)) ?_ ?_
 ·skip
  refine GL.region ?_
  refine RL.mv rfl rfl rfl ?_
  refine RL.lenS 0 Tryz.underlying61 rfl rfl rfl rfl SlOf.imm ?_
  refine RL.binI (v := .bool (decide (((x0).length : Int) < (1 : Int)))) rfl rfl rfl rfl rfl ?_
  refine RL.mv rfl rfl rfl ?_
  refine RL.split (t := 11) rfl (fun b13 => ?_) (fun b13 => ?_)
  ·replace h8 := ite_t b13 h8
   refine RL.skip rfl rfl ?_
   refine RL.skip rfl rfl ?_
   refine RL.skip rfl rfl ?_
   refine RL.pickT rfl rfl rfl rfl ?_
   refine RL.fin ?_
   cases h8
   exact fun a w st => mid_intro true h9 (St.cut [0] ⟨rfl, rfl, rfl, trivial⟩ (by decide) rfl st)
  replace h8 := ite_f b13 h8
  refine RL.mv rfl rfl rfl ?_
  refine RL.lenS 0 Tryz.underlying61 rfl rfl rfl rfl SlOf.imm ?_
  refine RL.binI (v := .bool (decide (((x0).length : Int) > (6 : Int)))) rfl rfl rfl rfl rfl ?_
  refine RL.pickF rfl rfl rfl rfl ?_
  refine RL.fin ?_
  cases h8
  exact fun a w st => mid_intro (decide (((x0).length : Int) > (6 : Int))) h9 (St.cut [0] ⟨rfl, rfl, rfl, trivial⟩ (by decide) rfl st)
 rintro x5 h14
 have h15 := h10 _ h14
 try dsimp only at h15
 refine GL.weak (env' := [(0, v0), (1, .int .i64 x1), (15, .bool x5)]) (L' := [imm (TR.sl TR.int) v0 x0]) (fun _ _ st => st) ?_
 refine GL.cond rfl (fun b16 => ?_) (fun b16 => ?_)
 ·replace h15 := ite_t b16 h15
  refine GL.seq ?_
  refine GL.region ?_
  refine RL.asg rfl rfl rfl ?_
  refine RL.finG ?_
  have h15 := Option.some.inj h15
  subst h15
  exact GL.ret (Gx.ret (v := .int .i64 (2 : Int)) (res1 rfl rfl) (fun a w st => st.toPostC rfl))
 replace h15 := ite_f b16 h15
 refine GL.skip ?_
 refine GL.seq ?_
 refine GL.region ?_
 refine RL.asg rfl rfl rfl ?_
 refine RL.finG ?_
 refine GL.seq ?_
 refine GL.seq ?_
 refine GL.region ?_
 refine RL.mv rfl rfl rfl ?_
 refine RL.lenS 0 Tryz.underlying61 rfl rfl rfl rfl SlOf.imm ?_
 refine RL.mv rfl rfl rfl ?_
 refine RL.finG ?_
 refine GL.open_ 0 rfl (fun S h => len_imm S h) (fun n36 => ?_)
 obtain ⟨y37, K38, h39, h40, h41, h42, h43⟩ := bindR_K h15
 refine GL.join (ι := Int) (fun (p : Int) => [(1, .int .i64 x1), (5, .int .i64 p)]) (fun (p : Int) => []) (fun (p : Int) => K38 (.nx p)) ?_ ?_
 ·refine GL.block ?_
  refine GL.loop (ι := Nat × (List Int) × Int) (fun (p : Nat × (List Int) × Int) => [(1, .int .i64 x1), (5, .int .i64 p.2.2), (16, v0), (17, .int .i64 ((x0).length : Int)), (18, .int .i64 (p.1 : Int))]) (fun (p : Nat × (List Int) × Int) => [imm (TR.sl TR.int) v0 x0]) (fun (p : Nat × (List Int) × Int) => p.1 + p.2.1.length = (x0).length ∧ List.drop p.1 x0 = p.2.1 ∧ rangeL power_Check_b1 p.2.1 p.1 p.2.2 = some y37) (fun (p : Nat × (List Int) × Int) => p.2.1.length) (0, x0, (0 : Int)) ⟨by simp, by simp, h39⟩ (fun a w st => St.cut [0] ⟨rfl, rfl, rfl, rfl, rfl, trivial⟩ (by decide) rfl st) ?_
  rintro ⟨i44, r45, x17⟩ ⟨h50, h51, h49⟩
  try dsimp only at h50 h51 h49
  refine GL.weak (env' := [(1, .int .i64 x1), (5, .int .i64 x17), (16, v0), (17, .int .i64 ((x0).length : Int)), (18, .int .i64 (i44 : Int))]) (L' := [imm (TR.sl TR.int) v0 x0]) (fun _ _ st => st) ?_
  refine GL.seq ?_
  refine GL.region ?_
  refine RL.binI (v := .bool (decide ((i44 : Int) < ((x0).length : Int)))) rfl rfl rfl rfl rfl ?_
  refine RL.finG ?_
  refine GL.seq ?_
  refine GL.cond rfl (fun b52 => ?_) (fun b52 => ?_)
  ·have h53 : i44 < (x0).length := by have := of_decide_eq_true b52; omega
   obtain ⟨y54, r56, hr, e55, h57⟩ := drop_cons h51 rfl h53
   subst hr
   obtain ⟨z46, h47, h48⟩ := rangeL_some h49
   unfold power_Check_b1 at h47
   try dsimp only at h47
   refine GL.skip ?_
   refine GL.seq ?_
   refine GL.block ?_
   refine GL.seq ?_
   refine GL.region ?_
   refine RL.idxS (sz := 1) 0 Tryz.underlying61 Tryz_ln3 rfl rfl rfl rfl rfl SlOf.imm (by omega) (by omega) ?_
   refine RL.ldSx (i := i44) (e' := y54) 0 Ex.ik Tryz_ln3 rfl rfl rfl rfl SlOf.imm e55 Part.self ?_
   refine RL.asg rfl rfl rfl ?_
   refine RL.finG ?_
   refine GL.seq ?_
   refine GL.seq ?_
   obtain ⟨y61, K62, h63, h64, h65, h66, h67⟩ := bindF_K h47
   refine GL.join (ι := Bool) (fun (p : Bool) => [(1, .int .i64 x1), (5, .int .i64 x17), (7, .int .i64 y54), (16, v0), (17, .int .i64 ((x0).length : Int)), (18, .int .i64 (i44 : Int)), (27, .bool p)]) (fun (p : Bool) => [imm (TR.sl TR.int) v0 x0]) (fun (p : Bool) => K62 (.nx p)) ?_ ?_
   ·skip
    refine GL.region ?_
    refine RL.mv rfl rfl rfl ?_
    refine RL.binI (v := .bool (decide (y54 < (0 : Int)))) rfl rfl rfl rfl rfl ?_
    refine RL.mv rfl rfl rfl ?_
    refine RL.split (t := 24) rfl (fun b68 => ?_) (fun b68 => ?_)
    ·replace h63 := ite_t b68 h63
     refine RL.skip rfl rfl ?_
     refine RL.skip rfl rfl ?_
     refine RL.pickT rfl rfl rfl rfl ?_
     refine RL.fin ?_
     cases h63
     exact fun a w st => mid_intro true h64 (St.cut [0] ⟨rfl, rfl, rfl, rfl, rfl, rfl, rfl, trivial⟩ (by decide) rfl st)
    replace h63 := ite_f b68 h63
    refine RL.mv rfl rfl rfl ?_
    refine RL.binI (v := .bool (decide (y54 > (1000 : Int)))) rfl rfl rfl rfl rfl ?_
    refine RL.pickF rfl rfl rfl rfl ?_
    refine RL.fin ?_
    cases h63
    exact fun a w st => mid_intro (decide (y54 > (1000 : Int))) h64 (St.cut [0] ⟨rfl, rfl, rfl, rfl, rfl, rfl, rfl, trivial⟩ (by decide) rfl st)
   rintro x60 h69
   have h70 := h65 _ h69
   try dsimp only at h70
   refine GL.weak (env' := [(1, .int .i64 x1), (5, .int .i64 x17), (7, .int .i64 y54), (16, v0), (17, .int .i64 ((x0).length : Int)), (18, .int .i64 (i44 : Int)), (27, .bool x60)]) (L' := [imm (TR.sl TR.int) v0 x0]) (fun _ _ st => st) ?_
   refine GL.cond rfl (fun b71 => ?_) (fun b71 => ?_)
   ·replace h70 := ite_t b71 h70
    refine GL.seq ?_
    refine GL.region ?_
    refine RL.asg rfl rfl rfl ?_
    refine RL.finG ?_
    cases h70
    replace h48 : some (Fl.rt _) = some y37 := h48
    cases h48
    have hh := h42 _ h40
    subst hh
    exact GL.ret (Gx.ret (v := .int .i64 (1 : Int)) (res1 rfl rfl) (fun a w st => st.toPostC rfl))
   replace h70 := ite_f b71 h70
   refine GL.skip ?_
   refine GL.region ?_
   refine RL.mv rfl rfl rfl ?_
   refine RL.mv rfl rfl rfl ?_
   refine RL.binI (v := .int .i64 (wadd x17 y54)) rfl rfl rfl rfl rfl ?_
   refine RL.asg rfl rfl rfl ?_
   refine RL.finG ?_
   refine GL.nilB ?_
   refine GL.region ?_
   refine RL.binI (v := .int .i64 ((i44 + 1 : Nat) : Int)) rfl rfl rfl rfl (binI_succ i44 (by omega)) ?_
   refine RL.mv rfl rfl rfl ?_
   refine RL.fin ?_
   cases h70
   exact fun a w st => lop_intro (i44 + 1, r56, wadd x17 y54) ⟨by show i44 + 1 + r56.length = (x0).length; simp only [List.length_cons] at h50; omega, h57, h48⟩ (by simp) (St.cut [0] ⟨rfl, rfl, rfl, rfl, rfl, trivial⟩ (by decide) rfl st)
  have h53 : ¬ i44 < (x0).length := by have := of_decide_eq_false b52; omega
  obtain rfl : r45 = [] := by rw [← h51]; exact List.drop_of_length_le (by omega)
  replace h49 : some (Fl.nx _) = some y37 := h49
  cases h49
  exact GL.exit (fun a w st => mid_intro x17 h40 (St.cut [] ⟨rfl, rfl, trivial⟩ (by decide) rfl st))
 rintro x17 h72
 have h73 := h41 _ h72
 try dsimp only at h73
 refine GL.weak (env' := [(1, .int .i64 x1), (5, .int .i64 x17)]) (L' := []) (fun _ _ st => st) ?_
 refine GL.seq ?_
 refine GL.seq ?_
 obtain ⟨y77, K78, h79, h80, h81, h82, h83⟩ := bindR_K h73
 refine GL.join (ι := Bool) (fun (p : Bool) => [(38, .bool p)]) (fun (p : Bool) => []) (fun (p : Bool) => K78 (.nx p)) ?_ ?_
 ·skip
  refine GL.region ?_
  refine RL.mv rfl rfl rfl ?_
  refine RL.binI (v := .bool (decide (x1 < (1 : Int)))) rfl rfl rfl rfl rfl ?_
  refine RL.mv rfl rfl rfl ?_
  refine RL.split (t := 34) rfl (fun b84 => ?_) (fun b84 => ?_)
  ·replace h79 := ite_t b84 h79
   refine RL.skip rfl rfl ?_
   refine RL.skip rfl rfl ?_
   refine RL.skip rfl rfl ?_
   refine RL.pickT rfl rfl rfl rfl ?_
   refine RL.fin ?_
   cases h79
   exact fun a w st => mid_intro true h80 (St.cut [] ⟨rfl, trivial⟩ (by decide) rfl st)
  replace h79 := ite_f b84 h79
  refine RL.mv rfl rfl rfl ?_
  refine RL.mv rfl rfl rfl ?_
  refine RL.binI (v := .bool (decide (x1 > x17))) rfl rfl rfl rfl rfl ?_
  refine RL.pickF rfl rfl rfl rfl ?_
  refine RL.fin ?_
  cases h79
  exact fun a w st => mid_intro (decide (x1 > x17)) h80 (St.cut [] ⟨rfl, trivial⟩ (by decide) rfl st)
 rintro x76 h85
 have h86 := h81 _ h85
 try dsimp only at h86
 refine GL.weak (env' := [(38, .bool x76)]) (L' := []) (fun _ _ st => st) ?_
 refine GL.cond rfl (fun b87 => ?_) (fun b87 => ?_)
 ·replace h86 := ite_t b87 h86
  refine GL.seq ?_
  refine GL.region ?_
  refine RL.asg rfl rfl rfl ?_
  refine RL.finG ?_
  have h86 := Option.some.inj h86
  subst h86
  exact GL.ret (Gx.ret (v := .int .i64 (3 : Int)) (res1 rfl rfl) (fun a w st => st.toPostC rfl))
 replace h86 := ite_f b87 h86
 refine GL.skip ?_
 refine GL.seq ?_
 refine GL.region ?_
 refine RL.asg rfl rfl rfl ?_
 refine RL.finG ?_
 have h86 := Option.some.inj h86
 subst h86
 exact GL.ret (Gx.ret (v := .int .i64 (0 : Int)) (res1 rfl rfl) (fun a w st => st.toPostC rfl))

theorem power_wins_c (S : Hp) (w : World) (hS : S.sub w) (v0 : Value) (x0 : (List Int)) (k0 : ((TR.sl TR.int)).vrep S v0 x0) (x1 : Int) (x2 : Int) (res : Bool) (hm : power_wins_m x0 x1 x2 = some res) : Calls Tryz.prog 56 #[v0, .int .i64 x1, .int .i64 x2] w (PostC w (.bool res)) := by
 refine calls_enter 29 Tryz.func56 Tryz.ntmps56 rfl S true [(0, v0), (1, .int .i64 x1), (2, .int .i64 x2)] [imm (TR.sl TR.int) v0 x0] rfl ⟨rfl, ⟨rfl, ⟨rfl, trivial⟩⟩⟩ hS ⟨k0, trivial⟩ ?_
 unfold power_wins_m at hm
 refine GL.seq ?_
 refine GL.region ?_
 refine RL.asg rfl rfl rfl ?_
 refine RL.finG ?_
 refine GL.seq ?_
 refine GL.region ?_
 refine RL.asg rfl rfl rfl ?_
 refine RL.finG ?_
 refine GL.seq ?_
 refine GL.seq ?_
 refine GL.region ?_
 refine RL.mv rfl rfl rfl ?_
 refine RL.lenS 0 Tryz.underlying61 rfl rfl rfl rfl SlOf.imm ?_
 refine RL.mv rfl rfl rfl ?_
 refine RL.finG ?_
 refine GL.open_ 0 rfl (fun S h => len_imm S h) (fun n14 => ?_)
 obtain ⟨y15, K16, h17, h18, h19, h20, h21⟩ := bindR_K hm
 refine GL.join (ι := Int) (fun (p : Int) => [(1, .int .i64 x1), (7, .int .i64 p)]) (fun (p : Int) => []) (fun (p : Int) => K16 (.nx p)) ?_ ?_
 ·refine GL.block ?_
  refine GL.loop (ι := Nat × (List Int) × Int) (fun (p : Nat × (List Int) × Int) => [(1, .int .i64 x1), (2, .int .i64 x2), (7, .int .i64 p.2.2), (10, v0), (11, .int .i64 ((x0).length : Int)), (12, .int .i64 (p.1 : Int))]) (fun (p : Nat × (List Int) × Int) => [imm (TR.sl TR.int) v0 x0]) (fun (p : Nat × (List Int) × Int) => p.1 + p.2.1.length = (x0).length ∧ List.drop p.1 x0 = p.2.1 ∧ rangeL (power_wins_b1 x2) p.2.1 p.1 p.2.2 = some y15) (fun (p : Nat × (List Int) × Int) => p.2.1.length) (0, x0, (0 : Int)) ⟨by simp, by simp, h17⟩ (fun a w st => St.cut [0] ⟨rfl, rfl, rfl, rfl, rfl, rfl, trivial⟩ (by decide) rfl st) ?_
  rintro ⟨i22, r23, x4⟩ ⟨h28, h29, h27⟩
  try dsimp only at h28 h29 h27
  refine GL.weak (env' := [(1, .int .i64 x1), (2, .int .i64 x2), (7, .int .i64 x4), (10, v0), (11, .int .i64 ((x0).length : Int)), (12, .int .i64 (i22 : Int))]) (L' := [imm (TR.sl TR.int) v0 x0]) (fun _ _ st => st) ?_
  refine GL.seq ?_
  refine GL.region ?_
  refine RL.binI (v := .bool (decide ((i22 : Int) < ((x0).length : Int)))) rfl rfl rfl rfl rfl ?_
  refine RL.finG ?_
  refine GL.seq ?_
  refine GL.cond rfl (fun b30 => ?_) (fun b30 => ?_)
  ·have h31 : i22 < (x0).length := by have := of_decide_eq_true b30; omega
   obtain ⟨y32, r34, hr, e33, h35⟩ := drop_cons h29 rfl h31
   subst hr
   obtain ⟨z24, h25, h26⟩ := rangeL_some h27
   unfold power_wins_b1 at h25
   try dsimp only at h25
   refine GL.skip ?_
   refine GL.seq ?_
   refine GL.block ?_
   refine GL.seq ?_
   refine GL.region ?_
   refine RL.mv rfl rfl rfl ?_
   refine RL.idxS (sz := 1) 0 Tryz.underlying61 Tryz_ln3 rfl rfl rfl rfl rfl SlOf.imm (by omega) (by omega) ?_
   refine RL.ldSx (i := i22) (e' := y32) 0 Ex.ik Tryz_ln3 rfl rfl rfl rfl SlOf.imm e33 Part.self ?_
   refine RL.asg rfl rfl rfl ?_
   refine RL.asg rfl rfl rfl ?_
   refine RL.finG ?_
   refine GL.seq ?_
   refine GL.region ?_
   refine RL.mv rfl rfl rfl ?_
   refine RL.mv rfl rfl rfl ?_
   obtain ⟨y38, e39, h25⟩ := bind_some h25
   replace e39 := chk_some e39
   refine RL.sh (by simp) rfl rfl rfl rfl e39 ?_
   refine RL.binI (v := .int .i64 (bits .and .i64 (Int.fdiv x2 (2 ^ (min (i22 : Int).toNat (IntKind.bits .i64)))) (1 : Int))) rfl rfl rfl rfl rfl ?_
   refine RL.binI (v := .bool ((bits .and .i64 (Int.fdiv x2 (2 ^ (min (i22 : Int).toNat (IntKind.bits .i64)))) (1 : Int)) == (1 : Int))) rfl rfl rfl rfl rfl ?_
   refine RL.finG ?_
   refine GL.cond rfl (fun b40 => ?_) (fun b40 => ?_)
   ·replace h25 := ite_t b40 h25
    refine GL.region ?_
    refine RL.mv rfl rfl rfl ?_
    refine RL.mv rfl rfl rfl ?_
    refine RL.binI (v := .int .i64 (wadd x4 y32)) rfl rfl rfl rfl rfl ?_
    refine RL.asg rfl rfl rfl ?_
    refine RL.finG ?_
    refine GL.nilB ?_
    refine GL.region ?_
    refine RL.binI (v := .int .i64 ((i22 + 1 : Nat) : Int)) rfl rfl rfl rfl (binI_succ i22 (by omega)) ?_
    refine RL.mv rfl rfl rfl ?_
    refine RL.fin ?_
    cases h25
    exact fun a w st => lop_intro (i22 + 1, r34, wadd x4 y32) ⟨by show i22 + 1 + r34.length = (x0).length; simp only [List.length_cons] at h28; omega, h35, h26⟩ (by simp) (St.cut [0] ⟨rfl, rfl, rfl, rfl, rfl, rfl, trivial⟩ (by decide) rfl st)
   replace h25 := ite_f b40 h25
   refine GL.skip ?_
   refine GL.nilB ?_
   refine GL.region ?_
   refine RL.binI (v := .int .i64 ((i22 + 1 : Nat) : Int)) rfl rfl rfl rfl (binI_succ i22 (by omega)) ?_
   refine RL.mv rfl rfl rfl ?_
   refine RL.fin ?_
   cases h25
   exact fun a w st => lop_intro (i22 + 1, r34, x4) ⟨by show i22 + 1 + r34.length = (x0).length; simp only [List.length_cons] at h28; omega, h35, h26⟩ (by simp) (St.cut [0] ⟨rfl, rfl, rfl, rfl, rfl, rfl, trivial⟩ (by decide) rfl st)
  have h31 : ¬ i22 < (x0).length := by have := of_decide_eq_false b30; omega
  obtain rfl : r23 = [] := by rw [← h29]; exact List.drop_of_length_le (by omega)
  replace h27 : some (Fl.nx _) = some y15 := h27
  cases h27
  exact GL.exit (fun a w st => mid_intro x4 h18 (St.cut [] ⟨rfl, rfl, trivial⟩ (by decide) rfl st))
 rintro x4 h41
 have h42 := h19 _ h41
 try dsimp only at h42
 refine GL.weak (env' := [(1, .int .i64 x1), (7, .int .i64 x4)]) (L' := []) (fun _ _ st => st) ?_
 refine GL.seq ?_
 refine GL.region ?_
 refine RL.mv rfl rfl rfl ?_
 refine RL.mv rfl rfl rfl ?_
 refine RL.binI (v := .bool (decide (x4 ≥ x1))) rfl rfl rfl rfl rfl ?_
 refine RL.asg rfl rfl rfl ?_
 refine RL.finG ?_
 have h42 := Option.some.inj h42
 subst h42
 exact GL.ret (Gx.ret (v := .bool (decide (x4 ≥ x1))) (res1 rfl rfl) (fun a w st => st.toPostC rfl))

theorem power_Swings_c (S : Hp) (w : World) (hS : S.sub w) (v0 : Value) (x0 : (List Int)) (k0 : ((TR.sl TR.int)).vrep S v0 x0) (x1 : Int) (res : (List Int) × Int) (hm : power_Swings_m x0 x1 = some res) : Calls Tryz.prog 33 #[v0, .int .i64 x1] w (Post w S (fun (o : Value) => .tuple #[o, .int .i64 res.2]) (fun (o : Value) => [own 3 TR.int o res.1])) := by
 refine calls_enter 60 Tryz.func33 Tryz.ntmps33 rfl S false [(0, v0), (1, .int .i64 x1)] [imm (TR.sl TR.int) v0 x0] rfl ⟨rfl, ⟨rfl, trivial⟩⟩ hS ⟨k0, trivial⟩ ?_
 unfold power_Swings_m at hm
 refine GL.seq ?_
 refine GL.region ?_
 refine RL.asg rfl rfl rfl ?_
 refine RL.asg rfl rfl rfl ?_
 refine RL.finG ?_
 refine GL.seq ?_
 refine GL.seq ?_
 refine GL.region ?_
 refine RL.mv rfl rfl rfl ?_
 refine RL.mv rfl rfl rfl ?_
 obtain ⟨y5, e6, hm⟩ := bind_some hm
 refine RL.callC (v := .int .i64 y5) (vs := [v0, .int .i64 x1]) Tryz_fit55 rfl rfl rfl rfl (fun U w hU hW hL => power_Check_c U w hU _ _ (hL 0 _ _ rfl Seen.imm) x1 _ e6) ?_
 refine RL.asg rfl rfl rfl ?_
 refine RL.finG ?_
 refine GL.seq ?_
 refine GL.region ?_
 refine RL.mv rfl rfl rfl ?_
 refine RL.binI (v := .bool (y5 != (0 : Int))) rfl rfl rfl rfl rfl ?_
 refine RL.finG ?_
 refine GL.cond rfl (fun b7 => ?_) (fun b7 => ?_)
 ·replace hm := ite_t b7 hm
  refine GL.seq ?_
  refine GL.region ?_
  refine RL.mv rfl rfl rfl ?_
  refine RL.asg rfl rfl rfl ?_
  refine RL.asg rfl rfl rfl ?_
  refine RL.finG ?_
  refine GL.weak (fun a w st => st.nilOwn 3 TR.int) ?_
  have hm := Option.some.inj hm
  subst hm
  exact GL.ret (Gx.ret (v := .tuple #[Value.slice none 0 0, .int .i64 y5]) (res2 rfl rfl rfl) (fun a w st => (st.pick [1] (by decide) rfl).toPost (Value.slice none 0 0)))
 replace hm := ite_f b7 hm
 refine GL.skip ?_
 refine GL.seq ?_
 refine GL.region ?_
 refine RL.mv rfl rfl rfl ?_
 refine RL.lenS 0 Tryz.underlying61 rfl rfl rfl rfl SlOf.imm ?_
 obtain ⟨y11, e12, hm⟩ := bind_some hm
 replace e12 := chk_some e12
 refine RL.mkS (t := TR.int) (z := (0 : Int)) Tryz.underlying61 Tryz_lo3 (fun S => rfl) rfl rfl rfl rfl e12.1 e12.2 ?_
 intro v13
 refine RL.asg rfl rfl rfl ?_
 refine RL.finG ?_
 refine GL.seq ?_
 refine GL.seq ?_
 refine GL.region ?_
 refine RL.mv rfl rfl rfl ?_
 refine RL.lenS 0 Tryz.underlying61 rfl rfl rfl rfl SlOf.imm ?_
 obtain ⟨y16, e17, hm⟩ := bind_some hm
 replace e17 := chk_some e17
 refine RL.sh (by simp) rfl rfl rfl rfl e17 ?_
 refine RL.mv rfl rfl rfl ?_
 refine RL.finG ?_
 obtain ⟨y364, e365, hm⟩ := bind_some hm
 replace e365 := chk_some e365
 obtain ⟨y366, K367, h368, h369, h370, h371, h372⟩ := bindR_K hm
 refine GL.join (ι := (List Int)) (fun (p : (List Int)) => [(7, v13)]) (fun (p : (List Int)) => [own 3 TR.int v13 p]) (fun (p : (List Int)) => K367 (.nx p)) ?_ ?_
 ·refine GL.block ?_
  refine GL.loop (ι := Nat × Nat × (List Int)) (fun (p : Nat × Nat × (List Int)) => [(0, v0), (1, .int .i64 x1), (7, v13), (21, .int .i64 (IntKind.wrap .i64 ((1 : Int) * 2 ^ (min ((x0).length : Int).toNat (IntKind.bits .i64))))), (22, .int .i64 (p.1 : Int))]) (fun (p : Nat × Nat × (List Int)) => [imm (TR.sl TR.int) v0 x0, own 3 TR.int v13 p.2.2]) (fun (p : Nat × Nat × (List Int)) => p.1 + p.2.1 = (IntKind.wrap .i64 ((1 : Int) * 2 ^ (min ((x0).length : Int).toNat (IntKind.bits .i64)))).toNat ∧ rangeN (power_Swings_b1 x0 x1) p.2.1 p.1 p.2.2 = some y366) (fun (p : Nat × Nat × (List Int)) => p.2.1) (0, (IntKind.wrap .i64 ((1 : Int) * 2 ^ (min ((x0).length : Int).toNat (IntKind.bits .i64)))).toNat, (List.replicate (((x0).length : Int)).toNat (0 : Int))) ⟨by simp, h368⟩ (fun a w st => St.cut [0, 1] ⟨rfl, rfl, rfl, rfl, rfl, trivial⟩ (by decide) rfl st) ?_
  rintro ⟨i373, r374, l190⟩ ⟨h379, h378⟩
  try dsimp only at h379 h378
  refine GL.weak (env' := [(0, v0), (1, .int .i64 x1), (7, v13), (21, .int .i64 (IntKind.wrap .i64 ((1 : Int) * 2 ^ (min ((x0).length : Int).toNat (IntKind.bits .i64))))), (22, .int .i64 (i373 : Int))]) (L' := [imm (TR.sl TR.int) v0 x0, own 3 TR.int v13 l190]) (fun _ _ st => st) ?_
  refine GL.seq ?_
  refine GL.region ?_
  refine RL.binI (v := .bool (decide ((i373 : Int) < IntKind.wrap .i64 ((1 : Int) * 2 ^ (min ((x0).length : Int).toNat (IntKind.bits .i64)))))) rfl rfl rfl rfl rfl ?_
  refine RL.finG ?_
  refine GL.seq ?_
  refine GL.cond rfl (fun b381 => ?_) (fun b381 => ?_)
  ·have h382 : i373 < (IntKind.wrap .i64 ((1 : Int) * 2 ^ (min ((x0).length : Int).toNat (IntKind.bits .i64)))).toNat := by have := of_decide_eq_true b381; omega
   obtain ⟨r383, hr⟩ : ∃ m, r374 = m + 1 := ⟨r374 - 1, by omega⟩
   subst hr
   obtain ⟨z375, h376, h377⟩ := rangeN_some h378
   unfold power_Swings_b1 at h376
   try dsimp only at h376
   refine GL.skip ?_
   refine GL.seq ?_
   refine GL.block ?_
   refine GL.seq ?_
   refine GL.region ?_
   refine RL.mv rfl rfl rfl ?_
   refine RL.asg rfl rfl rfl ?_
   refine RL.finG ?_
   refine GL.seq ?_
   refine GL.region ?_
   refine RL.mv rfl rfl rfl ?_
   refine RL.lenS 0 Tryz.underlying61 rfl rfl rfl rfl SlOf.imm ?_
   refine RL.mv rfl rfl rfl ?_
   refine RL.finG ?_
   refine GL.open_ 0 rfl (fun S h => len_imm S h) (fun n483 => ?_)
   obtain ⟨y484, K485, h486, h487, h488, h489, h490⟩ := bindF_K h376
   refine GL.join (ι := (List Int)) (fun (p : (List Int)) => [(0, v0), (1, .int .i64 x1), (7, v13), (21, .int .i64 (IntKind.wrap .i64 ((1 : Int) * 2 ^ (min ((x0).length : Int).toNat (IntKind.bits .i64))))), (22, .int .i64 (i373 : Int))]) (fun (p : (List Int)) => [imm (TR.sl TR.int) v0 x0, own 3 TR.int v13 p]) (fun (p : (List Int)) => K485 (.nx p)) ?_ ?_
   ·refine GL.block ?_
    refine GL.loop (ι := Nat × (List Int) × (List Int)) (fun (p : Nat × (List Int) × (List Int)) => [(0, v0), (1, .int .i64 x1), (7, v13), (8, .int .i64 (i373 : Int)), (21, .int .i64 (IntKind.wrap .i64 ((1 : Int) * 2 ^ (min ((x0).length : Int).toNat (IntKind.bits .i64))))), (22, .int .i64 (i373 : Int)), (26, .int .i64 ((x0).length : Int)), (27, .int .i64 (p.1 : Int))]) (fun (p : Nat × (List Int) × (List Int)) => [imm (TR.sl TR.int) v0 x0, own 3 TR.int v13 p.2.2]) (fun (p : Nat × (List Int) × (List Int)) => p.1 + p.2.1.length = (x0).length ∧ List.drop p.1 x0 = p.2.1 ∧ rangeL (power_Swings_b2 i373 x0 x1) p.2.1 p.1 p.2.2 = some y484) (fun (p : Nat × (List Int) × (List Int)) => p.2.1.length) (0, x0, l190) ⟨by simp, by simp, h486⟩ (fun a w st => St.cut [0, 1] ⟨rfl, rfl, rfl, rfl, rfl, rfl, rfl, rfl, trivial⟩ (by decide) rfl st) ?_
    rintro ⟨i491, r492, l433⟩ ⟨h497, h498, h496⟩
    try dsimp only at h497 h498 h496
    refine GL.weak (env' := [(0, v0), (1, .int .i64 x1), (7, v13), (8, .int .i64 (i373 : Int)), (21, .int .i64 (IntKind.wrap .i64 ((1 : Int) * 2 ^ (min ((x0).length : Int).toNat (IntKind.bits .i64))))), (22, .int .i64 (i373 : Int)), (26, .int .i64 ((x0).length : Int)), (27, .int .i64 (i491 : Int))]) (L' := [imm (TR.sl TR.int) v0 x0, own 3 TR.int v13 l433]) (fun _ _ st => st) ?_
    refine GL.seq ?_
    refine GL.region ?_
    refine RL.binI (v := .bool (decide ((i491 : Int) < ((x0).length : Int)))) rfl rfl rfl rfl rfl ?_
    refine RL.finG ?_
    refine GL.seq ?_
    refine GL.cond rfl (fun b499 => ?_) (fun b499 => ?_)
    ·have h500 : i491 < (x0).length := by have := of_decide_eq_true b499; omega
     obtain ⟨y501, r503, hr, e502, h504⟩ := drop_cons h498 rfl h500
     subst hr
     obtain ⟨z493, h494, h495⟩ := rangeL_some h496
     unfold power_Swings_b2 at h494
     try dsimp only at h494
     refine GL.skip ?_
     refine GL.seq ?_
     refine GL.block ?_
     refine GL.seq ?_
     refine GL.region ?_
     refine RL.mv rfl rfl rfl ?_
     refine RL.asg rfl rfl rfl ?_
     refine RL.finG ?_
     refine GL.seq ?_
     obtain ⟨y526, K527, h528, h529, h530, h531, h532⟩ := bindF_K h494
     refine GL.join (ι := Bool) (fun (p : Bool) => [(0, v0), (1, .int .i64 x1), (7, v13), (8, .int .i64 (i373 : Int)), (9, .int .i64 (i491 : Int)), (21, .int .i64 (IntKind.wrap .i64 ((1 : Int) * 2 ^ (min ((x0).length : Int).toNat (IntKind.bits .i64))))), (22, .int .i64 (i373 : Int)), (26, .int .i64 ((x0).length : Int)), (27, .int .i64 (i491 : Int)), (50, .bool p)]) (fun (p : Bool) => [imm (TR.sl TR.int) v0 x0, own 3 TR.int v13 l433]) (fun (p : Bool) => K527 (.nx p)) ?_ ?_
     ·skip
      refine GL.region ?_
      refine RL.mv rfl rfl rfl ?_
      refine RL.mv rfl rfl rfl ?_
      obtain ⟨y533, e534, h528⟩ := bind_some h528
      replace e534 := chk_some e534
      refine RL.sh (by simp) rfl rfl rfl rfl e534 ?_
      refine RL.binI (v := .int .i64 (bits .and .i64 (Int.fdiv (i373 : Int) (2 ^ (min (i491 : Int).toNat (IntKind.bits .i64)))) (1 : Int))) rfl rfl rfl rfl rfl ?_
      refine RL.binI (v := .bool ((bits .and .i64 (Int.fdiv (i373 : Int) (2 ^ (min (i491 : Int).toNat (IntKind.bits .i64)))) (1 : Int)) == (1 : Int))) rfl rfl rfl rfl rfl ?_
      refine RL.mv rfl rfl rfl ?_
      refine RL.split (t := 35) rfl (fun b535 => ?_) (fun b535 => ?_)
      ·replace h528 := ite_t b535 h528
       refine RL.mv rfl rfl rfl ?_
       refine RL.mv rfl rfl rfl ?_
       refine RL.mv rfl rfl rfl ?_
       obtain ⟨y536, e537, h528⟩ := bind_some h528
       refine RL.callC (v := .bool y536) (vs := [v0, .int .i64 x1, .int .i64 (i373 : Int)]) Tryz_fit56 rfl rfl rfl rfl (fun U w hU hW hL => power_wins_c U w hU _ _ (hL 0 _ _ rfl Seen.imm) x1 (i373 : Int) _ e537) ?_
       refine RL.pickT rfl rfl rfl rfl ?_
       refine RL.mv rfl rfl rfl ?_
       refine RL.split (t := 41) rfl (fun b538 => ?_) (fun b538 => ?_)
       ·replace h528 := ite_t b538 h528
        refine RL.mv rfl rfl rfl ?_
        refine RL.mv rfl rfl rfl ?_
        refine RL.mv rfl rfl rfl ?_
        refine RL.mv rfl rfl rfl ?_
        obtain ⟨y539, e540, h528⟩ := bind_some h528
        replace e540 := chk_some e540
        refine RL.sh (by simp) rfl rfl rfl rfl e540 ?_
        refine RL.binI (v := .int .i64 (bits .andNot .i64 (i373 : Int) (IntKind.wrap .i64 ((1 : Int) * 2 ^ (min (i491 : Int).toNat (IntKind.bits .i64)))))) rfl rfl rfl rfl rfl ?_
        obtain ⟨y541, e542, h528⟩ := bind_some h528
        refine RL.callC (v := .bool y541) (vs := [v0, .int .i64 x1, .int .i64 (bits .andNot .i64 (i373 : Int) (IntKind.wrap .i64 ((1 : Int) * 2 ^ (min (i491 : Int).toNat (IntKind.bits .i64)))))]) Tryz_fit56 rfl rfl rfl rfl (fun U w hU hW hL => power_wins_c U w hU _ _ (hL 0 _ _ rfl Seen.imm) x1 (bits .andNot .i64 (i373 : Int) (IntKind.wrap .i64 ((1 : Int) * 2 ^ (min (i491 : Int).toNat (IntKind.bits .i64))))) _ e542) ?_
        refine RL.notB rfl rfl rfl ?_
        refine RL.pickT rfl rfl rfl rfl ?_
        refine RL.fin ?_
        cases h528
        exact fun a w st => mid_intro (!y541) h529 (St.cut [0, 1] ⟨rfl, rfl, rfl, rfl, rfl, rfl, rfl, rfl, rfl, rfl, trivial⟩ (by decide) rfl st)
       replace h528 := ite_f b538 h528
       refine RL.skip rfl rfl ?_
       refine RL.skip rfl rfl ?_
       refine RL.skip rfl rfl ?_
       refine RL.skip rfl rfl ?_
       refine RL.skip rfl rfl ?_
       refine RL.skip rfl rfl ?_
       refine RL.skip rfl rfl ?_
       refine RL.skip rfl rfl ?_
       refine RL.pickF rfl rfl rfl rfl ?_
       refine RL.fin ?_
       cases h528
       exact fun a w st => mid_intro false h529 (St.cut [0, 1] ⟨rfl, rfl, rfl, rfl, rfl, rfl, rfl, rfl, rfl, rfl, trivial⟩ (by decide) rfl st)
      replace h528 := ite_f b535 h528
      refine RL.skip rfl rfl ?_
      refine RL.skip rfl rfl ?_
      refine RL.skip rfl rfl ?_
      refine RL.skip rfl rfl ?_
      refine RL.pickF rfl rfl rfl rfl ?_
      refine RL.mv rfl rfl rfl ?_
      refine RL.skip rfl rfl ?_
      refine RL.skip rfl rfl ?_
      refine RL.skip rfl rfl ?_
      refine RL.skip rfl rfl ?_
      refine RL.skip rfl rfl ?_
      refine RL.skip rfl rfl ?_
      refine RL.skip rfl rfl ?_
      refine RL.skip rfl rfl ?_
      refine RL.pickF rfl rfl rfl rfl ?_
      refine RL.fin ?_
      cases h528
      exact fun a w st => mid_intro false h529 (St.cut [0, 1] ⟨rfl, rfl, rfl, rfl, rfl, rfl, rfl, rfl, rfl, rfl, trivial⟩ (by decide) rfl st)
     rintro x525 h543
     have h544 := h530 _ h543
     try dsimp only at h544
     refine GL.weak (env' := [(0, v0), (1, .int .i64 x1), (7, v13), (8, .int .i64 (i373 : Int)), (9, .int .i64 (i491 : Int)), (21, .int .i64 (IntKind.wrap .i64 ((1 : Int) * 2 ^ (min ((x0).length : Int).toNat (IntKind.bits .i64))))), (22, .int .i64 (i373 : Int)), (26, .int .i64 ((x0).length : Int)), (27, .int .i64 (i491 : Int)), (50, .bool x525)]) (L' := [imm (TR.sl TR.int) v0 x0, own 3 TR.int v13 l433]) (fun _ _ st => st) ?_
     refine GL.cond rfl (fun b545 => ?_) (fun b545 => ?_)
     ·replace h544 := ite_t b545 h544
      refine GL.region ?_
      refine RL.mv rfl rfl rfl ?_
      refine RL.mv rfl rfl rfl ?_
      obtain ⟨y550, e551, h544⟩ := bind_some h544
      refine RL.idxS (sz := 1) 1 Tryz.underlying61 Tryz_ln3 rfl rfl rfl rfl rfl SlOf.own (idx_some e551).1 (idx_some e551).2.1 ?_
      refine RL.ldSx (i := i491) (e' := y550) 1 Ex.ik Tryz_ln3 rfl rfl rfl rfl SlOf.own (idx_some e551).2.2 Part.self ?_
      refine RL.binI (v := .int .i64 (wadd y550 (1 : Int))) rfl rfl rfl rfl rfl ?_
      obtain ⟨y552, e553, h544⟩ := bind_some h544
      refine RL.idxS (sz := 1) 1 Tryz.underlying61 Tryz_ln3 rfl rfl rfl rfl rfl SlOf.own (idx_some e553).1 (idx_some e553).2.1 ?_
      refine RL.stS (i := i491) (e' := wadd y550 (1 : Int)) (e1 := wadd y550 (1 : Int)) (r := TR.int) 1 Tryz_ln3 rfl rfl rfl rfl VR.int rfl (idx_some e553).2.2 Upd.self ?_
      refine RL.finG ?_
      refine GL.nilB ?_
      refine GL.region ?_
      refine RL.binI (v := .int .i64 ((i491 + 1 : Nat) : Int)) rfl rfl rfl rfl (binI_succ i491 (by omega)) ?_
      refine RL.mv rfl rfl rfl ?_
      refine RL.fin ?_
      cases h544
      exact fun a w st => lop_intro (i491 + 1, r503, (List.set l433 i491 (wadd y550 (1 : Int)))) ⟨by show i491 + 1 + r503.length = (x0).length; simp only [List.length_cons] at h497; omega, h504, h495⟩ (by simp) (St.cut [0, 1] ⟨rfl, rfl, rfl, rfl, rfl, rfl, rfl, rfl, trivial⟩ (by decide) rfl st)
     replace h544 := ite_f b545 h544
     refine GL.skip ?_
     refine GL.nilB ?_
     refine GL.region ?_
     refine RL.binI (v := .int .i64 ((i491 + 1 : Nat) : Int)) rfl rfl rfl rfl (binI_succ i491 (by omega)) ?_
     refine RL.mv rfl rfl rfl ?_
     refine RL.fin ?_
     cases h544
     exact fun a w st => lop_intro (i491 + 1, r503, l433) ⟨by show i491 + 1 + r503.length = (x0).length; simp only [List.length_cons] at h497; omega, h504, h495⟩ (by simp) (St.cut [0, 1] ⟨rfl, rfl, rfl, rfl, rfl, rfl, rfl, rfl, trivial⟩ (by decide) rfl st)
    have h500 : ¬ i491 < (x0).length := by have := of_decide_eq_false b499; omega
    obtain rfl : r492 = [] := by rw [← h498]; exact List.drop_of_length_le (by omega)
    replace h496 : some (Fl.nx _) = some y484 := h496
    cases h496
    exact GL.exit (fun a w st => mid_intro l433 h487 (St.cut [0, 1] ⟨rfl, rfl, rfl, rfl, rfl, trivial⟩ (by decide) rfl st))
   rintro l433 h554
   have h555 := h488 _ h554
   try dsimp only at h555
   refine GL.weak (env' := [(0, v0), (1, .int .i64 x1), (7, v13), (21, .int .i64 (IntKind.wrap .i64 ((1 : Int) * 2 ^ (min ((x0).length : Int).toNat (IntKind.bits .i64))))), (22, .int .i64 (i373 : Int))]) (L' := [imm (TR.sl TR.int) v0 x0, own 3 TR.int v13 l433]) (fun _ _ st => st) ?_
   refine GL.nilB ?_
   refine GL.region ?_
   refine RL.binI (v := .int .i64 ((i373 + 1 : Nat) : Int)) rfl rfl rfl rfl (binI_succ i373 (by omega)) ?_
   refine RL.mv rfl rfl rfl ?_
   refine RL.fin ?_
   cases h555
   exact fun a w st => lop_intro (i373 + 1, r383, l433) ⟨by show i373 + 1 + r383 = (IntKind.wrap .i64 ((1 : Int) * 2 ^ (min ((x0).length : Int).toNat (IntKind.bits .i64)))).toNat; omega, h377⟩ (by simp) (St.cut [0, 1] ⟨rfl, rfl, rfl, rfl, rfl, trivial⟩ (by decide) rfl st)
  have h382 : ¬ i373 < (IntKind.wrap .i64 ((1 : Int) * 2 ^ (min ((x0).length : Int).toNat (IntKind.bits .i64)))).toNat := by have := of_decide_eq_false b381; omega
  obtain rfl : r374 = 0 := by omega
  replace h378 : some (Fl.nx _) = some y366 := h378
  cases h378
  exact GL.exit (fun a w st => mid_intro l190 h369 (St.cut [1] ⟨rfl, trivial⟩ (by decide) rfl st))
 rintro l190 h556
 have h557 := h370 _ h556
 try dsimp only at h557
 refine GL.weak (env' := [(7, v13)]) (L' := [own 3 TR.int v13 l190]) (fun _ _ st => st) ?_
 refine GL.seq ?_
 refine GL.region ?_
 refine RL.mv rfl rfl rfl ?_
 refine RL.asg rfl rfl rfl ?_
 refine RL.asg rfl rfl rfl ?_
 refine RL.finG ?_
 have h557 := Option.some.inj h557
 subst h557
 exact GL.ret (Gx.ret (v := .tuple #[v13, .int .i64 (0 : Int)]) (res2 rfl rfl rfl) (fun a w st => (st.pick [0] (by decide) rfl).toPost v13))

theorem desk_asked_c (S : Hp) (w : World) (hS : S.sub w) (hT : Tab Tryz.prog (Tryz.lays146_ren.g 1) S) (x0 : B8) (v1 : Value) (x1 : (List B8)) (k1 : ((TR.sl TR.str)).vrep S v1 x1) (res : Except Int B8) (hm : desk_asked_m x0 x1 = some res) : Calls Tryz.prog 21 #[(sv x0), v1] w (thrP (PostE 48 w) (fun (r : B8) => PostV w ((sv r))) res) := by
 refine calls_enter 103 Tryz.func21 Tryz.ntmps21 rfl S false [(0, (sv x0)), (1, v1)] [imm (TR.sl TR.str) v1 x1] rfl ⟨rfl, ⟨rfl, trivial⟩⟩ hS ⟨k1, trivial⟩ ?_
 unfold desk_asked_m at hm
 refine GL.seq ?_
 refine GL.region ?_
 refine RL.asg rfl rfl rfl ?_
 refine RL.finG ?_
 refine GL.seq ?_
 refine GL.region ?_
 refine RL.mv rfl rfl rfl ?_
 obtain ⟨y8, e9, hm⟩ := bind_some hm
 rcases y8 with x10 | z11
 ·replace hm := thr_e hm
  refine RL.callE (T := 48) (n := x10) (vs := [v1]) Tryz_fit27 rfl rfl rfl rfl (fun U w hU hW hL => desk_numbers_c U w hU _ _ (hL 0 _ _ rfl Seen.imm) _ e9) ?_
  have hm := Option.some.inj hm
  subst hm
  first | exact fun a w st => And.intro st.defers (thrP_err st.toPostE) | exact fun a w st _ _ => And.intro st.defers (thrP_err st.toPostE)
 replace hm := thr_o hm
 refine RL.call (vs := [v1]) Tryz_fit27 rfl rfl rfl rfl rfl (fun S f w hS hW hi => desk_numbers_c S w hS _ _ (hi 0 _ rfl) _ e9) ?_
 intro v12
 refine RL.asg rfl rfl rfl ?_
 refine RL.finG ?_
 refine GL.seq ?_
 refine GL.block ?_
 refine GL.seq ?_
 refine GL.region ?_
 refine RL.mv rfl rfl rfl ?_
 refine RL.binS (v := .bool (x0 == ([112, 105, 108, 101, 115] : B8))) rfl rfl rfl rfl rfl ?_
 refine RL.asg rfl rfl rfl ?_
 refine RL.finG ?_
 refine GL.cond rfl (fun b13 => ?_) (fun b13 => ?_)
 ·replace hm := ite_t b13 hm
  refine GL.seq ?_
  refine GL.region ?_
  refine RL.mv rfl rfl rfl ?_
  obtain ⟨y16, e17, hm⟩ := bind_some hm
  refine RL.callC (v := .tuple #[.int .i64 y16.1, .int .i64 y16.2.1, .int .i64 y16.2.2]) (vs := [v12]) Tryz_fit30 rfl rfl rfl rfl (fun U w hU hW hL => piles_Move_c U w hU _ _ (hL 1 _ _ rfl Seen.own) _ e17) ?_
  refine RL.mv rfl rfl rfl ?_
  refine RL.ext rfl rfl rfl rfl ?_
  refine RL.ext rfl rfl rfl rfl ?_
  refine RL.ext rfl rfl rfl rfl ?_
  refine RL.asg rfl rfl rfl ?_
  refine RL.asg rfl rfl rfl ?_
  refine RL.asg rfl rfl rfl ?_
  refine RL.finG ?_
  refine GL.seq ?_
  refine GL.region ?_
  refine RL.mv rfl rfl rfl ?_
  obtain ⟨y22, e23, hm⟩ := bind_some hm
  rcases y22 with x24 | z25
  ·replace hm := thr_e hm
   refine RL.callE (T := 48) (n := x24) (vs := [.int .i64 y16.2.2]) Tryz_fit19 rfl rfl rfl rfl (fun U w hU hW hL => desk_must_c U w hU y16.2.2 _ e23) ?_
   have hm := Option.some.inj hm
   subst hm
   first | exact fun a w st => And.intro st.defers (thrP_err st.toPostE) | exact fun a w st _ _ => And.intro st.defers (thrP_err st.toPostE)
  replace hm := thr_o hm
  refine RL.callC (v := .tuple #[]) (vs := [.int .i64 y16.2.2]) Tryz_fit19 rfl rfl rfl rfl (fun U w hU hW hL => desk_must_c U w hU y16.2.2 _ e23) ?_
  refine RL.finG ?_
  refine GL.seq ?_
  refine GL.region ?_
  refine RL.mv rfl rfl rfl ?_
  refine RL.mv rfl rfl rfl ?_
  refine RL.bS (t := TR.int) (vs := [.int .i64 y16.1, .int .i64 y16.2.1]) ([y16.1, y16.2.1] : (List Int)) Tryz.underlying61 Tryz_lo3 rfl rfl rfl rfl ⟨VR.int, ⟨VR.int, trivial⟩⟩ rfl (by decide) ?_
  intro v29
  refine RL.reL (L' := [imm (TR.sl TR.str) v1 x1, own 3 TR.int v12 z11, own 3 TR.int v29 ([y16.1, y16.2.1] : (List Int))]) rfl ?_
  obtain ⟨y30, e31, hm⟩ := bind_some hm
  refine RL.callV (v := (sv y30)) (vs := [v29]) Tryz_fit29 rfl (Or.inl rfl) rfl rfl rfl rfl (fun U w hU hW hL => desk_listed_c U w hU (hT.mono hW) _ _ (hL 2 _ _ rfl Seen.own) _ e31) ?_
  refine RL.asg rfl rfl rfl ?_
  refine RL.finG ?_
  have hm := Option.some.inj hm
  subst hm
  exact GL.ret (Gx.ret (v := (sv y30)) (res1 rfl rfl) (fun a w st => thrP_ok (st.toPostV)))
 replace hm := ite_f b13 hm
 refine GL.seq ?_
 obtain ⟨y35, K36, h37, h38, h39, h40, h41⟩ := bindR_K hm
 refine GL.join (ι := Bool) (fun (p : Bool) => [(0, (sv x0)), (5, v12), (33, .bool p)]) (fun (p : Bool) => [own 3 TR.int v12 z11]) (fun (p : Bool) => K36 (.nx p)) ?_ ?_
 ·skip
  refine GL.region ?_
  refine RL.mv rfl rfl rfl ?_
  refine RL.binS (v := .bool (x0 == ([115, 101, 99, 111, 110, 100] : B8))) rfl rfl rfl rfl rfl ?_
  refine RL.mv rfl rfl rfl ?_
  refine RL.split (t := 36) rfl (fun b42 => ?_) (fun b42 => ?_)
  ·replace h37 := ite_t b42 h37
   refine RL.mv rfl rfl rfl ?_
   refine RL.lenS 1 Tryz.underlying61 rfl rfl rfl rfl SlOf.own ?_
   refine RL.binI (v := .bool (decide (((z11).length : Int) > (0 : Int)))) rfl rfl rfl rfl rfl ?_
   refine RL.pickT rfl rfl rfl rfl ?_
   refine RL.asg rfl rfl rfl ?_
   refine RL.fin ?_
   cases h37
   exact fun a w st => mid_intro (decide (((z11).length : Int) > (0 : Int))) h38 (St.cut [1] ⟨rfl, rfl, rfl, trivial⟩ (by decide) rfl st)
  replace h37 := ite_f b42 h37
  refine RL.skip rfl rfl ?_
  refine RL.skip rfl rfl ?_
  refine RL.skip rfl rfl ?_
  refine RL.pickF rfl rfl rfl rfl ?_
  refine RL.asg rfl rfl rfl ?_
  refine RL.fin ?_
  cases h37
  exact fun a w st => mid_intro false h38 (St.cut [1] ⟨rfl, rfl, rfl, trivial⟩ (by decide) rfl st)
 rintro x34 h43
 have h44 := h39 _ h43
 try dsimp only at h44
 refine GL.weak (env' := [(0, (sv x0)), (5, v12), (33, .bool x34)]) (L' := [own 3 TR.int v12 z11]) (fun _ _ st => st) ?_
 refine GL.cond rfl (fun b45 => ?_) (fun b45 => ?_)
 ·replace h44 := ite_t b45 h44
  refine GL.seq ?_
  refine GL.weak (fun a w st => st.freeze 0 rfl) ?_
  refine GL.regionQ rfl rfl (by kernel_rfl) ?_
  refine RL.mv rfl rfl rfl ?_
  obtain ⟨y53, e54, h44⟩ := bind_some h44
  replace e54 := chk_some e54
  refine RL.slc (t := TR.int) (i := ((1 : Int)).toNat) (j := (z11).length) (sz := 1) 0 Tryz.underlying61 Tryz_ln3 rfl rfl rfl rfl (Or.inr ⟨_, _, rfl, by rw [Int.toNat_of_nonneg (by omega)]; rfl⟩) (Or.inl ⟨rfl, rfl⟩) rfl (by omega) (by omega) ?_
  intro v55
  refine RL.mv rfl rfl rfl ?_
  obtain ⟨y56, e57, h44⟩ := bind_some h44
  refine RL.idxS (sz := 1) 0 Tryz.underlying61 Tryz_ln3 rfl rfl rfl rfl rfl SlOf.imm (idx_some e57).1 (idx_some e57).2.1 ?_
  refine RL.ldSx (i := ((0 : Int)).toNat) (e' := y56) 0 Ex.ik Tryz_ln3 rfl rfl rfl rfl SlOf.imm (idx_some e57).2.2 Part.self ?_
  obtain ⟨y58, e59, h44⟩ := bind_some h44
  refine RL.callC (v := .tuple #[.int .i64 y58.1, .int .i64 y58.2.1, .int .i64 y58.2.2]) (vs := [v55, .int .i64 y56]) Tryz_fit31 rfl rfl rfl rfl (fun U w hU hW hL => auction_Second_c U w hU _ _ (hL 1 _ _ rfl Seen.imm) y56 _ e59) ?_
  refine RL.mv rfl rfl rfl ?_
  refine RL.ext rfl rfl rfl rfl ?_
  refine RL.ext rfl rfl rfl rfl ?_
  refine RL.ext rfl rfl rfl rfl ?_
  refine RL.asg rfl rfl rfl ?_
  refine RL.asg rfl rfl rfl ?_
  refine RL.asg rfl rfl rfl ?_
  refine RL.finQG ?_
  refine GL.seq ?_
  refine GL.region ?_
  refine RL.mv rfl rfl rfl ?_
  obtain ⟨y64, e65, h44⟩ := bind_some h44
  rcases y64 with x66 | z67
  ·replace h44 := thr_e h44
   refine RL.callE (T := 48) (n := x66) (vs := [.int .i64 y58.2.2]) Tryz_fit19 rfl rfl rfl rfl (fun U w hU hW hL => desk_must_c U w hU y58.2.2 _ e65) ?_
   have h44 := Option.some.inj h44
   subst h44
   first | exact fun a w st => And.intro st.defers (thrP_err st.toPostE) | exact fun a w st _ _ => And.intro st.defers (thrP_err st.toPostE)
  replace h44 := thr_o h44
  refine RL.callC (v := .tuple #[]) (vs := [.int .i64 y58.2.2]) Tryz_fit19 rfl rfl rfl rfl (fun U w hU hW hL => desk_must_c U w hU y58.2.2 _ e65) ?_
  refine RL.finG ?_
  refine GL.seq ?_
  refine GL.region ?_
  refine RL.mv rfl rfl rfl ?_
  refine RL.mv rfl rfl rfl ?_
  refine RL.bS (t := TR.int) (vs := [.int .i64 y58.1, .int .i64 y58.2.1]) ([y58.1, y58.2.1] : (List Int)) Tryz.underlying61 Tryz_lo3 rfl rfl rfl rfl ⟨VR.int, ⟨VR.int, trivial⟩⟩ rfl (by decide) ?_
  intro v71
  refine RL.reL (L' := [imm (TR.sl TR.int) v12 z11, imm (TR.sl TR.int) v55 ((List.take ((z11).length) z11).drop (((1 : Int)).toNat)), own 3 TR.int v71 ([y58.1, y58.2.1] : (List Int))]) rfl ?_
  obtain ⟨y72, e73, h44⟩ := bind_some h44
  refine RL.callV (v := (sv y72)) (vs := [v71]) Tryz_fit29 rfl (Or.inl rfl) rfl rfl rfl rfl (fun U w hU hW hL => desk_listed_c U w hU (hT.mono hW) _ _ (hL 2 _ _ rfl Seen.own) _ e73) ?_
  refine RL.asg rfl rfl rfl ?_
  refine RL.finG ?_
  have h44 := Option.some.inj h44
  subst h44
  exact GL.ret (Gx.ret (v := (sv y72)) (res1 rfl rfl) (fun a w st => thrP_ok (st.toPostV)))
 replace h44 := ite_f b45 h44
 refine GL.seq ?_
 obtain ⟨y77, K78, h79, h80, h81, h82, h83⟩ := bindR_K h44
 refine GL.join (ι := Bool) (fun (p : Bool) => [(0, (sv x0)), (5, v12), (57, .bool p)]) (fun (p : Bool) => [own 3 TR.int v12 z11]) (fun (p : Bool) => K78 (.nx p)) ?_ ?_
 ·skip
  refine GL.region ?_
  refine RL.mv rfl rfl rfl ?_
  refine RL.binS (v := .bool (x0 == ([115, 101, 97, 116, 115] : B8))) rfl rfl rfl rfl rfl ?_
  refine RL.mv rfl rfl rfl ?_
  refine RL.split (t := 60) rfl (fun b84 => ?_) (fun b84 => ?_)
  ·replace h79 := ite_t b84 h79
   refine RL.mv rfl rfl rfl ?_
   refine RL.lenS 0 Tryz.underlying61 rfl rfl rfl rfl SlOf.own ?_
   refine RL.binI (v := .bool (decide (((z11).length : Int) > (1 : Int)))) rfl rfl rfl rfl rfl ?_
   refine RL.pickT rfl rfl rfl rfl ?_
   refine RL.asg rfl rfl rfl ?_
   refine RL.fin ?_
   cases h79
   exact fun a w st => mid_intro (decide (((z11).length : Int) > (1 : Int))) h80 (St.cut [0] ⟨rfl, rfl, rfl, trivial⟩ (by decide) rfl st)
  replace h79 := ite_f b84 h79
  refine RL.skip rfl rfl ?_
  refine RL.skip rfl rfl ?_
  refine RL.skip rfl rfl ?_
  refine RL.pickF rfl rfl rfl rfl ?_
  refine RL.asg rfl rfl rfl ?_
  refine RL.fin ?_
  cases h79
  exact fun a w st => mid_intro false h80 (St.cut [0] ⟨rfl, rfl, rfl, trivial⟩ (by decide) rfl st)
 rintro x76 h85
 have h86 := h81 _ h85
 try dsimp only at h86
 refine GL.weak (env' := [(0, (sv x0)), (5, v12), (57, .bool x76)]) (L' := [own 3 TR.int v12 z11]) (fun _ _ st => st) ?_
 refine GL.cond rfl (fun b87 => ?_) (fun b87 => ?_)
 ·replace h86 := ite_t b87 h86
  refine GL.seq ?_
  refine GL.weak (fun a w st => st.freeze 0 rfl) ?_
  refine GL.regionA rfl rfl ?_
  refine RA.mv 0 rfl (by kernel_rfl) rfl rfl rfl ?_
  obtain ⟨y98, e99, h86⟩ := bind_some h86
  refine RA.idxS (sz := 1) 0 Tryz.underlying61 Tryz_ln3 1 rfl (by kernel_rfl) rfl rfl rfl rfl rfl SlOf.imm (idx_some e99).1 (idx_some e99).2.1 ?_
  refine RA.mv 3 rfl (by kernel_rfl) rfl rfl rfl ?_
  refine RA.mv 5 rfl (by kernel_rfl) rfl rfl rfl ?_
  obtain ⟨y100, e101, h86⟩ := bind_some h86
  refine RA.idxS (sz := 1) 0 Tryz.underlying61 Tryz_ln3 6 rfl (by kernel_rfl) rfl rfl rfl rfl rfl SlOf.imm (idx_some e101).1 (idx_some e101).2.1 ?_
  refine RA.still (le := q_1) (f := 6) [2, 4, 7] 8 rfl (by kernel_rfl) ?_
  simp only [pickOps, List.getElem?_toArray, List.getElem?_cons_succ, List.getElem?_cons_zero]
  refine RL.ldSx (i := ((0 : Int)).toNat) (e' := y98) 0 Ex.ik Tryz_ln3 rfl rfl rfl rfl SlOf.imm (idx_some e99).2.2 Part.self ?_
  obtain ⟨y102, e103, h86⟩ := bind_some h86
  replace e103 := chk_some e103
  refine RL.slc (t := TR.int) (i := ((2 : Int)).toNat) (j := (z11).length) (sz := 1) 0 Tryz.underlying61 Tryz_ln3 rfl rfl rfl rfl (Or.inr ⟨_, _, rfl, by rw [Int.toNat_of_nonneg (by omega)]; rfl⟩) (Or.inl ⟨rfl, rfl⟩) rfl (by omega) (by omega) ?_
  intro v104
  refine RL.ldSx (i := ((1 : Int)).toNat) (e' := y100) 0 Ex.ik Tryz_ln3 rfl rfl rfl rfl SlOf.imm (idx_some e101).2.2 Part.self ?_
  refine RL.finH ?_
  refine RL.fin ?_
  refine RA.next ?_
  refine RA.seq 8 rfl (by kernel_rfl) ?_
  obtain ⟨y105, e106, h86⟩ := bind_some h86
  refine RL.call (vs := [.int .i64 y98, v104, .int .i64 y100]) Tryz_fit32 rfl rfl rfl rfl rfl (fun S f w hS hW hi => seats_Share_c S w hS y98 _ _ (hi 1 _ rfl) y100 _ e106) ?_
  intro v107
  refine RL.fin ?_
  refine RA.next ?_
  refine RA.quiet 9 rfl rfl (by kernel_rfl) ?_
  simp only [List.drop_succ_cons, List.drop_zero]
  refine RL.mv rfl rfl rfl ?_
  refine RL.ext rfl rfl rfl rfl ?_
  refine RL.ext rfl rfl rfl rfl ?_
  refine RL.asg rfl rfl rfl ?_
  refine RL.asg rfl rfl rfl ?_
  refine RL.finQ ?_
  refine RA.outQ ?_
  refine GL.weak (env' := [(12, v107), (13, .int .i64 y105.2)]) (L' := [own 3 TR.int v107 y105.1]) (fun a w st => St.cut [2] ⟨rfl, rfl, trivial⟩ (by decide) rfl st) ?_
  refine GL.seq ?_
  refine GL.region ?_
  refine RL.mv rfl rfl rfl ?_
  obtain ⟨y112, e113, h86⟩ := bind_some h86
  rcases y112 with x114 | z115
  ·replace h86 := thr_e h86
   refine RL.callE (T := 48) (n := x114) (vs := [.int .i64 y105.2]) Tryz_fit19 rfl rfl rfl rfl (fun U w hU hW hL => desk_must_c U w hU y105.2 _ e113) ?_
   have h86 := Option.some.inj h86
   subst h86
   first | exact fun a w st => And.intro st.defers (thrP_err st.toPostE) | exact fun a w st _ _ => And.intro st.defers (thrP_err st.toPostE)
  replace h86 := thr_o h86
  refine RL.callC (v := .tuple #[]) (vs := [.int .i64 y105.2]) Tryz_fit19 rfl rfl rfl rfl (fun U w hU hW hL => desk_must_c U w hU y105.2 _ e113) ?_
  refine RL.finG ?_
  refine GL.seq ?_
  refine GL.region ?_
  refine RL.mv rfl rfl rfl ?_
  obtain ⟨y118, e119, h86⟩ := bind_some h86
  refine RL.callV (v := (sv y118)) (vs := [v107]) Tryz_fit29 rfl (Or.inl rfl) rfl rfl rfl rfl (fun U w hU hW hL => desk_listed_c U w hU (hT.mono hW) _ _ (hL 0 _ _ rfl Seen.own) _ e119) ?_
  refine RL.asg rfl rfl rfl ?_
  refine RL.finG ?_
  have h86 := Option.some.inj h86
  subst h86
  exact GL.ret (Gx.ret (v := (sv y118)) (res1 rfl rfl) (fun a w st => thrP_ok (st.toPostV)))
 replace h86 := ite_f b87 h86
 refine GL.seq ?_
 obtain ⟨y123, K124, h125, h126, h127, h128, h129⟩ := bindR_K h86
 refine GL.join (ι := Bool) (fun (p : Bool) => [(5, v12), (81, .bool p)]) (fun (p : Bool) => [own 3 TR.int v12 z11]) (fun (p : Bool) => K124 (.nx p)) ?_ ?_
 ·skip
  refine GL.region ?_
  refine RL.mv rfl rfl rfl ?_
  refine RL.binS (v := .bool (x0 == ([115, 119, 105, 110, 103, 115] : B8))) rfl rfl rfl rfl rfl ?_
  refine RL.mv rfl rfl rfl ?_
  refine RL.split (t := 84) rfl (fun b130 => ?_) (fun b130 => ?_)
  ·replace h125 := ite_t b130 h125
   refine RL.mv rfl rfl rfl ?_
   refine RL.lenS 0 Tryz.underlying61 rfl rfl rfl rfl SlOf.own ?_
   refine RL.binI (v := .bool (decide (((z11).length : Int) > (0 : Int)))) rfl rfl rfl rfl rfl ?_
   refine RL.pickT rfl rfl rfl rfl ?_
   refine RL.asg rfl rfl rfl ?_
   refine RL.fin ?_
   cases h125
   exact fun a w st => mid_intro (decide (((z11).length : Int) > (0 : Int))) h126 (St.cut [0] ⟨rfl, rfl, trivial⟩ (by decide) rfl st)
  replace h125 := ite_f b130 h125
  refine RL.skip rfl rfl ?_
  refine RL.skip rfl rfl ?_
  refine RL.skip rfl rfl ?_
  refine RL.pickF rfl rfl rfl rfl ?_
  refine RL.asg rfl rfl rfl ?_
  refine RL.fin ?_
  cases h125
  exact fun a w st => mid_intro false h126 (St.cut [0] ⟨rfl, rfl, trivial⟩ (by decide) rfl st)
 rintro x122 h131
 have h132 := h127 _ h131
 try dsimp only at h132
 refine GL.weak (env' := [(5, v12), (81, .bool x122)]) (L' := [own 3 TR.int v12 z11]) (fun _ _ st => st) ?_
 refine GL.cond rfl (fun b133 => ?_) (fun b133 => ?_)
 ·replace h132 := ite_t b133 h132
  refine GL.seq ?_
  refine GL.weak (fun a w st => st.freeze 0 rfl) ?_
  refine GL.regionA rfl rfl ?_
  refine RA.mv 0 rfl (by kernel_rfl) rfl rfl rfl ?_
  refine RA.mv 2 rfl (by kernel_rfl) rfl rfl rfl ?_
  obtain ⟨y142, e143, h132⟩ := bind_some h132
  refine RA.idxS (sz := 1) 0 Tryz.underlying61 Tryz_ln3 3 rfl (by kernel_rfl) rfl rfl rfl rfl rfl SlOf.imm (idx_some e143).1 (idx_some e143).2.1 ?_
  refine RA.still (le := q_120) (f := 6) [1, 4] 5 rfl (by kernel_rfl) ?_
  simp only [pickOps, List.getElem?_toArray, List.getElem?_cons_succ, List.getElem?_cons_zero]
  obtain ⟨y144, e145, h132⟩ := bind_some h132
  replace e145 := chk_some e145
  refine RL.slc (t := TR.int) (i := ((1 : Int)).toNat) (j := (z11).length) (sz := 1) 0 Tryz.underlying61 Tryz_ln3 rfl rfl rfl rfl (Or.inr ⟨_, _, rfl, by rw [Int.toNat_of_nonneg (by omega)]; rfl⟩) (Or.inl ⟨rfl, rfl⟩) rfl (by omega) (by omega) ?_
  intro v146
  refine RL.ldSx (i := ((0 : Int)).toNat) (e' := y142) 0 Ex.ik Tryz_ln3 rfl rfl rfl rfl SlOf.imm (idx_some e143).2.2 Part.self ?_
  refine RL.finH ?_
  refine RL.fin ?_
  refine RA.next ?_
  refine RA.seq 5 rfl (by kernel_rfl) ?_
  obtain ⟨y147, e148, h132⟩ := bind_some h132
  refine RL.call (vs := [v146, .int .i64 y142]) Tryz_fit33 rfl rfl rfl rfl rfl (fun S f w hS hW hi => power_Swings_c S w hS _ _ (hi 1 _ rfl) y142 _ e148) ?_
  intro v149
  refine RL.fin ?_
  refine RA.next ?_
  refine RA.quiet 6 rfl rfl (by kernel_rfl) ?_
  simp only [List.drop_succ_cons, List.drop_zero]
  refine RL.mv rfl rfl rfl ?_
  refine RL.ext rfl rfl rfl rfl ?_
  refine RL.ext rfl rfl rfl rfl ?_
  refine RL.asg rfl rfl rfl ?_
  refine RL.asg rfl rfl rfl ?_
  refine RL.finQ ?_
  refine RA.outQ ?_
  refine GL.weak (env' := [(14, v149), (15, .int .i64 y147.2)]) (L' := [own 3 TR.int v149 y147.1]) (fun a w st => St.cut [2] ⟨rfl, rfl, trivial⟩ (by decide) rfl st) ?_
  refine GL.seq ?_
  refine GL.region ?_
  refine RL.mv rfl rfl rfl ?_
  obtain ⟨y154, e155, h132⟩ := bind_some h132
  rcases y154 with x156 | z157
  ·replace h132 := thr_e h132
   refine RL.callE (T := 48) (n := x156) (vs := [.int .i64 y147.2]) Tryz_fit19 rfl rfl rfl rfl (fun U w hU hW hL => desk_must_c U w hU y147.2 _ e155) ?_
   have h132 := Option.some.inj h132
   subst h132
   first | exact fun a w st => And.intro st.defers (thrP_err st.toPostE) | exact fun a w st _ _ => And.intro st.defers (thrP_err st.toPostE)
  replace h132 := thr_o h132
  refine RL.callC (v := .tuple #[]) (vs := [.int .i64 y147.2]) Tryz_fit19 rfl rfl rfl rfl (fun U w hU hW hL => desk_must_c U w hU y147.2 _ e155) ?_
  refine RL.finG ?_
  refine GL.seq ?_
  refine GL.region ?_
  refine RL.mv rfl rfl rfl ?_
  obtain ⟨y160, e161, h132⟩ := bind_some h132
  refine RL.callV (v := (sv y160)) (vs := [v149]) Tryz_fit29 rfl (Or.inl rfl) rfl rfl rfl rfl (fun U w hU hW hL => desk_listed_c U w hU (hT.mono hW) _ _ (hL 0 _ _ rfl Seen.own) _ e161) ?_
  refine RL.asg rfl rfl rfl ?_
  refine RL.finG ?_
  have h132 := Option.some.inj h132
  subst h132
  exact GL.ret (Gx.ret (v := (sv y160)) (res1 rfl rfl) (fun a w st => thrP_ok (st.toPostV)))
 replace h132 := ite_f b133 h132
 refine GL.skip ?_
 refine GL.nilB ?_
 refine GL.seq ?_
 refine GL.region ?_
 obtain ⟨y166, e167, h132⟩ := bind_some h132
 rcases y166 with x168 | z169
 ·replace h132 := thr_e h132
  refine RL.callE (T := 48) (n := x168) (vs := [.int .i64 (12 : Int)]) Tryz_fit19 rfl rfl rfl rfl (fun U w hU hW hL => desk_must_c U w hU (12 : Int) _ e167) ?_
  have h132 := Option.some.inj h132
  subst h132
  first | exact fun a w st => And.intro st.defers (thrP_err st.toPostE) | exact fun a w st _ _ => And.intro st.defers (thrP_err st.toPostE)
 replace h132 := thr_o h132
 refine RL.callC (v := .tuple #[]) (vs := [.int .i64 (12 : Int)]) Tryz_fit19 rfl rfl rfl rfl (fun U w hU hW hL => desk_must_c U w hU (12 : Int) _ e167) ?_
 refine RL.finG ?_
 refine GL.seq ?_
 refine GL.region ?_
 refine RL.asg rfl rfl rfl ?_
 refine RL.finG ?_
 have h132 := Option.some.inj h132
 subst h132
 exact GL.ret (Gx.ret (v := (sv (([] : B8)))) (res1 rfl rfl) (fun a w st => thrP_ok (st.toPostV)))

theorem catch_idle (p : Addr) (w : World) :
    CallsD Tryz.prog 17 #[.pointer (some p)] .returning w fun e u' w' => e = .returned (.tuple #[]) ∧ u' = .returning ∧ w' = w := by
  refine callsD_of_wpS Tryz.func17 rfl fun c₀ cs hu => ?_
  apply wpS_seq
  apply wpS_region
  simp [wpOpsS, go_sem, recoverD, hu, Tryz.ntmps17, Exit.thenS]
  apply wpS_seq
  apply wpS_region
  simp [wpOpsS, go_sem, recoverD, hu, Tryz.ntmps17, Exit.thenS]
  refine wpS_cond (t := false) (by simp [Act.eval, Array.replicate]) ?_
  simp only [Bool.false_eq_true, if_false]
  refine wpS_of_wp (wp_skip ?_)
  cases c₀
  simp_all [bodyPostS, results, Tryz.results17]
theorem catch_panicking (p : Addr) (s0 : ByteArray) (x : Int) (w : World) (hc : w.cell? p = some (.string s0)) (hz : w.frozen? p = false) (h0 : 0 ≤ x) (h1 : x ≤ 1000000) (hT : Lib.TabIs Tryz.prog w "internal/strconv.uint64pow10" .u64 Lib.pow10Tab) :
    CallsD Tryz.prog 17 #[.pointer (some p)] (.panicking (refuse 48 x)) w fun e u' w' =>
      e = .returned (.tuple #[]) ∧ u' = .panicking [{ v := .iface 48 (.agg #[.int .i64 x]), recovered := true }] ∧ ∃ k os, w' = (Go.Sort.grow (w.drewN k) os).setCell p (.string ⟨(([101, 114, 114, 111, 114, 32] : B8) ++ Lib.itoa x).toArray⟩) := by
  refine callsD_of_wpS Tryz.func17 rfl fun c₀ cs hu => ?_
  apply wpS_seq
  apply wpS_region
  simp [wpOpsS, go_sem, recoverD, hu, Tryz.ntmps17, Exit.thenS, refuse]
  apply wpS_seq
  apply wpS_region
  simp [wpOpsS, go_sem, recoverD, hu, Tryz.ntmps17, Exit.thenS]
  refine wpS_cond (t := true) (by simp [Act.eval, Array.replicate]) ?_
  simp only [if_true]
  have hI : Calls Tryz.prog 18 #[.int .i64 x] w fun e w' => e = .returned (.string ⟨(Lib.itoa x).toArray⟩) ∧ ∃ k os, w' = Go.Sort.grow (w.drewN k) os := Any.strconv_Itoa Tryz.lays171 x (by omega) (by omega) w hT
  have hta : ∀ (v : Value) (w : World), (Instr.typeAssert (.iface 48 v) 20 48 false).run Tryz.prog w = .ok v w := fun v w => by simp [Instr.typeAssert, run_underlying Tryz.underlying48, go_sem, Result.andThen]
  have hfd : ∀ (w : World), (Instr.field 48 (.agg #[.int .i64 x]) 0).run Tryz.prog w = .ok (.int .i64 x) w := fun w => by
    simp [Instr.field, run_underlying Tryz.underlying48, go_sem, Result.andThen, part, Tryz.isAgg24, asAgg]
  have hb : p.block < w.heap.size := by
    rcases Nat.lt_or_ge p.block w.heap.size with h | h
    · exact h
    · simp [World.cell?, Array.getElem?_eq_none h] at hc
  have hg : ∀ (k : Nat) (os : Array Obj), (Go.Sort.grow (w.drewN k) os).cell? p = some (.string s0) ∧ (Go.Sort.grow (w.drewN k) os).frozen? p = false := fun k os => by
    have e : (Go.Sort.grow (w.drewN k) os).heap[p.block]? = w.heap[p.block]? := by
      show (w.heap ++ os)[p.block]? = _
      exact Array.getElem?_append_left hb
    refine ⟨?_, ?_⟩
    · unfold World.cell? at *; rw [e]; exact hc
    · unfold World.frozen? at *; rw [e]; exact hz
  refine wpS_of_wp ?_
  go_wp2_with (go_at_call 18; refine hI.mono ?_; rintro e w' ⟨rfl, k, os, rfl⟩)
  · have := itoa_short h0 h1
    rename_i hbig
    exfalso
    omega
  · have e : (({ data := #[101, 114, 114, 111, 114, 32] } : ByteArray) ++ { data := (Lib.itoa x).toArray }) = ⟨(([101, 114, 114, 111, 114, 32] : B8) ++ Lib.itoa x).toArray⟩ := by
      apply ByteArray.ext; simp [ByteArray.data_append]
    rw [e]
    simp [bodyPostS, results, Tryz.results17]
    exact ⟨k, os, rfl⟩
theorem desk_desk_answer_c (B : World) (S X : Hp) (f : Nat → Hp) (w : World) (v0 : Value) (u0a : Value) (u0b : Value) (x0 : TyH) (hO : HeapOk B.heap.size S f [obox 35 (TR.rec1 TR.raw) v0 u0a, obox 45 TrH u0a (x0.1, (x0.2.1, u0b)), obox 55 TrL u0b x0.2.2, keep X].length w) (hB : Below B.heap.size B w) (hI : Its [obox 35 (TR.rec1 TR.raw) v0 u0a, obox 45 TrH u0a (x0.1, (x0.2.1, u0b)), obox 55 TrL u0b x0.2.2, keep X] S f) (hT : Tab Tryz.prog (Tryz.lays146_ren.g 1) S) (x1 : B8) (res : B8 × TyH) (hm : desk_desk_answer_m x0 x1 = some res) : Calls Tryz.prog 12 #[v0, (sv x1)] w (PostM B S (fun (o : Unit) => (sv res.1)) (fun (o : Unit) => [obox 35 (TR.rec1 TR.raw) v0 u0a, obox 45 TrH u0a (res.2.1, (res.2.2.1, u0b)), obox 55 TrL u0b res.2.2.2, keep X])) := by
 refine calls_enterD 47 Tryz.func12 Tryz.ntmps12 rfl B S f [(0, v0), (1, (sv x1))] [obox 35 (TR.rec1 TR.raw) v0 u0a, obox 45 TrH u0a (x0.1, (x0.2.1, u0b)), obox 55 TrL u0b x0.2.2, keep X] [] rfl ⟨rfl, ⟨rfl, trivial⟩⟩ hB hO hI trivial ?_
 unfold desk_desk_answer_m at hm
 refine GL.seq ?_
 refine GL.region ?_
 refine RL.alloc (t := TR.str) (z := ([] : B8)) Tryz_lo9 (fun S => rfl) rfl rfl rfl ?_
 intro v4
 refine RL.finG ?_
 refine GL.seq ?_
 refine GL.region ?_
 refine RL.mkF (vs := [v4]) rfl rfl rfl ?_
 refine RL.dfr rfl rfl ?_
 refine RL.finG ?_
 refine GL.seq ?_
 refine GL.region ?_
 refine RL.asg rfl rfl rfl ?_
 refine RL.finG ?_
 refine GL.seq ?_
 refine GL.seq ?_
 refine GL.region ?_
 refine RL.mv rfl rfl rfl ?_
 obtain ⟨y8, e9, hm⟩ := bind_some hm
 refine RL.call (vs := [(sv x1), (sv (([32] : B8)))]) Tryz_fit7 rfl rfl rfl rfl rfl (fun S f w hS hW hi => strings_Split_c S w hS (hT.mono hW) x1 ([32] : B8) _ e9) ?_
 intro v10
 refine RL.reL (L' := [obox 35 (TR.rec1 TR.raw) v0 u0a, obox 45 TrH u0a (x0.1, (x0.2.1, u0b)), obox 55 TrL u0b x0.2.2, keep X, obox 9 TR.str v4 ([] : B8), own 9 TR.str v10 y8]) rfl ?_
 refine RL.lenS 5 Tryz.underlying22 rfl rfl rfl rfl SlOf.own ?_
 refine RL.mv rfl rfl rfl ?_
 refine RL.finG ?_
 refine GL.weak (fun a w st => st.nilOwn 9 TR.str) ?_
 refine GL.lenOwn 5 rfl (fun n26 => ?_)
 obtain ⟨y27, K28, h29, h30, h31, h32, h33⟩ := bindR_K hm
 refine GL.join (ι := (List B8) × Value) (fun (p : (List B8) × Value) => [(0, v0), (4, v4), (5, p.2)]) (fun (p : (List B8) × Value) => [obox 35 (TR.rec1 TR.raw) v0 u0a, obox 45 TrH u0a (x0.1, (x0.2.1, u0b)), obox 55 TrL u0b x0.2.2, keep X, obox 9 TR.str v4 ([] : B8), own 9 TR.str p.2 p.1]) (fun (p : (List B8) × Value) => K28 (.nx p.1)) ?_ ?_
 ·refine GL.block ?_
  refine GL.loop (ι := Nat × Nat × (List B8) × Value) (fun (p : Nat × Nat × (List B8) × Value) => [(0, v0), (4, v4), (5, p.2.2.2), (12, v10), (13, .int .i64 ((y8).length : Int)), (14, .int .i64 (p.1 : Int))]) (fun (p : Nat × Nat × (List B8) × Value) => [obox 35 (TR.rec1 TR.raw) v0 u0a, obox 45 TrH u0a (x0.1, (x0.2.1, u0b)), obox 55 TrL u0b x0.2.2, obox 9 TR.str v4 ([] : B8), own 9 TR.str p.2.2.2 p.2.2.1, own 9 TR.str v10 y8, keep X]) (fun (p : Nat × Nat × (List B8) × Value) => p.1 + p.2.1 = (y8).length ∧ rangeN (desk_desk_answer_b1 y8) p.2.1 p.1 p.2.2.1 = some y27) (fun (p : Nat × Nat × (List B8) × Value) => p.2.1) (0, (y8).length, [], Value.slice none 0 0) ⟨by simp, h29⟩ (fun a w st => St.cut [0, 1, 2, 4, 6, 5, 3] ⟨rfl, rfl, rfl, rfl, rfl, rfl, trivial⟩ (by decide) rfl st) ?_
  rintro ⟨i34, r35, l11, v12⟩ ⟨h40, h39⟩
  try dsimp only at h40 h39
  refine GL.weak (env' := [(0, v0), (4, v4), (5, v12), (12, v10), (13, .int .i64 ((y8).length : Int)), (14, .int .i64 (i34 : Int))]) (L' := [obox 35 (TR.rec1 TR.raw) v0 u0a, obox 45 TrH u0a (x0.1, (x0.2.1, u0b)), obox 55 TrL u0b x0.2.2, obox 9 TR.str v4 ([] : B8), own 9 TR.str v12 l11, own 9 TR.str v10 y8, keep X]) (fun _ _ st => st) ?_
  refine GL.seq ?_
  refine GL.region ?_
  refine RL.binI (v := .bool (decide ((i34 : Int) < ((y8).length : Int)))) rfl rfl rfl rfl rfl ?_
  refine RL.finG ?_
  refine GL.seq ?_
  refine GL.cond rfl (fun b42 => ?_) (fun b42 => ?_)
  ·have h43 : i34 < (y8).length := by have := of_decide_eq_true b42; omega
   obtain ⟨r44, hr⟩ : ∃ m, r35 = m + 1 := ⟨r35 - 1, by omega⟩
   subst hr
   obtain ⟨z36, h37, h38⟩ := rangeN_some h39
   unfold desk_desk_answer_b1 at h37
   try dsimp only at h37
   refine GL.skip ?_
   refine GL.seq ?_
   refine GL.block ?_
   refine GL.seq ?_
   refine GL.region ?_
   obtain ⟨y47, e48, h37⟩ := bind_some h37
   refine RL.idxS (sz := 1) 5 Tryz.underlying22 Tryz_ln9 rfl rfl rfl rfl rfl SlOf.own (idx_some e48).1 (idx_some e48).2.1 ?_
   refine RL.ldSx (i := i34) (e' := y47) 5 Ex.str Tryz_ln9 rfl rfl rfl rfl SlOf.own (idx_some e48).2.2 Part.self ?_
   refine RL.asg rfl rfl rfl ?_
   refine RL.finG ?_
   refine GL.seq ?_
   refine GL.region ?_
   refine RL.mv rfl rfl rfl ?_
   refine RL.binS (v := .bool (!(y47 == ([] : B8)))) rfl rfl rfl rfl rfl ?_
   refine RL.finG ?_
   refine GL.cond rfl (fun b49 => ?_) (fun b49 => ?_)
   ·replace h37 := ite_t b49 h37
    refine GL.region ?_
    refine RL.mv rfl rfl rfl ?_
    refine RL.mv rfl rfl rfl ?_
    refine RL.bS (t := TR.str) (vs := [(sv y47)]) ([y47] : (List B8)) Tryz.underlying22 Tryz_lo9 rfl rfl rfl rfl ⟨VR.str, trivial⟩ rfl (by decide) ?_
    intro v54
    obtain ⟨y55, e56, h37⟩ := bind_some h37
    replace e56 := chk_some e56
    refine RL.app 4 7 Tryz.underlying22 Tryz_lo9 rfl rfl rfl rfl rfl rfl rfl SlOf.own e56 ?_
    intro v57
    refine RL.reL (L' := [obox 35 (TR.rec1 TR.raw) v0 u0a, obox 45 TrH u0a (x0.1, (x0.2.1, u0b)), obox 55 TrL u0b x0.2.2, obox 9 TR.str v4 ([] : B8), own 9 TR.str v57 (l11 ++ ([y47] : (List B8))), own 9 TR.str v10 y8, keep X, own 9 TR.str v54 ([y47] : (List B8))]) rfl ?_
    refine RL.asg rfl rfl rfl ?_
    refine RL.finG ?_
    refine GL.nilB ?_
    refine GL.region ?_
    refine RL.binI (v := .int .i64 ((i34 + 1 : Nat) : Int)) rfl rfl rfl rfl (binI_succ i34 (by omega)) ?_
    refine RL.mv rfl rfl rfl ?_
    refine RL.fin ?_
    cases h37
    exact fun a w st => lop_intro (i34 + 1, r44, (l11 ++ ([y47] : (List B8))), v57) ⟨by show i34 + 1 + r44 = (y8).length; omega, h38⟩ (by simp) (St.cut [0, 1, 2, 3, 4, 5, 6] ⟨rfl, rfl, rfl, rfl, rfl, rfl, trivial⟩ (by decide) rfl st)
   replace h37 := ite_f b49 h37
   refine GL.skip ?_
   refine GL.nilB ?_
   refine GL.region ?_
   refine RL.binI (v := .int .i64 ((i34 + 1 : Nat) : Int)) rfl rfl rfl rfl (binI_succ i34 (by omega)) ?_
   refine RL.mv rfl rfl rfl ?_
   refine RL.fin ?_
   cases h37
   exact fun a w st => lop_intro (i34 + 1, r44, l11, v12) ⟨by show i34 + 1 + r44 = (y8).length; omega, h38⟩ (by simp) (St.cut [0, 1, 2, 3, 4, 5, 6] ⟨rfl, rfl, rfl, rfl, rfl, rfl, trivial⟩ (by decide) rfl st)
  have h43 : ¬ i34 < (y8).length := by have := of_decide_eq_false b42; omega
  obtain rfl : r35 = 0 := by omega
  replace h39 : some (Fl.nx _) = some y27 := h39
  cases h39
  exact GL.exit (fun a w st => mid_intro (l11, v12) h30 (St.cut [0, 1, 2, 6, 3, 4] ⟨rfl, rfl, rfl, trivial⟩ (by decide) rfl st))
 rintro ⟨l11, v12⟩ h58
 have h59 := h31 _ h58
 try dsimp only at h59
 refine GL.weak (env' := [(0, v0), (4, v4), (5, v12)]) (L' := [obox 35 (TR.rec1 TR.raw) v0 u0a, obox 45 TrH u0a (x0.1, (x0.2.1, u0b)), obox 55 TrL u0b x0.2.2, keep X, obox 9 TR.str v4 ([] : B8), own 9 TR.str v12 l11]) (fun _ _ st => st) ?_
 refine GL.seq ?_
 refine GL.seq ?_
 refine GL.region ?_
 refine RL.mv rfl rfl rfl ?_
 refine RL.lenS 5 Tryz.underlying22 rfl rfl rfl rfl SlOf.own ?_
 refine RL.binI (v := .bool (((l11).length : Int) == (0 : Int))) rfl rfl rfl rfl rfl ?_
 refine RL.finG ?_
 obtain ⟨y69, K70, h71, h72, h73, h74, h75⟩ := bindR_K h59
 refine GL.join (ι := Unit) (fun (p : Unit) => [(0, v0), (4, v4), (5, v12)]) (fun (p : Unit) => [obox 35 (TR.rec1 TR.raw) v0 u0a, obox 45 TrH u0a (x0.1, (x0.2.1, u0b)), obox 55 TrL u0b x0.2.2, obox 9 TR.str v4 ([] : B8), own 9 TR.str v12 l11, keep X]) (fun (p : Unit) => K70 (.nx ())) ?_ ?_
 ·skip
  refine GL.cond rfl (fun b76 => ?_) (fun b76 => ?_)
  ·replace h71 := ite_t b76 h71
   refine GL.region ?_
   obtain ⟨y82, e83, h71⟩ := bind_some h71
   rcases y82 with x84 | z85
   ·replace h71 := thr_e h71
    refine RL.callE (T := 48) (n := x84) (vs := [.int .i64 (12 : Int)]) Tryz_fit19 rfl rfl rfl rfl (fun U w hU hW hL => desk_must_c U w hU (12 : Int) _ e83) ?_
    obtain ⟨_, c86, h71⟩ := bind_some h71
    replace c86 := chk_some c86
    cases h71
    have hh := h74 _ h72
    subst hh
    first | exact fun a w st => Gx.catchD 4 rfl Tryz_ln9 rfl rfl rfl rfl (fun u w => by simp [invoke, run_callFunc Tryz_fit17]) hT (fun p s0 w h1 h2 h3 => catch_panicking p s0 x84 w h1 h2 c86.1 c86.2 h3) (fun a w st => (st.pick [0, 1, 2, 3] (by decide) rfl).toPostM (V := fun (o : Unit) => (sv (((([101, 114, 114, 111, 114, 32] : B8) ++ Go.Lib.itoa x84), x0).1))) (LR := fun (o : Unit) => [obox 35 (TR.rec1 TR.raw) v0 u0a, obox 45 TrH u0a ((((([101, 114, 114, 111, 114, 32] : B8) ++ Go.Lib.itoa x84), x0).2).1, ((((([101, 114, 114, 111, 114, 32] : B8) ++ Go.Lib.itoa x84), x0).2).2.1, u0b)), obox 55 TrL u0b ((((([101, 114, 114, 111, 114, 32] : B8) ++ Go.Lib.itoa x84), x0).2).2.2), keep X]) ()) a w st a.tmps rfl | exact fun a w st t ht => Gx.catchD 4 rfl Tryz_ln9 rfl rfl rfl rfl (fun u w => by simp [invoke, run_callFunc Tryz_fit17]) hT (fun p s0 w h1 h2 h3 => catch_panicking p s0 x84 w h1 h2 c86.1 c86.2 h3) (fun a w st => (st.pick [0, 1, 2, 3] (by decide) rfl).toPostM (V := fun (o : Unit) => (sv (((([101, 114, 114, 111, 114, 32] : B8) ++ Go.Lib.itoa x84), x0).1))) (LR := fun (o : Unit) => [obox 35 (TR.rec1 TR.raw) v0 u0a, obox 45 TrH u0a ((((([101, 114, 114, 111, 114, 32] : B8) ++ Go.Lib.itoa x84), x0).2).1, ((((([101, 114, 114, 111, 114, 32] : B8) ++ Go.Lib.itoa x84), x0).2).2.1, u0b)), obox 55 TrL u0b ((((([101, 114, 114, 111, 114, 32] : B8) ++ Go.Lib.itoa x84), x0).2).2.2), keep X]) ()) a w st t (ht 4 (by kernel_rfl))
   replace h71 := thr_o h71
   refine RL.callC (v := .tuple #[]) (vs := [.int .i64 (12 : Int)]) Tryz_fit19 rfl rfl rfl rfl (fun U w hU hW hL => desk_must_c U w hU (12 : Int) _ e83) ?_
   refine RL.finG ?_
   cases h71
   exact fun a w st => mid_intro () h72 (St.cut [0, 1, 2, 4, 5, 3] ⟨rfl, rfl, rfl, trivial⟩ (by decide) rfl st)
  replace h71 := ite_f b76 h71
  refine GL.skip ?_
  cases h71
  exact fun a w st => mid_intro () h72 (St.cut [0, 1, 2, 4, 5, 3] ⟨rfl, rfl, rfl, trivial⟩ (by decide) rfl st)
 rintro ⟨⟩ h87
 have h88 := h73 _ h87
 try dsimp only at h88
 refine GL.weak (env' := [(0, v0), (4, v4), (5, v12)]) (L' := [obox 35 (TR.rec1 TR.raw) v0 u0a, obox 45 TrH u0a (x0.1, (x0.2.1, u0b)), obox 55 TrL u0b x0.2.2, obox 9 TR.str v4 ([] : B8), own 9 TR.str v12 l11, keep X]) (fun _ _ st => st) ?_
 refine GL.seq ?_
 refine GL.seq ?_
 refine GL.weak (fun a w st => st.freeze 4 rfl) ?_
 refine GL.regionA rfl rfl ?_
 refine RA.mv 0 rfl (by kernel_rfl) rfl rfl rfl ?_
 refine RA.mv 1 rfl (by kernel_rfl) rfl rfl rfl ?_
 obtain ⟨y100, e101, h88⟩ := bind_some h88
 refine RA.idxS (sz := 1) 4 Tryz.underlying22 Tryz_ln9 2 rfl (by kernel_rfl) rfl rfl rfl rfl rfl SlOf.imm (idx_some e101).1 (idx_some e101).2.1 ?_
 refine RA.mv 4 rfl (by kernel_rfl) rfl rfl rfl ?_
 refine RA.still (le := q_96) (f := 6) [3, 5] 6 rfl (by kernel_rfl) ?_
 simp only [pickOps, List.getElem?_toArray, List.getElem?_cons_succ, List.getElem?_cons_zero]
 refine RL.ldSx (i := ((0 : Int)).toNat) (e' := y100) 4 Ex.str Tryz_ln9 rfl rfl rfl rfl SlOf.imm (idx_some e101).2.2 Part.self ?_
 obtain ⟨y102, e103, h88⟩ := bind_some h88
 replace e103 := chk_some e103
 refine RL.slc (t := TR.str) (i := ((1 : Int)).toNat) (j := (l11).length) (sz := 1) 4 Tryz.underlying22 Tryz_ln9 rfl rfl rfl rfl (Or.inr ⟨_, _, rfl, by rw [Int.toNat_of_nonneg (by omega)]; rfl⟩) (Or.inl ⟨rfl, rfl⟩) rfl (by omega) (by omega) ?_
 intro v104
 refine RL.finH ?_
 refine RL.fin ?_
 refine RA.next ?_
 refine RA.seq 6 rfl (by kernel_rfl) ?_
 obtain ⟨y105, e106, h88⟩ := bind_some h88
 rcases h109 : y105.1 with x107 | z108
 ·rw [h109] at h88
  replace h88 := thr_e h88
  refine RL.callKE (T := 48) (n := x107) (vs := [v0, (sv y100), v104]) (LR := [obox 35 (TR.rec1 TR.raw) v0 u0a, obox 45 TrH u0a (y105.2.1, (y105.2.2.1, u0b)), obox 55 TrL u0b y105.2.2.2]) (Ls := [obox 35 (TR.rec1 TR.raw) v0 u0a, obox 45 TrH u0a (x0.1, (x0.2.1, u0b)), obox 55 TrL u0b x0.2.2]) [0, 1, 2] (by decide) Tryz_fit20 rfl rfl rfl rfl rfl (fun S f X w hO hB hW hI hL => by have q := desk_desk_deed_c _ S X f w _ _ _ x0  hO hB hI (hT.mono hW) y100 _ _ (hL 6 _ _ rfl Sure.imm) _ e106; rw [h109] at q; exact q) ?_
  obtain ⟨_, c110, h88⟩ := bind_some h88
  replace c110 := chk_some c110
  have h88 := Option.some.inj h88
  subst h88
  first | exact fun a w st => Gx.catchD 3 rfl Tryz_ln9 rfl rfl rfl rfl (fun u w => by simp [invoke, run_callFunc Tryz_fit17]) hT (fun p s0 w h1 h2 h3 => catch_panicking p s0 x107 w h1 h2 c110.1 c110.2 h3) (fun a w st => (st.pick [7, 8, 9, 5] (by decide) rfl).toPostM (V := fun (o : Unit) => (sv (((([101, 114, 114, 111, 114, 32] : B8) ++ Go.Lib.itoa x107), y105.2).1))) (LR := fun (o : Unit) => [obox 35 (TR.rec1 TR.raw) v0 u0a, obox 45 TrH u0a ((((([101, 114, 114, 111, 114, 32] : B8) ++ Go.Lib.itoa x107), y105.2).2).1, ((((([101, 114, 114, 111, 114, 32] : B8) ++ Go.Lib.itoa x107), y105.2).2).2.1, u0b)), obox 55 TrL u0b ((((([101, 114, 114, 111, 114, 32] : B8) ++ Go.Lib.itoa x107), y105.2).2).2.2), keep X]) ()) a w st a.tmps rfl | exact fun a w st t ht => Gx.catchD 3 rfl Tryz_ln9 rfl rfl rfl rfl (fun u w => by simp [invoke, run_callFunc Tryz_fit17]) hT (fun p s0 w h1 h2 h3 => catch_panicking p s0 x107 w h1 h2 c110.1 c110.2 h3) (fun a w st => (st.pick [7, 8, 9, 5] (by decide) rfl).toPostM (V := fun (o : Unit) => (sv (((([101, 114, 114, 111, 114, 32] : B8) ++ Go.Lib.itoa x107), y105.2).1))) (LR := fun (o : Unit) => [obox 35 (TR.rec1 TR.raw) v0 u0a, obox 45 TrH u0a ((((([101, 114, 114, 111, 114, 32] : B8) ++ Go.Lib.itoa x107), y105.2).2).1, ((((([101, 114, 114, 111, 114, 32] : B8) ++ Go.Lib.itoa x107), y105.2).2).2.1, u0b)), obox 55 TrL u0b ((((([101, 114, 114, 111, 114, 32] : B8) ++ Go.Lib.itoa x107), y105.2).2).2.2), keep X]) ()) a w st t (ht 4 (by kernel_rfl))
 rw [h109] at h88
 replace h88 := thr_o h88
 refine RL.callK (vs := [v0, (sv y100), v104]) (V := fun (o : Unit) => .tuple #[(sv z108.1), .bool z108.2]) (LR := fun (o : Unit) => [obox 35 (TR.rec1 TR.raw) v0 u0a, obox 45 TrH u0a (y105.2.1, (y105.2.2.1, u0b)), obox 55 TrL u0b y105.2.2.2]) (Ls := [obox 35 (TR.rec1 TR.raw) v0 u0a, obox 45 TrH u0a (x0.1, (x0.2.1, u0b)), obox 55 TrL u0b x0.2.2]) [0, 1, 2] (by decide) Tryz_fit20 rfl rfl rfl rfl rfl rfl (fun S f X w hO hB hW hI hL => by have q := desk_desk_deed_c _ S X f w _ _ _ x0  hO hB hI (hT.mono hW) y100 _ _ (hL 6 _ _ rfl Sure.imm) _ e106; rw [h109] at q; exact q) ?_
 intro _
 refine RL.fin ?_
 refine RA.next ?_
 refine RA.quiet 7 rfl rfl (by kernel_rfl) ?_
 simp only [List.drop_succ_cons, List.drop_zero]
 refine RL.mv rfl rfl rfl ?_
 refine RL.reL (L' := [gone, gone, gone, obox 9 TR.str v4 ([] : B8), imm (TR.sl TR.str) v12 l11, keep X, imm (TR.sl TR.str) v104 ((List.take ((l11).length) l11).drop (((1 : Int)).toNat)), obox 35 (TR.rec1 TR.raw) v0 u0a, obox 45 TrH u0a (y105.2.1, (y105.2.2.1, u0b)), obox 55 TrL u0b y105.2.2.2]) rfl ?_
 refine RL.ext rfl rfl rfl rfl ?_
 refine RL.ext rfl rfl rfl rfl ?_
 refine RL.asg rfl rfl rfl ?_
 refine RL.asg rfl rfl rfl ?_
 refine RL.finQ ?_
 refine RA.outQ ?_
 refine GL.weak (env' := [(4, v4), (5, v12), (8, (sv z108.1)), (9, .bool z108.2)]) (L' := [keep X, obox 35 (TR.rec1 TR.raw) v0 u0a, obox 45 TrH u0a (y105.2.1, (y105.2.2.1, u0b)), obox 55 TrL u0b y105.2.2.2, obox 9 TR.str v4 ([] : B8), imm (TR.sl TR.str) v12 l11]) (fun a w st => St.cut [5, 7, 8, 9, 3, 4] ⟨rfl, rfl, rfl, rfl, trivial⟩ (by decide) rfl st) ?_
 refine GL.seq ?_
 refine GL.region ?_
 refine RL.mv rfl rfl rfl ?_
 refine RL.finG ?_
 refine GL.cond rfl (fun b111 => ?_) (fun b111 => ?_)
 ·replace h88 := ite_t b111 h88
  refine GL.seq ?_
  refine GL.region ?_
  refine RL.mv rfl rfl rfl ?_
  refine RL.stP (off := 0) (e' := z108.1) (d1 := z108.1) (r := TR.str) 4 Tryz_ln9 rfl rfl (Or.inr ⟨rfl, rfl⟩) rfl VR.str rfl Upd.self ?_
  refine RL.finG ?_
  have h88 := Option.some.inj h88
  subst h88
  exact GL.ret (Gx.retD 4 rfl Tryz_ln9 rfl rfl rfl (fun u w => by simp [invoke, run_callFunc Tryz_fit17]) catch_idle (fun a w st => (st.pick [1, 2, 3, 0] (by decide) rfl).toPostM (V := fun (o : Unit) => (sv ((z108.1, y105.2).1))) (LR := fun (o : Unit) => [obox 35 (TR.rec1 TR.raw) v0 u0a, obox 45 TrH u0a (((z108.1, y105.2).2).1, (((z108.1, y105.2).2).2.1, u0b)), obox 55 TrL u0b (((z108.1, y105.2).2).2.2), keep X]) ()))
 replace h88 := ite_f b111 h88
 refine GL.skip ?_
 refine GL.seq ?_
 refine GL.regionA rfl rfl ?_
 refine RA.mv 0 rfl (by kernel_rfl) rfl rfl rfl ?_
 obtain ⟨y123, e124, h88⟩ := bind_some h88
 refine RA.idxS (sz := 1) 5 Tryz.underlying22 Tryz_ln9 1 rfl (by kernel_rfl) rfl rfl rfl rfl rfl SlOf.imm (idx_some e124).1 (idx_some e124).2.1 ?_
 refine RA.mv 3 rfl (by kernel_rfl) rfl rfl rfl ?_
 refine RA.still (le := q_121) (f := 2) [2, 4] 5 rfl (by kernel_rfl) ?_
 simp only [pickOps, List.getElem?_toArray, List.getElem?_cons_succ, List.getElem?_cons_zero]
 refine RL.ldSx (i := ((0 : Int)).toNat) (e' := y123) 5 Ex.str Tryz_ln9 rfl rfl rfl rfl SlOf.imm (idx_some e124).2.2 Part.self ?_
 obtain ⟨y125, e126, h88⟩ := bind_some h88
 replace e126 := chk_some e126
 refine RL.slc (t := TR.str) (i := ((1 : Int)).toNat) (j := (l11).length) (sz := 1) 5 Tryz.underlying22 Tryz_ln9 rfl rfl rfl rfl (Or.inr ⟨_, _, rfl, by rw [Int.toNat_of_nonneg (by omega)]; rfl⟩) (Or.inl ⟨rfl, rfl⟩) rfl (by omega) (by omega) ?_
 intro v127
 refine RL.finH ?_
 refine RL.fin ?_
 refine RA.next ?_
 refine RA.seq 5 rfl (by kernel_rfl) ?_
 obtain ⟨y128, e129, h88⟩ := bind_some h88
 rcases y128 with x130 | z131
 ·replace h88 := thr_e h88
  refine RL.callE (T := 48) (n := x130) (vs := [(sv y123), v127]) Tryz_fit21 rfl rfl rfl rfl (fun U w hU hW hL => desk_asked_c U w hU (hT.mono hW) y123 _ _ (hL 6 _ _ rfl Seen.imm) _ e129) ?_
  obtain ⟨_, c132, h88⟩ := bind_some h88
  replace c132 := chk_some c132
  have h88 := Option.some.inj h88
  subst h88
  first | exact fun a w st => Gx.catchD 4 rfl Tryz_ln9 rfl rfl rfl rfl (fun u w => by simp [invoke, run_callFunc Tryz_fit17]) hT (fun p s0 w h1 h2 h3 => catch_panicking p s0 x130 w h1 h2 c132.1 c132.2 h3) (fun a w st => (st.pick [1, 2, 3, 0] (by decide) rfl).toPostM (V := fun (o : Unit) => (sv (((([101, 114, 114, 111, 114, 32] : B8) ++ Go.Lib.itoa x130), y105.2).1))) (LR := fun (o : Unit) => [obox 35 (TR.rec1 TR.raw) v0 u0a, obox 45 TrH u0a ((((([101, 114, 114, 111, 114, 32] : B8) ++ Go.Lib.itoa x130), y105.2).2).1, ((((([101, 114, 114, 111, 114, 32] : B8) ++ Go.Lib.itoa x130), y105.2).2).2.1, u0b)), obox 55 TrL u0b ((((([101, 114, 114, 111, 114, 32] : B8) ++ Go.Lib.itoa x130), y105.2).2).2.2), keep X]) ()) a w st a.tmps rfl | exact fun a w st t ht => Gx.catchD 4 rfl Tryz_ln9 rfl rfl rfl rfl (fun u w => by simp [invoke, run_callFunc Tryz_fit17]) hT (fun p s0 w h1 h2 h3 => catch_panicking p s0 x130 w h1 h2 c132.1 c132.2 h3) (fun a w st => (st.pick [1, 2, 3, 0] (by decide) rfl).toPostM (V := fun (o : Unit) => (sv (((([101, 114, 114, 111, 114, 32] : B8) ++ Go.Lib.itoa x130), y105.2).1))) (LR := fun (o : Unit) => [obox 35 (TR.rec1 TR.raw) v0 u0a, obox 45 TrH u0a ((((([101, 114, 114, 111, 114, 32] : B8) ++ Go.Lib.itoa x130), y105.2).2).1, ((((([101, 114, 114, 111, 114, 32] : B8) ++ Go.Lib.itoa x130), y105.2).2).2.1, u0b)), obox 55 TrL u0b ((((([101, 114, 114, 111, 114, 32] : B8) ++ Go.Lib.itoa x130), y105.2).2).2.2), keep X]) ()) a w st t (ht 4 (by kernel_rfl))
 replace h88 := thr_o h88
 refine RL.callV (v := (sv z131)) (vs := [(sv y123), v127]) Tryz_fit21 rfl (Or.inl rfl) rfl rfl rfl rfl (fun U w hU hW hL => desk_asked_c U w hU (hT.mono hW) y123 _ _ (hL 6 _ _ rfl Seen.imm) _ e129) ?_
 refine RL.fin ?_
 refine RA.next ?_
 refine RA.seq 6 rfl (by kernel_rfl) ?_
 refine RL.stP (off := 0) (e' := z131) (d1 := z131) (r := TR.str) 4 Tryz_ln9 rfl rfl (Or.inr ⟨rfl, rfl⟩) rfl VR.str rfl Upd.self ?_
 refine RL.fin ?_
 refine RA.next ?_
 refine RA.doneG (by kernel_rfl) ?_
 refine GL.weak (env' := [(4, v4)]) (L' := [keep X, obox 35 (TR.rec1 TR.raw) v0 u0a, obox 45 TrH u0a (y105.2.1, (y105.2.2.1, u0b)), obox 55 TrL u0b y105.2.2.2, obox 9 TR.str v4 z131]) (fun a w st => St.cut [0, 1, 2, 3, 4] ⟨rfl, trivial⟩ (by decide) rfl st) ?_
 have h88 := Option.some.inj h88
 subst h88
 exact GL.ret (Gx.retD 4 rfl Tryz_ln9 rfl rfl rfl (fun u w => by simp [invoke, run_callFunc Tryz_fit17]) catch_idle (fun a w st => (st.pick [1, 2, 3, 0] (by decide) rfl).toPostM (V := fun (o : Unit) => (sv ((z131, y105.2).1))) (LR := fun (o : Unit) => [obox 35 (TR.rec1 TR.raw) v0 u0a, obox 45 TrH u0a (((z131, y105.2).2).1, (((z131, y105.2).2).2.1, u0b)), obox 55 TrL u0b (((z131, y105.2).2).2.2), keep X]) ()))

theorem desk_Run_c (S : Hp) (w : World) (hS : S.sub w) (hT : Tab Tryz.prog (Tryz.lays146_ren.g 1) S) (x0 : B8) (res : (List B8) × Int) (hm : desk_Run_m x0 = some res) : Calls Tryz.prog 5 #[(sv x0)] w (Post w S (fun (o : Value) => .tuple #[o, .int .i64 res.2]) (fun (o : Value) => [own 9 TR.str o res.1])) := by
 refine calls_enter 38 Tryz.func5 Tryz.ntmps5 rfl S false [(0, (sv x0))] [] rfl ⟨rfl, trivial⟩ hS trivial ?_
 unfold desk_Run_m at hm
 refine GL.seq ?_
 refine GL.region ?_
 refine RL.asg rfl rfl rfl ?_
 refine RL.asg rfl rfl rfl ?_
 refine RL.finG ?_
 refine GL.seq ?_
 refine GL.region ?_
 refine RL.mv rfl rfl rfl ?_
 obtain ⟨y5, e6, hm⟩ := bind_some hm
 refine RL.call (vs := [(sv x0), (sv (([10] : B8)))]) Tryz_fit7 rfl rfl rfl rfl rfl (fun S f w hS hW hi => strings_Split_c S w hS (hT.mono hW) x0 ([10] : B8) _ e6) ?_
 intro v7
 refine RL.asg rfl rfl rfl ?_
 refine RL.finG ?_
 refine GL.seq ?_
 refine GL.seq ?_
 obtain ⟨y11, K12, h13, h14, h15, h16, h17⟩ := bindR_K hm
 refine GL.join (ι := Bool) (fun (p : Bool) => [(4, v7), (18, .bool p)]) (fun (p : Bool) => [own 9 TR.str v7 y5]) (fun (p : Bool) => K12 (.nx p)) ?_ ?_
 ·skip
  refine GL.region ?_
  refine RL.mv rfl rfl rfl ?_
  refine RL.lenT Tryz.underlying9 rfl rfl rfl ?_
  refine RL.binI (v := .bool (decide (((x0).length : Int) > (4096 : Int)))) rfl rfl rfl rfl rfl ?_
  refine RL.mv rfl rfl rfl ?_
  refine RL.split (t := 14) rfl (fun b18 => ?_) (fun b18 => ?_)
  ·replace h13 := ite_t b18 h13
   refine RL.skip rfl rfl ?_
   refine RL.skip rfl rfl ?_
   refine RL.skip rfl rfl ?_
   refine RL.pickT rfl rfl rfl rfl ?_
   refine RL.fin ?_
   cases h13
   exact fun a w st => mid_intro true h14 (St.cut [0] ⟨rfl, rfl, trivial⟩ (by decide) rfl st)
  replace h13 := ite_f b18 h13
  refine RL.mv rfl rfl rfl ?_
  refine RL.lenS 0 Tryz.underlying22 rfl rfl rfl rfl SlOf.own ?_
  refine RL.binI (v := .bool (decide (((y5).length : Int) > (60 : Int)))) rfl rfl rfl rfl rfl ?_
  refine RL.pickF rfl rfl rfl rfl ?_
  refine RL.fin ?_
  cases h13
  exact fun a w st => mid_intro (decide (((y5).length : Int) > (60 : Int))) h14 (St.cut [0] ⟨rfl, rfl, trivial⟩ (by decide) rfl st)
 rintro x10 h19
 have h20 := h15 _ h19
 try dsimp only at h20
 refine GL.weak (env' := [(4, v7), (18, .bool x10)]) (L' := [own 9 TR.str v7 y5]) (fun _ _ st => st) ?_
 refine GL.cond rfl (fun b21 => ?_) (fun b21 => ?_)
 ·replace h20 := ite_t b21 h20
  refine GL.seq ?_
  refine GL.region ?_
  refine RL.asg rfl rfl rfl ?_
  refine RL.asg rfl rfl rfl ?_
  refine RL.finG ?_
  refine GL.weak (fun a w st => st.nilOwn 9 TR.str) ?_
  have h20 := Option.some.inj h20
  subst h20
  exact GL.ret (Gx.ret (v := .tuple #[Value.slice none 0 0, .int .i64 (2 : Int)]) (res2 rfl rfl rfl) (fun a w st => (st.pick [1] (by decide) rfl).toPost (Value.slice none 0 0)))
 replace h20 := ite_f b21 h20
 refine GL.skip ?_
 refine GL.seq ?_
 refine GL.region ?_
 obtain ⟨y28, e29, h20⟩ := bind_some h20
 refine RL.call (vs := []) Tryz_fit11 rfl rfl rfl rfl rfl (fun S f w hS hW hi => house_New_c S w hS  _ e29) ?_
 intro ⟨v30, u31⟩
 refine RL.reL (L' := [own 9 TR.str v7 y5, obox 45 TrH v30 (y28.1, (y28.2.1, u31)), obox 55 TrL u31 y28.2.2]) rfl ?_
 refine RL.bld (t := (TR.rec1 TR.raw)) (d0 := (v30 : Value)) (pv := [(0, v30)]) rfl Tryz_bld35 rfl rfl rfl ⟨⟨_, _, TR.raw, v30, rfl, rfl, (VR.rawPt 1 rfl PtOf.obox)⟩, trivial⟩ (fun S f hi => by
   obtain ⟨c0, e0, r0⟩ := cells_vrep (t := TR.raw) (u := v30) (e := v30) ((VR.rawPt 1 rfl PtOf.obox) S f hi)
   show TR.rep (TR.rec1 TR.raw) S (List.flatten [(v30 : Value).cells.toList]) _
   simp only [e0,  List.flatten_cons, List.flatten_nil, List.append_nil]
   exact r0) ?_
 intro v32
 refine RL.box (t := (TR.rec1 TR.raw)) (e := v30) rfl rfl rfl rfl (VR.item 3 rfl) ?_
 intro v33
 refine RL.reL (L' := [own 9 TR.str v7 y5, obox 45 TrH v30 (y28.1, (y28.2.1, u31)), obox 55 TrL u31 y28.2.2, imm (TR.rec1 TR.raw) v32 v30, obox 35 (TR.rec1 TR.raw) v33 v30]) rfl ?_
 refine RL.asg rfl rfl rfl ?_
 refine RL.finG ?_
 refine GL.seq ?_
 refine GL.region ?_
 refine RL.asg rfl rfl rfl ?_
 refine RL.finG ?_
 refine GL.seq ?_
 refine GL.seq ?_
 refine GL.region ?_
 refine RL.mv rfl rfl rfl ?_
 refine RL.lenS 0 Tryz.underlying22 rfl rfl rfl rfl SlOf.own ?_
 refine RL.mv rfl rfl rfl ?_
 refine RL.finG ?_
 refine GL.weak (fun a w st => st.nilOwn 9 TR.str) ?_
 refine GL.lenOwn 0 rfl (fun n73 => ?_)
 obtain ⟨y74, K75, h76, h77, h78, h79, h80⟩ := bindR_K h20
 refine GL.join (ι := TyH × (List B8) × Value) (fun (p : TyH × (List B8) × Value) => [(6, p.2.2)]) (fun (p : TyH × (List B8) × Value) => [own 9 TR.str p.2.2 p.2.1]) (fun (p : TyH × (List B8) × Value) => K75 (.nx (p.1, p.2.1))) ?_ ?_
 ·refine GL.block ?_
  refine GL.loop (ι := Nat × Nat × TyH × (List B8) × Value) (fun (p : Nat × Nat × TyH × (List B8) × Value) => [(5, v33), (6, p.2.2.2.2), (22, v7), (23, .int .i64 ((y5).length : Int)), (24, .int .i64 (p.1 : Int))]) (fun (p : Nat × Nat × TyH × (List B8) × Value) => [obox 35 (TR.rec1 TR.raw) v33 v30, obox 45 TrH v30 (p.2.2.1.1, (p.2.2.1.2.1, u31)), obox 55 TrL u31 p.2.2.1.2.2, own 9 TR.str p.2.2.2.2 p.2.2.2.1, own 9 TR.str v7 y5]) (fun (p : Nat × Nat × TyH × (List B8) × Value) => p.1 + p.2.1 = (y5).length ∧ rangeN (desk_Run_b1 y5) p.2.1 p.1 (p.2.2.1, p.2.2.2.1) = some y74) (fun (p : Nat × Nat × TyH × (List B8) × Value) => p.2.1) (0, (y5).length, y28, [], Value.slice none 0 0) ⟨by simp, h76⟩ (fun a w st => St.cut [4, 1, 2, 5, 0] ⟨rfl, rfl, rfl, rfl, rfl, trivial⟩ (by decide) rfl st) ?_
  rintro ⟨i81, r82, l53, l54, v55⟩ ⟨h87, h86⟩
  try dsimp only at h87 h86
  refine GL.weak (env' := [(5, v33), (6, v55), (22, v7), (23, .int .i64 ((y5).length : Int)), (24, .int .i64 (i81 : Int))]) (L' := [obox 35 (TR.rec1 TR.raw) v33 v30, obox 45 TrH v30 (l53.1, (l53.2.1, u31)), obox 55 TrL u31 l53.2.2, own 9 TR.str v55 l54, own 9 TR.str v7 y5]) (fun _ _ st => st) ?_
  refine GL.seq ?_
  refine GL.region ?_
  refine RL.binI (v := .bool (decide ((i81 : Int) < ((y5).length : Int)))) rfl rfl rfl rfl rfl ?_
  refine RL.finG ?_
  refine GL.seq ?_
  refine GL.cond rfl (fun b89 => ?_) (fun b89 => ?_)
  ·have h90 : i81 < (y5).length := by have := of_decide_eq_true b89; omega
   obtain ⟨r91, hr⟩ : ∃ m, r82 = m + 1 := ⟨r82 - 1, by omega⟩
   subst hr
   obtain ⟨z83, h84, h85⟩ := rangeN_some h86
   unfold desk_Run_b1 at h84
   try dsimp only at h84
   refine GL.skip ?_
   refine GL.seq ?_
   refine GL.block ?_
   refine GL.seq ?_
   refine GL.region ?_
   obtain ⟨y94, e95, h84⟩ := bind_some h84
   refine RL.idxS (sz := 1) 4 Tryz.underlying22 Tryz_ln9 rfl rfl rfl rfl rfl SlOf.own (idx_some e95).1 (idx_some e95).2.1 ?_
   refine RL.ldSx (i := i81) (e' := y94) 4 Ex.str Tryz_ln9 rfl rfl rfl rfl SlOf.own (idx_some e95).2.2 Part.self ?_
   refine RL.asg rfl rfl rfl ?_
   refine RL.finG ?_
   refine GL.seq ?_
   refine GL.region ?_
   refine RL.mv rfl rfl rfl ?_
   refine RL.binS (v := .bool (!(y94 == ([] : B8)))) rfl rfl rfl rfl rfl ?_
   refine RL.finG ?_
   refine GL.cond rfl (fun b96 => ?_) (fun b96 => ?_)
   ·replace h84 := ite_t b96 h84
    refine GL.region ?_
    refine RL.mv rfl rfl rfl ?_
    refine RL.mv rfl rfl rfl ?_
    refine RL.mv rfl rfl rfl ?_
    obtain ⟨y103, e104, h84⟩ := bind_some h84
    refine RL.callK (vs := [v33, (sv y94)]) (V := fun (o : Unit) => (sv y103.1)) (LR := fun (o : Unit) => [obox 35 (TR.rec1 TR.raw) v33 v30, obox 45 TrH v30 (y103.2.1, (y103.2.2.1, u31)), obox 55 TrL u31 y103.2.2.2]) (Ls := [obox 35 (TR.rec1 TR.raw) v33 v30, obox 45 TrH v30 (l53.1, (l53.2.1, u31)), obox 55 TrL u31 l53.2.2]) [0, 1, 2] (by decide) Tryz_fit12 rfl rfl rfl rfl rfl rfl (fun S f X w hO hB hW hI hL => desk_desk_answer_c _ S X f w _ _ _ l53  hO hB hI (hT.mono hW) y94 _ e104) ?_
    intro _
    refine RL.reL (L' := [gone, gone, gone, own 9 TR.str v55 l54, own 9 TR.str v7 y5, obox 35 (TR.rec1 TR.raw) v33 v30, obox 45 TrH v30 (y103.2.1, (y103.2.2.1, u31)), obox 55 TrL u31 y103.2.2.2]) rfl ?_
    refine RL.bS (t := TR.str) (vs := [(sv y103.1)]) ([y103.1] : (List B8)) Tryz.underlying22 Tryz_lo9 rfl rfl rfl rfl ⟨VR.str, trivial⟩ rfl (by decide) ?_
    intro v105
    obtain ⟨y106, e107, h84⟩ := bind_some h84
    replace e107 := chk_some e107
    refine RL.app 3 8 Tryz.underlying22 Tryz_lo9 rfl rfl rfl rfl rfl rfl rfl SlOf.own e107 ?_
    intro v108
    refine RL.reL (L' := [gone, gone, gone, own 9 TR.str v108 (l54 ++ ([y103.1] : (List B8))), own 9 TR.str v7 y5, obox 35 (TR.rec1 TR.raw) v33 v30, obox 45 TrH v30 (y103.2.1, (y103.2.2.1, u31)), obox 55 TrL u31 y103.2.2.2, own 9 TR.str v105 ([y103.1] : (List B8))]) rfl ?_
    refine RL.asg rfl rfl rfl ?_
    refine RL.finG ?_
    refine GL.nilB ?_
    refine GL.region ?_
    refine RL.binI (v := .int .i64 ((i81 + 1 : Nat) : Int)) rfl rfl rfl rfl (binI_succ i81 (by omega)) ?_
    refine RL.mv rfl rfl rfl ?_
    refine RL.fin ?_
    cases h84
    exact fun a w st => lop_intro (i81 + 1, r91, y103.2, (l54 ++ ([y103.1] : (List B8))), v108) ⟨by show i81 + 1 + r91 = (y5).length; omega, h85⟩ (by simp) (St.cut [5, 6, 7, 3, 4] ⟨rfl, rfl, rfl, rfl, rfl, trivial⟩ (by decide) rfl st)
   replace h84 := ite_f b96 h84
   refine GL.skip ?_
   refine GL.nilB ?_
   refine GL.region ?_
   refine RL.binI (v := .int .i64 ((i81 + 1 : Nat) : Int)) rfl rfl rfl rfl (binI_succ i81 (by omega)) ?_
   refine RL.mv rfl rfl rfl ?_
   refine RL.fin ?_
   cases h84
   exact fun a w st => lop_intro (i81 + 1, r91, l53, l54, v55) ⟨by show i81 + 1 + r91 = (y5).length; omega, h85⟩ (by simp) (St.cut [0, 1, 2, 3, 4] ⟨rfl, rfl, rfl, rfl, rfl, trivial⟩ (by decide) rfl st)
  have h90 : ¬ i81 < (y5).length := by have := of_decide_eq_false b89; omega
  obtain rfl : r82 = 0 := by omega
  replace h86 : some (Fl.nx _) = some y74 := h86
  cases h86
  exact GL.exit (fun a w st => mid_intro (l53, l54, v55) h77 (St.cut [3] ⟨rfl, trivial⟩ (by decide) rfl st))
 rintro ⟨l53, l54, v55⟩ h109
 have h110 := h78 _ h109
 try dsimp only at h110
 refine GL.weak (env' := [(6, v55)]) (L' := [own 9 TR.str v55 l54]) (fun _ _ st => st) ?_
 refine GL.seq ?_
 refine GL.region ?_
 refine RL.mv rfl rfl rfl ?_
 refine RL.asg rfl rfl rfl ?_
 refine RL.asg rfl rfl rfl ?_
 refine RL.finG ?_
 have h110 := Option.some.inj h110
 subst h110
 exact GL.ret (Gx.ret (v := .tuple #[v55, .int .i64 (0 : Int)]) (res2 rfl rfl rfl) (fun a w st => (st.pick [0] (by decide) rfl).toPost v55))

theorem slices_Equal_string_string_c (S : Hp) (w : World) (hS : S.sub w) (v0 : Value) (x0 : (List B8)) (k0 : ((TR.sl TR.str)).vrep S v0 x0) (v1 : Value) (x1 : (List B8)) (k1 : ((TR.sl TR.str)).vrep S v1 x1) (res : Bool) (hm : slices_Equal_string_string_m x0 x1 = some res) : Calls Tryz.prog 6 #[v0, v1] w (PostV w (.bool res)) := by
 refine calls_enter 26 Tryz.func6 Tryz.ntmps6 rfl S false [(0, v0), (1, v1)] [imm (TR.sl TR.str) v0 x0, imm (TR.sl TR.str) v1 x1] rfl ⟨rfl, ⟨rfl, trivial⟩⟩ hS ⟨k0, ⟨k1, trivial⟩⟩ ?_
 unfold slices_Equal_string_string_m at hm
 refine GL.seq ?_
 refine GL.region ?_
 refine RL.asg rfl rfl rfl ?_
 refine RL.finG ?_
 refine GL.seq ?_
 refine GL.seq ?_
 refine GL.region ?_
 refine RL.mv rfl rfl rfl ?_
 refine RL.lenS 0 Tryz.underlying22 rfl rfl rfl rfl SlOf.imm ?_
 refine RL.mv rfl rfl rfl ?_
 refine RL.lenS 1 Tryz.underlying22 rfl rfl rfl rfl SlOf.imm ?_
 refine RL.binI (v := .bool (((x0).length : Int) != ((x1).length : Int))) rfl rfl rfl rfl rfl ?_
 refine RL.finG ?_
 refine GL.cond rfl (fun b3 => ?_) (fun b3 => ?_)
 ·replace hm := ite_t b3 hm
  refine GL.seq ?_
  refine GL.region ?_
  refine RL.asg rfl rfl rfl ?_
  refine RL.finG ?_
  have hm := Option.some.inj hm
  subst hm
  exact GL.ret (Gx.ret (v := .bool false) (res1 rfl rfl) (fun a w st => st.toPostV))
 replace hm := ite_f b3 hm
 refine GL.skip ?_
 refine GL.seq ?_
 refine GL.seq ?_
 refine GL.region ?_
 refine RL.mv rfl rfl rfl ?_
 refine RL.lenS 0 Tryz.underlying22 rfl rfl rfl rfl SlOf.imm ?_
 refine RL.mv rfl rfl rfl ?_
 refine RL.finG ?_
 refine GL.open_ 0 rfl (fun S h => len_imm S h) (fun n13 => ?_)
 obtain ⟨y14, K15, h16, h17, h18, h19, h20⟩ := bindR_K hm
 refine GL.join (ι := Unit) (fun (p : Unit) => []) (fun (p : Unit) => []) (fun (p : Unit) => K15 (.nx ())) ?_ ?_
 ·refine GL.block ?_
  refine GL.loop (ι := Nat × (List B8)) (fun (p : Nat × (List B8)) => [(0, v0), (1, v1), (12, .int .i64 ((x0).length : Int)), (13, .int .i64 (p.1 : Int))]) (fun (p : Nat × (List B8)) => [imm (TR.sl TR.str) v0 x0, imm (TR.sl TR.str) v1 x1]) (fun (p : Nat × (List B8)) => p.1 + p.2.length = (x0).length ∧ List.drop p.1 x0 = p.2 ∧ rangeL (slices_Equal_string_string_b1 x1) p.2 p.1 () = some y14) (fun (p : Nat × (List B8)) => p.2.length) (0, x0) ⟨by simp, by simp, h16⟩ (fun a w st => St.cut [0, 1] ⟨rfl, rfl, rfl, rfl, trivial⟩ (by decide) rfl st) ?_
  rintro ⟨i21, r22⟩ ⟨h27, h28, h26⟩
  try dsimp only at h27 h28 h26
  refine GL.weak (env' := [(0, v0), (1, v1), (12, .int .i64 ((x0).length : Int)), (13, .int .i64 (i21 : Int))]) (L' := [imm (TR.sl TR.str) v0 x0, imm (TR.sl TR.str) v1 x1]) (fun _ _ st => st) ?_
  refine GL.seq ?_
  refine GL.region ?_
  refine RL.binI (v := .bool (decide ((i21 : Int) < ((x0).length : Int)))) rfl rfl rfl rfl rfl ?_
  refine RL.finG ?_
  refine GL.seq ?_
  refine GL.cond rfl (fun b29 => ?_) (fun b29 => ?_)
  ·have h30 : i21 < (x0).length := by have := of_decide_eq_true b29; omega
   obtain ⟨y31, r33, hr, e32, h34⟩ := drop_cons h28 rfl h30
   subst hr
   obtain ⟨z23, h24, h25⟩ := rangeL_some h26
   unfold slices_Equal_string_string_b1 at h24
   try dsimp only at h24
   refine GL.skip ?_
   refine GL.seq ?_
   refine GL.block ?_
   refine GL.seq ?_
   refine GL.region ?_
   refine RL.mv rfl rfl rfl ?_
   refine RL.asg rfl rfl rfl ?_
   refine RL.finG ?_
   refine GL.seq ?_
   refine GL.regionQ rfl rfl (by kernel_rfl) ?_
   refine RL.mv rfl rfl rfl ?_
   refine RL.mv rfl rfl rfl ?_
   refine RL.idxS (sz := 1) 0 Tryz.underlying22 Tryz_ln9 rfl rfl rfl rfl rfl SlOf.imm (by omega) (by omega) ?_
   refine RL.ldSx (i := i21) (e' := y31) 0 Ex.str Tryz_ln9 rfl rfl rfl rfl SlOf.imm e32 Part.self ?_
   refine RL.mv rfl rfl rfl ?_
   refine RL.mv rfl rfl rfl ?_
   obtain ⟨y37, e38, h24⟩ := bind_some h24
   refine RL.idxS (sz := 1) 1 Tryz.underlying22 Tryz_ln9 rfl rfl rfl rfl rfl SlOf.imm (idx_some e38).1 (idx_some e38).2.1 ?_
   refine RL.ldSx (i := i21) (e' := y37) 1 Ex.str Tryz_ln9 rfl rfl rfl rfl SlOf.imm (idx_some e38).2.2 Part.self ?_
   refine RL.binS (v := .bool (!(y31 == y37))) rfl rfl rfl rfl rfl ?_
   refine RL.finQG ?_
   refine GL.cond rfl (fun b39 => ?_) (fun b39 => ?_)
   ·replace h24 := ite_t b39 h24
    refine GL.seq ?_
    refine GL.region ?_
    refine RL.asg rfl rfl rfl ?_
    refine RL.finG ?_
    cases h24
    replace h25 : some (Fl.rt _) = some y14 := h25
    cases h25
    have hh := h19 _ h17
    subst hh
    exact GL.ret (Gx.ret (v := .bool false) (res1 rfl rfl) (fun a w st => st.toPostV))
   replace h24 := ite_f b39 h24
   refine GL.skip ?_
   refine GL.nilB ?_
   refine GL.region ?_
   refine RL.binI (v := .int .i64 ((i21 + 1 : Nat) : Int)) rfl rfl rfl rfl (binI_succ i21 (by omega)) ?_
   refine RL.mv rfl rfl rfl ?_
   refine RL.fin ?_
   cases h24
   exact fun a w st => lop_intro (i21 + 1, r33) ⟨by show i21 + 1 + r33.length = (x0).length; simp only [List.length_cons] at h27; omega, h34, h25⟩ (by simp) (St.cut [0, 1] ⟨rfl, rfl, rfl, rfl, trivial⟩ (by decide) rfl st)
  have h30 : ¬ i21 < (x0).length := by have := of_decide_eq_false b29; omega
  obtain rfl : r22 = [] := by rw [← h28]; exact List.drop_of_length_le (by omega)
  replace h26 : some (Fl.nx _) = some y14 := h26
  cases h26
  exact GL.exit (fun a w st => mid_intro () h17 (St.cut [] trivial (by decide) rfl st))
 rintro ⟨⟩ h40
 have h41 := h18 _ h40
 try dsimp only at h41
 refine GL.weak (env' := []) (L' := []) (fun _ _ st => st) ?_
 refine GL.seq ?_
 refine GL.region ?_
 refine RL.asg rfl rfl rfl ?_
 refine RL.finG ?_
 have h41 := Option.some.inj h41
 subst h41
 exact GL.ret (Gx.ret (v := .bool true) (res1 rfl rfl) (fun a w st => st.toPostV))

theorem pk_DeskFront_c (S : Hp) (w : World) (hS : S.sub w) (hT : Tab Tryz.prog (Tryz.lays146_ren.g 1) S) (x0 : B8) (x1 : B8) (res : Bool) (hm : pk_DeskFront_m x0 x1 = some res) : Calls Tryz.prog 3 #[(sv x0), (sv x1)] w (PostV w (.bool res)) := by
 refine calls_enter 58 Tryz.func3 Tryz.ntmps3 rfl S false [(0, (sv x0)), (1, (sv x1))] [] rfl ⟨rfl, ⟨rfl, trivial⟩⟩ hS trivial ?_
 unfold pk_DeskFront_m at hm
 refine GL.seq ?_
 refine GL.region ?_
 refine RL.asg rfl rfl rfl ?_
 refine RL.finG ?_
 refine GL.seq ?_
 refine GL.seq ?_
 refine GL.region ?_
 obtain ⟨y6, e7, hm⟩ := bind_some hm
 refine RL.call (vs := [(sv (([111, 112, 101, 110, 32, 97, 32, 53, 10, 111, 112, 101, 110, 32, 98, 32, 57, 10, 111, 102, 102, 101, 114, 32, 98, 32, 97, 32, 48, 32, 51, 32, 49, 32, 50, 10, 98, 117, 105, 108, 100, 32, 97, 32, 50, 10, 109, 111, 110, 101, 121, 32, 97, 10, 110, 111, 10, 99, 114, 97, 115, 104, 32, 48, 10, 109, 111, 110, 101, 121, 32, 97] : B8)))]) Tryz_fit5 rfl rfl rfl rfl rfl (fun S f w hS hW hi => desk_Run_c S w hS (hT.mono hW) ([111, 112, 101, 110, 32, 97, 32, 53, 10, 111, 112, 101, 110, 32, 98, 32, 57, 10, 111, 102, 102, 101, 114, 32, 98, 32, 97, 32, 48, 32, 51, 32, 49, 32, 50, 10, 98, 117, 105, 108, 100, 32, 97, 32, 50, 10, 109, 111, 110, 101, 121, 32, 97, 10, 110, 111, 10, 99, 114, 97, 115, 104, 32, 48, 10, 109, 111, 110, 101, 121, 32, 97] : B8) _ e7) ?_
 intro v8
 refine RL.mv rfl rfl rfl ?_
 refine RL.ext rfl rfl rfl rfl ?_
 refine RL.ext rfl rfl rfl rfl ?_
 refine RL.asg rfl rfl rfl ?_
 refine RL.asg rfl rfl rfl ?_
 refine RL.finG ?_
 refine GL.seq ?_
 obtain ⟨y18, K19, h20, h21, h22, h23, h24⟩ := bindR_K hm
 refine GL.join (ι := Bool) (fun (p : Bool) => [(0, (sv x0)), (1, (sv x1)), (22, .bool p)]) (fun (p : Bool) => []) (fun (p : Bool) => K19 (.nx p)) ?_ ?_
 ·skip
  refine GL.region ?_
  refine RL.mv rfl rfl rfl ?_
  refine RL.binI (v := .bool (y6.2 != (0 : Int))) rfl rfl rfl rfl rfl ?_
  refine RL.mv rfl rfl rfl ?_
  refine RL.split (t := 17) rfl (fun b25 => ?_) (fun b25 => ?_)
  ·replace h20 := ite_t b25 h20
   refine RL.skip rfl rfl ?_
   refine RL.skip rfl rfl ?_
   refine RL.skip rfl rfl ?_
   refine RL.skip rfl rfl ?_
   refine RL.pickT rfl rfl rfl rfl ?_
   refine RL.fin ?_
   cases h20
   exact fun a w st => mid_intro true h21 (St.cut [] ⟨rfl, rfl, rfl, trivial⟩ (by decide) rfl st)
  replace h20 := ite_f b25 h20
  refine RL.mv rfl rfl rfl ?_
  refine RL.bS (t := TR.str) (vs := [(sv (([111, 107] : B8))), (sv (([111, 107] : B8))), (sv (([111, 107] : B8))), (sv (([49, 32, 49, 32, 46] : B8))), (sv (([57, 32, 48, 32, 46] : B8))), (sv (([101, 114, 114, 111, 114, 32, 49, 50] : B8))), (sv (([111, 107] : B8))), (sv (([101, 114, 114, 111, 114, 32, 52] : B8)))]) ([([111, 107] : B8), ([111, 107] : B8), ([111, 107] : B8), ([49, 32, 49, 32, 46] : B8), ([57, 32, 48, 32, 46] : B8), ([101, 114, 114, 111, 114, 32, 49, 50] : B8), ([111, 107] : B8), ([101, 114, 114, 111, 114, 32, 52] : B8)] : (List B8)) Tryz.underlying22 Tryz_lo9 rfl rfl rfl rfl ⟨VR.str, ⟨VR.str, ⟨VR.str, ⟨VR.str, ⟨VR.str, ⟨VR.str, ⟨VR.str, ⟨VR.str, trivial⟩⟩⟩⟩⟩⟩⟩⟩ rfl (by decide) ?_
  intro v26
  refine RL.reL (L' := [own 9 TR.str v8 y6.1, own 9 TR.str v26 ([([111, 107] : B8), ([111, 107] : B8), ([111, 107] : B8), ([49, 32, 49, 32, 46] : B8), ([57, 32, 48, 32, 46] : B8), ([101, 114, 114, 111, 114, 32, 49, 50] : B8), ([111, 107] : B8), ([101, 114, 114, 111, 114, 32, 52] : B8)] : (List B8))]) rfl ?_
  obtain ⟨y27, e28, h20⟩ := bind_some h20
  refine RL.callV (v := .bool y27) (vs := [v8, v26]) Tryz_fit6 rfl (Or.inl rfl) rfl rfl rfl rfl (fun U w hU hW hL => slices_Equal_string_string_c U w hU _ _ (hL 0 _ _ rfl Seen.own) _ _ (hL 1 _ _ rfl Seen.own) _ e28) ?_
  refine RL.notB rfl rfl rfl ?_
  refine RL.pickF rfl rfl rfl rfl ?_
  refine RL.fin ?_
  cases h20
  exact fun a w st => mid_intro (!y27) h21 (St.cut [] ⟨rfl, rfl, rfl, trivial⟩ (by decide) rfl st)
 rintro x17 h29
 have h30 := h22 _ h29
 try dsimp only at h30
 refine GL.weak (env' := [(0, (sv x0)), (1, (sv x1)), (22, .bool x17)]) (L' := []) (fun _ _ st => st) ?_
 refine GL.cond rfl (fun b31 => ?_) (fun b31 => ?_)
 ·replace h30 := ite_t b31 h30
  refine GL.seq ?_
  refine GL.region ?_
  refine RL.asg rfl rfl rfl ?_
  refine RL.finG ?_
  have h30 := Option.some.inj h30
  subst h30
  exact GL.ret (Gx.ret (v := .bool false) (res1 rfl rfl) (fun a w st => st.toPostV))
 replace h30 := ite_f b31 h30
 refine GL.skip ?_
 refine GL.seq ?_
 refine GL.region ?_
 refine RL.mv rfl rfl rfl ?_
 obtain ⟨y39, e40, h30⟩ := bind_some h30
 replace e40 := chk_some e40
 refine RL.cat rfl rfl rfl rfl e40 ?_
 refine RL.mv rfl rfl rfl ?_
 obtain ⟨y41, e42, h30⟩ := bind_some h30
 replace e42 := chk_some e42
 refine RL.cat rfl rfl rfl rfl e42 ?_
 obtain ⟨y43, e44, h30⟩ := bind_some h30
 refine RL.call (vs := [(sv ((x0 ++ ([10] : B8)) ++ x1))]) Tryz_fit5 rfl rfl rfl rfl rfl (fun S f w hS hW hi => desk_Run_c S w hS (hT.mono hW) ((x0 ++ ([10] : B8)) ++ x1) _ e44) ?_
 intro v45
 refine RL.mv rfl rfl rfl ?_
 refine RL.ext rfl rfl rfl rfl ?_
 refine RL.ext rfl rfl rfl rfl ?_
 refine RL.asg rfl rfl rfl ?_
 refine RL.asg rfl rfl rfl ?_
 refine RL.finG ?_
 refine GL.seq ?_
 refine GL.region ?_
 refine RL.mv rfl rfl rfl ?_
 obtain ⟨y49, e50, h30⟩ := bind_some h30
 refine RL.call (vs := [(sv x0)]) Tryz_fit5 rfl rfl rfl rfl rfl (fun S f w hS hW hi => desk_Run_c S w hS (hT.mono hW) x0 _ e50) ?_
 intro v51
 refine RL.reL (L' := [own 9 TR.str v45 y43.1, own 9 TR.str v51 y49.1]) rfl ?_
 refine RL.mv rfl rfl rfl ?_
 refine RL.ext rfl rfl rfl rfl ?_
 refine RL.ext rfl rfl rfl rfl ?_
 refine RL.asg rfl rfl rfl ?_
 refine RL.asg rfl rfl rfl ?_
 refine RL.finG ?_
 refine GL.seq ?_
 refine GL.seq ?_
 refine GL.region ?_
 refine RL.mv rfl rfl rfl ?_
 refine RL.binI (v := .bool (y43.2 != (0 : Int))) rfl rfl rfl rfl rfl ?_
 refine RL.finG ?_
 refine GL.cond rfl (fun b52 => ?_) (fun b52 => ?_)
 ·replace h30 := ite_t b52 h30
  refine GL.seq ?_
  refine GL.region ?_
  refine RL.mv rfl rfl rfl ?_
  refine RL.lenS 0 Tryz.underlying22 rfl rfl rfl rfl SlOf.own ?_
  refine RL.binI (v := .bool (((y43.1).length : Int) == (0 : Int))) rfl rfl rfl rfl rfl ?_
  refine RL.asg rfl rfl rfl ?_
  refine RL.finG ?_
  have h30 := Option.some.inj h30
  subst h30
  exact GL.ret (Gx.ret (v := .bool (((y43.1).length : Int) == (0 : Int))) (res1 rfl rfl) (fun a w st => st.toPostV))
 replace h30 := ite_f b52 h30
 refine GL.skip ?_
 refine GL.seq ?_
 obtain ⟨y68, K69, h70, h71, h72, h73, h74⟩ := bindR_K h30
 refine GL.join (ι := Bool) (fun (p : Bool) => [(4, .bool p)]) (fun (p : Bool) => []) (fun (p : Bool) => K69 (.nx p)) ?_ ?_
 ·skip
  refine GL.region ?_
  refine RL.mv rfl rfl rfl ?_
  refine RL.binI (v := .bool (y49.2 == (0 : Int))) rfl rfl rfl rfl rfl ?_
  refine RL.mv rfl rfl rfl ?_
  refine RL.split (t := 43) rfl (fun b75 => ?_) (fun b75 => ?_)
  ·replace h70 := ite_t b75 h70
   refine RL.mv rfl rfl rfl ?_
   refine RL.lenS 1 Tryz.underlying22 rfl rfl rfl rfl SlOf.own ?_
   refine RL.mv rfl rfl rfl ?_
   refine RL.lenS 0 Tryz.underlying22 rfl rfl rfl rfl SlOf.own ?_
   refine RL.binI (v := .bool (decide (((y49.1).length : Int) ≤ ((y43.1).length : Int)))) rfl rfl rfl rfl rfl ?_
   refine RL.pickT rfl rfl rfl rfl ?_
   refine RL.mv rfl rfl rfl ?_
   refine RL.split (t := 50) rfl (fun b76 => ?_) (fun b76 => ?_)
   ·replace h70 := ite_t b76 h70
    refine RL.mv rfl rfl rfl ?_
    refine RL.mv rfl rfl rfl ?_
    refine RL.mv rfl rfl rfl ?_
    refine RL.lenS 1 Tryz.underlying22 rfl rfl rfl rfl SlOf.own ?_
    refine RL.weak (fun a w st => st.freeze 0 rfl) ?_
    obtain ⟨y77, e78, h70⟩ := bind_some h70
    replace e78 := chk_some e78
    refine RL.slc (t := TR.str) (i := 0) (j := (((y49.1).length : Int)).toNat) (sz := 1) 0 Tryz.underlying22 Tryz_ln9 rfl rfl rfl rfl (Or.inl ⟨rfl, rfl⟩) (Or.inr ⟨_, _, rfl, by rw [Int.toNat_of_nonneg (by omega)]; rfl⟩) rfl (by omega) (by omega) ?_
    intro v79
    refine RL.reL (L' := [imm (TR.sl TR.str) v45 y43.1, own 9 TR.str v51 y49.1, imm (TR.sl TR.str) v79 ((List.take ((((y49.1).length : Int)).toNat) y43.1).drop 0)]) rfl ?_
    obtain ⟨y80, e81, h70⟩ := bind_some h70
    refine RL.callV (v := .bool y80) (vs := [v51, v79]) Tryz_fit6 rfl (Or.inl rfl) rfl rfl rfl rfl (fun U w hU hW hL => slices_Equal_string_string_c U w hU _ _ (hL 1 _ _ rfl Seen.own) _ _ (hL 2 _ _ rfl Seen.imm) _ e81) ?_
    refine RL.pickT rfl rfl rfl rfl ?_
    refine RL.asg rfl rfl rfl ?_
    refine RL.fin ?_
    cases h70
    exact fun a w st => mid_intro y80 h71 (St.cut [] ⟨rfl, trivial⟩ (by decide) rfl st)
   replace h70 := ite_f b76 h70
   refine RL.skip rfl rfl ?_
   refine RL.skip rfl rfl ?_
   refine RL.skip rfl rfl ?_
   refine RL.skip rfl rfl ?_
   refine RL.skip rfl rfl ?_
   refine RL.skip rfl rfl ?_
   refine RL.pickF rfl rfl rfl rfl ?_
   refine RL.asg rfl rfl rfl ?_
   refine RL.fin ?_
   cases h70
   exact fun a w st => mid_intro false h71 (St.cut [] ⟨rfl, trivial⟩ (by decide) rfl st)
  replace h70 := ite_f b75 h70
  refine RL.skip rfl rfl ?_
  refine RL.skip rfl rfl ?_
  refine RL.skip rfl rfl ?_
  refine RL.skip rfl rfl ?_
  refine RL.skip rfl rfl ?_
  refine RL.pickF rfl rfl rfl rfl ?_
  refine RL.mv rfl rfl rfl ?_
  refine RL.skip rfl rfl ?_
  refine RL.skip rfl rfl ?_
  refine RL.skip rfl rfl ?_
  refine RL.skip rfl rfl ?_
  refine RL.skip rfl rfl ?_
  refine RL.skip rfl rfl ?_
  refine RL.pickF rfl rfl rfl rfl ?_
  refine RL.asg rfl rfl rfl ?_
  refine RL.fin ?_
  cases h70
  exact fun a w st => mid_intro false h71 (St.cut [] ⟨rfl, trivial⟩ (by decide) rfl st)
 rintro x67 h82
 have h83 := h72 _ h82
 try dsimp only at h83
 refine GL.weak (env' := [(4, .bool x67)]) (L' := []) (fun _ _ st => st) ?_
 have h83 := Option.some.inj h83
 subst h83
 exact GL.ret (Gx.ret (v := .bool x67) (res1 rfl rfl) (fun a w st => st.toPostV))
end Go.Wk
