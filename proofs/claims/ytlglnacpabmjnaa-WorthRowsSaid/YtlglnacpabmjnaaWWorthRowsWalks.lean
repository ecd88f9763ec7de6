/- Each function comes to what its model says; printed by a program of this repository. -/
import Derived.Test.YtlglnacpabmjnaaProg
import Derived.Test.YtlglnacpabmjnaaWWorthRowsModels
namespace Go.Wk
open Go.Fw Go.Mo Go.Proofs Go.RowKit
set_option linter.unusedVariables false
set_option maxRecDepth 100000
theorem Try_info3 : (Try.prog.info? 3).map (fun i => (i.zero, i.size, i.bytes)) = some (some (.int .i64 0), 1, 8) := by kernel_rfl
theorem Try_ln3 : Ln Try.prog 3 1 false := Ln.of Try_info3 Try.underlying3 rfl
theorem Try_lo3 : LnO Try.prog 3 1 [.int .i64 0] := LnO.of Try_info3 rfl rfl (by decide) (by decide)
theorem Try_info22 : (Try.prog.info? 22).map (fun i => (i.zero, i.size, i.bytes)) = some (some (.slice none 0 0), 1, 24) := by kernel_rfl
theorem Try_ln22 : Ln Try.prog 22 1 false := Ln.of Try_info22 Try.underlying22 rfl
theorem Try_lo22 : LnO Try.prog 22 1 [.slice none 0 0] := LnO.of Try_info22 rfl rfl (by decide) (by decide)
theorem Try_info26 : (Try.prog.info? 26).map (fun i => (i.zero, i.size, i.bytes)) = some (some (.int .i64 0), 1, 8) := by kernel_rfl
theorem Try_ln26 : Ln Try.prog 26 1 false := Ln.of Try_info26 Try.underlying26 rfl
theorem Try_lo26 : LnO Try.prog 26 1 [.int .i64 0] := LnO.of Try_info26 rfl rfl (by decide) (by decide)
theorem Try_fit14 : Fit Try.prog 14 := Fit.of Try.func14 (by kernel_rfl) rfl
theorem Try_fit15 : Fit Try.prog 15 := Fit.of Try.func15 (by kernel_rfl) rfl
theorem Try_fit16 : Fit Try.prog 16 := Fit.of Try.func16 (by kernel_rfl) rfl
theorem Try_fit17 : Fit Try.prog 17 := Fit.of Try.func17 (by kernel_rfl) rfl
theorem Try_fit18 : Fit Try.prog 18 := Fit.of Try.func18 (by kernel_rfl) rfl
theorem Try_fit19 : Fit Try.prog 19 := Fit.of Try.func19 (by kernel_rfl) rfl
theorem Try_fit20 : Fit Try.prog 20 := Fit.of Try.func20 (by kernel_rfl) rfl
theorem Try_fit29 : Fit Try.prog 29 := Fit.of Try.func29 (by kernel_rfl) rfl
theorem Try_fit30 : Fit Try.prog 30 := Fit.of Try.func30 (by kernel_rfl) rfl
theorem Try_fit31 : Fit Try.prog 31 := Fit.of Try.func31 (by kernel_rfl) rfl
theorem Try_fit33 : Fit Try.prog 33 := Fit.of Try.func33 (by kernel_rfl) rfl
theorem Try_fit34 : Fit Try.prog 34 := Fit.of Try.func34 (by kernel_rfl) rfl
theorem Try_fit35 : Fit Try.prog 35 := Fit.of Try.func35 (by kernel_rfl) rfl
theorem Try_fit36 : Fit Try.prog 36 := Fit.of Try.func36 (by kernel_rfl) rfl
theorem Try_fit37 : Fit Try.prog 37 := Fit.of Try.func37 (by kernel_rfl) rfl
theorem Try_fit38 : Fit Try.prog 38 := Fit.of Try.func38 (by kernel_rfl) rfl
theorem Try_fit44 : Fit Try.prog 44 := Fit.of Try.func44 (by kernel_rfl) rfl
theorem Try_fit45 : Fit Try.prog 45 := Fit.of Try.func45 (by kernel_rfl) rfl
theorem Try_fit46 : Fit Try.prog 46 := Fit.of Try.func46 (by kernel_rfl) rfl

set_option maxHeartbeats 4000000 in
theorem worth_Check_c (S : Hp) (w : World) (hS : S.sub w) (x0 : Int) (v1 : Value) (x1 : (List Int)) (k1 : ((TR.sl TR.int)).vrep S v1 x1) (res : Int) (hm : worth_Check_m x0 x1 = some res) : Calls Try.prog 34 #[.int .i64 x0, v1] w (PostC w (.int .i64 res)) := by
  refine calls_enter 35 Try.func34 Try.ntmps34 rfl S true [(0, .int .i64 x0), (1, v1)] [imm (TR.sl TR.int) v1 x1] rfl ⟨rfl, ⟨rfl, trivial⟩⟩ hS ⟨k1, trivial⟩ ?_
  unfold worth_Check_m at hm
  refine GL.seq ?_
  refine GL.region ?_
  refine RL.asg rfl rfl rfl ?_
  refine RL.finG ?_
  refine GL.seq ?_
  refine GL.seq ?_
  obtain ⟨y6, K7, h8, h9, h10, h11, h12⟩ := bindR_K hm
  refine GL.join (ι := Bool) (fun (p : Bool) => [(0, .int .i64 x0), (1, v1), (12, .bool p)]) (fun (p : Bool) => [imm (TR.sl TR.int) v1 x1]) (fun (p : Bool) => K7 (.nx p)) ?_ ?_
  · skip
    refine GL.region ?_
    refine RL.mv rfl rfl rfl ?_
    refine RL.binI (v := .bool (decide (x0 < (1 : Int)))) rfl rfl rfl rfl rfl ?_
    refine RL.mv rfl rfl rfl ?_
    refine RL.split (t := 9) rfl (fun b13 => ?_) (fun b13 => ?_)
    · replace h8 := ite_t b13 h8
      refine RL.skip rfl rfl ?_
      refine RL.skip rfl rfl ?_
      refine RL.pickT rfl rfl rfl rfl ?_
      refine RL.fin ?_
      cases h8
      exact fun a w st => mid_intro true h9 (St.cut [0] ⟨rfl, rfl, rfl, trivial⟩ (by decide) rfl st)
    · replace h8 := ite_f b13 h8
      refine RL.mv rfl rfl rfl ?_
      refine RL.binI (v := .bool (decide (x0 > (6 : Int)))) rfl rfl rfl rfl rfl ?_
      refine RL.pickF rfl rfl rfl rfl ?_
      refine RL.fin ?_
      cases h8
      exact fun a w st => mid_intro (decide (x0 > (6 : Int))) h9 (St.cut [0] ⟨rfl, rfl, rfl, trivial⟩ (by decide) rfl st)
  · rintro x5 h14
    have h15 := h10 _ h14
    try dsimp only at h15
    refine GL.weak (env' := [(0, .int .i64 x0), (1, v1), (12, .bool x5)]) (L' := [imm (TR.sl TR.int) v1 x1]) (fun _ _ st => st) ?_
    refine GL.cond rfl (fun b16 => ?_) (fun b16 => ?_)
    · replace h15 := ite_t b16 h15
      refine GL.seq ?_
      refine GL.region ?_
      refine RL.asg rfl rfl rfl ?_
      refine RL.finG ?_
      have h15 := Option.some.inj h15
      subst h15
      exact GL.ret (Gx.ret (v := .int .i64 (1 : Int)) (res1 rfl rfl) (fun a w st => st.toPostC rfl))
    · replace h15 := ite_f b16 h15
      refine GL.skip ?_
      refine GL.seq ?_
      refine GL.seq ?_
      refine GL.region ?_
      refine RL.mv rfl rfl rfl ?_
      refine RL.lenS 0 Try.underlying22 rfl rfl rfl rfl SlOf.imm ?_
      refine RL.mv rfl rfl rfl ?_
      obtain ⟨y19, e20, h15⟩ := bind_some h15
      replace e20 := chk_some e20
      refine RL.sh (by simp) rfl rfl rfl rfl e20 ?_
      refine RL.binI (v := .bool (((x1).length : Int) != (IntKind.wrap .i64 ((1 : Int) * 2 ^ (min x0.toNat (IntKind.bits .i64)))))) rfl rfl rfl rfl rfl ?_
      refine RL.finG ?_
      refine GL.cond rfl (fun b21 => ?_) (fun b21 => ?_)
      · replace h15 := ite_t b21 h15
        refine GL.seq ?_
        refine GL.region ?_
        refine RL.asg rfl rfl rfl ?_
        refine RL.finG ?_
        have h15 := Option.some.inj h15
        subst h15
        exact GL.ret (Gx.ret (v := .int .i64 (3 : Int)) (res1 rfl rfl) (fun a w st => st.toPostC rfl))
      · replace h15 := ite_f b21 h15
        refine GL.skip ?_
        refine GL.seq ?_
        refine GL.seq ?_
        refine GL.region ?_
        refine RL.mv rfl rfl rfl ?_
        refine RL.lenS 0 Try.underlying22 rfl rfl rfl rfl SlOf.imm ?_
        refine RL.mv rfl rfl rfl ?_
        refine RL.finG ?_
        refine GL.open_ 0 rfl (fun S h => len_imm S h) (fun n40 => ?_)
        obtain ⟨y41, K42, h43, h44, h45, h46, h47⟩ := bindR_K h15
        refine GL.join (ι := Unit) (fun (p : Unit) => [(1, v1)]) (fun (p : Unit) => [imm (TR.sl TR.int) v1 x1]) (fun (p : Unit) => K42 (.nx ())) ?_ ?_
        · refine GL.block ?_
          refine GL.loop (ι := Nat × (List Int)) (fun (p : Nat × (List Int)) => [(1, v1), (18, v1), (19, .int .i64 ((x1).length : Int)), (20, .int .i64 (p.1 : Int))]) (fun (p : Nat × (List Int)) => [imm (TR.sl TR.int) v1 x1]) (fun (p : Nat × (List Int)) => p.1 + p.2.length = (x1).length ∧ List.drop p.1 x1 = p.2 ∧ rangeL worth_Check_b1 p.2 p.1 () = some y41) (fun (p : Nat × (List Int)) => p.2.length) (0, x1) ⟨by simp, by simp, h43⟩ (fun a w st => St.cut [0] ⟨rfl, rfl, rfl, rfl, trivial⟩ (by decide) rfl st) ?_
          rintro ⟨i48, r49⟩ ⟨h54, h55, h53⟩
          try dsimp only at h54 h55 h53
          refine GL.weak (env' := [(1, v1), (18, v1), (19, .int .i64 ((x1).length : Int)), (20, .int .i64 (i48 : Int))]) (L' := [imm (TR.sl TR.int) v1 x1]) (fun _ _ st => st) ?_
          refine GL.seq ?_
          refine GL.region ?_
          refine RL.binI (v := .bool (decide ((i48 : Int) < ((x1).length : Int)))) rfl rfl rfl rfl rfl ?_
          refine RL.finG ?_
          refine GL.seq ?_
          refine GL.cond rfl (fun b56 => ?_) (fun b56 => ?_)
          · have h57 : i48 < (x1).length := by have := of_decide_eq_true b56; omega
            obtain ⟨y58, r60, hr, e59, h61⟩ := drop_cons h55 rfl h57
            subst hr
            obtain ⟨z50, h51, h52⟩ := rangeL_some h53
            unfold worth_Check_b1 at h51
            try dsimp only at h51
            refine GL.skip ?_
            refine GL.seq ?_
            refine GL.block ?_
            refine GL.seq ?_
            refine GL.region ?_
            refine RL.idxS (sz := 1) 0 Try.underlying22 Try_ln3 rfl rfl rfl rfl rfl SlOf.imm (by omega) (by omega) ?_
            refine RL.ldSx (i := i48) (e' := y58) 0 Ex.ik Try_ln3 rfl rfl rfl rfl SlOf.imm e59 Part.self ?_
            refine RL.asg rfl rfl rfl ?_
            refine RL.finG ?_
            refine GL.seq ?_
            obtain ⟨y65, K66, h67, h68, h69, h70, h71⟩ := bindF_K h51
            refine GL.join (ι := Bool) (fun (p : Bool) => [(1, v1), (18, v1), (19, .int .i64 ((x1).length : Int)), (20, .int .i64 (i48 : Int)), (29, .bool p)]) (fun (p : Bool) => [imm (TR.sl TR.int) v1 x1]) (fun (p : Bool) => K66 (.nx p)) ?_ ?_
            · skip
              refine GL.region ?_
              refine RL.mv rfl rfl rfl ?_
              refine RL.binI (v := .bool (decide (y58 < (-1000000 : Int)))) rfl rfl rfl rfl rfl ?_
              refine RL.mv rfl rfl rfl ?_
              refine RL.split (t := 26) rfl (fun b72 => ?_) (fun b72 => ?_)
              · replace h67 := ite_t b72 h67
                refine RL.skip rfl rfl ?_
                refine RL.skip rfl rfl ?_
                refine RL.pickT rfl rfl rfl rfl ?_
                refine RL.fin ?_
                cases h67
                exact fun a w st => mid_intro true h68 (St.cut [0] ⟨rfl, rfl, rfl, rfl, rfl, trivial⟩ (by decide) rfl st)
              · replace h67 := ite_f b72 h67
                refine RL.mv rfl rfl rfl ?_
                refine RL.binI (v := .bool (decide (y58 > (1000000 : Int)))) rfl rfl rfl rfl rfl ?_
                refine RL.pickF rfl rfl rfl rfl ?_
                refine RL.fin ?_
                cases h67
                exact fun a w st => mid_intro (decide (y58 > (1000000 : Int))) h68 (St.cut [0] ⟨rfl, rfl, rfl, rfl, rfl, trivial⟩ (by decide) rfl st)
            · rintro x64 h73
              have h74 := h69 _ h73
              try dsimp only at h74
              refine GL.weak (env' := [(1, v1), (18, v1), (19, .int .i64 ((x1).length : Int)), (20, .int .i64 (i48 : Int)), (29, .bool x64)]) (L' := [imm (TR.sl TR.int) v1 x1]) (fun _ _ st => st) ?_
              refine GL.cond rfl (fun b75 => ?_) (fun b75 => ?_)
              · replace h74 := ite_t b75 h74
                refine GL.seq ?_
                refine GL.region ?_
                refine RL.asg rfl rfl rfl ?_
                refine RL.finG ?_
                cases h74
                replace h52 : some (Fl.rt _) = some y41 := h52
                cases h52
                have hh := h46 _ h44
                subst hh
                exact GL.ret (Gx.ret (v := .int .i64 (1 : Int)) (res1 rfl rfl) (fun a w st => st.toPostC rfl))
              · replace h74 := ite_f b75 h74
                refine GL.skip ?_
                refine GL.nilB ?_
                refine GL.region ?_
                refine RL.binI (v := .int .i64 ((i48 + 1 : Nat) : Int)) rfl rfl rfl rfl (binI_succ i48 (by omega)) ?_
                refine RL.mv rfl rfl rfl ?_
                refine RL.fin ?_
                cases h74
                exact fun a w st => lop_intro (i48 + 1, r60) ⟨by show i48 + 1 + r60.length = (x1).length; simp only [List.length_cons] at h54; omega, h61, h52⟩ (by simp) (St.cut [0] ⟨rfl, rfl, rfl, rfl, trivial⟩ (by decide) rfl st)
          · have h57 : ¬ i48 < (x1).length := by have := of_decide_eq_false b56; omega
            obtain rfl : r49 = [] := by rw [← h55]; exact List.drop_of_length_le (by omega)
            replace h53 : some (Fl.nx _) = some y41 := h53
            cases h53
            exact GL.exit (fun a w st => mid_intro () h44 (St.cut [0] ⟨rfl, trivial⟩ (by decide) rfl st))
        · rintro ⟨⟩ h76
          have h77 := h45 _ h76
          try dsimp only at h77
          refine GL.weak (env' := [(1, v1)]) (L' := [imm (TR.sl TR.int) v1 x1]) (fun _ _ st => st) ?_
          refine GL.seq ?_
          refine GL.seq ?_
          refine GL.region ?_
          refine RL.mv rfl rfl rfl ?_
          obtain ⟨y80, e81, h77⟩ := bind_some h77
          refine RL.idxS (sz := 1) 0 Try.underlying22 Try_ln3 rfl rfl rfl rfl rfl SlOf.imm (idx_some e81).1 (idx_some e81).2.1 ?_
          refine RL.ldSx (i := ((0 : Int)).toNat) (e' := y80) 0 Ex.ik Try_ln3 rfl rfl rfl rfl SlOf.imm (idx_some e81).2.2 Part.self ?_
          refine RL.binI (v := .bool (y80 != (0 : Int))) rfl rfl rfl rfl rfl ?_
          refine RL.finG ?_
          refine GL.cond rfl (fun b82 => ?_) (fun b82 => ?_)
          · replace h77 := ite_t b82 h77
            refine GL.seq ?_
            refine GL.region ?_
            refine RL.asg rfl rfl rfl ?_
            refine RL.finG ?_
            have h77 := Option.some.inj h77
            subst h77
            exact GL.ret (Gx.ret (v := .int .i64 (3 : Int)) (res1 rfl rfl) (fun a w st => st.toPostC rfl))
          · replace h77 := ite_f b82 h77
            refine GL.skip ?_
            refine GL.seq ?_
            refine GL.region ?_
            refine RL.asg rfl rfl rfl ?_
            refine RL.finG ?_
            have h77 := Option.some.inj h77
            subst h77
            exact GL.ret (Gx.ret (v := .int .i64 (0 : Int)) (res1 rfl rfl) (fun a w st => st.toPostC rfl))

set_option maxHeartbeats 4000000 in
theorem worth_Row_c (S : Hp) (w : World) (hS : S.sub w) (x0 : Int) (v1 : Value) (x1 : (List Int)) (k1 : ((TR.sl TR.int)).vrep S v1 x1) (v2 : Value) (x2 : (List Int)) (k2 : ((TR.sl TR.int)).vrep S v2 x2) (res : (List Int) × Int) (hm : worth_Row_m x0 x1 x2 = some res) : Calls Try.prog 30 #[.int .i64 x0, v1, v2] w (Post w S (fun (o : Value) => .tuple #[o, .int .i64 res.2]) (fun (o : Value) => [own 3 TR.int o res.1])) := by
  refine calls_enter 66 Try.func30 Try.ntmps30 rfl S false [(0, .int .i64 x0), (1, v1), (2, v2)] [imm (TR.sl TR.int) v1 x1, imm (TR.sl TR.int) v2 x2] rfl ⟨rfl, ⟨rfl, ⟨rfl, trivial⟩⟩⟩ hS ⟨k1, ⟨k2, trivial⟩⟩ ?_
  unfold worth_Row_m at hm
  refine GL.seq ?_
  refine GL.region ?_
  refine RL.asg rfl rfl rfl ?_
  refine RL.asg rfl rfl rfl ?_
  refine RL.finG ?_
  refine GL.seq ?_
  refine GL.seq ?_
  refine GL.region ?_
  refine RL.mv rfl rfl rfl ?_
  refine RL.mv rfl rfl rfl ?_
  obtain ⟨y6, e7, hm⟩ := bind_some hm
  refine RL.callC (v := .int .i64 y6) (vs := [.int .i64 x0, v1]) Try_fit34 rfl rfl rfl rfl (fun U w hU hW hL => worth_Check_c U w hU x0 _ _ (hL 0 _ _ rfl Seen.imm) _ e7) ?_
  refine RL.asg rfl rfl rfl ?_
  refine RL.finG ?_
  refine GL.seq ?_
  refine GL.region ?_
  refine RL.mv rfl rfl rfl ?_
  refine RL.binI (v := .bool (y6 != (0 : Int))) rfl rfl rfl rfl rfl ?_
  refine RL.finG ?_
  refine GL.cond rfl (fun b8 => ?_) (fun b8 => ?_)
  · replace hm := ite_t b8 hm
    refine GL.seq ?_
    refine GL.region ?_
    refine RL.mv rfl rfl rfl ?_
    refine RL.asg rfl rfl rfl ?_
    refine RL.asg rfl rfl rfl ?_
    refine RL.finG ?_
    refine GL.weak (fun a w st => st.nilOwn 3 TR.int) ?_
    have hm := Option.some.inj hm
    subst hm
    exact GL.ret (Gx.ret (v := .tuple #[Value.slice none 0 0, .int .i64 y6]) (res2 rfl rfl rfl) (fun a w st => (st.pick [2] (by decide) rfl).toPost (Value.slice none 0 0)))
  · replace hm := ite_f b8 hm
    refine GL.skip ?_
    refine GL.seq ?_
    refine GL.seq ?_
    refine GL.region ?_
    refine RL.mv rfl rfl rfl ?_
    refine RL.lenS 1 Try.underlying22 rfl rfl rfl rfl SlOf.imm ?_
    refine RL.mv rfl rfl rfl ?_
    refine RL.binI (v := .bool (((x2).length : Int) != x0)) rfl rfl rfl rfl rfl ?_
    refine RL.finG ?_
    refine GL.cond rfl (fun b9 => ?_) (fun b9 => ?_)
    · replace hm := ite_t b9 hm
      refine GL.seq ?_
      refine GL.region ?_
      refine RL.asg rfl rfl rfl ?_
      refine RL.asg rfl rfl rfl ?_
      refine RL.finG ?_
      refine GL.weak (fun a w st => st.nilOwn 3 TR.int) ?_
      have hm := Option.some.inj hm
      subst hm
      exact GL.ret (Gx.ret (v := .tuple #[Value.slice none 0 0, .int .i64 (3 : Int)]) (res2 rfl rfl rfl) (fun a w st => (st.pick [2] (by decide) rfl).toPost (Value.slice none 0 0)))
    · replace hm := ite_f b9 hm
      refine GL.skip ?_
      refine GL.seq ?_
      refine GL.region ?_
      refine RL.mv rfl rfl rfl ?_
      obtain ⟨y13, e14, hm⟩ := bind_some hm
      replace e14 := chk_some e14
      refine RL.mkS (t := TR.int) (z := (0 : Int)) Try.underlying22 Try_lo3 (fun S => rfl) rfl rfl rfl rfl e14.1 e14.2 ?_
      intro v15
      refine RL.asg rfl rfl rfl ?_
      refine RL.finG ?_
      refine GL.seq ?_
      refine GL.region ?_
      refine RL.asg rfl rfl rfl ?_
      refine RL.finG ?_
      refine GL.seq ?_
      refine GL.seq ?_
      refine GL.region ?_
      refine RL.mv rfl rfl rfl ?_
      refine RL.lenS 1 Try.underlying22 rfl rfl rfl rfl SlOf.imm ?_
      refine RL.mv rfl rfl rfl ?_
      refine RL.finG ?_
      refine GL.open_ 1 rfl (fun S h => len_imm S h) (fun n114 => ?_)
      obtain ⟨y115, K116, h117, h118, h119, h120, h121⟩ := bindR_K hm
      refine GL.join (ι := (List Int) × Int × Value) (fun (p : (List Int) × Int × Value) => [(9, p.2.2)]) (fun (p : (List Int) × Int × Value) => [own 3 TR.int p.2.2 p.1]) (fun (p : (List Int) × Int × Value) => K116 (.nx (p.1, p.2.1))) ?_ ?_
      · refine GL.block ?_
        refine GL.loop (ι := Nat × (List Int) × (List Int) × Int × Value) (fun (p : Nat × (List Int) × (List Int) × Int × Value) => [(0, .int .i64 x0), (1, v1), (9, p.2.2.2.2), (10, .int .i64 p.2.2.2.1), (25, v2), (26, .int .i64 ((x2).length : Int)), (27, .int .i64 (p.1 : Int))]) (fun (p : Nat × (List Int) × (List Int) × Int × Value) => [imm (TR.sl TR.int) v1 x1, own 3 TR.int p.2.2.2.2 p.2.2.1, imm (TR.sl TR.int) v2 x2]) (fun (p : Nat × (List Int) × (List Int) × Int × Value) => p.1 + p.2.1.length = (x2).length ∧ List.drop p.1 x2 = p.2.1 ∧ rangeL (worth_Row_b1 x0 x1) p.2.1 p.1 (p.2.2.1, p.2.2.2.1) = some y115) (fun (p : Nat × (List Int) × (List Int) × Int × Value) => p.2.1.length) (0, x2, (List.replicate (x0).toNat (0 : Int)), (0 : Int), v15) ⟨by simp, by simp, h117⟩ (fun a w st => St.cut [0, 2, 1] ⟨rfl, rfl, rfl, rfl, rfl, rfl, rfl, trivial⟩ (by decide) rfl st) ?_
        rintro ⟨i122, r123, l64, x66, v65⟩ ⟨h128, h129, h127⟩
        try dsimp only at h128 h129 h127
        refine GL.weak (env' := [(0, .int .i64 x0), (1, v1), (9, v65), (10, .int .i64 x66), (25, v2), (26, .int .i64 ((x2).length : Int)), (27, .int .i64 (i122 : Int))]) (L' := [imm (TR.sl TR.int) v1 x1, own 3 TR.int v65 l64, imm (TR.sl TR.int) v2 x2]) (fun _ _ st => st) ?_
        refine GL.seq ?_
        refine GL.region ?_
        refine RL.binI (v := .bool (decide ((i122 : Int) < ((x2).length : Int)))) rfl rfl rfl rfl rfl ?_
        refine RL.finG ?_
        refine GL.seq ?_
        refine GL.cond rfl (fun b130 => ?_) (fun b130 => ?_)
        · have h131 : i122 < (x2).length := by have := of_decide_eq_true b130; omega
          obtain ⟨y132, r134, hr, e133, h135⟩ := drop_cons h129 rfl h131
          subst hr
          obtain ⟨z124, h125, h126⟩ := rangeL_some h127
          unfold worth_Row_b1 at h125
          try dsimp only at h125
          refine GL.skip ?_
          refine GL.seq ?_
          refine GL.block ?_
          refine GL.seq ?_
          refine GL.region ?_
          refine RL.idxS (sz := 1) 2 Try.underlying22 Try_ln3 rfl rfl rfl rfl rfl SlOf.imm (by omega) (by omega) ?_
          refine RL.ldSx (i := i122) (e' := y132) 2 Ex.ik Try_ln3 rfl rfl rfl rfl SlOf.imm e133 Part.self ?_
          refine RL.asg rfl rfl rfl ?_
          refine RL.finG ?_
          refine GL.seq ?_
          refine GL.seq ?_
          obtain ⟨y145, K146, h147, h148, h149, h150, h151⟩ := bindF_K h125
          refine GL.join (ι := Bool) (fun (p : Bool) => [(0, .int .i64 x0), (1, v1), (9, v65), (10, .int .i64 x66), (12, .int .i64 y132), (25, v2), (26, .int .i64 ((x2).length : Int)), (27, .int .i64 (i122 : Int)), (44, .bool p)]) (fun (p : Bool) => [imm (TR.sl TR.int) v1 x1, own 3 TR.int v65 l64, imm (TR.sl TR.int) v2 x2]) (fun (p : Bool) => K146 (.nx p)) ?_ ?_
          · skip
            refine GL.region ?_
            refine RL.mv rfl rfl rfl ?_
            refine RL.binI (v := .bool (decide (y132 < (0 : Int)))) rfl rfl rfl rfl rfl ?_
            refine RL.mv rfl rfl rfl ?_
            refine RL.split (t := 33) rfl (fun b152 => ?_) (fun b152 => ?_)
            · replace h147 := ite_t b152 h147
              refine RL.skip rfl rfl ?_
              refine RL.skip rfl rfl ?_
              refine RL.skip rfl rfl ?_
              refine RL.pickT rfl rfl rfl rfl ?_
              refine RL.mv rfl rfl rfl ?_
              refine RL.skip rfl rfl ?_
              refine RL.skip rfl rfl ?_
              refine RL.skip rfl rfl ?_
              refine RL.skip rfl rfl ?_
              refine RL.skip rfl rfl ?_
              refine RL.pickT rfl rfl rfl rfl ?_
              refine RL.fin ?_
              cases h147
              exact fun a w st => mid_intro true h148 (St.cut [0, 1, 2] ⟨rfl, rfl, rfl, rfl, rfl, rfl, rfl, rfl, rfl, trivial⟩ (by decide) rfl st)
            · replace h147 := ite_f b152 h147
              refine RL.mv rfl rfl rfl ?_
              refine RL.mv rfl rfl rfl ?_
              refine RL.binI (v := .bool (decide (y132 ≥ x0))) rfl rfl rfl rfl rfl ?_
              refine RL.pickF rfl rfl rfl rfl ?_
              refine RL.mv rfl rfl rfl ?_
              refine RL.split (t := 38) rfl (fun b153 => ?_) (fun b153 => ?_)
              · replace h147 := ite_t b153 h147
                refine RL.skip rfl rfl ?_
                refine RL.skip rfl rfl ?_
                refine RL.skip rfl rfl ?_
                refine RL.skip rfl rfl ?_
                refine RL.skip rfl rfl ?_
                refine RL.pickT rfl rfl rfl rfl ?_
                refine RL.fin ?_
                cases h147
                exact fun a w st => mid_intro true h148 (St.cut [0, 1, 2] ⟨rfl, rfl, rfl, rfl, rfl, rfl, rfl, rfl, rfl, trivial⟩ (by decide) rfl st)
              · replace h147 := ite_f b153 h147
                refine RL.mv rfl rfl rfl ?_
                refine RL.mv rfl rfl rfl ?_
                obtain ⟨y154, e155, h147⟩ := bind_some h147
                replace e155 := chk_some e155
                refine RL.sh (by simp) rfl rfl rfl rfl e155 ?_
                refine RL.binI (v := .int .i64 (bits .and .i64 (Int.fdiv x66 (2 ^ (min y132.toNat (IntKind.bits .i64)))) (1 : Int))) rfl rfl rfl rfl rfl ?_
                refine RL.binI (v := .bool ((bits .and .i64 (Int.fdiv x66 (2 ^ (min y132.toNat (IntKind.bits .i64)))) (1 : Int)) == (1 : Int))) rfl rfl rfl rfl rfl ?_
                refine RL.pickF rfl rfl rfl rfl ?_
                refine RL.fin ?_
                cases h147
                exact fun a w st => mid_intro ((bits .and .i64 (Int.fdiv x66 (2 ^ (min y132.toNat (IntKind.bits .i64)))) (1 : Int)) == (1 : Int)) h148 (St.cut [0, 1, 2] ⟨rfl, rfl, rfl, rfl, rfl, rfl, rfl, rfl, rfl, trivial⟩ (by decide) rfl st)
          · rintro x144 h156
            have h157 := h149 _ h156
            try dsimp only at h157
            refine GL.weak (env' := [(0, .int .i64 x0), (1, v1), (9, v65), (10, .int .i64 x66), (12, .int .i64 y132), (25, v2), (26, .int .i64 ((x2).length : Int)), (27, .int .i64 (i122 : Int)), (44, .bool x144)]) (L' := [imm (TR.sl TR.int) v1 x1, own 3 TR.int v65 l64, imm (TR.sl TR.int) v2 x2]) (fun _ _ st => st) ?_
            refine GL.cond rfl (fun b158 => ?_) (fun b158 => ?_)
            · replace h157 := ite_t b158 h157
              refine GL.seq ?_
              refine GL.region ?_
              refine RL.asg rfl rfl rfl ?_
              refine RL.asg rfl rfl rfl ?_
              refine RL.finG ?_
              refine GL.weak (fun a w st => st.nilOwn 3 TR.int) ?_
              cases h157
              replace h126 : some (Fl.rt _) = some y115 := h126
              cases h126
              have hh := h120 _ h118
              subst hh
              exact GL.ret (Gx.ret (v := .tuple #[Value.slice none 0 0, .int .i64 (3 : Int)]) (res2 rfl rfl rfl) (fun a w st => (st.pick [3] (by decide) rfl).toPost (Value.slice none 0 0)))
            · replace h157 := ite_f b158 h157
              refine GL.skip ?_
              refine GL.seq ?_
              refine GL.regionH 15 rfl rfl (by kernel_rfl) ?_
              simp only [List.take_succ_cons, List.take_zero, List.drop_succ_cons, List.drop_zero]
              refine RL.mv rfl rfl rfl ?_
              refine RL.mv rfl rfl rfl ?_
              refine RL.mv rfl rfl rfl ?_
              refine RL.mv rfl rfl rfl ?_
              refine RL.mv rfl rfl rfl ?_
              obtain ⟨y167, e168, h157⟩ := bind_some h157
              replace e168 := chk_some e168
              refine RL.sh (by simp) rfl rfl rfl rfl e168 ?_
              refine RL.binI (v := .int .i64 (bits .or .i64 x66 (IntKind.wrap .i64 ((1 : Int) * 2 ^ (min y132.toNat (IntKind.bits .i64)))))) rfl rfl rfl rfl rfl ?_
              obtain ⟨y169, e170, h157⟩ := bind_some h157
              refine RL.idxS (sz := 1) 0 Try.underlying22 Try_ln3 rfl rfl rfl rfl rfl SlOf.imm (idx_some e170).1 (idx_some e170).2.1 ?_
              refine RL.ldSx (i := (bits .or .i64 x66 (IntKind.wrap .i64 ((1 : Int) * 2 ^ (min y132.toNat (IntKind.bits .i64))))).toNat) (e' := y169) 0 Ex.ik Try_ln3 rfl rfl rfl rfl SlOf.imm (idx_some e170).2.2 Part.self ?_
              refine RL.mv rfl rfl rfl ?_
              refine RL.mv rfl rfl rfl ?_
              obtain ⟨y171, e172, h157⟩ := bind_some h157
              refine RL.idxS (sz := 1) 0 Try.underlying22 Try_ln3 rfl rfl rfl rfl rfl SlOf.imm (idx_some e172).1 (idx_some e172).2.1 ?_
              refine RL.ldSx (i := (x66).toNat) (e' := y171) 0 Ex.ik Try_ln3 rfl rfl rfl rfl SlOf.imm (idx_some e172).2.2 Part.self ?_
              refine RL.binI (v := .int .i64 (wsub y169 y171)) rfl rfl rfl rfl rfl ?_
              obtain ⟨y173, e174, h157⟩ := bind_some h157
              refine RL.idxS (sz := 1) 1 Try.underlying22 Try_ln3 rfl rfl rfl rfl rfl SlOf.own (idx_some e174).1 (idx_some e174).2.1 ?_
              refine RL.finH ?_
              refine RL.stS (i := (y132).toNat) (e' := wsub y169 y171) (e1 := wsub y169 y171) (r := TR.int) 1 Try_ln3 rfl rfl rfl rfl VR.int rfl (idx_some e174).2.2 Upd.self ?_
              refine RL.finG ?_
              refine GL.region ?_
              refine RL.mv rfl rfl rfl ?_
              refine RL.mv rfl rfl rfl ?_
              obtain ⟨y177, e178, h157⟩ := bind_some h157
              replace e178 := chk_some e178
              refine RL.sh (by simp) rfl rfl rfl rfl e178 ?_
              refine RL.binI (v := .int .i64 (bits .or .i64 x66 (IntKind.wrap .i64 ((1 : Int) * 2 ^ (min y132.toNat (IntKind.bits .i64)))))) rfl rfl rfl rfl rfl ?_
              refine RL.asg rfl rfl rfl ?_
              refine RL.finG ?_
              refine GL.nilB ?_
              refine GL.region ?_
              refine RL.binI (v := .int .i64 ((i122 + 1 : Nat) : Int)) rfl rfl rfl rfl (binI_succ i122 (by omega)) ?_
              refine RL.mv rfl rfl rfl ?_
              refine RL.fin ?_
              cases h157
              exact fun a w st => lop_intro (i122 + 1, r134, (List.set l64 ((y132).toNat) (wsub y169 y171)), bits .or .i64 x66 (IntKind.wrap .i64 ((1 : Int) * 2 ^ (min y132.toNat (IntKind.bits .i64)))), v65) ⟨by show i122 + 1 + r134.length = (x2).length; simp only [List.length_cons] at h128; omega, h135, h126⟩ (by simp) (St.cut [0, 1, 2] ⟨rfl, rfl, rfl, rfl, rfl, rfl, rfl, trivial⟩ (by decide) rfl st)
        · have h131 : ¬ i122 < (x2).length := by have := of_decide_eq_false b130; omega
          obtain rfl : r123 = [] := by rw [← h129]; exact List.drop_of_length_le (by omega)
          replace h127 : some (Fl.nx _) = some y115 := h127
          cases h127
          exact GL.exit (fun a w st => mid_intro (l64, x66, v65) h118 (St.cut [1] ⟨rfl, trivial⟩ (by decide) rfl st))
      · rintro ⟨l64, x66, v65⟩ h179
        have h180 := h119 _ h179
        try dsimp only at h180
        refine GL.weak (env' := [(9, v65)]) (L' := [own 3 TR.int v65 l64]) (fun _ _ st => st) ?_
        refine GL.seq ?_
        refine GL.region ?_
        refine RL.mv rfl rfl rfl ?_
        refine RL.asg rfl rfl rfl ?_
        refine RL.asg rfl rfl rfl ?_
        refine RL.finG ?_
        have h180 := Option.some.inj h180
        subst h180
        exact GL.ret (Gx.ret (v := .tuple #[v65, .int .i64 (0 : Int)]) (res2 rfl rfl rfl) (fun a w st => (st.pick [0] (by decide) rfl).toPost v65))

set_option maxHeartbeats 4000000 in
theorem slices_Equal_int_int_c (S : Hp) (w : World) (hS : S.sub w) (v0 : Value) (x0 : (List Int)) (k0 : ((TR.sl TR.int)).vrep S v0 x0) (v1 : Value) (x1 : (List Int)) (k1 : ((TR.sl TR.int)).vrep S v1 x1) (res : Bool) (hm : slices_Equal_int_int_m x0 x1 = some res) : Calls Try.prog 20 #[v0, v1] w (PostV w (.bool res)) := by
  refine calls_enter 26 Try.func20 Try.ntmps20 rfl S false [(0, v0), (1, v1)] [imm (TR.sl TR.int) v0 x0, imm (TR.sl TR.int) v1 x1] rfl ⟨rfl, ⟨rfl, trivial⟩⟩ hS ⟨k0, ⟨k1, trivial⟩⟩ ?_
  unfold slices_Equal_int_int_m at hm
  refine GL.seq ?_
  refine GL.region ?_
  refine RL.asg rfl rfl rfl ?_
  refine RL.finG ?_
  refine GL.seq ?_
  refine GL.seq ?_
  refine GL.region ?_
  refine RL.mv rfl rfl rfl ?_
  refine RL.lenS 0 Try.underlying22 rfl rfl rfl rfl SlOf.imm ?_
  refine RL.mv rfl rfl rfl ?_
  refine RL.lenS 1 Try.underlying22 rfl rfl rfl rfl SlOf.imm ?_
  refine RL.binI (v := .bool (((x0).length : Int) != ((x1).length : Int))) rfl rfl rfl rfl rfl ?_
  refine RL.finG ?_
  refine GL.cond rfl (fun b3 => ?_) (fun b3 => ?_)
  · replace hm := ite_t b3 hm
    refine GL.seq ?_
    refine GL.region ?_
    refine RL.asg rfl rfl rfl ?_
    refine RL.finG ?_
    have hm := Option.some.inj hm
    subst hm
    exact GL.ret (Gx.ret (v := .bool false) (res1 rfl rfl) (fun a w st => st.toPostV))
  · replace hm := ite_f b3 hm
    refine GL.skip ?_
    refine GL.seq ?_
    refine GL.seq ?_
    refine GL.region ?_
    refine RL.mv rfl rfl rfl ?_
    refine RL.lenS 0 Try.underlying22 rfl rfl rfl rfl SlOf.imm ?_
    refine RL.mv rfl rfl rfl ?_
    refine RL.finG ?_
    refine GL.open_ 0 rfl (fun S h => len_imm S h) (fun n13 => ?_)
    obtain ⟨y14, K15, h16, h17, h18, h19, h20⟩ := bindR_K hm
    refine GL.join (ι := Unit) (fun (p : Unit) => []) (fun (p : Unit) => []) (fun (p : Unit) => K15 (.nx ())) ?_ ?_
    · refine GL.block ?_
      refine GL.loop (ι := Nat × (List Int)) (fun (p : Nat × (List Int)) => [(0, v0), (1, v1), (12, .int .i64 ((x0).length : Int)), (13, .int .i64 (p.1 : Int))]) (fun (p : Nat × (List Int)) => [imm (TR.sl TR.int) v0 x0, imm (TR.sl TR.int) v1 x1]) (fun (p : Nat × (List Int)) => p.1 + p.2.length = (x0).length ∧ List.drop p.1 x0 = p.2 ∧ rangeL (slices_Equal_int_int_b1 x1) p.2 p.1 () = some y14) (fun (p : Nat × (List Int)) => p.2.length) (0, x0) ⟨by simp, by simp, h16⟩ (fun a w st => St.cut [0, 1] ⟨rfl, rfl, rfl, rfl, trivial⟩ (by decide) rfl st) ?_
      rintro ⟨i21, r22⟩ ⟨h27, h28, h26⟩
      try dsimp only at h27 h28 h26
      refine GL.weak (env' := [(0, v0), (1, v1), (12, .int .i64 ((x0).length : Int)), (13, .int .i64 (i21 : Int))]) (L' := [imm (TR.sl TR.int) v0 x0, imm (TR.sl TR.int) v1 x1]) (fun _ _ st => st) ?_
      refine GL.seq ?_
      refine GL.region ?_
      refine RL.binI (v := .bool (decide ((i21 : Int) < ((x0).length : Int)))) rfl rfl rfl rfl rfl ?_
      refine RL.finG ?_
      refine GL.seq ?_
      refine GL.cond rfl (fun b29 => ?_) (fun b29 => ?_)
      · have h30 : i21 < (x0).length := by have := of_decide_eq_true b29; omega
        obtain ⟨y31, r33, hr, e32, h34⟩ := drop_cons h28 rfl h30
        subst hr
        obtain ⟨z23, h24, h25⟩ := rangeL_some h26
        unfold slices_Equal_int_int_b1 at h24
        try dsimp only at h24
        refine GL.skip ?_
        refine GL.seq ?_
        refine GL.block ?_
        refine GL.seq ?_
        refine GL.region ?_
        refine RL.mv rfl rfl rfl ?_
        refine RL.asg rfl rfl rfl ?_
        refine RL.finG ?_
        refine GL.seq ?_
        refine GL.regionQ rfl rfl (by kernel_rfl) ?_
        refine RL.mv rfl rfl rfl ?_
        refine RL.mv rfl rfl rfl ?_
        refine RL.idxS (sz := 1) 0 Try.underlying22 Try_ln3 rfl rfl rfl rfl rfl SlOf.imm (by omega) (by omega) ?_
        refine RL.ldSx (i := i21) (e' := y31) 0 Ex.ik Try_ln3 rfl rfl rfl rfl SlOf.imm e32 Part.self ?_
        refine RL.mv rfl rfl rfl ?_
        refine RL.mv rfl rfl rfl ?_
        obtain ⟨y37, e38, h24⟩ := bind_some h24
        refine RL.idxS (sz := 1) 1 Try.underlying22 Try_ln3 rfl rfl rfl rfl rfl SlOf.imm (idx_some e38).1 (idx_some e38).2.1 ?_
        refine RL.ldSx (i := i21) (e' := y37) 1 Ex.ik Try_ln3 rfl rfl rfl rfl SlOf.imm (idx_some e38).2.2 Part.self ?_
        refine RL.binI (v := .bool (y31 != y37)) rfl rfl rfl rfl rfl ?_
        refine RL.finQG ?_
        refine GL.cond rfl (fun b39 => ?_) (fun b39 => ?_)
        · replace h24 := ite_t b39 h24
          refine GL.seq ?_
          refine GL.region ?_
          refine RL.asg rfl rfl rfl ?_
          refine RL.finG ?_
          cases h24
          replace h25 : some (Fl.rt _) = some y14 := h25
          cases h25
          have hh := h19 _ h17
          subst hh
          exact GL.ret (Gx.ret (v := .bool false) (res1 rfl rfl) (fun a w st => st.toPostV))
        · replace h24 := ite_f b39 h24
          refine GL.skip ?_
          refine GL.nilB ?_
          refine GL.region ?_
          refine RL.binI (v := .int .i64 ((i21 + 1 : Nat) : Int)) rfl rfl rfl rfl (binI_succ i21 (by omega)) ?_
          refine RL.mv rfl rfl rfl ?_
          refine RL.fin ?_
          cases h24
          exact fun a w st => lop_intro (i21 + 1, r33) ⟨by show i21 + 1 + r33.length = (x0).length; simp only [List.length_cons] at h27; omega, h34, h25⟩ (by simp) (St.cut [0, 1] ⟨rfl, rfl, rfl, rfl, trivial⟩ (by decide) rfl st)
      · have h30 : ¬ i21 < (x0).length := by have := of_decide_eq_false b29; omega
        obtain rfl : r22 = [] := by rw [← h28]; exact List.drop_of_length_le (by omega)
        replace h26 : some (Fl.nx _) = some y14 := h26
        cases h26
        exact GL.exit (fun a w st => mid_intro () h17 (St.cut [] trivial (by decide) rfl st))
    · rintro ⟨⟩ h40
      have h41 := h18 _ h40
      try dsimp only at h41
      refine GL.weak (env' := []) (L' := []) (fun _ _ st => st) ?_
      refine GL.seq ?_
      refine GL.region ?_
      refine RL.asg rfl rfl rfl ?_
      refine RL.finG ?_
      have h41 := Option.some.inj h41
      subst h41
      exact GL.ret (Gx.ret (v := .bool true) (res1 rfl rfl) (fun a w st => st.toPostV))

set_option maxHeartbeats 4000000 in
theorem worth_size_c (S : Hp) (w : World) (hS : S.sub w) (x0 : Int) (res : Int) (hm : worth_size_m x0 = some res) : Calls Try.prog 35 #[.int .i64 x0] w (PostC w (.int .i64 res)) := by
  refine calls_enter 13 Try.func35 Try.ntmps35 rfl S true [(0, .int .i64 x0)] [] rfl ⟨rfl, trivial⟩ hS trivial ?_
  unfold worth_size_m at hm
  refine GL.seq ?_
  refine GL.region ?_
  refine RL.asg rfl rfl rfl ?_
  refine RL.finG ?_
  refine GL.seq ?_
  refine GL.region ?_
  refine RL.asg rfl rfl rfl ?_
  refine RL.finG ?_
  refine GL.seq ?_
  obtain ⟨y13, K14, h15, h16, h17, h18, h19⟩ := bindR_K hm
  refine GL.join (ι := Int × Int) (fun (p : Int × Int) => [(3, .int .i64 p.2)]) (fun (p : Int × Int) => []) (fun (p : Int × Int) => K14 (.nx (p.1, p.2))) ?_ ?_
  · refine GL.block ?_
    refine GL.loop (ι := Nat × Int × Int) (fun (p : Nat × Int × Int) => [(0, .int .i64 p.2.1), (3, .int .i64 p.2.2)]) (fun (p : Nat × Int × Int) => []) (fun (p : Nat × Int × Int) => loopM worth_size_b1 p.1 (p.2.1, p.2.2) = some y13) (fun (p : Nat × Int × Int) => p.1) (1048576, x0, (0 : Int)) h15 (fun a w st => St.cut [] ⟨rfl, rfl, trivial⟩ (by decide) rfl st) ?_
    rintro ⟨r21, x2, x3⟩ h25
    try dsimp only at h25
    refine GL.weak (env' := [(0, .int .i64 x2), (3, .int .i64 x3)]) (L' := []) (fun _ _ st => st) ?_
    obtain ⟨r28, z22, hr, h23, h24⟩ := loopM_some h25
    subst hr
    unfold worth_size_b1 at h23
    try dsimp only at h23
    refine GL.seq ?_
    refine GL.seq ?_
    refine GL.region ?_
    refine RL.mv rfl rfl rfl ?_
    refine RL.binI (v := .bool (decide (x2 > (0 : Int)))) rfl rfl rfl rfl rfl ?_
    refine RL.finG ?_
    refine GL.cond rfl (fun b29 => ?_) (fun b29 => ?_)
    · replace h23 := ite_t b29 h23
      refine GL.skip ?_
      refine GL.seq ?_
      refine GL.block ?_
      refine GL.region ?_
      refine RL.mv rfl rfl rfl ?_
      refine RL.mv rfl rfl rfl ?_
      obtain ⟨y32, e33, h23⟩ := bind_some h23
      replace e33 := chk_some e33
      refine RL.rem rfl rfl rfl rfl e33 ?_
      refine RL.binI (v := .int .i64 (wadd x3 (Int.tmod x2 (2 : Int)))) rfl rfl rfl rfl rfl ?_
      refine RL.asg rfl rfl rfl ?_
      refine RL.finG ?_
      refine GL.nilB ?_
      refine GL.region ?_
      refine RL.mv rfl rfl rfl ?_
      obtain ⟨y36, e37, h23⟩ := bind_some h23
      replace e37 := chk_some e37
      refine RL.quo rfl rfl rfl rfl e37 ?_
      refine RL.asg rfl rfl rfl ?_
      refine RL.finG ?_
      cases h23
      exact fun a w st => lop_intro (r28, IntKind.wrap .i64 (Int.tdiv x2 (2 : Int)), wadd x3 (Int.tmod x2 (2 : Int))) h24 (by simp) (St.cut [] ⟨rfl, rfl, trivial⟩ (by decide) rfl st)
    · replace h23 := ite_f b29 h23
      cases h23
      replace h24 : some (Fl.nx _) = some y13 := h24
      cases h24
      exact GL.exit (fun a w st => mid_intro (x2, x3) h16 (St.cut [] ⟨rfl, trivial⟩ (by decide) rfl st))
  · rintro ⟨x2, x3⟩ h38
    have h39 := h17 _ h38
    try dsimp only at h39
    refine GL.weak (env' := [(3, .int .i64 x3)]) (L' := []) (fun _ _ st => st) ?_
    refine GL.seq ?_
    refine GL.region ?_
    refine RL.mv rfl rfl rfl ?_
    refine RL.asg rfl rfl rfl ?_
    refine RL.finG ?_
    have h39 := Option.some.inj h39
    subst h39
    exact GL.ret (Gx.ret (v := .int .i64 x3) (res1 rfl rfl) (fun a w st => st.toPostC rfl))

set_option maxHeartbeats 4000000 in
theorem worth_factorial_c (S : Hp) (w : World) (hS : S.sub w) (x0 : Int) (res : Int) (hm : worth_factorial_m x0 = some res) : Calls Try.prog 36 #[.int .i64 x0] w (PostC w (.int .i64 res)) := by
  refine calls_enter 14 Try.func36 Try.ntmps36 rfl S true [(0, .int .i64 x0)] [] rfl ⟨rfl, trivial⟩ hS trivial ?_
  unfold worth_factorial_m at hm
  refine GL.seq ?_
  refine GL.region ?_
  refine RL.asg rfl rfl rfl ?_
  refine RL.finG ?_
  refine GL.seq ?_
  refine GL.region ?_
  refine RL.asg rfl rfl rfl ?_
  refine RL.finG ?_
  refine GL.seq ?_
  refine GL.seq ?_
  refine GL.region ?_
  refine RL.asg rfl rfl rfl ?_
  refine RL.finG ?_
  obtain ⟨y5, K6, h7, h8, h9, h10, h11⟩ := bindR_K hm
  refine GL.join (ι := Int × Int) (fun (p : Int × Int) => [(3, .int .i64 p.1)]) (fun (p : Int × Int) => []) (fun (p : Int × Int) => K6 (.nx (p.1, p.2))) ?_ ?_
  · refine GL.block ?_
    refine GL.loop (ι := Nat × Int × Int) (fun (p : Nat × Int × Int) => [(0, .int .i64 x0), (3, .int .i64 p.2.1), (4, .int .i64 p.2.2)]) (fun (p : Nat × Int × Int) => []) (fun (p : Nat × Int × Int) => loopM (worth_factorial_b1 x0) p.1 (p.2.1, p.2.2) = some y5) (fun (p : Nat × Int × Int) => p.1) (1048576, (1 : Int), (2 : Int)) h7 (fun a w st => St.cut [] ⟨rfl, rfl, rfl, trivial⟩ (by decide) rfl st) ?_
    rintro ⟨r13, x2, x3⟩ h17
    try dsimp only at h17
    refine GL.weak (env' := [(0, .int .i64 x0), (3, .int .i64 x2), (4, .int .i64 x3)]) (L' := []) (fun _ _ st => st) ?_
    obtain ⟨r20, z14, hr, h15, h16⟩ := loopM_some h17
    subst hr
    unfold worth_factorial_b1 at h15
    try dsimp only at h15
    refine GL.seq ?_
    refine GL.seq ?_
    refine GL.region ?_
    refine RL.mv rfl rfl rfl ?_
    refine RL.mv rfl rfl rfl ?_
    refine RL.binI (v := .bool (decide (x3 ≤ x0))) rfl rfl rfl rfl rfl ?_
    refine RL.finG ?_
    refine GL.cond rfl (fun b21 => ?_) (fun b21 => ?_)
    · replace h15 := ite_t b21 h15
      refine GL.skip ?_
      refine GL.seq ?_
      refine GL.block ?_
      refine GL.region ?_
      refine RL.mv rfl rfl rfl ?_
      refine RL.mv rfl rfl rfl ?_
      refine RL.binI (v := .int .i64 (wmul x2 x3)) rfl rfl rfl rfl rfl ?_
      refine RL.asg rfl rfl rfl ?_
      refine RL.finG ?_
      refine GL.nilB ?_
      refine GL.region ?_
      refine RL.mv rfl rfl rfl ?_
      refine RL.binI (v := .int .i64 (wadd x3 (1 : Int))) rfl rfl rfl rfl rfl ?_
      refine RL.asg rfl rfl rfl ?_
      refine RL.finG ?_
      cases h15
      exact fun a w st => lop_intro (r20, wmul x2 x3, wadd x3 (1 : Int)) h16 (by simp) (St.cut [] ⟨rfl, rfl, rfl, trivial⟩ (by decide) rfl st)
    · replace h15 := ite_f b21 h15
      cases h15
      replace h16 : some (Fl.nx _) = some y5 := h16
      cases h16
      exact GL.exit (fun a w st => mid_intro (x2, x3) h8 (St.cut [] ⟨rfl, trivial⟩ (by decide) rfl st))
  · rintro ⟨x2, x3⟩ h22
    have h23 := h9 _ h22
    try dsimp only at h23
    refine GL.weak (env' := [(3, .int .i64 x2)]) (L' := []) (fun _ _ st => st) ?_
    refine GL.seq ?_
    refine GL.region ?_
    refine RL.mv rfl rfl rfl ?_
    refine RL.asg rfl rfl rfl ?_
    refine RL.finG ?_
    have h23 := Option.some.inj h23
    subst h23
    exact GL.ret (Gx.ret (v := .int .i64 x2) (res1 rfl rfl) (fun a w st => st.toPostC rfl))

set_option maxHeartbeats 4000000 in
theorem worth_Share_c (S : Hp) (w : World) (hS : S.sub w) (x0 : Int) (v1 : Value) (x1 : (List Int)) (k1 : ((TR.sl TR.int)).vrep S v1 x1) (res : (List Int) × Int) (hm : worth_Share_m x0 x1 = some res) : Calls Try.prog 17 #[.int .i64 x0, v1] w (Post w S (fun (o : Value) => .tuple #[o, .int .i64 res.2]) (fun (o : Value) => [own 3 TR.int o res.1])) := by
  refine calls_enter 65 Try.func17 Try.ntmps17 rfl S false [(0, .int .i64 x0), (1, v1)] [imm (TR.sl TR.int) v1 x1] rfl ⟨rfl, ⟨rfl, trivial⟩⟩ hS ⟨k1, trivial⟩ ?_
  unfold worth_Share_m at hm
  refine GL.seq ?_
  refine GL.region ?_
  refine RL.asg rfl rfl rfl ?_
  refine RL.asg rfl rfl rfl ?_
  refine RL.finG ?_
  refine GL.seq ?_
  refine GL.seq ?_
  refine GL.region ?_
  refine RL.mv rfl rfl rfl ?_
  refine RL.mv rfl rfl rfl ?_
  obtain ⟨y5, e6, hm⟩ := bind_some hm
  refine RL.callC (v := .int .i64 y5) (vs := [.int .i64 x0, v1]) Try_fit34 rfl rfl rfl rfl (fun U w hU hW hL => worth_Check_c U w hU x0 _ _ (hL 0 _ _ rfl Seen.imm) _ e6) ?_
  refine RL.asg rfl rfl rfl ?_
  refine RL.finG ?_
  refine GL.seq ?_
  refine GL.region ?_
  refine RL.mv rfl rfl rfl ?_
  refine RL.binI (v := .bool (y5 != (0 : Int))) rfl rfl rfl rfl rfl ?_
  refine RL.finG ?_
  refine GL.cond rfl (fun b7 => ?_) (fun b7 => ?_)
  · replace hm := ite_t b7 hm
    refine GL.seq ?_
    refine GL.region ?_
    refine RL.mv rfl rfl rfl ?_
    refine RL.asg rfl rfl rfl ?_
    refine RL.asg rfl rfl rfl ?_
    refine RL.finG ?_
    refine GL.weak (fun a w st => st.nilOwn 3 TR.int) ?_
    have hm := Option.some.inj hm
    subst hm
    exact GL.ret (Gx.ret (v := .tuple #[Value.slice none 0 0, .int .i64 y5]) (res2 rfl rfl rfl) (fun a w st => (st.pick [1] (by decide) rfl).toPost (Value.slice none 0 0)))
  · replace hm := ite_f b7 hm
    refine GL.skip ?_
    refine GL.seq ?_
    refine GL.region ?_
    refine RL.mv rfl rfl rfl ?_
    obtain ⟨y11, e12, hm⟩ := bind_some hm
    replace e12 := chk_some e12
    refine RL.mkS (t := TR.int) (z := (0 : Int)) Try.underlying22 Try_lo3 (fun S => rfl) rfl rfl rfl rfl e12.1 e12.2 ?_
    intro v13
    refine RL.asg rfl rfl rfl ?_
    refine RL.finG ?_
    refine GL.seq ?_
    refine GL.seq ?_
    refine GL.region ?_
    refine RL.mv rfl rfl rfl ?_
    refine RL.lenS 0 Try.underlying22 rfl rfl rfl rfl SlOf.imm ?_
    refine RL.mv rfl rfl rfl ?_
    refine RL.finG ?_
    refine GL.open_ 0 rfl (fun S h => len_imm S h) (fun n288 => ?_)
    obtain ⟨y289, K290, h291, h292, h293, h294, h295⟩ := bindR_K hm
    refine GL.join (ι := (List Int) × Value) (fun (p : (List Int) × Value) => [(7, p.2)]) (fun (p : (List Int) × Value) => [own 3 TR.int p.2 p.1]) (fun (p : (List Int) × Value) => K290 (.nx p.1)) ?_ ?_
    · refine GL.block ?_
      refine GL.loop (ι := Nat × (List Int) × (List Int) × Value) (fun (p : Nat × (List Int) × (List Int) × Value) => [(0, .int .i64 x0), (1, v1), (7, p.2.2.2), (20, .int .i64 ((x1).length : Int)), (21, .int .i64 (p.1 : Int))]) (fun (p : Nat × (List Int) × (List Int) × Value) => [imm (TR.sl TR.int) v1 x1, own 3 TR.int p.2.2.2 p.2.2.1]) (fun (p : Nat × (List Int) × (List Int) × Value) => p.1 + p.2.1.length = (x1).length ∧ List.drop p.1 x1 = p.2.1 ∧ rangeL (worth_Share_b1 x0 x1) p.2.1 p.1 p.2.2.1 = some y289) (fun (p : Nat × (List Int) × (List Int) × Value) => p.2.1.length) (0, x1, (List.replicate (x0).toNat (0 : Int)), v13) ⟨by simp, by simp, h291⟩ (fun a w st => St.cut [0, 1] ⟨rfl, rfl, rfl, rfl, rfl, trivial⟩ (by decide) rfl st) ?_
      rintro ⟨i296, r297, l150, v151⟩ ⟨h302, h303, h301⟩
      try dsimp only at h302 h303 h301
      refine GL.weak (env' := [(0, .int .i64 x0), (1, v1), (7, v151), (20, .int .i64 ((x1).length : Int)), (21, .int .i64 (i296 : Int))]) (L' := [imm (TR.sl TR.int) v1 x1, own 3 TR.int v151 l150]) (fun _ _ st => st) ?_
      refine GL.seq ?_
      refine GL.region ?_
      refine RL.binI (v := .bool (decide ((i296 : Int) < ((x1).length : Int)))) rfl rfl rfl rfl rfl ?_
      refine RL.finG ?_
      refine GL.seq ?_
      refine GL.cond rfl (fun b304 => ?_) (fun b304 => ?_)
      · have h305 : i296 < (x1).length := by have := of_decide_eq_true b304; omega
        obtain ⟨y306, r308, hr, e307, h309⟩ := drop_cons h303 rfl h305
        subst hr
        obtain ⟨z298, h299, h300⟩ := rangeL_some h301
        unfold worth_Share_b1 at h299
        try dsimp only at h299
        refine GL.skip ?_
        refine GL.seq ?_
        refine GL.block ?_
        refine GL.seq ?_
        refine GL.region ?_
        refine RL.mv rfl rfl rfl ?_
        refine RL.asg rfl rfl rfl ?_
        refine RL.finG ?_
        refine GL.seq ?_
        refine GL.region ?_
        refine RL.mv rfl rfl rfl ?_
        refine RL.mv rfl rfl rfl ?_
        refine RL.finG ?_
        obtain ⟨y379, e380, h299⟩ := bind_some h299
        replace e380 := chk_some e380
        obtain ⟨y381, K382, h383, h384, h385, h386, h387⟩ := bindF_K h299
        refine GL.join (ι := (List Int) × Value) (fun (p : (List Int) × Value) => [(0, .int .i64 x0), (1, v1), (7, p.2), (20, .int .i64 ((x1).length : Int)), (21, .int .i64 (i296 : Int))]) (fun (p : (List Int) × Value) => [imm (TR.sl TR.int) v1 x1, own 3 TR.int p.2 p.1]) (fun (p : (List Int) × Value) => K382 (.nx p.1)) ?_ ?_
        · refine GL.block ?_
          refine GL.loop (ι := Nat × Nat × (List Int) × Value) (fun (p : Nat × Nat × (List Int) × Value) => [(0, .int .i64 x0), (1, v1), (7, p.2.2.2), (8, .int .i64 (i296 : Int)), (20, .int .i64 ((x1).length : Int)), (21, .int .i64 (i296 : Int)), (24, .int .i64 x0), (25, .int .i64 (p.1 : Int))]) (fun (p : Nat × Nat × (List Int) × Value) => [imm (TR.sl TR.int) v1 x1, own 3 TR.int p.2.2.2 p.2.2.1]) (fun (p : Nat × Nat × (List Int) × Value) => p.1 + p.2.1 = (x0).toNat ∧ rangeN (worth_Share_b2 i296 x0 x1 y306) p.2.1 p.1 p.2.2.1 = some y381) (fun (p : Nat × Nat × (List Int) × Value) => p.2.1) (0, (x0).toNat, l150, v151) ⟨by simp, h383⟩ (fun a w st => St.cut [0, 1] ⟨rfl, rfl, rfl, rfl, rfl, rfl, rfl, rfl, trivial⟩ (by decide) rfl st) ?_
          rintro ⟨i388, r389, l343, v344⟩ ⟨h394, h393⟩
          try dsimp only at h394 h393
          refine GL.weak (env' := [(0, .int .i64 x0), (1, v1), (7, v344), (8, .int .i64 (i296 : Int)), (20, .int .i64 ((x1).length : Int)), (21, .int .i64 (i296 : Int)), (24, .int .i64 x0), (25, .int .i64 (i388 : Int))]) (L' := [imm (TR.sl TR.int) v1 x1, own 3 TR.int v344 l343]) (fun _ _ st => st) ?_
          refine GL.seq ?_
          refine GL.region ?_
          refine RL.binI (v := .bool (decide ((i388 : Int) < x0))) rfl rfl rfl rfl rfl ?_
          refine RL.finG ?_
          refine GL.seq ?_
          refine GL.cond rfl (fun b396 => ?_) (fun b396 => ?_)
          · have h397 : i388 < (x0).toNat := by have := of_decide_eq_true b396; omega
            obtain ⟨r398, hr⟩ : ∃ m, r389 = m + 1 := ⟨r389 - 1, by omega⟩
            subst hr
            obtain ⟨z390, h391, h392⟩ := rangeN_some h393
            unfold worth_Share_b2 at h391
            try dsimp only at h391
            refine GL.skip ?_
            refine GL.seq ?_
            refine GL.block ?_
            refine GL.seq ?_
            refine GL.region ?_
            refine RL.mv rfl rfl rfl ?_
            refine RL.asg rfl rfl rfl ?_
            refine RL.finG ?_
            refine GL.seq ?_
            refine GL.region ?_
            refine RL.mv rfl rfl rfl ?_
            refine RL.mv rfl rfl rfl ?_
            obtain ⟨y401, e402, h391⟩ := bind_some h391
            replace e402 := chk_some e402
            refine RL.sh (by simp) rfl rfl rfl rfl e402 ?_
            refine RL.binI (v := .int .i64 (bits .and .i64 (Int.fdiv (i296 : Int) (2 ^ (min (i388 : Int).toNat (IntKind.bits .i64)))) (1 : Int))) rfl rfl rfl rfl rfl ?_
            refine RL.binI (v := .bool ((bits .and .i64 (Int.fdiv (i296 : Int) (2 ^ (min (i388 : Int).toNat (IntKind.bits .i64)))) (1 : Int)) == (0 : Int))) rfl rfl rfl rfl rfl ?_
            refine RL.finG ?_
            refine GL.cond rfl (fun b403 => ?_) (fun b403 => ?_)
            · replace h391 := ite_t b403 h391
              refine GL.seq ?_
              refine GL.region ?_
              refine RL.mv rfl rfl rfl ?_
              obtain ⟨y406, e407, h391⟩ := bind_some h391
              refine RL.callC (v := .int .i64 y406) (vs := [.int .i64 (i296 : Int)]) Try_fit35 rfl rfl rfl rfl (fun U w hU hW hL => worth_size_c U w hU (i296 : Int) _ e407) ?_
              refine RL.asg rfl rfl rfl ?_
              refine RL.finG ?_
              refine GL.regionH 27 rfl rfl (by kernel_rfl) ?_
              simp only [List.take_succ_cons, List.take_zero, List.drop_succ_cons, List.drop_zero]
              refine RL.mv rfl rfl rfl ?_
              refine RL.mv rfl rfl rfl ?_
              obtain ⟨y420, e421, h391⟩ := bind_some h391
              refine RL.idxS (sz := 1) 1 Try.underlying22 Try_ln3 rfl rfl rfl rfl rfl SlOf.own (idx_some e421).1 (idx_some e421).2.1 ?_
              refine RL.ldSx (i := i388) (e' := y420) 1 Ex.ik Try_ln3 rfl rfl rfl rfl SlOf.own (idx_some e421).2.2 Part.self ?_
              refine RL.mv rfl rfl rfl ?_
              obtain ⟨y422, e423, h391⟩ := bind_some h391
              refine RL.callC (v := .int .i64 y422) (vs := [.int .i64 y406]) Try_fit36 rfl rfl rfl rfl (fun U w hU hW hL => worth_factorial_c U w hU y406 _ e423) ?_
              refine RL.mv rfl rfl rfl ?_
              refine RL.binI (v := .int .i64 (wsub x0 (1 : Int))) rfl rfl rfl rfl rfl ?_
              refine RL.mv rfl rfl rfl ?_
              refine RL.binI (v := .int .i64 (wsub (wsub x0 (1 : Int)) y406)) rfl rfl rfl rfl rfl ?_
              obtain ⟨y424, e425, h391⟩ := bind_some h391
              refine RL.callC (v := .int .i64 y424) (vs := [.int .i64 (wsub (wsub x0 (1 : Int)) y406)]) Try_fit36 rfl rfl rfl rfl (fun U w hU hW hL => worth_factorial_c U w hU (wsub (wsub x0 (1 : Int)) y406) _ e425) ?_
              refine RL.binI (v := .int .i64 (wmul y422 y424)) rfl rfl rfl rfl rfl ?_
              refine RL.mv rfl rfl rfl ?_
              refine RL.mv rfl rfl rfl ?_
              refine RL.mv rfl rfl rfl ?_
              obtain ⟨y426, e427, h391⟩ := bind_some h391
              replace e427 := chk_some e427
              refine RL.sh (by simp) rfl rfl rfl rfl e427 ?_
              refine RL.binI (v := .int .i64 (bits .or .i64 (i296 : Int) (IntKind.wrap .i64 ((1 : Int) * 2 ^ (min (i388 : Int).toNat (IntKind.bits .i64)))))) rfl rfl rfl rfl rfl ?_
              obtain ⟨y428, e429, h391⟩ := bind_some h391
              refine RL.idxS (sz := 1) 0 Try.underlying22 Try_ln3 rfl rfl rfl rfl rfl SlOf.imm (idx_some e429).1 (idx_some e429).2.1 ?_
              refine RL.ldSx (i := (bits .or .i64 (i296 : Int) (IntKind.wrap .i64 ((1 : Int) * 2 ^ (min (i388 : Int).toNat (IntKind.bits .i64))))).toNat) (e' := y428) 0 Ex.ik Try_ln3 rfl rfl rfl rfl SlOf.imm (idx_some e429).2.2 Part.self ?_
              refine RL.mv rfl rfl rfl ?_
              refine RL.mv rfl rfl rfl ?_
              refine RL.idxS (sz := 1) 0 Try.underlying22 Try_ln3 rfl rfl rfl rfl rfl SlOf.imm (by omega) (by omega) ?_
              refine RL.ldSx (i := i296) (e' := y306) 0 Ex.ik Try_ln3 rfl rfl rfl rfl SlOf.imm e307 Part.self ?_
              refine RL.binI (v := .int .i64 (wsub y428 y306)) rfl rfl rfl rfl rfl ?_
              refine RL.binI (v := .int .i64 (wmul (wmul y422 y424) (wsub y428 y306))) rfl rfl rfl rfl rfl ?_
              refine RL.binI (v := .int .i64 (wadd y420 (wmul (wmul y422 y424) (wsub y428 y306)))) rfl rfl rfl rfl rfl ?_
              obtain ⟨y430, e431, h391⟩ := bind_some h391
              refine RL.idxS (sz := 1) 1 Try.underlying22 Try_ln3 rfl rfl rfl rfl rfl SlOf.own (idx_some e431).1 (idx_some e431).2.1 ?_
              refine RL.finH ?_
              refine RL.stS (i := i388) (e' := wadd y420 (wmul (wmul y422 y424) (wsub y428 y306))) (e1 := wadd y420 (wmul (wmul y422 y424) (wsub y428 y306))) (r := TR.int) 1 Try_ln3 rfl rfl rfl rfl VR.int rfl (idx_some e431).2.2 Upd.self ?_
              refine RL.finG ?_
              refine GL.weak (env' := [(0, .int .i64 x0), (1, v1), (7, v344), (8, .int .i64 (i296 : Int)), (20, .int .i64 ((x1).length : Int)), (21, .int .i64 (i296 : Int)), (24, .int .i64 x0), (25, .int .i64 (i388 : Int))]) (L' := [imm (TR.sl TR.int) v1 x1, own 3 TR.int v344 (List.set l343 i388 (wadd y420 (wmul (wmul y422 y424) (wsub y428 y306))))]) (fun a w st => St.cut [0, 1] ⟨rfl, rfl, rfl, rfl, rfl, rfl, rfl, rfl, trivial⟩ (by decide) rfl st) ?_
              refine GL.nilB ?_
              refine GL.region ?_
              refine RL.binI (v := .int .i64 ((i388 + 1 : Nat) : Int)) rfl rfl rfl rfl (binI_succ i388 (by omega)) ?_
              refine RL.mv rfl rfl rfl ?_
              refine RL.fin ?_
              cases h391
              exact fun a w st => lop_intro (i388 + 1, r398, (List.set l343 i388 (wadd y420 (wmul (wmul y422 y424) (wsub y428 y306)))), v344) ⟨by show i388 + 1 + r398 = (x0).toNat; omega, h392⟩ (by simp) (St.cut [0, 1] ⟨rfl, rfl, rfl, rfl, rfl, rfl, rfl, rfl, trivial⟩ (by decide) rfl st)
            · replace h391 := ite_f b403 h391
              refine GL.skip ?_
              refine GL.nilB ?_
              refine GL.region ?_
              refine RL.binI (v := .int .i64 ((i388 + 1 : Nat) : Int)) rfl rfl rfl rfl (binI_succ i388 (by omega)) ?_
              refine RL.mv rfl rfl rfl ?_
              refine RL.fin ?_
              cases h391
              exact fun a w st => lop_intro (i388 + 1, r398, l343, v344) ⟨by show i388 + 1 + r398 = (x0).toNat; omega, h392⟩ (by simp) (St.cut [0, 1] ⟨rfl, rfl, rfl, rfl, rfl, rfl, rfl, rfl, trivial⟩ (by decide) rfl st)
          · have h397 : ¬ i388 < (x0).toNat := by have := of_decide_eq_false b396; omega
            obtain rfl : r389 = 0 := by omega
            replace h393 : some (Fl.nx _) = some y381 := h393
            cases h393
            exact GL.exit (fun a w st => mid_intro (l343, v344) h384 (St.cut [0, 1] ⟨rfl, rfl, rfl, rfl, rfl, trivial⟩ (by decide) rfl st))
        · rintro ⟨l343, v344⟩ h432
          have h433 := h385 _ h432
          try dsimp only at h433
          refine GL.weak (env' := [(0, .int .i64 x0), (1, v1), (7, v344), (20, .int .i64 ((x1).length : Int)), (21, .int .i64 (i296 : Int))]) (L' := [imm (TR.sl TR.int) v1 x1, own 3 TR.int v344 l343]) (fun _ _ st => st) ?_
          refine GL.nilB ?_
          refine GL.region ?_
          refine RL.binI (v := .int .i64 ((i296 + 1 : Nat) : Int)) rfl rfl rfl rfl (binI_succ i296 (by omega)) ?_
          refine RL.mv rfl rfl rfl ?_
          refine RL.fin ?_
          cases h433
          exact fun a w st => lop_intro (i296 + 1, r308, l343, v344) ⟨by show i296 + 1 + r308.length = (x1).length; simp only [List.length_cons] at h302; omega, h309, h300⟩ (by simp) (St.cut [0, 1] ⟨rfl, rfl, rfl, rfl, rfl, trivial⟩ (by decide) rfl st)
      · have h305 : ¬ i296 < (x1).length := by have := of_decide_eq_false b304; omega
        obtain rfl : r297 = [] := by rw [← h303]; exact List.drop_of_length_le (by omega)
        replace h301 : some (Fl.nx _) = some y289 := h301
        cases h301
        exact GL.exit (fun a w st => mid_intro (l150, v151) h292 (St.cut [1] ⟨rfl, trivial⟩ (by decide) rfl st))
    · rintro ⟨l150, v151⟩ h434
      have h435 := h293 _ h434
      try dsimp only at h435
      refine GL.weak (env' := [(7, v151)]) (L' := [own 3 TR.int v151 l150]) (fun _ _ st => st) ?_
      refine GL.seq ?_
      refine GL.region ?_
      refine RL.mv rfl rfl rfl ?_
      refine RL.asg rfl rfl rfl ?_
      refine RL.asg rfl rfl rfl ?_
      refine RL.finG ?_
      have h435 := Option.some.inj h435
      subst h435
      exact GL.ret (Gx.ret (v := .tuple #[v151, .int .i64 (0 : Int)]) (res2 rfl rfl rfl) (fun a w st => (st.pick [0] (by decide) rfl).toPost v151))

set_option maxHeartbeats 4000000 in
theorem pk_worths_c (S : Hp) (w : World) (hS : S.sub w)  (res : Bool) (hm : pk_worths_m = some res) : Calls Try.prog 14 #[] w (PostV w (.bool res)) := by
  refine calls_enter 15 Try.func14 Try.ntmps14 rfl S false [] [] rfl trivial hS trivial ?_
  unfold pk_worths_m at hm
  refine GL.seq ?_
  refine GL.region ?_
  refine RL.asg rfl rfl rfl ?_
  refine RL.finG ?_
  refine GL.seq ?_
  refine GL.region ?_
  refine RL.bS (t := TR.int) (vs := [.int .i64 (0 : Int), .int .i64 (0 : Int), .int .i64 (2 : Int), .int .i64 (6 : Int)]) ([(0 : Int), (0 : Int), (2 : Int), (6 : Int)] : (List Int)) Try.underlying22 Try_lo3 rfl rfl rfl rfl ⟨VR.int, ⟨VR.int, ⟨VR.int, ⟨VR.int, trivial⟩⟩⟩⟩ rfl (by decide) ?_
  intro v5
  refine RL.weak (fun a w st => st.freeze 0 rfl) ?_
  obtain ⟨y6, e7, hm⟩ := bind_some hm
  refine RL.call (vs := [.int .i64 (2 : Int), v5]) Try_fit17 rfl rfl rfl rfl rfl (fun S f w hS hW hi => worth_Share_c S w hS (2 : Int) _ _ (hi 0 _ rfl) _ e7) ?_
  intro v8
  refine RL.reL (L' := [imm (TR.sl TR.int) v5 ([(0 : Int), (0 : Int), (2 : Int), (6 : Int)] : (List Int)), own 3 TR.int v8 y6.1]) rfl ?_
  refine RL.mv rfl rfl rfl ?_
  refine RL.ext rfl rfl rfl rfl ?_
  refine RL.ext rfl rfl rfl rfl ?_
  refine RL.asg rfl rfl rfl ?_
  refine RL.asg rfl rfl rfl ?_
  refine RL.finG ?_
  refine GL.seq ?_
  obtain ⟨y18, K19, h20, h21, h22, h23, h24⟩ := bindR_K hm
  refine GL.join (ι := Bool) (fun (p : Bool) => [(0, .bool p)]) (fun (p : Bool) => []) (fun (p : Bool) => K19 (.nx p)) ?_ ?_
  · skip
    refine GL.region ?_
    refine RL.mv rfl rfl rfl ?_
    refine RL.binI (v := .bool (y6.2 == (0 : Int))) rfl rfl rfl rfl rfl ?_
    refine RL.mv rfl rfl rfl ?_
    refine RL.split (t := 10) rfl (fun b25 => ?_) (fun b25 => ?_)
    · replace h20 := ite_t b25 h20
      refine RL.mv rfl rfl rfl ?_
      refine RL.bS (t := TR.int) (vs := [.int .i64 (4 : Int), .int .i64 (8 : Int)]) ([(4 : Int), (8 : Int)] : (List Int)) Try.underlying22 Try_lo3 rfl rfl rfl rfl ⟨VR.int, ⟨VR.int, trivial⟩⟩ rfl (by decide) ?_
      intro v26
      obtain ⟨y27, e28, h20⟩ := bind_some h20
      refine RL.callV (v := .bool y27) (vs := [v8, v26]) Try_fit20 rfl (Or.inl rfl) rfl rfl rfl rfl (fun U w hU hW hL => slices_Equal_int_int_c U w hU _ _ (hL 1 _ _ rfl Seen.own) _ _ (hL 2 _ _ rfl Seen.own) _ e28) ?_
      refine RL.pickT rfl rfl rfl rfl ?_
      refine RL.asg rfl rfl rfl ?_
      refine RL.fin ?_
      cases h20
      exact fun a w st => mid_intro y27 h21 (St.cut [] ⟨rfl, trivial⟩ (by decide) rfl st)
    · replace h20 := ite_f b25 h20
      refine RL.skip rfl rfl ?_
      refine RL.skip rfl rfl ?_
      refine RL.skip rfl rfl ?_
      refine RL.pickF rfl rfl rfl rfl ?_
      refine RL.asg rfl rfl rfl ?_
      refine RL.fin ?_
      cases h20
      exact fun a w st => mid_intro false h21 (St.cut [] ⟨rfl, trivial⟩ (by decide) rfl st)
  · rintro x17 h29
    have h30 := h22 _ h29
    try dsimp only at h30
    refine GL.weak (env' := [(0, .bool x17)]) (L' := []) (fun _ _ st => st) ?_
    have h30 := Option.some.inj h30
    subst h30
    exact GL.ret (Gx.ret (v := .bool x17) (res1 rfl rfl) (fun a w st => st.toPostV))

set_option maxHeartbeats 4000000 in
theorem ref_Rest_c (S : Hp) (w : World) (hS : S.sub w) (x0 : Int) (x1 : Int) (res : Int) (hm : ref_Rest_m x0 x1 = some res) : Calls Try.prog 33 #[.int .i64 x0, .int .i64 x1] w (PostC w (.int .i64 res)) := by
  refine calls_enter 14 Try.func33 Try.ntmps33 rfl S true [(0, .int .i64 x0), (1, .int .i64 x1)] [] rfl ⟨rfl, ⟨rfl, trivial⟩⟩ hS trivial ?_
  unfold ref_Rest_m at hm
  refine GL.seq ?_
  refine GL.region ?_
  refine RL.asg rfl rfl rfl ?_
  refine RL.finG ?_
  refine GL.seq ?_
  refine GL.region ?_
  refine RL.mv rfl rfl rfl ?_
  refine RL.mv rfl rfl rfl ?_
  obtain ⟨y5, e6, hm⟩ := bind_some hm
  replace e6 := chk_some e6
  refine RL.rem rfl rfl rfl rfl e6 ?_
  refine RL.asg rfl rfl rfl ?_
  refine RL.finG ?_
  refine GL.seq ?_
  refine GL.seq ?_
  refine GL.region ?_
  refine RL.mv rfl rfl rfl ?_
  refine RL.binI (v := .bool (decide ((Int.tmod x0 x1) < (0 : Int)))) rfl rfl rfl rfl rfl ?_
  refine RL.finG ?_
  obtain ⟨y9, K10, h11, h12, h13, h14, h15⟩ := bindR_K hm
  refine GL.join (ι := Int) (fun (p : Int) => [(0, .int .i64 p)]) (fun (p : Int) => []) (fun (p : Int) => K10 (.nx p)) ?_ ?_
  · skip
    refine GL.cond rfl (fun b16 => ?_) (fun b16 => ?_)
    · replace h11 := ite_t b16 h11
      refine GL.region ?_
      refine RL.mv rfl rfl rfl ?_
      refine RL.mv rfl rfl rfl ?_
      refine RL.binI (v := .int .i64 (wadd (Int.tmod x0 x1) x1)) rfl rfl rfl rfl rfl ?_
      refine RL.asg rfl rfl rfl ?_
      refine RL.finG ?_
      cases h11
      exact fun a w st => mid_intro (wadd (Int.tmod x0 x1) x1) h12 (St.cut [] ⟨rfl, trivial⟩ (by decide) rfl st)
    · replace h11 := ite_f b16 h11
      refine GL.skip ?_
      cases h11
      exact fun a w st => mid_intro (Int.tmod x0 x1) h12 (St.cut [] ⟨rfl, trivial⟩ (by decide) rfl st)
  · rintro x8 h17
    have h18 := h13 _ h17
    try dsimp only at h18
    refine GL.weak (env' := [(0, .int .i64 x8)]) (L' := []) (fun _ _ st => st) ?_
    refine GL.seq ?_
    refine GL.region ?_
    refine RL.mv rfl rfl rfl ?_
    refine RL.asg rfl rfl rfl ?_
    refine RL.finG ?_
    have h18 := Option.some.inj h18
    subst h18
    exact GL.ret (Gx.ret (v := .int .i64 x8) (res1 rfl rfl) (fun a w st => st.toPostC rfl))

set_option maxHeartbeats 4000000 in
theorem pk_Within_c (S : Hp) (w : World) (hS : S.sub w) (x0 : Int) (x1 : Int) (res : Int) (hm : pk_Within_m x0 x1 = some res) : Calls Try.prog 15 #[.int .i64 x0, .int .i64 x1] w (PostC w (.int .i64 res)) := by
  refine calls_enter 8 Try.func15 Try.ntmps15 rfl S true [(0, .int .i64 x0), (1, .int .i64 x1)] [] rfl ⟨rfl, ⟨rfl, trivial⟩⟩ hS trivial ?_
  unfold pk_Within_m at hm
  refine GL.seq ?_
  refine GL.region ?_
  refine RL.asg rfl rfl rfl ?_
  refine RL.finG ?_
  refine GL.seq ?_
  refine GL.region ?_
  refine RL.mv rfl rfl rfl ?_
  refine RL.mv rfl rfl rfl ?_
  obtain ⟨y5, e6, hm⟩ := bind_some hm
  refine RL.callC (v := .int .i64 y5) (vs := [.int .i64 x0, .int .i64 x1]) Try_fit33 rfl rfl rfl rfl (fun U w hU hW hL => ref_Rest_c U w hU x0 x1 _ e6) ?_
  refine RL.asg rfl rfl rfl ?_
  refine RL.finG ?_
  have hm := Option.some.inj hm
  subst hm
  exact GL.ret (Gx.ret (v := .int .i64 y5) (res1 rfl rfl) (fun a w st => st.toPostC rfl))

set_option maxHeartbeats 4000000 in
theorem pk_GameOf_c (S : Hp) (w : World) (hS : S.sub w) (x0 : Int) (v1 : Value) (x1 : (List Int)) (k1 : ((TR.sl TR.int)).vrep S v1 x1) (res : (List Int)) (hm : pk_GameOf_m x0 x1 = some res) : Calls Try.prog 16 #[.int .i64 x0, v1] w (Post w S (fun (o : Value) => o) (fun (o : Value) => [own 3 TR.int o res])) := by
  refine calls_enter 32 Try.func16 Try.ntmps16 rfl S false [(0, .int .i64 x0), (1, v1)] [imm (TR.sl TR.int) v1 x1] rfl ⟨rfl, ⟨rfl, trivial⟩⟩ hS ⟨k1, trivial⟩ ?_
  unfold pk_GameOf_m at hm
  refine GL.seq ?_
  refine GL.region ?_
  refine RL.asg rfl rfl rfl ?_
  refine RL.finG ?_
  refine GL.seq ?_
  refine GL.region ?_
  refine RL.mv rfl rfl rfl ?_
  obtain ⟨y8, e9, hm⟩ := bind_some hm
  replace e9 := chk_some e9
  refine RL.sh (by simp) rfl rfl rfl rfl e9 ?_
  obtain ⟨y10, e11, hm⟩ := bind_some hm
  replace e11 := chk_some e11
  refine RL.mkS (t := TR.int) (z := (0 : Int)) Try.underlying22 Try_lo3 (fun S => rfl) rfl rfl rfl rfl e11.1 e11.2 ?_
  intro v12
  refine RL.asg rfl rfl rfl ?_
  refine RL.finG ?_
  refine GL.seq ?_
  refine GL.seq ?_
  refine GL.region ?_
  refine RL.asg rfl rfl rfl ?_
  refine RL.finG ?_
  obtain ⟨y45, K46, h47, h48, h49, h50, h51⟩ := bindR_K hm
  refine GL.join (ι := (List Int) × Int × Value) (fun (p : (List Int) × Int × Value) => [(5, p.2.2)]) (fun (p : (List Int) × Int × Value) => [own 3 TR.int p.2.2 p.1]) (fun (p : (List Int) × Int × Value) => K46 (.nx (p.1, p.2.1))) ?_ ?_
  · refine GL.block ?_
    refine GL.loop (ι := Nat × (List Int) × Int × Value) (fun (p : Nat × (List Int) × Int × Value) => [(1, v1), (5, p.2.2.2), (6, .int .i64 p.2.2.1)]) (fun (p : Nat × (List Int) × Int × Value) => [imm (TR.sl TR.int) v1 x1, own 3 TR.int p.2.2.2 p.2.1]) (fun (p : Nat × (List Int) × Int × Value) => loopM (pk_GameOf_b1 x1) p.1 (p.2.1, p.2.2.1) = some y45) (fun (p : Nat × (List Int) × Int × Value) => p.1) (1048576, (List.replicate (IntKind.wrap .i64 ((1 : Int) * 2 ^ (min x0.toNat (IntKind.bits .i64)))).toNat (0 : Int)), (1 : Int), v12) h47 (fun a w st => St.cut [0, 1] ⟨rfl, rfl, rfl, trivial⟩ (by decide) rfl st) ?_
    rintro ⟨r53, l28, x30, v29⟩ h57
    try dsimp only at h57
    refine GL.weak (env' := [(1, v1), (5, v29), (6, .int .i64 x30)]) (L' := [imm (TR.sl TR.int) v1 x1, own 3 TR.int v29 l28]) (fun _ _ st => st) ?_
    obtain ⟨r60, z54, hr, h55, h56⟩ := loopM_some h57
    subst hr
    unfold pk_GameOf_b1 at h55
    try dsimp only at h55
    refine GL.seq ?_
    refine GL.seq ?_
    refine GL.region ?_
    refine RL.mv rfl rfl rfl ?_
    refine RL.mv rfl rfl rfl ?_
    refine RL.lenS 1 Try.underlying22 rfl rfl rfl rfl SlOf.own ?_
    refine RL.binI (v := .bool (decide (x30 < ((l28).length : Int)))) rfl rfl rfl rfl rfl ?_
    refine RL.finG ?_
    refine GL.cond rfl (fun b61 => ?_) (fun b61 => ?_)
    · replace h55 := ite_t b61 h55
      refine GL.skip ?_
      refine GL.seq ?_
      refine GL.block ?_
      refine GL.seq ?_
      refine GL.region ?_
      refine RL.mv rfl rfl rfl ?_
      refine RL.binI (v := .int .i64 (wsub x30 (1 : Int))) rfl rfl rfl rfl rfl ?_
      refine RL.mv rfl rfl rfl ?_
      refine RL.lenS 0 Try.underlying22 rfl rfl rfl rfl SlOf.imm ?_
      refine RL.binI (v := .bool (decide ((wsub x30 (1 : Int)) < ((x1).length : Int)))) rfl rfl rfl rfl rfl ?_
      refine RL.finG ?_
      refine GL.cond rfl (fun b62 => ?_) (fun b62 => ?_)
      · replace h55 := ite_t b62 h55
        refine GL.region ?_
        refine RL.mv rfl rfl rfl ?_
        refine RL.mv rfl rfl rfl ?_
        refine RL.mv rfl rfl rfl ?_
        refine RL.mv rfl rfl rfl ?_
        refine RL.binI (v := .int .i64 (wsub x30 (1 : Int))) rfl rfl rfl rfl rfl ?_
        obtain ⟨y69, e70, h55⟩ := bind_some h55
        refine RL.idxS (sz := 1) 0 Try.underlying22 Try_ln3 rfl rfl rfl rfl rfl SlOf.imm (idx_some e70).1 (idx_some e70).2.1 ?_
        refine RL.ldSx (i := (wsub x30 (1 : Int)).toNat) (e' := y69) 0 Ex.ik Try_ln3 rfl rfl rfl rfl SlOf.imm (idx_some e70).2.2 Part.self ?_
        obtain ⟨y71, e72, h55⟩ := bind_some h55
        refine RL.callC (v := .int .i64 y71) (vs := [.int .i64 y69, .int .i64 (41 : Int)]) Try_fit15 rfl rfl rfl rfl (fun U w hU hW hL => pk_Within_c U w hU y69 (41 : Int) _ e72) ?_
        refine RL.binI (v := .int .i64 (wsub y71 (10 : Int))) rfl rfl rfl rfl rfl ?_
        obtain ⟨y73, e74, h55⟩ := bind_some h55
        refine RL.idxS (sz := 1) 1 Try.underlying22 Try_ln3 rfl rfl rfl rfl rfl SlOf.own (idx_some e74).1 (idx_some e74).2.1 ?_
        refine RL.stS (i := (x30).toNat) (e' := wsub y71 (10 : Int)) (e1 := wsub y71 (10 : Int)) (r := TR.int) 1 Try_ln3 rfl rfl rfl rfl VR.int rfl (idx_some e74).2.2 Upd.self ?_
        refine RL.finG ?_
        refine GL.nilB ?_
        refine GL.region ?_
        refine RL.mv rfl rfl rfl ?_
        refine RL.binI (v := .int .i64 (wadd x30 (1 : Int))) rfl rfl rfl rfl rfl ?_
        refine RL.asg rfl rfl rfl ?_
        refine RL.finG ?_
        cases h55
        exact fun a w st => lop_intro (r60, (List.set l28 ((x30).toNat) (wsub y71 (10 : Int))), wadd x30 (1 : Int), v29) h56 (by simp) (St.cut [0, 1] ⟨rfl, rfl, rfl, trivial⟩ (by decide) rfl st)
      · replace h55 := ite_f b62 h55
        refine GL.skip ?_
        refine GL.nilB ?_
        refine GL.region ?_
        refine RL.mv rfl rfl rfl ?_
        refine RL.binI (v := .int .i64 (wadd x30 (1 : Int))) rfl rfl rfl rfl rfl ?_
        refine RL.asg rfl rfl rfl ?_
        refine RL.finG ?_
        cases h55
        exact fun a w st => lop_intro (r60, l28, wadd x30 (1 : Int), v29) h56 (by simp) (St.cut [0, 1] ⟨rfl, rfl, rfl, trivial⟩ (by decide) rfl st)
    · replace h55 := ite_f b61 h55
      cases h55
      replace h56 : some (Fl.nx _) = some y45 := h56
      cases h56
      exact GL.exit (fun a w st => mid_intro (l28, x30, v29) h48 (St.cut [1] ⟨rfl, trivial⟩ (by decide) rfl st))
  · rintro ⟨l28, x30, v29⟩ h75
    have h76 := h49 _ h75
    try dsimp only at h76
    refine GL.weak (env' := [(5, v29)]) (L' := [own 3 TR.int v29 l28]) (fun _ _ st => st) ?_
    refine GL.seq ?_
    refine GL.region ?_
    refine RL.mv rfl rfl rfl ?_
    refine RL.asg rfl rfl rfl ?_
    refine RL.finG ?_
    have h76 := Option.some.inj h76
    subst h76
    exact GL.ret (Gx.ret (v := v29) (res1 rfl rfl) (fun a w st => (st.pick [0] (by decide) rfl).toPost v29))

set_option maxHeartbeats 4000000 in
theorem slices_Index_int_int_c (S : Hp) (w : World) (hS : S.sub w) (v0 : Value) (x0 : (List Int)) (k0 : ((TR.sl TR.int)).vrep S v0 x0) (x1 : Int) (res : Int) (hm : slices_Index_int_int_m x0 x1 = some res) : Calls Try.prog 46 #[v0, .int .i64 x1] w (PostC w (.int .i64 res)) := by
  refine calls_enter 19 Try.func46 Try.ntmps46 rfl S true [(0, v0), (1, .int .i64 x1)] [imm (TR.sl TR.int) v0 x0] rfl ⟨rfl, ⟨rfl, trivial⟩⟩ hS ⟨k0, trivial⟩ ?_
  unfold slices_Index_int_int_m at hm
  refine GL.seq ?_
  refine GL.region ?_
  refine RL.asg rfl rfl rfl ?_
  refine RL.finG ?_
  refine GL.seq ?_
  refine GL.seq ?_
  refine GL.region ?_
  refine RL.mv rfl rfl rfl ?_
  refine RL.lenS 0 Try.underlying22 rfl rfl rfl rfl SlOf.imm ?_
  refine RL.mv rfl rfl rfl ?_
  refine RL.finG ?_
  refine GL.open_ 0 rfl (fun S h => len_imm S h) (fun n8 => ?_)
  obtain ⟨y9, K10, h11, h12, h13, h14, h15⟩ := bindR_K hm
  refine GL.join (ι := Unit) (fun (p : Unit) => []) (fun (p : Unit) => []) (fun (p : Unit) => K10 (.nx ())) ?_ ?_
  · refine GL.block ?_
    refine GL.loop (ι := Nat × (List Int)) (fun (p : Nat × (List Int)) => [(0, v0), (1, .int .i64 x1), (7, .int .i64 ((x0).length : Int)), (8, .int .i64 (p.1 : Int))]) (fun (p : Nat × (List Int)) => [imm (TR.sl TR.int) v0 x0]) (fun (p : Nat × (List Int)) => p.1 + p.2.length = (x0).length ∧ List.drop p.1 x0 = p.2 ∧ rangeL (slices_Index_int_int_b1 x1) p.2 p.1 () = some y9) (fun (p : Nat × (List Int)) => p.2.length) (0, x0) ⟨by simp, by simp, h11⟩ (fun a w st => St.cut [0] ⟨rfl, rfl, rfl, rfl, trivial⟩ (by decide) rfl st) ?_
    rintro ⟨i16, r17⟩ ⟨h22, h23, h21⟩
    try dsimp only at h22 h23 h21
    refine GL.weak (env' := [(0, v0), (1, .int .i64 x1), (7, .int .i64 ((x0).length : Int)), (8, .int .i64 (i16 : Int))]) (L' := [imm (TR.sl TR.int) v0 x0]) (fun _ _ st => st) ?_
    refine GL.seq ?_
    refine GL.region ?_
    refine RL.binI (v := .bool (decide ((i16 : Int) < ((x0).length : Int)))) rfl rfl rfl rfl rfl ?_
    refine RL.finG ?_
    refine GL.seq ?_
    refine GL.cond rfl (fun b24 => ?_) (fun b24 => ?_)
    · have h25 : i16 < (x0).length := by have := of_decide_eq_true b24; omega
      obtain ⟨y26, r28, hr, e27, h29⟩ := drop_cons h23 rfl h25
      subst hr
      obtain ⟨z18, h19, h20⟩ := rangeL_some h21
      unfold slices_Index_int_int_b1 at h19
      try dsimp only at h19
      refine GL.skip ?_
      refine GL.seq ?_
      refine GL.block ?_
      refine GL.seq ?_
      refine GL.region ?_
      refine RL.mv rfl rfl rfl ?_
      refine RL.asg rfl rfl rfl ?_
      refine RL.finG ?_
      refine GL.seq ?_
      refine GL.region ?_
      refine RL.mv rfl rfl rfl ?_
      refine RL.mv rfl rfl rfl ?_
      refine RL.mv rfl rfl rfl ?_
      refine RL.idxS (sz := 1) 0 Try.underlying22 Try_ln3 rfl rfl rfl rfl rfl SlOf.imm (by omega) (by omega) ?_
      refine RL.ldSx (i := i16) (e' := y26) 0 Ex.ik Try_ln3 rfl rfl rfl rfl SlOf.imm e27 Part.self ?_
      refine RL.binI (v := .bool (x1 == y26)) rfl rfl rfl rfl rfl ?_
      refine RL.finG ?_
      refine GL.cond rfl (fun b30 => ?_) (fun b30 => ?_)
      · replace h19 := ite_t b30 h19
        refine GL.seq ?_
        refine GL.region ?_
        refine RL.mv rfl rfl rfl ?_
        refine RL.asg rfl rfl rfl ?_
        refine RL.finG ?_
        cases h19
        replace h20 : some (Fl.rt _) = some y9 := h20
        cases h20
        have hh := h14 _ h12
        subst hh
        exact GL.ret (Gx.ret (v := .int .i64 (i16 : Int)) (res1 rfl rfl) (fun a w st => st.toPostC rfl))
      · replace h19 := ite_f b30 h19
        refine GL.skip ?_
        refine GL.nilB ?_
        refine GL.region ?_
        refine RL.binI (v := .int .i64 ((i16 + 1 : Nat) : Int)) rfl rfl rfl rfl (binI_succ i16 (by omega)) ?_
        refine RL.mv rfl rfl rfl ?_
        refine RL.fin ?_
        cases h19
        exact fun a w st => lop_intro (i16 + 1, r28) ⟨by show i16 + 1 + r28.length = (x0).length; simp only [List.length_cons] at h22; omega, h29, h20⟩ (by simp) (St.cut [0] ⟨rfl, rfl, rfl, rfl, trivial⟩ (by decide) rfl st)
    · have h25 : ¬ i16 < (x0).length := by have := of_decide_eq_false b24; omega
      obtain rfl : r17 = [] := by rw [← h23]; exact List.drop_of_length_le (by omega)
      replace h21 : some (Fl.nx _) = some y9 := h21
      cases h21
      exact GL.exit (fun a w st => mid_intro () h12 (St.cut [] trivial (by decide) rfl st))
  · rintro ⟨⟩ h31
    have h32 := h13 _ h31
    try dsimp only at h32
    refine GL.weak (env' := []) (L' := []) (fun _ _ st => st) ?_
    refine GL.seq ?_
    refine GL.region ?_
    refine RL.asg rfl rfl rfl ?_
    refine RL.finG ?_
    have h32 := Option.some.inj h32
    subst h32
    exact GL.ret (Gx.ret (v := .int .i64 (-1 : Int)) (res1 rfl rfl) (fun a w st => st.toPostC rfl))

set_option maxHeartbeats 4000000 in
theorem slices_Contains_int_int_c (S : Hp) (w : World) (hS : S.sub w) (v0 : Value) (x0 : (List Int)) (k0 : ((TR.sl TR.int)).vrep S v0 x0) (x1 : Int) (res : Bool) (hm : slices_Contains_int_int_m x0 x1 = some res) : Calls Try.prog 44 #[v0, .int .i64 x1] w (PostC w (.bool res)) := by
  refine calls_enter 9 Try.func44 Try.ntmps44 rfl S true [(0, v0), (1, .int .i64 x1)] [imm (TR.sl TR.int) v0 x0] rfl ⟨rfl, ⟨rfl, trivial⟩⟩ hS ⟨k0, trivial⟩ ?_
  unfold slices_Contains_int_int_m at hm
  refine GL.seq ?_
  refine GL.region ?_
  refine RL.asg rfl rfl rfl ?_
  refine RL.finG ?_
  refine GL.seq ?_
  refine GL.region ?_
  refine RL.mv rfl rfl rfl ?_
  refine RL.mv rfl rfl rfl ?_
  obtain ⟨y5, e6, hm⟩ := bind_some hm
  refine RL.callC (v := .int .i64 y5) (vs := [v0, .int .i64 x1]) Try_fit46 rfl rfl rfl rfl (fun U w hU hW hL => slices_Index_int_int_c U w hU _ _ (hL 0 _ _ rfl Seen.imm) x1 _ e6) ?_
  refine RL.binI (v := .bool (decide (y5 ≥ (0 : Int)))) rfl rfl rfl rfl rfl ?_
  refine RL.asg rfl rfl rfl ?_
  refine RL.finG ?_
  have hm := Option.some.inj hm
  subst hm
  exact GL.ret (Gx.ret (v := .bool (decide (y5 ≥ (0 : Int)))) (res1 rfl rfl) (fun a w st => st.toPostC rfl))

set_option maxHeartbeats 4000000 in
theorem slices_Clone_int_int_c (S : Hp) (w : World) (hS : S.sub w) (v0 : Value) (x0 : List Int) (k0 : (TR.sl TR.int).vrep S v0 x0) (res : List Int) (hm : slices_Clone_int_int_m x0 = some res) : Calls Try.prog 29 #[v0] w (Post w S (fun (o : Value) => o) (fun (o : Value) => [own 3 TR.int o res])) := by
  refine calls_enter 8 Try.func29 Try.ntmps29 rfl S false [(0, v0)] [imm (TR.sl TR.int) v0 x0] rfl ⟨rfl, trivial⟩ hS ⟨k0, trivial⟩ ?_
  unfold slices_Clone_int_int_m at hm
  obtain ⟨_, hc, hm⟩ := bind_some hm
  replace hc := chk_some hc
  have hm := Option.some.inj hm
  subst hm
  refine GL.seq (GL.region (RL.asg rfl rfl rfl (RL.finG (GL.seq (GL.seq (GL.region ?_))))))
  refine RL.mv rfl rfl rfl ?_
  refine RL.eqNil 0 Try.underlying22 rfl rfl rfl rfl rfl SlOf.imm (fun b hb => ?_)
  refine RL.finG (GL.cond rfl (fun h => ?_) (fun h => ?_))
  · have := hb h
    subst this
    refine GL.seq (GL.region (RL.asg rfl rfl rfl (RL.finG ?_)))
    refine GL.weak (fun a w st => st.nilOwn 3 TR.int) ?_
    exact GL.ret (Gx.ret (v := Value.slice none 0 0) (res1 rfl rfl) (fun a w st => (st.pick [1] (by decide) rfl).toPost (Value.slice none 0 0)))
  · refine GL.skip (GL.seq (GL.region ?_))
    refine RL.bS (t := TR.int) (vs := []) ([] : List Int) Try.underlying22 Try_lo3 rfl rfl rfl rfl trivial rfl (by decide) ?_
    intro v1
    refine RL.mv rfl rfl rfl ?_
    refine RL.app 1 0 Try.underlying22 Try_lo3 rfl rfl rfl rfl rfl rfl rfl SlOf.imm (by simpa using hc) ?_
    intro v2
    refine RL.asg rfl rfl rfl (RL.finG ?_)
    exact GL.ret (Gx.ret (v := v2) (res1 rfl rfl) (fun a w st => (st.pick [1] (by decide) rfl).toPost v2))

set_option maxHeartbeats 4000000 in
theorem order_All_c (S : Hp) (w : World) (hS : S.sub w) (x0 : Int) (res : (List (List Int)) × Int) (hm : order_All_m x0 = some res) : Calls Try.prog 31 #[.int .i64 x0] w (Post w S (fun (o : Value) => .tuple #[o, .int .i64 res.2]) (fun (o : Value) => [own 22 (TR.sl TR.int) o res.1])) := by
  refine calls_enter 46 Try.func31 Try.ntmps31 rfl S false [(0, .int .i64 x0)] [] rfl ⟨rfl, trivial⟩ hS trivial ?_
  unfold order_All_m at hm
  refine GL.seq ?_
  refine GL.region ?_
  refine RL.asg rfl rfl rfl ?_
  refine RL.asg rfl rfl rfl ?_
  refine RL.finG ?_
  refine GL.seq ?_
  refine GL.seq ?_
  obtain ⟨y5, K6, h7, h8, h9, h10, h11⟩ := bindR_K hm
  refine GL.join (ι := Bool) (fun (p : Bool) => [(0, .int .i64 x0), (14, .bool p)]) (fun (p : Bool) => []) (fun (p : Bool) => K6 (.nx p)) ?_ ?_
  · skip
    refine GL.region ?_
    refine RL.mv rfl rfl rfl ?_
    refine RL.binI (v := .bool (decide (x0 < (1 : Int)))) rfl rfl rfl rfl rfl ?_
    refine RL.mv rfl rfl rfl ?_
    refine RL.split (t := 11) rfl (fun b12 => ?_) (fun b12 => ?_)
    · replace h7 := ite_t b12 h7
      refine RL.skip rfl rfl ?_
      refine RL.skip rfl rfl ?_
      refine RL.pickT rfl rfl rfl rfl ?_
      refine RL.fin ?_
      cases h7
      exact fun a w st => mid_intro true h8 (St.cut [] ⟨rfl, rfl, trivial⟩ (by decide) rfl st)
    · replace h7 := ite_f b12 h7
      refine RL.mv rfl rfl rfl ?_
      refine RL.binI (v := .bool (decide (x0 > (6 : Int)))) rfl rfl rfl rfl rfl ?_
      refine RL.pickF rfl rfl rfl rfl ?_
      refine RL.fin ?_
      cases h7
      exact fun a w st => mid_intro (decide (x0 > (6 : Int))) h8 (St.cut [] ⟨rfl, rfl, trivial⟩ (by decide) rfl st)
  · rintro x4 h13
    have h14 := h9 _ h13
    try dsimp only at h14
    refine GL.weak (env' := [(0, .int .i64 x0), (14, .bool x4)]) (L' := []) (fun _ _ st => st) ?_
    refine GL.cond rfl (fun b15 => ?_) (fun b15 => ?_)
    · replace h14 := ite_t b15 h14
      refine GL.seq ?_
      refine GL.region ?_
      refine RL.asg rfl rfl rfl ?_
      refine RL.asg rfl rfl rfl ?_
      refine RL.finG ?_
      refine GL.weak (fun a w st => st.nilOwn 22 (TR.sl TR.int)) ?_
      have h14 := Option.some.inj h14
      subst h14
      exact GL.ret (Gx.ret (v := .tuple #[Value.slice none 0 0, .int .i64 (1 : Int)]) (res2 rfl rfl rfl) (fun a w st => (st.pick [0] (by decide) rfl).toPost (Value.slice none 0 0)))
    · replace h14 := ite_f b15 h14
      refine GL.skip ?_
      refine GL.seq ?_
      refine GL.region ?_
      refine RL.bS (t := (TR.sl TR.int)) (vs := [Value.slice none 0 0]) ([[]] : (List (List Int))) Try.underlying45 Try_lo22 rfl rfl rfl rfl ⟨VR.nil, trivial⟩ rfl (by decide) ?_
      intro v17
      refine RL.asg rfl rfl rfl ?_
      refine RL.finG ?_
      refine GL.seq ?_
      refine GL.seq ?_
      refine GL.region ?_
      refine RL.mv rfl rfl rfl ?_
      refine RL.mv rfl rfl rfl ?_
      refine RL.finG ?_
      obtain ⟨y214, e215, h14⟩ := bind_some h14
      replace e215 := chk_some e215
      obtain ⟨y216, K217, h218, h219, h220, h221, h222⟩ := bindR_K h14
      refine GL.join (ι := (List (List Int)) × Value) (fun (p : (List (List Int)) × Value) => [(4, p.2)]) (fun (p : (List (List Int)) × Value) => [own 22 (TR.sl TR.int) p.2 p.1]) (fun (p : (List (List Int)) × Value) => K217 (.nx p.1)) ?_ ?_
      · refine GL.block ?_
        refine GL.loop (ι := Nat × Nat × (List (List Int)) × Value) (fun (p : Nat × Nat × (List (List Int)) × Value) => [(0, .int .i64 x0), (4, p.2.2.2), (16, .int .i64 x0), (17, .int .i64 (p.1 : Int))]) (fun (p : Nat × Nat × (List (List Int)) × Value) => [own 22 (TR.sl TR.int) p.2.2.2 p.2.2.1]) (fun (p : Nat × Nat × (List (List Int)) × Value) => p.1 + p.2.1 = (x0).toNat ∧ rangeN (order_All_b1 x0) p.2.1 p.1 p.2.2.1 = some y216) (fun (p : Nat × Nat × (List (List Int)) × Value) => p.2.1) (0, (x0).toNat, ([[]] : (List (List Int))), v17) ⟨by simp, h218⟩ (fun a w st => St.cut [0] ⟨rfl, rfl, rfl, rfl, trivial⟩ (by decide) rfl st) ?_
        rintro ⟨i223, r224, l18, v19⟩ ⟨h229, h228⟩
        try dsimp only at h229 h228
        refine GL.weak (env' := [(0, .int .i64 x0), (4, v19), (16, .int .i64 x0), (17, .int .i64 (i223 : Int))]) (L' := [own 22 (TR.sl TR.int) v19 l18]) (fun _ _ st => st) ?_
        refine GL.seq ?_
        refine GL.region ?_
        refine RL.binI (v := .bool (decide ((i223 : Int) < x0))) rfl rfl rfl rfl rfl ?_
        refine RL.finG ?_
        refine GL.seq ?_
        refine GL.cond rfl (fun b231 => ?_) (fun b231 => ?_)
        · have h232 : i223 < (x0).toNat := by have := of_decide_eq_true b231; omega
          obtain ⟨r233, hr⟩ : ∃ m, r224 = m + 1 := ⟨r224 - 1, by omega⟩
          subst hr
          obtain ⟨z225, h226, h227⟩ := rangeN_some h228
          unfold order_All_b1 at h226
          try dsimp only at h226
          refine GL.skip ?_
          refine GL.seq ?_
          refine GL.block ?_
          refine GL.seq ?_
          refine GL.region ?_
          refine RL.asg rfl rfl rfl ?_
          refine RL.finG ?_
          refine GL.seq ?_
          refine GL.seq ?_
          refine GL.region ?_
          refine RL.mv rfl rfl rfl ?_
          refine RL.lenS 0 Try.underlying45 rfl rfl rfl rfl SlOf.own ?_
          refine RL.mv rfl rfl rfl ?_
          refine RL.finG ?_
          refine GL.weak (fun a w st => st.nilOwn 22 (TR.sl TR.int)) ?_
          refine GL.lenOwn 0 rfl (fun n321 => ?_)
          obtain ⟨y322, K323, h324, h325, h326, h327, h328⟩ := bindF_K h226
          refine GL.join (ι := (List (List Int)) × Value) (fun (p : (List (List Int)) × Value) => [(0, .int .i64 x0), (5, p.2), (16, .int .i64 x0), (17, .int .i64 (i223 : Int))]) (fun (p : (List (List Int)) × Value) => [own 22 (TR.sl TR.int) p.2 p.1]) (fun (p : (List (List Int)) × Value) => K323 (.nx p.1)) ?_ ?_
          · refine GL.block ?_
            refine GL.loop (ι := Nat × Nat × (List (List Int)) × Value) (fun (p : Nat × Nat × (List (List Int)) × Value) => [(0, .int .i64 x0), (5, p.2.2.2), (16, .int .i64 x0), (17, .int .i64 (i223 : Int)), (19, v19), (20, .int .i64 ((l18).length : Int)), (21, .int .i64 (p.1 : Int))]) (fun (p : Nat × Nat × (List (List Int)) × Value) => [own 22 (TR.sl TR.int) p.2.2.2 p.2.2.1, own 22 (TR.sl TR.int) v19 l18]) (fun (p : Nat × Nat × (List (List Int)) × Value) => p.1 + p.2.1 = (l18).length ∧ rangeN (order_All_b2 l18 x0) p.2.1 p.1 p.2.2.1 = some y322) (fun (p : Nat × Nat × (List (List Int)) × Value) => p.2.1) (0, (l18).length, [], Value.slice none 0 0) ⟨by simp, h324⟩ (fun a w st => St.cut [1, 0] ⟨rfl, rfl, rfl, rfl, rfl, rfl, rfl, trivial⟩ (by decide) rfl st) ?_
            rintro ⟨i329, r330, l234, v235⟩ ⟨h335, h334⟩
            try dsimp only at h335 h334
            refine GL.weak (env' := [(0, .int .i64 x0), (5, v235), (16, .int .i64 x0), (17, .int .i64 (i223 : Int)), (19, v19), (20, .int .i64 ((l18).length : Int)), (21, .int .i64 (i329 : Int))]) (L' := [own 22 (TR.sl TR.int) v235 l234, own 22 (TR.sl TR.int) v19 l18]) (fun _ _ st => st) ?_
            refine GL.seq ?_
            refine GL.region ?_
            refine RL.binI (v := .bool (decide ((i329 : Int) < ((l18).length : Int)))) rfl rfl rfl rfl rfl ?_
            refine RL.finG ?_
            refine GL.seq ?_
            refine GL.cond rfl (fun b337 => ?_) (fun b337 => ?_)
            · have h338 : i329 < (l18).length := by have := of_decide_eq_true b337; omega
              obtain ⟨r339, hr⟩ : ∃ m, r330 = m + 1 := ⟨r330 - 1, by omega⟩
              subst hr
              obtain ⟨z331, h332, h333⟩ := rangeN_some h334
              unfold order_All_b2 at h332
              try dsimp only at h332
              refine GL.skip ?_
              refine GL.seq ?_
              refine GL.block ?_
              refine GL.seq ?_
              refine GL.region ?_
              obtain ⟨y343, e344, h332⟩ := bind_some h332
              refine RL.idxS (sz := 1) 1 Try.underlying45 Try_ln22 rfl rfl rfl rfl rfl SlOf.own (idx_some e344).1 (idx_some e344).2.1 ?_
              refine RL.ldS (i := i329) (r := (TR.sl TR.int)) (e' := y343) 1 Try_ln22 rfl rfl rfl rfl SlOf.own (idx_some e344).2.2 Part.self ?_
              intro v345
              refine RL.asg rfl rfl rfl ?_
              refine RL.finG ?_
              refine GL.seq ?_
              refine GL.region ?_
              refine RL.mv rfl rfl rfl ?_
              refine RL.mv rfl rfl rfl ?_
              refine RL.finG ?_
              obtain ⟨y376, e377, h332⟩ := bind_some h332
              replace e377 := chk_some e377
              obtain ⟨y378, K379, h380, h381, h382, h383, h384⟩ := bindF_K h332
              refine GL.join (ι := (List (List Int)) × Value) (fun (p : (List (List Int)) × Value) => [(0, .int .i64 x0), (5, p.2), (16, .int .i64 x0), (17, .int .i64 (i223 : Int)), (19, v19), (20, .int .i64 ((l18).length : Int)), (21, .int .i64 (i329 : Int))]) (fun (p : (List (List Int)) × Value) => [own 22 (TR.sl TR.int) p.2 p.1, own 22 (TR.sl TR.int) v19 l18]) (fun (p : (List (List Int)) × Value) => K379 (.nx p.1)) ?_ ?_
              · refine GL.block ?_
                refine GL.loop (ι := Nat × Nat × (List (List Int)) × Value) (fun (p : Nat × Nat × (List (List Int)) × Value) => [(0, .int .i64 x0), (5, p.2.2.2), (7, v345), (16, .int .i64 x0), (17, .int .i64 (i223 : Int)), (19, v19), (20, .int .i64 ((l18).length : Int)), (21, .int .i64 (i329 : Int)), (25, .int .i64 x0), (26, .int .i64 (p.1 : Int))]) (fun (p : Nat × Nat × (List (List Int)) × Value) => [own 22 (TR.sl TR.int) p.2.2.2 p.2.2.1, imm (TR.sl TR.int) v345 y343, own 22 (TR.sl TR.int) v19 l18]) (fun (p : Nat × Nat × (List (List Int)) × Value) => p.1 + p.2.1 = (x0).toNat ∧ rangeN (order_All_b3 y343) p.2.1 p.1 p.2.2.1 = some y378) (fun (p : Nat × Nat × (List (List Int)) × Value) => p.2.1) (0, (x0).toNat, l234, v235) ⟨by simp, h380⟩ (fun a w st => St.cut [0, 2, 1] ⟨rfl, rfl, rfl, rfl, rfl, rfl, rfl, rfl, rfl, rfl, trivial⟩ (by decide) rfl st) ?_
                rintro ⟨i385, r386, l346, v347⟩ ⟨h391, h390⟩
                try dsimp only at h391 h390
                refine GL.weak (env' := [(0, .int .i64 x0), (5, v347), (7, v345), (16, .int .i64 x0), (17, .int .i64 (i223 : Int)), (19, v19), (20, .int .i64 ((l18).length : Int)), (21, .int .i64 (i329 : Int)), (25, .int .i64 x0), (26, .int .i64 (i385 : Int))]) (L' := [own 22 (TR.sl TR.int) v347 l346, imm (TR.sl TR.int) v345 y343, own 22 (TR.sl TR.int) v19 l18]) (fun _ _ st => st) ?_
                refine GL.seq ?_
                refine GL.region ?_
                refine RL.binI (v := .bool (decide ((i385 : Int) < x0))) rfl rfl rfl rfl rfl ?_
                refine RL.finG ?_
                refine GL.seq ?_
                refine GL.cond rfl (fun b393 => ?_) (fun b393 => ?_)
                · have h394 : i385 < (x0).toNat := by have := of_decide_eq_true b393; omega
                  obtain ⟨r395, hr⟩ : ∃ m, r386 = m + 1 := ⟨r386 - 1, by omega⟩
                  subst hr
                  obtain ⟨z387, h388, h389⟩ := rangeN_some h390
                  unfold order_All_b3 at h388
                  try dsimp only at h388
                  refine GL.skip ?_
                  refine GL.seq ?_
                  refine GL.block ?_
                  refine GL.seq ?_
                  refine GL.region ?_
                  refine RL.mv rfl rfl rfl ?_
                  refine RL.asg rfl rfl rfl ?_
                  refine RL.finG ?_
                  refine GL.seq ?_
                  refine GL.region ?_
                  refine RL.mv rfl rfl rfl ?_
                  refine RL.mv rfl rfl rfl ?_
                  obtain ⟨y398, e399, h388⟩ := bind_some h388
                  refine RL.callC (v := .bool y398) (vs := [v345, .int .i64 (i385 : Int)]) Try_fit44 rfl rfl rfl rfl (fun U w hU hW hL => slices_Contains_int_int_c U w hU _ _ (hL 1 _ _ rfl Seen.imm) (i385 : Int) _ e399) ?_
                  refine RL.notB rfl rfl rfl ?_
                  refine RL.finG ?_
                  refine GL.cond rfl (fun b400 => ?_) (fun b400 => ?_)
                  · replace h388 := ite_t b400 h388
                    refine GL.region ?_
                    refine RL.mv rfl rfl rfl ?_
                    refine RL.mv rfl rfl rfl ?_
                    obtain ⟨y412, e413, h388⟩ := bind_some h388
                    refine RL.call (vs := [v345]) Try_fit29 rfl rfl rfl rfl rfl (fun S f w hS hW hi => slices_Clone_int_int_c S w hS _ _ (hi 1 _ rfl) _ e413) ?_
                    intro v414
                    refine RL.mv rfl rfl rfl ?_
                    refine RL.bS (t := TR.int) (vs := [.int .i64 (i385 : Int)]) ([(i385 : Int)] : (List Int)) Try.underlying22 Try_lo3 rfl rfl rfl rfl ⟨VR.int, trivial⟩ rfl (by decide) ?_
                    intro v415
                    refine RL.reL (L' := [own 22 (TR.sl TR.int) v347 l346, imm (TR.sl TR.int) v345 y343, own 22 (TR.sl TR.int) v19 l18, own 3 TR.int v414 y412, own 3 TR.int v415 ([(i385 : Int)] : (List Int))]) rfl ?_
                    obtain ⟨y416, e417, h388⟩ := bind_some h388
                    replace e417 := chk_some e417
                    refine RL.app 3 4 Try.underlying22 Try_lo3 rfl rfl rfl rfl rfl rfl rfl SlOf.own e417 ?_
                    intro v418
                    refine RL.weak (fun a w st => st.freeze 3 rfl) ?_
                    refine RL.bS (t := (TR.sl TR.int)) (vs := [v418]) ([(y412 ++ ([(i385 : Int)] : (List Int)))] : (List (List Int))) Try.underlying45 Try_lo22 rfl rfl rfl rfl ⟨(VR.item 3 rfl), trivial⟩ rfl (by decide) ?_
                    intro v419
                    refine RL.reL (L' := [own 22 (TR.sl TR.int) v347 l346, imm (TR.sl TR.int) v345 y343, own 22 (TR.sl TR.int) v19 l18, imm (TR.sl TR.int) v418 (y412 ++ ([(i385 : Int)] : (List Int))), own 3 TR.int v415 ([(i385 : Int)] : (List Int)), own 22 (TR.sl TR.int) v419 ([(y412 ++ ([(i385 : Int)] : (List Int)))] : (List (List Int)))]) rfl ?_
                    obtain ⟨y420, e421, h388⟩ := bind_some h388
                    replace e421 := chk_some e421
                    refine RL.app 0 5 Try.underlying45 Try_lo22 rfl rfl rfl rfl rfl rfl rfl SlOf.own e421 ?_
                    intro v422
                    refine RL.asg rfl rfl rfl ?_
                    refine RL.finG ?_
                    refine GL.nilB ?_
                    refine GL.region ?_
                    refine RL.binI (v := .int .i64 ((i385 + 1 : Nat) : Int)) rfl rfl rfl rfl (binI_succ i385 (by omega)) ?_
                    refine RL.mv rfl rfl rfl ?_
                    refine RL.fin ?_
                    cases h388
                    exact fun a w st => lop_intro (i385 + 1, r395, (l346 ++ ([(y412 ++ ([(i385 : Int)] : (List Int)))] : (List (List Int)))), v422) ⟨by show i385 + 1 + r395 = (x0).toNat; omega, h389⟩ (by simp) (St.cut [0, 1, 2] ⟨rfl, rfl, rfl, rfl, rfl, rfl, rfl, rfl, rfl, rfl, trivial⟩ (by decide) rfl st)
                  · replace h388 := ite_f b400 h388
                    refine GL.skip ?_
                    refine GL.nilB ?_
                    refine GL.region ?_
                    refine RL.binI (v := .int .i64 ((i385 + 1 : Nat) : Int)) rfl rfl rfl rfl (binI_succ i385 (by omega)) ?_
                    refine RL.mv rfl rfl rfl ?_
                    refine RL.fin ?_
                    cases h388
                    exact fun a w st => lop_intro (i385 + 1, r395, l346, v347) ⟨by show i385 + 1 + r395 = (x0).toNat; omega, h389⟩ (by simp) (St.cut [0, 1, 2] ⟨rfl, rfl, rfl, rfl, rfl, rfl, rfl, rfl, rfl, rfl, trivial⟩ (by decide) rfl st)
                · have h394 : ¬ i385 < (x0).toNat := by have := of_decide_eq_false b393; omega
                  obtain rfl : r386 = 0 := by omega
                  replace h390 : some (Fl.nx _) = some y378 := h390
                  cases h390
                  exact GL.exit (fun a w st => mid_intro (l346, v347) h381 (St.cut [0, 2] ⟨rfl, rfl, rfl, rfl, rfl, rfl, rfl, trivial⟩ (by decide) rfl st))
              · rintro ⟨l346, v347⟩ h423
                have h424 := h382 _ h423
                try dsimp only at h424
                refine GL.weak (env' := [(0, .int .i64 x0), (5, v347), (16, .int .i64 x0), (17, .int .i64 (i223 : Int)), (19, v19), (20, .int .i64 ((l18).length : Int)), (21, .int .i64 (i329 : Int))]) (L' := [own 22 (TR.sl TR.int) v347 l346, own 22 (TR.sl TR.int) v19 l18]) (fun _ _ st => st) ?_
                refine GL.nilB ?_
                refine GL.region ?_
                refine RL.binI (v := .int .i64 ((i329 + 1 : Nat) : Int)) rfl rfl rfl rfl (binI_succ i329 (by omega)) ?_
                refine RL.mv rfl rfl rfl ?_
                refine RL.fin ?_
                cases h424
                exact fun a w st => lop_intro (i329 + 1, r339, l346, v347) ⟨by show i329 + 1 + r339 = (l18).length; omega, h333⟩ (by simp) (St.cut [0, 1] ⟨rfl, rfl, rfl, rfl, rfl, rfl, rfl, trivial⟩ (by decide) rfl st)
            · have h338 : ¬ i329 < (l18).length := by have := of_decide_eq_false b337; omega
              obtain rfl : r330 = 0 := by omega
              replace h334 : some (Fl.nx _) = some y322 := h334
              cases h334
              exact GL.exit (fun a w st => mid_intro (l234, v235) h325 (St.cut [0] ⟨rfl, rfl, rfl, rfl, trivial⟩ (by decide) rfl st))
          · rintro ⟨l234, v235⟩ h425
            have h426 := h326 _ h425
            try dsimp only at h426
            refine GL.weak (env' := [(0, .int .i64 x0), (5, v235), (16, .int .i64 x0), (17, .int .i64 (i223 : Int))]) (L' := [own 22 (TR.sl TR.int) v235 l234]) (fun _ _ st => st) ?_
            refine GL.region ?_
            refine RL.mv rfl rfl rfl ?_
            refine RL.asg rfl rfl rfl ?_
            refine RL.finG ?_
            refine GL.nilB ?_
            refine GL.region ?_
            refine RL.binI (v := .int .i64 ((i223 + 1 : Nat) : Int)) rfl rfl rfl rfl (binI_succ i223 (by omega)) ?_
            refine RL.mv rfl rfl rfl ?_
            refine RL.fin ?_
            cases h426
            exact fun a w st => lop_intro (i223 + 1, r233, l234, v235) ⟨by show i223 + 1 + r233 = (x0).toNat; omega, h227⟩ (by simp) (St.cut [0] ⟨rfl, rfl, rfl, rfl, trivial⟩ (by decide) rfl st)
        · have h232 : ¬ i223 < (x0).toNat := by have := of_decide_eq_false b231; omega
          obtain rfl : r224 = 0 := by omega
          replace h228 : some (Fl.nx _) = some y216 := h228
          cases h228
          exact GL.exit (fun a w st => mid_intro (l18, v19) h219 (St.cut [0] ⟨rfl, trivial⟩ (by decide) rfl st))
      · rintro ⟨l18, v19⟩ h427
        have h428 := h220 _ h427
        try dsimp only at h428
        refine GL.weak (env' := [(4, v19)]) (L' := [own 22 (TR.sl TR.int) v19 l18]) (fun _ _ st => st) ?_
        refine GL.seq ?_
        refine GL.region ?_
        refine RL.mv rfl rfl rfl ?_
        refine RL.asg rfl rfl rfl ?_
        refine RL.asg rfl rfl rfl ?_
        refine RL.finG ?_
        have h428 := Option.some.inj h428
        subst h428
        exact GL.ret (Gx.ret (v := .tuple #[v19, .int .i64 (0 : Int)]) (res2 rfl rfl rfl) (fun a w st => (st.pick [0] (by decide) rfl).toPost v19))

set_option maxHeartbeats 4000000 in
theorem slices_IndexFunc_api_Errno_api_Errno_c (S : Hp) (w : World) (hS : S.sub w) (v0 : Value) (x0 : (List Int)) (k0 : ((TR.sl TR.int)).vrep S v0 x0) (f1 : FuncId) (c1 : Array Value) (t1 : Fit Try.prog f1) (g1 : Int → Option Bool) (k1 : ∀ (U : Hp) (w' : World), Hp.le S U → U.sub w' → ∀ (a0 : Int) (rr : Bool), g1 a0 = some rr → Calls Try.prog f1 (#[.int .i64 a0] ++ c1) w' (PostV w' (.bool rr))) (res : Int) (hm : slices_IndexFunc_api_Errno_api_Errno_m x0 g1 = some res) : Calls Try.prog 45 #[v0, .func (.func f1) #[] c1] w (PostV w (.int .i64 res)) := by
  refine calls_enter 19 Try.func45 Try.ntmps45 rfl S false [(0, v0), (1, .func (.func f1) #[] c1)] [imm (TR.sl TR.int) v0 x0] rfl ⟨rfl, ⟨rfl, trivial⟩⟩ hS ⟨k0, trivial⟩ ?_
  unfold slices_IndexFunc_api_Errno_api_Errno_m at hm
  refine GL.seq ?_
  refine GL.region ?_
  refine RL.asg rfl rfl rfl ?_
  refine RL.finG ?_
  refine GL.seq ?_
  refine GL.seq ?_
  refine GL.region ?_
  refine RL.mv rfl rfl rfl ?_
  refine RL.lenS 0 Try.underlying53 rfl rfl rfl rfl SlOf.imm ?_
  refine RL.mv rfl rfl rfl ?_
  refine RL.finG ?_
  refine GL.open_ 0 rfl (fun S h => len_imm S h) (fun n12 => ?_)
  obtain ⟨y13, K14, h15, h16, h17, h18, h19⟩ := bindR_K hm
  refine GL.join (ι := Unit) (fun (p : Unit) => []) (fun (p : Unit) => []) (fun (p : Unit) => K14 (.nx ())) ?_ ?_
  · refine GL.block ?_
    refine GL.loop (ι := Nat × (List Int)) (fun (p : Nat × (List Int)) => [(0, v0), (1, .func (.func f1) #[] c1), (7, .int .i64 ((x0).length : Int)), (8, .int .i64 (p.1 : Int))]) (fun (p : Nat × (List Int)) => [imm (TR.sl TR.int) v0 x0]) (fun (p : Nat × (List Int)) => p.1 + p.2.length = (x0).length ∧ List.drop p.1 x0 = p.2 ∧ rangeL (slices_IndexFunc_api_Errno_api_Errno_b1 g1) p.2 p.1 () = some y13) (fun (p : Nat × (List Int)) => p.2.length) (0, x0) ⟨by simp, by simp, h15⟩ (fun a w st => St.cut [0] ⟨rfl, rfl, rfl, rfl, trivial⟩ (by decide) rfl st) ?_
    rintro ⟨i20, r21⟩ ⟨h26, h27, h25⟩
    try dsimp only at h26 h27 h25
    refine GL.weak (env' := [(0, v0), (1, .func (.func f1) #[] c1), (7, .int .i64 ((x0).length : Int)), (8, .int .i64 (i20 : Int))]) (L' := [imm (TR.sl TR.int) v0 x0]) (fun _ _ st => st) ?_
    refine GL.seq ?_
    refine GL.region ?_
    refine RL.binI (v := .bool (decide ((i20 : Int) < ((x0).length : Int)))) rfl rfl rfl rfl rfl ?_
    refine RL.finG ?_
    refine GL.seq ?_
    refine GL.cond rfl (fun b28 => ?_) (fun b28 => ?_)
    · have h29 : i20 < (x0).length := by have := of_decide_eq_true b28; omega
      obtain ⟨y30, r32, hr, e31, h33⟩ := drop_cons h27 rfl h29
      subst hr
      obtain ⟨z22, h23, h24⟩ := rangeL_some h25
      unfold slices_IndexFunc_api_Errno_api_Errno_b1 at h23
      try dsimp only at h23
      refine GL.skip ?_
      refine GL.seq ?_
      refine GL.block ?_
      refine GL.seq ?_
      refine GL.region ?_
      refine RL.mv rfl rfl rfl ?_
      refine RL.asg rfl rfl rfl ?_
      refine RL.finG ?_
      refine GL.seq ?_
      refine GL.region ?_
      refine RL.mv rfl rfl rfl ?_
      refine RL.mv rfl rfl rfl ?_
      refine RL.mv rfl rfl rfl ?_
      refine RL.idxS (sz := 1) 0 Try.underlying53 Try_ln26 rfl rfl rfl rfl rfl SlOf.imm (by omega) (by omega) ?_
      refine RL.ldSx (i := i20) (e' := y30) 0 Ex.ik Try_ln26 rfl rfl rfl rfl SlOf.imm e31 Part.self ?_
      obtain ⟨y36, e37, h23⟩ := bind_some h23
      refine RL.callV (v := .bool y36) (vs := [.int .i64 y30]) t1 rfl (Or.inl rfl) rfl rfl rfl rfl (fun U w hU hW hL => k1 U w hW hU y30 _ e37) ?_
      refine RL.finG ?_
      refine GL.cond rfl (fun b38 => ?_) (fun b38 => ?_)
      · replace h23 := ite_t b38 h23
        refine GL.seq ?_
        refine GL.region ?_
        refine RL.mv rfl rfl rfl ?_
        refine RL.asg rfl rfl rfl ?_
        refine RL.finG ?_
        cases h23
        replace h24 : some (Fl.rt _) = some y13 := h24
        cases h24
        have hh := h18 _ h16
        subst hh
        exact GL.ret (Gx.ret (v := .int .i64 (i20 : Int)) (res1 rfl rfl) (fun a w st => st.toPostV))
      · replace h23 := ite_f b38 h23
        refine GL.skip ?_
        refine GL.nilB ?_
        refine GL.region ?_
        refine RL.binI (v := .int .i64 ((i20 + 1 : Nat) : Int)) rfl rfl rfl rfl (binI_succ i20 (by omega)) ?_
        refine RL.mv rfl rfl rfl ?_
        refine RL.fin ?_
        cases h23
        exact fun a w st => lop_intro (i20 + 1, r32) ⟨by show i20 + 1 + r32.length = (x0).length; simp only [List.length_cons] at h26; omega, h33, h24⟩ (by simp) (St.cut [0] ⟨rfl, rfl, rfl, rfl, trivial⟩ (by decide) rfl st)
    · have h29 : ¬ i20 < (x0).length := by have := of_decide_eq_false b28; omega
      obtain rfl : r21 = [] := by rw [← h27]; exact List.drop_of_length_le (by omega)
      replace h25 : some (Fl.nx _) = some y13 := h25
      cases h25
      exact GL.exit (fun a w st => mid_intro () h16 (St.cut [] trivial (by decide) rfl st))
  · rintro ⟨⟩ h39
    have h40 := h17 _ h39
    try dsimp only at h40
    refine GL.weak (env' := []) (L' := []) (fun _ _ st => st) ?_
    refine GL.seq ?_
    refine GL.region ?_
    refine RL.asg rfl rfl rfl ?_
    refine RL.finG ?_
    have h40 := Option.some.inj h40
    subst h40
    exact GL.ret (Gx.ret (v := .int .i64 (-1 : Int)) (res1 rfl rfl) (fun a w st => st.toPostV))

set_option maxHeartbeats 4000000 in
theorem slices_ContainsFunc_api_Errno_api_Errno_c (S : Hp) (w : World) (hS : S.sub w) (v0 : Value) (x0 : (List Int)) (k0 : ((TR.sl TR.int)).vrep S v0 x0) (f1 : FuncId) (c1 : Array Value) (t1 : Fit Try.prog f1) (g1 : Int → Option Bool) (k1 : ∀ (U : Hp) (w' : World), Hp.le S U → U.sub w' → ∀ (a0 : Int) (rr : Bool), g1 a0 = some rr → Calls Try.prog f1 (#[.int .i64 a0] ++ c1) w' (PostV w' (.bool rr))) (res : Bool) (hm : slices_ContainsFunc_api_Errno_api_Errno_m x0 g1 = some res) : Calls Try.prog 37 #[v0, .func (.func f1) #[] c1] w (PostV w (.bool res)) := by
  refine calls_enter 9 Try.func37 Try.ntmps37 rfl S false [(0, v0), (1, .func (.func f1) #[] c1)] [imm (TR.sl TR.int) v0 x0] rfl ⟨rfl, ⟨rfl, trivial⟩⟩ hS ⟨k0, trivial⟩ ?_
  unfold slices_ContainsFunc_api_Errno_api_Errno_m at hm
  refine GL.seq ?_
  refine GL.region ?_
  refine RL.asg rfl rfl rfl ?_
  refine RL.finG ?_
  refine GL.seq ?_
  refine GL.region ?_
  refine RL.mv rfl rfl rfl ?_
  refine RL.mv rfl rfl rfl ?_
  obtain ⟨y5, e6, hm⟩ := bind_some hm
  refine RL.callV (v := .int .i64 y5) (vs := [v0, .func (.func f1) #[] c1]) Try_fit45 rfl (Or.inl rfl) rfl rfl rfl rfl (fun U w hU hW hL => slices_IndexFunc_api_Errno_api_Errno_c U w hU _ _ (hL 0 _ _ rfl Seen.imm) f1 c1 t1 g1 (fun U' w' hle => k1 U' w' (Hp.le_trans hW hle)) _ e6) ?_
  refine RL.binI (v := .bool (decide (y5 ≥ (0 : Int)))) rfl rfl rfl rfl rfl ?_
  refine RL.asg rfl rfl rfl ?_
  refine RL.finG ?_
  have hm := Option.some.inj hm
  subst hm
  exact GL.ret (Gx.ret (v := .bool (decide (y5 ≥ (0 : Int)))) (res1 rfl rfl) (fun a w st => st.toPostV))

set_option maxHeartbeats 4000000 in
theorem pk_good_1_c (S : Hp) (w : World) (hS : S.sub w) (x0 : Int) (res : Bool) (hm : pk_good_1_m x0 = some res) : Calls Try.prog 38 #[.int .i64 x0] w (PostC w (.bool res)) := by
  refine calls_enter 5 Try.func38 Try.ntmps38 rfl S true [(0, .int .i64 x0)] [] rfl ⟨rfl, trivial⟩ hS trivial ?_
  unfold pk_good_1_m at hm
  refine GL.seq ?_
  refine GL.region ?_
  refine RL.asg rfl rfl rfl ?_
  refine RL.finG ?_
  refine GL.seq ?_
  refine GL.region ?_
  refine RL.mv rfl rfl rfl ?_
  refine RL.binI (v := .bool (x0 != (0 : Int))) rfl rfl rfl rfl rfl ?_
  refine RL.asg rfl rfl rfl ?_
  refine RL.finG ?_
  have hm := Option.some.inj hm
  subst hm
  exact GL.ret (Gx.ret (v := .bool (x0 != (0 : Int))) (res1 rfl rfl) (fun a w st => st.toPostC rfl))

set_option maxHeartbeats 4000000 in
theorem pk_good_c (S : Hp) (w : World) (hS : S.sub w) (v0 : Value) (x0 : (List Int)) (k0 : ((TR.sl TR.int)).vrep S v0 x0) (res : Bool) (hm : pk_good_m x0 = some res) : Calls Try.prog 18 #[v0] w (PostV w (.bool res)) := by
  refine calls_enter 6 Try.func18 Try.ntmps18 rfl S false [(0, v0)] [imm (TR.sl TR.int) v0 x0] rfl ⟨rfl, trivial⟩ hS ⟨k0, trivial⟩ ?_
  unfold pk_good_m at hm
  refine GL.seq ?_
  refine GL.region ?_
  refine RL.asg rfl rfl rfl ?_
  refine RL.finG ?_
  refine GL.seq ?_
  refine GL.region ?_
  refine RL.mv rfl rfl rfl ?_
  obtain ⟨y4, e5, hm⟩ := bind_some hm
  refine RL.callV (v := .bool y4) (vs := [v0, .func (.func 38) #[] #[]]) Try_fit37 rfl (Or.inl rfl) rfl rfl rfl rfl (fun U w hU hW hL => slices_ContainsFunc_api_Errno_api_Errno_c U w hU _ _ (hL 0 _ _ rfl Seen.imm) 38 #[] Try_fit38 (fun a0 => pk_good_1_m a0) (fun U' w' hle hU' a0 rr hr => (pk_good_1_c U' w' hU' a0 rr hr).mono (fun _ _ z => z.toV)) _ e5) ?_
  refine RL.notB rfl rfl rfl ?_
  refine RL.asg rfl rfl rfl ?_
  refine RL.finG ?_
  have hm := Option.some.inj hm
  subst hm
  exact GL.ret (Gx.ret (v := .bool (!y4)) (res1 rfl rfl) (fun a w st => st.toPostV))

set_option maxHeartbeats 4000000 in
theorem pk_sum_c (S : Hp) (w : World) (hS : S.sub w) (v0 : Value) (x0 : (List Int)) (k0 : ((TR.sl TR.int)).vrep S v0 x0) (res : Int) (hm : pk_sum_m x0 = some res) : Calls Try.prog 19 #[v0] w (PostC w (.int .i64 res)) := by
  refine calls_enter 17 Try.func19 Try.ntmps19 rfl S true [(0, v0)] [imm (TR.sl TR.int) v0 x0] rfl ⟨rfl, trivial⟩ hS ⟨k0, trivial⟩ ?_
  unfold pk_sum_m at hm
  refine GL.seq ?_
  refine GL.region ?_
  refine RL.asg rfl rfl rfl ?_
  refine RL.finG ?_
  refine GL.seq ?_
  refine GL.region ?_
  refine RL.asg rfl rfl rfl ?_
  refine RL.finG ?_
  refine GL.seq ?_
  refine GL.seq ?_
  refine GL.region ?_
  refine RL.mv rfl rfl rfl ?_
  refine RL.lenS 0 Try.underlying22 rfl rfl rfl rfl SlOf.imm ?_
  refine RL.mv rfl rfl rfl ?_
  refine RL.finG ?_
  refine GL.open_ 0 rfl (fun S h => len_imm S h) (fun n7 => ?_)
  obtain ⟨y8, K9, h10, h11, h12, h13, h14⟩ := bindR_K hm
  refine GL.join (ι := Int) (fun (p : Int) => [(3, .int .i64 p)]) (fun (p : Int) => []) (fun (p : Int) => K9 (.nx p)) ?_ ?_
  · refine GL.block ?_
    refine GL.loop (ι := Nat × (List Int) × Int) (fun (p : Nat × (List Int) × Int) => [(3, .int .i64 p.2.2), (6, v0), (7, .int .i64 ((x0).length : Int)), (8, .int .i64 (p.1 : Int))]) (fun (p : Nat × (List Int) × Int) => [imm (TR.sl TR.int) v0 x0]) (fun (p : Nat × (List Int) × Int) => p.1 + p.2.1.length = (x0).length ∧ List.drop p.1 x0 = p.2.1 ∧ rangeL pk_sum_b1 p.2.1 p.1 p.2.2 = some y8) (fun (p : Nat × (List Int) × Int) => p.2.1.length) (0, x0, (0 : Int)) ⟨by simp, by simp, h10⟩ (fun a w st => St.cut [0] ⟨rfl, rfl, rfl, rfl, trivial⟩ (by decide) rfl st) ?_
    rintro ⟨i15, r16, x2⟩ ⟨h21, h22, h20⟩
    try dsimp only at h21 h22 h20
    refine GL.weak (env' := [(3, .int .i64 x2), (6, v0), (7, .int .i64 ((x0).length : Int)), (8, .int .i64 (i15 : Int))]) (L' := [imm (TR.sl TR.int) v0 x0]) (fun _ _ st => st) ?_
    refine GL.seq ?_
    refine GL.region ?_
    refine RL.binI (v := .bool (decide ((i15 : Int) < ((x0).length : Int)))) rfl rfl rfl rfl rfl ?_
    refine RL.finG ?_
    refine GL.seq ?_
    refine GL.cond rfl (fun b23 => ?_) (fun b23 => ?_)
    · have h24 : i15 < (x0).length := by have := of_decide_eq_true b23; omega
      obtain ⟨y25, r27, hr, e26, h28⟩ := drop_cons h22 rfl h24
      subst hr
      obtain ⟨z17, h18, h19⟩ := rangeL_some h20
      unfold pk_sum_b1 at h18
      try dsimp only at h18
      refine GL.skip ?_
      refine GL.seq ?_
      refine GL.block ?_
      refine GL.seq ?_
      refine GL.region ?_
      refine RL.idxS (sz := 1) 0 Try.underlying22 Try_ln3 rfl rfl rfl rfl rfl SlOf.imm (by omega) (by omega) ?_
      refine RL.ldSx (i := i15) (e' := y25) 0 Ex.ik Try_ln3 rfl rfl rfl rfl SlOf.imm e26 Part.self ?_
      refine RL.asg rfl rfl rfl ?_
      refine RL.finG ?_
      refine GL.region ?_
      refine RL.mv rfl rfl rfl ?_
      refine RL.mv rfl rfl rfl ?_
      refine RL.binI (v := .int .i64 (wadd x2 y25)) rfl rfl rfl rfl rfl ?_
      refine RL.asg rfl rfl rfl ?_
      refine RL.finG ?_
      refine GL.nilB ?_
      refine GL.region ?_
      refine RL.binI (v := .int .i64 ((i15 + 1 : Nat) : Int)) rfl rfl rfl rfl (binI_succ i15 (by omega)) ?_
      refine RL.mv rfl rfl rfl ?_
      refine RL.fin ?_
      cases h18
      exact fun a w st => lop_intro (i15 + 1, r27, wadd x2 y25) ⟨by show i15 + 1 + r27.length = (x0).length; simp only [List.length_cons] at h21; omega, h28, h19⟩ (by simp) (St.cut [0] ⟨rfl, rfl, rfl, rfl, trivial⟩ (by decide) rfl st)
    · have h24 : ¬ i15 < (x0).length := by have := of_decide_eq_false b23; omega
      obtain rfl : r16 = [] := by rw [← h22]; exact List.drop_of_length_le (by omega)
      replace h20 : some (Fl.nx _) = some y8 := h20
      cases h20
      exact GL.exit (fun a w st => mid_intro x2 h11 (St.cut [] ⟨rfl, trivial⟩ (by decide) rfl st))
  · rintro x2 h29
    have h30 := h12 _ h29
    try dsimp only at h30
    refine GL.weak (env' := [(3, .int .i64 x2)]) (L' := []) (fun _ _ st => st) ?_
    refine GL.seq ?_
    refine GL.region ?_
    refine RL.mv rfl rfl rfl ?_
    refine RL.asg rfl rfl rfl ?_
    refine RL.finG ?_
    have h30 := Option.some.inj h30
    subst h30
    exact GL.ret (Gx.ret (v := .int .i64 x2) (res1 rfl rfl) (fun a w st => st.toPostC rfl))

set_option maxHeartbeats 4000000 in
theorem pk_WorthRows_c (S : Hp) (w : World) (hS : S.sub w) (x0 : Int) (v1 : Value) (x1 : (List Int)) (k1 : ((TR.sl TR.int)).vrep S v1 x1) (v2 : Value) (x2 : (List Int)) (k2 : ((TR.sl TR.int)).vrep S v2 x2) (res : Bool) (hm : pk_WorthRows_m x0 x1 x2 = some res) : Calls Try.prog 12 #[.int .i64 x0, v1, v2] w (PostV w (.bool res)) := by
  refine calls_enter 136 Try.func12 Try.ntmps12 rfl S false [(0, .int .i64 x0), (1, v1), (2, v2)] [imm (TR.sl TR.int) v1 x1, imm (TR.sl TR.int) v2 x2] rfl ⟨rfl, ⟨rfl, ⟨rfl, trivial⟩⟩⟩ hS ⟨k1, ⟨k2, trivial⟩⟩ ?_
  unfold pk_WorthRows_m at hm
  refine GL.seq ?_
  refine GL.region ?_
  refine RL.asg rfl rfl rfl ?_
  refine RL.finG ?_
  refine GL.seq ?_
  refine GL.seq ?_
  refine GL.region ?_
  refine RL.bS (t := TR.int) (vs := [.int .i64 (0 : Int), .int .i64 (0 : Int), .int .i64 (2 : Int), .int .i64 (6 : Int)]) ([(0 : Int), (0 : Int), (2 : Int), (6 : Int)] : (List Int)) Try.underlying22 Try_lo3 rfl rfl rfl rfl ⟨VR.int, ⟨VR.int, ⟨VR.int, ⟨VR.int, trivial⟩⟩⟩⟩ rfl (by decide) ?_
  intro v9
  refine RL.bS (t := TR.int) (vs := [.int .i64 (1 : Int), .int .i64 (0 : Int)]) ([(1 : Int), (0 : Int)] : (List Int)) Try.underlying22 Try_lo3 rfl rfl rfl rfl ⟨VR.int, ⟨VR.int, trivial⟩⟩ rfl (by decide) ?_
  intro v10
  refine RL.reL (L' := [imm (TR.sl TR.int) v1 x1, imm (TR.sl TR.int) v2 x2, own 3 TR.int v9 ([(0 : Int), (0 : Int), (2 : Int), (6 : Int)] : (List Int)), own 3 TR.int v10 ([(1 : Int), (0 : Int)] : (List Int))]) rfl ?_
  refine RL.weak (fun a w st => st.freeze 2 rfl) ?_
  refine RL.weak (fun a w st => st.freeze 3 rfl) ?_
  obtain ⟨y11, e12, hm⟩ := bind_some hm
  refine RL.call (vs := [.int .i64 (2 : Int), v9, v10]) Try_fit30 rfl rfl rfl rfl rfl (fun S f w hS hW hi => worth_Row_c S w hS (2 : Int) _ _ (hi 2 _ rfl) _ _ (hi 3 _ rfl) _ e12) ?_
  intro v13
  refine RL.reL (L' := [imm (TR.sl TR.int) v1 x1, imm (TR.sl TR.int) v2 x2, imm (TR.sl TR.int) v9 ([(0 : Int), (0 : Int), (2 : Int), (6 : Int)] : (List Int)), imm (TR.sl TR.int) v10 ([(1 : Int), (0 : Int)] : (List Int)), own 3 TR.int v13 y11.1]) rfl ?_
  refine RL.mv rfl rfl rfl ?_
  refine RL.ext rfl rfl rfl rfl ?_
  refine RL.ext rfl rfl rfl rfl ?_
  refine RL.asg rfl rfl rfl ?_
  refine RL.asg rfl rfl rfl ?_
  refine RL.finG ?_
  refine GL.seq ?_
  obtain ⟨y29, K30, h31, h32, h33, h34, h35⟩ := bindR_K hm
  refine GL.join (ι := Bool) (fun (p : Bool) => [(0, .int .i64 x0), (1, v1), (2, v2), (39, .bool p)]) (fun (p : Bool) => [imm (TR.sl TR.int) v1 x1, imm (TR.sl TR.int) v2 x2]) (fun (p : Bool) => K30 (.nx p)) ?_ ?_
  · skip
    refine GL.region ?_
    refine RL.mv rfl rfl rfl ?_
    refine RL.binI (v := .bool (y11.2 != (0 : Int))) rfl rfl rfl rfl rfl ?_
    refine RL.mv rfl rfl rfl ?_
    refine RL.split (t := 30) rfl (fun b36 => ?_) (fun b36 => ?_)
    · replace h31 := ite_t b36 h31
      refine RL.skip rfl rfl ?_
      refine RL.skip rfl rfl ?_
      refine RL.skip rfl rfl ?_
      refine RL.skip rfl rfl ?_
      refine RL.pickT rfl rfl rfl rfl ?_
      refine RL.mv rfl rfl rfl ?_
      refine RL.skip rfl rfl ?_
      refine RL.skip rfl rfl ?_
      refine RL.pickT rfl rfl rfl rfl ?_
      refine RL.fin ?_
      cases h31
      exact fun a w st => mid_intro true h32 (St.cut [0, 1] ⟨rfl, rfl, rfl, rfl, trivial⟩ (by decide) rfl st)
    · replace h31 := ite_f b36 h31
      refine RL.mv rfl rfl rfl ?_
      refine RL.bS (t := TR.int) (vs := [.int .i64 (4 : Int), .int .i64 (2 : Int)]) ([(4 : Int), (2 : Int)] : (List Int)) Try.underlying22 Try_lo3 rfl rfl rfl rfl ⟨VR.int, ⟨VR.int, trivial⟩⟩ rfl (by decide) ?_
      intro v37
      obtain ⟨y38, e39, h31⟩ := bind_some h31
      refine RL.callV (v := .bool y38) (vs := [v13, v37]) Try_fit20 rfl (Or.inl rfl) rfl rfl rfl rfl (fun U w hU hW hL => slices_Equal_int_int_c U w hU _ _ (hL 4 _ _ rfl Seen.own) _ _ (hL 5 _ _ rfl Seen.own) _ e39) ?_
      refine RL.notB rfl rfl rfl ?_
      refine RL.pickF rfl rfl rfl rfl ?_
      refine RL.mv rfl rfl rfl ?_
      refine RL.split (t := 36) rfl (fun b40 => ?_) (fun b40 => ?_)
      · replace h31 := ite_t b40 h31
        refine RL.skip rfl rfl ?_
        refine RL.skip rfl rfl ?_
        refine RL.pickT rfl rfl rfl rfl ?_
        refine RL.fin ?_
        cases h31
        exact fun a w st => mid_intro true h32 (St.cut [0, 1] ⟨rfl, rfl, rfl, rfl, trivial⟩ (by decide) rfl st)
      · replace h31 := ite_f b40 h31
        obtain ⟨y41, e42, h31⟩ := bind_some h31
        refine RL.callV (v := .bool y41) (vs := []) Try_fit14 rfl (Or.inl rfl) rfl rfl rfl rfl (fun U w hU hW hL => pk_worths_c U w hU  _ e42) ?_
        refine RL.notB rfl rfl rfl ?_
        refine RL.pickF rfl rfl rfl rfl ?_
        refine RL.fin ?_
        cases h31
        exact fun a w st => mid_intro (!y41) h32 (St.cut [0, 1] ⟨rfl, rfl, rfl, rfl, trivial⟩ (by decide) rfl st)
  · rintro x28 h43
    have h44 := h33 _ h43
    try dsimp only at h44
    refine GL.weak (env' := [(0, .int .i64 x0), (1, v1), (2, v2), (39, .bool x28)]) (L' := [imm (TR.sl TR.int) v1 x1, imm (TR.sl TR.int) v2 x2]) (fun _ _ st => st) ?_
    refine GL.cond rfl (fun b45 => ?_) (fun b45 => ?_)
    · replace h44 := ite_t b45 h44
      refine GL.seq ?_
      refine GL.region ?_
      refine RL.asg rfl rfl rfl ?_
      refine RL.finG ?_
      have h44 := Option.some.inj h44
      subst h44
      exact GL.ret (Gx.ret (v := .bool false) (res1 rfl rfl) (fun a w st => st.toPostV))
    · replace h44 := ite_f b45 h44
      refine GL.skip ?_
      refine GL.seq ?_
      refine GL.region ?_
      refine RL.mv rfl rfl rfl ?_
      obtain ⟨y48, e49, h44⟩ := bind_some h44
      refine RL.callC (v := .int .i64 y48) (vs := [.int .i64 x0, .int .i64 (5 : Int)]) Try_fit15 rfl rfl rfl rfl (fun U w hU hW hL => pk_Within_c U w hU x0 (5 : Int) _ e49) ?_
      refine RL.binI (v := .int .i64 (wadd (1 : Int) y48)) rfl rfl rfl rfl rfl ?_
      refine RL.asg rfl rfl rfl ?_
      refine RL.finG ?_
      refine GL.seq ?_
      refine GL.region ?_
      refine RL.mv rfl rfl rfl ?_
      refine RL.mv rfl rfl rfl ?_
      obtain ⟨y53, e54, h44⟩ := bind_some h44
      refine RL.call (vs := [.int .i64 (wadd (1 : Int) y48), v1]) Try_fit16 rfl rfl rfl rfl rfl (fun S f w hS hW hi => pk_GameOf_c S w hS (wadd (1 : Int) y48) _ _ (hi 0 _ rfl) _ e54) ?_
      intro v55
      refine RL.asg rfl rfl rfl ?_
      refine RL.finG ?_
      refine GL.seq ?_
      refine GL.region ?_
      refine RL.mv rfl rfl rfl ?_
      obtain ⟨y59, e60, h44⟩ := bind_some h44
      refine RL.call (vs := [.int .i64 (wadd (1 : Int) y48)]) Try_fit31 rfl rfl rfl rfl rfl (fun S f w hS hW hi => order_All_c S w hS (wadd (1 : Int) y48) _ e60) ?_
      intro v61
      refine RL.reL (L' := [imm (TR.sl TR.int) v1 x1, imm (TR.sl TR.int) v2 x2, own 3 TR.int v55 y53, own 22 (TR.sl TR.int) v61 y59.1]) rfl ?_
      refine RL.mv rfl rfl rfl ?_
      refine RL.ext rfl rfl rfl rfl ?_
      refine RL.ext rfl rfl rfl rfl ?_
      refine RL.asg rfl rfl rfl ?_
      refine RL.asg rfl rfl rfl ?_
      refine RL.finG ?_
      refine GL.seq ?_
      refine GL.region ?_
      refine RL.mv rfl rfl rfl ?_
      refine RL.mv rfl rfl rfl ?_
      refine RL.weak (fun a w st => st.freeze 2 rfl) ?_
      obtain ⟨y65, e66, h44⟩ := bind_some h44
      refine RL.call (vs := [.int .i64 (wadd (1 : Int) y48), v55]) Try_fit17 rfl rfl rfl rfl rfl (fun S f w hS hW hi => worth_Share_c S w hS (wadd (1 : Int) y48) _ _ (hi 2 _ rfl) _ e66) ?_
      intro v67
      refine RL.reL (L' := [imm (TR.sl TR.int) v1 x1, imm (TR.sl TR.int) v2 x2, imm (TR.sl TR.int) v55 y53, own 22 (TR.sl TR.int) v61 y59.1, own 3 TR.int v67 y65.1]) rfl ?_
      refine RL.mv rfl rfl rfl ?_
      refine RL.ext rfl rfl rfl rfl ?_
      refine RL.ext rfl rfl rfl rfl ?_
      refine RL.asg rfl rfl rfl ?_
      refine RL.asg rfl rfl rfl ?_
      refine RL.finG ?_
      refine GL.seq ?_
      refine GL.seq ?_
      refine GL.region ?_
      refine RL.mv rfl rfl rfl ?_
      refine RL.mv rfl rfl rfl ?_
      refine RL.bS (t := TR.int) (vs := [.int .i64 y59.2, .int .i64 y65.2]) ([y59.2, y65.2] : (List Int)) Try.underlying53 Try_lo26 rfl rfl rfl rfl ⟨VR.int, ⟨VR.int, trivial⟩⟩ rfl (by decide) ?_
      intro v71
      obtain ⟨y72, e73, h44⟩ := bind_some h44
      refine RL.callV (v := .bool y72) (vs := [v71]) Try_fit18 rfl (Or.inl rfl) rfl rfl rfl rfl (fun U w hU hW hL => pk_good_c U w hU _ _ (hL 5 _ _ rfl Seen.own) _ e73) ?_
      refine RL.notB rfl rfl rfl ?_
      refine RL.finG ?_
      refine GL.cond rfl (fun b74 => ?_) (fun b74 => ?_)
      · replace h44 := ite_t b74 h44
        refine GL.seq ?_
        refine GL.region ?_
        refine RL.asg rfl rfl rfl ?_
        refine RL.finG ?_
        have h44 := Option.some.inj h44
        subst h44
        exact GL.ret (Gx.ret (v := .bool false) (res1 rfl rfl) (fun a w st => st.toPostV))
      · replace h44 := ite_f b74 h44
        refine GL.skip ?_
        refine GL.seq ?_
        refine GL.region ?_
        refine RL.mv rfl rfl rfl ?_
        obtain ⟨y78, e79, h44⟩ := bind_some h44
        replace e79 := chk_some e79
        refine RL.mkS (t := TR.int) (z := (0 : Int)) Try.underlying22 Try_lo3 (fun S => rfl) rfl rfl rfl rfl e79.1 e79.2 ?_
        intro v80
        refine RL.reL (L' := [imm (TR.sl TR.int) v1 x1, imm (TR.sl TR.int) v2 x2, imm (TR.sl TR.int) v55 y53, own 22 (TR.sl TR.int) v61 y59.1, own 3 TR.int v67 y65.1, own 26 TR.int v71 ([y59.2, y65.2] : (List Int)), own 3 TR.int v80 (List.replicate (wadd (1 : Int) y48).toNat (0 : Int))]) rfl ?_
        refine RL.asg rfl rfl rfl ?_
        refine RL.finG ?_
        refine GL.seq ?_
        refine GL.seq ?_
        refine GL.region ?_
        refine RL.mv rfl rfl rfl ?_
        refine RL.lenS 3 Try.underlying45 rfl rfl rfl rfl SlOf.own ?_
        refine RL.mv rfl rfl rfl ?_
        refine RL.finG ?_
        refine GL.lenOwn 3 rfl (fun n283 => ?_)
        obtain ⟨y284, K285, h286, h287, h288, h289, h290⟩ := bindR_K h44
        refine GL.join (ι := (List Int) × Value) (fun (p : (List Int) × Value) => [(0, .int .i64 (wadd (1 : Int) y48)), (2, v2), (9, v55), (12, v67), (14, p.2)]) (fun (p : (List Int) × Value) => [imm (TR.sl TR.int) v2 x2, imm (TR.sl TR.int) v55 y53, own 3 TR.int v67 y65.1, own 3 TR.int p.2 p.1]) (fun (p : (List Int) × Value) => K285 (.nx p.1)) ?_ ?_
        · refine GL.block ?_
          refine GL.loop (ι := Nat × Nat × (List Int) × Value) (fun (p : Nat × Nat × (List Int) × Value) => [(0, .int .i64 (wadd (1 : Int) y48)), (2, v2), (9, v55), (12, v67), (14, p.2.2.2), (64, v61), (65, .int .i64 ((y59.1).length : Int)), (66, .int .i64 (p.1 : Int))]) (fun (p : Nat × Nat × (List Int) × Value) => [imm (TR.sl TR.int) v2 x2, imm (TR.sl TR.int) v55 y53, own 3 TR.int v67 y65.1, own 3 TR.int p.2.2.2 p.2.2.1, own 22 (TR.sl TR.int) v61 y59.1]) (fun (p : Nat × Nat × (List Int) × Value) => p.1 + p.2.1 = (y59.1).length ∧ rangeN (pk_WorthRows_b1 y59 y48 y53) p.2.1 p.1 p.2.2.1 = some y284) (fun (p : Nat × Nat × (List Int) × Value) => p.2.1) (0, (y59.1).length, (List.replicate (wadd (1 : Int) y48).toNat (0 : Int)), v80) ⟨by simp, h286⟩ (fun a w st => St.cut [1, 2, 4, 6, 3] ⟨rfl, rfl, rfl, rfl, rfl, rfl, rfl, rfl, trivial⟩ (by decide) rfl st) ?_
          rintro ⟨i291, r292, l181, v182⟩ ⟨h297, h296⟩
          try dsimp only at h297 h296
          refine GL.weak (env' := [(0, .int .i64 (wadd (1 : Int) y48)), (2, v2), (9, v55), (12, v67), (14, v182), (64, v61), (65, .int .i64 ((y59.1).length : Int)), (66, .int .i64 (i291 : Int))]) (L' := [imm (TR.sl TR.int) v2 x2, imm (TR.sl TR.int) v55 y53, own 3 TR.int v67 y65.1, own 3 TR.int v182 l181, own 22 (TR.sl TR.int) v61 y59.1]) (fun _ _ st => st) ?_
          refine GL.seq ?_
          refine GL.region ?_
          refine RL.binI (v := .bool (decide ((i291 : Int) < ((y59.1).length : Int)))) rfl rfl rfl rfl rfl ?_
          refine RL.finG ?_
          refine GL.seq ?_
          refine GL.cond rfl (fun b299 => ?_) (fun b299 => ?_)
          · have h300 : i291 < (y59.1).length := by have := of_decide_eq_true b299; omega
            obtain ⟨r301, hr⟩ : ∃ m, r292 = m + 1 := ⟨r292 - 1, by omega⟩
            subst hr
            obtain ⟨z293, h294, h295⟩ := rangeN_some h296
            unfold pk_WorthRows_b1 at h294
            try dsimp only at h294
            refine GL.skip ?_
            refine GL.seq ?_
            refine GL.block ?_
            refine GL.seq ?_
            refine GL.region ?_
            obtain ⟨y305, e306, h294⟩ := bind_some h294
            refine RL.idxS (sz := 1) 4 Try.underlying45 Try_ln22 rfl rfl rfl rfl rfl SlOf.own (idx_some e306).1 (idx_some e306).2.1 ?_
            refine RL.ldS (i := i291) (r := (TR.sl TR.int)) (e' := y305) 4 Try_ln22 rfl rfl rfl rfl SlOf.own (idx_some e306).2.2 Part.self ?_
            intro v307
            refine RL.asg rfl rfl rfl ?_
            refine RL.finG ?_
            refine GL.seq ?_
            refine GL.region ?_
            refine RL.mv rfl rfl rfl ?_
            refine RL.mv rfl rfl rfl ?_
            refine RL.mv rfl rfl rfl ?_
            obtain ⟨y311, e312, h294⟩ := bind_some h294
            refine RL.call (vs := [.int .i64 (wadd (1 : Int) y48), v55, v307]) Try_fit30 rfl rfl rfl rfl rfl (fun S f w hS hW hi => worth_Row_c S w hS (wadd (1 : Int) y48) _ _ (hi 1 _ rfl) _ _ (hi 5 _ rfl) _ e312) ?_
            intro v313
            refine RL.reL (L' := [imm (TR.sl TR.int) v2 x2, imm (TR.sl TR.int) v55 y53, own 3 TR.int v67 y65.1, own 3 TR.int v182 l181, own 22 (TR.sl TR.int) v61 y59.1, imm (TR.sl TR.int) v307 y305, own 3 TR.int v313 y311.1]) rfl ?_
            refine RL.mv rfl rfl rfl ?_
            refine RL.ext rfl rfl rfl rfl ?_
            refine RL.ext rfl rfl rfl rfl ?_
            refine RL.asg rfl rfl rfl ?_
            refine RL.asg rfl rfl rfl ?_
            refine RL.finG ?_
            refine GL.seq ?_
            refine GL.seq ?_
            obtain ⟨y327, K328, h329, h330, h331, h332, h333⟩ := bindF_K h294
            refine GL.join (ι := Bool) (fun (p : Bool) => [(0, .int .i64 (wadd (1 : Int) y48)), (2, v2), (9, v55), (12, v67), (14, v182), (17, v313), (64, v61), (65, .int .i64 ((y59.1).length : Int)), (66, .int .i64 (i291 : Int)), (95, .bool p)]) (fun (p : Bool) => [imm (TR.sl TR.int) v2 x2, imm (TR.sl TR.int) v55 y53, own 3 TR.int v67 y65.1, own 3 TR.int v182 l181, own 3 TR.int v313 y311.1, own 22 (TR.sl TR.int) v61 y59.1]) (fun (p : Bool) => K328 (.nx p)) ?_ ?_
            · skip
              refine GL.regionQ rfl rfl (by kernel_rfl) ?_
              refine RL.mv rfl rfl rfl ?_
              refine RL.binI (v := .bool (y311.2 != (0 : Int))) rfl rfl rfl rfl rfl ?_
              refine RL.mv rfl rfl rfl ?_
              refine RL.split (t := 79) rfl (fun b334 => ?_) (fun b334 => ?_)
              · replace h329 := ite_t b334 h329
                refine RL.skip rfl rfl ?_
                refine RL.skip rfl rfl ?_
                refine RL.skip rfl rfl ?_
                refine RL.skip rfl rfl ?_
                refine RL.pickT rfl rfl rfl rfl ?_
                refine RL.mv rfl rfl rfl ?_
                refine RL.skip rfl rfl ?_
                refine RL.skip rfl rfl ?_
                refine RL.skip rfl rfl ?_
                refine RL.skip rfl rfl ?_
                refine RL.skip rfl rfl ?_
                refine RL.skip rfl rfl ?_
                refine RL.skip rfl rfl ?_
                refine RL.skip rfl rfl ?_
                refine RL.skip rfl rfl ?_
                refine RL.pickT rfl rfl rfl rfl ?_
                refine RL.finQ ?_
                cases h329
                exact fun a w st => mid_intro true h330 (St.cut [0, 1, 2, 3, 6, 4] ⟨rfl, rfl, rfl, rfl, rfl, rfl, rfl, rfl, rfl, rfl, trivial⟩ (by decide) rfl st)
              · replace h329 := ite_f b334 h329
                refine RL.mv rfl rfl rfl ?_
                refine RL.lenS 6 Try.underlying22 rfl rfl rfl rfl SlOf.own ?_
                refine RL.mv rfl rfl rfl ?_
                refine RL.binI (v := .bool (((y311.1).length : Int) != (wadd (1 : Int) y48))) rfl rfl rfl rfl rfl ?_
                refine RL.pickF rfl rfl rfl rfl ?_
                refine RL.mv rfl rfl rfl ?_
                refine RL.split (t := 85) rfl (fun b335 => ?_) (fun b335 => ?_)
                · replace h329 := ite_t b335 h329
                  refine RL.skip rfl rfl ?_
                  refine RL.skip rfl rfl ?_
                  refine RL.skip rfl rfl ?_
                  refine RL.skip rfl rfl ?_
                  refine RL.skip rfl rfl ?_
                  refine RL.skip rfl rfl ?_
                  refine RL.skip rfl rfl ?_
                  refine RL.skip rfl rfl ?_
                  refine RL.skip rfl rfl ?_
                  refine RL.pickT rfl rfl rfl rfl ?_
                  refine RL.finQ ?_
                  cases h329
                  exact fun a w st => mid_intro true h330 (St.cut [0, 1, 2, 3, 6, 4] ⟨rfl, rfl, rfl, rfl, rfl, rfl, rfl, rfl, rfl, rfl, trivial⟩ (by decide) rfl st)
                · replace h329 := ite_f b335 h329
                  refine RL.mv rfl rfl rfl ?_
                  obtain ⟨y336, e337, h329⟩ := bind_some h329
                  refine RL.callC (v := .int .i64 y336) (vs := [v313]) Try_fit19 rfl rfl rfl rfl (fun U w hU hW hL => pk_sum_c U w hU _ _ (hL 6 _ _ rfl Seen.own) _ e337) ?_
                  refine RL.mv rfl rfl rfl ?_
                  refine RL.mv rfl rfl rfl ?_
                  refine RL.lenS 1 Try.underlying22 rfl rfl rfl rfl SlOf.imm ?_
                  refine RL.binI (v := .int .i64 (wsub ((y53).length : Int) (1 : Int))) rfl rfl rfl rfl rfl ?_
                  obtain ⟨y338, e339, h329⟩ := bind_some h329
                  refine RL.idxS (sz := 1) 1 Try.underlying22 Try_ln3 rfl rfl rfl rfl rfl SlOf.imm (idx_some e339).1 (idx_some e339).2.1 ?_
                  refine RL.ldSx (i := (wsub ((y53).length : Int) (1 : Int)).toNat) (e' := y338) 1 Ex.ik Try_ln3 rfl rfl rfl rfl SlOf.imm (idx_some e339).2.2 Part.self ?_
                  refine RL.binI (v := .bool (y336 != y338)) rfl rfl rfl rfl rfl ?_
                  refine RL.pickF rfl rfl rfl rfl ?_
                  refine RL.finQ ?_
                  cases h329
                  exact fun a w st => mid_intro (y336 != y338) h330 (St.cut [0, 1, 2, 3, 6, 4] ⟨rfl, rfl, rfl, rfl, rfl, rfl, rfl, rfl, rfl, rfl, trivial⟩ (by decide) rfl st)
            · rintro x326 h340
              have h341 := h331 _ h340
              try dsimp only at h341
              refine GL.weak (env' := [(0, .int .i64 (wadd (1 : Int) y48)), (2, v2), (9, v55), (12, v67), (14, v182), (17, v313), (64, v61), (65, .int .i64 ((y59.1).length : Int)), (66, .int .i64 (i291 : Int)), (95, .bool x326)]) (L' := [imm (TR.sl TR.int) v2 x2, imm (TR.sl TR.int) v55 y53, own 3 TR.int v67 y65.1, own 3 TR.int v182 l181, own 3 TR.int v313 y311.1, own 22 (TR.sl TR.int) v61 y59.1]) (fun _ _ st => st) ?_
              refine GL.cond rfl (fun b342 => ?_) (fun b342 => ?_)
              · replace h341 := ite_t b342 h341
                refine GL.seq ?_
                refine GL.region ?_
                refine RL.asg rfl rfl rfl ?_
                refine RL.finG ?_
                cases h341
                replace h295 : some (Fl.rt _) = some y284 := h295
                cases h295
                have hh := h289 _ h287
                subst hh
                exact GL.ret (Gx.ret (v := .bool false) (res1 rfl rfl) (fun a w st => st.toPostV))
              · replace h341 := ite_f b342 h341
                refine GL.skip ?_
                refine GL.seq ?_
                refine GL.region ?_
                refine RL.mv rfl rfl rfl ?_
                refine RL.lenS 4 Try.underlying22 rfl rfl rfl rfl SlOf.own ?_
                refine RL.mv rfl rfl rfl ?_
                refine RL.finG ?_
                refine GL.lenOwn 4 rfl (fun n369 => ?_)
                obtain ⟨y370, K371, h372, h373, h374, h375, h376⟩ := bindF_K h341
                refine GL.join (ι := (List Int) × Value) (fun (p : (List Int) × Value) => [(0, .int .i64 (wadd (1 : Int) y48)), (2, v2), (9, v55), (12, v67), (14, p.2), (64, v61), (65, .int .i64 ((y59.1).length : Int)), (66, .int .i64 (i291 : Int))]) (fun (p : (List Int) × Value) => [imm (TR.sl TR.int) v2 x2, imm (TR.sl TR.int) v55 y53, own 3 TR.int v67 y65.1, own 3 TR.int p.2 p.1, own 22 (TR.sl TR.int) v61 y59.1]) (fun (p : (List Int) × Value) => K371 (.nx p.1)) ?_ ?_
                · refine GL.block ?_
                  refine GL.loop (ι := Nat × Nat × (List Int) × Value) (fun (p : Nat × Nat × (List Int) × Value) => [(0, .int .i64 (wadd (1 : Int) y48)), (2, v2), (9, v55), (12, v67), (14, p.2.2.2), (17, v313), (64, v61), (65, .int .i64 ((y59.1).length : Int)), (66, .int .i64 (i291 : Int)), (97, .int .i64 ((y311.1).length : Int)), (98, .int .i64 (p.1 : Int))]) (fun (p : Nat × Nat × (List Int) × Value) => [imm (TR.sl TR.int) v2 x2, imm (TR.sl TR.int) v55 y53, own 3 TR.int v67 y65.1, own 3 TR.int p.2.2.2 p.2.2.1, own 3 TR.int v313 y311.1, own 22 (TR.sl TR.int) v61 y59.1]) (fun (p : Nat × Nat × (List Int) × Value) => p.1 + p.2.1 = (y311.1).length ∧ rangeN (pk_WorthRows_b2 y311) p.2.1 p.1 p.2.2.1 = some y370) (fun (p : Nat × Nat × (List Int) × Value) => p.2.1) (0, (y311.1).length, l181, v182) ⟨by simp, h372⟩ (fun a w st => St.cut [0, 1, 2, 3, 4, 5] ⟨rfl, rfl, rfl, rfl, rfl, rfl, rfl, rfl, rfl, rfl, rfl, trivial⟩ (by decide) rfl st) ?_
                  rintro ⟨i377, r378, l355, v356⟩ ⟨h383, h382⟩
                  try dsimp only at h383 h382
                  refine GL.weak (env' := [(0, .int .i64 (wadd (1 : Int) y48)), (2, v2), (9, v55), (12, v67), (14, v356), (17, v313), (64, v61), (65, .int .i64 ((y59.1).length : Int)), (66, .int .i64 (i291 : Int)), (97, .int .i64 ((y311.1).length : Int)), (98, .int .i64 (i377 : Int))]) (L' := [imm (TR.sl TR.int) v2 x2, imm (TR.sl TR.int) v55 y53, own 3 TR.int v67 y65.1, own 3 TR.int v356 l355, own 3 TR.int v313 y311.1, own 22 (TR.sl TR.int) v61 y59.1]) (fun _ _ st => st) ?_
                  refine GL.seq ?_
                  refine GL.region ?_
                  refine RL.binI (v := .bool (decide ((i377 : Int) < ((y311.1).length : Int)))) rfl rfl rfl rfl rfl ?_
                  refine RL.finG ?_
                  refine GL.seq ?_
                  refine GL.cond rfl (fun b385 => ?_) (fun b385 => ?_)
                  · have h386 : i377 < (y311.1).length := by have := of_decide_eq_true b385; omega
                    obtain ⟨r387, hr⟩ : ∃ m, r378 = m + 1 := ⟨r378 - 1, by omega⟩
                    subst hr
                    obtain ⟨z379, h380, h381⟩ := rangeN_some h382
                    unfold pk_WorthRows_b2 at h380
                    try dsimp only at h380
                    refine GL.skip ?_
                    refine GL.seq ?_
                    refine GL.block ?_
                    refine GL.seq ?_
                    refine GL.region ?_
                    refine RL.mv rfl rfl rfl ?_
                    refine RL.asg rfl rfl rfl ?_
                    refine RL.finG ?_
                    refine GL.regionH 10 rfl rfl (by kernel_rfl) ?_
                    simp only [List.take_succ_cons, List.take_zero, List.drop_succ_cons, List.drop_zero]
                    refine RL.mv rfl rfl rfl ?_
                    refine RL.mv rfl rfl rfl ?_
                    obtain ⟨y394, e395, h380⟩ := bind_some h380
                    refine RL.idxS (sz := 1) 3 Try.underlying22 Try_ln3 rfl rfl rfl rfl rfl SlOf.own (idx_some e395).1 (idx_some e395).2.1 ?_
                    refine RL.ldSx (i := i377) (e' := y394) 3 Ex.ik Try_ln3 rfl rfl rfl rfl SlOf.own (idx_some e395).2.2 Part.self ?_
                    refine RL.mv rfl rfl rfl ?_
                    refine RL.mv rfl rfl rfl ?_
                    obtain ⟨y396, e397, h380⟩ := bind_some h380
                    refine RL.idxS (sz := 1) 4 Try.underlying22 Try_ln3 rfl rfl rfl rfl rfl SlOf.own (idx_some e397).1 (idx_some e397).2.1 ?_
                    refine RL.ldSx (i := i377) (e' := y396) 4 Ex.ik Try_ln3 rfl rfl rfl rfl SlOf.own (idx_some e397).2.2 Part.self ?_
                    refine RL.binI (v := .int .i64 (wadd y394 y396)) rfl rfl rfl rfl rfl ?_
                    obtain ⟨y398, e399, h380⟩ := bind_some h380
                    refine RL.idxS (sz := 1) 3 Try.underlying22 Try_ln3 rfl rfl rfl rfl rfl SlOf.own (idx_some e399).1 (idx_some e399).2.1 ?_
                    refine RL.finH ?_
                    refine RL.stS (i := i377) (e' := wadd y394 y396) (e1 := wadd y394 y396) (r := TR.int) 3 Try_ln3 rfl rfl rfl rfl VR.int rfl (idx_some e399).2.2 Upd.self ?_
                    refine RL.finG ?_
                    refine GL.nilB ?_
                    refine GL.region ?_
                    refine RL.binI (v := .int .i64 ((i377 + 1 : Nat) : Int)) rfl rfl rfl rfl (binI_succ i377 (by omega)) ?_
                    refine RL.mv rfl rfl rfl ?_
                    refine RL.fin ?_
                    cases h380
                    exact fun a w st => lop_intro (i377 + 1, r387, (List.set l355 i377 (wadd y394 y396)), v356) ⟨by show i377 + 1 + r387 = (y311.1).length; omega, h381⟩ (by simp) (St.cut [0, 1, 2, 3, 4, 5] ⟨rfl, rfl, rfl, rfl, rfl, rfl, rfl, rfl, rfl, rfl, rfl, trivial⟩ (by decide) rfl st)
                  · have h386 : ¬ i377 < (y311.1).length := by have := of_decide_eq_false b385; omega
                    obtain rfl : r378 = 0 := by omega
                    replace h382 : some (Fl.nx _) = some y370 := h382
                    cases h382
                    exact GL.exit (fun a w st => mid_intro (l355, v356) h373 (St.cut [0, 1, 2, 3, 5] ⟨rfl, rfl, rfl, rfl, rfl, rfl, rfl, rfl, trivial⟩ (by decide) rfl st))
                · rintro ⟨l355, v356⟩ h400
                  have h401 := h374 _ h400
                  try dsimp only at h401
                  refine GL.weak (env' := [(0, .int .i64 (wadd (1 : Int) y48)), (2, v2), (9, v55), (12, v67), (14, v356), (64, v61), (65, .int .i64 ((y59.1).length : Int)), (66, .int .i64 (i291 : Int))]) (L' := [imm (TR.sl TR.int) v2 x2, imm (TR.sl TR.int) v55 y53, own 3 TR.int v67 y65.1, own 3 TR.int v356 l355, own 22 (TR.sl TR.int) v61 y59.1]) (fun _ _ st => st) ?_
                  refine GL.nilB ?_
                  refine GL.region ?_
                  refine RL.binI (v := .int .i64 ((i291 + 1 : Nat) : Int)) rfl rfl rfl rfl (binI_succ i291 (by omega)) ?_
                  refine RL.mv rfl rfl rfl ?_
                  refine RL.fin ?_
                  cases h401
                  exact fun a w st => lop_intro (i291 + 1, r301, l355, v356) ⟨by show i291 + 1 + r301 = (y59.1).length; omega, h295⟩ (by simp) (St.cut [0, 1, 2, 3, 4] ⟨rfl, rfl, rfl, rfl, rfl, rfl, rfl, rfl, trivial⟩ (by decide) rfl st)
          · have h300 : ¬ i291 < (y59.1).length := by have := of_decide_eq_false b299; omega
            obtain rfl : r292 = 0 := by omega
            replace h296 : some (Fl.nx _) = some y284 := h296
            cases h296
            exact GL.exit (fun a w st => mid_intro (l181, v182) h287 (St.cut [0, 1, 2, 3] ⟨rfl, rfl, rfl, rfl, rfl, trivial⟩ (by decide) rfl st))
        · rintro ⟨l181, v182⟩ h402
          have h403 := h288 _ h402
          try dsimp only at h403
          refine GL.weak (env' := [(0, .int .i64 (wadd (1 : Int) y48)), (2, v2), (9, v55), (12, v67), (14, v182)]) (L' := [imm (TR.sl TR.int) v2 x2, imm (TR.sl TR.int) v55 y53, own 3 TR.int v67 y65.1, own 3 TR.int v182 l181]) (fun _ _ st => st) ?_
          refine GL.seq ?_
          refine GL.region ?_
          refine RL.mv rfl rfl rfl ?_
          refine RL.mv rfl rfl rfl ?_
          refine RL.mv rfl rfl rfl ?_
          obtain ⟨y407, e408, h403⟩ := bind_some h403
          refine RL.call (vs := [.int .i64 (wadd (1 : Int) y48), v55, v2]) Try_fit30 rfl rfl rfl rfl rfl (fun S f w hS hW hi => worth_Row_c S w hS (wadd (1 : Int) y48) _ _ (hi 1 _ rfl) _ _ (hi 0 _ rfl) _ e408) ?_
          intro v409
          refine RL.mv rfl rfl rfl ?_
          refine RL.ext rfl rfl rfl rfl ?_
          refine RL.ext rfl rfl rfl rfl ?_
          refine RL.asg rfl rfl rfl ?_
          refine RL.asg rfl rfl rfl ?_
          refine RL.finG ?_
          refine GL.seq ?_
          obtain ⟨y421, K422, h423, h424, h425, h426, h427⟩ := bindR_K h403
          refine GL.join (ι := Bool) (fun (p : Bool) => [(6, .bool p)]) (fun (p : Bool) => []) (fun (p : Bool) => K422 (.nx p)) ?_ ?_
          · skip
            refine GL.region ?_
            refine RL.mv rfl rfl rfl ?_
            refine RL.mv rfl rfl rfl ?_
            obtain ⟨y428, e429, h423⟩ := bind_some h423
            refine RL.callV (v := .bool y428) (vs := [v182, v67]) Try_fit20 rfl (Or.inl rfl) rfl rfl rfl rfl (fun U w hU hW hL => slices_Equal_int_int_c U w hU _ _ (hL 3 _ _ rfl Seen.own) _ _ (hL 2 _ _ rfl Seen.own) _ e429) ?_
            refine RL.mv rfl rfl rfl ?_
            refine RL.split (t := 123) rfl (fun b430 => ?_) (fun b430 => ?_)
            · replace h423 := ite_t b430 h423
              refine RL.mv rfl rfl rfl ?_
              refine RL.binI (v := .bool (y407.2 == (0 : Int))) rfl rfl rfl rfl rfl ?_
              refine RL.mv rfl rfl rfl ?_
              refine RL.split (t := 126) rfl (fun b431 => ?_) (fun b431 => ?_)
              · replace h423 := ite_t b431 h423
                refine RL.skip rfl rfl ?_
                refine RL.skip rfl rfl ?_
                refine RL.skip rfl rfl ?_
                refine RL.skip rfl rfl ?_
                refine RL.skip rfl rfl ?_
                refine RL.skip rfl rfl ?_
                refine RL.skip rfl rfl ?_
                refine RL.pickT rfl rfl rfl rfl ?_
                refine RL.pickT rfl rfl rfl rfl ?_
                refine RL.asg rfl rfl rfl ?_
                refine RL.fin ?_
                cases h423
                exact fun a w st => mid_intro true h424 (St.cut [] ⟨rfl, trivial⟩ (by decide) rfl st)
              · replace h423 := ite_f b431 h423
                refine RL.mv rfl rfl rfl ?_
                refine RL.binI (v := .bool (y407.2 == (3 : Int))) rfl rfl rfl rfl rfl ?_
                refine RL.mv rfl rfl rfl ?_
                refine RL.split (t := 129) rfl (fun b432 => ?_) (fun b432 => ?_)
                · replace h423 := ite_t b432 h423
                  refine RL.mv rfl rfl rfl ?_
                  refine RL.lenS 4 Try.underlying22 rfl rfl rfl rfl SlOf.own ?_
                  refine RL.binI (v := .bool (((y407.1).length : Int) == (0 : Int))) rfl rfl rfl rfl rfl ?_
                  refine RL.pickT rfl rfl rfl rfl ?_
                  refine RL.pickF rfl rfl rfl rfl ?_
                  refine RL.pickT rfl rfl rfl rfl ?_
                  refine RL.asg rfl rfl rfl ?_
                  refine RL.fin ?_
                  cases h423
                  exact fun a w st => mid_intro (((y407.1).length : Int) == (0 : Int)) h424 (St.cut [] ⟨rfl, trivial⟩ (by decide) rfl st)
                · replace h423 := ite_f b432 h423
                  refine RL.skip rfl rfl ?_
                  refine RL.skip rfl rfl ?_
                  refine RL.skip rfl rfl ?_
                  refine RL.pickF rfl rfl rfl rfl ?_
                  refine RL.pickF rfl rfl rfl rfl ?_
                  refine RL.pickT rfl rfl rfl rfl ?_
                  refine RL.asg rfl rfl rfl ?_
                  refine RL.fin ?_
                  cases h423
                  exact fun a w st => mid_intro false h424 (St.cut [] ⟨rfl, trivial⟩ (by decide) rfl st)
            · replace h423 := ite_f b430 h423
              refine RL.skip rfl rfl ?_
              refine RL.skip rfl rfl ?_
              refine RL.skip rfl rfl ?_
              refine RL.skip rfl rfl ?_
              refine RL.skip rfl rfl ?_
              refine RL.skip rfl rfl ?_
              refine RL.skip rfl rfl ?_
              refine RL.skip rfl rfl ?_
              refine RL.skip rfl rfl ?_
              refine RL.skip rfl rfl ?_
              refine RL.skip rfl rfl ?_
              refine RL.pickF rfl rfl rfl rfl ?_
              refine RL.asg rfl rfl rfl ?_
              refine RL.fin ?_
              cases h423
              exact fun a w st => mid_intro false h424 (St.cut [] ⟨rfl, trivial⟩ (by decide) rfl st)
          · rintro x420 h433
            have h434 := h425 _ h433
            try dsimp only at h434
            refine GL.weak (env' := [(6, .bool x420)]) (L' := []) (fun _ _ st => st) ?_
            have h434 := Option.some.inj h434
            subst h434
            exact GL.ret (Gx.ret (v := .bool x420) (res1 rfl rfl) (fun a w st => st.toPostV))
end Go.Wk
