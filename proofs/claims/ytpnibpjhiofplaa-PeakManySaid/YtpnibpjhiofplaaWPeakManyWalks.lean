/- Each function comes to what its model says; printed by a program of this repository. -/
import Derived.Test.YtpnibpjhiofplaaProg
import Derived.Test.YtpnibpjhiofplaaWPeakManyModels
namespace Go.Wk
open Go.Fw Go.Mo Go.Proofs Go.RowKit
set_option linter.all false
set_option maxRecDepth 100000
theorem loopNx {ρ σ β γ : Type} {body : σ → Option (Fl ρ β σ)} {n : Nat} {s : σ} {y : Fl ρ γ β} (h : stepM body n (.nx s) = some y) : loopM body n s = some y := h
theorem Try_info3 : (Try.prog.info? 3).map (fun i => (i.zero, i.size, i.bytes)) = some (some (.int .i64 0), 1, 8) := by kernel_rfl
theorem Try_ln3 : Ln Try.prog 3 1 false := Ln.of Try_info3 Try.underlying3 rfl
theorem Try_lo3 : LnO Try.prog 3 1 [.int .i64 0] := LnO.of Try_info3 rfl rfl (by decide) (by decide)
theorem Try_info4 : (Try.prog.info? 4).map (fun i => (i.zero, i.size, i.bytes)) = some (some (.bool false), 1, 1) := by kernel_rfl
theorem Try_ln4 : Ln Try.prog 4 1 false := Ln.of Try_info4 Try.underlying4 rfl
theorem Try_lo4 : LnO Try.prog 4 1 [.bool false] := LnO.of Try_info4 rfl rfl (by decide) (by decide)
theorem Try_info22 : (Try.prog.info? 22).map (fun i => (i.zero, i.size, i.bytes)) = some (some (.slice none 0 0), 1, 24) := by kernel_rfl
theorem Try_ln22 : Ln Try.prog 22 1 false := Ln.of Try_info22 Try.underlying22 rfl
theorem Try_lo22 : LnO Try.prog 22 1 [.slice none 0 0] := LnO.of Try_info22 rfl rfl (by decide) (by decide)
theorem Try_info29 : (Try.prog.info? 29).map (fun i => (i.zero, i.size, i.bytes)) = some (some (.int .i64 0), 1, 8) := by kernel_rfl
theorem Try_ln29 : Ln Try.prog 29 1 false := Ln.of Try_info29 Try.underlying29 rfl
theorem Try_lo29 : LnO Try.prog 29 1 [.int .i64 0] := LnO.of Try_info29 rfl rfl (by decide) (by decide)
theorem Try_info76 : (Try.prog.info? 76).map (fun i => (i.zero, i.size, i.bytes)) = some (some (.agg #[.bool false, .bool false, .bool false, .bool false, .bool false, .bool false]), 6, 6) := by kernel_rfl
theorem Try_ln76 : Ln Try.prog 76 6 true := Ln.of Try_info76 Try.underlying76 rfl
theorem Try_lo76 : LnO Try.prog 76 6 [.bool false, .bool false, .bool false, .bool false, .bool false, .bool false] := LnO.of Try_info76 rfl rfl (by decide) (by decide)
theorem Try_fit15 : Fit Try.prog 15 := Fit.of Try.func15 (by kernel_rfl) rfl
theorem Try_fit16 : Fit Try.prog 16 := Fit.of Try.func16 (by kernel_rfl) rfl
theorem Try_fit17 : Fit Try.prog 17 := Fit.of Try.func17 (by kernel_rfl) rfl
theorem Try_fit18 : Fit Try.prog 18 := Fit.of Try.func18 (by kernel_rfl) rfl
theorem Try_fit19 : Fit Try.prog 19 := Fit.of Try.func19 (by kernel_rfl) rfl
theorem Try_fit20 : Fit Try.prog 20 := Fit.of Try.func20 (by kernel_rfl) rfl
theorem Try_fit21 : Fit Try.prog 21 := Fit.of Try.func21 (by kernel_rfl) rfl
theorem Try_fit22 : Fit Try.prog 22 := Fit.of Try.func22 (by kernel_rfl) rfl
theorem Try_fit36 : Fit Try.prog 36 := Fit.of Try.func36 (by kernel_rfl) rfl
theorem Try_fit39 : Fit Try.prog 39 := Fit.of Try.func39 (by kernel_rfl) rfl
theorem Try_fit50 : Fit Try.prog 50 := Fit.of Try.func50 (by kernel_rfl) rfl
theorem Try_fit51 : Fit Try.prog 51 := Fit.of Try.func51 (by kernel_rfl) rfl
theorem Try_fit52 : Fit Try.prog 52 := Fit.of Try.func52 (by kernel_rfl) rfl
theorem Try_fit53 : Fit Try.prog 53 := Fit.of Try.func53 (by kernel_rfl) rfl
theorem Try_fit54 : Fit Try.prog 54 := Fit.of Try.func54 (by kernel_rfl) rfl
theorem Try_fit61 : Fit Try.prog 61 := Fit.of Try.func61 (by kernel_rfl) rfl
theorem Try_fit69 : Fit Try.prog 69 := Fit.of Try.func69 (by kernel_rfl) rfl

set_option maxHeartbeats 4000000 in
theorem order_Check_c (S : Hp) (w : World) (hS : S.sub w) (x0 : Int) (v1 : Value) (x1 : (List Int)) (k1 : ((TR.sl TR.int)).vrep S v1 x1) (res : Int) (hm : order_Check_m x0 x1 = some res) : Calls Try.prog 36 #[.int .i64 x0, v1] w (PostV w (.int .i64 res)) := by
  refine calls_enter 39 Try.func36 Try.ntmps36 rfl S false [(0, .int .i64 x0), (1, v1)] [imm (TR.sl TR.int) v1 x1] rfl ⟨rfl, ⟨rfl, trivial⟩⟩ hS ⟨k1, trivial⟩ ?_
  unfold order_Check_m at hm
  refine GL.seq ?_
  refine GL.region ?_
  refine RL.asg rfl rfl rfl ?_
  refine RL.finG ?_
  refine GL.seq ?_
  refine GL.seq ?_
  obtain ⟨y6, K7, h8, h9, h10, h11, h12⟩ := bindR_K hm
  refine GL.join (ι := Bool) (fun (p : Bool) => [(0, .int .i64 x0), (1, v1), (13, .bool p)]) (fun (p : Bool) => [imm (TR.sl TR.int) v1 x1]) (fun (p : Bool) => K7 (.nx p)) ?_ ?_
  · skip
    refine GL.region ?_
    refine RL.mv rfl rfl rfl ?_
    refine RL.binI (v := .bool (decide (x0 < (1 : Int)))) rfl rfl rfl rfl rfl ?_
    refine RL.mv rfl rfl rfl ?_
    refine RL.split (t := 10) rfl (fun b13 => ?_) (fun b13 => ?_)
    · replace h8 := ite_t b13 h8
      refine RL.skip rfl rfl ?_
      refine RL.skip rfl rfl ?_
      refine RL.pickT rfl rfl rfl rfl ?_
      refine RL.fin ?_
      cases h8
      exact fun a w st => mid_intro true h9 (St.cut [0] ⟨rfl, rfl, rfl, trivial⟩ (by decide) rfl st)
    · replace h8 := ite_f b13 h8
      refine RL.mv rfl rfl rfl ?_
      refine RL.binI (v := .bool (decide (x0 > (6 : Int)))) rfl rfl rfl rfl rfl ?_
      refine RL.pickF rfl rfl rfl rfl ?_
      refine RL.fin ?_
      cases h8
      exact fun a w st => mid_intro (decide (x0 > (6 : Int))) h9 (St.cut [0] ⟨rfl, rfl, rfl, trivial⟩ (by decide) rfl st)
  · rintro x5 h14
    have h15 := h10 _ h14
    try dsimp only at h15
    refine GL.weak (env' := [(0, .int .i64 x0), (1, v1), (13, .bool x5)]) (L' := [imm (TR.sl TR.int) v1 x1]) (fun _ _ st => st) ?_
    refine GL.cond rfl (fun b16 => ?_) (fun b16 => ?_)
    · replace h15 := ite_t b16 h15
      refine GL.seq ?_
      refine GL.region ?_
      refine RL.asg rfl rfl rfl ?_
      refine RL.finG ?_
      have h15 := Option.some.inj h15
      subst h15
      exact GL.ret (Gx.ret (v := .int .i64 (1 : Int)) (res1 rfl rfl) (fun a w st => st.toPostV))
    · replace h15 := ite_f b16 h15
      refine GL.skip ?_
      refine GL.seq ?_
      refine GL.region ?_
      refine RL.alloc (t := (TR.arr 6 TR.bool)) (z := (List.replicate 6 false)) Try_lo76 (fun S => ⟨rfl, ⟨_, _, rfl, rfl, ⟨_, _, rfl, rfl, ⟨_, _, rfl, rfl, ⟨_, _, rfl, rfl, ⟨_, _, rfl, rfl, ⟨_, _, rfl, rfl, rfl⟩⟩⟩⟩⟩⟩⟩) rfl rfl rfl ?_
      intro v18
      refine RL.finG ?_
      refine GL.seq ?_
      refine GL.seq ?_
      refine GL.region ?_
      refine RL.mv rfl rfl rfl ?_
      refine RL.lenS 0 Try.underlying22 rfl rfl rfl rfl SlOf.imm ?_
      refine RL.mv rfl rfl rfl ?_
      refine RL.finG ?_
      refine GL.open_ 0 rfl (fun S h => len_imm S h) (fun n82 => ?_)
      obtain ⟨y83, K84, h85, h86, h87, h88, h89⟩ := bindR_K h15
      refine GL.join (ι := (List Bool)) (fun (p : (List Bool)) => [(0, .int .i64 x0), (1, v1)]) (fun (p : (List Bool)) => [imm (TR.sl TR.int) v1 x1]) (fun (p : (List Bool)) => K84 (.nx p)) ?_ ?_
      · refine GL.block ?_
        refine GL.loop (ι := Nat × (List Int) × (List Bool)) (fun (p : Nat × (List Int) × (List Bool)) => [(0, .int .i64 x0), (1, v1), (5, v18), (14, v1), (15, .int .i64 ((x1).length : Int)), (16, .int .i64 (p.1 : Int))]) (fun (p : Nat × (List Int) × (List Bool)) => [imm (TR.sl TR.int) v1 x1, obox 76 (TR.arr 6 TR.bool) v18 p.2.2]) (fun (p : Nat × (List Int) × (List Bool)) => p.1 + p.2.1.length = (x1).length ∧ List.drop p.1 x1 = p.2.1 ∧ rangeL (order_Check_b1 x0) p.2.1 p.1 p.2.2 = some y83) (fun (p : Nat × (List Int) × (List Bool)) => p.2.1.length) (0, x1, (List.replicate 6 false)) ⟨by simp, by simp, h85⟩ (fun a w st => St.cut [0, 1] ⟨rfl, rfl, rfl, rfl, rfl, rfl, trivial⟩ (by decide) rfl st) ?_
        rintro ⟨i90, r91, l50⟩ ⟨h96, h97, h95⟩
        try dsimp only at h96 h97 h95
        refine GL.weak (env' := [(0, .int .i64 x0), (1, v1), (5, v18), (14, v1), (15, .int .i64 ((x1).length : Int)), (16, .int .i64 (i90 : Int))]) (L' := [imm (TR.sl TR.int) v1 x1, obox 76 (TR.arr 6 TR.bool) v18 l50]) (fun _ _ st => st) ?_
        refine GL.seq ?_
        refine GL.region ?_
        refine RL.binI (v := .bool (decide ((i90 : Int) < ((x1).length : Int)))) rfl rfl rfl rfl rfl ?_
        refine RL.finG ?_
        refine GL.seq ?_
        refine GL.cond rfl (fun b98 => ?_) (fun b98 => ?_)
        · have h99 : i90 < (x1).length := by have := of_decide_eq_true b98; omega
          obtain ⟨y100, r102, hr, e101, h103⟩ := drop_cons h97 rfl h99
          subst hr
          obtain ⟨z92, h93, h94⟩ := rangeL_some h95
          unfold order_Check_b1 at h93
          try dsimp only at h93
          refine GL.skip ?_
          refine GL.seq ?_
          refine GL.block ?_
          refine GL.seq ?_
          refine GL.region ?_
          refine RL.idxS (sz := 1) 0 Try.underlying22 Try_ln3 rfl rfl rfl rfl rfl SlOf.imm (by omega) (by omega) ?_
          refine RL.ldSx (i := i90) (e' := y100) 0 Ex.ik Try_ln3 rfl rfl rfl rfl SlOf.imm e101 Part.self ?_
          refine RL.asg rfl rfl rfl ?_
          refine RL.finG ?_
          refine GL.seq ?_
          refine GL.seq ?_
          obtain ⟨y113, K114, h115, h116, h117, h118, h119⟩ := bindF_K h93
          refine GL.join (ι := Bool) (fun (p : Bool) => [(0, .int .i64 x0), (1, v1), (5, v18), (7, .int .i64 y100), (14, v1), (15, .int .i64 ((x1).length : Int)), (16, .int .i64 (i90 : Int)), (31, .bool p)]) (fun (p : Bool) => [imm (TR.sl TR.int) v1 x1, obox 76 (TR.arr 6 TR.bool) v18 l50]) (fun (p : Bool) => K114 (.nx p)) ?_ ?_
          · skip
            refine GL.region ?_
            refine RL.mv rfl rfl rfl ?_
            refine RL.binI (v := .bool (decide (y100 < (0 : Int)))) rfl rfl rfl rfl rfl ?_
            refine RL.mv rfl rfl rfl ?_
            refine RL.split (t := 22) rfl (fun b120 => ?_) (fun b120 => ?_)
            · replace h115 := ite_t b120 h115
              refine RL.skip rfl rfl ?_
              refine RL.skip rfl rfl ?_
              refine RL.skip rfl rfl ?_
              refine RL.pickT rfl rfl rfl rfl ?_
              refine RL.mv rfl rfl rfl ?_
              refine RL.skip rfl rfl ?_
              refine RL.skip rfl rfl ?_
              refine RL.skip rfl rfl ?_
              refine RL.pickT rfl rfl rfl rfl ?_
              refine RL.fin ?_
              cases h115
              exact fun a w st => mid_intro true h116 (St.cut [0, 1] ⟨rfl, rfl, rfl, rfl, rfl, rfl, rfl, rfl, trivial⟩ (by decide) rfl st)
            · replace h115 := ite_f b120 h115
              refine RL.mv rfl rfl rfl ?_
              refine RL.mv rfl rfl rfl ?_
              refine RL.binI (v := .bool (decide (y100 ≥ x0))) rfl rfl rfl rfl rfl ?_
              refine RL.pickF rfl rfl rfl rfl ?_
              refine RL.mv rfl rfl rfl ?_
              refine RL.split (t := 27) rfl (fun b121 => ?_) (fun b121 => ?_)
              · replace h115 := ite_t b121 h115
                refine RL.skip rfl rfl ?_
                refine RL.skip rfl rfl ?_
                refine RL.skip rfl rfl ?_
                refine RL.pickT rfl rfl rfl rfl ?_
                refine RL.fin ?_
                cases h115
                exact fun a w st => mid_intro true h116 (St.cut [0, 1] ⟨rfl, rfl, rfl, rfl, rfl, rfl, rfl, rfl, trivial⟩ (by decide) rfl st)
              · replace h115 := ite_f b121 h115
                refine RL.mv rfl rfl rfl ?_
                obtain ⟨y122, e123, h115⟩ := bind_some h115
                refine RL.idxA0 (sz := 1) (t' := TR.bool) 1 Try.underlying76 Try_ln4 rfl rfl rfl PtOf.obox rfl rfl Part.self (idx_some e123).1 (idx_some e123).2.1 ?_
                refine RL.ldPx (off := ((y100).toNat * 1)) (e' := y122) 1 Ex.bool Try_ln4 rfl rfl (Or.inl rfl) rfl PtOf.obox (Part.arr (idx_some e123).2.2 Part.self) ?_
                refine RL.pickF rfl rfl rfl rfl ?_
                refine RL.fin ?_
                cases h115
                exact fun a w st => mid_intro y122 h116 (St.cut [0, 1] ⟨rfl, rfl, rfl, rfl, rfl, rfl, rfl, rfl, trivial⟩ (by decide) rfl st)
          · rintro x112 h124
            have h125 := h117 _ h124
            try dsimp only at h125
            refine GL.weak (env' := [(0, .int .i64 x0), (1, v1), (5, v18), (7, .int .i64 y100), (14, v1), (15, .int .i64 ((x1).length : Int)), (16, .int .i64 (i90 : Int)), (31, .bool x112)]) (L' := [imm (TR.sl TR.int) v1 x1, obox 76 (TR.arr 6 TR.bool) v18 l50]) (fun _ _ st => st) ?_
            refine GL.cond rfl (fun b126 => ?_) (fun b126 => ?_)
            · replace h125 := ite_t b126 h125
              refine GL.seq ?_
              refine GL.region ?_
              refine RL.asg rfl rfl rfl ?_
              refine RL.finG ?_
              cases h125
              replace h94 : some (Fl.rt _) = some y83 := h94
              cases h94
              have hh := h88 _ h86
              subst hh
              exact GL.ret (Gx.ret (v := .int .i64 (3 : Int)) (res1 rfl rfl) (fun a w st => st.toPostV))
            · replace h125 := ite_f b126 h125
              refine GL.skip ?_
              refine GL.region ?_
              refine RL.mv rfl rfl rfl ?_
              obtain ⟨y129, e130, h125⟩ := bind_some h125
              refine RL.idxA0 (sz := 1) (t' := TR.bool) 1 Try.underlying76 Try_ln4 rfl rfl rfl PtOf.obox rfl rfl Part.self (idx_some e130).1 (idx_some e130).2.1 ?_
              refine RL.stP (off := ((y100).toNat * 1)) (e' := true) (d1 := (List.set l50 ((y100).toNat) true)) (r := TR.bool) 1 Try_ln4 rfl rfl (Or.inl rfl) rfl VR.bool rfl (Upd.arr (idx_some e130).2.2 Upd.self) ?_
              refine RL.finG ?_
              refine GL.nilB ?_
              refine GL.region ?_
              refine RL.binI (v := .int .i64 ((i90 + 1 : Nat) : Int)) rfl rfl rfl rfl (binI_succ i90 (by omega)) ?_
              refine RL.mv rfl rfl rfl ?_
              refine RL.fin ?_
              cases h125
              exact fun a w st => lop_intro (i90 + 1, r102, (List.set l50 ((y100).toNat) true)) ⟨by show i90 + 1 + r102.length = (x1).length; simp only [List.length_cons] at h96; omega, h103, h94⟩ (by simp) (St.cut [0, 1] ⟨rfl, rfl, rfl, rfl, rfl, rfl, trivial⟩ (by decide) rfl st)
        · have h99 : ¬ i90 < (x1).length := by have := of_decide_eq_false b98; omega
          obtain rfl : r91 = [] := by rw [← h97]; exact List.drop_of_length_le (by omega)
          replace h95 : some (Fl.nx _) = some y83 := h95
          cases h95
          exact GL.exit (fun a w st => mid_intro l50 h86 (St.cut [0] ⟨rfl, rfl, trivial⟩ (by decide) rfl st))
      · rintro l50 h131
        have h132 := h87 _ h131
        try dsimp only at h132
        refine GL.weak (env' := [(0, .int .i64 x0), (1, v1)]) (L' := [imm (TR.sl TR.int) v1 x1]) (fun _ _ st => st) ?_
        refine GL.seq ?_
        refine GL.seq ?_
        refine GL.region ?_
        refine RL.mv rfl rfl rfl ?_
        refine RL.lenS 0 Try.underlying22 rfl rfl rfl rfl SlOf.imm ?_
        refine RL.mv rfl rfl rfl ?_
        refine RL.binI (v := .bool (((x1).length : Int) != x0)) rfl rfl rfl rfl rfl ?_
        refine RL.finG ?_
        refine GL.cond rfl (fun b133 => ?_) (fun b133 => ?_)
        · replace h132 := ite_t b133 h132
          refine GL.seq ?_
          refine GL.region ?_
          refine RL.asg rfl rfl rfl ?_
          refine RL.finG ?_
          have h132 := Option.some.inj h132
          subst h132
          exact GL.ret (Gx.ret (v := .int .i64 (3 : Int)) (res1 rfl rfl) (fun a w st => st.toPostV))
        · replace h132 := ite_f b133 h132
          refine GL.skip ?_
          refine GL.seq ?_
          refine GL.region ?_
          refine RL.asg rfl rfl rfl ?_
          refine RL.finG ?_
          have h132 := Option.some.inj h132
          subst h132
          exact GL.ret (Gx.ret (v := .int .i64 (0 : Int)) (res1 rfl rfl) (fun a w st => st.toPostV))

set_option maxHeartbeats 4000000 in
theorem peak_Along_c (S : Hp) (w : World) (hS : S.sub w) (v0 : Value) (x0 : (List Int)) (k0 : ((TR.sl TR.int)).vrep S v0 x0) (v1 : Value) (x1 : (List Int)) (k1 : ((TR.sl TR.int)).vrep S v1 x1) (res : Bool × Int) (hm : peak_Along_m x0 x1 = some res) : Calls Try.prog 21 #[v0, v1] w (PostV w (.tuple #[.bool res.1, .int .i64 res.2])) := by
  refine calls_enter 55 Try.func21 Try.ntmps21 rfl S false [(0, v0), (1, v1)] [imm (TR.sl TR.int) v0 x0, imm (TR.sl TR.int) v1 x1] rfl ⟨rfl, ⟨rfl, trivial⟩⟩ hS ⟨k0, ⟨k1, trivial⟩⟩ ?_
  unfold peak_Along_m at hm
  refine GL.seq ?_
  refine GL.region ?_
  refine RL.asg rfl rfl rfl ?_
  refine RL.asg rfl rfl rfl ?_
  refine RL.finG ?_
  refine GL.seq ?_
  refine GL.seq ?_
  refine GL.region ?_
  refine RL.mv rfl rfl rfl ?_
  refine RL.lenS 0 Try.underlying22 rfl rfl rfl rfl SlOf.imm ?_
  refine RL.mv rfl rfl rfl ?_
  obtain ⟨y5, e6, hm⟩ := bind_some hm
  refine RL.callV (v := .int .i64 y5) (vs := [.int .i64 ((x0).length : Int), v0]) Try_fit36 rfl (Or.inl rfl) rfl rfl rfl rfl (fun U w hU hW hL => order_Check_c U w hU ((x0).length : Int) _ _ (hL 0 _ _ rfl Seen.imm) _ e6) ?_
  refine RL.asg rfl rfl rfl ?_
  refine RL.finG ?_
  refine GL.seq ?_
  refine GL.region ?_
  refine RL.mv rfl rfl rfl ?_
  refine RL.binI (v := .bool (y5 != (0 : Int))) rfl rfl rfl rfl rfl ?_
  refine RL.finG ?_
  refine GL.cond rfl (fun b7 => ?_) (fun b7 => ?_)
  · replace hm := ite_t b7 hm
    refine GL.seq ?_
    refine GL.region ?_
    refine RL.mv rfl rfl rfl ?_
    refine RL.asg rfl rfl rfl ?_
    refine RL.asg rfl rfl rfl ?_
    refine RL.finG ?_
    have hm := Option.some.inj hm
    subst hm
    exact GL.ret (Gx.ret (v := .tuple #[.bool false, .int .i64 y5]) (res2 rfl rfl rfl) (fun a w st => st.toPostV))
  · replace hm := ite_f b7 hm
    refine GL.skip ?_
    refine GL.seq ?_
    refine GL.seq ?_
    refine GL.region ?_
    refine RL.mv rfl rfl rfl ?_
    refine RL.lenS 0 Try.underlying22 rfl rfl rfl rfl SlOf.imm ?_
    refine RL.mv rfl rfl rfl ?_
    obtain ⟨y10, e11, hm⟩ := bind_some hm
    refine RL.callV (v := .int .i64 y10) (vs := [.int .i64 ((x0).length : Int), v1]) Try_fit36 rfl (Or.inl rfl) rfl rfl rfl rfl (fun U w hU hW hL => order_Check_c U w hU ((x0).length : Int) _ _ (hL 1 _ _ rfl Seen.imm) _ e11) ?_
    refine RL.asg rfl rfl rfl ?_
    refine RL.finG ?_
    refine GL.seq ?_
    refine GL.region ?_
    refine RL.mv rfl rfl rfl ?_
    refine RL.binI (v := .bool (y10 != (0 : Int))) rfl rfl rfl rfl rfl ?_
    refine RL.finG ?_
    refine GL.cond rfl (fun b12 => ?_) (fun b12 => ?_)
    · replace hm := ite_t b12 hm
      refine GL.seq ?_
      refine GL.region ?_
      refine RL.mv rfl rfl rfl ?_
      refine RL.asg rfl rfl rfl ?_
      refine RL.asg rfl rfl rfl ?_
      refine RL.finG ?_
      have hm := Option.some.inj hm
      subst hm
      exact GL.ret (Gx.ret (v := .tuple #[.bool false, .int .i64 y10]) (res2 rfl rfl rfl) (fun a w st => st.toPostV))
    · replace hm := ite_f b12 hm
      refine GL.skip ?_
      refine GL.seq ?_
      refine GL.region ?_
      refine RL.mv rfl rfl rfl ?_
      refine RL.lenS 0 Try.underlying22 rfl rfl rfl rfl SlOf.imm ?_
      refine RL.binI (v := .int .i64 (wsub ((x0).length : Int) (1 : Int))) rfl rfl rfl rfl rfl ?_
      refine RL.asg rfl rfl rfl ?_
      refine RL.asg rfl rfl rfl ?_
      refine RL.finG ?_
      refine GL.seq ?_
      refine GL.seq ?_
      refine GL.region ?_
      refine RL.mv rfl rfl rfl ?_
      refine RL.lenS 1 Try.underlying22 rfl rfl rfl rfl SlOf.imm ?_
      refine RL.binI (v := .int .i64 (wsub ((x1).length : Int) (1 : Int))) rfl rfl rfl rfl rfl ?_
      refine RL.asg rfl rfl rfl ?_
      refine RL.finG ?_
      obtain ⟨y31, K32, h33, h34, h35, h36, h37⟩ := bindR_K hm
      refine GL.join (ι := Int × Int × Int) (fun (p : Int × Int × Int) => []) (fun (p : Int × Int × Int) => []) (fun (p : Int × Int × Int) => K32 (.nx (p.1, p.2.1, p.2.2))) ?_ ?_
      · refine GL.block ?_
        refine GL.loop (ι := Nat × Int × Int × Int) (fun (p : Nat × Int × Int × Int) => [(0, v0), (1, v1), (8, .int .i64 p.2.1), (9, .int .i64 p.2.2.1), (10, .int .i64 p.2.2.2)]) (fun (p : Nat × Int × Int × Int) => [imm (TR.sl TR.int) v0 x0, imm (TR.sl TR.int) v1 x1]) (fun (p : Nat × Int × Int × Int) => loopM (peak_Along_b1 x1 x0) p.1 (p.2.1, p.2.2.1, p.2.2.2) = some y31) (fun (p : Nat × Int × Int × Int) => p.1) (1048576, (0 : Int), wsub ((x0).length : Int) (1 : Int), wsub ((x1).length : Int) (1 : Int)) h33 (fun a w st => St.cut [0, 1] ⟨rfl, rfl, rfl, rfl, rfl, trivial⟩ (by decide) rfl st) ?_
        rintro ⟨r39, x13, x14, x15⟩ h43
        try dsimp only at h43
        refine GL.weak (env' := [(0, v0), (1, v1), (8, .int .i64 x13), (9, .int .i64 x14), (10, .int .i64 x15)]) (L' := [imm (TR.sl TR.int) v0 x0, imm (TR.sl TR.int) v1 x1]) (fun _ _ st => st) ?_
        obtain ⟨r46, z40, hr, h41, h42⟩ := loopM_some h43
        subst hr
        unfold peak_Along_b1 at h41
        try dsimp only at h41
        refine GL.seq ?_
        refine GL.seq ?_
        refine GL.region ?_
        refine RL.mv rfl rfl rfl ?_
        refine RL.binI (v := .bool (decide (x15 > (0 : Int)))) rfl rfl rfl rfl rfl ?_
        refine RL.finG ?_
        refine GL.cond rfl (fun b47 => ?_) (fun b47 => ?_)
        · replace h41 := ite_t b47 h41
          refine GL.skip ?_
          refine GL.seq ?_
          refine GL.block ?_
          refine GL.seq ?_
          refine GL.region ?_
          refine RL.mv rfl rfl rfl ?_
          refine RL.mv rfl rfl rfl ?_
          obtain ⟨y50, e51, h41⟩ := bind_some h41
          refine RL.idxS (sz := 1) 1 Try.underlying22 Try_ln3 rfl rfl rfl rfl rfl SlOf.imm (idx_some e51).1 (idx_some e51).2.1 ?_
          refine RL.ldSx (i := (x15).toNat) (e' := y50) 1 Ex.ik Try_ln3 rfl rfl rfl rfl SlOf.imm (idx_some e51).2.2 Part.self ?_
          refine RL.finG ?_
          refine GL.block ?_
          refine GL.seq ?_
          refine GL.region ?_
          refine RL.mv rfl rfl rfl ?_
          refine RL.mv rfl rfl rfl ?_
          obtain ⟨y54, e55, h41⟩ := bind_some h41
          refine RL.idxS (sz := 1) 0 Try.underlying22 Try_ln3 rfl rfl rfl rfl rfl SlOf.imm (idx_some e55).1 (idx_some e55).2.1 ?_
          refine RL.ldSx (i := (x13).toNat) (e' := y54) 0 Ex.ik Try_ln3 rfl rfl rfl rfl SlOf.imm (idx_some e55).2.2 Part.self ?_
          refine RL.binI (v := .bool (y50 == y54)) rfl rfl rfl rfl rfl ?_
          refine RL.asg rfl rfl rfl ?_
          refine RL.finG ?_
          refine GL.cond rfl (fun b56 => ?_) (fun b56 => ?_)
          · replace h41 := ite_t b56 h41
            refine GL.region ?_
            refine RL.mv rfl rfl rfl ?_
            refine RL.binI (v := .int .i64 (wadd x13 (1 : Int))) rfl rfl rfl rfl rfl ?_
            refine RL.asg rfl rfl rfl ?_
            refine RL.finG ?_
            refine GL.nilB ?_
            refine GL.nilB ?_
            refine GL.region ?_
            refine RL.mv rfl rfl rfl ?_
            refine RL.binI (v := .int .i64 (wsub x15 (1 : Int))) rfl rfl rfl rfl rfl ?_
            refine RL.asg rfl rfl rfl ?_
            refine RL.finG ?_
            cases h41
            exact fun a w st => lop_intro (r46, wadd x13 (1 : Int), x14, wsub x15 (1 : Int)) (by exact h42) (by simp) (St.cut [0, 1] ⟨rfl, rfl, rfl, rfl, rfl, trivial⟩ (by decide) rfl st)
          · replace h41 := ite_f b56 h41
            refine GL.seq ?_
            refine GL.region ?_
            refine RL.mv rfl rfl rfl ?_
            refine RL.mv rfl rfl rfl ?_
            obtain ⟨y59, e60, h41⟩ := bind_some h41
            refine RL.idxS (sz := 1) 0 Try.underlying22 Try_ln3 rfl rfl rfl rfl rfl SlOf.imm (idx_some e60).1 (idx_some e60).2.1 ?_
            refine RL.ldSx (i := (x14).toNat) (e' := y59) 0 Ex.ik Try_ln3 rfl rfl rfl rfl SlOf.imm (idx_some e60).2.2 Part.self ?_
            refine RL.binI (v := .bool (y50 == y59)) rfl rfl rfl rfl rfl ?_
            refine RL.asg rfl rfl rfl ?_
            refine RL.finG ?_
            refine GL.cond rfl (fun b61 => ?_) (fun b61 => ?_)
            · replace h41 := ite_t b61 h41
              refine GL.region ?_
              refine RL.mv rfl rfl rfl ?_
              refine RL.binI (v := .int .i64 (wsub x14 (1 : Int))) rfl rfl rfl rfl rfl ?_
              refine RL.asg rfl rfl rfl ?_
              refine RL.finG ?_
              refine GL.nilB ?_
              refine GL.nilB ?_
              refine GL.region ?_
              refine RL.mv rfl rfl rfl ?_
              refine RL.binI (v := .int .i64 (wsub x15 (1 : Int))) rfl rfl rfl rfl rfl ?_
              refine RL.asg rfl rfl rfl ?_
              refine RL.finG ?_
              cases h41
              exact fun a w st => lop_intro (r46, x13, wsub x14 (1 : Int), wsub x15 (1 : Int)) (by exact h42) (by simp) (St.cut [0, 1] ⟨rfl, rfl, rfl, rfl, rfl, trivial⟩ (by decide) rfl st)
            · replace h41 := ite_f b61 h41
              refine GL.seq ?_
              refine GL.region ?_
              refine RL.asg rfl rfl rfl ?_
              refine RL.asg rfl rfl rfl ?_
              refine RL.finG ?_
              cases h41
              replace h42 : some (Fl.rt _) = some y31 := h42
              cases h42
              have hh := h36 _ h34
              subst hh
              exact GL.ret (Gx.ret (v := .tuple #[.bool false, .int .i64 (0 : Int)]) (res2 rfl rfl rfl) (fun a w st => st.toPostV))
        · replace h41 := ite_f b47 h41
          cases h41
          replace h42 : some (Fl.nx _) = some y31 := h42
          cases h42
          exact GL.exit (fun a w st => mid_intro (x13, x14, x15) h34 (St.cut [] trivial (by decide) rfl st))
      · rintro ⟨x13, x14, x15⟩ h62
        have h63 := h35 _ h62
        try dsimp only at h63
        refine GL.weak (env' := []) (L' := []) (fun _ _ st => st) ?_
        refine GL.seq ?_
        refine GL.region ?_
        refine RL.asg rfl rfl rfl ?_
        refine RL.asg rfl rfl rfl ?_
        refine RL.finG ?_
        have h63 := Option.some.inj h63
        subst h63
        exact GL.ret (Gx.ret (v := .tuple #[.bool true, .int .i64 (0 : Int)]) (res2 rfl rfl rfl) (fun a w st => st.toPostV))

set_option maxHeartbeats 4000000 in
theorem slices_IndexFunc_api_Errno_api_Errno_c (S : Hp) (w : World) (hS : S.sub w) (v0 : Value) (x0 : (List Int)) (k0 : ((TR.sl TR.int)).vrep S v0 x0) (f1 : FuncId) (c1 : Array Value) (t1 : Fit Try.prog f1) (g1 : Int → Option Bool) (k1 : ∀ (U : Hp) (w' : World), Hp.le S U → U.sub w' → ∀ (a0 : Int) (rr : Bool), g1 a0 = some rr → Calls Try.prog f1 (#[.int .i64 a0] ++ c1) w' (PostV w' (.bool rr))) (res : Int) (hm : slices_IndexFunc_api_Errno_api_Errno_m x0 g1 = some res) : Calls Try.prog 69 #[v0, .func (.func f1) #[] c1] w (PostV w (.int .i64 res)) := by
  refine calls_enter 19 Try.func69 Try.ntmps69 rfl S false [(0, v0), (1, .func (.func f1) #[] c1)] [imm (TR.sl TR.int) v0 x0] rfl ⟨rfl, ⟨rfl, trivial⟩⟩ hS ⟨k0, trivial⟩ ?_
  unfold slices_IndexFunc_api_Errno_api_Errno_m at hm
  refine GL.seq ?_
  refine GL.region ?_
  refine RL.asg rfl rfl rfl ?_
  refine RL.finG ?_
  refine GL.seq ?_
  refine GL.seq ?_
  refine GL.region ?_
  refine RL.mv rfl rfl rfl ?_
  refine RL.lenS 0 Try.underlying69 rfl rfl rfl rfl SlOf.imm ?_
  refine RL.mv rfl rfl rfl ?_
  refine RL.finG ?_
  refine GL.open_ 0 rfl (fun S h => len_imm S h) (fun n12 => ?_)
  obtain ⟨y13, K14, h15, h16, h17, h18, h19⟩ := bindR_K hm
  refine GL.join (ι := Unit) (fun (p : Unit) => []) (fun (p : Unit) => []) (fun (p : Unit) => K14 (.nx ())) ?_ ?_
  · refine GL.block ?_
    refine GL.loop (ι := Nat × (List Int)) (fun (p : Nat × (List Int)) => [(0, v0), (1, .func (.func f1) #[] c1), (7, .int .i64 ((x0).length : Int)), (8, .int .i64 (p.1 : Int))]) (fun (p : Nat × (List Int)) => [imm (TR.sl TR.int) v0 x0]) (fun (p : Nat × (List Int)) => p.1 + p.2.length = (x0).length ∧ List.drop p.1 x0 = p.2 ∧ rangeL (slices_IndexFunc_api_Errno_api_Errno_b1 g1) p.2 p.1 () = some y13) (fun (p : Nat × (List Int)) => p.2.length) (0, x0) ⟨by simp, by simp, h15⟩ (fun a w st => St.cut [0] ⟨rfl, rfl, rfl, rfl, trivial⟩ (by decide) rfl st) ?_
    rintro ⟨i20, r21⟩ ⟨h26, h27, h25⟩
    try dsimp only at h26 h27 h25
    refine GL.weak (env' := [(0, v0), (1, .func (.func f1) #[] c1), (7, .int .i64 ((x0).length : Int)), (8, .int .i64 (i20 : Int))]) (L' := [imm (TR.sl TR.int) v0 x0]) (fun _ _ st => st) ?_
    refine GL.seq ?_
    refine GL.region ?_
    refine RL.binI (v := .bool (decide ((i20 : Int) < ((x0).length : Int)))) rfl rfl rfl rfl rfl ?_
    refine RL.finG ?_
    refine GL.seq ?_
    refine GL.cond rfl (fun b28 => ?_) (fun b28 => ?_)
    · have h29 : i20 < (x0).length := by have := of_decide_eq_true b28; omega
      obtain ⟨y30, r32, hr, e31, h33⟩ := drop_cons h27 rfl h29
      subst hr
      obtain ⟨z22, h23, h24⟩ := rangeL_some h25
      unfold slices_IndexFunc_api_Errno_api_Errno_b1 at h23
      try dsimp only at h23
      refine GL.skip ?_
      refine GL.seq ?_
      refine GL.block ?_
      refine GL.seq ?_
      refine GL.region ?_
      refine RL.mv rfl rfl rfl ?_
      refine RL.asg rfl rfl rfl ?_
      refine RL.finG ?_
      refine GL.seq ?_
      refine GL.region ?_
      refine RL.mv rfl rfl rfl ?_
      refine RL.mv rfl rfl rfl ?_
      refine RL.mv rfl rfl rfl ?_
      refine RL.idxS (sz := 1) 0 Try.underlying69 Try_ln29 rfl rfl rfl rfl rfl SlOf.imm (by omega) (by omega) ?_
      refine RL.ldSx (i := i20) (e' := y30) 0 Ex.ik Try_ln29 rfl rfl rfl rfl SlOf.imm e31 Part.self ?_
      obtain ⟨y36, e37, h23⟩ := bind_some h23
      refine RL.callV (v := .bool y36) (vs := [.int .i64 y30]) t1 rfl (Or.inl rfl) rfl rfl rfl rfl (fun U w hU hW hL => k1 U w hW hU y30 _ e37) ?_
      refine RL.finG ?_
      refine GL.cond rfl (fun b38 => ?_) (fun b38 => ?_)
      · replace h23 := ite_t b38 h23
        refine GL.seq ?_
        refine GL.region ?_
        refine RL.mv rfl rfl rfl ?_
        refine RL.asg rfl rfl rfl ?_
        refine RL.finG ?_
        cases h23
        replace h24 : some (Fl.rt _) = some y13 := h24
        cases h24
        have hh := h18 _ h16
        subst hh
        exact GL.ret (Gx.ret (v := .int .i64 (i20 : Int)) (res1 rfl rfl) (fun a w st => st.toPostV))
      · replace h23 := ite_f b38 h23
        refine GL.skip ?_
        refine GL.nilB ?_
        refine GL.region ?_
        refine RL.binI (v := .int .i64 ((i20 + 1 : Nat) : Int)) rfl rfl rfl rfl (binI_succ i20 (by omega)) ?_
        refine RL.mv rfl rfl rfl ?_
        refine RL.fin ?_
        cases h23
        exact fun a w st => lop_intro (i20 + 1, r32) ⟨by show i20 + 1 + r32.length = (x0).length; simp only [List.length_cons] at h26; omega, h33, h24⟩ (by simp) (St.cut [0] ⟨rfl, rfl, rfl, rfl, trivial⟩ (by decide) rfl st)
    · have h29 : ¬ i20 < (x0).length := by have := of_decide_eq_false b28; omega
      obtain rfl : r21 = [] := by rw [← h27]; exact List.drop_of_length_le (by omega)
      replace h25 : some (Fl.nx _) = some y13 := h25
      cases h25
      exact GL.exit (fun a w st => mid_intro () h16 (St.cut [] trivial (by decide) rfl st))
  · rintro ⟨⟩ h39
    have h40 := h17 _ h39
    try dsimp only at h40
    refine GL.weak (env' := []) (L' := []) (fun _ _ st => st) ?_
    refine GL.seq ?_
    refine GL.region ?_
    refine RL.asg rfl rfl rfl ?_
    refine RL.finG ?_
    have h40 := Option.some.inj h40
    subst h40
    exact GL.ret (Gx.ret (v := .int .i64 (-1 : Int)) (res1 rfl rfl) (fun a w st => st.toPostV))

set_option maxHeartbeats 4000000 in
theorem slices_ContainsFunc_api_Errno_api_Errno_c (S : Hp) (w : World) (hS : S.sub w) (v0 : Value) (x0 : (List Int)) (k0 : ((TR.sl TR.int)).vrep S v0 x0) (f1 : FuncId) (c1 : Array Value) (t1 : Fit Try.prog f1) (g1 : Int → Option Bool) (k1 : ∀ (U : Hp) (w' : World), Hp.le S U → U.sub w' → ∀ (a0 : Int) (rr : Bool), g1 a0 = some rr → Calls Try.prog f1 (#[.int .i64 a0] ++ c1) w' (PostV w' (.bool rr))) (res : Bool) (hm : slices_ContainsFunc_api_Errno_api_Errno_m x0 g1 = some res) : Calls Try.prog 53 #[v0, .func (.func f1) #[] c1] w (PostV w (.bool res)) := by
  refine calls_enter 9 Try.func53 Try.ntmps53 rfl S false [(0, v0), (1, .func (.func f1) #[] c1)] [imm (TR.sl TR.int) v0 x0] rfl ⟨rfl, ⟨rfl, trivial⟩⟩ hS ⟨k0, trivial⟩ ?_
  unfold slices_ContainsFunc_api_Errno_api_Errno_m at hm
  refine GL.seq ?_
  refine GL.region ?_
  refine RL.asg rfl rfl rfl ?_
  refine RL.finG ?_
  refine GL.seq ?_
  refine GL.region ?_
  refine RL.mv rfl rfl rfl ?_
  refine RL.mv rfl rfl rfl ?_
  obtain ⟨y5, e6, hm⟩ := bind_some hm
  refine RL.callV (v := .int .i64 y5) (vs := [v0, .func (.func f1) #[] c1]) Try_fit69 rfl (Or.inl rfl) rfl rfl rfl rfl (fun U w hU hW hL => slices_IndexFunc_api_Errno_api_Errno_c U w hU _ _ (hL 0 _ _ rfl Seen.imm) f1 c1 t1 g1 (fun U' w' hle => k1 U' w' (Hp.le_trans hW hle)) _ e6) ?_
  refine RL.binI (v := .bool (decide (y5 ≥ (0 : Int)))) rfl rfl rfl rfl rfl ?_
  refine RL.asg rfl rfl rfl ?_
  refine RL.finG ?_
  have hm := Option.some.inj hm
  subst hm
  exact GL.ret (Gx.ret (v := .bool (decide (y5 ≥ (0 : Int)))) (res1 rfl rfl) (fun a w st => st.toPostV))

set_option maxHeartbeats 4000000 in
theorem pk_good_1_c (S : Hp) (w : World) (hS : S.sub w) (x0 : Int) (res : Bool) (hm : pk_good_1_m x0 = some res) : Calls Try.prog 54 #[.int .i64 x0] w (PostC w (.bool res)) := by
  refine calls_enter 5 Try.func54 Try.ntmps54 rfl S true [(0, .int .i64 x0)] [] rfl ⟨rfl, trivial⟩ hS trivial ?_
  unfold pk_good_1_m at hm
  refine GL.seq ?_
  refine GL.region ?_
  refine RL.asg rfl rfl rfl ?_
  refine RL.finG ?_
  refine GL.seq ?_
  refine GL.region ?_
  refine RL.mv rfl rfl rfl ?_
  refine RL.binI (v := .bool (x0 != (0 : Int))) rfl rfl rfl rfl rfl ?_
  refine RL.asg rfl rfl rfl ?_
  refine RL.finG ?_
  have hm := Option.some.inj hm
  subst hm
  exact GL.ret (Gx.ret (v := .bool (x0 != (0 : Int))) (res1 rfl rfl) (fun a w st => st.toPostC rfl))

set_option maxHeartbeats 4000000 in
theorem pk_good_c (S : Hp) (w : World) (hS : S.sub w) (v0 : Value) (x0 : (List Int)) (k0 : ((TR.sl TR.int)).vrep S v0 x0) (res : Bool) (hm : pk_good_m x0 = some res) : Calls Try.prog 22 #[v0] w (PostV w (.bool res)) := by
  refine calls_enter 6 Try.func22 Try.ntmps22 rfl S false [(0, v0)] [imm (TR.sl TR.int) v0 x0] rfl ⟨rfl, trivial⟩ hS ⟨k0, trivial⟩ ?_
  unfold pk_good_m at hm
  refine GL.seq ?_
  refine GL.region ?_
  refine RL.asg rfl rfl rfl ?_
  refine RL.finG ?_
  refine GL.seq ?_
  refine GL.region ?_
  refine RL.mv rfl rfl rfl ?_
  obtain ⟨y4, e5, hm⟩ := bind_some hm
  refine RL.callV (v := .bool y4) (vs := [v0, .func (.func 54) #[] #[]]) Try_fit53 rfl (Or.inl rfl) rfl rfl rfl rfl (fun U w hU hW hL => slices_ContainsFunc_api_Errno_api_Errno_c U w hU _ _ (hL 0 _ _ rfl Seen.imm) 54 #[] Try_fit54 (fun a0 => pk_good_1_m a0) (fun U' w' hle hU' a0 rr hr => (pk_good_1_c U' w' hU' a0 rr hr).mono (fun _ _ z => z.toV)) _ e5) ?_
  refine RL.notB rfl rfl rfl ?_
  refine RL.asg rfl rfl rfl ?_
  refine RL.finG ?_
  have hm := Option.some.inj hm
  subst hm
  exact GL.ret (Gx.ret (v := .bool (!y4)) (res1 rfl rfl) (fun a w st => st.toPostV))

set_option maxHeartbeats 4000000 in
theorem pk_peaks_c (S : Hp) (w : World) (hS : S.sub w)  (res : Bool) (hm : pk_peaks_m = some res) : Calls Try.prog 15 #[] w (PostV w (.bool res)) := by
  refine calls_enter 28 Try.func15 Try.ntmps15 rfl S false [] [] rfl trivial hS trivial ?_
  unfold pk_peaks_m at hm
  refine GL.seq ?_
  refine GL.region ?_
  refine RL.asg rfl rfl rfl ?_
  refine RL.finG ?_
  refine GL.seq ?_
  refine GL.region ?_
  refine RL.bS (t := TR.int) (vs := [.int .i64 (0 : Int), .int .i64 (1 : Int), .int .i64 (2 : Int)]) ([(0 : Int), (1 : Int), (2 : Int)] : (List Int)) Try.underlying22 Try_lo3 rfl rfl rfl rfl ⟨VR.int, ⟨VR.int, ⟨VR.int, trivial⟩⟩⟩ rfl (by decide) ?_
  intro v5
  refine RL.bS (t := TR.int) (vs := [.int .i64 (1 : Int), .int .i64 (2 : Int), .int .i64 (0 : Int)]) ([(1 : Int), (2 : Int), (0 : Int)] : (List Int)) Try.underlying22 Try_lo3 rfl rfl rfl rfl ⟨VR.int, ⟨VR.int, ⟨VR.int, trivial⟩⟩⟩ rfl (by decide) ?_
  intro v6
  refine RL.reL (L' := [own 3 TR.int v5 ([(0 : Int), (1 : Int), (2 : Int)] : (List Int)), own 3 TR.int v6 ([(1 : Int), (2 : Int), (0 : Int)] : (List Int))]) rfl ?_
  obtain ⟨y7, e8, hm⟩ := bind_some hm
  refine RL.callV (v := .tuple #[.bool y7.1, .int .i64 y7.2]) (vs := [v5, v6]) Try_fit21 rfl (Or.inl rfl) rfl rfl rfl rfl (fun U w hU hW hL => peak_Along_c U w hU _ _ (hL 0 _ _ rfl Seen.own) _ _ (hL 1 _ _ rfl Seen.own) _ e8) ?_
  refine RL.mv rfl rfl rfl ?_
  refine RL.ext rfl rfl rfl rfl ?_
  refine RL.ext rfl rfl rfl rfl ?_
  refine RL.asg rfl rfl rfl ?_
  refine RL.asg rfl rfl rfl ?_
  refine RL.finG ?_
  refine GL.seq ?_
  refine GL.region ?_
  refine RL.bS (t := TR.int) (vs := [.int .i64 (0 : Int), .int .i64 (1 : Int), .int .i64 (2 : Int)]) ([(0 : Int), (1 : Int), (2 : Int)] : (List Int)) Try.underlying22 Try_lo3 rfl rfl rfl rfl ⟨VR.int, ⟨VR.int, ⟨VR.int, trivial⟩⟩⟩ rfl (by decide) ?_
  intro v13
  refine RL.bS (t := TR.int) (vs := [.int .i64 (0 : Int), .int .i64 (2 : Int), .int .i64 (1 : Int)]) ([(0 : Int), (2 : Int), (1 : Int)] : (List Int)) Try.underlying22 Try_lo3 rfl rfl rfl rfl ⟨VR.int, ⟨VR.int, ⟨VR.int, trivial⟩⟩⟩ rfl (by decide) ?_
  intro v14
  refine RL.reL (L' := [own 3 TR.int v5 ([(0 : Int), (1 : Int), (2 : Int)] : (List Int)), own 3 TR.int v6 ([(1 : Int), (2 : Int), (0 : Int)] : (List Int)), own 3 TR.int v13 ([(0 : Int), (1 : Int), (2 : Int)] : (List Int)), own 3 TR.int v14 ([(0 : Int), (2 : Int), (1 : Int)] : (List Int))]) rfl ?_
  obtain ⟨y15, e16, hm⟩ := bind_some hm
  refine RL.callV (v := .tuple #[.bool y15.1, .int .i64 y15.2]) (vs := [v13, v14]) Try_fit21 rfl (Or.inl rfl) rfl rfl rfl rfl (fun U w hU hW hL => peak_Along_c U w hU _ _ (hL 2 _ _ rfl Seen.own) _ _ (hL 3 _ _ rfl Seen.own) _ e16) ?_
  refine RL.mv rfl rfl rfl ?_
  refine RL.ext rfl rfl rfl rfl ?_
  refine RL.ext rfl rfl rfl rfl ?_
  refine RL.asg rfl rfl rfl ?_
  refine RL.asg rfl rfl rfl ?_
  refine RL.finG ?_
  refine GL.seq ?_
  obtain ⟨y28, K29, h30, h31, h32, h33, h34⟩ := bindR_K hm
  refine GL.join (ι := Bool) (fun (p : Bool) => [(0, .bool p)]) (fun (p : Bool) => []) (fun (p : Bool) => K29 (.nx p)) ?_ ?_
  · skip
    refine GL.region ?_
    refine RL.mv rfl rfl rfl ?_
    refine RL.mv rfl rfl rfl ?_
    refine RL.bS (t := TR.int) (vs := [.int .i64 y7.2, .int .i64 y15.2]) ([y7.2, y15.2] : (List Int)) Try.underlying69 Try_lo29 rfl rfl rfl rfl ⟨VR.int, ⟨VR.int, trivial⟩⟩ rfl (by decide) ?_
    intro v35
    obtain ⟨y36, e37, h30⟩ := bind_some h30
    refine RL.callV (v := .bool y36) (vs := [v35]) Try_fit22 rfl (Or.inl rfl) rfl rfl rfl rfl (fun U w hU hW hL => pk_good_c U w hU _ _ (hL 4 _ _ rfl Seen.own) _ e37) ?_
    refine RL.mv rfl rfl rfl ?_
    refine RL.split (t := 21) rfl (fun b38 => ?_) (fun b38 => ?_)
    · replace h30 := ite_t b38 h30
      refine RL.mv rfl rfl rfl ?_
      refine RL.pickT rfl rfl rfl rfl ?_
      refine RL.mv rfl rfl rfl ?_
      refine RL.split (t := 24) rfl (fun b39 => ?_) (fun b39 => ?_)
      · replace h30 := ite_t b39 h30
        refine RL.mv rfl rfl rfl ?_
        refine RL.notB rfl rfl rfl ?_
        refine RL.pickT rfl rfl rfl rfl ?_
        refine RL.asg rfl rfl rfl ?_
        refine RL.fin ?_
        cases h30
        exact fun a w st => mid_intro (!y15.1) h31 (St.cut [] ⟨rfl, trivial⟩ (by decide) rfl st)
      · replace h30 := ite_f b39 h30
        refine RL.skip rfl rfl ?_
        refine RL.skip rfl rfl ?_
        refine RL.pickF rfl rfl rfl rfl ?_
        refine RL.asg rfl rfl rfl ?_
        refine RL.fin ?_
        cases h30
        exact fun a w st => mid_intro false h31 (St.cut [] ⟨rfl, trivial⟩ (by decide) rfl st)
    · replace h30 := ite_f b38 h30
      refine RL.skip rfl rfl ?_
      refine RL.pickF rfl rfl rfl rfl ?_
      refine RL.mv rfl rfl rfl ?_
      refine RL.skip rfl rfl ?_
      refine RL.skip rfl rfl ?_
      refine RL.pickF rfl rfl rfl rfl ?_
      refine RL.asg rfl rfl rfl ?_
      refine RL.fin ?_
      cases h30
      exact fun a w st => mid_intro false h31 (St.cut [] ⟨rfl, trivial⟩ (by decide) rfl st)
  · rintro x27 h40
    have h41 := h32 _ h40
    try dsimp only at h41
    refine GL.weak (env' := [(0, .bool x27)]) (L' := []) (fun _ _ st => st) ?_
    have h41 := Option.some.inj h41
    subst h41
    exact GL.ret (Gx.ret (v := .bool x27) (res1 rfl rfl) (fun a w st => st.toPostV))

set_option maxHeartbeats 4000000 in
theorem ref_Rest_c (S : Hp) (w : World) (hS : S.sub w) (x0 : Int) (x1 : Int) (res : Int) (hm : ref_Rest_m x0 x1 = some res) : Calls Try.prog 50 #[.int .i64 x0, .int .i64 x1] w (PostC w (.int .i64 res)) := by
  refine calls_enter 14 Try.func50 Try.ntmps50 rfl S true [(0, .int .i64 x0), (1, .int .i64 x1)] [] rfl ⟨rfl, ⟨rfl, trivial⟩⟩ hS trivial ?_
  unfold ref_Rest_m at hm
  refine GL.seq ?_
  refine GL.region ?_
  refine RL.asg rfl rfl rfl ?_
  refine RL.finG ?_
  refine GL.seq ?_
  refine GL.region ?_
  refine RL.mv rfl rfl rfl ?_
  refine RL.mv rfl rfl rfl ?_
  obtain ⟨y5, e6, hm⟩ := bind_some hm
  replace e6 := chk_some e6
  refine RL.rem rfl rfl rfl rfl e6 ?_
  refine RL.asg rfl rfl rfl ?_
  refine RL.finG ?_
  refine GL.seq ?_
  refine GL.seq ?_
  refine GL.region ?_
  refine RL.mv rfl rfl rfl ?_
  refine RL.binI (v := .bool (decide ((Int.tmod x0 x1) < (0 : Int)))) rfl rfl rfl rfl rfl ?_
  refine RL.finG ?_
  obtain ⟨y9, K10, h11, h12, h13, h14, h15⟩ := bindR_K hm
  refine GL.join (ι := Int) (fun (p : Int) => [(0, .int .i64 p)]) (fun (p : Int) => []) (fun (p : Int) => K10 (.nx p)) ?_ ?_
  · skip
    refine GL.cond rfl (fun b16 => ?_) (fun b16 => ?_)
    · replace h11 := ite_t b16 h11
      refine GL.region ?_
      refine RL.mv rfl rfl rfl ?_
      refine RL.mv rfl rfl rfl ?_
      refine RL.binI (v := .int .i64 (wadd (Int.tmod x0 x1) x1)) rfl rfl rfl rfl rfl ?_
      refine RL.asg rfl rfl rfl ?_
      refine RL.finG ?_
      cases h11
      exact fun a w st => mid_intro (wadd (Int.tmod x0 x1) x1) h12 (St.cut [] ⟨rfl, trivial⟩ (by decide) rfl st)
    · replace h11 := ite_f b16 h11
      refine GL.skip ?_
      cases h11
      exact fun a w st => mid_intro (Int.tmod x0 x1) h12 (St.cut [] ⟨rfl, trivial⟩ (by decide) rfl st)
  · rintro x8 h17
    have h18 := h13 _ h17
    try dsimp only at h18
    refine GL.weak (env' := [(0, .int .i64 x8)]) (L' := []) (fun _ _ st => st) ?_
    refine GL.seq ?_
    refine GL.region ?_
    refine RL.mv rfl rfl rfl ?_
    refine RL.asg rfl rfl rfl ?_
    refine RL.finG ?_
    have h18 := Option.some.inj h18
    subst h18
    exact GL.ret (Gx.ret (v := .int .i64 x8) (res1 rfl rfl) (fun a w st => st.toPostC rfl))

set_option maxHeartbeats 4000000 in
theorem pk_Within_c (S : Hp) (w : World) (hS : S.sub w) (x0 : Int) (x1 : Int) (res : Int) (hm : pk_Within_m x0 x1 = some res) : Calls Try.prog 16 #[.int .i64 x0, .int .i64 x1] w (PostC w (.int .i64 res)) := by
  refine calls_enter 8 Try.func16 Try.ntmps16 rfl S true [(0, .int .i64 x0), (1, .int .i64 x1)] [] rfl ⟨rfl, ⟨rfl, trivial⟩⟩ hS trivial ?_
  unfold pk_Within_m at hm
  refine GL.seq ?_
  refine GL.region ?_
  refine RL.asg rfl rfl rfl ?_
  refine RL.finG ?_
  refine GL.seq ?_
  refine GL.region ?_
  refine RL.mv rfl rfl rfl ?_
  refine RL.mv rfl rfl rfl ?_
  obtain ⟨y5, e6, hm⟩ := bind_some hm
  refine RL.callC (v := .int .i64 y5) (vs := [.int .i64 x0, .int .i64 x1]) Try_fit50 rfl rfl rfl rfl (fun U w hU hW hL => ref_Rest_c U w hU x0 x1 _ e6) ?_
  refine RL.asg rfl rfl rfl ?_
  refine RL.finG ?_
  have hm := Option.some.inj hm
  subst hm
  exact GL.ret (Gx.ret (v := .int .i64 y5) (res1 rfl rfl) (fun a w st => st.toPostC rfl))

set_option maxHeartbeats 4000000 in
theorem ref_Sides_c (S : Hp) (w : World) (hS : S.sub w) (x0 : Int) (res : (List Int)) (hm : ref_Sides_m x0 = some res) : Calls Try.prog 51 #[.int .i64 x0] w (Post w S (fun (o : Value) => o) (fun (o : Value) => [own 3 TR.int o res])) := by
  refine calls_enter 15 Try.func51 Try.ntmps51 rfl S false [(0, .int .i64 x0)] [] rfl ⟨rfl, trivial⟩ hS trivial ?_
  unfold ref_Sides_m at hm
  refine GL.seq ?_
  refine GL.region ?_
  refine RL.asg rfl rfl rfl ?_
  refine RL.finG ?_
  refine GL.seq ?_
  refine GL.region ?_
  refine RL.asg rfl rfl rfl ?_
  refine RL.finG ?_
  refine GL.seq ?_
  refine GL.seq ?_
  refine GL.region ?_
  refine RL.mv rfl rfl rfl ?_
  refine RL.mv rfl rfl rfl ?_
  refine RL.finG ?_
  refine GL.weak (fun a w st => st.nilOwn 3 TR.int) ?_
  obtain ⟨y13, e14, hm⟩ := bind_some hm
  replace e14 := chk_some e14
  obtain ⟨y15, K16, h17, h18, h19, h20, h21⟩ := bindR_K hm
  refine GL.join (ι := (List Int) × Value) (fun (p : (List Int) × Value) => [(3, p.2)]) (fun (p : (List Int) × Value) => [own 3 TR.int p.2 p.1]) (fun (p : (List Int) × Value) => K16 (.nx p.1)) ?_ ?_
  · refine GL.block ?_
    refine GL.loop (ι := Nat × Nat × (List Int) × Value) (fun (p : Nat × Nat × (List Int) × Value) => [(3, p.2.2.2), (5, .int .i64 x0), (6, .int .i64 (p.1 : Int))]) (fun (p : Nat × Nat × (List Int) × Value) => [own 3 TR.int p.2.2.2 p.2.2.1]) (fun (p : Nat × Nat × (List Int) × Value) => p.1 + p.2.1 = (x0).toNat ∧ rangeN ref_Sides_b1 p.2.1 p.1 p.2.2.1 = some y15) (fun (p : Nat × Nat × (List Int) × Value) => p.2.1) (0, (x0).toNat, [], Value.slice none 0 0) ⟨by simp, h17⟩ (fun a w st => St.cut [0] ⟨rfl, rfl, rfl, trivial⟩ (by decide) rfl st) ?_
    rintro ⟨i22, r23, l2, v3⟩ ⟨h28, h27⟩
    try dsimp only at h28 h27
    refine GL.weak (env' := [(3, v3), (5, .int .i64 x0), (6, .int .i64 (i22 : Int))]) (L' := [own 3 TR.int v3 l2]) (fun _ _ st => st) ?_
    refine GL.seq ?_
    refine GL.region ?_
    refine RL.binI (v := .bool (decide ((i22 : Int) < x0))) rfl rfl rfl rfl rfl ?_
    refine RL.finG ?_
    refine GL.seq ?_
    refine GL.cond rfl (fun b30 => ?_) (fun b30 => ?_)
    · have h31 : i22 < (x0).toNat := by have := of_decide_eq_true b30; omega
      obtain ⟨r32, hr⟩ : ∃ m, r23 = m + 1 := ⟨r23 - 1, by omega⟩
      subst hr
      obtain ⟨z24, h25, h26⟩ := rangeN_some h27
      unfold ref_Sides_b1 at h25
      try dsimp only at h25
      refine GL.skip ?_
      refine GL.seq ?_
      refine GL.block ?_
      refine GL.seq ?_
      refine GL.region ?_
      refine RL.mv rfl rfl rfl ?_
      refine RL.asg rfl rfl rfl ?_
      refine RL.finG ?_
      refine GL.region ?_
      refine RL.mv rfl rfl rfl ?_
      refine RL.mv rfl rfl rfl ?_
      refine RL.bS (t := TR.int) (vs := [.int .i64 (i22 : Int)]) ([(i22 : Int)] : (List Int)) Try.underlying22 Try_lo3 rfl rfl rfl rfl ⟨VR.int, trivial⟩ rfl (by decide) ?_
      intro v37
      obtain ⟨y38, e39, h25⟩ := bind_some h25
      replace e39 := chk_some e39
      refine RL.app 0 1 Try.underlying22 Try_lo3 rfl rfl rfl rfl rfl rfl rfl SlOf.own e39 ?_
      intro v40
      refine RL.reL (L' := [own 3 TR.int v40 (l2 ++ ([(i22 : Int)] : (List Int))), own 3 TR.int v37 ([(i22 : Int)] : (List Int))]) rfl ?_
      refine RL.asg rfl rfl rfl ?_
      refine RL.finG ?_
      refine GL.nilB ?_
      refine GL.region ?_
      refine RL.binI (v := .int .i64 ((i22 + 1 : Nat) : Int)) rfl rfl rfl rfl (binI_succ i22 (by omega)) ?_
      refine RL.mv rfl rfl rfl ?_
      refine RL.fin ?_
      cases h25
      exact fun a w st => lop_intro (i22 + 1, r32, (l2 ++ ([(i22 : Int)] : (List Int))), v40) ⟨by show i22 + 1 + r32 = (x0).toNat; omega, h26⟩ (by simp) (St.cut [0] ⟨rfl, rfl, rfl, trivial⟩ (by decide) rfl st)
    · have h31 : ¬ i22 < (x0).toNat := by have := of_decide_eq_false b30; omega
      obtain rfl : r23 = 0 := by omega
      replace h27 : some (Fl.nx _) = some y15 := h27
      cases h27
      exact GL.exit (fun a w st => mid_intro (l2, v3) h18 (St.cut [0] ⟨rfl, trivial⟩ (by decide) rfl st))
  · rintro ⟨l2, v3⟩ h41
    have h42 := h19 _ h41
    try dsimp only at h42
    refine GL.weak (env' := [(3, v3)]) (L' := [own 3 TR.int v3 l2]) (fun _ _ st => st) ?_
    refine GL.seq ?_
    refine GL.region ?_
    refine RL.mv rfl rfl rfl ?_
    refine RL.asg rfl rfl rfl ?_
    refine RL.finG ?_
    have h42 := Option.some.inj h42
    subst h42
    exact GL.ret (Gx.ret (v := v3) (res1 rfl rfl) (fun a w st => (st.pick [0] (by decide) rfl).toPost v3))

set_option maxHeartbeats 4000000 in
theorem slices_Delete_int_int_c (B : World) (S X : Hp) (f : Nat → Hp) (w : World) (v0 : Value) (x0 : List Int) (hO : HeapOk B.heap.size S f [own 3 TR.int v0 x0, keep X].length w) (hB : Below B.heap.size B w) (hI : Its [own 3 TR.int v0 x0, keep X] S f) (x1 x2 : Int) (res : List Int) (hm : slices_Delete_int_int_m x0 x1 x2 = some res) : Calls Try.prog 52 #[v0, .int .i64 x1, .int .i64 x2] w (PostM B S (fun (o : Value) => o) (fun (o : Value) => [own 3 TR.int o res, keep X])) := by
  refine calls_enterM 33 Try.func52 Try.ntmps52 rfl B S f [(0, v0), (1, .int .i64 x1), (2, .int .i64 x2)] [own 3 TR.int v0 x0, keep X] [] rfl ⟨rfl, rfl, rfl, trivial⟩ hB hO hI trivial ?_
  unfold slices_Delete_int_int_m at hm
  obtain ⟨_, hc, hm⟩ := bind_some hm
  replace hc := chk_some hc
  have hm := Option.some.inj hm
  subst hm
  obtain ⟨i, rfl⟩ : ∃ i : Nat, x1 = (i : Int) := ⟨x1.toNat, by omega⟩
  obtain ⟨j, rfl⟩ : ∃ j : Nat, x2 = (j : Int) := ⟨x2.toNat, by omega⟩
  simp only [Int.toNat_natCast]
  refine GL.capO 0 rfl (fun hcap hmax hrl hcr => ?_)
  repeat refine GL.seq ?_
  refine GL.region ?_
  refine RL.asg rfl rfl rfl ?_
  refine RL.finG ?_
  repeat refine GL.seq ?_
  refine GL.region ?_
  refine RL.mv rfl rfl rfl ?_
  refine RL.mv rfl rfl rfl ?_
  refine RL.mv rfl rfl rfl ?_
  refine RL.mv rfl rfl rfl ?_
  refine RL.lenS 0 Try.underlying22 rfl rfl rfl rfl SlOf.own ?_
  refine RL.cut3 (i := i) (j := j) (m := x0.length) 0 Try.underlying22 Try_ln3 rfl rfl rfl rfl rfl rfl rfl (by omega) (by omega) (by omega) ?_
  intro u
  refine RL.finG ?_
  repeat refine GL.seq ?_
  refine GL.region ?_
  refine RL.mv rfl rfl rfl ?_
  refine RL.mv rfl rfl rfl ?_
  refine RL.binI (v := .bool ((i : Int) == (j : Int))) rfl rfl rfl rfl rfl ?_
  refine RL.finG ?_
  repeat refine GL.seq ?_
  refine GL.cond rfl (fun h => ?_) (fun h => ?_)
  · have hij : i = j := by have := of_decide_eq_true (p := (i : Int) = (j : Int)) (by simpa using h); omega
    subst hij
    repeat refine GL.seq ?_
    refine GL.region ?_
    refine RL.mv rfl rfl rfl ?_
    refine RL.asg rfl rfl rfl ?_
    refine RL.finG ?_
    have hx : x0.take i ++ x0.drop i = x0 := List.take_append_drop _ _
    rw [hx]
    exact GL.ret (Gx.ret (v := v0) (res1 rfl rfl) (fun a w st => (st.pick [0, 1] (by decide) rfl).toPostM (LR := fun (o : Value) => [own 3 TR.int o x0, keep X]) v0))
  · have hij : i ≠ j := fun e => by subst e; simp at h
    have hll : (x0.take i ++ x0.drop j).length = i + (x0.length - j) := by rw [List.length_append, List.length_take, List.length_drop]; omega
    refine GL.skip ?_
    repeat refine GL.seq ?_
    refine GL.region ?_
    refine RL.mv rfl rfl rfl ?_
    refine RL.lenS 0 Try.underlying22 rfl rfl rfl rfl SlOf.own ?_
    refine RL.asg rfl rfl rfl ?_
    refine RL.finG ?_
    repeat refine GL.seq ?_
    refine GL.regionH 6 rfl rfl (by kernel_rfl) ?_
    simp only [List.take_succ_cons, List.take_zero, List.drop_succ_cons, List.drop_zero]
    refine RL.mv rfl rfl rfl ?_
    refine RL.mv rfl rfl rfl ?_
    refine RL.cutO (i := 0) (j := i) 0 Try.underlying22 Try_ln3 rfl rfl rfl (Or.inl ⟨rfl, rfl⟩) (Or.inr ⟨_, _, rfl, rfl⟩) rfl (by omega) (by show i ≤ capv v0; omega) ?_
    refine RL.mv rfl rfl rfl ?_
    refine RL.mv rfl rfl rfl ?_
    refine RL.cutO (i := j) (j := x0.length) 0 Try.underlying22 Try_ln3 rfl rfl rfl (Or.inr ⟨_, _, rfl, rfl⟩) (Or.inl ⟨rfl, rfl⟩) rfl (by omega) hcap ?_
    refine RL.finH ?_
    refine RL.del (i := i) (j := j) 0 Try.underlying22 Try_lo3 rfl rfl rfl rfl rfl rfl (by omega) (by omega) ?_
    refine RL.asg rfl rfl rfl ?_
    refine RL.finG ?_
    repeat refine GL.seq ?_
    refine GL.region ?_
    refine RL.mv rfl rfl rfl ?_
    refine RL.mv rfl rfl rfl ?_
    refine RL.lenS 0 Try.underlying22 rfl rfl rfl rfl SlOf.own ?_
    refine RL.mv rfl rfl rfl ?_
    refine RL.cutO (i := (x0.take i ++ x0.drop j).length) (j := x0.length) 0 Try.underlying22 Try_ln3 rfl rfl rfl (Or.inr ⟨_, _, rfl, rfl⟩) (Or.inr ⟨_, _, rfl, rfl⟩) rfl (by omega) (by rw [hcr]; exact hcap) ?_
    refine RL.clr (j := x0.length) 0 Try.underlying22 Try_lo3 (by decide) rfl rfl rfl rfl (by omega) (by rw [hcr]; exact hcap) ?_
    refine RL.finG ?_
    repeat refine GL.seq ?_
    refine GL.region ?_
    refine RL.mv rfl rfl rfl ?_
    refine RL.asg rfl rfl rfl ?_
    refine RL.finG ?_
    exact GL.ret (Gx.ret (v := relen v0 (i + (x0.length - j))) (res1 rfl rfl) (fun a w st => (st.pick [0, 1] (by decide) rfl).toPostM (LR := fun (o : Value) => [own 3 TR.int o (x0.take i ++ x0.drop j), keep X]) (relen v0 (i + (x0.length - j)))))

set_option maxHeartbeats 4000000 in
theorem pk_OrderOf_c (S : Hp) (w : World) (hS : S.sub w) (x0 : Int) (v1 : Value) (x1 : (List Int)) (k1 : ((TR.sl TR.int)).vrep S v1 x1) (res : (List Int)) (hm : pk_OrderOf_m x0 x1 = some res) : Calls Try.prog 17 #[.int .i64 x0, v1] w (Post w S (fun (o : Value) => o) (fun (o : Value) => [own 3 TR.int o res])) := by
  refine calls_enter 40 Try.func17 Try.ntmps17 rfl S false [(0, .int .i64 x0), (1, v1)] [imm (TR.sl TR.int) v1 x1] rfl ⟨rfl, ⟨rfl, trivial⟩⟩ hS ⟨k1, trivial⟩ ?_
  unfold pk_OrderOf_m at hm
  refine GL.seq ?_
  refine GL.region ?_
  refine RL.asg rfl rfl rfl ?_
  refine RL.finG ?_
  refine GL.seq ?_
  refine GL.region ?_
  refine RL.mv rfl rfl rfl ?_
  obtain ⟨y6, e7, hm⟩ := bind_some hm
  refine RL.call (vs := [.int .i64 x0]) Try_fit51 rfl rfl rfl rfl rfl (fun S f w hS hW hi => ref_Sides_c S w hS x0 _ e7) ?_
  intro v8
  refine RL.asg rfl rfl rfl ?_
  refine RL.finG ?_
  refine GL.seq ?_
  refine GL.region ?_
  refine RL.asg rfl rfl rfl ?_
  refine RL.finG ?_
  refine GL.seq ?_
  refine GL.seq ?_
  refine GL.region ?_
  refine RL.mv rfl rfl rfl ?_
  refine RL.mv rfl rfl rfl ?_
  refine RL.finG ?_
  refine GL.weak (fun a w st => st.nilOwn 3 TR.int) ?_
  obtain ⟨y60, e61, hm⟩ := bind_some hm
  replace e61 := chk_some e61
  obtain ⟨y62, K63, h64, h65, h66, h67, h68⟩ := bindR_K hm
  refine GL.join (ι := (List Int) × (List Int) × Value) (fun (p : (List Int) × (List Int) × Value) => [(6, p.2.2)]) (fun (p : (List Int) × (List Int) × Value) => [own 3 TR.int p.2.2 p.2.1]) (fun (p : (List Int) × (List Int) × Value) => K63 (.nx (p.1, p.2.1))) ?_ ?_
  · refine GL.block ?_
    refine GL.loop (ι := Nat × Nat × (List Int) × (List Int) × Value × Value) (fun (p : Nat × Nat × (List Int) × (List Int) × Value × Value) => [(1, v1), (5, p.2.2.2.2.1), (6, p.2.2.2.2.2), (11, .int .i64 x0), (12, .int .i64 (p.1 : Int))]) (fun (p : Nat × Nat × (List Int) × (List Int) × Value × Value) => [imm (TR.sl TR.int) v1 x1, own 3 TR.int p.2.2.2.2.1 p.2.2.1, own 3 TR.int p.2.2.2.2.2 p.2.2.2.1]) (fun (p : Nat × Nat × (List Int) × (List Int) × Value × Value) => p.1 + p.2.1 = (x0).toNat ∧ rangeN (pk_OrderOf_b1 x1) p.2.1 p.1 (p.2.2.1, p.2.2.2.1) = some y62) (fun (p : Nat × Nat × (List Int) × (List Int) × Value × Value) => p.2.1) (0, (x0).toNat, y6, [], v8, Value.slice none 0 0) ⟨by simp, h64⟩ (fun a w st => St.cut [0, 1, 2] ⟨rfl, rfl, rfl, rfl, rfl, trivial⟩ (by decide) rfl st) ?_
    rintro ⟨i69, r70, l9, l11, v10, v12⟩ ⟨h75, h74⟩
    try dsimp only at h75 h74
    refine GL.weak (env' := [(1, v1), (5, v10), (6, v12), (11, .int .i64 x0), (12, .int .i64 (i69 : Int))]) (L' := [imm (TR.sl TR.int) v1 x1, own 3 TR.int v10 l9, own 3 TR.int v12 l11]) (fun _ _ st => st) ?_
    refine GL.seq ?_
    refine GL.region ?_
    refine RL.binI (v := .bool (decide ((i69 : Int) < x0))) rfl rfl rfl rfl rfl ?_
    refine RL.finG ?_
    refine GL.seq ?_
    refine GL.cond rfl (fun b77 => ?_) (fun b77 => ?_)
    · have h78 : i69 < (x0).toNat := by have := of_decide_eq_true b77; omega
      obtain ⟨r79, hr⟩ : ∃ m, r70 = m + 1 := ⟨r70 - 1, by omega⟩
      subst hr
      obtain ⟨z71, h72, h73⟩ := rangeN_some h74
      unfold pk_OrderOf_b1 at h72
      try dsimp only at h72
      refine GL.skip ?_
      refine GL.seq ?_
      refine GL.block ?_
      refine GL.seq ?_
      refine GL.region ?_
      refine RL.mv rfl rfl rfl ?_
      refine RL.asg rfl rfl rfl ?_
      refine RL.finG ?_
      refine GL.seq ?_
      refine GL.region ?_
      refine RL.asg rfl rfl rfl ?_
      refine RL.finG ?_
      refine GL.seq ?_
      refine GL.seq ?_
      refine GL.region ?_
      refine RL.mv rfl rfl rfl ?_
      refine RL.mv rfl rfl rfl ?_
      refine RL.lenS 0 Try.underlying22 rfl rfl rfl rfl SlOf.imm ?_
      refine RL.binI (v := .bool (decide ((i69 : Int) < ((x1).length : Int)))) rfl rfl rfl rfl rfl ?_
      refine RL.finG ?_
      obtain ⟨y90, K91, h92, h93, h94, h95, h96⟩ := bindF_K h72
      refine GL.join (ι := Int) (fun (p : Int) => [(1, v1), (5, v10), (6, v12), (8, .int .i64 p), (11, .int .i64 x0), (12, .int .i64 (i69 : Int))]) (fun (p : Int) => [imm (TR.sl TR.int) v1 x1, own 3 TR.int v10 l9, own 3 TR.int v12 l11]) (fun (p : Int) => K91 (.nx p)) ?_ ?_
      · skip
        refine GL.cond rfl (fun b97 => ?_) (fun b97 => ?_)
        · replace h92 := ite_t b97 h92
          refine GL.region ?_
          refine RL.mv rfl rfl rfl ?_
          refine RL.mv rfl rfl rfl ?_
          obtain ⟨y102, e103, h92⟩ := bind_some h92
          refine RL.idxS (sz := 1) 0 Try.underlying22 Try_ln3 rfl rfl rfl rfl rfl SlOf.imm (idx_some e103).1 (idx_some e103).2.1 ?_
          refine RL.ldSx (i := i69) (e' := y102) 0 Ex.ik Try_ln3 rfl rfl rfl rfl SlOf.imm (idx_some e103).2.2 Part.self ?_
          refine RL.mv rfl rfl rfl ?_
          refine RL.lenS 1 Try.underlying22 rfl rfl rfl rfl SlOf.own ?_
          obtain ⟨y104, e105, h92⟩ := bind_some h92
          refine RL.callC (v := .int .i64 y104) (vs := [.int .i64 y102, .int .i64 ((l9).length : Int)]) Try_fit16 rfl rfl rfl rfl (fun U w hU hW hL => pk_Within_c U w hU y102 ((l9).length : Int) _ e105) ?_
          refine RL.asg rfl rfl rfl ?_
          refine RL.finG ?_
          cases h92
          exact fun a w st => mid_intro y104 h93 (St.cut [0, 1, 2] ⟨rfl, rfl, rfl, rfl, rfl, rfl, trivial⟩ (by decide) rfl st)
        · replace h92 := ite_f b97 h92
          refine GL.skip ?_
          cases h92
          exact fun a w st => mid_intro (0 : Int) h93 (St.cut [0, 1, 2] ⟨rfl, rfl, rfl, rfl, rfl, rfl, trivial⟩ (by decide) rfl st)
      · rintro x89 h106
        have h107 := h94 _ h106
        try dsimp only at h107
        refine GL.weak (env' := [(1, v1), (5, v10), (6, v12), (8, .int .i64 x89), (11, .int .i64 x0), (12, .int .i64 (i69 : Int))]) (L' := [imm (TR.sl TR.int) v1 x1, own 3 TR.int v10 l9, own 3 TR.int v12 l11]) (fun _ _ st => st) ?_
        refine GL.seq ?_
        refine GL.region ?_
        refine RL.mv rfl rfl rfl ?_
        refine RL.mv rfl rfl rfl ?_
        refine RL.mv rfl rfl rfl ?_
        obtain ⟨y114, e115, h107⟩ := bind_some h107
        refine RL.idxS (sz := 1) 1 Try.underlying22 Try_ln3 rfl rfl rfl rfl rfl SlOf.own (idx_some e115).1 (idx_some e115).2.1 ?_
        refine RL.ldSx (i := (x89).toNat) (e' := y114) 1 Ex.ik Try_ln3 rfl rfl rfl rfl SlOf.own (idx_some e115).2.2 Part.self ?_
        refine RL.bS (t := TR.int) (vs := [.int .i64 y114]) ([y114] : (List Int)) Try.underlying22 Try_lo3 rfl rfl rfl rfl ⟨VR.int, trivial⟩ rfl (by decide) ?_
        intro v116
        obtain ⟨y117, e118, h107⟩ := bind_some h107
        replace e118 := chk_some e118
        refine RL.app 2 3 Try.underlying22 Try_lo3 rfl rfl rfl rfl rfl rfl rfl SlOf.own e118 ?_
        intro v119
        refine RL.reL (L' := [imm (TR.sl TR.int) v1 x1, own 3 TR.int v10 l9, own 3 TR.int v119 (l11 ++ ([y114] : (List Int))), own 3 TR.int v116 ([y114] : (List Int))]) rfl ?_
        refine RL.asg rfl rfl rfl ?_
        refine RL.finG ?_
        refine GL.region ?_
        refine RL.mv rfl rfl rfl ?_
        refine RL.mv rfl rfl rfl ?_
        refine RL.mv rfl rfl rfl ?_
        refine RL.binI (v := .int .i64 (wadd x89 (1 : Int))) rfl rfl rfl rfl rfl ?_
        obtain ⟨y123, e124, h107⟩ := bind_some h107
        refine RL.callK (vs := [v10, .int .i64 x89, .int .i64 (wadd x89 (1 : Int))]) (V := fun (o : Value) => o) (LR := fun (o : Value) => [own 3 TR.int o y123]) (Ls := [own 3 TR.int v10 l9]) [1] (by decide) Try_fit52 rfl rfl rfl rfl rfl rfl (fun S f X w hO hB hW hI hL => slices_Delete_int_int_c _ S X f w _ _ hO hB hI x89 (wadd x89 (1 : Int)) _ e124) ?_
        intro v125
        refine RL.reL (L' := [imm (TR.sl TR.int) v1 x1, gone, own 3 TR.int v119 (l11 ++ ([y114] : (List Int))), own 3 TR.int v116 ([y114] : (List Int)), own 3 TR.int v125 y123]) rfl ?_
        refine RL.asg rfl rfl rfl ?_
        refine RL.finG ?_
        refine GL.nilB ?_
        refine GL.region ?_
        refine RL.binI (v := .int .i64 ((i69 + 1 : Nat) : Int)) rfl rfl rfl rfl (binI_succ i69 (by omega)) ?_
        refine RL.mv rfl rfl rfl ?_
        refine RL.fin ?_
        cases h107
        exact fun a w st => lop_intro (i69 + 1, r79, y123, (l11 ++ ([y114] : (List Int))), v125, v119) ⟨by show i69 + 1 + r79 = (x0).toNat; omega, h73⟩ (by simp) (St.cut [0, 4, 2] ⟨rfl, rfl, rfl, rfl, rfl, trivial⟩ (by decide) rfl st)
    · have h78 : ¬ i69 < (x0).toNat := by have := of_decide_eq_false b77; omega
      obtain rfl : r70 = 0 := by omega
      replace h74 : some (Fl.nx _) = some y62 := h74
      cases h74
      exact GL.exit (fun a w st => mid_intro (l9, l11, v12) h65 (St.cut [2] ⟨rfl, trivial⟩ (by decide) rfl st))
  · rintro ⟨l9, l11, v12⟩ h126
    have h127 := h66 _ h126
    try dsimp only at h127
    refine GL.weak (env' := [(6, v12)]) (L' := [own 3 TR.int v12 l11]) (fun _ _ st => st) ?_
    refine GL.seq ?_
    refine GL.region ?_
    refine RL.mv rfl rfl rfl ?_
    refine RL.asg rfl rfl rfl ?_
    refine RL.finG ?_
    have h127 := Option.some.inj h127
    subst h127
    exact GL.ret (Gx.ret (v := v12) (res1 rfl rfl) (fun a w st => (st.pick [0] (by decide) rfl).toPost v12))

set_option maxHeartbeats 4000000 in
theorem slices_Clone_int_int_c (S : Hp) (w : World) (hS : S.sub w) (v0 : Value) (x0 : List Int) (k0 : (TR.sl TR.int).vrep S v0 x0) (res : List Int) (hm : slices_Clone_int_int_m x0 = some res) : Calls Try.prog 18 #[v0] w (Post w S (fun (o : Value) => o) (fun (o : Value) => [own 3 TR.int o res])) := by
  refine calls_enter 8 Try.func18 Try.ntmps18 rfl S false [(0, v0)] [imm (TR.sl TR.int) v0 x0] rfl ⟨rfl, trivial⟩ hS ⟨k0, trivial⟩ ?_
  unfold slices_Clone_int_int_m at hm
  obtain ⟨_, hc, hm⟩ := bind_some hm
  replace hc := chk_some hc
  have hm := Option.some.inj hm
  subst hm
  refine GL.seq (GL.region (RL.asg rfl rfl rfl (RL.finG (GL.seq (GL.seq (GL.region ?_))))))
  refine RL.mv rfl rfl rfl ?_
  refine RL.eqNil 0 Try.underlying22 rfl rfl rfl rfl rfl SlOf.imm (fun b hb => ?_)
  refine RL.finG (GL.cond rfl (fun h => ?_) (fun h => ?_))
  · have := hb h
    subst this
    refine GL.seq (GL.region (RL.asg rfl rfl rfl (RL.finG ?_)))
    refine GL.weak (fun a w st => st.nilOwn 3 TR.int) ?_
    exact GL.ret (Gx.ret (v := Value.slice none 0 0) (res1 rfl rfl) (fun a w st => (st.pick [1] (by decide) rfl).toPost (Value.slice none 0 0)))
  · refine GL.skip (GL.seq (GL.region ?_))
    refine RL.bS (t := TR.int) (vs := []) ([] : List Int) Try.underlying22 Try_lo3 rfl rfl rfl rfl trivial rfl (by decide) ?_
    intro v1
    refine RL.mv rfl rfl rfl ?_
    refine RL.app 1 0 Try.underlying22 Try_lo3 rfl rfl rfl rfl rfl rfl rfl SlOf.imm (by simpa using hc) ?_
    intro v2
    refine RL.asg rfl rfl rfl (RL.finG ?_)
    exact GL.ret (Gx.ret (v := v2) (res1 rfl rfl) (fun a w st => (st.pick [1] (by decide) rfl).toPost v2))

set_option maxHeartbeats 4000000 in
theorem slices_Reverse_int_int_c (B : World) (S X : Hp) (f : Nat → Hp) (w : World) (v0 : Value) (x0 : (List Int)) (hO : HeapOk B.heap.size S f [own 3 TR.int v0 x0, keep X].length w) (hB : Below B.heap.size B w) (hI : Its [own 3 TR.int v0 x0, keep X] S f)  (res : (List Int)) (hm : slices_Reverse_int_int_m x0 = some res) : Calls Try.prog 19 #[v0] w (PostM B S (fun (o : Unit) => .tuple #[]) (fun (o : Unit) => [own 3 TR.int v0 res, keep X])) := by
  refine calls_enterM 28 Try.func19 Try.ntmps19 rfl B S f [(0, v0)] [own 3 TR.int v0 x0, keep X] [] rfl ⟨rfl, trivial⟩ hB hO hI trivial ?_
  unfold slices_Reverse_int_int_m at hm
  refine GL.seq ?_
  refine GL.region ?_
  refine RL.mv rfl rfl rfl ?_
  refine RL.lenS 0 Try.underlying22 rfl rfl rfl rfl SlOf.own ?_
  refine RL.binI (v := .int .i64 (wsub ((x0).length : Int) (1 : Int))) rfl rfl rfl rfl rfl ?_
  refine RL.asg rfl rfl rfl ?_
  refine RL.asg rfl rfl rfl ?_
  refine RL.finG ?_
  obtain ⟨y41, K42, h43, h44, h45, h46, h47⟩ := bindR_K hm
  refine GL.join (ι := (List Int) × Int × Int) (fun (p : (List Int) × Int × Int) => []) (fun (p : (List Int) × Int × Int) => [own 3 TR.int v0 p.1, keep X]) (fun (p : (List Int) × Int × Int) => K42 (.nx (p.1, p.2.1, p.2.2))) ?_ ?_
  · refine GL.block ?_
    refine GL.loop (ι := Nat × (List Int) × Int × Int) (fun (p : Nat × (List Int) × Int × Int) => [(0, v0), (2, .int .i64 p.2.2.1), (3, .int .i64 p.2.2.2)]) (fun (p : Nat × (List Int) × Int × Int) => [own 3 TR.int v0 p.2.1, keep X]) (fun (p : Nat × (List Int) × Int × Int) => loopM slices_Reverse_int_int_b1 p.1 (p.2.1, p.2.2.1, p.2.2.2) = some y41) (fun (p : Nat × (List Int) × Int × Int) => p.1) (1048576, x0, (0 : Int), wsub ((x0).length : Int) (1 : Int)) h43 (fun a w st => St.cut [0, 1] ⟨rfl, rfl, rfl, trivial⟩ (by decide) rfl st) ?_
    rintro ⟨r49, l21, x22, x23⟩ h53
    try dsimp only at h53
    refine GL.weak (env' := [(0, v0), (2, .int .i64 x22), (3, .int .i64 x23)]) (L' := [own 3 TR.int v0 l21, keep X]) (fun _ _ st => st) ?_
    obtain ⟨r56, z50, hr, h51, h52⟩ := loopM_some h53
    subst hr
    unfold slices_Reverse_int_int_b1 at h51
    try dsimp only at h51
    refine GL.seq ?_
    refine GL.seq ?_
    refine GL.region ?_
    refine RL.mv rfl rfl rfl ?_
    refine RL.mv rfl rfl rfl ?_
    refine RL.binI (v := .bool (decide (x22 < x23))) rfl rfl rfl rfl rfl ?_
    refine RL.finG ?_
    refine GL.cond rfl (fun b57 => ?_) (fun b57 => ?_)
    · replace h51 := ite_t b57 h51
      refine GL.skip ?_
      refine GL.seq ?_
      refine GL.block ?_
      refine GL.regionA rfl rfl ?_
      refine RA.mv 0 rfl (by kernel_rfl) rfl rfl rfl ?_
      refine RA.mv 1 rfl (by kernel_rfl) rfl rfl rfl ?_
      refine RA.mv 2 rfl (by kernel_rfl) rfl rfl rfl ?_
      refine RA.mv 3 rfl (by kernel_rfl) rfl rfl rfl ?_
      refine RA.mv 4 rfl (by kernel_rfl) rfl rfl rfl ?_
      refine RA.mv 5 rfl (by kernel_rfl) rfl rfl rfl ?_
      obtain ⟨y66, e67, h51⟩ := bind_some h51
      refine RA.idxS (sz := 1) 0 Try.underlying22 Try_ln3 6 rfl (by kernel_rfl) rfl rfl rfl rfl rfl SlOf.own (idx_some e67).1 (idx_some e67).2.1 ?_
      refine RA.mv 8 rfl (by kernel_rfl) rfl rfl rfl ?_
      refine RA.mv 9 rfl (by kernel_rfl) rfl rfl rfl ?_
      obtain ⟨y68, e69, h51⟩ := bind_some h51
      refine RA.idxS (sz := 1) 0 Try.underlying22 Try_ln3 10 rfl (by kernel_rfl) rfl rfl rfl rfl rfl SlOf.own (idx_some e69).1 (idx_some e69).2.1 ?_
      refine RA.still (le := #[true, true, true, true, true, true, true, true, true, true, true, true, true, false, false, false]) (f := 3) [7, 11, 12] 13 rfl (by kernel_rfl) ?_
      simp only [pickOps, List.getElem?_toArray, List.getElem?_cons_succ, List.getElem?_cons_zero]
      refine RL.ldSx (i := (x23).toNat) (e' := y66) 0 Ex.ik Try_ln3 rfl rfl rfl rfl SlOf.own (idx_some e67).2.2 Part.self ?_
      refine RL.ldSx (i := (x22).toNat) (e' := y68) 0 Ex.ik Try_ln3 rfl rfl rfl rfl SlOf.own (idx_some e69).2.2 Part.self ?_
      obtain ⟨y70, e71, h51⟩ := bind_some h51
      refine RL.idxS (sz := 1) 0 Try.underlying22 Try_ln3 rfl rfl rfl rfl rfl SlOf.own (idx_some e71).1 (idx_some e71).2.1 ?_
      refine RL.finH ?_
      refine RL.fin ?_
      refine RA.next ?_
      refine RA.seq 13 rfl (by kernel_rfl) ?_
      refine RL.stS (i := (x22).toNat) (e' := y66) (e1 := y66) (r := TR.int) 0 Try_ln3 rfl rfl rfl rfl VR.int rfl (idx_some e71).2.2 Upd.self ?_
      refine RL.fin ?_
      refine RA.next ?_
      obtain ⟨y72, e73, h51⟩ := bind_some h51
      refine RA.idxS (sz := 1) 0 Try.underlying22 Try_ln3 14 rfl (by kernel_rfl) rfl rfl rfl rfl rfl SlOf.own (idx_some e73).1 (idx_some e73).2.1 ?_
      refine RA.seq 15 rfl (by kernel_rfl) ?_
      refine RL.stS (i := (x23).toNat) (e' := y68) (e1 := y68) (r := TR.int) 0 Try_ln3 rfl rfl rfl rfl VR.int rfl (idx_some e73).2.2 Upd.self ?_
      refine RL.fin ?_
      refine RA.next ?_
      refine RA.doneG (by kernel_rfl) ?_
      refine GL.weak (env' := [(0, v0), (2, .int .i64 x22), (3, .int .i64 x23)]) (L' := [own 3 TR.int v0 (List.set (List.set l21 ((x22).toNat) y66) ((x23).toNat) y68), keep X]) (fun a w st => St.cut [0, 1] ⟨rfl, rfl, rfl, trivial⟩ (by decide) rfl st) ?_
      refine GL.nilB ?_
      refine GL.region ?_
      refine RL.mv rfl rfl rfl ?_
      refine RL.binI (v := .int .i64 (wadd x22 (1 : Int))) rfl rfl rfl rfl rfl ?_
      refine RL.mv rfl rfl rfl ?_
      refine RL.binI (v := .int .i64 (wsub x23 (1 : Int))) rfl rfl rfl rfl rfl ?_
      refine RL.asg rfl rfl rfl ?_
      refine RL.asg rfl rfl rfl ?_
      refine RL.finG ?_
      cases h51
      exact fun a w st => lop_intro (r56, (List.set (List.set l21 ((x22).toNat) y66) ((x23).toNat) y68), wadd x22 (1 : Int), wsub x23 (1 : Int)) (by exact h52) (by simp) (St.cut [0, 1] ⟨rfl, rfl, rfl, trivial⟩ (by decide) rfl st)
    · replace h51 := ite_f b57 h51
      cases h51
      replace h52 : some (Fl.nx _) = some y41 := h52
      cases h52
      exact GL.exit (fun a w st => mid_intro (l21, x22, x23) h44 (St.cut [0, 1] trivial (by decide) rfl st))
  · rintro ⟨l21, x22, x23⟩ h74
    have h75 := h45 _ h74
    try dsimp only at h75
    refine GL.weak (env' := []) (L' := [own 3 TR.int v0 l21, keep X]) (fun _ _ st => st) ?_
    have h75 := Option.some.inj h75
    subst h75
    exact GL.nil (Gx.retN (v := .tuple #[]) (res0 rfl) (fun a w st => (st.pick [0, 1] (by decide) rfl).toPostM (V := fun (o : Unit) => .tuple #[]) (LR := fun (o : Unit) => [own 3 TR.int v0 l21, keep X]) ()))

set_option maxHeartbeats 4000000 in
theorem slices_Index_int_int_c (S : Hp) (w : World) (hS : S.sub w) (v0 : Value) (x0 : (List Int)) (k0 : ((TR.sl TR.int)).vrep S v0 x0) (x1 : Int) (res : Int) (hm : slices_Index_int_int_m x0 x1 = some res) : Calls Try.prog 61 #[v0, .int .i64 x1] w (PostC w (.int .i64 res)) := by
  refine calls_enter 19 Try.func61 Try.ntmps61 rfl S true [(0, v0), (1, .int .i64 x1)] [imm (TR.sl TR.int) v0 x0] rfl ⟨rfl, ⟨rfl, trivial⟩⟩ hS ⟨k0, trivial⟩ ?_
  unfold slices_Index_int_int_m at hm
  refine GL.seq ?_
  refine GL.region ?_
  refine RL.asg rfl rfl rfl ?_
  refine RL.finG ?_
  refine GL.seq ?_
  refine GL.seq ?_
  refine GL.region ?_
  refine RL.mv rfl rfl rfl ?_
  refine RL.lenS 0 Try.underlying22 rfl rfl rfl rfl SlOf.imm ?_
  refine RL.mv rfl rfl rfl ?_
  refine RL.finG ?_
  refine GL.open_ 0 rfl (fun S h => len_imm S h) (fun n8 => ?_)
  obtain ⟨y9, K10, h11, h12, h13, h14, h15⟩ := bindR_K hm
  refine GL.join (ι := Unit) (fun (p : Unit) => []) (fun (p : Unit) => []) (fun (p : Unit) => K10 (.nx ())) ?_ ?_
  · refine GL.block ?_
    refine GL.loop (ι := Nat × (List Int)) (fun (p : Nat × (List Int)) => [(0, v0), (1, .int .i64 x1), (7, .int .i64 ((x0).length : Int)), (8, .int .i64 (p.1 : Int))]) (fun (p : Nat × (List Int)) => [imm (TR.sl TR.int) v0 x0]) (fun (p : Nat × (List Int)) => p.1 + p.2.length = (x0).length ∧ List.drop p.1 x0 = p.2 ∧ rangeL (slices_Index_int_int_b1 x1) p.2 p.1 () = some y9) (fun (p : Nat × (List Int)) => p.2.length) (0, x0) ⟨by simp, by simp, h11⟩ (fun a w st => St.cut [0] ⟨rfl, rfl, rfl, rfl, trivial⟩ (by decide) rfl st) ?_
    rintro ⟨i17, r18⟩ ⟨h23, h24, h22⟩
    try dsimp only at h23 h24 h22
    refine GL.weak (env' := [(0, v0), (1, .int .i64 x1), (7, .int .i64 ((x0).length : Int)), (8, .int .i64 (i17 : Int))]) (L' := [imm (TR.sl TR.int) v0 x0]) (fun _ _ st => st) ?_
    refine GL.seq ?_
    refine GL.region ?_
    refine RL.binI (v := .bool (decide ((i17 : Int) < ((x0).length : Int)))) rfl rfl rfl rfl rfl ?_
    refine RL.finG ?_
    refine GL.seq ?_
    refine GL.cond rfl (fun b25 => ?_) (fun b25 => ?_)
    · have h26 : i17 < (x0).length := by have := of_decide_eq_true b25; omega
      obtain ⟨y27, r29, hr, e28, h30⟩ := drop_cons h24 rfl h26
      subst hr
      obtain ⟨z19, h20, h21⟩ := rangeL_some h22
      unfold slices_Index_int_int_b1 at h20
      try dsimp only at h20
      refine GL.skip ?_
      refine GL.seq ?_
      refine GL.block ?_
      refine GL.seq ?_
      refine GL.region ?_
      refine RL.mv rfl rfl rfl ?_
      refine RL.asg rfl rfl rfl ?_
      refine RL.finG ?_
      refine GL.seq ?_
      refine GL.region ?_
      refine RL.mv rfl rfl rfl ?_
      refine RL.mv rfl rfl rfl ?_
      refine RL.mv rfl rfl rfl ?_
      refine RL.idxS (sz := 1) 0 Try.underlying22 Try_ln3 rfl rfl rfl rfl rfl SlOf.imm (by omega) (by omega) ?_
      refine RL.ldSx (i := i17) (e' := y27) 0 Ex.ik Try_ln3 rfl rfl rfl rfl SlOf.imm e28 Part.self ?_
      refine RL.binI (v := .bool (x1 == y27)) rfl rfl rfl rfl rfl ?_
      refine RL.finG ?_
      refine GL.cond rfl (fun b31 => ?_) (fun b31 => ?_)
      · replace h20 := ite_t b31 h20
        refine GL.seq ?_
        refine GL.region ?_
        refine RL.mv rfl rfl rfl ?_
        refine RL.asg rfl rfl rfl ?_
        refine RL.finG ?_
        cases h20
        replace h21 : some (Fl.rt _) = some y9 := h21
        cases h21
        have hh := h14 _ h12
        subst hh
        exact GL.ret (Gx.ret (v := .int .i64 (i17 : Int)) (res1 rfl rfl) (fun a w st => st.toPostC rfl))
      · replace h20 := ite_f b31 h20
        refine GL.skip ?_
        refine GL.nilB ?_
        refine GL.region ?_
        refine RL.binI (v := .int .i64 ((i17 + 1 : Nat) : Int)) rfl rfl rfl rfl (binI_succ i17 (by omega)) ?_
        refine RL.mv rfl rfl rfl ?_
        refine RL.fin ?_
        cases h20
        exact fun a w st => lop_intro (i17 + 1, r29) ⟨by show i17 + 1 + r29.length = (x0).length; simp only [List.length_cons] at h23; omega, h30, h21⟩ (by simp) (St.cut [0] ⟨rfl, rfl, rfl, rfl, trivial⟩ (by decide) rfl st)
    · have h26 : ¬ i17 < (x0).length := by have := of_decide_eq_false b25; omega
      obtain rfl : r18 = [] := by rw [← h24]; exact List.drop_of_length_le (by omega)
      replace h22 : some (Fl.nx _) = some y9 := h22
      cases h22
      exact GL.exit (fun a w st => mid_intro () h12 (St.cut [] trivial (by decide) rfl st))
  · rintro ⟨⟩ h32
    have h33 := h13 _ h32
    try dsimp only at h33
    refine GL.weak (env' := []) (L' := []) (fun _ _ st => st) ?_
    refine GL.seq ?_
    refine GL.region ?_
    refine RL.asg rfl rfl rfl ?_
    refine RL.finG ?_
    have h33 := Option.some.inj h33
    subst h33
    exact GL.ret (Gx.ret (v := .int .i64 (-1 : Int)) (res1 rfl rfl) (fun a w st => st.toPostC rfl))

set_option maxHeartbeats 4000000 in
theorem slices_Contains_int_int_c (S : Hp) (w : World) (hS : S.sub w) (v0 : Value) (x0 : (List Int)) (k0 : ((TR.sl TR.int)).vrep S v0 x0) (x1 : Int) (res : Bool) (hm : slices_Contains_int_int_m x0 x1 = some res) : Calls Try.prog 39 #[v0, .int .i64 x1] w (PostC w (.bool res)) := by
  refine calls_enter 9 Try.func39 Try.ntmps39 rfl S true [(0, v0), (1, .int .i64 x1)] [imm (TR.sl TR.int) v0 x0] rfl ⟨rfl, ⟨rfl, trivial⟩⟩ hS ⟨k0, trivial⟩ ?_
  unfold slices_Contains_int_int_m at hm
  refine GL.seq ?_
  refine GL.region ?_
  refine RL.asg rfl rfl rfl ?_
  refine RL.finG ?_
  refine GL.seq ?_
  refine GL.region ?_
  refine RL.mv rfl rfl rfl ?_
  refine RL.mv rfl rfl rfl ?_
  obtain ⟨y5, e6, hm⟩ := bind_some hm
  refine RL.callC (v := .int .i64 y5) (vs := [v0, .int .i64 x1]) Try_fit61 rfl rfl rfl rfl (fun U w hU hW hL => slices_Index_int_int_c U w hU _ _ (hL 0 _ _ rfl Seen.imm) x1 _ e6) ?_
  refine RL.binI (v := .bool (decide (y5 ≥ (0 : Int)))) rfl rfl rfl rfl rfl ?_
  refine RL.asg rfl rfl rfl ?_
  refine RL.finG ?_
  have hm := Option.some.inj hm
  subst hm
  exact GL.ret (Gx.ret (v := .bool (decide (y5 ≥ (0 : Int)))) (res1 rfl rfl) (fun a w st => st.toPostC rfl))

set_option maxHeartbeats 4000000 in
theorem order_All_c (S : Hp) (w : World) (hS : S.sub w) (x0 : Int) (res : (List (List Int)) × Int) (hm : order_All_m x0 = some res) : Calls Try.prog 20 #[.int .i64 x0] w (Post w S (fun (o : Value) => .tuple #[o, .int .i64 res.2]) (fun (o : Value) => [own 22 (TR.sl TR.int) o res.1])) := by
  refine calls_enter 46 Try.func20 Try.ntmps20 rfl S false [(0, .int .i64 x0)] [] rfl ⟨rfl, trivial⟩ hS trivial ?_
  unfold order_All_m at hm
  refine GL.seq ?_
  refine GL.region ?_
  refine RL.asg rfl rfl rfl ?_
  refine RL.asg rfl rfl rfl ?_
  refine RL.finG ?_
  refine GL.seq ?_
  refine GL.seq ?_
  obtain ⟨y5, K6, h7, h8, h9, h10, h11⟩ := bindR_K hm
  refine GL.join (ι := Bool) (fun (p : Bool) => [(0, .int .i64 x0), (14, .bool p)]) (fun (p : Bool) => []) (fun (p : Bool) => K6 (.nx p)) ?_ ?_
  · skip
    refine GL.region ?_
    refine RL.mv rfl rfl rfl ?_
    refine RL.binI (v := .bool (decide (x0 < (1 : Int)))) rfl rfl rfl rfl rfl ?_
    refine RL.mv rfl rfl rfl ?_
    refine RL.split (t := 11) rfl (fun b12 => ?_) (fun b12 => ?_)
    · replace h7 := ite_t b12 h7
      refine RL.skip rfl rfl ?_
      refine RL.skip rfl rfl ?_
      refine RL.pickT rfl rfl rfl rfl ?_
      refine RL.fin ?_
      cases h7
      exact fun a w st => mid_intro true h8 (St.cut [] ⟨rfl, rfl, trivial⟩ (by decide) rfl st)
    · replace h7 := ite_f b12 h7
      refine RL.mv rfl rfl rfl ?_
      refine RL.binI (v := .bool (decide (x0 > (6 : Int)))) rfl rfl rfl rfl rfl ?_
      refine RL.pickF rfl rfl rfl rfl ?_
      refine RL.fin ?_
      cases h7
      exact fun a w st => mid_intro (decide (x0 > (6 : Int))) h8 (St.cut [] ⟨rfl, rfl, trivial⟩ (by decide) rfl st)
  · rintro x4 h13
    have h14 := h9 _ h13
    try dsimp only at h14
    refine GL.weak (env' := [(0, .int .i64 x0), (14, .bool x4)]) (L' := []) (fun _ _ st => st) ?_
    refine GL.cond rfl (fun b15 => ?_) (fun b15 => ?_)
    · replace h14 := ite_t b15 h14
      refine GL.seq ?_
      refine GL.region ?_
      refine RL.asg rfl rfl rfl ?_
      refine RL.asg rfl rfl rfl ?_
      refine RL.finG ?_
      refine GL.weak (fun a w st => st.nilOwn 22 (TR.sl TR.int)) ?_
      have h14 := Option.some.inj h14
      subst h14
      exact GL.ret (Gx.ret (v := .tuple #[Value.slice none 0 0, .int .i64 (1 : Int)]) (res2 rfl rfl rfl) (fun a w st => (st.pick [0] (by decide) rfl).toPost (Value.slice none 0 0)))
    · replace h14 := ite_f b15 h14
      refine GL.skip ?_
      refine GL.seq ?_
      refine GL.region ?_
      refine RL.bS (t := (TR.sl TR.int)) (vs := [Value.slice none 0 0]) ([[]] : (List (List Int))) Try.underlying28 Try_lo22 rfl rfl rfl rfl ⟨VR.nil, trivial⟩ rfl (by decide) ?_
      intro v17
      refine RL.asg rfl rfl rfl ?_
      refine RL.finG ?_
      refine GL.seq ?_
      refine GL.seq ?_
      refine GL.region ?_
      refine RL.mv rfl rfl rfl ?_
      refine RL.mv rfl rfl rfl ?_
      refine RL.finG ?_
      obtain ⟨y214, e215, h14⟩ := bind_some h14
      replace e215 := chk_some e215
      obtain ⟨y216, K217, h218, h219, h220, h221, h222⟩ := bindR_K h14
      refine GL.join (ι := (List (List Int)) × Value) (fun (p : (List (List Int)) × Value) => [(4, p.2)]) (fun (p : (List (List Int)) × Value) => [own 22 (TR.sl TR.int) p.2 p.1]) (fun (p : (List (List Int)) × Value) => K217 (.nx p.1)) ?_ ?_
      · refine GL.block ?_
        refine GL.loop (ι := Nat × Nat × (List (List Int)) × Value) (fun (p : Nat × Nat × (List (List Int)) × Value) => [(0, .int .i64 x0), (4, p.2.2.2), (16, .int .i64 x0), (17, .int .i64 (p.1 : Int))]) (fun (p : Nat × Nat × (List (List Int)) × Value) => [own 22 (TR.sl TR.int) p.2.2.2 p.2.2.1]) (fun (p : Nat × Nat × (List (List Int)) × Value) => p.1 + p.2.1 = (x0).toNat ∧ rangeN (order_All_b1 x0) p.2.1 p.1 p.2.2.1 = some y216) (fun (p : Nat × Nat × (List (List Int)) × Value) => p.2.1) (0, (x0).toNat, ([[]] : (List (List Int))), v17) ⟨by simp, h218⟩ (fun a w st => St.cut [0] ⟨rfl, rfl, rfl, rfl, trivial⟩ (by decide) rfl st) ?_
        rintro ⟨i223, r224, l18, v19⟩ ⟨h229, h228⟩
        try dsimp only at h229 h228
        refine GL.weak (env' := [(0, .int .i64 x0), (4, v19), (16, .int .i64 x0), (17, .int .i64 (i223 : Int))]) (L' := [own 22 (TR.sl TR.int) v19 l18]) (fun _ _ st => st) ?_
        refine GL.seq ?_
        refine GL.region ?_
        refine RL.binI (v := .bool (decide ((i223 : Int) < x0))) rfl rfl rfl rfl rfl ?_
        refine RL.finG ?_
        refine GL.seq ?_
        refine GL.cond rfl (fun b231 => ?_) (fun b231 => ?_)
        · have h232 : i223 < (x0).toNat := by have := of_decide_eq_true b231; omega
          obtain ⟨r233, hr⟩ : ∃ m, r224 = m + 1 := ⟨r224 - 1, by omega⟩
          subst hr
          obtain ⟨z225, h226, h227⟩ := rangeN_some h228
          unfold order_All_b1 at h226
          try dsimp only at h226
          refine GL.skip ?_
          refine GL.seq ?_
          refine GL.block ?_
          refine GL.seq ?_
          refine GL.region ?_
          refine RL.asg rfl rfl rfl ?_
          refine RL.finG ?_
          refine GL.seq ?_
          refine GL.seq ?_
          refine GL.region ?_
          refine RL.mv rfl rfl rfl ?_
          refine RL.lenS 0 Try.underlying28 rfl rfl rfl rfl SlOf.own ?_
          refine RL.mv rfl rfl rfl ?_
          refine RL.finG ?_
          refine GL.weak (fun a w st => st.nilOwn 22 (TR.sl TR.int)) ?_
          refine GL.lenOwn 0 rfl (fun n321 => ?_)
          obtain ⟨y322, K323, h324, h325, h326, h327, h328⟩ := bindF_K h226
          refine GL.join (ι := (List (List Int)) × Value) (fun (p : (List (List Int)) × Value) => [(0, .int .i64 x0), (5, p.2), (16, .int .i64 x0), (17, .int .i64 (i223 : Int))]) (fun (p : (List (List Int)) × Value) => [own 22 (TR.sl TR.int) p.2 p.1]) (fun (p : (List (List Int)) × Value) => K323 (.nx p.1)) ?_ ?_
          · refine GL.block ?_
            refine GL.loop (ι := Nat × Nat × (List (List Int)) × Value) (fun (p : Nat × Nat × (List (List Int)) × Value) => [(0, .int .i64 x0), (5, p.2.2.2), (16, .int .i64 x0), (17, .int .i64 (i223 : Int)), (19, v19), (20, .int .i64 ((l18).length : Int)), (21, .int .i64 (p.1 : Int))]) (fun (p : Nat × Nat × (List (List Int)) × Value) => [own 22 (TR.sl TR.int) p.2.2.2 p.2.2.1, own 22 (TR.sl TR.int) v19 l18]) (fun (p : Nat × Nat × (List (List Int)) × Value) => p.1 + p.2.1 = (l18).length ∧ rangeN (order_All_b2 l18 x0) p.2.1 p.1 p.2.2.1 = some y322) (fun (p : Nat × Nat × (List (List Int)) × Value) => p.2.1) (0, (l18).length, [], Value.slice none 0 0) ⟨by simp, h324⟩ (fun a w st => St.cut [1, 0] ⟨rfl, rfl, rfl, rfl, rfl, rfl, rfl, trivial⟩ (by decide) rfl st) ?_
            rintro ⟨i329, r330, l234, v235⟩ ⟨h335, h334⟩
            try dsimp only at h335 h334
            refine GL.weak (env' := [(0, .int .i64 x0), (5, v235), (16, .int .i64 x0), (17, .int .i64 (i223 : Int)), (19, v19), (20, .int .i64 ((l18).length : Int)), (21, .int .i64 (i329 : Int))]) (L' := [own 22 (TR.sl TR.int) v235 l234, own 22 (TR.sl TR.int) v19 l18]) (fun _ _ st => st) ?_
            refine GL.seq ?_
            refine GL.region ?_
            refine RL.binI (v := .bool (decide ((i329 : Int) < ((l18).length : Int)))) rfl rfl rfl rfl rfl ?_
            refine RL.finG ?_
            refine GL.seq ?_
            refine GL.cond rfl (fun b337 => ?_) (fun b337 => ?_)
            · have h338 : i329 < (l18).length := by have := of_decide_eq_true b337; omega
              obtain ⟨r339, hr⟩ : ∃ m, r330 = m + 1 := ⟨r330 - 1, by omega⟩
              subst hr
              obtain ⟨z331, h332, h333⟩ := rangeN_some h334
              unfold order_All_b2 at h332
              try dsimp only at h332
              refine GL.skip ?_
              refine GL.seq ?_
              refine GL.block ?_
              refine GL.seq ?_
              refine GL.region ?_
              obtain ⟨y343, e344, h332⟩ := bind_some h332
              refine RL.idxS (sz := 1) 1 Try.underlying28 Try_ln22 rfl rfl rfl rfl rfl SlOf.own (idx_some e344).1 (idx_some e344).2.1 ?_
              refine RL.ldS (i := i329) (r := (TR.sl TR.int)) (e' := y343) 1 Try_ln22 rfl rfl rfl rfl SlOf.own (idx_some e344).2.2 Part.self ?_
              intro v345
              refine RL.asg rfl rfl rfl ?_
              refine RL.finG ?_
              refine GL.seq ?_
              refine GL.region ?_
              refine RL.mv rfl rfl rfl ?_
              refine RL.mv rfl rfl rfl ?_
              refine RL.finG ?_
              obtain ⟨y376, e377, h332⟩ := bind_some h332
              replace e377 := chk_some e377
              obtain ⟨y378, K379, h380, h381, h382, h383, h384⟩ := bindF_K h332
              refine GL.join (ι := (List (List Int)) × Value) (fun (p : (List (List Int)) × Value) => [(0, .int .i64 x0), (5, p.2), (16, .int .i64 x0), (17, .int .i64 (i223 : Int)), (19, v19), (20, .int .i64 ((l18).length : Int)), (21, .int .i64 (i329 : Int))]) (fun (p : (List (List Int)) × Value) => [own 22 (TR.sl TR.int) p.2 p.1, own 22 (TR.sl TR.int) v19 l18]) (fun (p : (List (List Int)) × Value) => K379 (.nx p.1)) ?_ ?_
              · refine GL.block ?_
                refine GL.loop (ι := Nat × Nat × (List (List Int)) × Value) (fun (p : Nat × Nat × (List (List Int)) × Value) => [(0, .int .i64 x0), (5, p.2.2.2), (7, v345), (16, .int .i64 x0), (17, .int .i64 (i223 : Int)), (19, v19), (20, .int .i64 ((l18).length : Int)), (21, .int .i64 (i329 : Int)), (25, .int .i64 x0), (26, .int .i64 (p.1 : Int))]) (fun (p : Nat × Nat × (List (List Int)) × Value) => [own 22 (TR.sl TR.int) p.2.2.2 p.2.2.1, imm (TR.sl TR.int) v345 y343, own 22 (TR.sl TR.int) v19 l18]) (fun (p : Nat × Nat × (List (List Int)) × Value) => p.1 + p.2.1 = (x0).toNat ∧ rangeN (order_All_b3 y343) p.2.1 p.1 p.2.2.1 = some y378) (fun (p : Nat × Nat × (List (List Int)) × Value) => p.2.1) (0, (x0).toNat, l234, v235) ⟨by simp, h380⟩ (fun a w st => St.cut [0, 2, 1] ⟨rfl, rfl, rfl, rfl, rfl, rfl, rfl, rfl, rfl, rfl, trivial⟩ (by decide) rfl st) ?_
                rintro ⟨i385, r386, l346, v347⟩ ⟨h391, h390⟩
                try dsimp only at h391 h390
                refine GL.weak (env' := [(0, .int .i64 x0), (5, v347), (7, v345), (16, .int .i64 x0), (17, .int .i64 (i223 : Int)), (19, v19), (20, .int .i64 ((l18).length : Int)), (21, .int .i64 (i329 : Int)), (25, .int .i64 x0), (26, .int .i64 (i385 : Int))]) (L' := [own 22 (TR.sl TR.int) v347 l346, imm (TR.sl TR.int) v345 y343, own 22 (TR.sl TR.int) v19 l18]) (fun _ _ st => st) ?_
                refine GL.seq ?_
                refine GL.region ?_
                refine RL.binI (v := .bool (decide ((i385 : Int) < x0))) rfl rfl rfl rfl rfl ?_
                refine RL.finG ?_
                refine GL.seq ?_
                refine GL.cond rfl (fun b393 => ?_) (fun b393 => ?_)
                · have h394 : i385 < (x0).toNat := by have := of_decide_eq_true b393; omega
                  obtain ⟨r395, hr⟩ : ∃ m, r386 = m + 1 := ⟨r386 - 1, by omega⟩
                  subst hr
                  obtain ⟨z387, h388, h389⟩ := rangeN_some h390
                  unfold order_All_b3 at h388
                  try dsimp only at h388
                  refine GL.skip ?_
                  refine GL.seq ?_
                  refine GL.block ?_
                  refine GL.seq ?_
                  refine GL.region ?_
                  refine RL.mv rfl rfl rfl ?_
                  refine RL.asg rfl rfl rfl ?_
                  refine RL.finG ?_
                  refine GL.seq ?_
                  refine GL.region ?_
                  refine RL.mv rfl rfl rfl ?_
                  refine RL.mv rfl rfl rfl ?_
                  obtain ⟨y398, e399, h388⟩ := bind_some h388
                  refine RL.callC (v := .bool y398) (vs := [v345, .int .i64 (i385 : Int)]) Try_fit39 rfl rfl rfl rfl (fun U w hU hW hL => slices_Contains_int_int_c U w hU _ _ (hL 1 _ _ rfl Seen.imm) (i385 : Int) _ e399) ?_
                  refine RL.notB rfl rfl rfl ?_
                  refine RL.finG ?_
                  refine GL.cond rfl (fun b400 => ?_) (fun b400 => ?_)
                  · replace h388 := ite_t b400 h388
                    refine GL.region ?_
                    refine RL.mv rfl rfl rfl ?_
                    refine RL.mv rfl rfl rfl ?_
                    obtain ⟨y412, e413, h388⟩ := bind_some h388
                    refine RL.call (vs := [v345]) Try_fit18 rfl rfl rfl rfl rfl (fun S f w hS hW hi => slices_Clone_int_int_c S w hS _ _ (hi 1 _ rfl) _ e413) ?_
                    intro v414
                    refine RL.mv rfl rfl rfl ?_
                    refine RL.bS (t := TR.int) (vs := [.int .i64 (i385 : Int)]) ([(i385 : Int)] : (List Int)) Try.underlying22 Try_lo3 rfl rfl rfl rfl ⟨VR.int, trivial⟩ rfl (by decide) ?_
                    intro v415
                    refine RL.reL (L' := [own 22 (TR.sl TR.int) v347 l346, imm (TR.sl TR.int) v345 y343, own 22 (TR.sl TR.int) v19 l18, own 3 TR.int v414 y412, own 3 TR.int v415 ([(i385 : Int)] : (List Int))]) rfl ?_
                    obtain ⟨y416, e417, h388⟩ := bind_some h388
                    replace e417 := chk_some e417
                    refine RL.app 3 4 Try.underlying22 Try_lo3 rfl rfl rfl rfl rfl rfl rfl SlOf.own e417 ?_
                    intro v418
                    refine RL.weak (fun a w st => st.freeze 3 rfl) ?_
                    refine RL.bS (t := (TR.sl TR.int)) (vs := [v418]) ([(y412 ++ ([(i385 : Int)] : (List Int)))] : (List (List Int))) Try.underlying28 Try_lo22 rfl rfl rfl rfl ⟨(VR.item 3 rfl), trivial⟩ rfl (by decide) ?_
                    intro v419
                    refine RL.reL (L' := [own 22 (TR.sl TR.int) v347 l346, imm (TR.sl TR.int) v345 y343, own 22 (TR.sl TR.int) v19 l18, imm (TR.sl TR.int) v418 (y412 ++ ([(i385 : Int)] : (List Int))), own 3 TR.int v415 ([(i385 : Int)] : (List Int)), own 22 (TR.sl TR.int) v419 ([(y412 ++ ([(i385 : Int)] : (List Int)))] : (List (List Int)))]) rfl ?_
                    obtain ⟨y420, e421, h388⟩ := bind_some h388
                    replace e421 := chk_some e421
                    refine RL.app 0 5 Try.underlying28 Try_lo22 rfl rfl rfl rfl rfl rfl rfl SlOf.own e421 ?_
                    intro v422
                    refine RL.asg rfl rfl rfl ?_
                    refine RL.finG ?_
                    refine GL.nilB ?_
                    refine GL.region ?_
                    refine RL.binI (v := .int .i64 ((i385 + 1 : Nat) : Int)) rfl rfl rfl rfl (binI_succ i385 (by omega)) ?_
                    refine RL.mv rfl rfl rfl ?_
                    refine RL.fin ?_
                    cases h388
                    exact fun a w st => lop_intro (i385 + 1, r395, (l346 ++ ([(y412 ++ ([(i385 : Int)] : (List Int)))] : (List (List Int)))), v422) ⟨by show i385 + 1 + r395 = (x0).toNat; omega, h389⟩ (by simp) (St.cut [0, 1, 2] ⟨rfl, rfl, rfl, rfl, rfl, rfl, rfl, rfl, rfl, rfl, trivial⟩ (by decide) rfl st)
                  · replace h388 := ite_f b400 h388
                    refine GL.skip ?_
                    refine GL.nilB ?_
                    refine GL.region ?_
                    refine RL.binI (v := .int .i64 ((i385 + 1 : Nat) : Int)) rfl rfl rfl rfl (binI_succ i385 (by omega)) ?_
                    refine RL.mv rfl rfl rfl ?_
                    refine RL.fin ?_
                    cases h388
                    exact fun a w st => lop_intro (i385 + 1, r395, l346, v347) ⟨by show i385 + 1 + r395 = (x0).toNat; omega, h389⟩ (by simp) (St.cut [0, 1, 2] ⟨rfl, rfl, rfl, rfl, rfl, rfl, rfl, rfl, rfl, rfl, trivial⟩ (by decide) rfl st)
                · have h394 : ¬ i385 < (x0).toNat := by have := of_decide_eq_false b393; omega
                  obtain rfl : r386 = 0 := by omega
                  replace h390 : some (Fl.nx _) = some y378 := h390
                  cases h390
                  exact GL.exit (fun a w st => mid_intro (l346, v347) h381 (St.cut [0, 2] ⟨rfl, rfl, rfl, rfl, rfl, rfl, rfl, trivial⟩ (by decide) rfl st))
              · rintro ⟨l346, v347⟩ h423
                have h424 := h382 _ h423
                try dsimp only at h424
                refine GL.weak (env' := [(0, .int .i64 x0), (5, v347), (16, .int .i64 x0), (17, .int .i64 (i223 : Int)), (19, v19), (20, .int .i64 ((l18).length : Int)), (21, .int .i64 (i329 : Int))]) (L' := [own 22 (TR.sl TR.int) v347 l346, own 22 (TR.sl TR.int) v19 l18]) (fun _ _ st => st) ?_
                refine GL.nilB ?_
                refine GL.region ?_
                refine RL.binI (v := .int .i64 ((i329 + 1 : Nat) : Int)) rfl rfl rfl rfl (binI_succ i329 (by omega)) ?_
                refine RL.mv rfl rfl rfl ?_
                refine RL.fin ?_
                cases h424
                exact fun a w st => lop_intro (i329 + 1, r339, l346, v347) ⟨by show i329 + 1 + r339 = (l18).length; omega, h333⟩ (by simp) (St.cut [0, 1] ⟨rfl, rfl, rfl, rfl, rfl, rfl, rfl, trivial⟩ (by decide) rfl st)
            · have h338 : ¬ i329 < (l18).length := by have := of_decide_eq_false b337; omega
              obtain rfl : r330 = 0 := by omega
              replace h334 : some (Fl.nx _) = some y322 := h334
              cases h334
              exact GL.exit (fun a w st => mid_intro (l234, v235) h325 (St.cut [0] ⟨rfl, rfl, rfl, rfl, trivial⟩ (by decide) rfl st))
          · rintro ⟨l234, v235⟩ h425
            have h426 := h326 _ h425
            try dsimp only at h426
            refine GL.weak (env' := [(0, .int .i64 x0), (5, v235), (16, .int .i64 x0), (17, .int .i64 (i223 : Int))]) (L' := [own 22 (TR.sl TR.int) v235 l234]) (fun _ _ st => st) ?_
            refine GL.region ?_
            refine RL.mv rfl rfl rfl ?_
            refine RL.asg rfl rfl rfl ?_
            refine RL.finG ?_
            refine GL.nilB ?_
            refine GL.region ?_
            refine RL.binI (v := .int .i64 ((i223 + 1 : Nat) : Int)) rfl rfl rfl rfl (binI_succ i223 (by omega)) ?_
            refine RL.mv rfl rfl rfl ?_
            refine RL.fin ?_
            cases h426
            exact fun a w st => lop_intro (i223 + 1, r233, l234, v235) ⟨by show i223 + 1 + r233 = (x0).toNat; omega, h227⟩ (by simp) (St.cut [0] ⟨rfl, rfl, rfl, rfl, trivial⟩ (by decide) rfl st)
        · have h232 : ¬ i223 < (x0).toNat := by have := of_decide_eq_false b231; omega
          obtain rfl : r224 = 0 := by omega
          replace h228 : some (Fl.nx _) = some y216 := h228
          cases h228
          exact GL.exit (fun a w st => mid_intro (l18, v19) h219 (St.cut [0] ⟨rfl, trivial⟩ (by decide) rfl st))
      · rintro ⟨l18, v19⟩ h427
        have h428 := h220 _ h427
        try dsimp only at h428
        refine GL.weak (env' := [(4, v19)]) (L' := [own 22 (TR.sl TR.int) v19 l18]) (fun _ _ st => st) ?_
        refine GL.seq ?_
        refine GL.region ?_
        refine RL.mv rfl rfl rfl ?_
        refine RL.asg rfl rfl rfl ?_
        refine RL.asg rfl rfl rfl ?_
        refine RL.finG ?_
        have h428 := Option.some.inj h428
        subst h428
        exact GL.ret (Gx.ret (v := .tuple #[v19, .int .i64 (0 : Int)]) (res2 rfl rfl rfl) (fun a w st => (st.pick [0] (by decide) rfl).toPost v19))

set_option maxHeartbeats 4000000 in
theorem pk_PeakMany_c (S : Hp) (w : World) (hS : S.sub w) (x0 : Int) (v1 : Value) (x1 : (List Int)) (k1 : ((TR.sl TR.int)).vrep S v1 x1) (v2 : Value) (x2 : (List Int)) (k2 : ((TR.sl TR.int)).vrep S v2 x2) (res : Bool) (hm : pk_PeakMany_m x0 x1 x2 = some res) : Calls Try.prog 3 #[.int .i64 x0, v1, v2] w (PostV w (.bool res)) := by
  refine calls_enter 89 Try.func3 Try.ntmps3 rfl S false [(0, .int .i64 x0), (1, v1), (2, v2)] [imm (TR.sl TR.int) v1 x1, imm (TR.sl TR.int) v2 x2] rfl ⟨rfl, ⟨rfl, ⟨rfl, trivial⟩⟩⟩ hS ⟨k1, ⟨k2, trivial⟩⟩ ?_
  unfold pk_PeakMany_m at hm
  refine GL.seq ?_
  refine GL.region ?_
  refine RL.asg rfl rfl rfl ?_
  refine RL.finG ?_
  refine GL.seq ?_
  refine GL.seq ?_
  refine GL.region ?_
  obtain ⟨y6, e7, hm⟩ := bind_some hm
  refine RL.callV (v := .bool y6) (vs := []) Try_fit15 rfl (Or.inl rfl) rfl rfl rfl rfl (fun U w hU hW hL => pk_peaks_c U w hU  _ e7) ?_
  refine RL.notB rfl rfl rfl ?_
  refine RL.finG ?_
  refine GL.cond rfl (fun b8 => ?_) (fun b8 => ?_)
  · replace hm := ite_t b8 hm
    refine GL.seq ?_
    refine GL.region ?_
    refine RL.asg rfl rfl rfl ?_
    refine RL.finG ?_
    have hm := Option.some.inj hm
    subst hm
    exact GL.ret (Gx.ret (v := .bool false) (res1 rfl rfl) (fun a w st => st.toPostV))
  · replace hm := ite_f b8 hm
    refine GL.skip ?_
    refine GL.seq ?_
    refine GL.region ?_
    refine RL.mv rfl rfl rfl ?_
    obtain ⟨y11, e12, hm⟩ := bind_some hm
    refine RL.callC (v := .int .i64 y11) (vs := [.int .i64 x0, .int .i64 (6 : Int)]) Try_fit16 rfl rfl rfl rfl (fun U w hU hW hL => pk_Within_c U w hU x0 (6 : Int) _ e12) ?_
    refine RL.binI (v := .int .i64 (wadd (1 : Int) y11)) rfl rfl rfl rfl rfl ?_
    refine RL.asg rfl rfl rfl ?_
    refine RL.finG ?_
    refine GL.seq ?_
    refine GL.region ?_
    refine RL.mv rfl rfl rfl ?_
    refine RL.mv rfl rfl rfl ?_
    obtain ⟨y19, e20, hm⟩ := bind_some hm
    refine RL.call (vs := [.int .i64 (wadd (1 : Int) y11), v1]) Try_fit17 rfl rfl rfl rfl rfl (fun S f w hS hW hi => pk_OrderOf_c S w hS (wadd (1 : Int) y11) _ _ (hi 0 _ rfl) _ e20) ?_
    intro v21
    refine RL.mv rfl rfl rfl ?_
    refine RL.mv rfl rfl rfl ?_
    obtain ⟨y22, e23, hm⟩ := bind_some hm
    refine RL.call (vs := [.int .i64 (wadd (1 : Int) y11), v2]) Try_fit17 rfl rfl rfl rfl rfl (fun S f w hS hW hi => pk_OrderOf_c S w hS (wadd (1 : Int) y11) _ _ (hi 1 _ rfl) _ e23) ?_
    intro v24
    refine RL.reL (L' := [imm (TR.sl TR.int) v1 x1, imm (TR.sl TR.int) v2 x2, own 3 TR.int v21 y19, own 3 TR.int v24 y22]) rfl ?_
    refine RL.asg rfl rfl rfl ?_
    refine RL.asg rfl rfl rfl ?_
    refine RL.finG ?_
    refine GL.seq ?_
    refine GL.region ?_
    refine RL.mv rfl rfl rfl ?_
    obtain ⟨y28, e29, hm⟩ := bind_some hm
    refine RL.callU (vs := [v21]) (LR := fun (o : Value) => [own 3 TR.int o y28]) (fun o => ⟨Loc.own TR.flatT_ik, trivial⟩) Try_fit18 rfl rfl rfl rfl rfl (fun U w hU hW hL => slices_Clone_int_int_c U w hU _ _ (hL 2 _ _ rfl Seen.own) _ e29) ?_
    intro v30
    refine RL.asg rfl rfl rfl ?_
    refine RL.finG ?_
    refine GL.seq ?_
    refine GL.region ?_
    refine RL.mv rfl rfl rfl ?_
    obtain ⟨y33, e34, hm⟩ := bind_some hm
    refine RL.callK (vs := [v30]) (V := fun (o : Unit) => .tuple #[]) (LR := fun (o : Unit) => [own 3 TR.int v30 y33]) (Ls := [own 3 TR.int v30 y28]) [4] (by decide) Try_fit19 rfl rfl rfl rfl rfl rfl (fun S f X w hO hB hW hI hL => slices_Reverse_int_int_c _ S X f w _ _ hO hB hI  _ e34) ?_
    intro _
    refine RL.reL (L' := [imm (TR.sl TR.int) v1 x1, imm (TR.sl TR.int) v2 x2, own 3 TR.int v21 y19, own 3 TR.int v24 y22, gone, own 3 TR.int v30 y33]) rfl ?_
    refine RL.finG ?_
    refine GL.seq ?_
    refine GL.region ?_
    refine RL.mv rfl rfl rfl ?_
    obtain ⟨y38, e39, hm⟩ := bind_some hm
    refine RL.call (vs := [.int .i64 (wadd (1 : Int) y11)]) Try_fit20 rfl rfl rfl rfl rfl (fun S f w hS hW hi => order_All_c S w hS (wadd (1 : Int) y11) _ e39) ?_
    intro v40
    refine RL.mv rfl rfl rfl ?_
    refine RL.ext rfl rfl rfl rfl ?_
    refine RL.ext rfl rfl rfl rfl ?_
    refine RL.asg rfl rfl rfl ?_
    refine RL.asg rfl rfl rfl ?_
    refine RL.finG ?_
    refine GL.seq ?_
    refine GL.seq ?_
    refine GL.region ?_
    refine RL.mv rfl rfl rfl ?_
    refine RL.binI (v := .bool (y38.2 != (0 : Int))) rfl rfl rfl rfl rfl ?_
    refine RL.finG ?_
    refine GL.cond rfl (fun b41 => ?_) (fun b41 => ?_)
    · replace hm := ite_t b41 hm
      refine GL.seq ?_
      refine GL.region ?_
      refine RL.asg rfl rfl rfl ?_
      refine RL.finG ?_
      have hm := Option.some.inj hm
      subst hm
      exact GL.ret (Gx.ret (v := .bool false) (res1 rfl rfl) (fun a w st => st.toPostV))
    · replace hm := ite_f b41 hm
      refine GL.skip ?_
      refine GL.seq ?_
      refine GL.region ?_
      refine RL.asg rfl rfl rfl ?_
      refine RL.finG ?_
      refine GL.seq ?_
      refine GL.seq ?_
      refine GL.region ?_
      refine RL.mv rfl rfl rfl ?_
      refine RL.lenS 6 Try.underlying28 rfl rfl rfl rfl SlOf.own ?_
      refine RL.mv rfl rfl rfl ?_
      refine RL.finG ?_
      refine GL.lenOwn 6 rfl (fun n55 => ?_)
      obtain ⟨y56, K57, h58, h59, h60, h61, h62⟩ := bindR_K hm
      refine GL.join (ι := Int) (fun (p : Int) => [(0, .int .i64 (wadd (1 : Int) y11)), (7, v21), (8, v24), (9, v30), (12, .int .i64 p)]) (fun (p : Int) => [own 3 TR.int v21 y19, own 3 TR.int v24 y22, own 3 TR.int v30 y33]) (fun (p : Int) => K57 (.nx p)) ?_ ?_
      · refine GL.block ?_
        refine GL.loop (ι := Nat × Nat × Int) (fun (p : Nat × Nat × Int) => [(0, .int .i64 (wadd (1 : Int) y11)), (7, v21), (8, v24), (9, v30), (12, .int .i64 p.2.2), (43, v40), (44, .int .i64 ((y38.1).length : Int)), (45, .int .i64 (p.1 : Int))]) (fun (p : Nat × Nat × Int) => [own 3 TR.int v21 y19, own 3 TR.int v24 y22, own 3 TR.int v30 y33, own 22 (TR.sl TR.int) v40 y38.1]) (fun (p : Nat × Nat × Int) => p.1 + p.2.1 = (y38.1).length ∧ rangeN (pk_PeakMany_b1 y38 y19) p.2.1 p.1 p.2.2 = some y56) (fun (p : Nat × Nat × Int) => p.2.1) (0, (y38.1).length, (0 : Int)) ⟨by simp, h58⟩ (fun a w st => St.cut [2, 3, 5, 6] ⟨rfl, rfl, rfl, rfl, rfl, rfl, rfl, rfl, trivial⟩ (by decide) rfl st) ?_
        rintro ⟨i63, r64, x42⟩ ⟨h69, h68⟩
        try dsimp only at h69 h68
        refine GL.weak (env' := [(0, .int .i64 (wadd (1 : Int) y11)), (7, v21), (8, v24), (9, v30), (12, .int .i64 x42), (43, v40), (44, .int .i64 ((y38.1).length : Int)), (45, .int .i64 (i63 : Int))]) (L' := [own 3 TR.int v21 y19, own 3 TR.int v24 y22, own 3 TR.int v30 y33, own 22 (TR.sl TR.int) v40 y38.1]) (fun _ _ st => st) ?_
        refine GL.seq ?_
        refine GL.region ?_
        refine RL.binI (v := .bool (decide ((i63 : Int) < ((y38.1).length : Int)))) rfl rfl rfl rfl rfl ?_
        refine RL.finG ?_
        refine GL.seq ?_
        refine GL.cond rfl (fun b71 => ?_) (fun b71 => ?_)
        · have h72 : i63 < (y38.1).length := by have := of_decide_eq_true b71; omega
          obtain ⟨r73, hr⟩ : ∃ m, r64 = m + 1 := ⟨r64 - 1, by omega⟩
          subst hr
          obtain ⟨z65, h66, h67⟩ := rangeN_some h68
          unfold pk_PeakMany_b1 at h66
          try dsimp only at h66
          refine GL.skip ?_
          refine GL.seq ?_
          refine GL.block ?_
          refine GL.seq ?_
          refine GL.region ?_
          obtain ⟨y77, e78, h66⟩ := bind_some h66
          refine RL.idxS (sz := 1) 3 Try.underlying28 Try_ln22 rfl rfl rfl rfl rfl SlOf.own (idx_some e78).1 (idx_some e78).2.1 ?_
          refine RL.ldS (i := i63) (r := (TR.sl TR.int)) (e' := y77) 3 Try_ln22 rfl rfl rfl rfl SlOf.own (idx_some e78).2.2 Part.self ?_
          intro v79
          refine RL.asg rfl rfl rfl ?_
          refine RL.finG ?_
          refine GL.seq ?_
          refine GL.region ?_
          refine RL.mv rfl rfl rfl ?_
          refine RL.mv rfl rfl rfl ?_
          obtain ⟨y82, e83, h66⟩ := bind_some h66
          refine RL.callV (v := .tuple #[.bool y82.1, .int .i64 y82.2]) (vs := [v21, v79]) Try_fit21 rfl (Or.inl rfl) rfl rfl rfl rfl (fun U w hU hW hL => peak_Along_c U w hU _ _ (hL 0 _ _ rfl Seen.own) _ _ (hL 4 _ _ rfl Seen.imm) _ e83) ?_
          refine RL.mv rfl rfl rfl ?_
          refine RL.ext rfl rfl rfl rfl ?_
          refine RL.ext rfl rfl rfl rfl ?_
          refine RL.asg rfl rfl rfl ?_
          refine RL.asg rfl rfl rfl ?_
          refine RL.finG ?_
          refine GL.seq ?_
          refine GL.seq ?_
          refine GL.region ?_
          refine RL.mv rfl rfl rfl ?_
          refine RL.binI (v := .bool (y82.2 != (0 : Int))) rfl rfl rfl rfl rfl ?_
          refine RL.finG ?_
          refine GL.cond rfl (fun b84 => ?_) (fun b84 => ?_)
          · replace h66 := ite_t b84 h66
            refine GL.seq ?_
            refine GL.region ?_
            refine RL.asg rfl rfl rfl ?_
            refine RL.finG ?_
            cases h66
            replace h67 : some (Fl.rt _) = some y56 := h67
            cases h67
            have hh := h61 _ h59
            subst hh
            exact GL.ret (Gx.ret (v := .bool false) (res1 rfl rfl) (fun a w st => st.toPostV))
          · replace h66 := ite_f b84 h66
            refine GL.skip ?_
            refine GL.seq ?_
            refine GL.region ?_
            refine RL.mv rfl rfl rfl ?_
            refine RL.finG ?_
            refine GL.cond rfl (fun b85 => ?_) (fun b85 => ?_)
            · replace h66 := ite_t b85 h66
              refine GL.region ?_
              refine RL.mv rfl rfl rfl ?_
              refine RL.binI (v := .int .i64 (wadd x42 (1 : Int))) rfl rfl rfl rfl rfl ?_
              refine RL.asg rfl rfl rfl ?_
              refine RL.finG ?_
              refine GL.nilB ?_
              refine GL.region ?_
              refine RL.binI (v := .int .i64 ((i63 + 1 : Nat) : Int)) rfl rfl rfl rfl (binI_succ i63 (by omega)) ?_
              refine RL.mv rfl rfl rfl ?_
              refine RL.fin ?_
              cases h66
              exact fun a w st => lop_intro (i63 + 1, r73, wadd x42 (1 : Int)) ⟨by show i63 + 1 + r73 = (y38.1).length; omega, h67⟩ (by simp) (St.cut [0, 1, 2, 3] ⟨rfl, rfl, rfl, rfl, rfl, rfl, rfl, rfl, trivial⟩ (by decide) rfl st)
            · replace h66 := ite_f b85 h66
              refine GL.skip ?_
              refine GL.nilB ?_
              refine GL.region ?_
              refine RL.binI (v := .int .i64 ((i63 + 1 : Nat) : Int)) rfl rfl rfl rfl (binI_succ i63 (by omega)) ?_
              refine RL.mv rfl rfl rfl ?_
              refine RL.fin ?_
              cases h66
              exact fun a w st => lop_intro (i63 + 1, r73, x42) ⟨by show i63 + 1 + r73 = (y38.1).length; omega, h67⟩ (by simp) (St.cut [0, 1, 2, 3] ⟨rfl, rfl, rfl, rfl, rfl, rfl, rfl, rfl, trivial⟩ (by decide) rfl st)
        · have h72 : ¬ i63 < (y38.1).length := by have := of_decide_eq_false b71; omega
          obtain rfl : r64 = 0 := by omega
          replace h68 : some (Fl.nx _) = some y56 := h68
          cases h68
          exact GL.exit (fun a w st => mid_intro x42 h59 (St.cut [0, 1, 2] ⟨rfl, rfl, rfl, rfl, rfl, trivial⟩ (by decide) rfl st))
      · rintro x42 h86
        have h87 := h60 _ h86
        try dsimp only at h87
        refine GL.weak (env' := [(0, .int .i64 (wadd (1 : Int) y11)), (7, v21), (8, v24), (9, v30), (12, .int .i64 x42)]) (L' := [own 3 TR.int v21 y19, own 3 TR.int v24 y22, own 3 TR.int v30 y33]) (fun _ _ st => st) ?_
        refine GL.seq ?_
        refine GL.region ?_
        refine RL.mv rfl rfl rfl ?_
        refine RL.mv rfl rfl rfl ?_
        obtain ⟨y90, e91, h87⟩ := bind_some h87
        refine RL.callV (v := .tuple #[.bool y90.1, .int .i64 y90.2]) (vs := [v21, v24]) Try_fit21 rfl (Or.inl rfl) rfl rfl rfl rfl (fun U w hU hW hL => peak_Along_c U w hU _ _ (hL 0 _ _ rfl Seen.own) _ _ (hL 1 _ _ rfl Seen.own) _ e91) ?_
        refine RL.mv rfl rfl rfl ?_
        refine RL.ext rfl rfl rfl rfl ?_
        refine RL.ext rfl rfl rfl rfl ?_
        refine RL.asg rfl rfl rfl ?_
        refine RL.asg rfl rfl rfl ?_
        refine RL.finG ?_
        refine GL.seq ?_
        refine GL.region ?_
        refine RL.mv rfl rfl rfl ?_
        refine RL.mv rfl rfl rfl ?_
        obtain ⟨y94, e95, h87⟩ := bind_some h87
        refine RL.callV (v := .tuple #[.bool y94.1, .int .i64 y94.2]) (vs := [v30, v24]) Try_fit21 rfl (Or.inl rfl) rfl rfl rfl rfl (fun U w hU hW hL => peak_Along_c U w hU _ _ (hL 2 _ _ rfl Seen.own) _ _ (hL 1 _ _ rfl Seen.own) _ e95) ?_
        refine RL.mv rfl rfl rfl ?_
        refine RL.ext rfl rfl rfl rfl ?_
        refine RL.ext rfl rfl rfl rfl ?_
        refine RL.asg rfl rfl rfl ?_
        refine RL.asg rfl rfl rfl ?_
        refine RL.finG ?_
        refine GL.seq ?_
        obtain ⟨y111, K112, h113, h114, h115, h116, h117⟩ := bindR_K h87
        refine GL.join (ι := Bool) (fun (p : Bool) => [(6, .bool p)]) (fun (p : Bool) => []) (fun (p : Bool) => K112 (.nx p)) ?_ ?_
        · skip
          refine GL.region ?_
          refine RL.mv rfl rfl rfl ?_
          refine RL.mv rfl rfl rfl ?_
          refine RL.bS (t := TR.int) (vs := [.int .i64 y90.2, .int .i64 y94.2]) ([y90.2, y94.2] : (List Int)) Try.underlying69 Try_lo29 rfl rfl rfl rfl ⟨VR.int, ⟨VR.int, trivial⟩⟩ rfl (by decide) ?_
          intro v118
          obtain ⟨y119, e120, h113⟩ := bind_some h113
          refine RL.callV (v := .bool y119) (vs := [v118]) Try_fit22 rfl (Or.inl rfl) rfl rfl rfl rfl (fun U w hU hW hL => pk_good_c U w hU _ _ (hL 3 _ _ rfl Seen.own) _ e120) ?_
          refine RL.mv rfl rfl rfl ?_
          refine RL.split (t := 77) rfl (fun b121 => ?_) (fun b121 => ?_)
          · replace h113 := ite_t b121 h113
            refine RL.mv rfl rfl rfl ?_
            refine RL.mv rfl rfl rfl ?_
            refine RL.eqB Try.underlying4 rfl rfl rfl rfl ?_
            refine RL.pickT rfl rfl rfl rfl ?_
            refine RL.mv rfl rfl rfl ?_
            refine RL.split (t := 82) rfl (fun b122 => ?_) (fun b122 => ?_)
            · replace h113 := ite_t b122 h113
              refine RL.mv rfl rfl rfl ?_
              refine RL.mv rfl rfl rfl ?_
              refine RL.binI (v := .int .i64 (wsub (wadd (1 : Int) y11) (1 : Int))) rfl rfl rfl rfl rfl ?_
              obtain ⟨y123, e124, h113⟩ := bind_some h113
              replace e124 := chk_some e124
              refine RL.sh (by simp) rfl rfl rfl rfl e124 ?_
              refine RL.binI (v := .bool (x42 == (IntKind.wrap .i64 ((1 : Int) * 2 ^ (min (wsub (wadd (1 : Int) y11) (1 : Int)).toNat (IntKind.bits .i64)))))) rfl rfl rfl rfl rfl ?_
              refine RL.pickT rfl rfl rfl rfl ?_
              refine RL.asg rfl rfl rfl ?_
              refine RL.fin ?_
              cases h113
              exact fun a w st => mid_intro (x42 == (IntKind.wrap .i64 ((1 : Int) * 2 ^ (min (wsub (wadd (1 : Int) y11) (1 : Int)).toNat (IntKind.bits .i64))))) h114 (St.cut [] ⟨rfl, trivial⟩ (by decide) rfl st)
            · replace h113 := ite_f b122 h113
              refine RL.skip rfl rfl ?_
              refine RL.skip rfl rfl ?_
              refine RL.skip rfl rfl ?_
              refine RL.skip rfl rfl ?_
              refine RL.skip rfl rfl ?_
              refine RL.pickF rfl rfl rfl rfl ?_
              refine RL.asg rfl rfl rfl ?_
              refine RL.fin ?_
              cases h113
              exact fun a w st => mid_intro false h114 (St.cut [] ⟨rfl, trivial⟩ (by decide) rfl st)
          · replace h113 := ite_f b121 h113
            refine RL.skip rfl rfl ?_
            refine RL.skip rfl rfl ?_
            refine RL.skip rfl rfl ?_
            refine RL.pickF rfl rfl rfl rfl ?_
            refine RL.mv rfl rfl rfl ?_
            refine RL.skip rfl rfl ?_
            refine RL.skip rfl rfl ?_
            refine RL.skip rfl rfl ?_
            refine RL.skip rfl rfl ?_
            refine RL.skip rfl rfl ?_
            refine RL.pickF rfl rfl rfl rfl ?_
            refine RL.asg rfl rfl rfl ?_
            refine RL.fin ?_
            cases h113
            exact fun a w st => mid_intro false h114 (St.cut [] ⟨rfl, trivial⟩ (by decide) rfl st)
        · rintro x110 h125
          have h126 := h115 _ h125
          try dsimp only at h126
          refine GL.weak (env' := [(6, .bool x110)]) (L' := []) (fun _ _ st => st) ?_
          have h126 := Option.some.inj h126
          subst h126
          exact GL.ret (Gx.ret (v := .bool x110) (res1 rfl rfl) (fun a w st => st.toPostV))
end Go.Wk
