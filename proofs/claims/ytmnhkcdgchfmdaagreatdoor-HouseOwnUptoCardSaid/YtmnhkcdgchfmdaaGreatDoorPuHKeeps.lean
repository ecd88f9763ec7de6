/- The plain law: what was safe is there behind a crash. -/
import Derived.Test.YtmnhkcdgchfmdaaGreatDoorWHouseOwnModels
import Derived.Test.YtmnhkcdgchfmdaaGreatDoorPuHMoney
set_option linter.all false
namespace Go.Pu
open Go.Fw Go.Mo
structure Grows (l m : List Acct) : Prop where
  len : l.length ≤ m.length
  each : ∀ a ∈ l, ∃ b ∈ m, b.1 = a.1 ∧ a.2.2 ≤ b.2.2
theorem StepO.grows {l m : List Acct} {p : Op} (hs : ShortA l) (hr : RightO p) (h : StepO l p m) : Grows l m := by
  cases p with
  | o s n =>
    obtain ⟨_, h0, _, hm, _⟩ := opened_facts hs hr.1 h
    refine ⟨by rw [hm.length_eq]; simp, fun a ha => ⟨a, hm.mem_iff.2 (List.mem_append_left _ ha), rfl, Int.le_refl _⟩⟩
  | d x t =>
    obtain ⟨i, j, k, _, _, hi, hj, hk, _, hm, _⟩ := took_facts hs hr.1 h
    refine ⟨by rw [hm.len]; exact Nat.le_refl _, fun a ha => ?_⟩
    obtain ⟨q, hq, rfl⟩ := mem_nth ha
    refine ⟨nth m q, nth_mem (by rw [hm.len]; exact hq), ?_, ?_⟩
    · rw [hm.at_ q hq]
    · rw [hm.at_ q hq]; dsimp only; split <;> omega
theorem Grows.trans {l m k : List Acct} (h1 : Grows l m) (h2 : Grows m k) : Grows l k := by
  refine ⟨Nat.le_trans h1.len h2.len, fun a ha => ?_⟩
  obtain ⟨b, hb, e1, e2⟩ := h1.each a ha
  obtain ⟨c, hc, e3, e4⟩ := h2.each b hb
  exact ⟨c, hc, e3.trans e1, by omega⟩
theorem Runs.grows {l m : List Acct} {ps : List Op} (h : Runs l ps m) (hA : Accts l) (hs : ShortA l) : Grows l m := by
  induction h with
  | nil l => exact ⟨Nat.le_refl _, fun a ha => ⟨a, ha, rfl, Int.le_refl _⟩⟩
  | cons hr hst h ih =>
    obtain ⟨a, b⟩ := hst.accts hs hr
    exact (hst.grows hs hr).trans (ih a b)
theorem HouseOwn_ (x0 : List Acct) (h0 : ShortA x0) (l0 : x0.length ≤ 1000000000) (x1 : Deal) (h1 : ShortD x1) (x2 : List Deal) (h2 : ∀ d ∈ x2, ShortD d) (l2 : x2.length ≤ 1000000000) (x3 : List Dd) (h3 : ∀ d ∈ x3, ShortDd d) (hrep : ∃ v, pick_Replay_m x2 x0 x1.2.1 = some v) (hL : pk_ledgers_m = some true) : pk_HouseOwn_m x0 x1 x2 x3 = some true := by
  obtain ⟨h, ps, s, hw, hI⟩ := worked_ok x3 h3
  obtain ⟨v1, e1, _⟩ := take_ok (t := x1.2.1) h0 h1
  obtain ⟨v2, e2, _⟩ := open_ok (n := 1) h0 h1.2
  obtain ⟨v3, e3, _⟩ := add_ok h2 h1
  obtain ⟨v4, e4, _⟩ := clean_ok h2 (check_some h0)
  obtain ⟨v5, e5, _⟩ := build_ok (t := x1.2.1) (room := 50) h2 h0
  obtain ⟨v6, e6⟩ := hrep
  have c1 : slices_Clone_api_Account_api_Account_m x0 = some x0 := by unfold slices_Clone_api_Account_api_Account_m; rw [chk_t (by omega)]; rfl
  have c2 : slices_Clone_api_Deal_api_Deal_m x2 = some x2 := by unfold slices_Clone_api_Deal_api_Deal_m; rw [chk_t (by omega)]; rfl
  have hA := hI.run.accts0.1
  have c3 := cloneA h.1 (by have := hA.len; omega)
  have c4 := cloneQ h.2.1 (by have := hI.queue.len; omega)
  have p1 : ∀ (l : List Acct) (x : Acct), pk_spoil_api_Account_m l x = some (List.replicate l.length x) := fun _ _ => rfl
  have p2 : ∀ (l : List Deal) (x : Deal), pk_spoil_api_Deal_m l x = some (List.replicate l.length x) := fun _ _ => rfl
  unfold pk_HouseOwn_m
  simp only [hL, queues_t, picks_t, houses_t, Option.bind_some, Bool.not_true, Bool.false_eq_true, if_false, bindR, c1, c2, e1, p1, e2, e3, p2, e4, e5, e6, hw, peta, accts_m hA, offers_m hI.queue, c3, c4, equal_acct, equal_deal, decide_true, if_true]
end Go.Pu
