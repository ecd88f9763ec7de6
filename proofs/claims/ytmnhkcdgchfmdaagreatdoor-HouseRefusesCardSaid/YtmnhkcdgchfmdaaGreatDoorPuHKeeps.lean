/- The plain law: what was safe is there behind a crash. -/
import Derived.Test.YtmnhkcdgchfmdaaGreatDoorWHouseRefusesModels
import Derived.Test.YtmnhkcdgchfmdaaGreatDoorPuHMoney
set_option linter.all false
namespace Go.Pu
open Go.Fw Go.Mo
structure Grows (l m : List Acct) : Prop where
  len : l.length ≤ m.length
  each : ∀ a ∈ l, ∃ b ∈ m, b.1 = a.1 ∧ a.2.2 ≤ b.2.2
theorem StepO.grows {l m : List Acct} {p : Op} (hs : ShortA l) (hr : RightO p) (h : StepO l p m) : Grows l m := by
  cases p with
  | o s n =>
    obtain ⟨_, h0, _, hm, _⟩ := opened_facts hs hr.1 h
    refine ⟨by rw [hm.length_eq]; simp, fun a ha => ⟨a, hm.mem_iff.2 (List.mem_append_left _ ha), rfl, Int.le_refl _⟩⟩
  | d x t =>
    obtain ⟨i, j, k, _, _, hi, hj, hk, _, hm, _⟩ := took_facts hs hr.1 h
    refine ⟨by rw [hm.len]; exact Nat.le_refl _, fun a ha => ?_⟩
    obtain ⟨q, hq, rfl⟩ := mem_nth ha
    refine ⟨nth m q, nth_mem (by rw [hm.len]; exact hq), ?_, ?_⟩
    · rw [hm.at_ q hq]
    · rw [hm.at_ q hq]; dsimp only; split <;> omega
theorem Grows.trans {l m k : List Acct} (h1 : Grows l m) (h2 : Grows m k) : Grows l k := by
  refine ⟨Nat.le_trans h1.len h2.len, fun a ha => ?_⟩
  obtain ⟨b, hb, e1, e2⟩ := h1.each a ha
  obtain ⟨c, hc, e3, e4⟩ := h2.each b hb
  exact ⟨c, hc, e3.trans e1, by omega⟩
theorem Runs.grows {l m : List Acct} {ps : List Op} (h : Runs l ps m) (hA : Accts l) (hs : ShortA l) : Grows l m := by
  induction h with
  | nil l => exact ⟨Nat.le_refl _, fun a ha => ⟨a, ha, rfl, Int.le_refl _⟩⟩
  | cons hr hst h ih =>
    obtain ⟨a, b⟩ := hst.accts hs hr
    exact (hst.grows hs hr).trans (ih a b)
theorem index_name {l : List Acct} (hA : Accts l) {b : Acct} (hb : b ∈ l) {g : Acct → Option Bool} {s : Bs} (hg : ∀ a, g a = some (a.1 == s)) (e : b.1 = s) : ∃ i : Nat, slices_IndexFunc_api_Account_api_Account_m l g = some (i : Int) ∧ idx l (i : Int) = some b := by
  obtain ⟨i, hi, rfl⟩ := mem_nth hb
  exact ⟨i, (indexA l g _ hg).trans ((findA_ok l s).symm.trans (findA_at hA hi e)), by rw [idx_nat, nth_at hi]⟩
theorem HouseKeeps_ (x0 : List Dd) (h0 : ∀ d ∈ x0, ShortDd d) (x1 : List Dd) (h1 : ∀ d ∈ x1, ShortDd d) (x2 : Int) : pk_HouseKeeps_m x0 x1 x2 = some true := by
  obtain ⟨h, ps, s, hw, hI⟩ := worked_ok x0 h0
  have hsh : ∀ k n : Int, ShortDd ((k, n, [], [], [], 0, 0, 0, 0) : Dd) := fun k n => ⟨by simp [Short], by simp [Short], by simp [Short]⟩
  unfold pk_HouseKeeps_m
  rw [houses_t, Option.bind_some, if_neg (by decide), hw, Option.bind_some]
  have e4 : house_House_Do_m h (4, 0, [], [], [], 0, 0, 0, 0) = some ((0, 0), 0, (h.1, h.2.1, h.2.2.1, (h.2.2.1.length : Int))) := rfl
  have I4 : Inv (h.1, h.2.1, h.2.2.1, (h.2.2.1.length : Int)) ps ps.length := by
    refine ⟨hI.run, hI.disk, ?_, Nat.le_refl _, hI.len, hI.queue, hI.short⟩
    dsimp only
    rw [← List.length_map (f := recO), List.take_length, ← hI.disk]
  rw [e4, Option.bind_some]
  dsimp only
  have ha := accts_m I4.run.accts0.1
  dsimp only at ha
  rw [if_neg (by simp), ha, Option.bind_some]
  refine Ok.eq ?_
  rw [ok_bindR]
  refine ok_rangeL (fun _ (u : Hs) => ∃ qs s', Inv u (ps ++ qs) s' ∧ ps.length ≤ s') ⟨[], _, by rw [List.append_nil]; exact I4, Nat.le_refl _⟩ (fun k d u hk hu => ?_) fun u hu => ?_
  · obtain ⟨qs, s', hI', hle⟩ := hu
    unfold pk_HouseKeeps_b1
    by_cases k5 : d.1 = 5
    · rw [if_neg (by rw [bne_iff_ne]; exact fun h => h k5), ok_some, flok_nx]
      exact ⟨qs, s', hI', hle⟩
    · rw [if_pos (by rw [bne_iff_ne]; exact k5)]
      obtain ⟨r, e, hD⟩ := do_ok (d := d) hI' (h1 d (List.mem_of_getElem? hk))
      rw [e, Option.bind_some, ok_some, flok_nx]
      cases hD with
      | no e' he => exact ⟨qs, s', hI', hle⟩
      | opened h' k h => exact ⟨_, s', by rw [← List.append_assoc]; exact h, hle⟩
      | kept t h' qs2 s2 _ _ hss _ h _ => exact ⟨qs ++ qs2, s2, by rw [← List.append_assoc]; exact h, by omega⟩
      | crashed h' w k _ _ _ _ => exact absurd k k5
  · obtain ⟨qs, s', hI', hle⟩ := hu
    obtain ⟨r, e, hD⟩ := do_ok (d := (5, x2, [], [], [], 0, 0, 0, 0)) hI' (hsh 5 x2)
    obtain ⟨nA, nS⟩ := hI'.run.accts0
    rw [accts_m nA, Option.bind_some, e, Option.bind_some]
    cases hD with
    | no e' he =>
      rw [if_pos (by rw [bne_iff_ne]; exact he)]
      rw [show (((0, 0), e', u) : (Int × Int) × Int × Hs).2.2 = u from rfl, accts_m nA, Option.bind_some, equal_acct, Option.bind_some, ok_some]
      exact decide_eq_true rfl
    | opened h' k _ => exact absurd k (by simp)
    | kept t h' qs s' _ k _ _ _ _ => exact absurd rfl k
    | crashed h' w _ hw1 hw2 hI2 hof =>
      obtain ⟨gA, gS⟩ := hI2.run.accts0
      rw [if_neg (by simp)]
      dsimp only
      rw [accts_m gA, Option.bind_some]
      -- was, got, now
      have hg1 : Grows h.1 h'.1 := by
        have hr := hI2.run
        rw [List.take_append, List.take_of_length_le (by omega)] at hr
        obtain ⟨m, r1, r2⟩ := hr.split
        have := r1.det hI.run; subst this
        exact r2.grows hI.run.accts0.1 hI.run.accts0.2
      have hg2 : Grows h'.1 u.1 := by
        have hr := hI'.run
        rw [← List.take_append_drop w (ps ++ qs)] at hr
        obtain ⟨m, r1, r2⟩ := hr.split
        have := r1.det hI2.run; subst this
        exact r2.grows gA gS
      rw [ok_bindR]
      refine ok_rangeN (fun _ _ => True) trivial (fun k v hk _ => ?_) fun v _ => ?_
      · unfold pk_HouseKeeps_b2
        obtain ⟨b, hb, eb1, eb2⟩ := hg1.each _ (nth_mem hk)
        obtain ⟨c, hc, ec1, ec2⟩ := hg2.each b hb
        obtain ⟨i, ei1, ei2⟩ := index_name gA hb (g := fun a0 => pk_HouseKeeps_1_m a0 (nth h.1 k)) (s := (nth h.1 k).1) (fun a => rfl) eb1
        obtain ⟨j, ej1, ej2⟩ := index_name nA hc (g := fun a0 => pk_HouseKeeps_2_m a0 (nth h.1 k)) (s := (nth h.1 k).1) (fun a => rfl) (ec1.trans eb1)
        rw [idx_nat, nth_at hk, Option.bind_some, ei1, Option.bind_some, ej1, Option.bind_some, if_neg (by rw [decide_eq_true_eq]; omega), if_neg (by rw [decide_eq_true_eq]; omega), ei2, Option.bind_some, if_neg (by rw [decide_eq_true_eq]; omega), Option.bind_some, ej2, Option.bind_some, decide_eq_false (by omega), ok_bindF, ok_some, flok_nx, if_neg (by decide), ok_some, flok_nx]
        trivial
      · rw [offers_m hI2.queue, Option.bind_some, hof, if_pos (by decide), if_pos (by rw [decide_eq_true_eq]; have := hg1.len; omega), ok_bindR, ok_some, flok_nx, ok_some]
        exact decide_eq_true (by have := hg2.len; omega)
theorem HouseOwn_ (x0 : List Acct) (h0 : ShortA x0) (l0 : x0.length ≤ 1000000000) (x1 : Deal) (h1 : ShortD x1) (x2 : List Deal) (h2 : ∀ d ∈ x2, ShortD d) (l2 : x2.length ≤ 1000000000) (x3 : List Dd) (h3 : ∀ d ∈ x3, ShortDd d) (hrep : ∃ v, pick_Replay_m x2 x0 x1.2.1 = some v) (hL : pk_ledgers_m = some true) : pk_HouseOwn_m x0 x1 x2 x3 = some true := by
  obtain ⟨h, ps, s, hw, hI⟩ := worked_ok x3 h3
  obtain ⟨v1, e1, _⟩ := take_ok (t := x1.2.1) h0 h1
  obtain ⟨v2, e2, _⟩ := open_ok (n := 1) h0 h1.2
  obtain ⟨v3, e3, _⟩ := add_ok h2 h1
  obtain ⟨v4, e4, _⟩ := clean_ok h2 (check_some h0)
  obtain ⟨v5, e5, _⟩ := build_ok (t := x1.2.1) (room := 50) h2 h0
  obtain ⟨v6, e6⟩ := hrep
  have c1 : slices_Clone_api_Account_api_Account_m x0 = some x0 := by unfold slices_Clone_api_Account_api_Account_m; rw [chk_t (by omega)]; rfl
  have c2 : slices_Clone_api_Deal_api_Deal_m x2 = some x2 := by unfold slices_Clone_api_Deal_api_Deal_m; rw [chk_t (by omega)]; rfl
  have hA := hI.run.accts0.1
  have c3 := cloneA h.1 (by have := hA.len; omega)
  have c4 := cloneQ h.2.1 (by have := hI.queue.len; omega)
  have p1 : ∀ (l : List Acct) (x : Acct), pk_spoil_api_Account_m l x = some (List.replicate l.length x) := fun _ _ => rfl
  have p2 : ∀ (l : List Deal) (x : Deal), pk_spoil_api_Deal_m l x = some (List.replicate l.length x) := fun _ _ => rfl
  unfold pk_HouseOwn_m
  simp only [hL, queues_t, picks_t, houses_t, Option.bind_some, Bool.not_true, Bool.false_eq_true, if_false, bindR, c1, c2, e1, p1, e2, e3, p2, e4, e5, e6, hw, peta, accts_m hA, offers_m hI.queue, c3, c4, equal_acct, equal_deal, decide_true, if_true]
end Go.Pu
