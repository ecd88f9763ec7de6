/- The plain law: money comes by accounts that are opened alone. -/
import Derived.Test.YtmnhkcdgchfmdaaGreatDoorWHouseRefusesModels
import Derived.Test.YtmnhkcdgchfmdaaGreatDoorPuHouseT
set_option linter.all false
namespace Go.Pu
open Go.Fw Go.Mo
theorem peta {α β : Type} (p : α × β) : (p.1, p.2) = p := rfl
theorem accts_m {h : Hs} (hA : Accts h.1) : house_House_Accounts_m h = some h.1 := by
  have := hA.len
  unfold house_House_Accounts_m; rw [cloneA _ (by omega)]; rfl
theorem offers_m {h : Hs} (hQ : Queue h.2.1) : house_House_Offers_m h = some h.2.1 := by
  have := hQ.len
  unfold house_House_Offers_m; rw [cloneQ _ (by omega)]; rfl
theorem checkA_t {l : List Acct} (hs : ShortA l) (hA : Accts l) : ledger_Check_m l = some 0 := by
  obtain ⟨e, he, hq⟩ := checkA_ok hs
  rw [he, hq.2 hA]
theorem checkQ_t {l : List Deal} (hs : ∀ d ∈ l, ShortD d) (hQ : Queue l) : queue_Check_m l = some 0 := by
  obtain ⟨e, he, hq⟩ := checkQ_ok hs
  rw [he, hq.2 hQ]
theorem sum_le : ∀ l : List Acct, (∀ a ∈ l, 0 ≤ a.2.1 ∧ a.2.1 ≤ 1000000) → 0 ≤ (l.map fun a => a.2.1).sum ∧ (l.map fun a => a.2.1).sum ≤ 1000000 * l.length
  | [], _ => by simp
  | a :: l, h => by
    have := sum_le l fun x hx => h x (by simp [hx])
    have := h a (by simp)
    rw [List.map_cons, List.sum_cons, List.length_cons]; omega
theorem Accts.money {l : List Acct} (h : Accts l) : 0 ≤ moneyS l ∧ moneyS l ≤ 6000000 := by
  have h6 := h.len
  rw [sum_map]
  have := sum_le l fun a ha => (h.val a ha).1
  omega
theorem money_open {l m : List Acct} {s : Bs} {n : Int} (h : m.Perm (l ++ [(s, n, 0)])) : moneyS m = moneyS l + n := by
  rw [perm_money h, sum_map, sum_map, List.map_append, List.sum_append]; simp
theorem StepO.money {l m : List Acct} {p : Op} (hs : ShortA l) (hr : RightO p) (h : StepO l p m) : moneyS l ≤ moneyS m ∧ ((∃ x t, p = .d x t) → moneyS m = moneyS l) := by
  cases p with
  | o s n =>
    obtain ⟨_, h0, _, hm, _⟩ := opened_facts hs hr.1 h
    have := money_open hm
    exact ⟨by omega, fun ⟨x, t, e⟩ => by cases e⟩
  | d x t =>
    obtain ⟨i, j, k, _, _, hi, hj, hk, _, hm, _⟩ := took_facts hs hr.1 h
    have := hm.money hi hj hk
    exact ⟨by omega, fun _ => this⟩
theorem Runs.money {l m : List Acct} {ps : List Op} (h : Runs l ps m) (hA : Accts l) (hs : ShortA l) : moneyS l ≤ moneyS m ∧ ((∀ p ∈ ps, ∃ x t, p = .d x t) → moneyS m = moneyS l) := by
  induction h with
  | nil l => exact ⟨Int.le_refl _, fun _ => rfl⟩
  | cons hr hst h ih =>
    obtain ⟨a, b⟩ := hst.accts hs hr
    obtain ⟨i1, i2⟩ := ih a b
    obtain ⟨j1, j2⟩ := hst.money hs hr
    refine ⟨by omega, fun hp => ?_⟩
    rw [i2 fun p hp' => hp p (by simp [hp']), j2 (hp _ (by simp))]
theorem HouseMoney_ (x0 : List Dd) (h0 : ∀ d ∈ x0, ShortDd d) : pk_HouseMoney_m x0 = some true := by
  unfold pk_HouseMoney_m
  rw [houses_t, Option.bind_some, if_neg (by decide), show house_New_m = some (([], [], [], 0) : Hs) from rfl, Option.bind_some]
  refine Ok.eq ?_
  rw [ok_bindR]
  refine ok_rangeL (fun _ (u : Hs × Int) => u.2 = moneyS u.1.1 ∧ ∃ ps s, Inv u.1 ps s) ⟨rfl, ?_⟩ (fun k d u hk hI => ?_) fun u hu => ?_
  · obtain ⟨h, e, hI⟩ := inv_new
    cases e; exact ⟨_, _, hI⟩
  · obtain ⟨h, x190⟩ := u
    obtain ⟨hx, ps, s, hI⟩ := hI
    dsimp only at hx hI
    subst hx
    obtain ⟨r, e, hD⟩ := do_ok (d := d) hI (h0 d (List.mem_of_getElem? hk))
    have hA := hI.run.accts0
    have hmon := hA.1.money
    have fin : ∀ (h' : Hs) (ps' : List Op) (s' : Nat), Inv h' ps' s' → house_House_Accounts_m h' = some h'.1 ∧ pk_money_m h'.1 = some (moneyS h'.1) ∧ ledger_Check_m h'.1 = some 0 ∧ house_House_Offers_m h' = some h'.2.1 ∧ queue_Check_m h'.2.1 = some 0 := fun h' ps' s' hI' =>
      ⟨accts_m hI'.run.accts0.1, money_at hI'.run.accts0.1, checkA_t hI'.run.accts0.2 hI'.run.accts0.1, offers_m hI'.queue, checkQ_t hI'.short hI'.queue⟩
    unfold pk_HouseMoney_b1
    dsimp only
    rw [e, Option.bind_some]
    have e0 : ∀ (e : Int), e ≠ 0 → (e == (0 : Int)) = false := fun e he => by simpa using he
    cases hD with
    | no er he =>
      obtain ⟨f1, f2, f3, f4, f5⟩ := fin h _ _ hI
      refine (?_ : Ok _ _)
      rw [Ok]
      refine ⟨.nx (h, moneyS h.1), ?_, ⟨rfl, _, _, hI⟩⟩
      simp only [e0 er he, Bool.false_eq_true, if_false, bindF, peta, f1, f2, f3, f4, f5, Option.bind_some, bne_self_eq_false]
    | opened h' k hI' =>
      obtain ⟨f1, f2, f3, f4, f5⟩ := fin h' _ _ hI'
      obtain ⟨m, r1, r2⟩ := hI'.run.split
      have := r1.det hI.run; subst this
      have hop : moneyS h'.1 = moneyS h.1 + d.2.1 := by
        cases r2 with
        | cons hr hs h2 =>
          cases h2
          obtain ⟨_, h0, _, hm, _⟩ := opened_facts hA.2 hr.1 hs
          exact money_open hm
      have hmon' := hI'.run.accts0.1.money
      refine ⟨.nx (h', moneyS h'.1), ?_, ⟨rfl, _, _, hI'⟩⟩
      have hw : wadd (moneyS h.1) d.2.1 = moneyS h'.1 := by rw [hop]; exact wadd_of (by omega) (by omega)
      simp only [k, hw, beq_self_eq_true, if_true, show ((1 : Int) == 5) = false from rfl, Bool.false_eq_true, if_false, bindF, peta, f1, f2, f3, f4, f5, Option.bind_some, bne_self_eq_false]
    | kept t h' qs s' k1 k5 hss hqs hI' _ =>
      obtain ⟨f1, f2, f3, f4, f5⟩ := fin h' _ _ hI'
      obtain ⟨m, r1, r2⟩ := hI'.run.split
      have := r1.det hI.run; subst this
      have hop : moneyS h'.1 = moneyS h.1 := (r2.money hA.1 hA.2).2 hqs
      refine ⟨.nx (h', moneyS h'.1), ?_, ⟨rfl, _, _, hI'⟩⟩
      simp only [e0 _ (show d.1 - 1 ≠ 0 by omega), show (d.1 == 1) = false by simpa using k1, show (d.1 == 5) = false by simpa using k5, ← hop, beq_self_eq_true, if_true, Bool.false_eq_true, if_false, bindF, peta, f1, f2, f3, f4, f5, Option.bind_some, bne_self_eq_false]
    | crashed h' w k5 hw1 hw2 hI' hof =>
      obtain ⟨f1, f2, f3, f4, f5⟩ := fin h' _ _ hI'
      have hrun := hI.run
      rw [← List.take_append_drop w ps] at hrun
      obtain ⟨m, r1, r2⟩ := hrun.split
      have := r1.det hI'.run; subst this
      have hle := (r2.money hI'.run.accts0.1 hI'.run.accts0.2).1
      refine ⟨.nx (h', moneyS h'.1), ?_, ⟨rfl, _, _, hI'⟩⟩
      simp only [k5, show ((5 : Int) == 1) = false from rfl, beq_self_eq_true, if_true, Bool.false_eq_true, if_false, bindF, peta, f1, f2, f3, f4, f5, Option.bind_some, bne_self_eq_false, show decide (moneyS h'.1 > moneyS h.1) = false from decide_eq_false (by omega)]
  · rw [ok_some]
/-! ### safe -/
theorem HouseSafe_ (x0 : List Dd) (h0 : ∀ d ∈ x0, ShortDd d) : pk_HouseSafe_m x0 = some true := by
  obtain ⟨h, ps, s, hw, hI⟩ := worked_ok x0 h0
  have hsh : ∀ k n : Int, ShortDd ((k, n, [], [], [], 0, 0, 0, 0) : Dd) := fun k n => ⟨by simp [Short], by simp [Short], by simp [Short]⟩
  unfold pk_HouseSafe_m
  rw [houses_t, Option.bind_some, if_neg (by decide), hw, Option.bind_some]
  rw [accts_m hI.run.accts0.1, Option.bind_some]
  -- all is safe
  have e4 : house_House_Do_m h (4, 0, [], [], [], 0, 0, 0, 0) = some ((0, 0), 0, (h.1, h.2.1, h.2.2.1, (h.2.2.1.length : Int))) := rfl
  have I4 : Inv (h.1, h.2.1, h.2.2.1, (h.2.2.1.length : Int)) ps ps.length := by
    refine ⟨hI.run, hI.disk, ?_, Nat.le_refl _, hI.len, hI.queue, hI.short⟩
    dsimp only
    rw [← List.length_map (f := recO), List.take_length, ← hI.disk]
  rw [e4, Option.bind_some]
  dsimp only
  have hc := crash_ok (ps.map recO) ps.length 0 (right_recs hI.run) hI.len (by rw [List.length_map]; exact Nat.le_refl _)
  obtain ⟨r, e, hD⟩ := do_ok (d := (5, 0, [], [], [], 0, 0, 0, 0)) I4 (hsh 5 0)
  rw [e, Option.bind_some]
  have h5 : r.2.1 = 0 := by
    cases hD with
    | no e' he =>
      exfalso
      have h0 : log_Log_Crash_m (h.2.2.1, (h.2.2.1.length : Int)) 0 = some (0, (h.2.2.1, (h.2.2.1.length : Int))) := by
        rcases hc with hc | ⟨w, w1, w2, hc⟩
        · exfalso
          rw [← List.length_map (f := recO), List.take_length] at hc
          unfold log_Log_Crash_m at hc
          dsimp only at hc
          rw [if_neg (by decide), wsub_of (by omega) (by omega), Int.sub_self, decide_eq_false (by omega)] at hc
          simp only [bindR, Bool.false_eq_true, if_false] at hc
          have hl := hI.len
          rw [wadd_of (by omega) (by omega), Int.add_zero, chk_t ⟨by omega, by omega⟩, Option.bind_some, List.drop_zero, Int.toNat_natCast, List.take_length] at hc
          have hsc := scan_ok (k := (cat (ps.map recO)).length) (right_recs hI.run) (Nat.le_refl _) (by have := cat_len (ps.map recO); omega)
          rw [List.take_length, whole_all, List.take_length] at hsc
          rw [hsc, Option.bind_some, chk_t ⟨Int.le_refl _, by omega⟩, Option.bind_some] at hc
          simp at hc
        · rw [List.length_map] at w2
          have : w = ps.length := by omega
          subst this
          rw [← List.length_map (f := recO), List.take_length, ← hI.disk] at hc
          exact hc
      unfold house_House_Do_m at e
      dsimp only at e
      rw [if_neg (by decide), if_neg (by decide), if_neg (by decide), if_neg (by decide), if_pos (by decide), h0, Option.bind_some, if_neg (by simp)] at e
      have hrd := read_ok (h := (h.1, h.2.1, h.2.2.1, (h.2.2.1.length : Int))) (ps := ps) (fin := h.1) hI.disk hI.len hI.run
      dsimp only at e hrd
      rw [hrd, Option.bind_some] at e
      have e2 := congrArg (fun r : (Int × Int) × Int × Hs => r.2.1) (Option.some.inj e)
      exact he e2.symm
    | opened h' k _ => exact absurd k (by decide)
    | kept t h' qs s' _ k _ _ _ _ => exact absurd rfl k
    | crashed h' w _ _ _ _ _ => rfl
  cases hD with
  | no e' he => exact absurd h5 he
  | opened h' k _ => exact absurd k (by decide)
  | kept t h' qs s' _ k _ _ _ _ => exact absurd rfl k
  | crashed h' w _ hw1 hw2 hI' hof =>
    have : w = ps.length := by omega
    subst this
    rw [List.take_length] at hI'
    have := hI'.run.det hI.run
    dsimp only
    have hsz : house_House_Size_m h' = some ((h'.2.2.1.length : Int), h'.2.2.2) := rfl
    have hn : h'.2.2.2 = (h'.2.2.1.length : Int) := by
      rw [hI'.safe, hI'.disk, ← List.length_map (f := recO), List.take_length]
    rw [hsz, Option.bind_some, good_at, Option.bind_some]
    simp only [peta, accts_m hI'.run.accts0.1, Option.bind_some, equal_acct, this, offers_m hI'.queue, hof, hn]
    simp [bindR]
/-! ### an error changes nothing -/
theorem HouseRefuses_ (x0 : List Dd) (h0 : ∀ d ∈ x0, ShortDd d) (x1 : Dd) (h1 : ShortDd x1) (x2 : List Dd) (h2 : ∀ d ∈ x2, ShortDd d) : pk_HouseRefuses_m x0 x1 x2 = some true := by
  obtain ⟨h, ps, s, hw, hI⟩ := worked_ok x0 h0
  unfold pk_HouseRefuses_m
  rw [houses_t, Option.bind_some, if_neg (by decide), hw, Option.bind_some, Option.bind_some]
  obtain ⟨r, e, hD⟩ := do_ok hI h1
  rw [e, Option.bind_some]
  by_cases hr : r.2.1 = 0
  · rw [if_pos (by rw [beq_iff_eq]; exact hr)]
  · rw [if_neg (by rw [beq_iff_eq]; exact hr)]
    have : r.2.2 = h := by
      cases hD with
      | no e' he => rfl
      | opened h' k _ => exact absurd rfl hr
      | kept t h' qs s' _ _ _ _ _ _ => exact absurd rfl hr
      | crashed h' w _ _ _ _ _ => exact absurd rfl hr
    refine Ok.eq ?_
    rw [ok_bindR]
    refine ok_rangeL (fun _ (u : Hs × Hs) => u.1 = u.2 ∧ ∃ ps s, Inv u.1 ps s) ?_ (fun k d u hk hu => ?_) fun u hu => ?_
    · refine ⟨this, ?_⟩
      dsimp only
      rw [this]; exact ⟨_, _, hI⟩
    · obtain ⟨a, b⟩ := u
      obtain ⟨hab, ps, s, hI⟩ := hu
      dsimp only at hab hI
      subst hab
      obtain ⟨r, e, hD⟩ := do_ok (d := d) hI (h2 d (List.mem_of_getElem? hk))
      unfold pk_HouseRefuses_b1
      dsimp only
      rw [e, Option.bind_some, Option.bind_some]
      refine ⟨.nx (r.2.2, r.2.2), ?_, ⟨rfl, hD.inv hI⟩⟩
      simp [bindF]
    · obtain ⟨a, b⟩ := u
      obtain ⟨hab, ps, s, hI⟩ := hu
      dsimp only at hab hI
      subst hab
      dsimp only
      refine ⟨true, ?_, rfl⟩
      simp only [peta, accts_m hI.run.accts0.1, Option.bind_some, equal_acct, offers_m hI.queue, equal_deal, decide_true, if_true]
      rfl
end Go.Pu
