/- The plain law: money comes by accounts that are opened alone. -/
import Derived.Test.YtmnhkcdgchfmdaaGreatDoorWHouseOwnModels
import Derived.Test.YtmnhkcdgchfmdaaGreatDoorPuHouseT
set_option linter.all false
namespace Go.Pu
open Go.Fw Go.Mo
theorem peta {α β : Type} (p : α × β) : (p.1, p.2) = p := rfl
theorem accts_m {h : Hs} (hA : Accts h.1) : house_House_Accounts_m h = some h.1 := by
  have := hA.len
  unfold house_House_Accounts_m; rw [cloneA _ (by omega)]; rfl
theorem offers_m {h : Hs} (hQ : Queue h.2.1) : house_House_Offers_m h = some h.2.1 := by
  have := hQ.len
  unfold house_House_Offers_m; rw [cloneQ _ (by omega)]; rfl
theorem sum_le : ∀ l : List Acct, (∀ a ∈ l, 0 ≤ a.2.1 ∧ a.2.1 ≤ 1000000) → 0 ≤ (l.map fun a => a.2.1).sum ∧ (l.map fun a => a.2.1).sum ≤ 1000000 * l.length
  | [], _ => by simp
  | a :: l, h => by
    have := sum_le l fun x hx => h x (by simp [hx])
    have := h a (by simp)
    rw [List.map_cons, List.sum_cons, List.length_cons]; omega
theorem Accts.money {l : List Acct} (h : Accts l) : 0 ≤ moneyS l ∧ moneyS l ≤ 6000000 := by
  have h6 := h.len
  rw [sum_map]
  have := sum_le l fun a ha => (h.val a ha).1
  omega
theorem money_open {l m : List Acct} {s : Bs} {n : Int} (h : m.Perm (l ++ [(s, n, 0)])) : moneyS m = moneyS l + n := by
  rw [perm_money h, sum_map, sum_map, List.map_append, List.sum_append]; simp
theorem StepO.money {l m : List Acct} {p : Op} (hs : ShortA l) (hr : RightO p) (h : StepO l p m) : moneyS l ≤ moneyS m ∧ ((∃ x t, p = .d x t) → moneyS m = moneyS l) := by
  cases p with
  | o s n =>
    obtain ⟨_, h0, _, hm, _⟩ := opened_facts hs hr.1 h
    have := money_open hm
    exact ⟨by omega, fun ⟨x, t, e⟩ => by cases e⟩
  | d x t =>
    obtain ⟨i, j, k, _, _, hi, hj, hk, _, hm, _⟩ := took_facts hs hr.1 h
    have := hm.money hi hj hk
    exact ⟨by omega, fun _ => this⟩
theorem Runs.money {l m : List Acct} {ps : List Op} (h : Runs l ps m) (hA : Accts l) (hs : ShortA l) : moneyS l ≤ moneyS m ∧ ((∀ p ∈ ps, ∃ x t, p = .d x t) → moneyS m = moneyS l) := by
  induction h with
  | nil l => exact ⟨Int.le_refl _, fun _ => rfl⟩
  | cons hr hst h ih =>
    obtain ⟨a, b⟩ := hst.accts hs hr
    obtain ⟨i1, i2⟩ := ih a b
    obtain ⟨j1, j2⟩ := hst.money hs hr
    refine ⟨by omega, fun hp => ?_⟩
    rw [i2 fun p hp' => hp p (by simp [hp']), j2 (hp _ (by simp))]
/-! ### safe -/
/-! ### an error changes nothing -/
end Go.Pu
