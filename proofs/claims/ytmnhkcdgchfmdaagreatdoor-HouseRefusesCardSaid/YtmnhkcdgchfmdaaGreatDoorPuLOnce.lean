/- The plain law: what has been taken is never taken again; and what comes later not ahead of it. -/
import Derived.Test.YtmnhkcdgchfmdaaGreatDoorWHouseRefusesModels
import Derived.Test.YtmnhkcdgchfmdaaGreatDoorPuPick
import Derived.Test.YtmnhkcdgchfmdaaGreatDoorPuIns
set_option linter.all false
namespace Go.Pu
open Go.Fw Go.Mo
theorem ledgers_t : pk_ledgers_m = some true := by decide +kernel
/-- the number is not the one that is due -/
theorem take_state {l : List Acct} {d : Deal} {t : List UInt8} (hA : Accts l) (hs : ShortA l) (hd : ShortD d) {i j : Nat} (hi : i < l.length) (hj : j < l.length) (ei : (nth l i).1 = d.1) (ej : (nth l j).1 = d.2.1) (hn : d.2.2.1 ≠ (nth l i).2.2) (hr : rt d = 0) : (tk l d t).2 = 6 ∨ (tk l d t).2 = 4 := by
  by_cases ek : ∃ k, k < l.length ∧ (nth l k).1 = t
  · obtain ⟨k, hk, ek⟩ := ek
    obtain ⟨m, hm, e⟩ := take_three hA hs hd hr hi hj hk ei ej ek
    rw [if_pos hn] at e
    left; unfold tk; rw [e]; rfl
  · right
    obtain ⟨e, he, hq⟩ := checkA_ok hs
    have h0 := hq.2 hA
    subst h0
    have hno : ∀ k, k < l.length → (nth l k).1 ≠ t := fun k hk e => ek ⟨k, hk, e⟩
    have : ledger_Take_m l d t = some ([], 4) := by
      unfold ledger_Take_m
      rw [he, Option.bind_some, if_neg (by decide), right_ok hd, hr, Option.bind_some, if_neg (by decide), findA_at hA hi ei, Option.bind_some, findA_at hA hj ej, Option.bind_some, findA_no hno, Option.bind_some]
      have h1 : ¬ (i : Int) < 0 := by omega
      have h2 : ¬ (j : Int) < 0 := by omega
      simp [bindR, h1, h2]
    unfold tk; rw [this]; rfl
theorem rt_next {d : Deal} (h : ShortD d) (h0 : rt d = 0) : rt (d.1, d.2.1, d.2.2.1 + 1, d.2.2.2) = 0 ∨ rt (d.1, d.2.1, d.2.2.1 + 1, d.2.2.2) = 1 := by
  have hf := rt_facts h h0
  have hs : ShortD (d.1, d.2.1, d.2.2.1 + 1, d.2.2.2) := h
  have : Ok (ledger_Right_m (d.1, d.2.1, d.2.2.1 + 1, d.2.2.2)) (fun e => e = 0 ∨ e = 1) := by
    unfold ledger_Right_m
    rw [named_ok hs.1, named_ok hs.2]
    obtain ⟨_, _, _, _, h5, h6, h7⟩ := hf
    dsimp only
    rw [h5, h6]
    simp only [Option.bind_some, ok_bindR, ok_ite, ok_some, flok_nx, decide_eq_true_eq, Bool.not_true, Bool.false_eq_true, beq_iff_eq]
    grind
  obtain ⟨e, he, hf⟩ := this
  have : rt (d.1, d.2.1, d.2.2.1 + 1, d.2.2.2) = e := by unfold rt; rw [he]; rfl
  rw [this]; exact hf
theorem LedgerOnce (x0 : List Acct) (h0 : (∀ a ∈ x0, WfA a) ∧ x0.length ≤ maxLen) (x1 : Deal) (h1 : WfD x1) (x2 : List UInt8) {P : Prop} (_ : P) (x3 : List UInt8) {P' : Prop} (_ : P') : pk_LedgerOnce_m x0 x1 x2 x3 = some true := by
  have hs : ShortA x0 := fun a ha => (h0.1 a ha).1
  have hd := h1.short
  apply Ok.eq
  unfold pk_LedgerOnce_m
  have ht := tk_ok (t := x2) hs hd
  rw [ledgers_t, Option.bind_some, if_neg (by decide), ht.1, Option.bind_some]
  by_cases h : (tk x0 x1 x2).2 = 0
  · rw [if_neg (by rw [bne_iff_ne]; exact fun h' => h' h)]
    obtain ⟨i, j, k, hA, hr, hi, hj, hk, ei, ej, ek, hn, hp, hm, hA'⟩ := tk_yes hs hd h
    have hsm := hm.short hs
    have hml := hm.len
    have hf := rt_facts hd hr
    have ht2 := tk_ok (t := x3) hsm hd
    have mi := hm.at_ i hi
    have mj := hm.at_ j hj
    have s1 := take_state (t := x3) hA' hsm hd (i := i) (j := j) (by omega) (by omega) (by rw [mi]; exact ei) (by rw [mj]; exact ej) (by rw [mi, if_pos rfl]; dsimp only; omega) hr
    have hd' : ShortD (x1.1, x1.2.1, x1.2.2.1 + 1, x1.2.2.2) := hd
    have ht3 := tk_ok (t := x2) hs hd'
    have s2 : (tk x0 (x1.1, x1.2.1, x1.2.2.1 + 1, x1.2.2.2) x2).2 = 6 ∨ (tk x0 (x1.1, x1.2.1, x1.2.2.1 + 1, x1.2.2.2) x2).2 = 1 := by
      rcases rt_next hd hr with hr' | hr'
      · obtain ⟨m, _, e⟩ := take_three hA hs hd' hr' hi hj hk ei ej ek
        rw [if_pos (by dsimp only; omega)] at e
        left; unfold tk; rw [e]; rfl
      · right
        obtain ⟨e, he, hq⟩ := checkA_ok hs
        have h00 := hq.2 hA
        subst h00
        have : ledger_Take_m x0 (x1.1, x1.2.1, x1.2.2.1 + 1, x1.2.2.2) x2 = some ([], 1) := by
          unfold ledger_Take_m
          rw [he, Option.bind_some, if_neg (by decide), right_ok hd', hr', Option.bind_some, if_pos (by decide)]
        unfold tk; rw [this]; rfl
    rw [ht2.1, Option.bind_some, wadd_of (by omega) (by omega), ht3.1, Option.bind_some, ok_bindR]
    rcases s1 with s1 | s1 <;> rcases s2 with s2 | s2 <;> rw [s1, s2] <;> exact ⟨_, rfl, true, rfl, rfl⟩
  · rw [if_pos (by rw [bne_iff_ne]; exact h), ok_some]
    have := ht.2
    generalize tk x0 x1 x2 = p at *
    cases this with
    | no e he => rfl
    | yes => exact absurd rfl h
end Go.Pu
