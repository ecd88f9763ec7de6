/- The plain law: what is opened. -/
import Derived.Test.YtmnhkcdgchfmdaaGreatDoorWHouseOwnModels
import Derived.Test.YtmnhkcdgchfmdaaGreatDoorPuLApart
set_option linter.all false
namespace Go.Pu
open Go.Fw Go.Mo
theorem acctWeak : Weak (fun a b : Acct => bls a.1 b.1) := by
  refine ⟨fun a b h => ?_, fun a b c h1 h2 => ?_⟩
  · cases e : bls b.1 a.1 with
    | false => rfl
    | true => have := bls_trans _ _ _ h e; rw [bls_irrefl] at this; cases this
  · cases e : bls a.1 c.1 with
    | false => rfl
    | true =>
      rcases bls_total a.1 b.1 with h | h | h
      · rw [h1] at h; cases h
      · rw [h, h2] at e; cases e
      · have := bls_trans _ _ _ h e
        rw [h2] at this; cases this
theorem sumN_left (f : Nat → Int) : ∀ n, sumN (n + 1) f = f 0 + sumN n fun q => f (q + 1)
  | 0 => by simp [sumN]
  | n + 1 => by
    have := sumN_left f n
    simp only [sumN] at this ⊢
    omega
theorem sum_map : ∀ (l : List Acct), moneyS l = (l.map fun a => a.2.1).sum
  | [] => rfl
  | a :: l => by
    have ih := sum_map l
    unfold moneyS at ih ⊢
    rw [List.length_cons, sumN_left, List.map_cons, List.sum_cons, ← ih]; rfl
theorem perm_sum {l m : List Int} (h : m.Perm l) : m.sum = l.sum := by
  induction h with
  | nil => rfl
  | cons x _ ih => rw [List.sum_cons, List.sum_cons, ih]
  | swap x y l => simp only [List.sum_cons]; omega
  | trans _ _ h1 h2 => rw [h1, h2]
theorem perm_money {l m : List Acct} (h : m.Perm l) : moneyS m = moneyS l := by
  rw [sum_map, sum_map]
  exact perm_sum (h.map _)
inductive Opened (l : List Acct) (s : List UInt8) (n : Int) : List Acct × Int → Prop
  | no (e : Int) : e ≠ 0 → Opened l s n ([], e)
  | yes (m : List Acct) : Accts l → 0 ≤ n → n ≤ 1000000 → m.Perm (l ++ [(s, n, 0)]) → Accts m → Opened l s n (m, 0)
theorem open_ok {l : List Acct} {s : List UInt8} {n : Int} (hs : ShortA l) (hsh : Short s) : Ok (ledger_Open_m l s n) (Opened l s n) := by
  obtain ⟨e, he, hq⟩ := checkA_ok hs
  unfold ledger_Open_m
  rw [he, Option.bind_some]
  by_cases h0 : e = 0
  · have hA := hq.1 h0
    have h6 := hA.len
    rw [if_neg (by rw [bne_iff_ne]; exact fun h => h h0), named_ok hsh, Option.bind_some]
    by_cases hn : nm s = true
    · rw [if_neg (by simp [hn]), ok_bindR]
      by_cases hr : 0 ≤ n ∧ n ≤ 1000000
      · rw [if_neg (by rw [decide_eq_true_eq]; omega), ok_some, flok_nx, if_neg (by rw [decide_eq_true_eq]; omega)]
        rcases findA_cases hA s with ⟨i, hi, ei, f⟩ | ⟨hno, f⟩
        · rw [f, Option.bind_some, if_pos (by rw [decide_eq_true_eq]; omega), ok_some]; exact .no 7 (by decide)
        · rw [f, Option.bind_some, if_neg (by decide)]
          by_cases h66 : l.length = 6
          · rw [if_pos (by rw [beq_iff_eq]; omega), ok_some]; exact .no 8 (by decide)
          · rw [if_neg (by rw [beq_iff_eq]; omega), cloneA l (by omega), Option.bind_some, chk_t (by simp only [List.length_cons, List.length_nil]; omega), Option.bind_some]
            obtain ⟨m, em, hm⟩ := sortFunc_acct (l := l ++ [(s, n, 0)]) (g := fun a0 a1 => ledger_Open_1_m a0 a1) acctWeak (fun a b => by
              unfold ledger_Open_1_m
              by_cases h : bls a.1 b.1 = true
              · exact ⟨-1, by rw [if_pos h], by rw [h]; rfl⟩
              · exact ⟨1, by rw [if_neg h], by rw [show bls a.1 b.1 = false by simpa using h]; rfl⟩) (by simp; omega)
            rw [em, Option.bind_some, ok_some]
            refine .yes m hA hr.1 hr.2 hm.perm ⟨by rw [hm.perm.length_eq]; simp; omega, fun a ha => ?_, fun k hk => ?_, fun a ha => ?_⟩
            · rcases List.mem_append.1 (hm.perm.mem_iff.1 ha) with h | h
              · exact hA.name a h
              · rw [List.mem_singleton] at h; subst h; exact hn
            · have hp := (List.pairwise_iff_getElem.1 hm.asc) k (k + 1) (by omega) hk (by omega)
              rw [← nth_get hk, ← nth_get (by omega : k < m.length)] at hp
              rcases bls_total (nth m k).1 (nth m (k + 1)).1 with h | h | h
              · exact h
              · exfalso
                -- all names are unlike
                have hnd : (l ++ [(s, n, 0)]).Pairwise (fun a b : Acct => a.1 ≠ b.1) := by
                  rw [List.pairwise_append]
                  refine ⟨?_, by simp, fun a ha b hb => ?_⟩
                  · rw [List.pairwise_iff_getElem]
                    intro i j hi hj hij
                    rw [← nth_get hi, ← nth_get hj]; exact hA.ne hij hj
                  · rw [List.mem_singleton] at hb; subst hb
                    obtain ⟨i, hi, rfl⟩ := mem_nth ha
                    exact hno i hi
                have hnd2 := (hm.perm.pairwise_iff (fun {a b} (h : a.1 ≠ b.1) => h.symm)).2 hnd
                have := (List.pairwise_iff_getElem.1 hnd2) k (k + 1) (by omega) hk (by omega)
                rw [← nth_get hk, ← nth_get (by omega : k < m.length)] at this
                exact this h
              · rw [hp] at h; cases h
            · rcases List.mem_append.1 (hm.perm.mem_iff.1 ha) with h | h
              · exact hA.val a h
              · rw [List.mem_singleton] at h; subst h; exact ⟨hr, Int.le_refl _, by dsimp only; omega⟩
      · have : (if decide (n < (0 : Int)) then some (Fl.nx (ρ := List Acct × Int) (β := Unit) true) else some (.nx (decide (n > (1000000 : Int))))) = some (.nx true) := by
          by_cases h : n < 0
          · rw [if_pos (by rw [decide_eq_true_eq]; exact h)]
          · rw [if_neg (by rw [decide_eq_true_eq]; exact h), decide_eq_true (by omega)]
        rw [this, ok_some, flok_nx, if_pos rfl, ok_some]; exact .no 1 (by decide)
    · rw [if_pos (by simpa using hn), ok_some]; exact .no 3 (by decide)
  · rw [if_pos (by rw [bne_iff_ne]; exact h0), ok_some]; exact .no _ h0
end Go.Pu
