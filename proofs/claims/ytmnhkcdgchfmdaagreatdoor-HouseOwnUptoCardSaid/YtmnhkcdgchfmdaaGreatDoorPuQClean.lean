/- The plain law: what is left is in order, and all of it may be taken still; cleaned again it is the same. -/
import Derived.Test.YtmnhkcdgchfmdaaGreatDoorWHouseOwnModels
import Derived.Test.YtmnhkcdgchfmdaaGreatDoorPuQOne
set_option linter.all false
namespace Go.Pu
open Go.Fw Go.Mo
def WfA (a : Acct) : Prop := a.1.length ≤ maxLen ∧ (Lit.int .i64 a.2.1).wf = true ∧ (Lit.int .i64 a.2.2).wf = true
/-- has its number passed? -/
def past (accts : List Acct) (d : Deal) : Bool := accts.any fun a => a.1 == d.1 && decide (d.2.2.1 < a.2.2)
theorem indexA (l : List Acct) (g : Acct → Option Bool) (q : Acct → Bool) (h : ∀ a, g a = some (q a)) : slices_IndexFunc_api_Account_api_Account_m l g = some (if l.any q then (l.findIdx q : Int) else -1) := by
  unfold slices_IndexFunc_api_Account_api_Account_m
  rw [rangeL_first (γ := Unit) q l (fun i x _ => by unfold slices_IndexFunc_api_Account_api_Account_b1; rw [h]; rfl)]
  by_cases ha : l.any q = true
  · rw [if_pos ha, if_pos ha]; simp [bindR]
  · rw [if_neg ha, if_neg ha]; rfl
theorem containsA (l : List Acct) (g : Acct → Option Bool) (q : Acct → Bool) (h : ∀ a, g a = some (q a)) : slices_ContainsFunc_api_Account_api_Account_m l g = some (l.any q) := by
  unfold slices_ContainsFunc_api_Account_api_Account_m
  rw [indexA l g q h, Option.bind_some]
  by_cases ha : l.any q = true
  · rw [if_pos ha, ha]; simp
  · have : l.any q = false := by simpa using ha
    rw [if_neg ha, this]; rfl
theorem clean1_ok (accts : List Acct) (d : Deal) : queue_Clean_1_m d accts = some (past accts d) := by
  unfold queue_Clean_1_m
  rw [containsA accts _ (fun a => a.1 == d.1 && decide (d.2.2.1 < a.2.2)) (fun a => by
    unfold queue_Clean_1_1_m
    by_cases h : (a.1 == d.1) = true
    · rw [if_pos h, h]; rfl
    · have h' : (a.1 == d.1) = false := by simpa using h
      rw [if_neg h, h']; rfl)]
  rfl
theorem indexD (l : List Deal) (g : Deal → Option Bool) (q : Deal → Bool) (h : ∀ a, g a = some (q a)) : slices_IndexFunc_api_Deal_api_Deal_m l g = some (if l.any q then (l.findIdx q : Int) else -1) := by
  unfold slices_IndexFunc_api_Deal_api_Deal_m
  rw [rangeL_first (γ := Unit) q l (fun i x _ => by unfold slices_IndexFunc_api_Deal_api_Deal_b1; rw [h]; rfl)]
  by_cases ha : l.any q = true
  · rw [if_pos ha, if_pos ha]; simp [bindR]
  · rw [if_neg ha, if_neg ha]; rfl
/-- slices.DeleteFunc leaves what does not pass the test -/
theorem deleteFunc_ok (l : List Deal) (g : Deal → Option Bool) (q : Deal → Bool) (h : ∀ a, g a = some (q a)) (hl : l.length ≤ 1000) : slices_DeleteFunc_api_Deal_api_Deal_m l g = some (l.filter fun d => !q d) := by
  unfold slices_DeleteFunc_api_Deal_api_Deal_m
  rw [indexD l g q h, Option.bind_some]
  by_cases ha : l.any q = true
  · rw [if_pos ha, if_neg (by rw [beq_iff_eq]; omega)]
    have hlt : l.findIdx q < l.length := List.findIdx_lt_length.2 (by rw [List.any_eq_true] at ha; exact ha)
    generalize hi : l.findIdx q = i at *
    apply Ok.eq
    have hpre : ∀ k, k < i → q (nth l k) = false := fun k hk => by
      have := List.not_of_lt_findIdx (xs := l) (p := q) (i := k) (by omega)
      rw [nth_get (by omega)]; simpa using this
    have hat : q (nth l i) = true := by
      have := List.findIdx_getElem (xs := l) (p := q) (w := by omega)
      rw [nth_get hlt]; simpa [hi] using this
    rw [ok_bindR]
    -- x33: so many are left; x34: so many are looked at
    refine ok_loopM (fun (s : List Deal × Int × Int) => ∃ a b : Nat, s.2.1 = (a : Int) ∧ s.2.2 = (b : Int) ∧ a < b ∧ b ≤ l.length ∧ s.1.length = l.length ∧ s.1.take a = (l.take b).filter (fun d => !q d) ∧ ∀ k, b ≤ k → nth s.1 k = nth l k) (fun s => 1000 - s.2.2.toNat) (fun s hs => ?_) _ _ ⟨i, i + 1, rfl, by (try dsimp only); rw [wadd_of (by omega) (by omega)]; omega, by omega, by omega, rfl, ?_, fun k _ => rfl⟩ (by dsimp only; omega)
    · obtain ⟨m, x, y⟩ := s
      obtain ⟨a, b, rfl, rfl, hab, hb, hm, hf, hr⟩ := hs
      dsimp only at hm hf hr
      unfold slices_DeleteFunc_api_Deal_api_Deal_b1
      dsimp only
      by_cases hlt2 : b < l.length
      · rw [hm, if_pos (by rw [decide_eq_true_eq]; omega), idx_nat, nth_at (by omega), Option.bind_some, h, Option.bind_some, hr b (Nat.le_refl _)]
        have hts : l.take (b + 1) = l.take b ++ [nth l b] := by rw [List.take_succ, nth_at hlt2]; rfl
        by_cases hq : q (nth l b) = true
        · rw [if_neg (by simp [hq]), ok_some, flok_nx, wadd_of (by omega) (by omega)]
          refine ⟨⟨a, b + 1, rfl, by (try dsimp only); omega, by omega, by omega, hm, ?_, fun k hk => hr k (by omega)⟩, by dsimp only; omega⟩
          rw [hts, List.filter_append, ← hf]; simp [hq]
        · rw [if_pos (by simpa using hq), idx_nat, nth_at (by omega), Option.bind_some, ok_some, flok_nx, Int.toNat_natCast, wadd_of (by omega) (by omega), wadd_of (by omega) (by omega)]
          refine ⟨⟨a + 1, b + 1, by (try dsimp only); omega, by (try dsimp only); omega, by omega, by omega, by dsimp only; rw [List.length_set]; exact hm, ?_, fun k hk => by dsimp only; rw [nth_set (by omega), if_neg (by omega)]; exact hr k (by omega)⟩, by dsimp only; omega⟩
          dsimp only
          rw [hts, List.filter_append, ← hf, List.take_succ, List.getElem?_set_self (by omega), List.take_set_of_le (by omega)]
          simp [hq]
      · rw [hm, if_neg (by rw [decide_eq_true_eq]; omega), ok_some, flok_br]
        dsimp only
        have hbl : b = l.length := by omega
        subst hbl
        rw [chk_t (by omega), Option.bind_some, chk_t (by omega), Option.bind_some, ok_some, Int.toNat_natCast, hf, List.take_length]
    · dsimp only
      have hts : l.take (i + 1) = l.take i ++ [nth l i] := by rw [List.take_succ, nth_at hlt]; rfl
      rw [hts, List.filter_append]
      have h2 : (l.take i).filter (fun d => !q d) = l.take i := List.filter_eq_self.2 fun d hd => by
        obtain ⟨k, hk, rfl⟩ := mem_nth hd
        rw [List.length_take] at hk
        rw [nth_take (by omega), hpre k (by omega)]; rfl
      rw [h2]; simp [hat]
  · rw [if_neg ha, if_pos (by decide)]
    congr 1
    refine (List.filter_eq_self.2 fun d hd => ?_).symm
    cases e : q d with
    | false => rfl
    | true => exact absurd (List.any_eq_true.2 ⟨d, hd, e⟩) ha
theorem Queue.filter {l : List Deal} (h : Queue l) (q : Deal → Bool) : Queue (l.filter q) := by
  have hsub := List.filter_sublist (l := l) (p := q)
  refine ⟨Nat.le_trans hsub.length_le h.len, fun d hd => h.right d (List.mem_filter.1 hd).1, ?_⟩
  have hp : l.Pairwise (fun a b => key a ≠ key b) := by
    rw [List.pairwise_iff_getElem]
    intro i j hi hj hij
    have := h.once i j hij hj
    rw [nth_get hi, nth_get hj] at this; exact this
  have hp' := hp.sublist hsub
  rw [List.pairwise_iff_getElem] at hp'
  intro i j hij hj
  rw [nth_get (by omega), nth_get hj]
  exact hp' i j (by omega) hj hij
theorem clean_ok {l : List Deal} {accts : List Acct} (hs : ∀ d ∈ l, ShortD d) (hc : ∃ e, ledger_Check_m accts = some e) : ∃ p, queue_Clean_m l accts = some p ∧ ((p.1 = [] ∧ p.2 ≠ 0) ∨ (p = (l.filter (fun d => !past accts d), 0) ∧ Queue l ∧ ledger_Check_m accts = some 0)) := by
  obtain ⟨e, he, hq⟩ := checkQ_ok hs
  obtain ⟨e', he'⟩ := hc
  unfold queue_Clean_m
  rw [he, Option.bind_some]
  by_cases h0 : e = 0
  · have hQ := hq.1 h0
    have h20 := hQ.len
    rw [if_neg (by rw [bne_iff_ne]; exact fun h => h h0), he', Option.bind_some]
    by_cases h1 : e' = 0
    · rw [if_neg (by rw [bne_iff_ne]; exact fun h => h h1), cloneQ l (by omega), Option.bind_some, deleteFunc_ok l _ (past accts) (fun d => clean1_ok accts d) (by omega), Option.bind_some]
      subst h1
      exact ⟨_, rfl, .inr ⟨rfl, hQ, by first | rfl | exact he'⟩⟩
    · rw [if_pos (by rw [bne_iff_ne]; exact h1)]; exact ⟨_, rfl, .inl ⟨rfl, h1⟩⟩
  · rw [if_pos (by rw [bne_iff_ne]; exact h0)]; exact ⟨_, rfl, .inl ⟨rfl, h0⟩⟩
theorem check_some {accts : List Acct} (h : ∀ a ∈ accts, Short a.1) : ∃ e, ledger_Check_m accts = some e := by
  have : Ok (ledger_Check_m accts) (fun _ => True) := by
    unfold ledger_Check_m
    simp only [ok_ite, ok_some, ok_bindR, decide_eq_true_eq]
    refine ⟨fun _ => trivial, fun h6 => ok_rangeL (fun _ _ => True) trivial (fun k a _ hk _ => ?_) fun _ _ => trivial⟩
    obtain ⟨ha, hkl⟩ := nth_of hk
    unfold ledger_Check_b1
    rw [named_ok (h a (List.mem_of_getElem? hk)), Option.bind_some, ok_bindF]
    have fin : ∀ b : Bool, Ok (if b = true then some (Fl.rt (3 : Int)) else bindF (ρ := Int) (β := Unit) (σ := Bool) (if decide (a.2.1 < (0 : Int)) then some (.nx true) else (if decide (a.2.1 > (1000000 : Int)) then some (.nx true) else (if decide (a.2.2 < (0 : Int)) then some (.nx true) else some (.nx (decide (a.2.2 > (1000000 : Int))))))) fun x121 => (if x121 then some (.rt (1 : Int)) else some (.nx ()))) (FlOk (fun (_ : Unit) => True) (fun _ => True) (fun _ => True)) := fun b => by
      simp only [ok_ite, ok_some, ok_bindF, flok_nx, flok_rt]
      simp
    by_cases hn : nm a.1 = true
    · rw [if_neg (by simp [hn])]
      by_cases hk0 : (k : Int) > 0
      · rw [if_pos (by rw [decide_eq_true_eq]; exact hk0), wsub_of (by omega) (by have := Nat.le_of_lt hkl; omega), show (k : Int) - 1 = ((k - 1 : Nat) : Int) by omega, idx_nat, nth_at (by omega), Option.bind_some, ok_some, flok_nx]
        exact (fin _).fl (fun _ h => h) (fun _ _ => trivial) (fun _ h => h)
      · rw [if_neg (by rw [decide_eq_true_eq]; exact hk0), ok_some, flok_nx]
        exact (fin _).fl (fun _ h => h) (fun _ _ => trivial) (fun _ h => h)
    · rw [if_pos (by simpa using hn), ok_some, flok_nx]
      exact (fin _).fl (fun _ h => h) (fun _ _ => trivial) (fun _ h => h)
  obtain ⟨e, he, _⟩ := this
  exact ⟨e, he⟩
end Go.Pu
