/- The plain law: who gets his in a round likes nothing better that was left then; all get theirs, each in one round. -/
import Derived.Test.YtnkhelpadbickaaWTradeRoundsModels
import Derived.Test.YtnkhelpadbickaaPuSwapL
set_option linter.all false
namespace Go.Pu
open Go.Fw Go.Mo
theorem less_at (a b : Int) : cmp_Less_int_m a b = some (decide (a < b)) := by
  unfold cmp_Less_int_m cmp_isNaN_int_m
  by_cases h : a < b
  · simp [h, bindR]
  · simp [h, bindR]
theorem isSorted_ok {l : List Int} (hl : l.length ≤ 1000000) (h : ∀ k, k + 1 < l.length → nth l k ≤ nth l (k + 1)) : slices_IsSorted_int_int_m l = some true := by
  apply Ok.eq
  unfold slices_IsSorted_int_int_m
  rw [wsub_of (by omega) (by omega), ok_bindR]
  refine ok_loopM (fun (x : Int) => -1 ≤ x ∧ x < (l.length : Int)) (fun x => (x + 1).toNat) (fun x hx => ?_) _ _ ⟨by omega, by omega⟩ (by omega)
  unfold slices_IsSorted_int_int_b1
  by_cases h0 : x > 0
  · obtain ⟨k, rfl⟩ : ∃ k : Nat, x = ((k + 1 : Nat) : Int) := ⟨(x - 1).toNat, by omega⟩
    have hs := h k (by omega)
    rw [if_pos (by rw [decide_eq_true_eq]; exact h0), idx_nat, nth_at (by omega), Option.bind_some, wsub_of (by omega) (by omega), show ((k + 1 : Nat) : Int) - 1 = (k : Int) by omega, idx_nat, nth_at (by omega), Option.bind_some, less_at, Option.bind_some, if_neg (by rw [decide_eq_true_eq]; omega), ok_some, flok_nx]
    exact ⟨⟨by omega, by omega⟩, by omega⟩
  · rw [if_neg (by rw [decide_eq_true_eq]; exact h0), ok_some, flok_br, ok_some]
theorem sorted_at {l : List Int} (h : l.Pairwise (· < ·)) {k : Nat} (hk : k + 1 < l.length) : nth l k ≤ nth l (k + 1) := by
  have := (List.pairwise_iff_getElem.1 h) k (k + 1) (by omega) hk (by omega)
  rw [nth_get (by omega), nth_get hk]; omega
theorem TradeRounds (x0 : Int) (_ : (Lit.int .i64 x0).wf = true) (x1 : List (List Int)) (_ : (∀ r ∈ x1, (∀ x ∈ r, (Lit.int .i64 x).wf = true) ∧ r.length ≤ maxLen) ∧ x1.length ≤ maxLen) : pk_TradeRounds_m x0 x1 = some true := by
  obtain ⟨n, n1, n6, hn⟩ := one_within x0 6 (by decide) (by decide)
  rw [show ((6 : Nat) : Int) = 6 from rfl] at hn
  obtain ⟨l, el, hl⟩ := likesOf_ok n1 n6 x1
  have hll := hl.len
  obtain ⟨g, r, G, ρ, K, es, s⟩ := swap_ok hl
  apply Ok.eq
  unfold pk_TradeRounds_m
  rw [trades_t, Option.bind_some, if_neg (by decide), within_at x0 6 (by decide) (by decide), Option.bind_some, hn, el, Option.bind_some, es, Option.bind_some]
  dsimp only
  have hgl := s.gl; have hrl := s.rl
  rw [if_neg (by decide), ok_bindR, ok_some, flok_nx, if_neg (by rw [bne_iff_ne]; omega), ok_bindR]
  refine ok_rangeN (fun t (gone : List Int) => (∀ x : Int, x ∈ gone ↔ ∃ i : Nat, i < n ∧ ρ i < t ∧ x = (i : Int)) ∧ gone.length = (pickB (fun i => decide (ρ i < t)) n).length) ⟨fun x => ⟨fun h => by (cases h), fun ⟨i, _, h, _⟩ => by omega⟩, ?_⟩ (fun t gone ht hI => ?_) fun gone hg => ?_
  · have : ¬ 0 < (pickB (fun i => decide (ρ i < 0)) n).length := fun h => by
      obtain ⟨i, _, h⟩ := pickB_pos.1 h
      simp at h
    show ([] : List Int).length = _
    rw [List.length_nil]; omega
  · obtain ⟨hI, hIl⟩ := hI
    have htK : t < K := by omega
    have hround := s.rounds t htK
    unfold pk_TradeRounds_b1
    dsimp only
    rw [idx_nat, nth_at ht, Option.bind_some, hround, ok_bindF]
    obtain ⟨a, ha, eat⟩ := s.ttc.hit t htK
    have hpos : 0 < (pickB (fun i => ρ i == t) n).length := pickB_pos.2 ⟨a, ha, by rw [beq_iff_eq]; exact eat⟩
    have hlen : (pickB (fun i => ρ i == t) n).length ≤ n := pickB_len
    have hgl6 : gone.length ≤ n := by rw [hIl]; exact pickB_len
    have rin : ∀ {k : Nat} {y : Int}, (pickB (fun i => ρ i == t) n)[k]? = some y → ∃ i : Nat, i < n ∧ ρ i = t ∧ y = (i : Int) := fun h => by
      obtain ⟨i, h1, h2, h3⟩ := mem_pickB.1 (List.mem_of_getElem? h)
      exact ⟨i, h1, by rw [beq_iff_eq] at h2; exact h2, h3⟩
    rw [if_neg (by rw [beq_iff_eq]; omega), isSorted_ok (by omega) (fun k hk => sorted_at pickB_sorted hk), Option.bind_some, ok_some, flok_nx, if_neg (by decide), ok_bindF]
    refine ok_rangeL (fun _ _ => True) trivial (fun k y _ hk _ => ?_) fun _ _ => ?_
    · obtain ⟨i, hi, hit, rfl⟩ := rin hk
      have hni : ¬ (i : Int) ∈ gone := fun h => by
        obtain ⟨j, _, h2, h3⟩ := (hI _).1 h
        have : i = j := by omega
        subst this; omega
      unfold pk_TradeRounds_b2
      rw [hn, contains_ok, Option.bind_some, if_neg (by rw [decide_eq_true_eq]; omega), if_neg (by rw [decide_eq_true_eq]; omega), ok_bindF, ok_some, flok_nx, if_neg (by rw [decide_eq_true_eq]; exact hni), idx_nat, nth_at (by omega), Option.bind_some, ok_bindF]
      have hop := hl.ord i hi
      have hGi := s.ttc.lt i hi
      refine ok_rangeL (fun k _ => k ≤ rk l i (G i)) (Nat.zero_le _) (fun q y _ hq hQ => ?_) fun _ _ => by rw [ok_some, flok_nx]; trivial
      obtain ⟨hy, hql⟩ := nth_of hq
      rw [hop.len] at hql
      have hv := hop.val hql
      rw [hy] at hv
      obtain ⟨b, rfl⟩ : ∃ b : Nat, y = (b : Int) := ⟨y.toNat, by omega⟩
      have hb : b < n := by omega
      have hrk : rk l i b = q := by unfold rk; rw [← hy, hop.idx hql]
      unfold pk_TradeRounds_b3
      dsimp only
      rw [idx_nat, nth_at (by omega), Option.bind_some, s.got i hi]
      by_cases e : b = G i
      · subst e
        rw [if_pos (by rw [beq_iff_eq]), ok_some, flok_br, ok_some, flok_nx]; trivial
      · have hne : rk l i b ≠ rk l i (G i) := fun h => e (hl.inj hi hb hGi h)
        rw [if_neg (by rw [beq_iff_eq]; omega), contains_ok, Option.bind_some]
        have hin : (b : Int) ∈ gone := by
          refine (hI _).2 ⟨b, hb, ?_, rfl⟩
          by_cases h : ρ b < t
          · exact h
          · have := s.ttc.best i b hi hb (by omega); omega
        rw [if_neg (by simp [hin]), ok_some, flok_nx]
        omega
    · rw [ok_bindF]
      refine ok_rangeL (fun _ _ => True) trivial (fun k y _ hk _ => ?_) fun _ _ => ?_
      · obtain ⟨i, hi, hit, rfl⟩ := rin hk
        unfold pk_TradeRounds_b4
        dsimp only
        have hin : ((G i : Nat) : Int) ∈ pickB (fun i => ρ i == t) n := mem_pickB.2 ⟨G i, s.ttc.lt i hi, by rw [beq_iff_eq, s.ttc.same i hi]; exact hit, rfl⟩
        rw [idx_nat, nth_at (by omega), Option.bind_some, s.got i hi, contains_ok, Option.bind_some, if_neg (by simp [hin]), ok_some, flok_nx]; trivial
      · rw [chk_t (by omega), Option.bind_some, ok_some, flok_nx]
        refine ⟨fun x => ?_, ?_⟩
        · rw [List.mem_append, hI, mem_pickB]
          constructor
          · rintro (⟨i, h1, h2, h3⟩ | ⟨i, h1, h2, h3⟩)
            · exact ⟨i, h1, by omega, h3⟩
            · rw [beq_iff_eq] at h2; exact ⟨i, h1, by omega, h3⟩
          · rintro ⟨i, h1, h2, h3⟩
            by_cases e : ρ i < t
            · exact .inl ⟨i, h1, e, h3⟩
            · exact .inr ⟨i, h1, by rw [beq_iff_eq]; omega, h3⟩
        · rw [List.length_append, hIl]
          have := pickB_split (p := fun i => decide (ρ i < t + 1)) (q := fun i => decide (ρ i < t)) n
          rw [← this]
          have e1 : (pickB (fun i => decide (ρ i < t + 1) && decide (ρ i < t)) n).length = (pickB (fun i => decide (ρ i < t)) n).length := by
            congr 1; refine pickB_congr fun k _ => ?_
            rw [Bool.eq_iff_iff]; simp; omega
          have e2 : (pickB (fun i => decide (ρ i < t + 1) && !decide (ρ i < t)) n).length = (pickB (fun i => ρ i == t) n).length := by
            congr 1; refine pickB_congr fun k _ => ?_
            rw [Bool.eq_iff_iff]; simp; omega
          omega
  · rw [ok_some, beq_iff_eq, hg.2]
    have : ∀ m : Nat, (∀ i, i < m → ρ i < r.length) → (pickB (fun i => decide (ρ i < r.length)) m).length = m := by
      intro m
      induction m with
      | zero => intro _; rfl
      | succ m ih =>
        intro h
        simp only [pickB, List.length_append]
        rw [ih fun i hi => h i (by omega), if_pos (by simpa using h m (by omega))]; rfl
    rw [this n fun i hi => by rw [hrl]; exact s.ttc.le i hi]
end Go.Pu
