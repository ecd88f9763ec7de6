/- What trade.Holds answers: no set has a swap of its own that each in it likes better. -/
import Derived.Test.YtnkhelpadbickaaWTradeOnlyModels
import Derived.Test.YtnkhelpadbickaaPuSwapL
import Derived.Test.YtnkhelpadbickaaPuSets
import Derived.Test.YtnkhelpadbickaaPuMat
set_option linter.all false
namespace Go.Pu
open Go.Fw Go.Mo
def betB (lt : Nat → Nat → Bool) (n S : Nat) : Nat → Nat → Nat → Bool
  | 0, _, _ => true
  | d + 1, i, T => if has S i then (List.range n).any (fun x => has S x && !has T x && lt i x && betB lt n S d (i + 1) (T + 2 ^ x)) else betB lt n S d (i + 1) T
/-- who finds nothing better in the set spoils it -/
theorem bet_no {lt : Nat → Nat → Bool} {n S i0 : Nat} (hs : has S i0 = true) (hno : ∀ x, x < n → has S x = true → lt i0 x = false) : ∀ (d i T : Nat), i ≤ i0 → i0 < i + d → betB lt n S d i T = false
  | 0, i, T, h1, h2 => by omega
  | d + 1, i, T, h1, h2 => by
    by_cases e : i = i0
    · subst e
      show (if has S i = true then _ else _) = false
      rw [if_pos hs, List.any_eq_false]
      intro x hx
      rw [List.mem_range] at hx
      by_cases hsx : has S x = true
      · simp [hno x hx hsx]
      · simp [hsx]
    · have ih := fun T => bet_no hs hno d (i + 1) T (by omega) (by omega)
      show (if has S i = true then _ else _) = false
      split
      · rw [List.any_eq_false]
        intro x hx
        simp [ih]
      · exact ih T
theorem one_has : ∀ i : Nat, i < 6 → ∀ j : Nat, j < 6 → has (2 ^ i) j = (j == i) := by decide +kernel
theorem bet_one {lt : Nat → Nat → Bool} {n i0 : Nat} (h6 : n ≤ 6) (hi : i0 < n) (hlt : lt i0 i0 = true) : ∀ (d i T : Nat), i + d = n → (i ≤ i0 → has T i0 = false) → betB lt n (2 ^ i0) d i T = true
  | 0, i, T, _, _ => rfl
  | d + 1, i, T, h, hT => by
    show (if has (2 ^ i0) i = true then _ else _) = true
    have hh := one_has i0 (by omega) i (by omega)
    by_cases e : i = i0
    · subst e
      rw [if_pos (by rw [hh]; simp), List.any_eq_true]
      refine ⟨i, List.mem_range.2 hi, ?_⟩
      rw [hh, hT (Nat.le_refl _), hlt, bet_one h6 hi hlt d (i + 1) _ (by omega) (fun h => by omega)]
      simp
    · rw [if_neg (by rw [hh]; simpa using e)]
      exact bet_one h6 hi hlt d (i + 1) T (by omega) (fun h => hT (by omega))
theorem better_ok {n : Nat} {pl : List (List Int)} {got : List Int} {P : Nat → Nat → Int} {G : Nat → Nat} (h6 : n ≤ 6) (hp : Mat n n pl P) (hg : got.length = n) (hgv : ∀ i, i < n → nth got i = (G i : Int) ∧ G i < n) {S : Nat} (hS : S < 2 ^ n) :
    ∀ (f d i T : Nat), i + d = n → d < f → T < 2 ^ n → trade_better_f f pl got (S : Int) (i : Int) (T : Int) = some (betB (fun i x => decide (P i x < P i (G i))) n S d i T)
  | 0, d, i, T, _, h, _ => by omega
  | f + 1, d, i, T, hid, hdf, hT => by
    have p64 := pow_le n (by omega)
    show trade_better_r (trade_better_f f) pl got (S : Int) (i : Int) (T : Int) = _
    unfold trade_better_r
    cases d with
    | zero => rw [if_pos (by rw [beq_iff_eq]; omega)]; rfl
    | succ d =>
      have IH := fun T hT => better_ok h6 hp hg hgv hS f d (i + 1) T (by omega) (by omega) hT
      rw [if_neg (by rw [beq_iff_eq]; omega), chk_t (by omega), Option.bind_some, bit_ok S (by omega) i (by omega), wadd_of (by omega) (by omega), show (i : Int) + 1 = ((i + 1 : Nat) : Int) by omega]
      show _ = some (if has S i = true then _ else _)
      by_cases hs : has S i = true
      · rw [if_pos hs, if_neg (by decide), if_pos hs]
        apply Ok.eq
        rw [ok_bindR]
        refine ok_rangeL (fun k _ => ∀ x, x < k → (has S x && !has T x && decide (P i x < P i (G i)) && betB (fun i x => decide (P i x < P i (G i))) n S d (i + 1) (T + 2 ^ x)) = false) (fun x hx => by omega) (fun k y s hk hI => ?_) fun s hs' => ?_
        · obtain ⟨_, hkn⟩ := nth_of hk
          have nxt : ∀ (B' : Unit → Prop), (has S k && !has T k && decide (P i k < P i (G i)) && betB (fun i x => decide (P i x < P i (G i))) n S d (i + 1) (T + 2 ^ k)) = false → Ok (some (Fl.nx (ρ := Bool) (β := Unit) ())) (FlOk (fun _ => ∀ x, x < k + 1 → (has S x && !has T x && decide (P i x < P i (G i)) && betB (fun i x => decide (P i x < P i (G i))) n S d (i + 1) (T + 2 ^ x)) = false) B' (fun r => r = (List.range n).any (fun x => has S x && !has T x && decide (P i x < P i (G i)) && betB (fun i x => decide (P i x < P i (G i))) n S d (i + 1) (T + 2 ^ x)))) := fun B' hf => by
            rw [ok_some, flok_nx]
            intro x hx
            by_cases e : x = k
            · subst e; exact hf
            · exact hI x (by omega)
          unfold trade_better_b1
          rw [chk_t (by omega), Option.bind_some, bit_ok S (by omega) k (by omega), ok_bindF]
          by_cases hsk : has S k = true
          · rw [if_pos hsk, if_pos (by decide), Option.bind_some, bit_ok T (by omega) k (by omega)]
            by_cases htk : has T k = true
            · rw [if_pos htk, if_neg (by decide), ok_some, flok_nx, if_neg (by decide)]
              exact nxt _ (by simp [htk])
            · have htk' : has T k = false := by simpa using htk
              have hGi := hgv i (by omega)
              have e1 : idx pl (i : Int) = some (nth pl i) := by rw [idx_nat, nth_at (by rw [hp.len]; omega)]
              have e2 : ∀ x : Nat, x < n → idx (nth pl i) (x : Int) = some (P i x) := fun x hx => by rw [idx_nat, nth_at (by rw [hp.row i (by omega)]; exact hx), hp.at_ i x (by omega) hx]
              rw [if_neg htk, if_pos (by decide), e1, Option.bind_some, e2 k (by omega), Option.bind_some, Option.bind_some, idx_nat, nth_at (by omega), Option.bind_some, hGi.1, e2 (G i) hGi.2, Option.bind_some]
              by_cases hlt : P i k < P i (G i)
              · have hT' := with_lt n (by omega) T hT k (by omega) htk'
                rw [if_pos (by rw [decide_eq_true_eq]; exact hlt), Option.bind_some, or_ok T (by omega) k (by omega) htk', wadd_of (by omega) (by omega), show (i : Int) + 1 = ((i + 1 : Nat) : Int) by omega, IH _ hT', Option.bind_some, ok_some, flok_nx]
                by_cases hb : betB (fun i x => decide (P i x < P i (G i))) n S d (i + 1) (T + 2 ^ k) = true
                · rw [if_pos hb, ok_some, flok_rt, eq_comm, List.any_eq_true]
                  exact ⟨k, List.mem_range.2 (by omega), by (try dsimp only); rw [hsk, htk', decide_eq_true hlt, hb]; rfl⟩
                · rw [if_neg hb]
                  exact nxt _ (by simp [hb])
              · rw [if_neg (by rw [decide_eq_true_eq]; exact hlt), ok_some, flok_nx, if_neg (by decide)]
                exact nxt _ (by simp [hlt])
          · rw [if_neg hsk, if_neg (by decide), ok_some, flok_nx, if_neg (by decide)]
            exact nxt _ (by simp [hsk])
        · rw [ok_some, eq_comm, List.any_eq_false]
          intro x hx
          rw [List.mem_range] at hx
          rw [hs' x (by omega)]; decide
      · rw [if_neg hs, if_pos (by decide), if_neg hs, IH T hT]; rfl
theorem has_ex : ∀ n : Nat, n < 7 → ∀ S : Nat, S < 2 ^ n → 1 ≤ S → (List.range n).any (has S) = true := by decide +kernel
theorem holds_trade {n : Nat} {l : List (List Int)} (h : Likes n l) {got : List Int} {G : Nat → Nat} (ho : Ord n got) (hg : ∀ i, i < n → nth got i = (G i : Int)) :
    ∃ b, trade_Holds_m l got = some (b, 0) ∧ (b = true ↔ ∀ S, 1 ≤ S → S < 2 ^ n → betB (fun i x => decide ((rk l i x : Int) < (rk l i (G i) : Int))) n S n 0 0 = false) := by
  have hl := h.len; have n1 := h.n1; have n6 := h.n6
  have p64 := pow_le n (by omega)
  have hGn : ∀ i, i < n → nth got i = (G i : Int) ∧ G i < n := fun i hi => ⟨hg i hi, by have := ho.val hi; rw [hg i hi] at this; omega⟩
  have this : Ok (trade_Holds_m l got) (fun p => p.2 = 0 ∧ (p.1 = true ↔ ∀ S, 1 ≤ S → S < 2 ^ n → betB (fun i x => decide ((rk l i x : Int) < (rk l i (G i) : Int))) n S n 0 0 = false)) := by
    unfold trade_Holds_m
    rw [tcheck_ok h, Option.bind_some, if_neg (by decide), hl, order_check n1 n6 ho, Option.bind_some, if_neg (by decide), chk_t (by omega), Option.bind_some, ok_bindR, Int.toNat_natCast]
    refine ok_rangeL (fun k (m : List (List Int)) => m.length = n ∧ ∀ i, i < k → (nth m i).length = n ∧ ∀ x, x < n → nth (nth m i) x = (rk l i x : Int)) ⟨by simp, fun i hi => by omega⟩ (fun k p m hk hI => ?_) fun m hm => ?_
    · obtain ⟨hp, hkl⟩ := nth_of hk
      have hop := h.ord k (by omega)
      rw [hp] at hop
      unfold trade_Holds_b1
      rw [hl, chk_t (by omega), Option.bind_some, idx_nat, nth_at (by omega), Option.bind_some, ok_bindF, Int.toNat_natCast]
      refine ok_rangeL (fun j (q : List (List Int)) => q.length = n ∧ (∀ i, i < k → nth q i = nth m i) ∧ (nth q k).length = n ∧ ∀ x : Nat, x < n → p.idxOf (x : Int) < j → nth (nth q k) x = (p.idxOf (x : Int) : Int)) ?_ (fun j y q hj hJ => ?_) fun q hq => ?_
      · refine ⟨by rw [List.length_set]; exact hI.1, fun i hi => by rw [nth_set (by omega), if_neg (by omega)], by rw [nth_set (by omega), if_pos rfl]; simp, fun x _ hx => by omega⟩
      · obtain ⟨hy, hjl⟩ := nth_of hj
        rw [hop.len] at hjl
        have hv := hop.val hjl
        rw [hy] at hv
        obtain ⟨b, rfl⟩ : ∃ b : Nat, y = (b : Int) := ⟨y.toNat, by omega⟩
        have hib : p.idxOf (b : Int) = j := by rw [← hy, hop.idx hjl]
        obtain ⟨q1, q2, q3, q4⟩ := hJ
        unfold trade_Holds_b2
        rw [idx_nat, nth_at (by omega), Option.bind_some, idx_nat, nth_at (by omega), Option.bind_some, ok_some, flok_nx, Int.toNat_natCast]
        refine ⟨by rw [List.length_set]; exact q1, fun i hi => by rw [nth_set (by omega), if_neg (by omega)]; exact q2 i hi, by rw [nth_set (by omega), if_pos rfl, List.length_set]; exact q3, fun x hx hlt => ?_⟩
        rw [nth_set (by omega), if_pos rfl, nth_set (by omega)]
        by_cases e : x = b
        · subst e; rw [if_pos rfl, hib]
        · rw [if_neg e]
          refine q4 x hx ?_
          by_cases e2 : p.idxOf (x : Int) = j
          · exact absurd (hop.idx_inj hx (by omega) (e2.trans hib.symm)) e
          · omega
      · rw [ok_some, flok_nx]
        obtain ⟨q1, q2, q3, q4⟩ := hq
        refine ⟨q1, fun i hi => ?_⟩
        by_cases e : i = k
        · subst e
          refine ⟨q3, fun x hx => ?_⟩
          rw [q4 x hx (by rw [hop.len]; exact hop.idx_lt hx)]
          unfold rk; rw [hp]
        · rw [q2 i (by omega)]; exact hI.2 i (by omega)
    · have hM : Mat n n m (fun i x => (rk l i x : Int)) := ⟨hm.1, fun i hi => (hm.2 i (by omega)).1, fun i x hi hx => (hm.2 i (by omega)).2 x hx⟩
      rw [ok_bindR]
      refine ok_loopM (fun (s : Int) => ∃ k : Nat, s = (k : Int) ∧ 1 ≤ k ∧ k ≤ 2 ^ n ∧ ∀ S, 1 ≤ S → S < k → betB (fun i x => decide ((rk l i x : Int) < (rk l i (G i) : Int))) n S n 0 0 = false) (fun s => 64 - s.toNat) (fun s hs => ?_) _ _ ⟨1, rfl, Nat.le_refl _, Nat.one_le_two_pow, fun S h1 h2 => by omega⟩ (by decide)
      obtain ⟨k, rfl, k1, k2, hk⟩ := hs
      unfold trade_Holds_b3
      rw [hl, chk_t (by omega), Option.bind_some, pow_ok n (by omega)]
      by_cases hlt : k < 2 ^ n
      · have hb := better_ok n6 hM ho.len hGn hlt 64 n 0 0 (by omega) (by omega) (Nat.two_pow_pos n)
        rw [if_pos (by rw [decide_eq_true_eq]; omega)]
        unfold trade_better_m
        rw [show (0 : Int) = ((0 : Nat) : Int) from rfl, hb, Option.bind_some]
        by_cases hB : betB (fun i x => decide ((rk l i x : Int) < (rk l i (G i) : Int))) n k n 0 0 = true
        · rw [if_pos hB, ok_some, flok_rt]
          refine ⟨rfl, Iff.intro (fun h => by cases h) fun h => ?_⟩
          rw [h k k1 hlt] at hB; cases hB
        · rw [if_neg hB, ok_some, flok_nx, wadd_of (by omega) (by omega)]
          refine ⟨⟨k + 1, by omega, by omega, by omega, fun S h1 h2 => ?_⟩, by omega⟩
          by_cases e : S = k
          · subst e; simpa using hB
          · exact hk S h1 (by omega)
      · rw [if_neg (by rw [decide_eq_true_eq]; omega), ok_some, flok_br, ok_some]
        exact ⟨rfl, ⟨fun _ S h1 h2 => hk S h1 (by omega), fun _ => rfl⟩⟩
  obtain ⟨⟨b, e⟩, h1, h2, h3⟩ := this
  dsimp only at h2 h3
  subst h2
  exact ⟨b, h1, h3⟩
/-- who has nothing better there: all of the set but one -/
theorem holds_of {n : Nat} {rk : Nat → Nat → Nat} {G : Nat → Nat} (n6 : n ≤ 6) (μ : Nat → Nat) (hno : ∀ i x, i < n → x < n → μ i ≤ μ x → rk i (G i) ≤ rk i x) : ∀ S, 1 ≤ S → S < 2 ^ n → betB (fun i x => decide ((rk i x : Int) < (rk i (G i) : Int))) n S n 0 0 = false := fun S h1 h2 => by
  have := has_ex n (by omega) S h2 h1
  rw [List.any_eq_true] at this
  obtain ⟨a, ha, hs⟩ := this
  rw [List.mem_range] at ha
  obtain ⟨m, ⟨i0, hi0, hs0, e⟩, hmin⟩ := least (p := fun m => ∃ i, i < n ∧ has S i = true ∧ μ i = m) ⟨_, a, ha, hs, rfl⟩
  refine bet_no hs0 (fun x hx hsx => ?_) n 0 0 (Nat.zero_le _) (by omega)
  have := hno i0 x hi0 hx (by rw [e]; exact hmin _ ⟨x, hx, hsx, rfl⟩)
  simp; omega
end Go.Pu
