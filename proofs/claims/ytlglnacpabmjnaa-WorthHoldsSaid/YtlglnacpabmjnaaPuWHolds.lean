/- The plain law: of a round game nobody leaves the share. -/
import Derived.Test.YtlglnacpabmjnaaWWorthHoldsModels
import Derived.Test.YtlglnacpabmjnaaPuRound
import Derived.Test.YtlglnacpabmjnaaPuFlat
import Derived.Test.YtlglnacpabmjnaaPuGood
import Derived.Test.YtlglnacpabmjnaaPuWWhole
set_option linter.all false
namespace Go.Pu
open Go.Fw Go.Mo
theorem many_holds {n : Nat} (h1 : 1 ≤ n) (h6 : n ≤ 6) {y : Int} (hy : wadd 1 y = n) : Ok (loopM (γ := Unit) (pk_WorthHolds_b1 y) 1048576 ((1 : Int), (2 : Int))) (FlOk (fun p => p.1 = fct n) (fun _ => False) (fun _ => False)) := by
  refine ok_loopM (fun p : Int × Int => ∃ k : Nat, 1 ≤ k ∧ k ≤ n ∧ p = (fct k, (k : Int) + 1)) (fun p => 10 - p.2.toNat) (fun p hp => ?_) _ _ ⟨1, by omega, h1, rfl⟩ (by simp only; omega)
  obtain ⟨k, k1, k2, rfl⟩ := hp
  unfold pk_WorthHolds_b1
  simp only [hy, ok_ite, ok_some, flok_nx, flok_br, decide_eq_true_eq]
  refine ⟨fun hle => ?_, fun hgt => ?_⟩
  · have fb := fct_le (k + 1) (by omega)
    have e : fct k * ((k : Int) + 1) = fct (k + 1) := by rw [Int.mul_comm]; rfl
    rw [wmul_of (by omega) (by omega), e, wadd_of (by omega) (by omega)]
    exact ⟨⟨k + 1, by omega, by omega, by simp⟩, by omega⟩
  · have : k = n := by omega
    subst this; rfl
theorem fct_24 : ∀ k : Nat, k < 5 → 0 < fct k ∧ fct k ≤ 24 := by decide
theorem inSum_one {n i : Nat} (hn : n < 7) (hi : i < n) : (2 : Nat) ^ i < 2 ^ n := Nat.pow_lt_pow_right (by omega) hi
theorem good000 : pk_good_m [0, 0, 0] = some true := by rw [good_at]; rfl
theorem share_core {n : Nat} (h1 : 1 ≤ n) (h4 : n ≤ 4) {v : Nat → Int} (hc : Cvx n v) (h0 : v 0 = 0) : (∀ s, s < 2 ^ n → v s * fct n ≤ inSum n s (fun i => LC.ev (shareLC n i) v)) ∧ inSum n (2 ^ n - 1) (fun i => LC.ev (shareLC n i) v) = v (2 ^ n - 1) * fct n := by
  have hl := all_len n (by omega) (by omega)
  have he : ∀ s, inSum n s (fun i => LC.ev (shareLC n i) v) = inSum n s (fun i => LC.ev (flatLC (allRows n) i) v) := fun s => inSum_congr fun i hi => (flat_share (by omega) hi v).symm
  refine ⟨fun s hs => ?_, ?_⟩
  · rw [he, Int.mul_comm, ← hl]
    exact flat_ge _ fun p hp => (row_core (by omega) hp hc h0).1 s hs
  · rw [he, Int.mul_comm, ← hl]
    exact flat_eq _ fun p hp => (row_core (by omega) hp hc h0).2
theorem share_bound_small {n i : Nat} (h1 : 1 ≤ n) (h4 : n ≤ 4) (hi : i < n) (v : Nat → Int) (hv : ∀ s, s < 2 ^ n → 0 ≤ v s ∧ v s ≤ 150) : -3600 ≤ LC.ev (shareLC n i) v ∧ LC.ev (shareLC n i) v ≤ 3600 := by
  have hl := all_len n (by omega) (by omega)
  have hf := fct_24 n (by omega)
  rw [← flat_share (by omega) hi, flat_sum]
  have b : ∀ j, j < (allRows n).length → -150 ≤ LC.ev (rowLC (nth (allRows n) j) i) v ∧ LC.ev (rowLC (nth (allRows n) j) i) v ≤ 150 := fun j hj => by
    have g := good_of (by omega) (nth_mem hj)
    have v1 := hv _ (g.lt _ (g.pl i hi))
    have v2 := hv _ (g.lt' _ (g.pl i hi))
    simp only [rowLC, LC.ev]
    omega
  have lo := sumN_le fun j hj => (b j hj).1
  have hi' := sumN_le fun j hj => (b j hj).2
  rw [sumN_const] at lo hi'
  omega
theorem WorthHolds (x0 : Int) (_ : (Lit.int .i64 x0).wf = true) (x1 : List Int) (h1 : (∀ x ∈ x1, (Lit.int .i64 x).wf = true) ∧ x1.length ≤ maxLen) (x2 : List Int) (h2 : (∀ x ∈ x2, (Lit.int .i64 x).wf = true) ∧ x2.length ≤ maxLen) : pk_WorthHolds_m x0 x1 x2 = some true := by
  obtain ⟨n, n1, n4, hn⟩ := one_within x0 4 (by decide) (by decide)
  rw [show ((4 : Nat) : Int) = 4 from rfl] at hn
  have e30 : (if (30 : Int) < ((x1).length : Int) then (30 : Int) else ((x1).length : Int)) = ((min 30 x1.length : Nat) : Int) := by omega
  obtain ⟨g, eg, hg, cg⟩ := roundOf_ok n1 (by omega) (x1.take (min 30 x1.length)) (by rw [List.length_take]; omega)
  have vb := fun s => roundV_bound (x1.take (min 30 x1.length)) n s (x1.take (min 30 x1.length)).length
  have vl : (x1.take (min 30 x1.length)).length ≤ 30 := by rw [List.length_take]; omega
  generalize hv : roundV (x1.take (min 30 x1.length)) n (x1.take (min 30 x1.length)).length = v at *
  obtain ⟨k, w, ek, hk, bk⟩ := gameOf_ok n1 (by omega) x2 h2.2
  obtain ⟨a, ea, ha⟩ := worth_share hg
  have hp := pow_le n (by omega); have hp0 := pow_pos' n
  have hf := fct_24 n (by omega)
  have sc := share_core n1 (by omega) cg hg.zero
  apply Ok.eq
  unfold pk_WorthHolds_m
  rw [worths_t, e30]
  simp only [Option.bind_some, within_at x0 4 (by decide) (by decide), hn, List.drop_zero, Int.toNat_natCast, eg, ea, Bool.not_true, Bool.false_eq_true, if_false, hg.vec.len]
  rw [chk_t (by omega), Option.bind_some, ok_bindR]
  refine (many_holds n1 (by omega) hn).mono fun q hq => ?_
  cases q with
  | br _ => exact hq.elim
  | rt _ => exact hq.elim
  | nx q =>
  simp only [flok_nx] at hq ⊢
  rw [hq, chk_t (by omega), Option.bind_some, ok_bindR]
  refine ok_rangeL (fun s (l : List Int) => Vec (2 ^ n) l (fun t => if t < s then v t * fct n else 0)) (Vec.zero.congr fun x _ => by simp) (fun s y l hs hI => ?_) fun l hl => ?_
  · obtain ⟨hy, hsl⟩ := nth_of hs
    rw [hg.vec.len] at hsl
    rw [hg.vec.at_ s hsl] at hy
    subst hy
    have b := vb s
    have b1 : 0 ≤ v s * fct n := Int.mul_nonneg (by omega) (by omega)
    have b2 : v s * fct n ≤ v s * 24 := Int.mul_le_mul_of_nonneg_left hf.2 (by omega)
    unfold pk_WorthHolds_b2
    simp only [idx_nat, hI.at? hsl, Option.bind_some, ok_some, flok_nx]
    rw [wmul_of (by omega) (by omega)]
    refine (hI.set hsl _).congr fun t ht => ?_
    by_cases hts : t = s
    · subst hts; rw [if_pos rfl, if_pos (by omega)]
    · rw [if_neg hts]
      by_cases c : t < s
      · rw [if_pos c, if_pos (by omega)]
      · rw [if_neg c, if_neg (by omega)]
  rw [hg.vec.len] at hl
  have gl : Game n l (fun t => v t * fct n) := ⟨n1, by omega, hl.congr fun t ht => by rw [if_pos ht], fun s hs => by
    have b := vb s
    have b1 : 0 ≤ v s * fct n := Int.mul_nonneg (by omega) (by omega)
    have b2 : v s * fct n ≤ v s * 24 := Int.mul_le_mul_of_nonneg_left hf.2 (by omega)
    omega, by simp only [hg.zero, Int.zero_mul]⟩
  obtain ⟨b, eb, hb⟩ := holds_ok gl ha fun i hi => by
    have := share_bound_small (n := n) n1 (by omega) hi v fun s hs => by have := vb s; omega
    omega
  obtain ⟨d, ed, hd⟩ := holds_ok hk (Vec.zero (n := n)) fun i hi => by omega
  have bt : b = true := hb.2 ⟨fun s hs => sc.1 s hs, sc.2⟩
  subst bt
  simp only [eb, ek, Option.bind_some, ed]
  rw [chk_t (by omega), Option.bind_some, chk_t (by omega), Option.bind_some, ok_bindR]
  refine ok_rangeN (fun (k : Nat) (x : Bool) => x = true ↔ ∀ j, j < k → w (2 ^ j) ≤ 0) (by simp) (fun j x hj hI => ?_) fun x hI => ?_
  · unfold pk_WorthHolds_b3
    rw [pow_ok j (by omega), idx_nat, hk.vec.at? (inSum_one (by omega) hj)]
    simp only [Option.bind_some, ok_bindF, ok_ite, ok_bind, ok_chk, ok_some, flok_nx]
    refine ⟨fun hx => ⟨by omega, ?_⟩, fun hx => iff_of_false (by simp) fun h => hx (hI.2 fun i hi => h i (by omega))⟩
    rw [decide_eq_true_eq]
    refine ⟨fun hh i hi => ?_, fun h => h j (by omega)⟩
    by_cases e : i = j
    · rw [e]; exact hh
    · exact hI.1 hx i (by omega)
  · have hfull : 2 ^ n - 1 < 2 ^ n := by omega
    rw [good000, Option.bind_some, if_pos rfl, if_pos trivial, hk.vec.len, wsub_of (by omega) (by omega), show ((2 ^ n : Nat) : Int) - 1 = ((2 ^ n - 1 : Nat) : Int) by omega, idx_nat, hk.vec.at? hfull, Option.bind_some]
    cases d with
    | false => exact ⟨true, rfl, rfl⟩
    | true =>
      have hh := hd.1 rfl
      simp only [inSum_zero] at hh
      have xt : x = true := hI.2 fun j hj => hh.1 _ (inSum_one (by omega) hj)
      have e := hh.2
      subst xt
      rw [← e]
      exact ⟨true, rfl, rfl⟩
end Go.Pu
