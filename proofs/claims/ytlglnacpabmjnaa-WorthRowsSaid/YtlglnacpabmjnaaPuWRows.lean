/- The plain law: the share is what each brings, over all rows. -/
import Derived.Test.YtlglnacpabmjnaaWWorthRowsModels
import Derived.Test.YtlglnacpabmjnaaPuFlat
import Derived.Test.YtlglnacpabmjnaaPuGood
import Derived.Test.YtlglnacpabmjnaaPuEq
import Derived.Test.YtlglnacpabmjnaaPuWWhole
set_option linter.all false
namespace Go.Pu
open Go.Fw Go.Mo
theorem rowsWhole : ∀ n : Nat, n < 6 → (allRows n).all (fun p => LC.same (2 ^ n) (LC.all (rowLC p) n) [(1, 2 ^ n - 1), (-1, 0)]) = true := by decide +kernel
theorem row_whole {n : Nat} (hn : n < 6) {p : List Int} (hp : p ∈ allRows n) {v : Nat → Int} (h0 : v 0 = 0) : sumN n (fun i => LC.ev (rowLC p i) v) = v (2 ^ n - 1) := by
  have := LC.same_ev (List.all_eq_true.1 (rowsWhole n hn) p hp) v
  rw [LC.ev_all] at this
  simp only [LC.ev, h0] at this
  omega
theorem row2 : worth_Row_m (2 : Int) ([(0 : Int), (0 : Int), (2 : Int), (6 : Int)] : (List Int)) ([(1 : Int), (0 : Int)] : (List Int)) = some ([4, 2], 0) := by decide +kernel
theorem good00' : pk_good_m [0, 0] = some true := by rw [good_at]; rfl
theorem rowv_bound {n : Nat} (hn : n < 6) {p : List Int} (hp : p ∈ allRows n) {l : List Int} {v : Nat → Int} (h : Game n l v) {i : Nat} (hi : i < n) : -2000000 ≤ LC.ev (rowLC p i) v ∧ LC.ev (rowLC p i) v ≤ 2000000 := by
  have g := good_of hn hp
  have v1 := h.val _ (g.lt _ (g.pl i hi))
  have v2 := h.val _ (g.lt' _ (g.pl i hi))
  simp only [rowLC, LC.ev]
  omega
theorem WorthRows (x0 : Int) (_ : (Lit.int .i64 x0).wf = true) (x1 : List Int) (h1 : (∀ x ∈ x1, (Lit.int .i64 x).wf = true) ∧ x1.length ≤ maxLen) (x2 : List Int) (h2 : (∀ x ∈ x2, (Lit.int .i64 x).wf = true) ∧ x2.length ≤ maxLen) : pk_WorthRows_m x0 x1 x2 = some true := by
  obtain ⟨n, n1, n5, hn⟩ := one_within x0 5 (by decide) (by decide)
  rw [show ((5 : Nat) : Int) = 5 from rfl] at hn
  obtain ⟨g, v, eg, hg, bg⟩ := gameOf_ok n1 (by omega) x1 h1.2
  obtain ⟨a, ea, ha⟩ := worth_share hg
  obtain ⟨⟨rl, re⟩, er, hr⟩ := row_any hg x2
  have hp := pow_le n (by omega); have hp0 := pow_pos' n
  have hl := all_len n (by omega) (by omega)
  have hf := fct_le n (by omega)
  apply Ok.eq
  unfold pk_WorthRows_m
  rw [row2, worths_t]
  simp only [Option.bind_some, within_at x0 5 (by decide) (by decide), hn, eg, ea, er, all_eq n1 (show n ≤ 6 by omega), equal_ok, good00', bne_self_eq_false, Bool.false_eq_true, if_false, decide_true, Bool.not_true, ok_bindR, ok_some, flok_nx]
  rw [chk_t (by omega), Option.bind_some, ok_bindR]
  refine ok_rangeN (fun (k : Nat) (l : List Int) => Vec n l (fun i => sumN k (fun j => LC.ev (rowLC (nth (allRows n) j) i) v))) (by rw [Int.toNat_natCast]; exact Vec.zero.congr fun x _ => rfl) (fun j l hj hI => ?_) fun l hI => ?_
  · have hpm := nth_mem hj
    obtain ⟨b, eb, hb⟩ := row_ok hg (by omega) hpm
    have bb : ∀ i, i < n → -2000000 ≤ LC.ev (rowLC (nth (allRows n) j) i) v ∧ LC.ev (rowLC (nth (allRows n) j) i) v ≤ 2000000 := fun i hi => rowv_bound (by omega) hpm hg hi
    have sb : ∀ i, i < n → ∀ k : Nat, k ≤ (allRows n).length → -2000000 * (k : Int) ≤ sumN k (fun j => LC.ev (rowLC (nth (allRows n) j) i) v) ∧ sumN k (fun j => LC.ev (rowLC (nth (allRows n) j) i) v) ≤ 2000000 * k := fun i hi k => by
      induction k with
      | zero => intro _; simp [sumN]
      | succ k ih =>
        intro hk
        have := ih (by omega)
        have := rowv_bound (n := n) (by omega) (nth_mem (show k < (allRows n).length by omega)) hg hi
        simp only [sumN]; omega
    have hs : pk_sum_m b = some (v (2 ^ n - 1)) := by
      rw [ssum_ok (fun i hi => by rw [hb.len] at hi; rw [hb.at_ i hi]; have := bb i hi; omega) (by rw [hb.len]; omega), vsum hb, row_whole (by omega) hpm hg.zero]
    unfold pk_WorthRows_b1
    simp only [idx_nat, nth_at hj, Option.bind_some, hn, eb, hs, hb.len, hg.vec.len]
    rw [wsub_of (by omega) (by omega), show ((2 ^ n : Nat) : Int) - 1 = ((2 ^ n - 1 : Nat) : Int) by omega, idx_nat, hg.vec.at? (by omega)]
    simp only [Option.bind_some, bne_self_eq_false, Bool.false_eq_true, if_false, ok_bindF, ok_some, flok_nx]
    refine ok_rangeN (fun (k : Nat) (l : List Int) => Vec n l (fun i => sumN j (fun j => LC.ev (rowLC (nth (allRows n) j) i) v) + if i < k then LC.ev (rowLC (nth (allRows n) j) i) v else 0)) (hI.congr fun i _ => by simp) (fun i l hi hJ => ?_) fun l hJ => ?_
    rotate_left
    · exact hJ.congr fun i hi => by rw [if_pos hi]; rfl
    have s1 := sb i hi j (by omega)
    have s2 := bb i hi
    have li : l[i]? = some (sumN j (fun j => LC.ev (rowLC (nth (allRows n) j) i) v)) := by rw [hJ.at? hi, if_neg (by omega), Int.add_zero]
    unfold pk_WorthRows_b2
    simp only [idx_nat, li, hb.at? hi, Option.bind_some, ok_some, flok_nx]
    rw [wadd_of (by omega) (by omega)]
    refine (hJ.set hi _).congr fun q hq => ?_
    by_cases hqi : q = i
    · subst hqi; rw [if_pos rfl, if_pos (by omega)]
    · rw [if_neg hqi]
      by_cases hlt : q < i
      · rw [if_pos hlt, if_pos (by omega)]
      · rw [if_neg hlt, if_neg (by omega)]
  · have e : l = a := Vec.ext hI (ha.congr fun i hi => by rw [← flat_share (by omega) hi, flat_sum])
    subst e
    simp only at hr
    rcases hr with h | ⟨h, h'⟩
    · rw [h]; simp [ok_bindR, ok_some, flok_nx, ok_bind, ok_ite]
    · rw [h, h']; simp [ok_bindR, ok_some, flok_nx, ok_bind, ok_ite]
end Go.Pu
