/- The plain law: in the solved tree nobody does better by moving otherwise alone. -/
import Derived.Test.YtfekdillbgblkaaWTreesOwnModels
import Derived.Test.YtfekdillbgblkaaPuTree
import Derived.Test.YtfekdillbgblkaaPuAuction
set_option linter.all false
namespace Go.Pu
open Go.Fw Go.Mo
theorem trees_t : pk_trees_m = some true := by decide +kernel
theorem solve_bad {n : Int} {x1 : List Nd} {c : Int} (e : tree_Check_m n x1 = some c) (h : c ≠ 0) : tree_Solve_m n x1 = some ([], [], c) := by
  unfold tree_Solve_m; rw [e, Option.bind_some, if_pos (by simpa using h)]
theorem TreeKuhn (x0 : Int) (_ : (Lit.int .i64 x0).wf = true) (x1 : List Nd) {P : Prop} (_ : P) (x2 : Int) (_ : (Lit.int .i64 x2).wf = true) (x3 : List Int) (h3 : (∀ x ∈ x3, (Lit.int .i64 x).wf = true) ∧ x3.length ≤ maxLen) : pk_TreeKuhn_m x0 x1 x2 x3 = some true := by
  obtain ⟨c, ec, hc⟩ := tchk x0 x1
  unfold pk_TreeKuhn_m
  rw [trees_t, Option.bind_some, if_neg (by decide)]
  by_cases c0 : c = 0
  · subst c0
    have t : Tree x0 x1 := by
      rcases hc with h | h
      · exact (h rfl).elim
      · exact h
    obtain ⟨ch, vals, es, hs⟩ := solve_ok t ec
    obtain ⟨path, v, ep, hv⟩ := play_ok t ec hs.plan
    have hm := t.m1; have hm30 := t.m30; have n1 := t.n1; have n6 := t.n6
    have hv0 : v = nth vals 0 := End.uniq hv (hs.end t _ 0 (by omega) (Nat.le_refl _))
    have lv := End.len t hs.plan hv (by omega)
    subst hv0
    rw [es, Option.bind_some]
    simp only [bne_self_eq_false, Bool.false_eq_true, if_false, hs.l1, hs.l2]
    apply Ok.eq
    rw [ok_bindR, ok_some, flok_nx, if_neg (by decide), ep, Option.bind_some]
    simp only [bne_self_eq_false, Bool.false_eq_true, if_false]
    rw [show (0 : Int) = ((0 : Nat) : Int) from rfl, idx_nat, nth_at (show 0 < vals.length by rw [hs.l2]; omega), Option.bind_some, equal_ok, Option.bind_some, ok_bindR, ok_some, flok_nx, if_neg (by simp)]
    obtain ⟨p, hp⟩ : ∃ p : Nat, x2 % x0 = (p : Int) := ⟨(x2 % x0).toNat, by have := Int.emod_nonneg x2 (b := x0) (by omega); omega⟩
    have hpl : (p : Int) < x0 := by rw [← hp]; exact Int.emod_lt_of_pos x2 (by omega)
    rw [within_at x2 _ (by omega) (by omega), hp, Option.bind_some, clone_int (by rw [hs.l1]; omega), Option.bind_some, ok_bindR]
    refine ok_rangeL (fun k (l : List Int) => l.length = x1.length ∧ ∀ i, i < x1.length → 0 ≤ (nth x1 i).1 → (0 ≤ nth l i ∧ nth l i < (nth x1 i).2.1.length) ∧ ((nth x1 i).1 ≠ p → nth l i = nth ch i)) ⟨hs.l1, fun i hi hq => ⟨hs.plan.2 i hi hq, fun _ => rfl⟩⟩ (fun k y l hk hI => ?_) fun l hl => ?_
    · obtain ⟨hy, hkl⟩ := nth_of hk
      unfold pk_TreeKuhn_b1
      rw [ok_bindF]
      by_cases hyp : y.1 = p
      · rw [if_pos (by simpa using hyp), ok_some, flok_nx]
        by_cases hlt : (k : Int) < (x3.length : Int)
        · have hkids : 1 ≤ (nth x1 k).2.1.length ∧ (nth x1 k).2.1.length ≤ 6 := by
            rcases t.node k hkl with hn | hn
            · rw [hy] at hn; omega
            · exact ⟨hn.2.2.1, hn.2.2.2.1⟩
          rw [hy] at hkids
          have a0 := Int.emod_nonneg (nth x3 k) (b := (y.2.1.length : Int)) (by omega)
          have a1 := Int.emod_lt_of_pos (nth x3 k) (b := (y.2.1.length : Int)) (by omega)
          rw [if_pos (by simpa using hlt), idx_nat, nth_at (by omega), Option.bind_some, within_at _ _ (by omega) (by omega), Option.bind_some, idx_nat, nth_at (by rw [hI.1]; exact hkl), Option.bind_some, ok_some, flok_nx]
          refine ⟨by simpa using hI.1, fun i hi hq => ?_⟩
          rw [nth_set (by rw [hI.1]; exact hkl)]
          by_cases e : i = k
          · subst e
            rw [if_pos rfl, hy]
            exact ⟨⟨a0, a1⟩, fun hne => (hne hyp).elim⟩
          · rw [if_neg e]; exact hI.2 i hi hq
        · rw [if_neg (by simpa using hlt), ok_some, flok_nx]; exact hI
      · rw [if_neg (by simpa using hyp), ok_some, flok_nx, if_neg (by decide), ok_some, flok_nx]; exact hI
    · have hpn : Plan x1 l := ⟨hl.1, fun i hi hq => (hl.2 i hi hq).1⟩
      obtain ⟨path', w, ep', hw⟩ := play_ok t ec hpn
      have lw := End.len t hpn hw (by omega)
      have hk := kuhn (p := p) t hs hpn (fun i hi hq hne => (hl.2 i hi hq).2 hne) hw (by omega)
      rw [ep', Option.bind_some]
      simp only [Int.natCast_zero, beq_self_eq_true, if_true, lw, lv]
      rw [idx_nat, nth_at (by omega), Option.bind_some, idx_nat, nth_at (by omega), Option.bind_some, ok_bindR, ok_some, flok_nx, ok_some]
      simpa using hk
  · rw [solve_bad ec c0, Option.bind_some]
    have : (c != 0) = true := by simpa using c0
    simp [this, bindR]
    rfl
end Go.Pu
