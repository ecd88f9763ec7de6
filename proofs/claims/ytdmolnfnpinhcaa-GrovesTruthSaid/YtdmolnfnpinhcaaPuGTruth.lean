/- The plain law: nobody has more of it by telling other worths than his own. -/
import Derived.Test.YtdmolnfnpinhcaaWGrovesTruthModels
import Derived.Test.YtdmolnfnpinhcaaPuGrovL
import Derived.Test.YtdmolnfnpinhcaaPuFl
set_option linter.all false
namespace Go.Pu
open Go.Fw Go.Mo
/-- what bidder i has of it, by the worths w, where t is told -/
theorem gain_ok {n k : Nat} {w t : List (List Int)} {g p : List Int} {v : Int} (hw : Goods n k w) (ht : Goods n k t) (es : groves_Share_m t = some (g, v, 0)) (ep : groves_Pays_m t = some (p, 0)) (s : Groves t n g v p) {i : Nat} (hi : i < n) :
    pk_GrovesTruth_1_m t (n : Int) (i : Int) (k : Int) w = some (own (nth w i) (nth g i) - nth p i, true) := by
  apply Ok.eq
  have hgl := s.opt.fits.len
  have hpl := s.len
  have htl := ht.1; have hwl := hw.1
  have hf := s.fair ht hi
  have hpo := ht.own0 hi (nth g i)
  have hrow := ht.row hi
  have hrw := hw.row hi
  have hob := hw.own0 hi (nth g i)
  unfold pk_GrovesTruth_1_m
  rw [es, Option.bind_some, ep, Option.bind_some, good_at, Option.bind_some]
  dsimp only
  have gi : g[i]? = some (nth g i) := nth_at (by omega)
  have pi : p[i]? = some (nth p i) := nth_at (by omega)
  have wi : w[i]? = some (nth w i) := nth_at (by omega)
  simp only [idx_nat, gi, pi, wi, Option.bind_some]
  rw [if_neg (by decide), if_neg (by rw [bne_iff_ne]; omega), if_neg (by rw [bne_iff_ne]; omega)]
  rcases s.opt.fits.at (show i < t.length by omega) with hx | ⟨j, hj, hx⟩
  · rw [hx] at hob ⊢
    rw [if_neg (by decide), ok_bindR, ok_some, flok_nx, if_neg (by rw [decide_eq_true_eq]; omega), if_pos (by decide), ok_some, own_none, wsub_of (by omega) (by omega)]
  · have hjw : j < (nth w i).length := by omega
    have e : own (nth w i) (j : Int) = nth (nth w i) j := by unfold own; rw [if_neg (by omega), Int.toNat_natCast]
    rw [hx] at hob ⊢
    rw [e] at hob
    rw [if_neg (by rw [decide_eq_true_eq]; omega), ok_bindR, ok_some, flok_nx, if_neg (by rw [decide_eq_true_eq]; omega), if_neg (by rw [decide_eq_true_eq]; omega), idx_nat, nth_at hjw, Option.bind_some, ok_some, e, wsub_of (by omega) (by omega)]
theorem GrovesTruth (x0 : Int) (_ : (Lit.int .i64 x0).wf = true) (x1 : Int) (_ : (Lit.int .i64 x1).wf = true) (x2 : List Int) (_ : (∀ x ∈ x2, (Lit.int .i64 x).wf = true) ∧ x2.length ≤ maxLen) (x3 : Int) (_ : (Lit.int .i64 x3).wf = true) (x4 : List Int) (_ : (∀ x ∈ x4, (Lit.int .i64 x).wf = true) ∧ x4.length ≤ maxLen) : pk_GrovesTruth_m x0 x1 x2 x3 x4 = some true := by
  obtain ⟨n, n1, n4, hn⟩ := one_within x0 4 (by decide) (by decide)
  obtain ⟨k, k1, k4, hk⟩ := one_within x1 4 (by decide) (by decide)
  rw [show ((4 : Nat) : Int) = 4 from rfl] at hn hk
  obtain ⟨w, ew, hw⟩ := goodsOf_ok (n := n) (k := k) n4 k4 x2
  obtain ⟨u, eu, hu⟩ := goodsOf_ok (n := 1) (k := k) (by decide) k4 x4
  rw [show ((1 : Nat) : Int) = 1 from rfl] at eu
  have hwl := hw.1
  have d0 := Int.emod_nonneg x3 (b := (n : Int)) (by omega)
  have d1 := Int.emod_lt_of_pos x3 (b := (n : Int)) (by omega)
  obtain ⟨i, ei⟩ : ∃ i : Nat, x3 % (n : Int) = (i : Int) := ⟨(x3 % (n : Int)).toNat, by omega⟩
  rw [ei] at d1
  have hi : i < n := by omega
  have hiw : i < w.length := by omega
  have ht : Goods n k (w.set i (nth u 0)) := by
    refine ⟨by rw [List.length_set]; exact hwl, n4, k4, fun r hr => ?_⟩
    rcases List.mem_or_eq_of_mem_set hr with h | h
    · exact hw.2.2.2 r h
    · subst h; exact hu.2.2.2 _ (nth_mem (by rw [hu.1]; decide))
  obtain ⟨g, v, p, es, ep, s⟩ := groves_ok hw
  obtain ⟨g', v', p', es', ep', s'⟩ := groves_ok ht
  have cl : slices_Clone_rows_m w = some w := by unfold slices_Clone_rows_m; rw [chk_t (by omega)]; rfl
  apply Ok.eq
  unfold pk_GrovesTruth_m
  have u0 : idx u 0 = some (nth u 0) := by rw [show (0 : Int) = ((0 : Nat) : Int) from rfl, idx_nat, nth_at (by rw [hu.1]; decide)]
  rw [vickreys_t, Option.bind_some, if_neg (by decide), within_at x0 4 (by decide) (by decide), Option.bind_some, within_at x1 4 (by decide) (by decide), Option.bind_some, hn, hk, ew, Option.bind_some, within_at x3 _ (by omega) (by omega), Option.bind_some, ei, cl, Option.bind_some, eu, Option.bind_some, u0, Option.bind_some, idx_nat, nth_at hiw, Option.bind_some, Int.toNat_natCast,
    gain_ok hw hw es ep s hi, Option.bind_some, gain_ok hw ht es' ep' s' hi, Option.bind_some]
  -- what the others have without him does not hang on what he tells
  obtain ⟨l, o, ho, e⟩ := s.pay i hi
  obtain ⟨l', o', ho', e'⟩ := s'.pay i hi
  rw [show (w.set i (nth u 0)).set i [] = w.set i [] by rw [List.set_set]] at ho'
  have eo := ho.same ho'
  have fg' : Fits w (has 0) g' := s'.opt.fits.wide (by simp) fun j hj => by
    rw [List.length_set] at hj
    rw [nth_set hiw]
    split
    · rename_i hji; subst hji; rw [hu.row (by decide), hw.row hi]; exact Nat.le_refl _
    · exact Nat.le_refl _
  have m1 := s.opt.most g' fg'
  have m2 := val_row (w := w) (g := g') (i := i) (nth u 0) hiw fg'.len
  rw [s'.opt.val] at m2
  have f1 := s.fair hw hi
  have ti : nth (w.set i (nth u 0)) i = nth u 0 := by rw [nth_set hiw, if_pos rfl]
  rw [ti] at e'
  dsimp only
  rw [if_pos rfl, if_pos rfl, if_pos (by rw [decide_eq_true_eq]; omega), ok_bindR, ok_some, flok_nx, ok_some, decide_eq_true_eq]
  omega
end Go.Pu
