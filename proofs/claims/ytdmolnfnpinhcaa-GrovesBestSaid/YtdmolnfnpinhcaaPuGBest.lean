/- The plain law: no good goes to two, and no other way to share is worth more. -/
import Derived.Test.YtdmolnfnpinhcaaWGrovesBestModels
import Derived.Test.YtdmolnfnpinhcaaPuGrovL
set_option linter.all false
namespace Go.Pu
open Go.Fw Go.Mo
theorem GrovesBest (x0 : Int) (_ : (Lit.int .i64 x0).wf = true) (x1 : Int) (_ : (Lit.int .i64 x1).wf = true) (x2 : List Int) (_ : (∀ x ∈ x2, (Lit.int .i64 x).wf = true) ∧ x2.length ≤ maxLen) (x3 : List Int) (_ : (∀ x ∈ x3, (Lit.int .i64 x).wf = true) ∧ x3.length ≤ maxLen) : pk_GrovesBest_m x0 x1 x2 x3 = some true := by
  obtain ⟨n, n1, n4, hn⟩ := one_within x0 4 (by decide) (by decide)
  obtain ⟨k, k1, k4, hk⟩ := one_within x1 4 (by decide) (by decide)
  rw [show ((4 : Nat) : Int) = 4 from rfl] at hn hk
  obtain ⟨w, ew, hw⟩ := goodsOf_ok (n := n) (k := k) n4 k4 x2
  obtain ⟨g, v, p, es, ep, s⟩ := groves_ok hw
  apply Ok.eq
  unfold pk_GrovesBest_m
  rw [vickreys_t, Option.bind_some, if_neg (by decide), within_at x0 4 (by decide) (by decide), Option.bind_some, within_at x1 4 (by decide) (by decide), Option.bind_some, hn, hk, ew, Option.bind_some, es, Option.bind_some]
  have hgl := s.opt.fits.len
  have hwl := hw.1
  have hv0 := hw.val0
  have hvb := hv0 g
  rw [s.opt.val] at hvb
  dsimp only
  rw [if_neg (by decide), ok_bindR, ok_some, flok_nx, if_neg (by rw [bne_iff_ne]; omega), ok_bindR]
  have vd : ∀ (i : Nat) (l : List Int), 0 ≤ val (w.drop i) l ∧ val (w.drop i) l ≤ 4000000 := fun i l => by
    have := val_bound (rs := w.drop i) (l := l) fun r hr => (hw.2.2.2 r (List.mem_of_mem_drop hr)).2
    rw [List.length_drop] at this
    omega
  have dn : ∀ {i : Nat}, i < w.length → w.drop i = nth w i :: w.drop (i + 1) := fun h => drop_nth h
  have dg : ∀ {i : Nat}, i < g.length → g.drop i = nth g i :: g.drop (i + 1) := fun h => by rw [List.drop_eq_getElem_cons h, nth_get h]
  have le4 : ∀ i, ∀ r ∈ w.drop i, r.length ≤ 4 := fun i r hr => hw.le r (List.mem_of_mem_drop hr)
  refine ok_rangeN (fun (i : Nat) (t : Int × Int) => ∃ m : Nat, m < 16 ∧ t.2 = (m : Int) ∧ Fits (w.drop i) (has m) (g.drop i) ∧ t.1 + val (w.drop i) (g.drop i) = v ∧ 0 ≤ t.1)
    ⟨0, by decide, rfl, s.opt.fits, by have := s.opt.val; simpa using this, Int.le_refl _⟩ (fun i t hi hI => ?_) fun t ht => ?_
  · obtain ⟨a, b⟩ := t
    obtain ⟨m, hm, rfl, hF, hV, ha⟩ := hI
    dsimp only at hV ha
    have hiw : i < w.length := by omega
    rw [dn hiw, dg (by omega)] at hF hV
    have hrow := hw.row (i := i) (by omega)
    have hvd := vd (i + 1) (g.drop (i + 1))
    obtain ⟨c, l', e, hc⟩ := hF
    cases e
    unfold pk_GrovesBest_b1
    dsimp only
    rw [hk, idx_nat, nth_at (show i < g.length by omega), Option.bind_some]
    rcases hc with ⟨hx, hF⟩ | ⟨j, hj, hT, hx, hF⟩
    · have hV' : own (nth w i) (nth g i) + val (w.drop (i + 1)) (g.drop (i + 1)) = val (nth w i :: w.drop (i + 1)) (nth g i :: g.drop (i + 1)) := rfl
      rw [hx, own_none] at hV'
      rw [hx] at hV
      rw [hx, if_neg (by decide), if_neg (by rw [decide_eq_true_eq]; omega), if_neg (by decide), ok_bindF, ok_some, flok_nx, if_neg (by decide), if_neg (by decide), ok_some, flok_nx]
      exact ⟨m, hm, rfl, hF, by dsimp only; omega, ha⟩
    · have hV' : own (nth w i) (nth g i) + val (w.drop (i + 1)) (g.drop (i + 1)) = val (nth w i :: w.drop (i + 1)) (nth g i :: g.drop (i + 1)) := rfl
      have ho : own (nth w i) (j : Int) = nth (nth w i) j := by unfold own; rw [if_neg (by omega), Int.toNat_natCast]
      have hob := hw.own0 (i := i) (by omega) (j : Int)
      rw [ho] at hob
      rw [hx, ho] at hV'
      rw [hx] at hV
      rw [hx, if_neg (by rw [decide_eq_true_eq]; omega), if_neg (by rw [decide_eq_true_eq]; omega), if_pos (by rw [decide_eq_true_eq]; omega), chk_t (by omega), Option.bind_some, bit_ok m (by omega) j (by omega), hT, if_neg (by decide), ok_bindF, ok_some, flok_nx, if_neg (by decide), if_pos (by rw [decide_eq_true_eq]; omega), Option.bind_some, or_ok m (by omega) j (by omega) hT]
      rw [idx_nat, nth_at hiw, Option.bind_some, idx_nat, nth_at hj, Option.bind_some, ok_some, flok_nx, wadd_of (by omega) (by omega)]
      refine ⟨m + 2 ^ j, with_lt 4 (by decide) m hm j (by omega) hT, rfl, hF.sub (le4 _) fun q hq hT' => ?_, by dsimp only; omega, by dsimp only; omega⟩
      have := with_has m (by omega) j (by omega) hT q (by omega)
      rw [this] at hT'; exact hT'
  · obtain ⟨a, b⟩ := t
    obtain ⟨m, hm, rfl, hF, hV, ha⟩ := ht
    dsimp only at hV ha ⊢
    rw [List.drop_of_length_le (by omega)] at hV
    have ea : a = v := by simpa [val] using hV
    subst ea
    rw [chk_t (by omega), Option.bind_some, ok_bindR, Int.toNat_natCast]
    refine ok_rangeN (fun (i : Nat) (t : Int × Int) => ∃ m : Nat, m < 16 ∧ t.2 = (m : Int) ∧ 0 ≤ t.1 ∧ ∀ l, Fits (w.drop i) (has m) l → t.1 + val (w.drop i) l ≤ a)
      ⟨0, by decide, rfl, Int.le_refl _, fun l hl => by have := s.opt.most l hl; simpa using this⟩ (fun i t hi hI => ?_) fun t ht => ?_
    · obtain ⟨x, y⟩ := t
      obtain ⟨m, hm, rfl, hx0, hA⟩ := hI
      dsimp only at hx0 hA
      have hiw : i < w.length := by omega
      rw [dn hiw] at hA
      have hrow := hw.row (i := i) (by omega)
      -- some assignment fits always: nothing more
      have hnil : ∀ (rs : List (List Int)) (T : Nat → Bool), Fits rs T (List.replicate rs.length (-1)) := by
        intro rs
        induction rs with
        | nil => intro T; exact rfl
        | cons r rs ih => intro T; exact ⟨-1, _, rfl, .inl ⟨rfl, ih T⟩⟩
      have hxa : x ≤ a := by
        have h1 := hA _ ⟨-1, _, rfl, .inl ⟨rfl, hnil _ _⟩⟩
        have h2 : val (nth w i :: w.drop (i + 1)) (-1 :: List.replicate (w.drop (i + 1)).length (-1)) = own (nth w i) (-1) + val (w.drop (i + 1)) (List.replicate (w.drop (i + 1)).length (-1)) := rfl
        rw [own_none] at h2
        have := vd (i + 1) (List.replicate (w.drop (i + 1)).length (-1))
        omega
      have skip : ∀ l, Fits (w.drop (i + 1)) (has m) l → x + val (w.drop (i + 1)) l ≤ a := fun l hl => by
        have h1 := hA _ ⟨-1, _, rfl, .inl ⟨rfl, hl⟩⟩
        have h2 : val (nth w i :: w.drop (i + 1)) (-1 :: l) = own (nth w i) (-1) + val (w.drop (i + 1)) l := rfl
        rw [own_none] at h2
        omega
      unfold pk_GrovesBest_b2
      dsimp only
      rw [ok_bindF]
      have fin : ∀ z : Int, -1 ≤ z → z < (k : Int) → Ok (bindF (ρ := Bool) (β := Int × Int) (σ := Bool) (if decide (z ≥ (0 : Int)) then (chk (0 ≤ z)).bind fun _ => some (.nx ((bits .and .i64 (Int.fdiv (m : Int) (2 ^ (min z.toNat (IntKind.bits .i64)))) (1 : Int)) == (0 : Int))) else some (.nx false)) fun q => (if q then (chk (0 ≤ z)).bind fun _ => (idx w (i : Int)).bind fun y => (idx y z).bind fun u => some (.nx (wadd x u, bits .or .i64 (m : Int) (IntKind.wrap .i64 ((1 : Int) * 2 ^ (min z.toNat (IntKind.bits .i64)))))) else some (.nx (x, (m : Int))))) (FlOk (fun (t : Int × Int) => ∃ m : Nat, m < 16 ∧ t.2 = (m : Int) ∧ 0 ≤ t.1 ∧ ∀ l, Fits (w.drop (i + 1)) (has m) l → t.1 + val (w.drop (i + 1)) l ≤ a) (fun _ => False) (fun _ => False)) := fun z h0 h1 => by
        rw [ok_bindF]
        by_cases hz : z = -1
        · rw [hz, if_neg (by decide), ok_some, flok_nx, if_neg (by decide), ok_some, flok_nx]
          exact ⟨m, hm, rfl, hx0, skip⟩
        · obtain ⟨j, rfl⟩ : ∃ j : Nat, z = (j : Int) := ⟨z.toNat, by omega⟩
          have hj : j < (nth w i).length := by omega
          rw [if_pos (by rw [decide_eq_true_eq]; omega), chk_t (by omega), Option.bind_some, ok_some, flok_nx, bit_ok m (by omega) j (by omega)]
          cases hT : has m j with
          | true =>
            simp only [if_true, show ((1 : Int) == 0) = false from rfl, Bool.false_eq_true, if_false]
            rw [ok_some, flok_nx]
            exact ⟨m, hm, rfl, hx0, skip⟩
          | false =>
            simp only [Bool.false_eq_true, if_false, show ((0 : Int) == 0) = true from rfl, if_true]
            rw [Option.bind_some, idx_nat, nth_at hiw, Option.bind_some, idx_nat, nth_at hj, Option.bind_some, ok_some, flok_nx, or_ok m (by omega) j (by omega) hT]
            have ho : own (nth w i) (j : Int) = nth (nth w i) j := by unfold own; rw [if_neg (by omega), Int.toNat_natCast]
            have hob := hw.own0 (i := i) (by omega) (j : Int)
            rw [ho] at hob
            have hab : a ≤ 4000000 := by rw [← s.opt.val]; exact (hv0 g).2
            rw [wadd_of (by omega) (by omega)]
            refine ⟨m + 2 ^ j, with_lt 4 (by decide) m hm j (by omega) hT, rfl, by dsimp only; omega, fun l hl => ?_⟩
            have h1 := hA ((j : Int) :: l) ⟨(j : Int), l, rfl, .inr ⟨j, hj, hT, rfl, hl.sub (le4 _) fun q hq hT' => by rw [with_has m (by omega) j (by omega) hT q (by omega)]; exact hT'⟩⟩
            have h2 : val (nth w i :: w.drop (i + 1)) ((j : Int) :: l) = own (nth w i) (j : Int) + val (w.drop (i + 1)) l := rfl
            rw [ho] at h2
            dsimp only
            omega
      by_cases hlt : (i : Int) < (x3.length : Int)
      · rw [if_pos (by rw [decide_eq_true_eq]; exact hlt), idx_nat, nth_at (by omega), Option.bind_some, hk, wadd_of (by omega) (by omega), within_at _ _ (by omega) (by omega), Option.bind_some, ok_some, flok_nx]
        have a0 := Int.emod_nonneg (nth x3 i) (b := (k : Int) + 1) (by omega)
        have a1 := Int.emod_lt_of_pos (nth x3 i) (b := (k : Int) + 1) (by omega)
        rw [wsub_of (by omega) (by omega)]
        exact (fin _ (by omega) (by omega)).mono fun z hz => by
          cases z with
          | nx s => exact hz
          | br b => exact hz.elim
          | rt b => exact hz.elim
      · rw [if_neg (by rw [decide_eq_true_eq]; exact hlt), ok_some, flok_nx]
        exact (fin _ (by decide) (by omega)).mono fun z hz => by
          cases z with
          | nx s => exact hz
          | br b => exact hz.elim
          | rt b => exact hz.elim
    · obtain ⟨x, y⟩ := t
      obtain ⟨m', hm', _, hx0, hA⟩ := ht
      have h1 := hA [] (by rw [List.drop_of_length_le (by omega)]; exact rfl)
      rw [List.drop_of_length_le (by omega)] at h1
      dsimp only at h1 ⊢
      have : val ([] : List (List Int)) [] = 0 := rfl
      rw [ok_bindR, if_pos (by simp), ok_some, flok_nx, ok_some, decide_eq_true_eq]
      omega
end Go.Pu
