/- Widest ways. -/
import Derived.Test.YtfhfoechannphaaWPeakBlackModels
import Derived.Test.YtfhfoechannphaaPuTab
import Derived.Test.YtfhfoechannphaaPuList
set_option linter.all false
namespace Go.Pu
open Go.Fw Go.Mo
theorem mm_eq (a b c : Int) : (if (if b < a then b else a) > c then (if b < a then b else a) else c) = max c (min a b) := by
  simp only [Int.max_def, Int.min_def]
  repeat' split
  all_goals omega
/-- how wide the widest way by sides below k is -/
def wide (d : Nat → Nat → Int) : Nat → Nat → Nat → Int
  | 0, x, y => if d y x < d x y then d x y else 0
  | k + 1, x, y => if x ≠ y ∧ x ≠ k ∧ y ≠ k then max (wide d k x y) (min (wide d k x k) (wide d k k y)) else wide d k x y
theorem wide_toK {d : Nat → Nat → Int} {k x : Nat} : wide d (k + 1) x k = wide d k x k := by rw [wide, if_neg (by omega)]
theorem wide_ofK {d : Nat → Nat → Int} {k y : Nat} : wide d (k + 1) k y = wide d k k y := by rw [wide, if_neg (by omega)]
theorem wide_up {d : Nat → Nat → Int} {k x y : Nat} : wide d k x y ≤ wide d (k + 1) x y := by rw [wide]; split <;> omega
theorem wide_mono {d : Nat → Nat → Int} {k q x y : Nat} (hq : k ≤ q) : wide d k x y ≤ wide d q x y := by
  induction q with
  | zero => have : k = 0 := by omega
            subst this; exact Int.le_refl _
  | succ q ih =>
    by_cases he : k = q + 1
    · subst he; exact Int.le_refl _
    · exact Int.le_trans (ih (by omega)) wide_up
theorem wide_third {d : Nat → Nat → Int} : ∀ (k : Nat) {x y z : Nat}, z < k → x ≠ y → x ≠ z → z ≠ y → min (wide d k x z) (wide d k z y) ≤ wide d k x y
  | 0, _, _, _, h, _, _, _ => by omega
  | k + 1, x, y, z, hz, h1, h2, h3 => by
    by_cases hzk : z = k
    · subst hzk
      rw [wide_toK, wide_ofK, wide, if_pos ⟨h1, h2, by omega⟩]; omega
    · have hz' : z < k := by omega
      have a := wide_third (d := d) k (x := x) (y := y) hz' h1 h2 h3
      have b := wide_up (d := d) (k := k) (x := x) (y := y)
      have e1 : wide d (k + 1) x z = if x ≠ k then max (wide d k x z) (min (wide d k x k) (wide d k k z)) else wide d k x z := by
        rw [wide]; by_cases hx : x = k
        · rw [if_neg (by omega), if_neg (by omega)]
        · rw [if_pos ⟨h2, hx, hzk⟩, if_pos hx]
      have e2 : wide d (k + 1) z y = if y ≠ k then max (wide d k z y) (min (wide d k z k) (wide d k k y)) else wide d k z y := by
        rw [wide]; by_cases hy : y = k
        · rw [if_neg (by omega), if_neg (by omega)]
        · rw [if_pos ⟨h3, hzk, hy⟩, if_pos hy]
      have e3 : wide d (k + 1) x y = if x ≠ k ∧ y ≠ k then max (wide d k x y) (min (wide d k x k) (wide d k k y)) else wide d k x y := by
        rw [wide]; by_cases hx : x ≠ k ∧ y ≠ k
        · rw [if_pos ⟨h1, hx⟩, if_pos hx]
        · rw [if_neg (by omega), if_neg hx]
      by_cases hxk : x = k
      · subst hxk
        rw [if_neg (by omega)] at e1 e3
        rw [e1, e2, e3]
        by_cases hyk : y = x
        · omega
        · rw [if_pos hyk]; omega
      · by_cases hyk : y = k
        · subst hyk
          rw [if_neg (by omega)] at e2 e3
          rw [e1, e2, e3, if_pos hxk]
          omega
        · have c := wide_third (d := d) k (x := x) (y := k) hz' hxk h2 hzk
          have g := wide_third (d := d) k (x := k) (y := y) hz' (by omega) (by omega) h3
          rw [e1, e2, e3, if_pos hxk, if_pos hyk, if_pos ⟨hxk, hyk⟩]
          omega
theorem wide_nn {d : Nat → Nat → Int} {n : Nat} (h : ∀ x y, x < n → y < n → 0 ≤ d x y ∧ d x y ≤ 30) : ∀ (k : Nat), k ≤ n → ∀ {x y : Nat}, x < n → y < n → 0 ≤ wide d k x y ∧ wide d k x y ≤ 30
  | 0, _, x, y, hx, hy => by have := h x y hx hy; rw [wide]; split <;> omega
  | k + 1, hk, x, y, hx, hy => by
    have a := wide_nn h k (by omega) hx hy
    have b := wide_nn h k (by omega) hx (show k < n by omega)
    have c := wide_nn h k (by omega) (show k < n by omega) hy
    rw [wide]; split <;> omega
theorem wide_self {d : Nat → Nat → Int} (x : Nat) : ∀ k, wide d k x x = 0
  | 0 => by rw [wide, if_neg (by omega)]
  | k + 1 => by rw [wide, if_neg (by omega)]; exact wide_self x k
theorem wide_duel {d : Nat → Nat → Int} {k x y : Nat} (h : d y x < d x y) : d x y ≤ wide d k x y := by
  have := wide_mono (d := d) (x := x) (y := y) (Nat.zero_le k)
  rw [wide, if_pos h] at this; exact this
theorem paths_ok {n : Nat} {m : List (List Int)} {d : Nat → Nat → Int} (h : Tab n m d) : ∃ p, widest_Paths_m m = some (p, 0) ∧ Mat n n p (wide d n) := by
  have : Ok (widest_Paths_m m) (fun r => r.2 = 0 ∧ Mat n n r.1 (wide d n)) := by
    have hM := h.mat; have hn := hM.len; have hn6 := h.n6
    unfold widest_Paths_m
    rw [tab_ok h]
    simp only [ok_bind, ok_ite, ok_chk, ok_bindR, ok_some, hn, Int.toNat_natCast, List.length_replicate, bne_self_eq_false, Bool.false_eq_true, false_implies, true_and, not_false_eq_true, true_implies]
    refine ⟨by omega, ?_⟩
    refine ok_rangeN (fun k W => W.length = n ∧ ∀ x, x < k → (nth W x).length = n ∧ ∀ y, y < n → nth (nth W x) y = wide d 0 x y) ⟨by simp, by intro x hx; omega⟩ (fun k W hk hI => ?_) fun W hW => ?_
    · obtain ⟨i1, i2⟩ := hI
      unfold widest_Paths_b1
      simp only [ok_bind, ok_chk, ok_idx, ok_bindF, ok_some, hn, Int.toNat_natCast]
      refine ⟨by omega, by omega, by omega, ?_⟩
      refine ok_rangeL (fun j U => U.length = n ∧ (∀ x, x ≠ k → nth U x = nth W x) ∧ (nth U k).length = n ∧ (∀ y, y < n → nth (nth U k) y = if y < j then wide d 0 k y else 0)) ⟨by simpa using i1, fun x hx => by rw [nth_set (by omega), if_neg hx], by rw [nth_set (by omega), if_pos rfl]; simp, fun y hy => by rw [nth_set (by omega), if_pos rfl, nth_replicate hy]; simp⟩ (fun j q U hj hJ => ?_) fun U hU => ?_
      · obtain ⟨hq, hjl⟩ := nth_of hj
        rw [hn] at hjl
        subst hq
        obtain ⟨j1, j2, j3, j4⟩ := hJ
        unfold widest_Paths_b2
        simp only [idx_nat, hM.row? hk, hM.cell? hk hjl, hM.cell? hjl hk, nth_at (show k < U.length by omega), nth_at (show j < (nth U k).length by omega), Option.bind_some, ok_ite, ok_bindF, ok_some, flok_nx, beq_iff_eq, decide_eq_true_eq]
        refine ⟨fun hw => ?_, fun hw => ⟨j1, j2, j3, fun y hy => ?_⟩⟩
        · refine ⟨by simpa using j1, fun x hx => by rw [nth_set (by omega), if_neg hx]; exact j2 x hx, by rw [nth_set (by omega), if_pos rfl]; simpa using j3, fun y hy => ?_⟩
          rw [nth_set (by omega), if_pos rfl, nth_set (by omega)]
          by_cases hyj : y = j
          · subst hyj; rw [if_pos rfl, if_pos (by omega), wide, if_pos hw]
          · rw [if_neg hyj, j4 y hy]
            by_cases hlt : y < j
            · rw [if_pos hlt, if_pos (by omega)]
            · rw [if_neg hlt, if_neg (by omega)]
        · rw [j4 y hy]
          by_cases hyj : y = j
          · subst hyj; rw [if_neg (by omega), if_pos (by omega), wide, if_neg hw]
          · by_cases hlt : y < j
            · rw [if_pos hlt, if_pos (by omega)]
            · rw [if_neg hlt, if_neg (by omega)]
      · obtain ⟨u1, u2, u3, u4⟩ := hU
        refine flok_nx.2 ⟨u1, fun x hx => ?_⟩
        by_cases hxk : x = k
        · subst hxk; exact ⟨u3, fun y hy => by rw [u4 y hy, hn, if_pos hy]⟩
        · rw [u2 x hxk]; exact i2 x (by omega)
    · have hW0 : Mat n n W (wide d 0) := ⟨hW.1, fun x hx => (hW.2 x hx).1, fun x y hx hy => (hW.2 x hx).2 y hy⟩
      refine ⟨by omega, ?_⟩
      refine ok_rangeN (fun k W => Mat n n W (wide d k)) hW0 (fun k W hk hI => ?_) fun W hW => hW
      unfold widest_Paths_b3
      simp only [ok_bind, ok_chk, ok_bindF, ok_some, hn, Int.toNat_natCast]
      refine ⟨by omega, ok_rangeN (fun i W => Mat n n W (fun x y => if x < i then wide d (k + 1) x y else wide d k x y)) (hI.congr fun x y _ _ => by simp) (fun i W hi hI => ?_) fun W hW => flok_nx.2 (hW.congr fun x y hx _ => by simp [hx])⟩
      unfold widest_Paths_b4
      simp only [ok_bind, ok_chk, ok_bindF, ok_some, hn, Int.toNat_natCast]
      refine ⟨by omega, ok_rangeN (fun j W => Mat n n W (fun x y => if x < i ∨ (x = i ∧ y < j) then wide d (k + 1) x y else wide d k x y)) (hI.congr fun x y _ _ => by simp) (fun j W hj hI => ?_) fun W hW => flok_nx.2 (hW.congr fun x y hx hy => ?_)⟩
      · have g1 : (nth W i)[k]? = some (wide d k i k) := by
          rw [hI.cell? hi hk]; congr 1; split
          · exact wide_toK
          · rfl
        have g2 : (nth W k)[j]? = some (wide d k k j) := by
          rw [hI.cell? hk hj]; congr 1; split
          · exact wide_ofK
          · rfl
        have g3 : (nth W i)[j]? = some (wide d k i j) := by rw [hI.cell? hi hj]; congr 1; rw [if_neg (by omega)]
        unfold widest_Paths_b5
        simp only [idx_nat, hI.row? hi, hI.row? hk, g1, g2, g3, Option.bind_some, ok_bindF, ok_ite, ok_some, flok_nx, bne_iff_ne]
        have hne : ∀ {a b : Nat}, (a : Int) ≠ (b : Int) → a ≠ b := fun h e => h (by rw [e])
        have same : ¬ (i ≠ j ∧ i ≠ k ∧ j ≠ k) → Mat n n W (fun x y => if x < i ∨ (x = i ∧ y < j + 1) then wide d (k + 1) x y else wide d k x y) := fun hno => hI.congr fun x y hx hy => by
          by_cases hxy : x = i ∧ y = j
          · obtain ⟨rfl, rfl⟩ := hxy
            rw [if_neg (by omega), if_pos (by omega), wide, if_neg hno]
          · have : (x < i ∨ (x = i ∧ y < j + 1)) ↔ (x < i ∨ (x = i ∧ y < j)) := by omega
            simp only [this]
        have new : (i ≠ j ∧ i ≠ k ∧ j ≠ k) → Mat n n (W.set i ((nth W i).set j (if (if wide d k k j < wide d k i k then wide d k k j else wide d k i k) > wide d k i j then (if wide d k k j < wide d k i k then wide d k k j else wide d k i k) else wide d k i j))) (fun x y => if x < i ∨ (x = i ∧ y < j + 1) then wide d (k + 1) x y else wide d k x y) := fun hyes => (hI.set hi hj _).congr fun x y hx hy => by
          by_cases hxy : x = i ∧ y = j
          · obtain ⟨rfl, rfl⟩ := hxy
            rw [if_pos ⟨rfl, rfl⟩, mm_eq, if_pos (by omega : x < x ∨ (x = x ∧ y < y + 1)), wide, if_pos hyes]
          · rw [if_neg hxy]
            have : (x < i ∨ (x = i ∧ y < j + 1)) ↔ (x < i ∨ (x = i ∧ y < j)) := by omega
            simp only [this]
        refine ⟨fun h1 => ⟨fun h2 => ⟨fun h3 => new ⟨hne h1, hne h2, hne h3⟩, fun h3 => same fun hh => h3 fun e => hh.2.2 (by omega)⟩, fun h2 => ⟨fun hh => by (first | cases hh | exact hh.elim), fun _ => same fun hh => h2 fun e => hh.2.1 (by omega)⟩⟩, fun h1 => ⟨fun hh => by (first | cases hh | exact hh.elim), fun _ => same fun hh => h1 fun e => hh.1 (by omega)⟩⟩
      · have : (x < i + 1) ↔ (x < i ∨ (x = i ∧ y < n)) := by omega
        simp only [this]
  obtain ⟨⟨w, e⟩, h1, h2, h3⟩ := this
  simp only at h2 h3
  subst h2
  exact ⟨w, h1, h3⟩
/-- nobody has a wider way to x than x has back -/
def WideWins (n : Nat) (d : Nat → Nat → Int) (x : Nat) : Prop := ∀ y, y < n → wide d n y x ≤ wide d n x y
noncomputable def wideB (n : Nat) (d : Nat → Nat → Int) (x : Nat) : Bool := @decide (WideWins n d x) (Classical.propDecidable _)
theorem wideB_iff {n : Nat} {d : Nat → Nat → Int} {x : Nat} : wideB n d x = true ↔ WideWins n d x := by unfold wideB; exact @decide_eq_true_iff _ (Classical.propDecidable _)
theorem winners_ok {n : Nat} {m : List (List Int)} {d : Nat → Nat → Int} (h : Tab n m d) : widest_Winners_m m = some (pickB (wideB n d) n, 0) := by
  obtain ⟨p, ep, hp⟩ := paths_ok h
  have hn := hp.len; have hn6 := h.n6
  apply Ok.eq
  unfold widest_Winners_m
  rw [ep]
  simp only [ok_bind, ok_ite, ok_chk, ok_bindR, ok_some, bne_self_eq_false, Bool.false_eq_true, false_implies, true_and, not_false_eq_true, true_implies]
  refine ok_rangeL (fun k l => l = pickB (wideB n d) k) rfl (fun k r l hk hl => ?_) fun l hl => by rw [hn] at hl; subst hl; trivial
  obtain ⟨hr, hkl⟩ := nth_of hk
  rw [hn] at hkl
  subst hr hl
  unfold widest_Winners_b1
  simp only [ok_bindF]
  refine ok_rangeL (fun j b => b = true ↔ ∀ y, y < j → wide d n y k ≤ wide d n k y) (by simp) (fun j q b hj hb => ?_) fun b hb => ?_
  · obtain ⟨hq, hjl⟩ := nth_of hj
    rw [hn] at hjl
    subst hq
    unfold widest_Winners_b2
    simp only [idx_nat, hp.cell? hkl hjl, hp.cell? hjl hkl, Option.bind_some, ok_bindF, ok_ite, ok_some, flok_nx, decide_eq_true_eq]
    grind
  · have hiff : b = true ↔ wideB n d k = true := by rw [wideB_iff, hb, hn]; exact Iff.rfl
    simp only [flok_nx, ok_ite, ok_bind, ok_chk, ok_some]
    refine ⟨fun e => ⟨by have := pickB_len (p := wideB n d) (n := k); simp; omega, ?_⟩, fun e => ?_⟩
    · rw [pickB, if_pos (hiff.1 e)]
    · rw [pickB, if_neg (fun hh => e (hiff.2 hh)), List.append_nil]
theorem tableOf_ok {n : Nat} {p : List (List Int)} {f : Nat → Nat → Int} (h : Mat n n p f) : pk_tableOf_m p (n : Int) = some true := by
  have e0 : slices_ContainsFunc_rows_m p (fun a0 => pk_tableOf_1_m a0 n) = some false := by
    apply Ok.eq
    unfold slices_ContainsFunc_rows_m slices_IndexFunc_rows_m
    simp only [ok_bind, ok_bindR, ok_some]
    refine ok_rangeL (fun _ _ => True) trivial (fun k r s hk _ => ?_) fun s _ => by simp [ok_some, flok_nx]
    obtain ⟨hr, hkl⟩ := nth_of hk
    have hl := h.row k (by rw [← h.len]; exact hkl)
    rw [hr] at hl
    unfold slices_IndexFunc_rows_b1 pk_tableOf_1_m
    simp [hl, ok_some, ok_ite, flok_nx]
  apply Ok.eq
  unfold pk_tableOf_m
  rw [e0]
  simp [h.len, ok_bindR, ok_ite, ok_some, flok_nx]
end Go.Pu
