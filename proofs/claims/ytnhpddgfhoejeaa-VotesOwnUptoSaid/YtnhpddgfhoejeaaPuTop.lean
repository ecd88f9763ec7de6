/- The sides from which all others can be come to: the Smith set. -/
import Derived.Test.YtnhpddgfhoejeaaWVotesOwnModels
import Derived.Test.YtnhpddgfhoejeaaPuTab
import Derived.Test.YtnhpddgfhoejeaaPuList
set_option linter.all false
namespace Go.Pu
open Go.Fw Go.Mo
/-- x is not beaten by y -/
def Unb (d : Nat → Nat → Int) (x y : Nat) : Prop := d y x ≤ d x y
/-- ways by sides below k -/
def Way (d : Nat → Nat → Int) : Nat → Nat → Nat → Prop
  | 0, x, y => x = y ∨ Unb d x y
  | k + 1, x, y => Way d k x y ∨ (Way d k x k ∧ Way d k k y)
theorem way_up {d : Nat → Nat → Int} {k x y : Nat} (h : Way d k x y) : Way d (k + 1) x y := .inl h
theorem way_mono {d : Nat → Nat → Int} {k q x y : Nat} (hq : k ≤ q) (h : Way d k x y) : Way d q x y := by
  induction q with
  | zero => have : k = 0 := by omega
            subst this; exact h
  | succ q ih =>
    by_cases he : k = q + 1
    · subst he; exact h
    · exact way_up (ih (by omega))
theorem way_toK {d : Nat → Nat → Int} {k x : Nat} : Way d (k + 1) x k ↔ Way d k x k := ⟨fun h => h.elim id (·.1), way_up⟩
theorem way_ofK {d : Nat → Nat → Int} {k y : Nat} : Way d (k + 1) k y ↔ Way d k k y := ⟨fun h => h.elim id (·.2), way_up⟩
theorem way_trans {d : Nat → Nat → Int} : ∀ (k : Nat) {x y z : Nat}, z < k → Way d k x z → Way d k z y → Way d k x y
  | 0, _, _, _, h, _, _ => by omega
  | k + 1, x, y, z, hz, h1, h2 => by
    by_cases hzk : z = k
    · subst hzk; exact .inr ⟨way_toK.1 h1, way_ofK.1 h2⟩
    · have hz' : z < k := by omega
      rcases h1 with h1 | ⟨h1, h1'⟩ <;> rcases h2 with h2 | ⟨h2, h2'⟩
      · exact .inl (way_trans k hz' h1 h2)
      · exact .inr ⟨way_trans k hz' h1 h2, h2'⟩
      · exact .inr ⟨h1, way_trans k hz' h1' h2⟩
      · exact .inr ⟨h1, h2'⟩
/-- from x all are come to -/
def Tops (n : Nat) (d : Nat → Nat → Int) (x : Nat) : Prop := ∀ y, y < n → Way d n x y
noncomputable def topB (n : Nat) (d : Nat → Nat → Int) (x : Nat) : Bool := @decide (Tops n d x) (Classical.propDecidable _)
theorem topB_iff {n : Nat} {d : Nat → Nat → Int} {x : Nat} : topB n d x = true ↔ Tops n d x := by unfold topB; exact @decide_eq_true_iff _ (Classical.propDecidable _)
theorem way_refl {d : Nat → Nat → Int} {k x : Nat} : Way d k x x := way_mono (Nat.zero_le _) (.inl rfl)
theorem way_unb {d : Nat → Nat → Int} {k x y : Nat} (h : Unb d x y) : Way d k x y := way_mono (Nat.zero_le _) (.inr h)
theorem way_total {d : Nat → Nat → Int} {k : Nat} (x y : Nat) : Way d k x y ∨ Way d k y x := by
  by_cases h : Unb d x y
  · exact .inl (way_unb h)
  · exact .inr (way_unb (by unfold Unb at *; omega))
/-- of the first m one comes to all of them -/
theorem top_some {n : Nat} {d : Nat → Nat → Int} : ∀ m, m < n → ∃ x, x ≤ m ∧ ∀ y, y ≤ m → Way d n x y
  | 0, _ => ⟨0, Nat.le_refl _, fun y hy => by have : y = 0 := by omega
                                              subst this; exact way_refl⟩
  | m + 1, hm => by
    obtain ⟨x, h1, h2⟩ := top_some (d := d) (n := n) m (by omega)
    rcases way_total (d := d) (k := n) x (m + 1) with h | h
    · exact ⟨x, by omega, fun y hy => by
        by_cases hy' : y = m + 1
        · subst hy'; exact h
        · exact h2 y (by omega)⟩
    · exact ⟨m + 1, Nat.le_refl _, fun y hy => by
        by_cases hy' : y = m + 1
        · subst hy'; exact way_refl
        · exact way_trans n (by omega) h (h2 y (by omega))⟩
theorem tops_ex {n : Nat} {d : Nat → Nat → Int} (h : 1 ≤ n) : ∃ x, x < n ∧ Tops n d x := by
  obtain ⟨x, h1, h2⟩ := top_some (d := d) (n := n) (n - 1) (by omega)
  exact ⟨x, by omega, fun y hy => h2 y (by omega)⟩
/-- each top side beats each other one -/
theorem tops_beat {n : Nat} {d : Nat → Nat → Int} {x y : Nat} (hx : x < n) (hy : y < n) (h : Tops n d x) (k : ¬ Tops n d y) : d y x < d x y := by
  refine Classical.byContradiction fun hn => k fun z hz => ?_
  exact way_trans n hx (way_unb (by unfold Unb; omega)) (h z hz)
noncomputable def b2i (p : Prop) : Int := @ite Int p (Classical.propDecidable p) 1 0
theorem b2i_pos {p : Prop} (h : p) : b2i p = 1 := @if_pos p (Classical.propDecidable p) h _ _ _
theorem b2i_neg {p : Prop} (h : ¬ p) : b2i p = 0 := @if_neg p (Classical.propDecidable p) h _ _ _
theorem b2i_congr {p q : Prop} (h : p ↔ q) : b2i p = b2i q := by rw [propext h]
theorem b2i_one {p : Prop} (h : b2i p = 1) : p := Classical.byContradiction fun hn => by rw [b2i_neg hn] at h; omega
theorem b2i_or (p : Prop) : b2i p = 0 ∨ b2i p = 1 := by
  by_cases h : p
  · exact .inr (b2i_pos h)
  · exact .inl (b2i_neg h)
theorem top_ok {n : Nat} {m : List (List Int)} {d : Nat → Nat → Int} (h : Tab n m d) : duel_Top_m m = some (pickB (topB n d) n, 0) := by
  apply Ok.eq
  have hM := h.mat; have hn := hM.len; have hn6 := h.n6
  unfold duel_Top_m
  rw [tab_ok h]
  simp only [ok_bind, ok_ite, ok_chk, ok_bindR, ok_some, hn, Int.toNat_natCast, List.length_replicate, bne_self_eq_false, Bool.false_eq_true, false_implies, true_and, not_false_eq_true, true_implies]
  refine ⟨by omega, ?_⟩
  refine ok_rangeN (fun k W => W.length = n ∧ ∀ x, x < k → (nth W x).length = n ∧ ∀ y, y < n → nth (nth W x) y = b2i (Way d 0 x y)) ⟨by simp, by intro x hx; omega⟩ (fun k W hk hI => ?_) fun W hW => ?_
  · obtain ⟨i1, i2⟩ := hI
    unfold duel_Top_b1
    simp only [ok_bind, ok_chk, ok_idx, ok_bindF, ok_some, hn, Int.toNat_natCast]
    refine ⟨by omega, by omega, by omega, ?_⟩
    refine ok_rangeL (fun j U => U.length = n ∧ (∀ x, x ≠ k → nth U x = nth W x) ∧ (nth U k).length = n ∧ (∀ y, y < n → nth (nth U k) y = if y < j then b2i (Way d 0 k y) else 0)) ⟨by simpa using i1, fun x hx => by rw [nth_set (by omega), if_neg hx], by rw [nth_set (by omega), if_pos rfl]; simp, fun y hy => by rw [nth_set (by omega), if_pos rfl, nth_replicate hy]; simp⟩ (fun j q U hj hJ => ?_) fun U hU => ?_
    · obtain ⟨hq, hjl⟩ := nth_of hj
      rw [hn] at hjl
      subst hq
      obtain ⟨j1, j2, j3, j4⟩ := hJ
      unfold duel_Top_b2
      simp only [idx_nat, hM.row? hk, hM.cell? hk hjl, hM.cell? hjl hk, nth_at (show k < U.length by omega), nth_at (show j < (nth U k).length by omega), Option.bind_some, ok_ite, ok_bindF, ok_some, flok_nx, beq_iff_eq, decide_eq_true_eq]
      have yes : Way d 0 k j → (U.set k ((nth U k).set j 1)).length = n ∧ (∀ x, x ≠ k → nth (U.set k ((nth U k).set j 1)) x = nth W x) ∧ (nth (U.set k ((nth U k).set j 1)) k).length = n ∧ (∀ y, y < n → nth (nth (U.set k ((nth U k).set j 1)) k) y = if y < j + 1 then b2i (Way d 0 k y) else 0) := fun hw => by
        refine ⟨by simpa using j1, fun x hx => by rw [nth_set (by omega), if_neg hx]; exact j2 x hx, by rw [nth_set (by omega), if_pos rfl]; simpa using j3, fun y hy => ?_⟩
        rw [nth_set (by omega), if_pos rfl, nth_set (by omega)]
        by_cases hyj : y = j
        · subst hyj; rw [if_pos rfl, if_pos (by omega), b2i_pos hw]
        · rw [if_neg hyj, j4 y hy]
          by_cases hlt : y < j
          · rw [if_pos hlt, if_pos (by omega)]
          · rw [if_neg hlt, if_neg (by omega)]
      have no : ¬ Way d 0 k j → U.length = n ∧ (∀ x, x ≠ k → nth U x = nth W x) ∧ (nth U k).length = n ∧ (∀ y, y < n → nth (nth U k) y = if y < j + 1 then b2i (Way d 0 k y) else 0) := fun hw => by
        refine ⟨j1, j2, j3, fun y hy => ?_⟩
        rw [j4 y hy]
        by_cases hyj : y = j
        · subst hyj; rw [if_neg (by omega), if_pos (by omega), b2i_neg hw]
        · by_cases hlt : y < j
          · rw [if_pos hlt, if_pos (by omega)]
          · rw [if_neg hlt, if_neg (by omega)]
      refine ⟨fun e => ⟨fun _ => yes (.inl (by omega)), fun hh => absurd trivial hh⟩, fun e => ⟨fun hu => yes (.inr hu), fun hu => no fun hw => ?_⟩⟩
      rcases hw with hw | hw
      · omega
      · exact hu hw
    · obtain ⟨u1, u2, u3, u4⟩ := hU
      refine flok_nx.2 ⟨u1, fun x hx => ?_⟩
      by_cases hxk : x = k
      · subst hxk; exact ⟨u3, fun y hy => by rw [u4 y hy, hn, if_pos hy]⟩
      · rw [u2 x hxk]; exact i2 x (by omega)
  · have hW0 : Mat n n W (fun x y => b2i (Way d 0 x y)) := ⟨hW.1, fun x hx => (hW.2 x hx).1, fun x y hx hy => (hW.2 x hx).2 y hy⟩
    refine ⟨by omega, ?_⟩
    refine ok_rangeN (fun k W => Mat n n W (fun x y => b2i (Way d k x y))) hW0 (fun k W hk hI => ?_) fun W hW => ?_
    · unfold duel_Top_b3
      simp only [ok_bind, ok_chk, ok_bindF, ok_some, hn, Int.toNat_natCast]
      refine ⟨by omega, ok_rangeN (fun i W => Mat n n W (fun x y => b2i (if x < i then Way d (k + 1) x y else Way d k x y))) (hI.congr fun x y _ _ => by simp) (fun i W hi hI => ?_) fun W hW => flok_nx.2 (hW.congr fun x y hx _ => by simp [hx])⟩
      unfold duel_Top_b4
      simp only [ok_bind, ok_chk, ok_bindF, ok_some, hn, Int.toNat_natCast]
      refine ⟨by omega, ok_rangeN (fun j W => Mat n n W (fun x y => b2i (if x < i ∨ (x = i ∧ y < j) then Way d (k + 1) x y else Way d k x y))) (hI.congr fun x y _ _ => by simp) (fun j W hj hI => ?_) fun W hW => flok_nx.2 (hW.congr fun x y hx hy => ?_)⟩
      · have c1 : (if i < i ∨ (i = i ∧ k < j) then Way d (k + 1) i k else Way d k i k) ↔ Way d k i k := by split; exact way_toK; exact Iff.rfl
        have c2 : (if k < i ∨ (k = i ∧ j < j) then Way d (k + 1) k j else Way d k k j) ↔ Way d k k j := by split; exact way_ofK; exact Iff.rfl
        have g1 : (nth W i)[k]? = some (b2i (Way d k i k)) := by rw [hI.cell? hi hk]; exact congrArg some (b2i_congr c1)
        have g2 : (nth W k)[j]? = some (b2i (Way d k k j)) := by rw [hI.cell? hk hj]; exact congrArg some (b2i_congr c2)
        have g3 : (nth W i)[j]? = some (nth (nth W i) j) := nth_at (by rw [hI.row i hi]; exact hj)
        unfold duel_Top_b5
        simp only [idx_nat, hI.row? hi, hI.row? hk, g1, g2, g3, Option.bind_some, ok_bindF, ok_ite, ok_some, flok_nx, beq_iff_eq]
        have same : ¬ (Way d k i k ∧ Way d k k j) → Mat n n W (fun x y => b2i (if x < i ∨ (x = i ∧ y < j + 1) then Way d (k + 1) x y else Way d k x y)) := fun hno => hI.congr fun x y hx hy => by
          refine b2i_congr ?_
          by_cases hxy : x = i ∧ y = j
          · obtain ⟨rfl, rfl⟩ := hxy
            rw [if_neg (by omega), if_pos (by omega)]
            exact ⟨way_up, fun hh => hh.elim id fun hh => absurd hh hno⟩
          · have : (x < i ∨ (x = i ∧ y < j + 1)) ↔ (x < i ∨ (x = i ∧ y < j)) := by omega
            simp only [this]
        have noE : ∀ (b : Bool), b = false → (b = true → Mat n n (W.set i ((nth W i).set j 1)) (fun x y => b2i (if x < i ∨ (x = i ∧ y < j + 1) then Way d (k + 1) x y else Way d k x y))) := fun b hb hh => by rw [hb] at hh; cases hh
        refine ⟨fun h1 => ⟨fun h2 => ?_, fun h2 => same fun hh => h2 (b2i_pos hh.2)⟩, fun h1 => ⟨noE _ rfl, fun _ => same fun hh => h1 (b2i_pos hh.1)⟩⟩
        have w1 : Way d k i k := b2i_one h1
        have w2 : Way d k k j := b2i_one h2
        refine (hI.set hi hj 1).congr fun x y hx hy => ?_
        by_cases hxy : x = i ∧ y = j
        · obtain ⟨rfl, rfl⟩ := hxy
          rw [if_pos ⟨rfl, rfl⟩, b2i_pos]
          rw [if_pos (by omega)]; exact .inr ⟨w1, w2⟩
        · rw [if_neg hxy]
          have : (x < i ∨ (x = i ∧ y < j + 1)) ↔ (x < i ∨ (x = i ∧ y < j)) := by omega
          simp only [this]
      · have : (x < i + 1) ↔ (x < i ∨ (x = i ∧ y < n)) := by omega
        simp only [this]
    · refine ⟨by omega, ?_⟩
      refine ok_rangeN (fun k l => l = pickB (topB n d) k) rfl (fun k l hk hl => ?_) fun l hl => by subst hl; trivial
      subst hl
      unfold duel_Top_b6
      simp only [ok_bind, ok_chk, ok_bindF, ok_some, hn, Int.toNat_natCast]
      refine ⟨by omega, ok_rangeN (s := (0 : Int)) (fun (j : Nat) (s : Int) => s ≤ j ∧ 0 ≤ s ∧ (s = j ↔ ∀ y, y < j → Way d n k y)) ⟨by simp, by simp, by simp⟩ (fun j s hj hs => ?_) fun s hs => ?_⟩
      · unfold duel_Top_b7
        simp only [idx_nat, hW.row? hk, hW.cell? hk hj, Option.bind_some, ok_some, flok_nx]
        obtain ⟨s1, s2, s3⟩ := hs
        have := b2i_or (Way d n k j)
        rw [wadd_of (by omega) (by omega)]
        refine ⟨by omega, by omega, ?_⟩
        by_cases hw : Way d n k j
        · rw [b2i_pos hw]
          constructor
          · intro e y hy
            by_cases hyj : y = j
            · subst hyj; exact hw
            · exact s3.1 (by omega) y (by omega)
          · intro e; have := s3.2 fun y hy => e y (by omega); omega
        · rw [b2i_neg hw]
          constructor
          · intro e; omega
          · intro e; exact absurd (e j (by omega)) hw
      · simp only [flok_nx, ok_ite, ok_chk, ok_bind, ok_some, beq_iff_eq]
        have hiff : s = (n : Int) ↔ topB n d k = true := by rw [topB_iff]; exact hs.2.2
        refine ⟨fun e => ⟨by have := pickB_len (p := topB n d) (n := k); simp; omega, ?_⟩, fun e => ?_⟩
        · rw [pickB, if_pos (hiff.1 e)]
        · rw [pickB, if_neg (fun hh => e (hiff.2 hh)), List.append_nil]
end Go.Pu
