import Derived.Test.YthhconilidaffaaWTopMiddleModels
import Derived.Test.YthhconilidaffaaPuJTopMiddle3
/- The sides from which all others can be come to: the Smith set. -/
set_option linter.all false
namespace Go.Pu
open Go.Fw Go.Mo
/-- x is not beaten by y -/
def Unb (d : Nat → Nat → Int) (x y : Nat) : Prop := d y x ≤ d x y
/-- ways by sides below k -/
def Way (d : Nat → Nat → Int) : Nat → Nat → Nat → Prop
  | 0, x, y => x = y ∨ Unb d x y
  | k + 1, x, y => Way d k x y ∨ (Way d k x k ∧ Way d k k y)
theorem way_up {d : Nat → Nat → Int} {k x y : Nat} (h : Way d k x y) : Way d (k + 1) x y := .inl h
theorem way_mono {d : Nat → Nat → Int} {k q x y : Nat} (hq : k ≤ q) (h : Way d k x y) : Way d q x y := by
  induction q with
  | zero => have : k = 0 := by omega
            subst this; exact h
  | succ q ih =>
    by_cases he : k = q + 1
    · subst he; exact h
    · exact way_up (ih (by omega))
theorem way_toK {d : Nat → Nat → Int} {k x : Nat} : Way d (k + 1) x k ↔ Way d k x k := ⟨fun h => h.elim id (·.1), way_up⟩
theorem way_ofK {d : Nat → Nat → Int} {k y : Nat} : Way d (k + 1) k y ↔ Way d k k y := ⟨fun h => h.elim id (·.2), way_up⟩
theorem way_trans {d : Nat → Nat → Int} : ∀ (k : Nat) {x y z : Nat}, z < k → Way d k x z → Way d k z y → Way d k x y
  | 0, _, _, _, h, _, _ => by omega
  | k + 1, x, y, z, hz, h1, h2 => by
    by_cases hzk : z = k
    · subst hzk; exact .inr ⟨way_toK.1 h1, way_ofK.1 h2⟩
    · have hz' : z < k := by omega
      rcases h1 with h1 | ⟨h1, h1'⟩ <;> rcases h2 with h2 | ⟨h2, h2'⟩
      · exact .inl (way_trans k hz' h1 h2)
      · exact .inr ⟨way_trans k hz' h1 h2, h2'⟩
      · exact .inr ⟨h1, way_trans k hz' h1' h2⟩
      · exact .inr ⟨h1, h2'⟩
/-- from x all are come to -/
def Tops (n : Nat) (d : Nat → Nat → Int) (x : Nat) : Prop := ∀ y, y < n → Way d n x y
noncomputable def topB (n : Nat) (d : Nat → Nat → Int) (x : Nat) : Bool := @decide (Tops n d x) (Classical.propDecidable _)
theorem topB_iff {n : Nat} {d : Nat → Nat → Int} {x : Nat} : topB n d x = true ↔ Tops n d x := by unfold topB; exact @decide_eq_true_iff _ (Classical.propDecidable _)
theorem way_refl {d : Nat → Nat → Int} {k x : Nat} : Way d k x x := way_mono (Nat.zero_le _) (.inl rfl)
theorem way_unb {d : Nat → Nat → Int} {k x y : Nat} (h : Unb d x y) : Way d k x y := way_mono (Nat.zero_le _) (.inr h)
theorem way_total {d : Nat → Nat → Int} {k : Nat} (x y : Nat) : Way d k x y ∨ Way d k y x := by
  by_cases h : Unb d x y
  · exact .inl (way_unb h)
  · exact .inr (way_unb (by unfold Unb at *; omega))
/-- of the first m one comes to all of them -/
theorem top_some {n : Nat} {d : Nat → Nat → Int} : ∀ m, m < n → ∃ x, x ≤ m ∧ ∀ y, y ≤ m → Way d n x y
  | 0, _ => ⟨0, Nat.le_refl _, fun y hy => by have : y = 0 := by omega
                                              subst this; exact way_refl⟩
  | m + 1, hm => by
    obtain ⟨x, h1, h2⟩ := top_some (d := d) (n := n) m (by omega)
    rcases way_total (d := d) (k := n) x (m + 1) with h | h
    · exact ⟨x, by omega, fun y hy => by
        by_cases hy' : y = m + 1
        · subst hy'; exact h
        · exact h2 y (by omega)⟩
    · exact ⟨m + 1, Nat.le_refl _, fun y hy => by
        by_cases hy' : y = m + 1
        · subst hy'; exact way_refl
        · exact way_trans n (by omega) h (h2 y (by omega))⟩
theorem tops_ex {n : Nat} {d : Nat → Nat → Int} (h : 1 ≤ n) : ∃ x, x < n ∧ Tops n d x := by
  obtain ⟨x, h1, h2⟩ := top_some (d := d) (n := n) (n - 1) (by omega)
  exact ⟨x, by omega, fun y hy => h2 y (by omega)⟩
/-- each top side beats each other one -/
theorem tops_beat {n : Nat} {d : Nat → Nat → Int} {x y : Nat} (hx : x < n) (hy : y < n) (h : Tops n d x) (k : ¬ Tops n d y) : d y x < d x y := by
  refine Classical.byContradiction fun hn => k fun z hz => ?_
  exact way_trans n hx (way_unb (by unfold Unb; omega)) (h z hz)
noncomputable def b2i (p : Prop) : Int := @ite Int p (Classical.propDecidable p) 1 0
theorem b2i_pos {p : Prop} (h : p) : b2i p = 1 := @if_pos p (Classical.propDecidable p) h _ _ _
theorem b2i_neg {p : Prop} (h : ¬ p) : b2i p = 0 := @if_neg p (Classical.propDecidable p) h _ _ _
theorem b2i_congr {p q : Prop} (h : p ↔ q) : b2i p = b2i q := by rw [propext h]
theorem b2i_one {p : Prop} (h : b2i p = 1) : p := Classical.byContradiction fun hn => by rw [b2i_neg hn] at h; omega
theorem b2i_or (p : Prop) : b2i p = 0 ∨ b2i p = 1 := by
  by_cases h : p
  · exact .inr (b2i_pos h)
  · exact .inl (b2i_neg h)
theorem top_ok {n : Nat} {m : List (List Int)} {d : Nat → Nat → Int} (h : Tab n m d) : duel_Top_m m = some (pickB (topB n d) n, 0) := by
  apply Ok.eq
  have hM := h.mat; have hn := hM.len; have hn6 := h.n6
  unfold duel_Top_m
  rw [tab_ok h]
  simp only [ok_bind, ok_ite, ok_chk, ok_bindR, ok_some, hn, Int.toNat_natCast, List.length_replicate, bne_self_eq_false, Bool.false_eq_true, false_implies, true_and, not_false_eq_true, true_implies]
  refine ⟨by omega, ?_⟩
  refine ok_rangeN (fun k W => W.length = n ∧ ∀ x, x < k → (nth W x).length = n ∧ ∀ y, y < n → nth (nth W x) y = b2i (Way d 0 x y)) ⟨by simp, by intro x hx; omega⟩ (fun k W hk hI => ?_) fun W hW => ?_
  · obtain ⟨i1, i2⟩ := hI
    unfold duel_Top_b1
    simp only [ok_bind, ok_chk, ok_idx, ok_bindF, ok_some, hn, Int.toNat_natCast]
    refine ⟨by omega, by omega, by omega, ?_⟩
    refine ok_rangeL (fun j U => U.length = n ∧ (∀ x, x ≠ k → nth U x = nth W x) ∧ (nth U k).length = n ∧ (∀ y, y < n → nth (nth U k) y = if y < j then b2i (Way d 0 k y) else 0)) ⟨by simpa using i1, fun x hx => by rw [nth_set (by omega), if_neg hx], by rw [nth_set (by omega), if_pos rfl]; simp, fun y hy => by rw [nth_set (by omega), if_pos rfl, nth_replicate hy]; simp⟩ (fun j q U hj hJ => ?_) fun U hU => ?_
    · obtain ⟨hq, hjl⟩ := nth_of hj
      rw [hn] at hjl
      subst hq
      obtain ⟨j1, j2, j3, j4⟩ := hJ
      unfold duel_Top_b2
      simp only [idx_nat, hM.row? hk, hM.cell? hk hjl, hM.cell? hjl hk, nth_at (show k < U.length by omega), nth_at (show j < (nth U k).length by omega), Option.bind_some, ok_ite, ok_bindF, ok_some, flok_nx, beq_iff_eq, decide_eq_true_eq]
      have yes : Way d 0 k j → (U.set k ((nth U k).set j 1)).length = n ∧ (∀ x, x ≠ k → nth (U.set k ((nth U k).set j 1)) x = nth W x) ∧ (nth (U.set k ((nth U k).set j 1)) k).length = n ∧ (∀ y, y < n → nth (nth (U.set k ((nth U k).set j 1)) k) y = if y < j + 1 then b2i (Way d 0 k y) else 0) := fun hw => by
        refine ⟨by simpa using j1, fun x hx => by rw [nth_set (by omega), if_neg hx]; exact j2 x hx, by rw [nth_set (by omega), if_pos rfl]; simpa using j3, fun y hy => ?_⟩
        rw [nth_set (by omega), if_pos rfl, nth_set (by omega)]
        by_cases hyj : y = j
        · subst hyj; rw [if_pos rfl, if_pos (by omega), b2i_pos hw]
        · rw [if_neg hyj, j4 y hy]
          by_cases hlt : y < j
          · rw [if_pos hlt, if_pos (by omega)]
          · rw [if_neg hlt, if_neg (by omega)]
      have no : ¬ Way d 0 k j → U.length = n ∧ (∀ x, x ≠ k → nth U x = nth W x) ∧ (nth U k).length = n ∧ (∀ y, y < n → nth (nth U k) y = if y < j + 1 then b2i (Way d 0 k y) else 0) := fun hw => by
        refine ⟨j1, j2, j3, fun y hy => ?_⟩
        rw [j4 y hy]
        by_cases hyj : y = j
        · subst hyj; rw [if_neg (by omega), if_pos (by omega), b2i_neg hw]
        · by_cases hlt : y < j
          · rw [if_pos hlt, if_pos (by omega)]
          · rw [if_neg hlt, if_neg (by omega)]
      refine ⟨fun e => ⟨fun _ => yes (.inl (by omega)), fun hh => absurd trivial hh⟩, fun e => ⟨fun hu => yes (.inr hu), fun hu => no fun hw => ?_⟩⟩
      rcases hw with hw | hw
      · omega
      · exact hu hw
    · obtain ⟨u1, u2, u3, u4⟩ := hU
      refine flok_nx.2 ⟨u1, fun x hx => ?_⟩
      by_cases hxk : x = k
      · subst hxk; exact ⟨u3, fun y hy => by rw [u4 y hy, hn, if_pos hy]⟩
      · rw [u2 x hxk]; exact i2 x (by omega)
  · have hW0 : Mat n n W (fun x y => b2i (Way d 0 x y)) := ⟨hW.1, fun x hx => (hW.2 x hx).1, fun x y hx hy => (hW.2 x hx).2 y hy⟩
    refine ⟨by omega, ?_⟩
    refine ok_rangeN (fun k W => Mat n n W (fun x y => b2i (Way d k x y))) hW0 (fun k W hk hI => ?_) fun W hW => ?_
    · unfold duel_Top_b3
      simp only [ok_bind, ok_chk, ok_bindF, ok_some, hn, Int.toNat_natCast]
      refine ⟨by omega, ok_rangeN (fun i W => Mat n n W (fun x y => b2i (if x < i then Way d (k + 1) x y else Way d k x y))) (hI.congr fun x y _ _ => by simp) (fun i W hi hI => ?_) fun W hW => flok_nx.2 (hW.congr fun x y hx _ => by simp [hx])⟩
      unfold duel_Top_b4
      simp only [ok_bind, ok_chk, ok_bindF, ok_some, hn, Int.toNat_natCast]
      refine ⟨by omega, ok_rangeN (fun j W => Mat n n W (fun x y => b2i (if x < i ∨ (x = i ∧ y < j) then Way d (k + 1) x y else Way d k x y))) (hI.congr fun x y _ _ => by simp) (fun j W hj hI => ?_) fun W hW => flok_nx.2 (hW.congr fun x y hx hy => ?_)⟩
      · have c1 : (if i < i ∨ (i = i ∧ k < j) then Way d (k + 1) i k else Way d k i k) ↔ Way d k i k := by split; exact way_toK; exact Iff.rfl
        have c2 : (if k < i ∨ (k = i ∧ j < j) then Way d (k + 1) k j else Way d k k j) ↔ Way d k k j := by split; exact way_ofK; exact Iff.rfl
        have g1 : (nth W i)[k]? = some (b2i (Way d k i k)) := by rw [hI.cell? hi hk]; exact congrArg some (b2i_congr c1)
        have g2 : (nth W k)[j]? = some (b2i (Way d k k j)) := by rw [hI.cell? hk hj]; exact congrArg some (b2i_congr c2)
        have g3 : (nth W i)[j]? = some (nth (nth W i) j) := nth_at (by rw [hI.row i hi]; exact hj)
        unfold duel_Top_b5
        simp only [idx_nat, hI.row? hi, hI.row? hk, g1, g2, g3, Option.bind_some, ok_bindF, ok_ite, ok_some, flok_nx, beq_iff_eq]
        have same : ¬ (Way d k i k ∧ Way d k k j) → Mat n n W (fun x y => b2i (if x < i ∨ (x = i ∧ y < j + 1) then Way d (k + 1) x y else Way d k x y)) := fun hno => hI.congr fun x y hx hy => by
          refine b2i_congr ?_
          by_cases hxy : x = i ∧ y = j
          · obtain ⟨rfl, rfl⟩ := hxy
            rw [if_neg (by omega), if_pos (by omega)]
            exact ⟨way_up, fun hh => hh.elim id fun hh => absurd hh hno⟩
          · have : (x < i ∨ (x = i ∧ y < j + 1)) ↔ (x < i ∨ (x = i ∧ y < j)) := by omega
            simp only [this]
        have noE : ∀ (b : Bool), b = false → (b = true → Mat n n (W.set i ((nth W i).set j 1)) (fun x y => b2i (if x < i ∨ (x = i ∧ y < j + 1) then Way d (k + 1) x y else Way d k x y))) := fun b hb hh => by rw [hb] at hh; cases hh
        refine ⟨fun h1 => ⟨fun h2 => ?_, fun h2 => same fun hh => h2 (b2i_pos hh.2)⟩, fun h1 => ⟨noE _ rfl, fun _ => same fun hh => h1 (b2i_pos hh.1)⟩⟩
        have w1 : Way d k i k := b2i_one h1
        have w2 : Way d k k j := b2i_one h2
        refine (hI.set hi hj 1).congr fun x y hx hy => ?_
        by_cases hxy : x = i ∧ y = j
        · obtain ⟨rfl, rfl⟩ := hxy
          rw [if_pos ⟨rfl, rfl⟩, b2i_pos]
          rw [if_pos (by omega)]; exact .inr ⟨w1, w2⟩
        · rw [if_neg hxy]
          have : (x < i ∨ (x = i ∧ y < j + 1)) ↔ (x < i ∨ (x = i ∧ y < j)) := by omega
          simp only [this]
      · have : (x < i + 1) ↔ (x < i ∨ (x = i ∧ y < n)) := by omega
        simp only [this]
    · refine ⟨by omega, ?_⟩
      refine ok_rangeN (fun k l => l = pickB (topB n d) k) rfl (fun k l hk hl => ?_) fun l hl => by subst hl; trivial
      subst hl
      unfold duel_Top_b6
      simp only [ok_bind, ok_chk, ok_bindF, ok_some, hn, Int.toNat_natCast]
      refine ⟨by omega, ok_rangeN (s := (0 : Int)) (fun (j : Nat) (s : Int) => s ≤ j ∧ 0 ≤ s ∧ (s = j ↔ ∀ y, y < j → Way d n k y)) ⟨by simp, by simp, by simp⟩ (fun j s hj hs => ?_) fun s hs => ?_⟩
      · unfold duel_Top_b7
        simp only [idx_nat, hW.row? hk, hW.cell? hk hj, Option.bind_some, ok_some, flok_nx]
        obtain ⟨s1, s2, s3⟩ := hs
        have := b2i_or (Way d n k j)
        rw [wadd_of (by omega) (by omega)]
        refine ⟨by omega, by omega, ?_⟩
        by_cases hw : Way d n k j
        · rw [b2i_pos hw]
          constructor
          · intro e y hy
            by_cases hyj : y = j
            · subst hyj; exact hw
            · exact s3.1 (by omega) y (by omega)
          · intro e; have := s3.2 fun y hy => e y (by omega); omega
        · rw [b2i_neg hw]
          constructor
          · intro e; omega
          · intro e; exact absurd (e j (by omega)) hw
      · simp only [flok_nx, ok_ite, ok_chk, ok_bind, ok_some, beq_iff_eq]
        have hiff : s = (n : Int) ↔ topB n d k = true := by rw [topB_iff]; exact hs.2.2
        refine ⟨fun e => ⟨by have := pickB_len (p := topB n d) (n := k); simp; omega, ?_⟩, fun e => ?_⟩
        · rw [pickB, if_pos (hiff.1 e)]
        · rw [pickB, if_neg (fun hh => e (hiff.2 hh)), List.append_nil]
end Go.Pu
/- The plain law: winners by widest ways are top sides; a top side that is alone is the winner. -/
set_option linter.all false
namespace Go.Pu
open Go.Fw Go.Mo
theorem wide_out {n : Nat} {d : Nat → Nat → Int} {x t : Nat} (hx : x < n) (ht : t < n) (h1 : ¬ Tops n d x) (h2 : Tops n d t) : ∀ (k : Nat), k ≤ n → ∀ {x t : Nat}, x < n → t < n → ¬ Tops n d x → Tops n d t → wide d k x t ≤ 0
  | 0, _, x, t, hx, ht, h1, h2 => by
    have := tops_beat ht hx h2 h1
    rw [wide, if_neg (by omega)]; omega
  | k + 1, hk, x, t, hx, ht, h1, h2 => by
    have a := wide_out hx ht h1 h2 k (by omega) hx ht h1 h2
    rw [wide]
    split
    · by_cases hkt : Tops n d k
      · have := wide_out hx ht h1 h2 k (by omega) hx (show k < n by omega) h1 hkt; omega
      · have := wide_out hx ht h1 h2 k (by omega) (show k < n by omega) ht hkt h2; omega
    · exact a
theorem wins_top {n : Nat} {d : Nat → Nat → Int} (hn : 1 ≤ n) (hv : ∀ x y, x < n → y < n → 0 ≤ d x y ∧ d x y ≤ 30) {x : Nat} (hx : x < n) (h : WideWins n d x) : Tops n d x := by
  refine Classical.byContradiction fun hnt => ?_
  obtain ⟨t, ht, hT⟩ := tops_ex (d := d) hn
  have a := wide_out hx ht hnt hT n (Nat.le_refl _) hx ht hnt hT
  have b := tops_beat ht hx hT hnt
  have c := wide_duel (d := d) (k := n) b
  have e := h t ht
  have := hv x t hx ht
  omega
theorem WidestTop (x0 : List (List Int)) (_ : (∀ r ∈ x0, (∀ x ∈ r, (Lit.int .i64 x).wf = true) ∧ r.length ≤ maxLen) ∧ x0.length ≤ maxLen) : pk_WidestTop_m x0 = some true := by
  apply Ok.eq
  unfold pk_WidestTop_m
  have e1 : pk_wides_m = some true := by decide +kernel
  have e2 : pk_duels_m = some true := by decide +kernel
  rw [e1, e2]
  simp only [ok_bind, ok_ite, ok_bindR, ok_some, flok_nx, Bool.not_true, Bool.false_eq_true, false_implies, true_and, not_false_eq_true, true_implies]
  rcases tab_split x0 with ⟨d, h, ec⟩ | ⟨e, he, ec⟩
  · have ew := winners_ok h
    have et := top_ok h
    have hn := h.n1
    generalize hN : x0.length = n at *
    have sub : ∀ x : Int, x ∈ pickB (wideB n d) n → x ∈ pickB (topB n d) n := fun x hx => by
      obtain ⟨k, hk, hk', rfl⟩ := mem_pickB.1 hx
      exact mem_pickB.2 ⟨k, hk, topB_iff.2 (wins_top hn h.val hk (wideB_iff.1 hk')), rfl⟩
    simp only [ew, et, ok_bind, ok_ite, ok_bindR, ok_some, flok_nx, bne_self_eq_false, Bool.not_true, Bool.false_eq_true, false_implies, true_and, not_false_eq_true, true_implies]
    refine ok_rangeN (fun _ _ => True) trivial (fun k s hk _ => ?_) fun s _ => ?_
    · unfold pk_WidestTop_b1
      have hin := sub _ (nth_mem hk)
      simp [idx_nat, nth_at hk, Option.bind_some, ok_ite, ok_some, flok_nx, flok_rt, contains_ok, hin]
    · simp only [flok_nx, ok_ite, ok_some, ok_bind, ok_bindR, equal_ok, bne_iff_ne]
      refine ⟨fun _ => by trivial, fun h1 => ?_⟩
      rw [decide_eq_true_eq]
      refine pickB_congr fun k hk => ?_
      rw [Bool.eq_iff_iff, wideB_iff, topB_iff]
      refine ⟨fun hw => wins_top hn h.val hk hw, fun hT y hy => ?_⟩
      by_cases hyk : y = k
      · subst hyk; exact Int.le_refl _
      · have hnt : ¬ Tops n d y := fun hy' => by
          have m1 : (k : Int) ∈ pickB (topB n d) n := mem_pickB.2 ⟨k, hk, topB_iff.2 hT, rfl⟩
          have m2 : (y : Int) ∈ pickB (topB n d) n := mem_pickB.2 ⟨y, hy, topB_iff.2 hy', rfl⟩
          have hl : (pickB (topB n d) n).length = 1 := by
            have := Classical.not_not.1 h1; omega
          obtain ⟨a, ha⟩ := List.length_eq_one_iff.1 hl
          rw [ha] at m1 m2
          simp at m1 m2
          omega
        have a := wide_out hy hk hnt hT n (Nat.le_refl _) hy hk hnt hT
        have b := wide_nn h.val n (Nat.le_refl _) hk hy
        omega
  · have ep : widest_Paths_m x0 = some ([], e) := by
      unfold widest_Paths_m
      rw [ec, Option.bind_some, if_pos (by simpa using he)]
    have ew : widest_Winners_m x0 = some ([], e) := by
      unfold widest_Winners_m
      rw [ep, Option.bind_some, if_pos (by simpa using he)]
    have et : duel_Top_m x0 = some ([], e) := by
      unfold duel_Top_m
      rw [ec, Option.bind_some, if_pos (by simpa using he)]
    simp only [ew, et, ok_bind, ok_ite, ok_bindR, ok_some, flok_nx, bne_iff_ne]
    simp [he]
end Go.Pu
/- The plain law: along a line, of an odd number of votes, it is the one in the middle, by whatever way it is asked for. -/
set_option linter.all false
namespace Go.Pu
open Go.Fw Go.Mo
theorem pick_single {p : Nat → Bool} {K : Nat} (hK : p K = true) : ∀ n, (∀ y, y < n → p y = true → y = K) → (K < n → pickB p n = [(K : Int)]) ∧ (n ≤ K → pickB p n = [])
  | 0, _ => ⟨fun h => by omega, fun _ => rfl⟩
  | n + 1, h => by
    obtain ⟨h1, h2⟩ := pick_single hK n fun y hy => h y (by omega)
    simp only [pickB]
    by_cases e : n = K
    · subst e
      rw [h2 (Nat.le_refl _), if_pos hK]
      exact ⟨fun _ => rfl, fun h => by omega⟩
    · have hn : ¬ p n = true := fun hp => e (h n (by omega) hp)
      rw [if_neg hn, List.append_nil]
      exact ⟨fun hk => h1 (by omega), fun hk => h2 (by omega)⟩
theorem way_no {n : Nat} {d : Nat → Nat → Int} {K : Nat} (hB : Beats n d K) : ∀ k, k ≤ n → ∀ x, x < n → x ≠ K → ¬ Way d k x K
  | 0, _, x, hx, hne, h => by
    rcases h with h | h
    · exact hne h
    · have := hB x hx hne
      unfold Unb at h; omega
  | k + 1, hk, x, hx, hne, h => by
    rcases h with h | ⟨h1, h2⟩
    · exact way_no hB k (by omega) x hx hne h
    · by_cases e : k = K
      · subst e; exact way_no hB k (by omega) x hx hne h1
      · exact way_no hB k (by omega) k (by omega) e h2
theorem beats_tops {n : Nat} {d : Nat → Nat → Int} {K : Nat} (hK : K < n) (hB : Beats n d K) : Tops n d K ∧ ∀ x, x < n → Tops n d x → x = K := by
  refine ⟨fun y hy => ?_, fun x hx hT => ?_⟩
  · by_cases e : y = K
    · subst e; exact way_refl
    · exact way_unb (by have := hB y hy e; unfold Unb; omega)
  · apply Decidable.byContradiction; intro e
    exact way_no hB n (Nat.le_refl _) x hx e (hT K hK)
theorem tgood6 : top_good_m [0, 0, 0, 0, 0, 0] = some true := by decide +kernel
theorem works_m : top_works_m = some true := by decide +kernel
theorem TopMiddle (x0 : Int) (_ : (Lit.int .i64 x0).wf = true) (x1 : List Int) (h1 : (∀ x ∈ x1, (Lit.int .i64 x).wf = true) ∧ x1.length ≤ maxLen) (x2 : List (List Int)) (h2 : (∀ r ∈ x2, (∀ x ∈ r, (Lit.int .i64 x).wf = true) ∧ r.length ≤ maxLen) ∧ x2.length ≤ maxLen) : top_TopMiddle_m x0 x1 x2 = some true := by
  obtain ⟨n, n1, n6, hn⟩ := one_within x0 6 (by decide) (by decide)
  rw [show ((6 : Nat) : Int) = 6 from rfl] at hn
  obtain ⟨line, el, hl⟩ := orderOf_ok n x1 n1 (by omega)
  obtain ⟨V, eV, hVl, hV⟩ := votesOf_ok n x2 n1 n6
  have hV30 := hV.1
  apply Ok.eq
  unfold top_TopMiddle_m
  rw [within_at x0 6 (by decide) (by decide), Option.bind_some, hn, el, Option.bind_some, eV, Option.bind_some, ok_bindR]
  refine ok_rangeN (fun k (v : List (List Int)) => v.length ≤ k ∧ ∀ p ∈ v, Ord n p ∧ along n line p = true) ⟨Nat.le_refl _, by simp⟩ (fun k v hk hI => ?_) fun v hv => ?_
  · have hp := hV.2 _ (nth_mem hk)
    unfold top_TopMiddle_b1
    rw [idx_nat, nth_at hk, Option.bind_some, along_ok n1 n6 hl hp, Option.bind_some]
    dsimp only
    rw [if_neg (by decide)]
    by_cases ha : along n line (nth V k) = true
    · rw [if_pos ha, chk_t (by simp; omega), Option.bind_some, ok_some, flok_nx]
      refine ⟨by simp; omega, fun q hq => ?_⟩
      rcases List.mem_append.1 hq with hq | hq
      · exact hI.2 q hq
      · rw [List.mem_singleton] at hq; subst hq; exact ⟨hp, ha⟩
    · rw [if_neg ha, ok_some, flok_nx]
      exact ⟨by omega, hI.2⟩
  · obtain ⟨hv1, hv2⟩ := hv
    -- the line stands along itself
    have self : along n line line = true := by
      have key : ∀ i lo, lo + i < n → (lo = 0) → al line line i lo = true := by
        intro i
        induction i with
        | zero => intro lo _ _; rfl
        | succ i ih =>
          intro lo h e
          subst e
          simp only [al]
          have : ¬ nth line (i + 1) = nth line 0 := fun e => by have := line_inj hl (by omega) (by omega) e; omega
          rw [if_neg this, show 0 + i + 1 = i + 1 by omega, if_pos rfl]
          exact ih 0 (by omega) rfl
      exact key (n - 1) 0 (by omega) rfl
    rw [chk_t (show (2 : Int) ≠ 0 by decide), Option.bind_some, ok_bindR, Int.tmod_eq_emod_of_nonneg (by omega)]
    have step1 : Ok (if (v.length : Int) % 2 == (0 : Int) then (chk (v.length + [line].length ≤ 68719476736)).bind fun _ => some (Fl.nx (ρ := Bool) (β := Unit) (v ++ [line])) else some (.nx v)) (FlOk (fun w => w.length ≤ 31 ∧ w.length % 2 = 1 ∧ ∀ p ∈ w, Ord n p ∧ along n line p = true) (fun _ => False) (fun _ => False)) := by
      by_cases c : ((v.length : Int) % 2 == 0) = true
      · rw [if_pos c, chk_t (by simp; omega), Option.bind_some, ok_some, flok_nx]
        rw [beq_iff_eq] at c
        refine ⟨by simp; omega, by simp; omega, fun q hq => ?_⟩
        rcases List.mem_append.1 hq with hq | hq
        · exact hv2 q hq
        · rw [List.mem_singleton] at hq; subst hq; exact ⟨hl, self⟩
      · rw [if_neg c, ok_some, flok_nx]
        rw [beq_iff_eq] at c
        exact ⟨by omega, by omega, hv2⟩
    refine step1.fl (fun w hw => ?_) (fun _ h => h.elim) (fun _ h => h.elim)
    obtain ⟨w1, w2, w3⟩ := hw
    rw [ok_bindR]
    have step2 : Ok (if decide ((w.length : Int) > (30 : Int)) = true then (chk ((29 : Int) ≤ w.length ∧ 0 ≤ (29 : Int))).bind fun _ => some (Fl.nx (ρ := Bool) (β := Unit) ((List.take (((29 : Int)).toNat) w).drop 0)) else some (.nx w)) (FlOk (fun u => AlongV n line u ∧ u.length % 2 = 1) (fun _ => False) (fun _ => False)) := by
      by_cases c : (w.length : Int) > 30
      · rw [if_pos (by rw [decide_eq_true_eq]; exact c), chk_t ⟨by omega, by omega⟩, Option.bind_some, ok_some, flok_nx, List.drop_zero, show (29 : Int).toNat = 29 from rfl]
        exact ⟨⟨by rw [List.length_take]; omega, fun q hq => w3 q (List.mem_of_mem_take hq)⟩, by rw [List.length_take]; omega⟩
      · rw [if_neg (by rw [decide_eq_true_eq]; exact c), ok_some, flok_nx]
        exact ⟨⟨by omega, w3⟩, w2⟩
    refine step2.fl (fun u hu => ?_) (fun _ h => h.elim) (fun _ h => h.elim)
    obtain ⟨hA, hodd⟩ := hu
    have hVt := hA.votes
    obtain ⟨K, em, hK⟩ := middle_ok n1 n6 hl hA (fun e => by subst e; simp at hodd)
    have hKn := hK.lt
    have hB := hK.beats hVt.2 hodd
    obtain ⟨T, eT, hT⟩ := duels_ok n1 n6 hVt
    have hTab : Tab n T (duel u) := ⟨hT, n1, n6, fun x y _ _ => by have := duel_bound u x y; have := hVt.1; omega, fun x _ => duel_self u x⟩
    obtain ⟨tK, tO⟩ := beats_tops hKn hB
    have pT : pickB (topB n (duel u)) n = [(K : Int)] := (pick_single (topB_iff.2 tK) n fun y hy h => tO y hy (topB_iff.1 h)).1 hKn
    have wK : WideWins n (duel u) K := fun y hy => by
      by_cases e : y = K
      · subst e; exact Int.le_refl _
      · have a := wide_out (d := duel u) hy hKn (fun h => e (tO y hy h)) tK n (Nat.le_refl _) hy hKn (fun h => e (tO y hy h)) tK
        have b := wide_nn (d := duel u) hTab.val n (Nat.le_refl _) hKn hy
        omega
    have pW : pickB (wideB n (duel u)) n = [(K : Int)] := (pick_single (wideB_iff.2 wK) n fun y hy h => tO y hy (wins_top n1 hTab.val hy (wideB_iff.1 h))).1 hKn
    obtain ⟨g, hg, eg⟩ := winners_am n1 n6 hVt (k := (3 : Int)) (by omega)
    have hgc : g = cope n (duel u) := by
      rcases hg with ⟨e, _⟩ | ⟨e, _⟩ | ⟨_, hg⟩ | ⟨e, _⟩ <;> first | omega | exact hg
    have mg : am g n = [K] := by rw [hgc]; exact am_only hKn (beats_cope hKn hB)
    obtain ⟨p, ep, hp, hbest⟩ := best_ok n1 n6 hVt
    have hp0 : nth p 0 = (K : Int) := by
      apply Decidable.byContradiction; intro hne
      have hi := hp.idx_lt hKn
      have hat := hp.at_idx hKn
      have h0 : p.idxOf (K : Int) ≠ 0 := fun e => hne (by rw [e] at hat; exact hat)
      obtain ⟨j, hj⟩ : ∃ j, p.idxOf (K : Int) = j + 1 := ⟨p.idxOf (K : Int) - 1, by omega⟩
      rw [hj] at hat hi
      have va := hp.val (show j < n by omega)
      have hn2 := best_next hp hbest hi
      rw [hat, Int.toNat_natCast] at hn2
      have hjk : (nth p j).toNat ≠ K := fun e => by
        have e1 := hp.idx (show j < n by omega)
        rw [show nth p j = (K : Int) by omega, hj] at e1; omega
      have := hB _ (show (nth p j).toNat < n by omega) hjk
      omega
    rw [em, Option.bind_some, eT, Option.bind_some]
    dsimp only
    rw [winners_ok hTab, Option.bind_some, top_ok hTab, Option.bind_some, eg, Option.bind_some, ep, Option.bind_some, works_m, Option.bind_some, ok_bindR, if_pos rfl, pT, pW, mg]
    dsimp only
    rw [tgood6, Option.bind_some, if_pos rfl, equal_ok, Option.bind_some, if_pos (by simp), Option.bind_some, if_pos (by simp), equal_ok, Option.bind_some, if_pos (by simp), if_pos (by rw [hp.len]; simp), show (0 : Int) = ((0 : Nat) : Int) from rfl, idx_nat, nth_at (by rw [hp.len]; omega), Option.bind_some, hp0]
    simp [ok_some, flok_nx]
end Go.Pu
