/- Roads that grow dearer by the crowd: loads, costs, the height, and what a move does to it. -/
import Derived.Test.YtfekdillbgblkaaWVotesOwnModels
import Derived.Test.YtfekdillbgblkaaPuMat
import Derived.Test.YtfekdillbgblkaaPuGood
import Derived.Test.YtfekdillbgblkaaPuEq
set_option linter.all false
namespace Go.Pu
open Go.Fw Go.Mo
def RowOk (n : Nat) (row : List Int) : Prop := row.length = n ∧ ∀ k, k < n → 0 ≤ nth row k ∧ nth row k ≤ 100 ∧ (0 < k → nth row (k - 1) ≤ nth row k)
structure Roads (x0 : List (List Int)) (x1 : List Int) : Prop where
  m1 : 1 ≤ x0.length
  m4 : x0.length ≤ 4
  n6 : x1.length ≤ 6
  row : ∀ r, r < x0.length → RowOk x1.length (nth x0 r)
  at_ : ∀ i, i < x1.length → 0 ≤ nth x1 i ∧ nth x1 i < x0.length
theorem rchk_row {n : Nat} {row : List Int} (h : row.length = n) (hn : n ≤ 9223372036854775807) : Ok (rangeL (ρ := Int) (γ := Unit) (roads_Check_b2 row) row 0 ()) (FlOk (fun _ => RowOk n row) (fun _ => False) (fun c => c ≠ 0 ∧ ¬ RowOk n row)) := by
  refine ok_rangeL (fun k _ => ∀ j, j < k → 0 ≤ nth row j ∧ nth row j ≤ 100 ∧ (0 < j → nth row (j - 1) ≤ nth row j)) (fun j hj => by omega) (fun k x u hk hI => ?_) fun _ hI => ⟨h, fun k hk => hI k (by omega)⟩
  obtain ⟨hx, hkl⟩ := nth_of hk
  subst hx
  unfold roads_Check_b2
  have bad : ∀ c : Int, c ≠ 0 → ¬ (0 ≤ nth row k ∧ nth row k ≤ 100 ∧ (0 < k → nth row (k - 1) ≤ nth row k)) → c ≠ 0 ∧ ¬ RowOk n row := fun c hc hn => ⟨hc, fun hr => hn (hr.2 k (by omega))⟩
  have good : 0 ≤ nth row k ∧ nth row k ≤ 100 ∧ (0 < k → nth row (k - 1) ≤ nth row k) → ∀ j, j < k + 1 → 0 ≤ nth row j ∧ nth row j ≤ 100 ∧ (0 < j → nth row (j - 1) ≤ nth row j) := fun hg j hj => by
    by_cases e : j = k
    · rw [e]; exact hg
    · exact hI j (by omega)
  rw [ok_bindF]
  by_cases c1 : nth row k < 0 ∨ nth row k > 100
  · have : (if decide (nth row k < (0 : Int)) then some (Fl.nx true) else some (Fl.nx (decide (nth row k > (100 : Int))))) = (some (Fl.nx true) : Option (Fl Int Unit Bool)) := by
      by_cases c2 : nth row k < 0
      · rw [if_pos (by simpa using c2)]
      · rw [if_neg (by simpa using c2)]; simp; omega
    rw [this, ok_some, flok_nx, if_pos rfl, ok_some, flok_rt]
    exact bad 1 (by decide) (by omega)
  · have : (if decide (nth row k < (0 : Int)) then some (Fl.nx true) else some (Fl.nx (decide (nth row k > (100 : Int))))) = (some (Fl.nx false) : Option (Fl Int Unit Bool)) := by
      rw [if_neg (by simp; omega)]; simp; omega
    rw [this, ok_some, flok_nx, if_neg (by decide), ok_bindF]
    by_cases c2 : 0 < k
    · rw [if_pos (by simpa using c2), wsub_of (by omega) (by omega), show (k : Int) - 1 = ((k - 1 : Nat) : Int) by omega, idx_nat, nth_at (by omega), Option.bind_some, ok_some, flok_nx]
      simp only [ok_ite, ok_some, flok_nx, flok_rt, decide_eq_true_eq]
      exact ⟨fun hc => bad 3 (by decide) (by omega), fun hc => good (by omega)⟩
    · rw [if_neg (by simpa using c2), ok_some, flok_nx, if_neg (by decide), ok_some, flok_nx]
      exact good (by omega)
theorem rchk_ok (x0 : List (List Int)) (x1 : List Int) (h0 : x0.length ≤ 9223372036854775807) (h1 : x1.length ≤ 9223372036854775807) : Ok (roads_Check_m x0 x1) (fun c => c = 0 ↔ Roads x0 x1) := by
  have bad : ∀ c : Int, c ≠ 0 → ¬ Roads x0 x1 → (c = 0 ↔ Roads x0 x1) := fun c hc hn => iff_of_false hc hn
  unfold roads_Check_m
  rw [ok_bindR]
  by_cases c1 : x0.length < 1 ∨ x0.length > 4 ∨ x1.length > 6
  · have : (if decide (((x0).length : Int) < (1 : Int)) then some (Fl.nx true) else (if decide (((x0).length : Int) > (4 : Int)) then some (.nx true) else some (.nx (decide (((x1).length : Int) > (6 : Int)))))) = (some (Fl.nx true) : Option (Fl Int Unit Bool)) := by
      by_cases c2 : (x0.length : Int) < 1
      · rw [if_pos (by simpa using c2)]
      · rw [if_neg (by simpa using c2)]
        by_cases c3 : (x0.length : Int) > 4
        · rw [if_pos (by simpa using c3)]
        · rw [if_neg (by simpa using c3)]; simp; omega
    rw [this, ok_some, flok_nx, if_pos rfl, ok_some]
    exact bad 2 (by decide) fun hr => by have := hr.m1; have := hr.m4; have := hr.n6; omega
  · have : (if decide (((x0).length : Int) < (1 : Int)) then some (Fl.nx true) else (if decide (((x0).length : Int) > (4 : Int)) then some (.nx true) else some (.nx (decide (((x1).length : Int) > (6 : Int)))))) = (some (Fl.nx false) : Option (Fl Int Unit Bool)) := by
      rw [if_neg (by simp; omega), if_neg (by simp; omega)]; simp; omega
    rw [this, ok_some, flok_nx, if_neg (by decide), ok_bindR]
    refine ok_rangeL (fun k _ => ∀ r, r < k → RowOk x1.length (nth x0 r)) (fun r hr => by omega) (fun k row u hk hI => ?_) fun _ hI => ?_
    · obtain ⟨hx, hkl⟩ := nth_of hk
      unfold roads_Check_b1
      rw [ok_ite]
      refine ⟨fun hne => ?_, fun heq => ?_⟩
      · rw [bne_iff_ne] at hne
        rw [ok_some, flok_rt]
        exact bad 3 (by decide) fun hr => hne (by have := (hr.row k hkl).1; rw [hx] at this; omega)
      · have heq : row.length = x1.length := by simp at heq; omega
        rw [ok_bindF]
        refine (rchk_row heq h1).mono fun v hv => ?_
        cases v with
        | br _ => exact hv.elim
        | rt c =>
          rw [flok_rt] at hv ⊢
          exact bad c hv.1 fun hr => hv.2 (by have := hr.row k hkl; rwa [hx] at this)
        | nx _ =>
          rw [flok_nx] at hv ⊢
          rw [ok_some, flok_nx]
          intro r hr
          by_cases e : r = k
          · rw [e, hx]; exact hv
          · exact hI r (by omega)
    · rw [ok_bindR]
      refine ok_rangeL (fun k _ => ∀ i, i < k → 0 ≤ nth x1 i ∧ nth x1 i < x0.length) (fun r hr => by omega) (fun k y u hk hJ => ?_) fun _ hJ => ?_
      · obtain ⟨hx, hkl⟩ := nth_of hk
        subst hx
        unfold roads_Check_b3
        rw [ok_bindF]
        by_cases c2 : nth x1 k < 0 ∨ nth x1 k ≥ x0.length
        · have : (if decide (nth x1 k < (0 : Int)) then some (Fl.nx true) else some (Fl.nx (decide (nth x1 k ≥ ((x0).length : Int))))) = (some (Fl.nx true) : Option (Fl Int Unit Bool)) := by
            by_cases c2 : nth x1 k < 0
            · rw [if_pos (by simpa using c2)]
            · rw [if_neg (by simpa using c2)]; simp; omega
          rw [this, ok_some, flok_nx, if_pos rfl, ok_some, flok_rt]
          exact bad 4 (by decide) fun hr => by have := hr.at_ k hkl; omega
        · have : (if decide (nth x1 k < (0 : Int)) then some (Fl.nx true) else some (Fl.nx (decide (nth x1 k ≥ ((x0).length : Int))))) = (some (Fl.nx false) : Option (Fl Int Unit Bool)) := by
            rw [if_neg (by simp; omega)]; simp; omega
          rw [this, ok_some, flok_nx, if_neg (by decide), ok_some, flok_nx]
          intro i hi
          by_cases e : i = k
          · rw [e]; omega
          · exact hJ i (by omega)
      · rw [ok_some]
        exact iff_of_true rfl ⟨by omega, by omega, by omega, hI, hJ⟩
theorem Roads.check {x0 : List (List Int)} {x1 : List Int} (h : Roads x0 x1) : roads_Check_m x0 x1 = some 0 := by
  have h4 := h.m4; have h6 := h.n6
  obtain ⟨c, e, hc⟩ := rchk_ok x0 x1 (by omega) (by omega)
  rw [e, hc.2 h]
/-- how many of the first k take r -/
def cnt (l : List Int) (r : Nat) (k : Nat) : Int := sumN k (fun i => if nth l i = (r : Int) then 1 else 0)
theorem cnt_bound (l : List Int) (r k : Nat) : 0 ≤ cnt l r k ∧ cnt l r k ≤ k := by
  unfold cnt
  induction k with
  | zero => simp [sumN]
  | succ k ih => simp only [sumN]; split <;> omega
theorem cnt_pos (l : List Int) (r k i : Nat) (hi : i < k) (h : nth l i = (r : Int)) : 1 ≤ cnt l r k := by
  induction k with
  | zero => omega
  | succ k ih =>
    have := cnt_bound l r k
    have e : cnt l r (k + 1) = cnt l r k + if nth l k = (r : Int) then 1 else 0 := rfl
    rw [e]
    by_cases hik : i = k
    · subst hik; rw [if_pos h]; omega
    · have := ih (by omega); split <;> omega
theorem load_ok {x0 : List (List Int)} {x1 : List Int} (h : Roads x0 x1) : ∃ l, roads_load_m x0 x1 = some l ∧ Vec x0.length l (fun r => cnt x1 r x1.length) := by
  have : Ok (roads_load_m x0 x1) (fun l => Vec x0.length l (fun r => cnt x1 r x1.length)) := by
    have h4 := h.m4; have h6 := h.n6
    unfold roads_load_m
    simp only [ok_bind, ok_chk, ok_bindR, ok_some, Int.toNat_natCast]
    refine ⟨by omega, ok_rangeL (fun k l => Vec x0.length l (fun r => cnt x1 r k)) (Vec.zero.congr fun x _ => rfl) (fun k y l hk hI => ?_) fun l hl => hl⟩
    obtain ⟨hy, hkl⟩ := nth_of hk
    have ha := h.at_ k hkl
    rw [hy] at ha
    obtain ⟨r, rfl⟩ : ∃ r : Nat, y = r := ⟨y.toNat, by omega⟩
    have hr : r < x0.length := by omega
    have hb := cnt_bound x1 r k
    unfold roads_load_b1
    simp only [idx_nat, hI.at? hr, Option.bind_some, Int.toNat_natCast, ok_some, flok_nx]
    rw [wadd_of (by omega) (by omega)]
    refine (hI.set hr _).congr fun q hq => ?_
    show _ = cnt x1 q k + if nth x1 k = (q : Int) then 1 else 0
    rw [hy]
    by_cases e : q = r
    · subst e; rw [if_pos rfl, if_pos rfl]
    · rw [if_neg e, if_neg (by omega)]; omega
  exact this
def hgt (x0 : List (List Int)) (x1 : List Int) (r : Nat) : Int := sumN (cnt x1 r x1.length).toNat (fun k => nth (nth x0 r) k)
def Hgt (x0 : List (List Int)) (x1 : List Int) : Int := sumN x0.length (hgt x0 x1)
theorem part_le {n : Nat} {row : List Int} (h : RowOk n row) : ∀ k : Nat, k ≤ n → 0 ≤ sumN k (fun j => nth row j) ∧ sumN k (fun j => nth row j) ≤ 100 * k := by
  intro k
  induction k with
  | zero => intro _; simp [sumN]
  | succ k ih => intro hk; have := ih (by omega); have := h.2 k (by omega); simp only [sumN]; omega
theorem hgt_le {x0 : List (List Int)} {x1 : List Int} (h : Roads x0 x1) {r : Nat} (hr : r < x0.length) : 0 ≤ hgt x0 x1 r ∧ hgt x0 x1 r ≤ 600 := by
  have h6 := h.n6
  have hb := cnt_bound x1 r x1.length
  have := part_le (h.row r hr) (cnt x1 r x1.length).toNat (by omega)
  unfold hgt; omega
theorem Hgts_le {x0 : List (List Int)} {x1 : List Int} (h : Roads x0 x1) : ∀ k : Nat, k ≤ x0.length → 0 ≤ sumN k (hgt x0 x1) ∧ sumN k (hgt x0 x1) ≤ 600 * k := by
  intro k
  induction k with
  | zero => intro _; simp [sumN]
  | succ k ih => intro hk; have := ih (by omega); have := hgt_le h (r := k) (by omega); simp only [sumN]; omega
theorem Hgt_le {x0 : List (List Int)} {x1 : List Int} (h : Roads x0 x1) : 0 ≤ Hgt x0 x1 ∧ Hgt x0 x1 ≤ 2400 := by
  have := Hgts_le h x0.length (Nat.le_refl _)
  have h4 := h.m4
  unfold Hgt; omega
theorem height_ok {x0 : List (List Int)} {x1 : List Int} (h : Roads x0 x1) : roads_Height_m x0 x1 = some (Hgt x0 x1, 0) := by
  obtain ⟨l, el, hl⟩ := load_ok h
  have h4 := h.m4; have h6 := h.n6
  apply Ok.eq
  unfold roads_Height_m
  rw [h.check, Option.bind_some, if_neg (by decide), el, Option.bind_some, ok_bindR, hl.len]
  refine ok_rangeN (fun k (s : Int) => s = sumN k (hgt x0 x1)) rfl (fun r s hr hI => ?_) fun s hs => by rw [ok_some, hs]; rfl
  have hrow := h.row r hr
  have hb := cnt_bound x1 r x1.length
  have hs := Hgts_le h r (by omega)
  have hp := part_le hrow
  unfold roads_Height_b1
  rw [idx_nat, hl.at? hr, Option.bind_some, idx_nat, nth_at hr, Option.bind_some, chk_t (by have := hrow.1; omega), Option.bind_some, List.drop_zero, ok_bindF]
  refine ok_rangeL (fun k (s : Int) => s = sumN r (hgt x0 x1) + sumN k (fun j => nth (nth x0 r) j)) (by rw [hI]; simp [sumN]) (fun k y s hk hJ => ?_) fun s hs => ?_
  · have hk' := (List.getElem?_eq_some_iff.1 hk).1
    rw [List.length_take] at hk'
    rw [List.getElem?_take_of_lt (by omega)] at hk
    obtain ⟨hy, hkl⟩ := nth_of hk
    have p1 := hp k (by have := hrow.1; omega)
    have p2 := hp (k + 1) (by have := hrow.1; omega)
    simp only [sumN] at p2
    have hv := hrow.2 k (by have := hrow.1; omega)
    unfold roads_Height_b2
    rw [ok_some, flok_nx, hJ, ← hy, wadd_of (by omega) (by omega)]
    simp only [sumN]; omega
  · rw [ok_some, flok_nx, hs, List.length_take]
    have : min (cnt x1 r x1.length).toNat (nth x0 r).length = (cnt x1 r x1.length).toNat := by have := hrow.1; omega
    rw [this]; rfl
/-- what i pays -/
def pay (x0 : List (List Int)) (x1 : List Int) (i : Nat) : Int := nth (nth x0 (nth x1 i).toNat) ((cnt x1 (nth x1 i).toNat x1.length).toNat - 1)
theorem pay_le {x0 : List (List Int)} {x1 : List Int} (h : Roads x0 x1) {i : Nat} (hi : i < x1.length) : 0 ≤ pay x0 x1 i ∧ pay x0 x1 i ≤ 100 := by
  have ha := h.at_ i hi
  have hb := cnt_bound x1 (nth x1 i).toNat x1.length
  have hc := cnt_pos x1 (nth x1 i).toNat x1.length i hi (by omega)
  have := (h.row (nth x1 i).toNat (by omega)).2 ((cnt x1 (nth x1 i).toNat x1.length).toNat - 1) (by omega)
  unfold pay; omega
theorem costs_ok {x0 : List (List Int)} {x1 : List Int} (h : Roads x0 x1) : ∃ c, roads_Costs_m x0 x1 = some (c, 0) ∧ Vec x1.length c (pay x0 x1) := by
  obtain ⟨l, el, hl⟩ := load_ok h
  have h4 := h.m4; have h6 := h.n6
  have : Ok (roads_Costs_m x0 x1) (fun r => r.2 = 0 ∧ Vec x1.length r.1 (pay x0 x1)) := by
    unfold roads_Costs_m
    rw [h.check, Option.bind_some, if_neg (by decide), el, Option.bind_some, chk_t (by omega), Option.bind_some, ok_bindR, Int.toNat_natCast]
    refine ok_rangeL (fun k c => Vec x1.length c (fun i => if i < k then pay x0 x1 i else 0)) (Vec.zero.congr fun x _ => by simp) (fun k y c hk hI => ?_) fun c hc => by rw [ok_some]; exact ⟨rfl, hc.congr fun i hi => by rw [if_pos hi]⟩
    obtain ⟨hy, hkl⟩ := nth_of hk
    have ha := h.at_ k hkl
    rw [hy] at ha
    obtain ⟨r, rfl⟩ : ∃ r : Nat, y = r := ⟨y.toNat, by omega⟩
    have hr : r < x0.length := by omega
    have hb := cnt_bound x1 r x1.length
    have hc := cnt_pos x1 r x1.length k hkl hy
    have hrow := h.row r hr
    have hp : pay x0 x1 k = nth (nth x0 r) ((cnt x1 r x1.length).toNat - 1) := by unfold pay; rw [hy]; rfl
    unfold roads_Costs_b1
    rw [idx_nat, nth_at hr, Option.bind_some, idx_nat, hl.at? hr, Option.bind_some, wsub_of (by omega) (by omega), show cnt x1 r x1.length - 1 = (((cnt x1 r x1.length).toNat - 1 : Nat) : Int) by omega, idx_nat, nth_at (by have := hrow.1; omega), Option.bind_some, idx_nat, nth_at (by rw [hI.len]; exact hkl), Option.bind_some, ok_some, flok_nx, ← hp]
    refine (hI.set hkl _).congr fun q hq => ?_
    by_cases e : q = k
    · subst e; rw [if_pos rfl, if_pos (by omega)]
    · rw [if_neg e]
      by_cases c : q < k
      · rw [if_pos c, if_pos (by omega)]
      · rw [if_neg c, if_neg (by omega)]
  obtain ⟨⟨c, e⟩, h1, h2, h3⟩ := this
  simp only at h2 h3
  subst h2
  exact ⟨c, h1, h3⟩
/-- one entry of a sum is another -/
theorem sumN_but {n i : Nat} {f g : Nat → Int} (hi : i < n) (h : ∀ j, j < n → j ≠ i → g j = f j) : sumN n g = sumN n f - f i + g i := by
  have : sumN n g = sumN n (fun j => f j + if j = i then g i - f i else 0) := sumN_congr fun j hj => by
    by_cases e : j = i
    · subst e; rw [if_pos rfl]; omega
    · rw [if_neg e, h j hj e]; omega
  rw [this, sumN_add, sumN_single hi]; omega
theorem cnt_set {l : List Int} {i n : Nat} {x : Int} (hi : i < l.length) (hn : l.length = n) (q : Nat) : cnt (l.set i x) q n = cnt l q n - (if nth l i = (q : Int) then 1 else 0) + if x = (q : Int) then 1 else 0 := by
  unfold cnt
  rw [sumN_but (i := i) (f := fun j => if nth l j = (q : Int) then 1 else 0) (by omega) fun j hj hne => by rw [nth_set hi, if_neg hne]]
  rw [nth_set hi, if_pos rfl]
theorem Roads.set {x0 : List (List Int)} {x1 : List Int} (h : Roads x0 x1) {i r : Nat} (hi : i < x1.length) (hr : r < x0.length) : Roads x0 (x1.set i (r : Int)) := by
  refine ⟨h.m1, h.m4, by simpa using h.n6, fun q hq => by simpa using h.row q hq, fun j hj => ?_⟩
  rw [nth_set hi]
  split
  · omega
  · exact h.at_ j (by simpa using hj)
/-- a move: the height goes as the mover's pay -/
theorem move_ok {x0 : List (List Int)} {x1 : List Int} (h : Roads x0 x1) {i r : Nat} (hi : i < x1.length) (hr : r < x0.length) : Hgt x0 (x1.set i (r : Int)) - Hgt x0 x1 = pay x0 (x1.set i (r : Int)) i - pay x0 x1 i := by
  have ha := h.at_ i hi
  obtain ⟨a, hai⟩ : ∃ a : Nat, nth x1 i = (a : Int) := ⟨(nth x1 i).toNat, by omega⟩
  rw [hai] at ha
  have hc := fun q => cnt_set (x := (r : Int)) hi rfl q
  by_cases e : r = a
  · subst e
    have : x1.set i (r : Int) = x1 := by
      refine nth_ext (by simp) fun k hk => ?_
      rw [nth_set hi]
      split
      · rename_i e; rw [e, hai]
      · rfl
    rw [this]; omega
  · have l1 := cnt_pos x1 a x1.length i hi hai
    have b1 := cnt_bound x1 r x1.length
    have p1 : pay x0 x1 i = nth (nth x0 a) ((cnt x1 a x1.length).toNat - 1) := by unfold pay; rw [hai]; rfl
    have p2 : pay x0 (x1.set i (r : Int)) i = nth (nth x0 r) (cnt x1 r x1.length).toNat := by
      unfold pay
      rw [nth_set hi, if_pos rfl, Int.toNat_natCast, List.length_set, hc r, hai, if_neg (by omega), if_pos rfl]
      have : (cnt x1 r x1.length - 0 + 1).toNat - 1 = (cnt x1 r x1.length).toNat := by omega
      rw [this]
    rw [p1, p2]
    have e3 : Hgt x0 (x1.set i (r : Int)) = sumN x0.length (fun q => hgt x0 x1 q + ((if q = r then nth (nth x0 r) (cnt x1 r x1.length).toNat else 0) + (if q = a then - nth (nth x0 a) ((cnt x1 a x1.length).toNat - 1) else 0))) := sumN_congr fun q hq => by
      unfold hgt
      rw [List.length_set, hc q, hai]
      by_cases e1 : q = r
      · subst e1
        rw [if_neg (by omega), if_pos rfl, if_pos rfl, if_neg (by omega)]
        have : (cnt x1 q x1.length - 0 + 1).toNat = (cnt x1 q x1.length).toNat + 1 := by omega
        rw [this]; simp only [sumN]; omega
      · by_cases e2 : q = a
        · subst e2
          rw [if_pos rfl, if_neg (by omega), if_neg e1, if_pos rfl]
          obtain ⟨z, hz⟩ : ∃ z : Nat, cnt x1 q x1.length = (z : Int) + 1 := ⟨(cnt x1 q x1.length).toNat - 1, by omega⟩
          rw [hz]
          have z1 : ((z : Int) + 1 - 1 + 0).toNat = z := by omega
          have z2 : ((z : Int) + 1).toNat = z + 1 := by omega
          rw [z1, z2]; simp only [sumN, Nat.add_sub_cancel]; omega
        · rw [if_neg (by omega), if_neg (by omega), if_neg e1, if_neg e2]
          simp
    rw [e3, sumN_add, sumN_add, sumN_single hr, sumN_single (show a < x0.length by omega)]
    unfold Hgt; omega
theorem crowds_t : pk_crowds_m = some true := by decide +kernel
theorem height_bad {x0 : List (List Int)} {x1 : List Int} {c : Int} (e : roads_Check_m x0 x1 = some c) (h : c ≠ 0) : roads_Height_m x0 x1 = some (0, c) := by
  unfold roads_Height_m; rw [e, Option.bind_some, if_pos (by simpa using h)]
theorem costs_bad {x0 : List (List Int)} {x1 : List Int} {c : Int} (e : roads_Check_m x0 x1 = some c) (h : c ≠ 0) : roads_Costs_m x0 x1 = some ([], c) := by
  unfold roads_Costs_m; rw [e, Option.bind_some, if_pos (by simpa using h)]
end Go.Pu
