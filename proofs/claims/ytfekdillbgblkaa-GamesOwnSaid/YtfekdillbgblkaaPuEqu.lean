/- Games of two, as tables: who would rather do something else, and what is left of what is never worse. -/
import Derived.Test.YtfekdillbgblkaaWGamesOwnModels
import Derived.Test.YtfekdillbgblkaaPuSad
set_option linter.all false
namespace Go.Pu
open Go.Fw Go.Mo
theorem eq_check {r c : Nat} {a b : List (List Int)} {f g : Nat → Nat → Int} (ha : Tbl r c a f) (hb : Tbl r c b g) : equil_Check_m a b = some 0 := by
  apply Ok.eq
  unfold equil_Check_m
  rw [sad_ok ha, Option.bind_some, if_neg (by simp), sad_ok hb, Option.bind_some, if_neg (by simp), ha.mat.len, hb.mat.len, bne_self_eq_false, if_neg (by decide), show (0 : Int) = ((0 : Nat) : Int) from rfl, idx_nat, ha.mat.row? ha.r1, Option.bind_some, idx_nat, hb.mat.row? hb.r1, Option.bind_some, ok_bindR, ok_some, flok_nx, ha.mat.row 0 ha.r1, hb.mat.row 0 hb.r1, bne_self_eq_false, if_neg (by decide), ok_some]
theorem eq_split (a b : List (List Int)) : (∃ r c f g, Tbl r c a f ∧ Tbl r c b g) ∨ ∃ e, e ≠ 0 ∧ equil_Check_m a b = some e := by
  unfold equil_Check_m
  rcases sad_split a with ⟨r, c, f, ha⟩ | ⟨e, he, hc⟩
  · rcases sad_split b with ⟨r', c', g, hb⟩ | ⟨e, he, hc⟩
    · by_cases h1 : r = r'
      · by_cases h2 : c = c'
        · subst h1 h2; exact .inl ⟨r, c, f, g, ha, hb⟩
        · right
          refine ⟨3, by decide, Ok.eq ?_⟩
          rw [sad_ok ha, Option.bind_some, if_neg (by simp), sad_ok hb, Option.bind_some, if_neg (by simp), ha.mat.len, hb.mat.len, h1, bne_self_eq_false, if_neg (by decide), show (0 : Int) = ((0 : Nat) : Int) from rfl, idx_nat, ha.mat.row? ha.r1, Option.bind_some, idx_nat, hb.mat.row? hb.r1, Option.bind_some, ok_bindR, ok_some, flok_nx, ha.mat.row 0 ha.r1, hb.mat.row 0 hb.r1, if_pos (by simp; omega), ok_some]
      · right
        refine ⟨3, by decide, Ok.eq ?_⟩
        rw [sad_ok ha, Option.bind_some, if_neg (by simp), sad_ok hb, Option.bind_some, if_neg (by simp), ha.mat.len, hb.mat.len, if_pos (by simp; omega), ok_bindR, ok_some, flok_nx, if_pos rfl, ok_some]
    · exact .inr ⟨e, he, by rw [sad_ok ha, Option.bind_some, if_neg (by simp), hc, Option.bind_some, if_pos (by simpa using he)]⟩
  · exact .inr ⟨e, he, by rw [hc, Option.bind_some, if_pos (by simpa using he)]⟩
def isEq (r c : Nat) (f g : Nat → Nat → Int) (x y : Nat) : Bool := decide ((∀ k, k < r → f k y ≤ f x y) ∧ ∀ k, k < c → g x k ≤ g x y)
theorem isEq_iff {r c : Nat} {f g : Nat → Nat → Int} {x y : Nat} : isEq r c f g x y = true ↔ (∀ k, k < r → f k y ≤ f x y) ∧ ∀ k, k < c → g x k ≤ g x y := by unfold isEq; simp
theorem rest_ok {r c : Nat} {a b : List (List Int)} {f g : Nat → Nat → Int} (ha : Tbl r c a f) (hb : Tbl r c b g) : equil_Rest_m a b = some (ptsL c (isEq r c f g) r, 0) := by
  apply Ok.eq
  have hl := ha.mat.len; have h1 := ha.r1; have h6 := ha.r6; have c6 := ha.c6
  unfold equil_Rest_m
  rw [eq_check ha hb, Option.bind_some, if_neg (by simp), ok_bindR]
  refine ok_rangeL (fun k (l : List (List Int)) => l = ptsL c (isEq r c f g) k) rfl (fun k row l hk hI => ?_) fun l hl' => by rw [ok_some, hl', hl]
  obtain ⟨hr, hkl⟩ := nth_of hk
  have hrow := ha.mat.row k (by omega)
  rw [hr] at hrow
  unfold equil_Rest_b1
  rw [ok_bindF]
  refine ok_rangeL (fun j (l : List (List Int)) => l = ptsL c (isEq r c f g) k ++ rowP k (isEq r c f g) j) (by simp [rowP, hI]) (fun j v l hj hJ => ?_) fun l hl' => by rw [ok_some, flok_nx, hl', hrow]; rfl
  obtain ⟨hv, hjl⟩ := nth_of hj
  have hcell := ha.mat.cell? (x := k) (y := j) (by omega) (by omega)
  rw [hr] at hcell
  have ll : l.length ≤ 72 := by
    rw [hJ, List.length_append]
    have q1 := @len_ptsL_le k c (isEq r c f g)
    have q2 := @len_rowP_le k (isEq r c f g) j
    have : k * c ≤ 5 * 6 := Nat.mul_le_mul (by omega) c6
    omega
  unfold equil_Rest_b2
  rw [ok_bindF]
  refine ok_rangeL (fun q (b' : Bool) => b' = true ↔ ∀ x, x < q → f x j ≤ f k j) (by simp) (fun q row' b' hq hb' => ?_) fun b' hb' => ?_
  · obtain ⟨hr', hql⟩ := nth_of hq
    have hc := ha.mat.cell? (x := q) (y := j) (by omega) (by omega)
    rw [hr'] at hc
    unfold equil_Rest_b3
    simp only [ok_bindF, ok_ite, ok_some, flok_nx, idx_nat, hc, hcell, Option.bind_some]
    grind
  · rw [hl] at hb'
    rw [idx_nat, hb.mat.row? (by omega), Option.bind_some, ok_bindF]
    refine ok_rangeL (fun q (b'' : Bool) => b'' = true ↔ b' = true ∧ ∀ y, y < q → g k y ≤ g k j) (by simp) (fun q v b'' hq hb'' => ?_) fun b'' hb'' => ?_
    · obtain ⟨hv, hql⟩ := nth_of hq
      rw [hb.mat.row k (by omega)] at hql
      have hc := hb.mat.at_ k q (by omega) hql
      rw [hv] at hc
      unfold equil_Rest_b4
      simp only [ok_bindF, ok_ite, ok_some, flok_nx, idx_nat, hb.mat.row? (show k < r by omega), hb.mat.cell? (show k < r by omega) (show j < c by omega), Option.bind_some, hc]
      grind
    · rw [hb.mat.row k (by omega), hb'] at hb''
      have he : b'' = isEq r c f g k j := by
        rw [Bool.eq_iff_iff, hb'', isEq_iff]
      rw [he]
      cases hp : isEq r c f g k j with
      | true =>
        rw [if_pos rfl, chk_t (by simp; omega), Option.bind_some, ok_some, flok_nx, hJ]
        simp [rowP, hp]
      | false =>
        rw [if_neg (by decide), ok_some, flok_nx, hJ]
        simp [rowP, hp]
theorem rest_no {a b : List (List Int)} {e : Int} (he : e ≠ 0) (h : equil_Check_m a b = some e) : equil_Rest_m a b = some ([], e) := by
  unfold equil_Rest_m; rw [h, Option.bind_some, if_pos (by simpa using he)]
theorem left_no {a b : List (List Int)} {e : Int} (he : e ≠ 0) (h : equil_Check_m a b = some e) : equil_Left_m a b = some ([], [], e) := by
  unfold equil_Left_m; rw [h, Option.bind_some, if_pos (by simpa using he)]
theorem equils_t : pk_equils_m = some true := by decide +kernel
/-! ### taking away what is worse -/
/-- line i is less than line k in each place that is left -/
def Dom (c : Nat) (f : Nat → Nat → Int) (L : List Bool) (i k : Nat) : Prop := ∀ y, y < c → nth L y = true → f i y < f k y
theorem worse_ok {r c : Nat} {m : List (List Int)} {f : Nat → Nat → Int} (h : Mat r c m f) (h1 : 1 ≤ r) (c6 : c ≤ 6) {L : List Bool} (hL : L.length = 6) {i k : Nat} (hi : i < r) (hk : k < r) : ∃ b, equil_worse_m m (i : Int) (k : Int) L = some b ∧ (b = true ↔ Dom c f L i k) := by
  have : Ok (equil_worse_m m (i : Int) (k : Int) L) (fun b => b = true ↔ Dom c f L i k) := by
    unfold equil_worse_m
    rw [show (0 : Int) = ((0 : Nat) : Int) from rfl, idx_nat, h.row? h1, Option.bind_some, ok_bindR]
    refine ok_rangeL (fun j _ => ∀ y, y < j → nth L y = true → f i y < f k y) (by intro y hy; omega) (fun j v u hj hJ => ?_) fun u hu => ?_
    · have hjl := (nth_of hj).2
      rw [h.row 0 h1] at hjl
      unfold equil_worse_b1
      simp only [idx_nat, nth_at (show j < L.length by omega), h.row? hi, h.row? hk, h.cell? hi hjl, h.cell? hk hjl, Option.bind_some, ok_bindF, ok_ite, ok_some, flok_nx, flok_rt, decide_eq_true_eq, Bool.false_eq_true, false_iff]
      refine ⟨fun ht => ⟨fun hge hD => ?_, fun hlt y hy hyL => ?_⟩, fun hf => ⟨fun hh => hh.elim, fun _ y hy hyL => ?_⟩⟩
      · have := hD j hjl ht; omega
      · by_cases e : y = j
        · subst e; omega
        · exact hJ y (by omega) hyL
      · by_cases e : y = j
        · subst e; exact absurd hyL hf
        · exact hJ y (by omega) hyL
    · rw [h.row 0 h1] at hu
      rw [ok_some]
      exact ⟨fun _ => hu, fun _ => rfl⟩
  obtain ⟨b, h1, h2⟩ := this
  exact ⟨b, h1, h2⟩
def cb (R : List Bool) : Int := sumN 6 (fun k => if nth R k then 1 else 0)
theorem cb_bound (R : List Bool) : 0 ≤ cb R ∧ cb R ≤ 6 := by
  have l := sumN_le (n := 6) (f := fun _ => 0) (g := fun k => if nth R k then 1 else 0) fun x _ => by split <;> omega
  have u := sumN_le (n := 6) (f := fun k => if nth R k then 1 else 0) (g := fun _ => 1) fun x _ => by split <;> omega
  rw [sumN_zero] at l
  rw [sumN_const] at u
  unfold cb; omega
theorem cb_set {R : List Bool} (hR : R.length = 6) {i : Nat} (hi : i < 6) (ht : nth R i = true) : cb (R.set i false) = cb R - 1 := by
  have e : cb (R.set i false) = sumN 6 (fun k => (if nth R k then 1 else 0) - if k = i then 1 else 0) := by
    unfold cb
    refine sumN_congr fun k hk => ?_
    rw [nth_set (by omega)]
    by_cases e : k = i
    · subst e; rw [if_pos rfl, if_pos rfl, ht]; rfl
    · rw [if_neg e, if_neg e]; omega
  rw [e, sumN_sub, sumN_single hi]; rfl
structure Passed (n : Nat) (D : Nat → Nat → Prop) (K : List Bool → Prop) (R0 : List Bool) (x0 : Bool) (seen : Nat → Nat → Prop) (R : List Bool) (x : Bool) : Prop where
  len : R.length = 6
  keep : K R
  le : cb R ≤ cb R0
  same : x = false → x0 = false ∧ R = R0 ∧ ∀ i k, seen i k → nth R0 i = true → nth R0 k = true → ¬ D i k
  less : x = true → x0 = true ∨ cb R < cb R0
theorem pass_ok {r c : Nat} {m : List (List Int)} {f : Nat → Nat → Int} (h : Mat r c m f) (h1 : 1 ≤ r) (r6 : r ≤ 6) (c6 : c ≤ 6) {L : List Bool} (hL : L.length = 6) {K : List Bool → Prop} (hK : ∀ R i k, R.length = 6 → i < r → k < r → K R → nth R i = true → nth R k = true → Dom c f L i k → K (R.set i false)) {R0 : List Bool} {x0 : Bool} (hR0 : R0.length = 6) (hK0 : K R0) :
    Ok (rangeL (γ := (List Bool) × (List Bool) × Bool) (equil_Left_b4 m L) m 0 (R0, x0)) (FlOk (fun s => Passed r (Dom c f L) K R0 x0 (fun i k => i < r ∧ k < r) s.1 s.2) (fun _ => False) (fun _ => False)) := by
  have hl := h.len
  refine ok_rangeL (fun i (s : List Bool × Bool) => Passed r (Dom c f L) K R0 x0 (fun p q => p < i ∧ q < r) s.1 s.2) ⟨hR0, hK0, Int.le_refl _, fun hx => ⟨hx, rfl, fun p q hs => by omega⟩, fun hx => .inl hx⟩ (fun i row s hi hI => ?_) fun s hs => by rw [hl] at hs; exact hs
  have hil := (nth_of hi).2
  obtain ⟨R, x⟩ := s
  simp only at hI
  unfold equil_Left_b4
  simp only
  rw [ok_bindF]
  refine ok_rangeL (fun k (s : List Bool × Bool) => Passed r (Dom c f L) K R0 x0 (fun p q => (p < i ∧ q < r) ∨ (p = i ∧ q < k)) s.1 s.2) ⟨hI.len, hI.keep, hI.le, fun hx => ?_, hI.less⟩ (fun k row' s hk hJ => ?_) fun s hs => ?_
  · obtain ⟨s1, s2, s3⟩ := hI.same hx
    exact ⟨s1, s2, fun p q hs => s3 p q (by omega)⟩
  · have hkl := (nth_of hk).2
    obtain ⟨R, x⟩ := s
    simp only at hJ
    have hlen := hJ.len
    obtain ⟨b, eb, hb⟩ := worse_ok h h1 c6 hL (show i < r by omega) (show k < r by omega)
    have next : ¬ (nth R i = true ∧ nth R k = true ∧ Dom c f L i k) → Passed r (Dom c f L) K R0 x0 (fun p q => (p < i ∧ q < r) ∨ (p = i ∧ q < k + 1)) R x := fun hno => ⟨hlen, hJ.keep, hJ.le, fun hx => by
      obtain ⟨s1, s2, s3⟩ := hJ.same hx
      refine ⟨s1, s2, fun p q hs hp hq hD => ?_⟩
      by_cases e : p = i ∧ q = k
      · obtain ⟨rfl, rfl⟩ := e
        rw [← s2] at hp hq
        exact hno ⟨hp, hq, hD⟩
      · exact s3 p q (by omega) hp hq hD, hJ.less⟩
    unfold equil_Left_b5
    simp only [idx_nat, nth_at (show i < R.length by omega), nth_at (show k < R.length by omega), eb, Option.bind_some]
    rw [ok_bindF]
    by_cases hi' : nth R i = true
    · rw [if_pos hi']
      by_cases hk' : nth R k = true
      · rw [if_pos hk', ok_some, flok_nx]
        cases hbb : b with
        | true =>
          rw [if_pos rfl, ok_some, flok_nx]
          have hD := hb.1 hbb
          have hc := cb_set hlen (show i < 6 by omega) hi'
          have := hJ.le
          exact ⟨by simpa using hlen, hK R i k hlen (by omega) (by omega) hJ.keep hi' hk' hD, by simp only; omega, fun hx => by simp at hx, fun _ => .inr (by simp only; omega)⟩
        | false =>
          rw [if_neg (by decide), ok_some, flok_nx]
          exact next fun hh => by have := hb.2 hh.2.2; rw [hbb] at this; cases this
      · rw [if_neg hk', ok_some, flok_nx, if_neg (by decide), ok_some, flok_nx]
        exact next fun hh => hk' hh.2.1
    · rw [if_neg hi', ok_some, flok_nx, if_neg (by decide), ok_some, flok_nx]
      exact next fun hh => hi' hh.1
  · obtain ⟨R, x⟩ := s
    simp only at hs
    simp only
    rw [ok_some, flok_nx]
    refine ⟨hs.len, hs.keep, hs.le, fun hx => ?_, hs.less⟩
    obtain ⟨s1, s2, s3⟩ := hs.same hx
    exact ⟨s1, s2, fun p q hh => s3 p q (by omega)⟩
def full (n : Nat) : List Bool := (List.range 6).map fun k => decide (k < n)
theorem full_len (n : Nat) : (full n).length = 6 := by simp [full]
theorem full_nth {n k : Nat} (hk : k < 6) : nth (full n) k = decide (k < n) := by
  unfold full
  rw [nth_map (by simpa using hk)]
  have : nth (List.range 6) k = k := by rw [nth_get (by simpa using hk)]; simp
  rw [this]
/-- what is known of what is left -/
structure LeftI (r c : Nat) (f g : Nat → Nat → Int) (R C : List Bool) : Prop where
  rl : R.length = 6
  cl : C.length = 6
  rs : ∀ k, k < 6 → nth R k = true → k < r
  cs : ∀ k, k < 6 → nth C k = true → k < c
  eqs : ∀ x y, x < r → y < c → isEq r c f g x y = true → nth R x = true ∧ nth C y = true
  rm : ∀ y x, y < c → x < r → nth C y = true → (∀ k, k < r → f k y ≤ f x y) → nth R x = true
  cm : ∀ x y, x < r → y < c → nth R x = true → (∀ k, k < c → g x k ≤ g x y) → nth C y = true
  rn : ∃ x, x < r ∧ nth R x = true
  cn : ∃ y, y < c ∧ nth C y = true
  no : (∀ i k, i < r → k < r → ¬ Dom c f (full c) i k) → (∀ i k, i < c → k < c → ¬ Dom r (fun y x => g x y) (full r) i k) → R = full r ∧ C = full c
theorem maxOf {n : Nat} (h1 : 1 ≤ n) (v : Nat → Int) : ∃ k, k < n ∧ ∀ j, j < n → v j ≤ v k := by
  have : ∀ q, q < n → ∃ m, m ≤ q ∧ ∀ j, j ≤ q → v j ≤ v m := by
    intro q
    induction q with
    | zero => intro _; exact ⟨0, Nat.le_refl _, fun j hj => by rw [show j = 0 by omega]; exact Int.le_refl _⟩
    | succ q ih =>
      intro hq
      obtain ⟨m, hm, h⟩ := ih (by omega)
      by_cases c : v (q + 1) ≤ v m
      · exact ⟨m, by omega, fun j hj => by
          by_cases e : j = q + 1
          · rw [e]; exact c
          · exact h j (by omega)⟩
      · exact ⟨q + 1, Nat.le_refl _, fun j hj => by
          by_cases e : j = q + 1
          · rw [e]; exact Int.le_refl _
          · have := h j (by omega); omega⟩
  obtain ⟨m, hm, h⟩ := this (n - 1) (by omega)
  exact ⟨m, by omega, fun j hj => h j (by omega)⟩
theorem LeftI.dropRow {r c : Nat} {f g : Nat → Nat → Int} {R C : List Bool} (h1 : 1 ≤ r) (r6 : r ≤ 6) (h : LeftI r c f g R C) {i k : Nat} (hi : i < r) (hk : k < r) (hiR : nth R i = true) (hkR : nth R k = true) (hD : Dom c f C i k) : LeftI r c f g (R.set i false) C := by
  have hl := h.rl
  have st : ∀ j, nth (R.set i false) j = if j = i then false else nth R j := fun j => nth_set (by omega)
  have rm : ∀ y x, y < c → x < r → nth C y = true → (∀ k, k < r → f k y ≤ f x y) → nth (R.set i false) x = true := fun y x hy hx hyC hmax => by
    rw [st]
    by_cases e : x = i
    · subst e
      have := hD y hy hyC
      have := hmax k hk
      omega
    · rw [if_neg e]; exact h.rm y x hy hx hyC hmax
  refine ⟨by simpa using hl, h.cl, fun j hj ht => ?_, h.cs, fun x y hx hy he => ?_, rm, fun x y hx hy ht => ?_, ?_, h.cn, fun n1 n2 => ?_⟩
  · rw [st] at ht
    by_cases e : j = i
    · rw [if_pos e] at ht; cases ht
    · rw [if_neg e] at ht; exact h.rs j hj ht
  · obtain ⟨q1, q2⟩ := h.eqs x y hx hy he
    refine ⟨?_, q2⟩
    rw [st]
    by_cases e : x = i
    · subst e
      have := hD y hy q2
      have := (isEq_iff.1 he).1 k hk
      omega
    · rw [if_neg e]; exact q1
  · rw [st] at ht
    by_cases e : x = i
    · rw [if_pos e] at ht; cases ht
    · rw [if_neg e] at ht; exact h.cm x y hx hy ht
  · obtain ⟨y, hy, hyC⟩ := h.cn
    obtain ⟨x, hx, hmax⟩ := maxOf h1 (fun x => f x y)
    exact ⟨x, hx, rm y x hy hx hyC hmax⟩
  · obtain ⟨e1, e2⟩ := h.no n1 n2
    rw [e2] at hD
    exact absurd hD (n1 i k hi hk)
theorem LeftI.swap {r c : Nat} {f g : Nat → Nat → Int} {R C : List Bool} (h : LeftI r c f g R C) : LeftI c r (fun y x => g x y) (fun y x => f x y) C R :=
  ⟨h.cl, h.rl, h.cs, h.rs, fun y x hy hx he => (h.eqs x y hx hy (isEq_iff.2 ⟨(isEq_iff.1 he).2, (isEq_iff.1 he).1⟩)).symm, fun x y hx hy => h.cm x y hx hy, fun y x hy hx => h.rm y x hy hx, h.cn, h.rn, fun n1 n2 => (h.no n2 n1).symm⟩
theorem left_start {r c : Nat} (f g : Nat → Nat → Int) (r1 : 1 ≤ r) (r6 : r ≤ 6) (c1 : 1 ≤ c) (c6 : c ≤ 6) : LeftI r c f g (full r) (full c) := by
  refine ⟨full_len r, full_len c, fun k hk ht => ?_, fun k hk ht => ?_, fun x y hx hy _ => ?_, fun y x hy hx _ _ => ?_, fun x y hx hy _ _ => ?_, ⟨0, r1, ?_⟩, ⟨0, c1, ?_⟩, fun _ _ => ⟨rfl, rfl⟩⟩
  · rw [full_nth hk] at ht; simpa using ht
  · rw [full_nth hk] at ht; simpa using ht
  · rw [full_nth (by omega), full_nth (by omega)]; simp [hx, hy]
  · rw [full_nth (by omega)]; simp [hx]
  · rw [full_nth (by omega)]; simp [hy]
  · rw [full_nth (by omega)]; exact decide_eq_true (by omega)
  · rw [full_nth (by omega)]; exact decide_eq_true (by omega)
theorem turned_ok {r c : Nat} {m : List (List Int)} {f : Nat → Nat → Int} (h : Tbl r c m f) : ∃ t, equil_turned_m m = some t ∧ Mat c r t (fun y x => f x y) := by
  have : Ok (equil_turned_m m) (fun z => Mat c r z (fun y x => f x y)) := by
    have hl := h.mat.len; have h1 := h.r1; have h6 := h.r6; have c6 := h.c6
    unfold equil_turned_m
    rw [show (0 : Int) = ((0 : Nat) : Int) from rfl, idx_nat, h.mat.row? h1, Option.bind_some, h.mat.row 0 h1, chk_t (by omega), Option.bind_some, ok_bindR, Int.toNat_natCast, List.length_replicate]
    refine ok_rangeN (fun k (l : List (List Int)) => l.length = c ∧ (∀ y, y < k → Vec r (nth l y) (fun x => f x y)) ∧ ∀ y, k ≤ y → y < c → nth l y = []) ⟨by simp, fun y hy => by omega, fun y _ hy => nth_replicate hy⟩ (fun k l hk hI => ?_) fun l hl' => ?_
    · obtain ⟨i1, i2, i3⟩ := hI
      unfold equil_turned_b1
      rw [ok_bindF]
      refine ok_rangeL (fun i (l : List (List Int)) => l.length = c ∧ (∀ y, y < k → Vec r (nth l y) (fun x => f x y)) ∧ Vec i (nth l k) (fun x => f x k) ∧ ∀ y, k + 1 ≤ y → y < c → nth l y = []) ⟨i1, i2, by rw [i3 k (by omega) hk]; exact Vec.nil, fun y hy hyc => i3 y (by omega) hyc⟩ (fun i row l hi hJ => ?_) fun l hl' => ?_
      · obtain ⟨hr, hil⟩ := nth_of hi
        obtain ⟨j1, j2, j3, j4⟩ := hJ
        have hc := h.mat.cell? (x := i) (y := k) (by omega) hk
        rw [hr] at hc
        have hvl := j3.len
        unfold equil_turned_b2
        rw [idx_nat, nth_at (by omega), Option.bind_some, idx_nat, hc, Option.bind_some, chk_t (by simp; omega), Option.bind_some, Option.bind_some, ok_some, flok_nx]
        refine ⟨by simpa using j1, fun y hy => ?_, ?_, fun y hy hyc => ?_⟩
        · rw [nth_set (by omega), if_neg (by omega)]; exact j2 y hy
        · rw [nth_set (by omega), if_pos rfl]; exact j3.snoc rfl
        · rw [nth_set (by omega), if_neg (by omega)]; exact j4 y hy hyc
      · rw [hl] at hl'
        obtain ⟨j1, j2, j3, j4⟩ := hl'
        rw [ok_some, flok_nx]
        refine ⟨j1, fun y hy => ?_, fun y hy hyc => j4 y (by omega) hyc⟩
        by_cases e : y = k
        · rw [e]; exact j3
        · exact j2 y (by omega)
    · obtain ⟨i1, i2, i3⟩ := hl'
      rw [ok_some]
      exact ⟨i1, fun y hy => (i2 y hy).len, fun y x hy hx => (i2 y hy).at_ x hx⟩
  exact this
theorem fill_rows {r : Nat} (r6 : r ≤ 6) {m : List (List Int)} (hl : m.length = r) : rangeL (γ := Unit) equil_Left_b1 m 0 (List.replicate 6 false) = some (.nx (full r)) := by
  have : Ok (rangeL (γ := Unit) equil_Left_b1 m 0 (List.replicate 6 false)) (FlOk (fun l => l = full r) (fun _ => False) (fun _ => False)) := by
    refine ok_rangeL (fun k (l : List Bool) => l.length = 6 ∧ ∀ j, j < 6 → nth l j = decide (j < k)) ⟨rfl, fun j hj => by rw [nth_replicate hj]; simp⟩ (fun k row l hk hI => ?_) fun l hl' => ?_
    · have hkl := (nth_of hk).2
      obtain ⟨i1, i2⟩ := hI
      unfold equil_Left_b1
      rw [idx_nat, nth_at (by omega), Option.bind_some, ok_some, flok_nx]
      refine ⟨by simpa using i1, fun j hj => ?_⟩
      rw [nth_set (by omega)]
      by_cases e : j = k
      · subst e; simp
      · rw [if_neg e, i2 j hj, decide_eq_decide]; omega
    · rw [hl] at hl'
      exact nth_ext (by rw [hl'.1, full_len]) fun k hk => by rw [hl'.1] at hk; rw [hl'.2 k hk, full_nth hk]
  obtain ⟨y, e, hy⟩ := this
  match y, hy with
  | .nx l, hy => rw [e]; congr 2
theorem pick_rows {r : Nat} (r6 : r ≤ 6) {m : List (List Int)} (hl : m.length = r) {R : List Bool} (hR : R.length = 6) : rangeL (γ := Unit) (equil_Left_b8 R) m 0 ([] : List Int) = some (.nx (pickB (nth R) r)) := by
  have : Ok (rangeL (γ := Unit) (equil_Left_b8 R) m 0 ([] : List Int)) (FlOk (fun l => l = pickB (nth R) r) (fun _ => False) (fun _ => False)) := by
    refine ok_rangeL (fun k (l : List Int) => l = pickB (nth R) k) rfl (fun k row l hk hI => ?_) fun l hl' => by rw [hl', hl]
    have hkl := (nth_of hk).2
    have hll := @pickB_len (nth R) k
    unfold equil_Left_b8
    rw [idx_nat, nth_at (by omega), Option.bind_some]
    cases hb : nth R k with
    | true => rw [if_pos rfl, chk_t (by rw [hI]; simp; omega), Option.bind_some, ok_some, flok_nx, hI]; simp [pickB, hb]
    | false => rw [if_neg (by decide), ok_some, flok_nx, hI]; simp [pickB, hb]
  obtain ⟨y, e, hy⟩ := this
  match y, hy with
  | .nx l, hy => rw [e]; congr 2
theorem left_ok {r c : Nat} {a b : List (List Int)} {f g : Nat → Nat → Int} (ha : Tbl r c a f) (hb : Tbl r c b g) : ∃ R C, equil_Left_m a b = some (pickB (nth R) r, pickB (nth C) c, 0) ∧ LeftI r c f g R C ∧
    (∀ i k, i < r → k < r → nth R i = true → nth R k = true → ¬ Dom c f C i k) ∧ ∀ i k, i < c → k < c → nth C i = true → nth C k = true → ¬ Dom r (fun y x => g x y) R i k := by
  obtain ⟨t, et, hT⟩ := turned_ok hb
  have r1 := ha.r1; have r6 := ha.r6; have c1 := ha.c1; have c6 := ha.c6
  have hal := ha.mat.len; have htl := hT.len
  have key : Ok (loopM (γ := Unit) (equil_Left_b3 a t) 1048576 (full r, full c, true)) (FlOk (fun s => LeftI r c f g s.1 s.2.1 ∧ (∀ i k, i < r → k < r → nth s.1 i = true → nth s.1 k = true → ¬ Dom c f s.2.1 i k) ∧ ∀ i k, i < c → k < c → nth s.2.1 i = true → nth s.2.1 k = true → ¬ Dom r (fun y x => g x y) s.1 i k) (fun _ => False) (fun _ => False)) := by
    refine ok_loopM (fun s : List Bool × List Bool × Bool => LeftI r c f g s.1 s.2.1 ∧ (s.2.2 = false → (∀ i k, i < r → k < r → nth s.1 i = true → nth s.1 k = true → ¬ Dom c f s.2.1 i k) ∧ ∀ i k, i < c → k < c → nth s.2.1 i = true → nth s.2.1 k = true → ¬ Dom r (fun y x => g x y) s.1 i k)) (fun s => (2 * (cb s.1 + cb s.2.1) + if s.2.2 then 1 else 0).toNat) (fun s hs => ?_) 1048576 _ ⟨left_start f g r1 r6 c1 c6, fun h => by cases h⟩ ?_
    · obtain ⟨R, C, x⟩ := s
      obtain ⟨hI, hN⟩ := hs
      simp only at hI hN
      unfold equil_Left_b3
      simp only
      cases x with
      | false => rw [if_neg (by decide), ok_some, flok_br]; exact ⟨hI, hN rfl⟩
      | true =>
        rw [if_pos rfl, ok_bindF]
        refine (pass_ok ha.mat r1 r6 c6 (L := C) hI.cl (K := fun R => LeftI r c f g R C) (fun R i k _ hi hk h1 h2 h3 h4 => h1.dropRow r1 r6 hi hk h2 h3 h4) (R0 := R) (x0 := false) hI.rl hI).mono ?_
        rintro (s | s | s) hs
        · obtain ⟨R', x'⟩ := s
          replace hs : Passed r (Dom c f C) (fun R => LeftI r c f g R C) R false (fun i k => i < r ∧ k < r) R' x' := hs
          rw [flok_nx]
          simp only
          rw [ok_bindF]
          have e6 : equil_Left_b6 t R' = equil_Left_b4 t R' := rfl
          rw [e6]
          refine (pass_ok hT c1 c6 r6 (L := R') hs.len (K := fun C => LeftI r c f g R' C) (fun C i k _ hi hk h1 h2 h3 h4 => (h1.swap.dropRow c1 c6 hi hk h2 h3 h4).swap) (R0 := C) (x0 := x') hI.cl hs.keep).mono ?_
          rintro (s | s | s) hs2
          · obtain ⟨C', x''⟩ := s
            replace hs2 : Passed c (Dom r (fun y x => g x y) R') (fun C => LeftI r c f g R' C) C x' (fun i k => i < c ∧ k < c) C' x'' := hs2
            rw [flok_nx]
            simp only
            rw [ok_some, flok_nx]
            have b1 := cb_bound R; have b2 := cb_bound C; have b3 := cb_bound R'; have b4 := cb_bound C'
            have l1 := hs.le; have l2 := hs2.le
            refine ⟨⟨hs2.keep, fun hx => ?_⟩, ?_⟩
            · replace hx : x'' = false := hx
              obtain ⟨s1, s2, s3⟩ := hs2.same hx
              obtain ⟨s4, s5, s6⟩ := hs.same s1
              subst s2 s5
              exact ⟨fun i k hi hk h1 h2 => s6 i k ⟨hi, hk⟩ h1 h2, fun i k hi hk h1 h2 => s3 i k ⟨hi, hk⟩ h1 h2⟩
            · simp only
              cases hx : x'' with
              | false => simp only [Bool.false_eq_true, if_false, if_true]; omega
              | true =>
                have := hs2.less hx
                have hlt : cb R' + cb C' < cb R + cb C := by
                  rcases this with h | h
                  · rcases hs.less h with h' | h'
                    · cases h'
                    · omega
                  · omega
                simp only [if_true]; omega
          · exact hs2.elim
          · exact hs2.elim
        · exact hs.elim
        · exact hs.elim
    · have b1 := cb_bound (full r); have b2 := cb_bound (full c)
      simp only [if_true]; omega
  obtain ⟨y, ey, hy⟩ := key
  match y, hy with
  | .nx (R, C, x), hy =>
    obtain ⟨hI, h1, h2⟩ : LeftI r c f g R C ∧ (∀ i k, i < r → k < r → nth R i = true → nth R k = true → ¬ Dom c f C i k) ∧ ∀ i k, i < c → k < c → nth C i = true → nth C k = true → ¬ Dom r (fun y x => g x y) R i k := hy
    refine ⟨R, C, ?_, hI, h1, h2⟩
    have e2 : equil_Left_b2 = equil_Left_b1 := rfl
    have e9 : equil_Left_b9 C = equil_Left_b8 C := rfl
    unfold equil_Left_m
    rw [eq_check ha hb, Option.bind_some, if_neg (by simp), et, Option.bind_some, fill_rows r6 hal, e2, fill_rows c6 htl]
    simp only [bindR, ey, pick_rows r6 hal hI.rl, e9, pick_rows c6 htl hI.cl]
end Go.Pu
