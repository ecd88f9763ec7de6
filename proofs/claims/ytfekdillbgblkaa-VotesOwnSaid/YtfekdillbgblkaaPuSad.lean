/- Tables of two players, one of whom wins what the other one loses. -/
import Derived.Test.YtfekdillbgblkaaWVotesOwnModels
import Derived.Test.YtfekdillbgblkaaPuPt
import Derived.Test.YtfekdillbgblkaaPuGood
set_option linter.all false
namespace Go.Pu
open Go.Fw Go.Mo
structure Tbl (r c : Nat) (m : List (List Int)) (f : Nat → Nat → Int) : Prop where
  mat : Mat r c m f
  r1 : 1 ≤ r
  r6 : r ≤ 6
  c1 : 1 ≤ c
  c6 : c ≤ 6
  val : ∀ x y, x < r → y < c → -1000 ≤ f x y ∧ f x y ≤ 1000
theorem sad_check (m : List (List Int)) : Ok (saddle_Check_m m) (fun e => e = 0 → ∃ r c, Tbl r c m (fun x y => nth (nth m x) y)) := by
  unfold saddle_Check_m
  simp only [ok_bindR, ok_ite, ok_some, flok_nx, decide_eq_true_eq]
  refine ⟨fun h => ⟨fun _ => by omega, fun h' => absurd trivial h'⟩, fun hlt => ⟨fun _ => by omega, fun hgt => ?_⟩⟩
  refine ok_rangeL (fun k _ => 0 < k → (1 ≤ (nth m 0).length ∧ (nth m 0).length ≤ 6) ∧ ∀ x, x < k → (nth m x).length = (nth m 0).length ∧ ∀ y, y < (nth m 0).length → -1000 ≤ nth (nth m x) y ∧ nth (nth m x) y ≤ 1000) (by intro h; omega) (fun k r s hk hI => ?_) fun s hs => ?_
  · obtain ⟨hr, hkl⟩ := nth_of hk
    unfold saddle_Check_b1
    rw [show (0 : Int) = ((0 : Nat) : Int) from rfl, idx_nat, nth_at (show 0 < m.length by omega)]
    simp only [Option.bind_some, ok_ite, ok_some, ok_bindF, bne_iff_ne, flok_rt, flok_nx, decide_eq_true_eq]
    refine ⟨fun _ => by omega, fun hlen => ⟨fun h => ⟨fun _ => by omega, fun h' => absurd trivial h'⟩, fun hl1 => ⟨fun _ => by omega, fun hl6 => ?_⟩⟩⟩
    refine ok_rangeL (fun j _ => ∀ y, y < j → -1000 ≤ nth r y ∧ nth r y ≤ 1000) (by intro y hy; omega) (fun j v s hj hJ => ?_) fun s hs => ?_
    · obtain ⟨hv, _⟩ := nth_of hj
      unfold saddle_Check_b2
      simp only [ok_ite, ok_some, ok_bindF, decide_eq_true_eq, flok_rt, flok_nx]
      grind
    · intro _
      have hlen' : r.length = (nth m 0).length := by omega
      refine ⟨by omega, fun x hx => ?_⟩
      by_cases e : x = k
      · subst e; rw [hr]; exact ⟨hlen', fun y hy => hs y (by omega)⟩
      · exact (hI (by omega)).2 x (by omega)
  · intro _
    obtain ⟨h1, h2⟩ := hs (by omega)
    exact ⟨m.length, (nth m 0).length, ⟨⟨rfl, fun x hx => (h2 x hx).1, fun _ _ _ _ => rfl⟩, by omega, by omega, h1.1, h1.2, fun x y hx hy => (h2 x hx).2 y hy⟩⟩
theorem sad_ok {r c : Nat} {m : List (List Int)} {f : Nat → Nat → Int} (h : Tbl r c m f) : saddle_Check_m m = some 0 := by
  apply Ok.eq
  have hl := h.mat.len; have h1 := h.r1; have h6 := h.r6; have c1 := h.c1; have c6 := h.c6
  have h0 := h.mat.row 0 (by omega)
  unfold saddle_Check_m
  simp only [ok_bindR, ok_ite, ok_some, flok_nx, decide_eq_true_eq]
  refine ⟨fun h => by omega, fun hlt => ⟨fun _ => by omega, fun hgt => ?_⟩⟩
  refine ok_rangeL (fun _ _ => True) trivial (fun k row s hk _ => ?_) fun _ _ => by trivial
  obtain ⟨hr, hkl⟩ := nth_of hk
  have hrow := h.mat.row k (by omega)
  rw [hr] at hrow
  unfold saddle_Check_b1
  rw [show (0 : Int) = ((0 : Nat) : Int) from rfl, idx_nat, nth_at (show 0 < m.length by omega)]
  simp only [Option.bind_some, ok_ite, ok_some, ok_bindF, bne_iff_ne, flok_rt, flok_nx, decide_eq_true_eq]
  refine ⟨fun _ => by omega, fun hlen => ⟨fun h => by omega, fun hl1 => ⟨fun _ => by omega, fun hl6 => ?_⟩⟩⟩
  refine ok_rangeL (fun _ _ => True) trivial (fun j v s hj hJ => ?_) fun _ _ => by trivial
  obtain ⟨hv, hjl⟩ := nth_of hj
  have hb := h.val k j (by omega) (by omega)
  rw [← h.mat.at_ k j (by omega) (by omega), hr, hv] at hb
  unfold saddle_Check_b2
  simp only [ok_ite, ok_some, ok_bindF, decide_eq_true_eq, flok_rt, flok_nx]
  grind
theorem sad_split (m : List (List Int)) : (∃ r c f, Tbl r c m f) ∨ ∃ e, e ≠ 0 ∧ saddle_Check_m m = some e := by
  obtain ⟨e, h1, h2⟩ := sad_check m
  by_cases he : e = 0
  · obtain ⟨r, c, h⟩ := h2 he; exact .inl ⟨r, c, _, h⟩
  · exact .inr ⟨e, he, h1⟩
/-- least, greatest -/
def mnN (g : Nat → Int) : Nat → Int
  | 0 => 1000
  | n + 1 => if g n < mnN g n then g n else mnN g n
def mxN (g : Nat → Int) : Nat → Int
  | 0 => -1000
  | n + 1 => if g n > mxN g n then g n else mxN g n
theorem mn_le {g : Nat → Int} {n : Nat} : ∀ y, y < n → mnN g n ≤ g y := by
  induction n with
  | zero => intro y hy; omega
  | succ n ih =>
    intro y hy
    simp only [mnN]
    by_cases e : y = n
    · subst e; split <;> omega
    · have := ih y (by omega); split <;> omega
theorem mx_ge {g : Nat → Int} {n : Nat} : ∀ y, y < n → g y ≤ mxN g n := by
  induction n with
  | zero => intro y hy; omega
  | succ n ih =>
    intro y hy
    simp only [mxN]
    by_cases e : y = n
    · subst e; split <;> omega
    · have := ih y (by omega); split <;> omega
theorem mn_at {g : Nat → Int} {n : Nat} (h1 : 1 ≤ n) (hb : ∀ y, y < n → g y ≤ 1000) : ∃ y, y < n ∧ mnN g n = g y := by
  induction n with
  | zero => omega
  | succ n ih =>
    simp only [mnN]
    by_cases h0 : n = 0
    · subst h0
      refine ⟨0, by omega, ?_⟩
      have := hb 0 (by omega)
      show (if g 0 < (1000 : Int) then g 0 else 1000) = g 0
      by_cases hh : g 0 < 1000
      · rw [if_pos hh]
      · rw [if_neg hh]; omega
    · obtain ⟨y, hy, e⟩ := ih (by omega) fun y hy => hb y (by omega)
      split
      · exact ⟨n, by omega, rfl⟩
      · exact ⟨y, by omega, e⟩
theorem mx_at {g : Nat → Int} {n : Nat} (h1 : 1 ≤ n) (hb : ∀ y, y < n → -1000 ≤ g y) : ∃ y, y < n ∧ mxN g n = g y := by
  induction n with
  | zero => omega
  | succ n ih =>
    simp only [mxN]
    by_cases h0 : n = 0
    · subst h0
      refine ⟨0, by omega, ?_⟩
      have := hb 0 (by omega)
      show (if g 0 > (-1000 : Int) then g 0 else -1000) = g 0
      by_cases hh : g 0 > -1000
      · rw [if_pos hh]
      · rw [if_neg hh]; omega
    · obtain ⟨y, hy, e⟩ := ih (by omega) fun y hy => hb y (by omega)
      split
      · exact ⟨n, by omega, rfl⟩
      · exact ⟨y, by omega, e⟩
theorem mn_congr {g h : Nat → Int} {n : Nat} (e : ∀ y, y < n → g y = h y) : mnN g n = mnN h n := by
  induction n with
  | zero => rfl
  | succ n ih => simp only [mnN]; rw [ih fun y hy => e y (by omega), e n (by omega)]
theorem mx_congr {g h : Nat → Int} {n : Nat} (e : ∀ y, y < n → g y = h y) : mxN g n = mxN h n := by
  induction n with
  | zero => rfl
  | succ n ih => simp only [mxN]; rw [ih fun y hy => e y (by omega), e n (by omega)]
theorem mn_neg {g : Nat → Int} {n : Nat} : mnN (fun y => - g y) n = - mxN g n := by
  induction n with
  | zero => rfl
  | succ n ih => simp only [mnN, mxN, ih]; split <;> split <;> omega
theorem mx_neg {g : Nat → Int} {n : Nat} : mxN (fun y => - g y) n = - mnN g n := by
  induction n with
  | zero => rfl
  | succ n ih => simp only [mnN, mxN, ih]; split <;> split <;> omega
def lowS (r c : Nat) (f : Nat → Nat → Int) : Int := mxN (fun x => mnN (f x) c) r
def highS (r c : Nat) (f : Nat → Nat → Int) : Int := mnN (fun y => mxN (fun x => f x y) r) c
def isPt (r c : Nat) (f : Nat → Nat → Int) (x y : Nat) : Bool := decide ((∀ k, k < c → f x y ≤ f x k) ∧ ∀ k, k < r → f k y ≤ f x y)
theorem isPt_iff {r c : Nat} {f : Nat → Nat → Int} {x y : Nat} : isPt r c f x y = true ↔ (∀ k, k < c → f x y ≤ f x k) ∧ ∀ k, k < r → f k y ≤ f x y := by unfold isPt; simp
theorem bounds_ok {r c : Nat} {m : List (List Int)} {f : Nat → Nat → Int} (h : Tbl r c m f) : saddle_Bounds_m m = some (lowS r c f, highS r c f, 0) := by
  apply Ok.eq
  have hl := h.mat.len; have h1 := h.r1
  unfold saddle_Bounds_m
  rw [sad_ok h, Option.bind_some, if_neg (by simp), ok_bindR]
  refine ok_rangeL (fun k (x : Int) => x = mxN (fun x => mnN (f x) c) k) rfl (fun k row x hk hx => ?_) fun lo hlo => ?_
  · obtain ⟨hr, hkl⟩ := nth_of hk
    have hrow := h.mat.row k (by omega)
    rw [hr] at hrow
    unfold saddle_Bounds_b1
    rw [ok_bindF]
    refine ok_rangeL (fun j (x : Int) => x = mnN (f k) j) rfl (fun j v x hj hx => ?_) fun lst hls => ?_
    · obtain ⟨hv, hjl⟩ := nth_of hj
      have hb := h.mat.at_ k j (by omega) (by omega)
      rw [hr, hv] at hb
      unfold saddle_Bounds_b2
      rw [ok_some, flok_nx, hx, hb]; rfl
    · rw [hrow] at hls
      rw [ok_some, flok_nx, hx, hls]; rfl
  · rw [hl] at hlo
    rw [show (0 : Int) = ((0 : Nat) : Int) from rfl, idx_nat, h.mat.row? h1, Option.bind_some, ok_bindR]
    refine ok_rangeL (fun k (x : Int) => x = mnN (fun y => mxN (fun x => f x y) r) k) rfl (fun k v x hk hx => ?_) fun hi hhi => ?_
    · have hkl := (nth_of hk).2
      rw [h.mat.row 0 h1] at hkl
      unfold saddle_Bounds_b3
      rw [ok_bindF]
      refine ok_rangeL (fun j (x : Int) => x = mxN (fun x => f x k) j) rfl (fun j row x hj hx => ?_) fun lst hls => ?_
      · obtain ⟨hr, hjl⟩ := nth_of hj
        have hc := h.mat.cell? (x := j) (y := k) (by omega) hkl
        rw [hr] at hc
        unfold saddle_Bounds_b4
        rw [idx_nat, hc, Option.bind_some, ok_some, flok_nx, hx]; rfl
      · rw [hl] at hls
        rw [ok_some, flok_nx, hx, hls]; rfl
    · rw [h.mat.row 0 h1] at hhi
      rw [ok_some, hlo, hhi]; rfl
theorem points_sad {r c : Nat} {m : List (List Int)} {f : Nat → Nat → Int} (h : Tbl r c m f) : saddle_Points_m m = some (ptsL c (isPt r c f) r, 0) := by
  apply Ok.eq
  have hl := h.mat.len; have h1 := h.r1; have h6 := h.r6; have c6 := h.c6
  unfold saddle_Points_m
  rw [sad_ok h, Option.bind_some, if_neg (by simp), ok_bindR]
  refine ok_rangeL (fun k (l : List (List Int)) => l = ptsL c (isPt r c f) k) rfl (fun k row l hk hI => ?_) fun l hl' => by rw [ok_some, hl', hl]
  obtain ⟨hr, hkl⟩ := nth_of hk
  have hrow := h.mat.row k (by omega)
  rw [hr] at hrow
  unfold saddle_Points_b1
  rw [ok_bindF]
  refine ok_rangeL (fun j (l : List (List Int)) => l = ptsL c (isPt r c f) k ++ rowP k (isPt r c f) j) (by simp [rowP, hI]) (fun j v l hj hJ => ?_) fun l hl' => by rw [ok_some, flok_nx, hl', hrow]; rfl
  obtain ⟨hv, hjl⟩ := nth_of hj
  have hb := h.mat.at_ k j (by omega) (by omega)
  rw [hr, hv] at hb
  subst hb
  have ll : l.length ≤ 72 := by
    rw [hJ, List.length_append]
    have q1 := @len_ptsL_le k c (isPt r c f)
    have q2 := @len_rowP_le k (isPt r c f) j
    have : k * c ≤ 5 * 6 := Nat.mul_le_mul (by omega) c6
    omega
  unfold saddle_Points_b2
  rw [ok_bindF]
  refine ok_rangeL (fun q (b : Bool) => b = true ↔ ∀ y, y < q → f k j ≤ f k y) (by simp) (fun q v b hq hb => ?_) fun b hb => ?_
  · obtain ⟨hv, hql⟩ := nth_of hq
    have hc := h.mat.at_ k q (by omega) (by omega)
    rw [hr, hv] at hc
    unfold saddle_Points_b3
    simp only [ok_bindF, ok_ite, ok_some, flok_nx, hc]
    grind
  · rw [hrow] at hb
    rw [ok_bindF]
    refine ok_rangeL (fun q (b' : Bool) => b' = true ↔ b = true ∧ ∀ x, x < q → f x j ≤ f k j) (by simp) (fun q row' b' hq hb' => ?_) fun b' hb' => ?_
    · obtain ⟨hr', hql⟩ := nth_of hq
      have hc := h.mat.cell? (x := q) (y := j) (by omega) (by omega)
      rw [hr'] at hc
      unfold saddle_Points_b4
      simp only [ok_bindF, ok_ite, ok_some, flok_nx, idx_nat, hc, Option.bind_some]
      grind
    · rw [hl, hb] at hb'
      have he : b' = isPt r c f k j := by
        rw [Bool.eq_iff_iff, hb', isPt_iff]
      rw [he]
      cases hp : isPt r c f k j with
      | true =>
        rw [if_pos rfl, chk_t (by simp; omega), Option.bind_some, ok_some, flok_nx, hJ]
        simp [rowP, hp]
      | false =>
        rw [if_neg (by decide), ok_some, flok_nx, hJ]
        simp [rowP, hp]
/-- at a point both bounds meet -/
theorem pt_val {r c : Nat} {m : List (List Int)} {f : Nat → Nat → Int} (h : Tbl r c m f) {x y : Nat} (hx : x < r) (hy : y < c) (hp : isPt r c f x y = true) : lowS r c f = f x y ∧ highS r c f = f x y := by
  obtain ⟨p1, p2⟩ := isPt_iff.1 hp
  have rm : mnN (f x) c = f x y := by
    obtain ⟨k, hk, e⟩ := mn_at (g := f x) h.c1 fun k hk => (h.val x k hx hk).2
    have := mn_le (g := f x) y hy
    have := p1 k hk
    omega
  have cm : mxN (fun x => f x y) r = f x y := by
    obtain ⟨k, hk, e⟩ := mx_at (g := fun x => f x y) h.r1 fun k hk => (h.val k y hk hy).1
    have := mx_ge (g := fun x => f x y) x hx
    have := p2 k hk
    try simp only at *
    omega
  constructor
  · unfold lowS
    obtain ⟨k, hk, e⟩ := mx_at (g := fun x => mnN (f x) c) h.r1 fun k hk => by
      obtain ⟨q, hq, e⟩ := mn_at (g := f k) h.c1 fun q hq => (h.val k q hk hq).2
      have := h.val k q hk hq
      (try simp only); omega
    have := mx_ge (g := fun x => mnN (f x) c) x hx
    have := mn_le (g := f k) y hy
    have := p2 k hk
    try simp only at *
    omega
  · unfold highS
    obtain ⟨k, hk, e⟩ := mn_at (g := fun y => mxN (fun x => f x y) r) h.c1 fun k hk => by
      obtain ⟨q, hq, e⟩ := mx_at (g := fun x => f x k) h.r1 fun q hq => (h.val q k hq hk).1
      have := h.val q k hq hk
      (try simp only at *); omega
    have := mn_le (g := fun y => mxN (fun x => f x y) r) y hy
    have := mx_ge (g := fun x => f x k) x hx
    have := p1 k hk
    try simp only at *
    omega
theorem low_high {r c : Nat} {m : List (List Int)} {f : Nat → Nat → Int} (h : Tbl r c m f) : ∃ x y, x < r ∧ y < c ∧ lowS r c f ≤ f x y ∧ f x y ≤ highS r c f ∧ (∀ k, k < c → lowS r c f ≤ f x k) ∧ ∀ k, k < r → f k y ≤ highS r c f := by
  obtain ⟨x, hx, e⟩ := mx_at (g := fun x => mnN (f x) c) h.r1 fun k hk => by
    obtain ⟨q, hq, e⟩ := mn_at (g := f k) h.c1 fun q hq => (h.val k q hk hq).2
    have := h.val k q hk hq
    (try simp only); omega
  obtain ⟨y, hy, e'⟩ := mn_at (g := fun y => mxN (fun x => f x y) r) h.c1 fun k hk => by
    obtain ⟨q, hq, e⟩ := mx_at (g := fun x => f x k) h.r1 fun q hq => (h.val q k hq hk).1
    have := h.val q k hq hk
    (try simp only at *); omega
  have l : ∀ k, k < c → lowS r c f ≤ f x k := fun k hk => by have := mn_le (g := f x) k hk; unfold lowS; (try simp only at *); omega
  have u : ∀ k, k < r → f k y ≤ highS r c f := fun k hk => by have := mx_ge (g := fun x => f x y) k hk; unfold highS; (try simp only at *); omega
  exact ⟨x, y, hx, hy, l y hy, u x hx, l, u⟩
theorem bounds_no {m : List (List Int)} {e : Int} (he : e ≠ 0) (h : saddle_Check_m m = some e) : saddle_Bounds_m m = some (0, 0, e) := by
  unfold saddle_Bounds_m; rw [h, Option.bind_some, if_pos (by simpa using he)]
theorem points_no {m : List (List Int)} {e : Int} (he : e ≠ 0) (h : saddle_Check_m m = some e) : saddle_Points_m m = some ([], e) := by
  unfold saddle_Points_m; rw [h, Option.bind_some, if_pos (by simpa using he)]
theorem saddles_t : pk_saddles_m = some true := by decide +kernel
end Go.Pu
