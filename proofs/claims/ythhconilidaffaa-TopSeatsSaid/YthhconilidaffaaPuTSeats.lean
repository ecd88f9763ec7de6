/- The plain law: seats by whole numbers are sold: each party bids, for its first, second, and further seat, its people, divided by 1, 2, and so on. -/
import Derived.Test.YthhconilidaffaaWTopSeatsModels
import Derived.Test.YthhconilidaffaaPuUnits
import Derived.Test.YthhconilidaffaaPuSeats
import Derived.Test.YthhconilidaffaaPuFl
set_option linter.all false
namespace Go.Pu
open Go.Fw Go.Mo
theorem works_y : top_works_m = some true := by decide +kernel
theorem tgood_y : top_good_m [0, 0] = some true := by decide +kernel
def quo (y : Int) : List Int := [y * 2520, y * 1260, y * 840, y * 630, y * 504]
theorem quo_loop {y : Int} (h0 : 0 ≤ y ∧ y ≤ 300) {l : List Int} (hl : l.length ≤ 100) : loopM (γ := List Int) (top_TopSeats_b2 y) 1048576 (l, (0 : Int)) = some (.nx (l ++ quo y, 5)) := by
  have h1 : ∀ (k : Nat) (m : List Int), k < 5 → m.length ≤ 200 → top_TopSeats_b2 y (m, (k : Int)) = some (.nx (m ++ [(y * 2520).tdiv ((k : Int) + 1)], ((k + 1 : Nat) : Int))) := by
    intro k m hk hm
    unfold top_TopSeats_b2
    dsimp only
    rw [if_pos (by rw [decide_eq_true_eq]; omega), wadd_of (by omega) (by omega), wmul_of (by omega) (by omega), chk_t (by omega), Option.bind_some]
    have hd : (y * 2520).tdiv ((k : Int) + 1) = (y * 2520) / ((k : Int) + 1) := Int.tdiv_eq_ediv_of_nonneg (by omega)
    have hr : 0 ≤ (y * 2520) / ((k : Int) + 1) ∧ (y * 2520) / ((k : Int) + 1) ≤ 756000 := by
      refine ⟨Int.ediv_nonneg (by omega) (by omega), ?_⟩
      exact Int.le_trans (Int.ediv_le_self _ (by omega)) (by omega)
    rw [hd, IntKind.wrap_i64]
    have e : ((y * 2520) / ((k : Int) + 1) + 9223372036854775808) % 18446744073709551616 - 9223372036854775808 = (y * 2520) / ((k : Int) + 1) := by omega
    first
      | rw [e, chk_t (by simp; omega), Option.bind_some]; rfl
      | (rw [chk_t (by simp; omega), Option.bind_some]; congr 4; omega)
  have h5 : ∀ m : List Int, top_TopSeats_b2 y (m, 5) = some (.br (m, 5)) := fun m => by
    unfold top_TopSeats_b2; rfl
  have a0 := h1 0 l (by decide) (by omega)
  have a1 := h1 1 (l ++ [(y * 2520).tdiv (((0 : Nat) : Int) + 1)]) (by decide) (by simp; omega)
  have a2 := h1 2 (l ++ [(y * 2520).tdiv (((0 : Nat) : Int) + 1)] ++ [(y * 2520).tdiv (((1 : Nat) : Int) + 1)]) (by decide) (by simp; omega)
  have a3 := h1 3 (l ++ [(y * 2520).tdiv (((0 : Nat) : Int) + 1)] ++ [(y * 2520).tdiv (((1 : Nat) : Int) + 1)] ++ [(y * 2520).tdiv (((2 : Nat) : Int) + 1)]) (by decide) (by simp; omega)
  have a4 := h1 4 (l ++ [(y * 2520).tdiv (((0 : Nat) : Int) + 1)] ++ [(y * 2520).tdiv (((1 : Nat) : Int) + 1)] ++ [(y * 2520).tdiv (((2 : Nat) : Int) + 1)] ++ [(y * 2520).tdiv (((3 : Nat) : Int) + 1)]) (by decide) (by simp; omega)
  rw [show (0 : Int) = ((0 : Nat) : Int) from rfl]
  unfold loopM; rw [a0]; dsimp only
  unfold loopM; rw [a1]; dsimp only
  unfold loopM; rw [a2]; dsimp only
  unfold loopM; rw [a3]; dsimp only
  unfold loopM; rw [a4]; dsimp only
  unfold loopM; rw [show (((4 + 1 : Nat) : Nat) : Int) = 5 from rfl, h5]
  have d : ∀ c : Int, 0 < c → ∀ e, y * 2520 = y * e * c → (y * 2520).tdiv c = y * e := fun c hc e he => by
    rw [he, Int.mul_tdiv_cancel _ (by omega)]
  rw [d _ (by decide) 2520 (by omega), d _ (by decide) 1260 (by omega), d _ (by decide) 840 (by omega), d _ (by decide) 630 (by omega), d _ (by decide) 504 (by omega)]
  simp [quo]
theorem first_not (S : Nat → Prop) : ∀ m : Nat, ∃ a, a ≤ m ∧ (∀ k, k < a → S k) ∧ (a < m → ¬ S a)
  | 0 => ⟨0, Nat.le_refl _, fun k hk => by omega, fun h => by omega⟩
  | m + 1 => by
    obtain ⟨a, h1, h2, h3⟩ := first_not S m
    by_cases e : a < m
    · exact ⟨a, by omega, h2, fun _ => h3 e⟩
    · have : a = m := by omega
      subst this
      by_cases hs : S a
      · exact ⟨a + 1, Nat.le_refl _, fun k hk => by
          by_cases hk' : k = a
          · rw [hk']; exact hs
          · exact h2 k (by omega), fun h => by omega⟩
      · exact ⟨a, by omega, h2, fun _ => hs⟩
theorem count_of {w : List Int} (hn : w.Nodup) {P : Int → Bool} {a : Nat} {lo : Int} (h : ∀ x, (x ∈ w ∧ P x = true) ↔ lo ≤ x ∧ x < lo + a) : w.countP P = a := by
  rw [List.countP_eq_length_filter]
  have hf : ∀ x, x ∈ w.filter P ↔ lo ≤ x ∧ x < lo + a := fun x => by rw [List.mem_filter, h]
  have hm : ∀ x, x ∈ (inds a).map (lo + ·) ↔ lo ≤ x ∧ x < lo + a := fun x => by
    rw [List.mem_map]
    constructor
    · rintro ⟨i, hi, rfl⟩; rw [inds_mem] at hi; omega
    · intro hx; exact ⟨x - lo, by rw [inds_mem]; omega, by omega⟩
  have hmn : ((inds a).map (lo + ·)).Nodup := by
    rw [List.Nodup, List.pairwise_map]
    exact inds_asc.imp fun h => by omega
  have l1 := nodup_sub (l := w.filter P) (m := (inds a).map (lo + ·)) (hn.sublist List.filter_sublist) fun x hx => (hm x).2 ((hf x).1 hx)
  have l2 := nodup_sub (l := (inds a).map (lo + ·)) (m := w.filter P) hmn fun x hx => (hf x).2 ((hm x).1 hx)
  rw [List.length_map, inds_len] at l1 l2
  omega
theorem quo_at (p q : Int) : ∀ k, k < 5 → nth (quo p ++ quo q) k * ((k : Int) + 1) = p * 2520 ∧ nth (quo p ++ quo q) (5 + k) * ((k : Int) + 1) = q * 2520 := by
  intro k hk
  have : k = 0 ∨ k = 1 ∨ k = 2 ∨ k = 3 ∨ k = 4 := by omega
  rcases this with rfl | rfl | rfl | rfl | rfl
  · exact ⟨show p * 2520 * (0 + 1) = _ by omega, show q * 2520 * (0 + 1) = _ by omega⟩
  · exact ⟨show p * 1260 * (1 + 1) = _ by omega, show q * 1260 * (1 + 1) = _ by omega⟩
  · exact ⟨show p * 840 * (2 + 1) = _ by omega, show q * 840 * (2 + 1) = _ by omega⟩
  · exact ⟨show p * 630 * (3 + 1) = _ by omega, show q * 630 * (3 + 1) = _ by omega⟩
  · exact ⟨show p * 504 * (4 + 1) = _ by omega, show q * 504 * (4 + 1) = _ by omega⟩
theorem quo_down {p q : Int} (hp : 0 ≤ p) (hq : 0 ≤ q) : ∀ k, k < 4 → nth (quo p ++ quo q) (k + 1) ≤ nth (quo p ++ quo q) k ∧ nth (quo p ++ quo q) (5 + (k + 1)) ≤ nth (quo p ++ quo q) (5 + k) := by
  intro k hk
  have : k = 0 ∨ k = 1 ∨ k = 2 ∨ k = 3 := by omega
  rcases this with rfl | rfl | rfl | rfl
  · exact ⟨show p * 1260 ≤ p * 2520 by omega, show q * 1260 ≤ q * 2520 by omega⟩
  · exact ⟨show p * 840 ≤ p * 1260 by omega, show q * 840 ≤ q * 1260 by omega⟩
  · exact ⟨show p * 630 ≤ p * 840 by omega, show q * 630 ≤ q * 840 by omega⟩
  · exact ⟨show p * 504 ≤ p * 630 by omega, show q * 504 ≤ q * 630 by omega⟩
/-- what is sold comes to the same seats -/
theorem sold_seats {p q A B : Int} {h : Nat} {w : List Int} {P : Int} (hp : 0 ≤ p) (hq : 0 ≤ q) (hh : h ≤ 5) (s : Sold (quo p ++ quo q) (h : Int) w P) (hA : 0 ≤ A) (hB : 0 ≤ B) (hAB : A + B = h)
    (f1 : 0 < A → q * A ≤ p * (B + 1)) (f2 : 0 < B → p * B < q * (A + 1)) : (w.countP (fun x => decide (x < 5)) : Int) = A := by
  have hL : (quo p ++ quo q).length = 10 := rfl
  have hwl := s.len
  rw [hL, if_pos (by omega)] at hwl
  have Q := quo_at p q
  -- who has the next one has this one
  have c1 : ∀ k, k + 1 < 5 → ((k + 1 : Nat) : Int) ∈ w → (k : Int) ∈ w := fun k hk h1 => by
    apply Decidable.byContradiction; intro h2
    have t := s.tie _ h1 k (by omega) h2
    rw [Int.toNat_natCast] at t
    have := (quo_down hp hq k (by omega)).1
    omega
  have c2 : ∀ k, k + 1 < 5 → ((5 + (k + 1) : Nat) : Int) ∈ w → ((5 + k : Nat) : Int) ∈ w := fun k hk h1 => by
    apply Decidable.byContradiction; intro h2
    have t := s.tie _ h1 (5 + k) (by omega) h2
    rw [Int.toNat_natCast] at t
    have := (quo_down hp hq k (by omega)).2
    omega
  obtain ⟨a, a1, a2, a3⟩ := first_not (fun k => (k : Int) ∈ w) 5
  obtain ⟨b, b1, b2, b3⟩ := first_not (fun k => ((5 + k : Nat) : Int) ∈ w) 5
  have a4 : ∀ k, a ≤ k → k < 5 → (k : Int) ∉ w := by
    intro k
    induction k with
    | zero => intro h1 h2; have : a = 0 := by omega
              subst this; exact a3 (by omega)
    | succ k ih =>
      intro h1 h2 h3
      by_cases e : a = k + 1
      · subst e; exact a3 h2 h3
      · exact ih (by omega) (by omega) (c1 k h2 h3)
  have b4 : ∀ k, b ≤ k → k < 5 → ((5 + k : Nat) : Int) ∉ w := by
    intro k
    induction k with
    | zero => intro h1 h2; have : b = 0 := by omega
              subst this; exact b3 (by omega)
    | succ k ih =>
      intro h1 h2 h3
      by_cases e : b = k + 1
      · subst e; exact b3 h2 h3
      · exact ih (by omega) (by omega) (c2 k h2 h3)
  have ca : w.countP (fun x => decide (x < 5)) = a := count_of s.nodup (lo := 0) fun x => by
    rw [decide_eq_true_eq]
    constructor
    · rintro ⟨hx, h5⟩
      have r := s.rng x hx
      refine ⟨r.1, ?_⟩
      apply Decidable.byContradiction; intro hno
      have := a4 x.toNat (by omega) (by omega)
      rw [show ((x.toNat : Nat) : Int) = x by omega] at this
      exact this hx
    · rintro ⟨h1, h2⟩
      have := a2 x.toNat (by omega)
      rw [show ((x.toNat : Nat) : Int) = x by omega] at this
      exact ⟨this, by omega⟩
  have cb : w.countP (fun x => !decide (x < 5)) = b := count_of s.nodup (lo := 5) fun x => by
    rw [Bool.not_eq_true', decide_eq_false_iff_not]
    constructor
    · rintro ⟨hx, h5⟩
      have r := s.rng x hx
      rw [hL] at r
      refine ⟨by omega, ?_⟩
      apply Decidable.byContradiction; intro hno
      have := b4 (x - 5).toNat (by omega) (by omega)
      rw [show ((5 + (x - 5).toNat : Nat) : Int) = x by omega] at this
      exact this hx
    · rintro ⟨h1, h2⟩
      have := b2 (x - 5).toNat (by omega)
      rw [show ((5 + (x - 5).toNat : Nat) : Int) = x by omega] at this
      exact ⟨this, by omega⟩
  have hsum : a + b = h := by
    have := List.length_eq_countP_add_countP (fun x => decide (x < 5)) (l := w)
    have e : w.countP (fun x => decide ¬(decide (x < 5)) = true) = w.countP (fun x => !decide (x < 5)) := by
      congr 1; funext x; simp only [decide_not, Bool.decide_eq_true]
    first
      | (rw [e] at this; omega)
      | (simp only [Bool.not_eq_true] at this; omega)
  have g1 : 0 < a → b < 5 → q * a ≤ p * (b + 1) := fun ha hb => by
    obtain ⟨a', rfl⟩ : ∃ x, a = x + 1 := ⟨a - 1, by omega⟩
    have t := s.tie _ (a2 a' (by omega)) (5 + b) (by omega) (b4 b (Nat.le_refl _) hb)
    rw [Int.toNat_natCast] at t
    have u := (Q a' (by omega)).1; have v := (Q b hb).2
    have ht : nth (quo p ++ quo q) (5 + b) ≤ nth (quo p ++ quo q) a' := by omega
    generalize nth (quo p ++ quo q) (5 + b) = X at *
    generalize nth (quo p ++ quo q) a' = Y at *
    have e1 := Int.mul_le_mul_of_nonneg_right ht (show (0 : Int) ≤ ((b : Int) + 1) * ((a' : Int) + 1) by
      exact Int.mul_nonneg (by omega) (by omega))
    have e2 : X * (((b : Int) + 1) * ((a' : Int) + 1)) = q * ((a' + 1 : Nat) : Int) * 2520 := by
      rw [show ((a' + 1 : Nat) : Int) = (a' : Int) + 1 by omega]; grind
    have e3 : Y * (((b : Int) + 1) * ((a' : Int) + 1)) = p * ((b : Int) + 1) * 2520 := by grind
    rw [e2, e3] at e1; omega
  have g2 : 0 < b → a < 5 → p * b < q * (a + 1) := fun hb ha => by
    obtain ⟨b', rfl⟩ : ∃ x, b = x + 1 := ⟨b - 1, by omega⟩
    have t := s.tie _ (b2 b' (by omega)) a (by omega) (a4 a (Nat.le_refl _) ha)
    rw [Int.toNat_natCast] at t
    have u := (Q b' (by omega)).2; have v := (Q a ha).1
    have ht : nth (quo p ++ quo q) a < nth (quo p ++ quo q) (5 + b') := by omega
    generalize nth (quo p ++ quo q) (5 + b') = X at *
    generalize nth (quo p ++ quo q) a = Y at *
    have e1 := Int.mul_lt_mul_of_pos_right ht (show (0 : Int) < ((a : Int) + 1) * ((b' : Int) + 1) by
      exact Int.mul_pos (by omega) (by omega))
    have e2 : Y * (((a : Int) + 1) * ((b' : Int) + 1)) = p * ((b' + 1 : Nat) : Int) * 2520 := by
      rw [show ((b' + 1 : Nat) : Int) = (b' : Int) + 1 by omega]; grind
    have e3 : X * (((a : Int) + 1) * ((b' : Int) + 1)) = q * ((a : Int) + 1) * 2520 := by grind
    rw [e2, e3] at e1; omega
  rw [ca]
  by_cases h1 : (a : Int) = A
  · exact h1
  · exfalso
    by_cases h2 : A < a
    · have k1 := g1 (by omega) (by omega)
      have k2 := f2 (by omega)
      have k3 := Int.mul_le_mul_of_nonneg_left (show (b : Int) + 1 ≤ B by omega) hp
      have k4 := Int.mul_le_mul_of_nonneg_left (show A + 1 ≤ (a : Int) by omega) hq
      omega
    · have k1 := g2 (by omega) (by omega)
      have k2 := f1 (by omega)
      have k3 := Int.mul_le_mul_of_nonneg_left (show B + 1 ≤ (b : Int) by omega) hp
      have k4 := Int.mul_le_mul_of_nonneg_left (show (a : Int) + 1 ≤ A by omega) hq
      omega
theorem TopSeats (x0 : Int) (_ : (Lit.int .i64 x0).wf = true) (x1 : Int) (_ : (Lit.int .i64 x1).wf = true) (x2 : Int) (_ : (Lit.int .i64 x2).wf = true) : top_TopSeats_m x0 x1 x2 = some true := by
  have a0 := Int.emod_nonneg x0 (b := 300) (by decide)
  have a1 := Int.emod_lt_of_pos x0 (b := 300) (by decide)
  have b0 := Int.emod_nonneg x1 (b := 300) (by decide)
  have b1 := Int.emod_lt_of_pos x1 (b := 300) (by decide)
  have c0 := Int.emod_nonneg x2 (b := 6) (by decide)
  have c1 := Int.emod_lt_of_pos x2 (b := 6) (by decide)
  unfold top_TopSeats_m
  rw [within_at x0 300 (by decide) (by decide), Option.bind_some, within_at x1 300 (by decide) (by decide), Option.bind_some, within_at x2 6 (by decide) (by decide), Option.bind_some]
  generalize x0 % 300 = p0 at a0 a1
  generalize x1 % 300 = q at b0 b1
  generalize x2 % 6 = h0 at c0 c1
  obtain ⟨h, rfl⟩ : ∃ h : Nat, h0 = h := ⟨h0.toNat, by omega⟩
  rw [wadd_of (by omega) (by omega)]
  obtain ⟨p, hp⟩ : ∃ p : Int, p = 1 + p0 := ⟨_, rfl⟩
  rw [← hp]
  have hloop : rangeN (γ := Unit) (top_TopSeats_b1 p0 q) 2 0 ([] : List Int) = some (.nx (quo p ++ quo q)) := by
    have i0 : top_TopSeats_b1 p0 q 0 [] = some (.nx (quo p)) := by
      unfold top_TopSeats_b1
      rw [wadd_of (by omega) (by omega), ← hp, show idx [p, q] ((0 : Nat) : Int) = some p from rfl, Option.bind_some, quo_loop (by omega) (by simp)]; rfl
    have i1 : top_TopSeats_b1 p0 q 1 (quo p) = some (.nx (quo p ++ quo q)) := by
      unfold top_TopSeats_b1
      rw [wadd_of (by omega) (by omega), ← hp, show idx [p, q] ((1 : Nat) : Int) = some q from rfl, Option.bind_some, quo_loop (by omega) (by simp [quo])]; rfl
    unfold rangeN; rw [i0]; dsimp only
    unfold rangeN; rw [i1]; dsimp only
    unfold rangeN; rfl
  have hP : People [p, q] := ⟨by simp, by simp, fun k hk => by
    have : k = 0 ∨ k = 1 := by simp at hk; omega
    rcases this with rfl | rfl
    · exact show 0 ≤ p ∧ p ≤ 1000000 by omega
    · exact show 0 ≤ q ∧ q ≤ 1000000 by omega, by simp; omega⟩
  obtain ⟨a, ea, d⟩ := share_div hP (h := h) (by omega) (w := 1) (by decide) (by decide)
  have hB : Bids (quo p ++ quo q) := ⟨by simp [quo], fun x hx => by
    simp [quo] at hx
    omega⟩
  obtain ⟨w, P, ew, s⟩ := sell_ok (n := (h : Int)) hB (by omega)
  have hal : a.length = 2 := d.len
  obtain ⟨A, B, rfl⟩ : ∃ A B, a = [A, B] := by
    match a, hal with
    | [A, B], _ => exact ⟨A, B, rfl⟩
  have hsum := d.sum
  have v0 : 0 ≤ A := (d.val 0 (by simp)).1
  have v1 : 0 ≤ B := (d.val 1 (by simp)).1
  have hAB : A + B = h := by simpa using hsum
  have hpn : ∀ k, k < [p, q].length → 0 ≤ nth [p, q] k := fun k hk => (hP.val k hk).1
  have f1 : 0 < A → q * A ≤ p * (B + 1) := fun hA => by
    have := d.fair (by decide) hpn 0 1 (by simp) (by simp) hA
    have e : q * (1 * (A - 1) + 1) < p * (1 * B + 1) ∨ (q * (1 * (A - 1) + 1) = p * (1 * B + 1) ∧ 0 ≤ 1) ∨ 0 = 1 := this
    rw [show (1 : Int) * (A - 1) + 1 = A by omega, show (1 : Int) * B + 1 = B + 1 by omega] at e
    omega
  have f2 : 0 < B → p * B < q * (A + 1) := fun hA => by
    have := d.fair (by decide) hpn 1 0 (by simp) (by simp) hA
    have e : p * (1 * (B - 1) + 1) < q * (1 * A + 1) ∨ (p * (1 * (B - 1) + 1) = q * (1 * A + 1) ∧ 1 ≤ 0) ∨ 1 = 0 := this
    rw [show (1 : Int) * (B - 1) + 1 = B by omega, show (1 : Int) * A + 1 = A + 1 by omega] at e
    omega
  have key := sold_seats (p := p) (q := q) (by omega) b0 (by omega) s v0 v1 hAB f1 f2
  have hwl := s.len
  rw [show (quo p ++ quo q).length = 10 from rfl, if_pos (by omega)] at hwl
  rw [show [p, q].length = 2 from rfl, hloop]
  simp only [bindR]
  rw [ea, Option.bind_some, ew, Option.bind_some]
  dsimp only
  rw [works_y, Option.bind_some, if_neg (by decide), tgood_y, Option.bind_some, if_neg (by decide)]
  dsimp only
  rw [if_neg (by simp)]
  have hc : rangeN (γ := Unit) (top_TopSeats_b3 (w, P, (0 : Int))) w.length 0 (0 : Int) = some (.nx A) := by
    have hk : Ok (rangeN (γ := Unit) (top_TopSeats_b3 (w, P, (0 : Int))) w.length 0 (0 : Int)) (FlOk (fun x => x = A) (fun _ => False) (fun _ : Bool => False)) := by
      refine ok_rangeN (fun k x => x = ((w.take k).countP (fun x => decide (x < 5)) : Int)) (by simp) (fun k x hk hI => ?_) fun x hx => by rw [hx, List.take_length, key]
      subst hI
      have hcc : (w.take k).countP (fun x => decide (x < 5)) ≤ k := Nat.le_trans List.countP_le_length (by rw [List.length_take]; omega)
      unfold top_TopSeats_b3
      dsimp only
      rw [idx_nat, nth_at hk, Option.bind_some, List.take_succ, List.countP_append, nth_at hk]
      by_cases h5 : nth w k < 5
      · rw [if_pos (by rw [decide_eq_true_eq]; exact h5), wadd_of (by omega) (by omega), ok_some, flok_nx]; simp [h5]
      · rw [if_neg (by rw [decide_eq_true_eq]; exact h5), ok_some, flok_nx]; simp [h5]
    obtain ⟨v, e, hv⟩ := hk
    cases v with
    | br _ => exact hv.elim
    | rt _ => exact hv.elim
    | nx x => rw [flok_nx] at hv; rw [e, hv]
  rw [hc]
  dsimp only
  rw [show idx [A, B] 0 = some A from rfl, Option.bind_some, if_pos (by simp), show idx [A, B] 1 = some B from rfl, Option.bind_some, wsub_of (by omega) (by omega), if_pos (by rw [beq_iff_eq]; omega)]
  simp [hwl]
end Go.Pu
