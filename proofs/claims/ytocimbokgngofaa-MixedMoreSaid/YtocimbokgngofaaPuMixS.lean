/- What mixed.Solve computes: a share at which the least is greatest, in low terms. -/
import Derived.Test.YtocimbokgngofaaWMixedMoreModels
import Derived.Test.YtocimbokgngofaaPuMix
set_option linter.all false
namespace Go.Pu
open Go.Fw Go.Mo
/-! ### low terms -/
theorem gcd_ok (a b : Int) (hb : 0 ≤ b) (hb' : b ≤ 100000) (ha : -1000000000 ≤ a ∧ a ≤ 1000000000) : mixed_gcd_m a b = some (Int.gcd a b : Int) := by
  apply Ok.eq
  unfold mixed_gcd_m
  rw [ok_bindR]
  have hs : (if (wsub 0 a) > a then wsub 0 a else a) = (a.natAbs : Int) := by
    rw [wsub_of (by omega) (by omega)]; split <;> omega
  rw [hs]
  refine ok_loopM (fun s : Int × Int => ∃ x y : Nat, s = ((x : Int), (y : Int)) ∧ Nat.gcd x y = Int.gcd a b) (fun s => s.2.toNat) (B := fun s : Int × Int => s.1 = (Int.gcd a b : Int)) (C := fun s : Unit => False) (R := fun _ => False) (fun s hs => ?_) 1048576 _ ⟨a.natAbs, b.natAbs, by rw [Int.natAbs_of_nonneg hb], rfl⟩ (by simp only; omega) |>.mono (P := FlOk (fun s : Int × Int => s.1 = (Int.gcd a b : Int)) (fun _ => False) (fun _ => False)) fun v hv => ?_
  · obtain ⟨x, y, rfl, hg⟩ := hs
    unfold mixed_gcd_b1
    simp only
    rw [ok_ite]
    refine ⟨fun h => ?_, fun h => ?_⟩
    · have hy : 0 < y := by have := of_decide_eq_true h; omega
      rw [chk_t (by omega), Option.bind_some, ok_some, flok_nx]
      refine ⟨⟨y, x % y, by rw [Int.ofNat_tmod], ?_⟩, ?_⟩
      · rw [← hg, Nat.gcd_comm x y, Nat.gcd_rec y x, Nat.gcd_comm]
      · simp only [← Int.ofNat_tmod, Int.toNat_natCast]
        exact Nat.mod_lt _ hy
    · have hy : y = 0 := by have : ¬ (y : Int) > 0 := fun h' => h (decide_eq_true h'); omega
      subst hy
      rw [ok_some, flok_br]
      rw [Nat.gcd_zero_right] at hg
      simp [hg]
  · cases v with
    | nx s => rw [flok_nx] at hv ⊢; rw [ok_some]; exact hv
    | br s => exact hv.elim
    | rt s => exact hv.elim
def lowP (p q : Int) : Int × Int := (p.tdiv (Int.gcd p q), q.tdiv (Int.gcd p q))
theorem lowP_spec (p q : Int) (hq : 1 ≤ q) : ∃ g : Int, 1 ≤ g ∧ p = g * (lowP p q).1 ∧ q = g * (lowP p q).2 := by
  have h0 : 0 < Int.gcd p q := Int.gcd_pos_of_ne_zero_right p (by omega)
  refine ⟨Int.gcd p q, by omega, ?_, ?_⟩
  · show p = _ * p.tdiv _
    rw [Int.mul_tdiv_cancel' (Int.gcd_dvd_left p q)]
  · show q = _ * q.tdiv _
    rw [Int.mul_tdiv_cancel' (Int.gcd_dvd_right p q)]
theorem abs_le_of_mul {g x y b : Int} (hg : 1 ≤ g) (e : y = g * x) (h : -b ≤ y ∧ y ≤ b) : -b ≤ x ∧ x ≤ b := by
  rcases Int.lt_or_le x 0 with hx | hx
  · have := Int.mul_le_mul_of_nonneg_right hg (show 0 ≤ -x by omega)
    rw [Int.one_mul, Int.mul_neg, ← e] at this; omega
  · have := Int.mul_le_mul_of_nonneg_right hg hx
    rw [Int.one_mul, ← e] at this; omega
theorem wrap_of {x : Int} (h : -9223372036854775808 ≤ x ∧ x ≤ 9223372036854775807) : IntKind.wrap .i64 x = x := by
  have := wadd_of (x := x) (y := 0) (by omega) (by omega)
  rw [show wadd x 0 = IntKind.wrap .i64 (x + 0) from rfl, Int.add_zero] at this
  exact this
theorem low_ok (p q : Int) (hq : 1 ≤ q) (hq' : q ≤ 100000) (hp : -1000000000 ≤ p ∧ p ≤ 1000000000) : mixed_low_m p q = some (lowP p q) := by
  apply Ok.eq
  unfold mixed_low_m
  have h0 : 0 < Int.gcd p q := Int.gcd_pos_of_ne_zero_right p (by omega)
  obtain ⟨g, hg, e1, e2⟩ := lowP_spec p q hq
  have b1 := abs_le_of_mul hg e1 hp
  have b2 := abs_le_of_mul hg e2 (b := 100000) (by omega)
  have w1 : IntKind.wrap .i64 (Int.tdiv p (Int.gcd p q)) = (lowP p q).1 := wrap_of (by have := b1; unfold lowP at this; simp only at this; omega)
  have w2 : IntKind.wrap .i64 (Int.tdiv q (Int.gcd p q)) = (lowP p q).2 := wrap_of (by have := b2; unfold lowP at this; simp only at this; omega)
  rw [ok_bindR, if_neg (by simp; omega), ok_some, flok_nx]
  simp only
  rw [gcd_ok p q (by omega) hq' hp, Option.bind_some, chk_t (by omega), Option.bind_some, Option.bind_some, ok_some, w1, w2]
theorem lowP_shift (p q b : Int) (hq : 1 ≤ q) : lowP (p + b * q) q = ((lowP p q).1 + b * (lowP p q).2, (lowP p q).2) := by
  have hg : Int.gcd (p + b * q) q = Int.gcd p q := by rw [Int.gcd_add_mul_right_left]
  have h0 : 0 < Int.gcd p q := Int.gcd_pos_of_ne_zero_right p (by omega)
  obtain ⟨g1, _, e1, e2⟩ := lowP_spec p q hq
  unfold lowP
  rw [hg]
  have d1 := Int.gcd_dvd_left p q
  have d2 := Int.gcd_dvd_right p q
  obtain ⟨x, ex⟩ := d1
  obtain ⟨y, ey⟩ := d2
  have hne : (Int.gcd p q : Int) ≠ 0 := by omega
  have t1 : p.tdiv (Int.gcd p q) = x := by rw (occs := .pos [1]) [ex]; exact Int.mul_tdiv_cancel_left x hne
  have t2 : q.tdiv (Int.gcd p q) = y := by rw (occs := .pos [1]) [ey]; exact Int.mul_tdiv_cancel_left y hne
  have t3 : (p + b * q).tdiv (Int.gcd p q) = x + b * y := by
    have : p + b * q = (Int.gcd p q : Int) * (x + b * y) := by rw [Int.mul_add, ← ex, Int.mul_left_comm, ← ey]
    rw [this]; exact Int.mul_tdiv_cancel_left _ hne
  rw [t1, t2, t3]
/-! ### the least of the lines -/
theorem lin_bound {f : Nat → Nat → Int} {p q : Int} {k : Nat} {B : Int} (h0 : -B ≤ f 0 k ∧ f 0 k ≤ B) (h1 : -B ≤ f 1 k ∧ f 1 k ≤ B) (hp : 0 ≤ p) (hq : p ≤ q) : -(B * q) ≤ lin f p q k ∧ lin f p q k ≤ B * q ∧ -(B * p) ≤ f 0 k * p ∧ f 0 k * p ≤ B * p ∧ -(B * (q - p)) ≤ f 1 k * (q - p) ∧ f 1 k * (q - p) ≤ B * (q - p) := by
  have a1 := mul_le hp h0.1; have a2 := mul_le hp h0.2
  have a3 := mul_le (show 0 ≤ q - p by omega) h1.1; have a4 := mul_le (show 0 ≤ q - p by omega) h1.2
  unfold lin
  rw [Int.neg_mul] at a1 a3
  have : B * q = B * p + B * (q - p) := by rw [← Int.mul_add]; congr 1; omega
  omega
def lst (c : Nat) (f : Nat → Nat → Int) (p q : Int) : Int := lstN (lin f p q) c
theorem least_ok {c : Nat} {m : List (List Int)} {f : Nat → Nat → Int} (h : Tbl 2 c m f) {p q : Int} (hp : 0 ≤ p) (hq : p ≤ q) (hq' : q ≤ 100000) : mixed_least_m m p q = some (lst c f p q) := by
  apply Ok.eq
  unfold mixed_least_m
  have c1 := h.c1
  have bd : ∀ k, k < c → wadd (wmul (f 0 k) p) (wmul (f 1 k) (wsub q p)) = lin f p q k := fun k hk => by
    obtain ⟨b1, b2, b3, b4, b5, b6⟩ := lin_bound (f := f) (k := k) (B := 1000) (h.val 0 k (by omega) hk) (h.val 1 k (by omega) hk) hp hq
    rw [wsub_of (by omega) (by omega), wmul_of (by omega) (by omega), wmul_of (by omega) (by omega), wadd_of (by unfold lin at b1; omega) (by unfold lin at b2; omega)]; rfl
  have i0 : ∀ l : List (List Int), idx l (0 : Int) = l[0]? := fun l => idx_nat (i := 0)
  have i1 : ∀ l : List (List Int), idx l (1 : Int) = l[1]? := fun l => idx_nat (i := 1)
  have j0 : ∀ l : List Int, idx l (0 : Int) = l[0]? := fun l => idx_nat (i := 0)
  simp only [i0, i1, j0, h.mat.row? (show 0 < 2 by omega), h.mat.row? (show 1 < 2 by omega), h.mat.cell? (x := 0) (y := 0) (by omega) (by omega), h.mat.cell? (x := 1) (y := 0) (by omega) (by omega), Option.bind_some, bd 0 (by omega)]
  rw [ok_bindR]
  refine ok_rangeL (fun k (s : Int) => s = lstN (lin f p q) k) rfl (fun k v s hk hI => ?_) fun s hs => ?_
  · obtain ⟨hv, hkl⟩ := nth_of hk
    rw [h.mat.row 0 (by omega)] at hkl
    unfold mixed_least_b1
    simp only [i0, i1, idx_nat, h.mat.row? (show 0 < 2 by omega), h.mat.row? (show 1 < 2 by omega), h.mat.cell? (x := 0) (show 0 < 2 by omega) hkl, h.mat.cell? (x := 1) (show 1 < 2 by omega) hkl, Option.bind_some, bd k hkl]
    rw [ok_some, flok_nx, hI]; rfl
  · rw [ok_some, hs, h.mat.row 0 (by omega)]; rfl
/-! ### the try -/
structure Sh (s : Int × Int) : Prop where
  p0 : 0 ≤ s.1
  pq : s.1 ≤ s.2
  q1 : 1 ≤ s.2
  q4 : s.2 ≤ 4000
def normP (p q : Int) : Int × Int := if q < 0 then (-p, -q) else (p, q)
def tryS (L : Int → Int → Int) (p q : Int) (s : Int × Int) : Int × Int :=
  if (normP p q).1 < 0 ∨ (normP p q).1 > (normP p q).2 then s
  else if L s.1 s.2 * (normP p q).2 < L (normP p q).1 (normP p q).2 * s.2 ∨ (L (normP p q).1 (normP p q).2 * s.2 = L s.1 s.2 * (normP p q).2 ∧ (normP p q).1 * s.2 < s.1 * (normP p q).2) then normP p q else s
theorem normP_q {p q : Int} (hq : q ≠ 0) (h : -4000 ≤ q ∧ q ≤ 4000) : 1 ≤ (normP p q).2 ∧ (normP p q).2 ≤ 4000 := by
  unfold normP; split <;> simp only <;> omega
theorem tryS_sh {L : Int → Int → Int} {p q : Int} {s : Int × Int} (hq : q ≠ 0) (hb : -4000 ≤ q ∧ q ≤ 4000) (hs : Sh s) : Sh (tryS L p q s) := by
  have := normP_q (p := p) hq hb
  unfold tryS
  split
  · exact hs
  · split
    · exact ⟨by omega, by omega, by omega, by omega⟩
    · exact hs
theorem tryS_ge {L : Int → Int → Int} {p q : Int} {s : Int × Int} (hs : Sh s) : L s.1 s.2 * (tryS L p q s).2 ≤ L (tryS L p q s).1 (tryS L p q s).2 * s.2 := by
  unfold tryS
  split
  · exact Int.le_refl _
  · split
    · rename_i h; omega
    · exact Int.le_refl _
theorem tryS_cand {L : Int → Int → Int} {p q : Int} {s : Int × Int} (h0 : 0 ≤ (normP p q).1) (h1 : (normP p q).1 ≤ (normP p q).2) : L (normP p q).1 (normP p q).2 * (tryS L p q s).2 ≤ L (tryS L p q s).1 (tryS L p q s).2 * (normP p q).2 := by
  unfold tryS
  rw [if_neg (by omega)]
  split
  · exact Int.le_refl _
  · rename_i h; omega
theorem tryS_shift {L L' : Int → Int → Int} {b : Int} (p q : Int) {s : Int × Int} (h : ∀ p q, L' p q = L p q + b * q) : tryS L' p q s = tryS L p q s := by
  unfold tryS
  simp only [h]
  have e1 : (L s.1 s.2 + b * s.2) * (normP p q).2 = L s.1 s.2 * (normP p q).2 + b * s.2 * (normP p q).2 := by rw [Int.add_mul]
  have e2 : (L (normP p q).1 (normP p q).2 + b * (normP p q).2) * s.2 = L (normP p q).1 (normP p q).2 * s.2 + b * s.2 * (normP p q).2 := by rw [Int.add_mul]; congr 1; rw [Int.mul_assoc, Int.mul_assoc, Int.mul_comm s.2]
  rw [e1, e2]
  have e3 : ∀ x y z : Int, (x + z = y + z) = (x = y) := fun x y z => propext (by omega)
  have e4 : ∀ x y z : Int, (x + z < y + z) = (x < y) := fun x y z => propext (by omega)
  simp only [e3, e4]
theorem try_ok {c : Nat} {m : List (List Int)} {f : Nat → Nat → Int} (h : Tbl 2 c m f) {p q : Int} {s : Int × Int} (hs : Sh s) (hq : q ≠ 0) (hb : -4000 ≤ q ∧ q ≤ 4000) (hp : -4000 ≤ p ∧ p ≤ 4000) : mixed_Solve_1_m p q m s.2 s.1 = some ((tryS (lst c f) p q s).2, (tryS (lst c f) p q s).1) := by
  apply Ok.eq
  unfold mixed_Solve_1_m
  have hn := normP_q (p := p) hq hb
  have nm : (if decide (q < (0 : Int)) then some (Fl.nx (ρ := Int × Int) (β := Unit) (wsub 0 p, wsub 0 q)) else some (Fl.nx (p, q))) = some (Fl.nx (normP p q)) := by
    unfold normP
    rw [wsub_of (by omega) (by omega), wsub_of (by omega) (by omega)]
    by_cases e : q < 0
    · rw [if_pos (by simpa using e), if_pos e]; simp
    · rw [if_neg (by simpa using e), if_neg e]
  rw [nm, ok_bindR, ok_some, flok_nx]
  generalize hN : normP p q = N at *
  obtain ⟨x, y⟩ := N
  simp only at hn ⊢
  have T : tryS (lst c f) p q s = if x < 0 ∨ x > y then s else if lst c f s.1 s.2 * y < lst c f x y * s.2 ∨ (lst c f x y * s.2 = lst c f s.1 s.2 * y ∧ x * s.2 < s.1 * y) then (x, y) else s := by unfold tryS; rw [hN]
  rw [T]
  by_cases h1 : x < 0 ∨ x > y
  · rw [if_pos h1]
    have : (if decide (x < (0 : Int)) then some (Fl.nx (ρ := Int × Int) (β := Unit) true) else some (Fl.nx (decide (x > y)))) = some (Fl.nx true) := by
      by_cases e : x < 0
      · rw [if_pos (by simpa using e)]
      · rw [if_neg (by simpa using e), decide_eq_true (by omega)]
    rw [ok_bindR, this, ok_some, flok_nx, if_pos rfl, ok_some]
  · rw [if_neg h1]
    have : (if decide (x < (0 : Int)) then some (Fl.nx (ρ := Int × Int) (β := Unit) true) else some (Fl.nx (decide (x > y)))) = some (Fl.nx false) := by
      rw [if_neg (by simp; omega), decide_eq_false (by omega)]
    rw [ok_bindR, this, ok_some, flok_nx, if_neg (by decide), least_ok h (by omega) (by omega) (by omega), Option.bind_some, least_ok h hs.p0 hs.pq (by have := hs.q4; omega), Option.bind_some]
    have lb : ∀ {a b : Int}, 0 ≤ a → a ≤ b → b ≤ 4000 → -4000000 ≤ lst c f a b ∧ lst c f a b ≤ 4000000 := fun {a b} h0 h1 h2 => by
      obtain ⟨k, hk, e⟩ := lst_at (g := lin f a b) h.c1
      have := lin_bound (f := f) (k := k) (B := 1000) (h.val 0 k (by omega) hk) (h.val 1 k (by omega) hk) h0 h1
      unfold lst; rw [e]; omega
    have l1 := lb (show 0 ≤ x by omega) (show x ≤ y by omega) hn.2
    have l2 := lb hs.p0 hs.pq hs.q4
    have pb : ∀ {a b : Int}, -4000000 ≤ a ∧ a ≤ 4000000 → 1 ≤ b → b ≤ 4000 → -16000000000 ≤ a * b ∧ a * b ≤ 16000000000 := fun {a b} ha h1 h2 => by
      have u1 := mul_le (show 0 ≤ b by omega) ha.1
      have u2 := mul_le (show 0 ≤ b by omega) ha.2
      omega
    have hs4 := hs.q4; have hs1 := hs.q1; have hs0 := hs.p0; have hspq := hs.pq
    have m1 := pb l1 hs1 hs4
    have m2 := pb l2 hn.1 hn.2
    have m3 := pb (show -4000000 ≤ x ∧ x ≤ 4000000 by omega) hs1 hs4
    have m4 := pb (show -4000000 ≤ s.1 ∧ s.1 ≤ 4000000 by omega) hn.1 hn.2
    rw [wmul_of (by omega) (by omega), wmul_of (by omega) (by omega), wmul_of (by omega) (by omega), wmul_of (by omega) (by omega), ok_bindR]
    by_cases g1 : lst c f s.1 s.2 * y < lst c f x y * s.2
    · rw [if_pos (by simpa using g1), ok_some, flok_nx, if_pos rfl, if_pos (.inl g1), ok_some]
    · rw [if_neg (by simpa using g1)]
      by_cases g2 : lst c f x y * s.2 = lst c f s.1 s.2 * y
      · rw [if_pos (by simpa using g2), ok_some, flok_nx]
        by_cases g3 : x * s.2 < s.1 * y
        · rw [if_pos (by simpa using g3), if_pos (.inr ⟨g2, g3⟩), ok_some]
        · rw [if_neg (by simpa using g3), if_neg (by intro hh; rcases hh with hh | hh; exact g1 hh; exact g3 hh.2), ok_some]
      · rw [if_neg (by simpa using g2), ok_some, flok_nx, if_neg (by decide), if_neg (by intro hh; rcases hh with hh | hh; exact g1 hh; exact g2 hh.1), ok_some]
end Go.Pu
