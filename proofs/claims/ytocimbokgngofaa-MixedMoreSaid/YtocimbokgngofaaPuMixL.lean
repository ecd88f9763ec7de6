/- Mixing two rows: what the laws need of mixed.Solve. -/
import Derived.Test.YtocimbokgngofaaWMixedMoreModels
import Derived.Test.YtocimbokgngofaaPuMixV
import Derived.Test.YtocimbokgngofaaPuWithin
set_option linter.all false
namespace Go.Pu
open Go.Fw Go.Mo
theorem mixes_t : pk_mixes_m = some true := by decide +kernel
theorem two_at (m : List (List Int)) : pk_two_m m = some (m.take 2) := by
  unfold pk_two_m
  by_cases h : 2 < m.length
  · rw [if_pos (by rw [decide_eq_true_eq]; omega), chk_t (by omega), Option.bind_some]; rfl
  · rw [if_neg (by rw [decide_eq_true_eq]; omega), List.take_of_length_le (by omega)]
theorem mix_split (m : List (List Int)) (hm : m.length ≤ 2) : (∃ c f, Tbl 2 c m f) ∨ ∃ e, e ≠ 0 ∧ mixed_Solve_m m = some ((0, 0), (0, 0), e) := by
  rcases sad_split m with ⟨r, c, f, h⟩ | ⟨e, he, hc⟩
  · have hl := h.mat.len
    by_cases hr : r = 2
    · subst hr; exact .inl ⟨c, f, h⟩
    · right
      refine ⟨3, by decide, ?_⟩
      unfold mixed_Solve_m
      rw [sad_ok h, Option.bind_some, if_neg (by decide), if_pos (by rw [bne_iff_ne]; omega)]
  · right
    refine ⟨e, he, ?_⟩
    unfold mixed_Solve_m
    rw [hc, Option.bind_some, if_pos (by simpa using he)]
theorem mulb {a b A B : Int} (ha : -A ≤ a ∧ a ≤ A) (hb : 0 ≤ b ∧ b ≤ B) : -(A * B) ≤ a * b ∧ a * b ≤ A * B := by
  have hA : 0 ≤ A := by omega
  have h1 := mul_le hb.1 ha.1
  have h2 := mul_le hb.1 ha.2
  have h3 : A * b ≤ A * B := Int.mul_le_mul_of_nonneg_left hb.2 hA
  rw [Int.neg_mul] at h1
  omega
section
variable {c : Nat} {m : List (List Int)} {f : Nat → Nat → Int} {x v : Int × Int} {P Q g k : Int}
theorem Sol.bounds (s : Sol c f x v P Q g k) (hf : Okf c f) (c1 : 1 ≤ c) : (0 ≤ x.1 ∧ x.1 ≤ x.2 ∧ 1 ≤ x.2 ∧ x.2 ≤ 4000) ∧ 1 ≤ v.2 ∧ v.2 ≤ 4000 ∧ -4000000 ≤ v.1 ∧ v.1 ≤ 4000000 := by
  have g1 := s.g1; have k1 := s.h1; have q1 := s.q1; have q4 := s.q4; have p0 := s.p0; have pq := s.pq
  have ep := s.ep; have eq := s.eq; have ev := s.ev; have ew := s.ew
  have lb := lst_bound hf c1 p0 pq
  have x2 := pos_of_mul (a := x.2) (b := g) (by omega) (by rw [Int.mul_comm]; omega)
  have v2 := pos_of_mul (a := v.2) (b := k) (by omega) (by rw [Int.mul_comm]; omega)
  have x2' := abs_le_of_mul g1 eq (b := 4000) (by omega)
  have v2' := abs_le_of_mul k1 ew (b := 4000) (by omega)
  have v1' := abs_le_of_mul k1 ev (b := 4000000) (by omega)
  have x1 := cancel_le (a := 0) (b := x.1) (c := g) (by omega) (by rw [Int.mul_comm x.1 g]; omega)
  have x1' := cancel_le (a := x.1) (b := x.2) (c := g) (by omega) (by rw [Int.mul_comm x.1 g, Int.mul_comm x.2 g]; omega)
  omega
theorem lin_code (h : Tbl 2 c m f) {p q w : Int} {k : Nat} (hk : k < c) (hp : 0 ≤ p) (hq : p ≤ q) (hq' : q ≤ 10000) (hw : 0 ≤ w ∧ w ≤ 4000) : wmul (wadd (wmul (f 0 k) p) (wmul (f 1 k) (wsub q p))) w = lin f p q k * w := by
  obtain ⟨b1, b2, b3, b4, b5, b6⟩ := lin_bound (f := f) (k := k) (B := 1000) (h.val 0 k (by omega) hk) (h.val 1 k (by omega) hk) hp hq
  have bb := mulb (a := lin f p q k) (b := w) (A := 10000000) (B := 4000) ⟨by omega, by omega⟩ hw
  have e : wadd (wmul (f 0 k) p) (wmul (f 1 k) (wsub q p)) = lin f p q k := by
    rw [wsub_of (by omega) (by omega), wmul_of (by omega) (by omega), wmul_of (by omega) (by omega), wadd_of (by unfold lin at b1; omega) (by unfold lin at b2; omega)]; rfl
  rw [e, wmul_of (by omega) (by omega)]
/-- the columns' lines at the share in low terms -/
theorem Sol.line (s : Sol c f x v P Q g k) {j : Nat} : lin f P Q j = g * lin f x.1 x.2 j := by
  unfold lin; rw [s.ep, s.eq, Int.mul_add]
  have : g * x.2 - g * x.1 = g * (x.2 - x.1) := by rw [Int.mul_sub]
  rw [this, Int.mul_left_comm, Int.mul_left_comm (f 1 j)]
theorem Sol.sure (s : Sol c f x v P Q g k) {j : Nat} (hj : j < c) : v.1 * x.2 ≤ lin f x.1 x.2 j * v.2 := by
  have h1 : lst c f P Q ≤ lin f P Q j := lst_le j hj
  have g1 := s.g1; have k1 := s.h1; have q1 := s.q1
  have h2 := mul_le (show 0 ≤ Q by omega) h1
  rw [s.line] at h2
  have e1 : lst c f P Q * Q = v.1 * x.2 * (g * k) := by
    rw [s.ev]; rw (occs := .pos [1]) [s.eq]
    simp only [Int.mul_comm, Int.mul_left_comm, Int.mul_assoc]
  have e2 : g * lin f x.1 x.2 j * Q = lin f x.1 x.2 j * v.2 * (g * k) := by
    rw (occs := .pos [1]) [s.ew]
    simp only [Int.mul_comm, Int.mul_left_comm, Int.mul_assoc]
  rw [e1, e2] at h2
  exact cancel_le (Int.mul_pos (by omega) (by omega)) h2
/-- whoever chooses by p of q has no more than that, in some column -/
theorem Sol.most (s : Sol c f x v P Q g k) {p q : Int} (hp : 0 ≤ p) (hpq : p ≤ q) (hq : 1 ≤ q) : lst c f p q * v.2 ≤ v.1 * q := by
  have h := s.best p q hp hpq hq
  have k1 := s.h1
  rw [s.ev] at h
  rw (occs := .pos [1]) [s.ew] at h
  refine cancel_le (c := k) (by omega) ?_
  have e1 : lst c f p q * v.2 * k = lst c f p q * (k * v.2) := by rw [Int.mul_assoc, Int.mul_comm v.2]
  have e2 : v.1 * q * k = k * v.1 * q := by rw [Int.mul_comm, Int.mul_assoc]
  rw [e1, e2]; exact h
end
end Go.Pu
