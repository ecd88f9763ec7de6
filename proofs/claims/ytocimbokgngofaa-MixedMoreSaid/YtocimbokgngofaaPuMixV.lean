/- mixed.Solve: what it gives is the most of the least, and there is a mix of columns that holds the one to it. -/
import Derived.Test.YtocimbokgngofaaWMixedMoreModels
import Derived.Test.YtocimbokgngofaaPuMixS
set_option linter.all false
namespace Go.Pu
open Go.Fw Go.Mo
/-- what s is worth is at least what p of q is worth -/
def Dm (L : Int → Int → Int) (p q : Int) (s : Int × Int) : Prop := L p q * s.2 ≤ L s.1 s.2 * q
theorem Dm.trans {L : Int → Int → Int} {p q : Int} {s t : Int × Int} (hq : 0 < q) (hs : 0 < s.2) (ht : 0 < t.2) (h : Dm L p q s) (h' : Dm L s.1 s.2 t) : Dm L p q t := by
  unfold Dm at *
  have a := mul_le (show 0 ≤ t.2 by omega) h
  have b := mul_le (show 0 ≤ q by omega) h'
  refine cancel_le hs ?_
  have e1 : L p q * s.2 * t.2 = L p q * t.2 * s.2 := by rw [Int.mul_right_comm]
  have e2 : L s.1 s.2 * q * t.2 = L s.1 s.2 * t.2 * q := by rw [Int.mul_right_comm]
  have e3 : L t.1 t.2 * s.2 * q = L t.1 t.2 * q * s.2 := by rw [Int.mul_right_comm]
  omega
theorem Dm.try {L : Int → Int → Int} {p q x y : Int} {s : Int × Int} (hs : Sh s) (hq : 0 < q) (hy : y ≠ 0) (hb : -4000 ≤ y ∧ y ≤ 4000) (h : Dm L p q s) : Dm L p q (tryS L x y s) :=
  Dm.trans hq (by have := hs.q1; omega) (by have := (tryS_sh (L := L) (p := x) hy hb hs).q1; omega) h (tryS_ge hs)
/-- the pair that the code tries for i and k -/
def upN (f : Nat → Nat → Int) (i k : Nat) : Int := f 1 k - f 1 i
def dnN (f : Nat → Nat → Int) (i k : Nat) : Int := f 0 i - f 1 i - f 0 k + f 1 k
def stepS (L : Int → Int → Int) (f : Nat → Nat → Int) (i k : Nat) (s : Int × Int) : Int × Int := if dnN f i k ≠ 0 then tryS L (upN f i k) (dnN f i k) s else s
theorem stepS_no {L : Int → Int → Int} {f : Nat → Nat → Int} {i k : Nat} {s : Int × Int} (h : dnN f i k = 0) : stepS L f i k s = s := by unfold stepS; rw [if_neg (by omega)]
theorem stepS_do {L : Int → Int → Int} {f : Nat → Nat → Int} {i k : Nat} {s : Int × Int} (h : dnN f i k ≠ 0) : stepS L f i k s = tryS L (upN f i k) (dnN f i k) s := by unfold stepS; rw [if_pos h]
def foldN {σ : Type} (g : Nat → σ → σ) : Nat → σ → σ
  | 0, s => s
  | n + 1, s => g n (foldN g n s)
theorem foldN_inv {σ : Type} {g : Nat → σ → σ} {I : σ → Prop} {n : Nat} {s : σ} (h0 : I s) (hs : ∀ k s, k < n → I s → I (g k s)) : I (foldN g n s) := by
  induction n with
  | zero => exact h0
  | succ n ih => exact hs n _ (by omega) (ih fun k s hk => hs k s (by omega))
/-- what holds behind step k and stays -/
theorem foldN_hit {σ : Type} {g : Nat → σ → σ} {I J : σ → Prop} {n k : Nat} {s : σ} (hk : k < n) (h0 : I s) (hI : ∀ j s, j < n → I s → I (g j s)) (hit : ∀ s, I s → J (g k s)) (stay : ∀ j s, j < n → I s → J s → J (g j s)) : J (foldN g n s) := by
  induction n with
  | zero => omega
  | succ n ih =>
    have hin : I (foldN g n s) := foldN_inv h0 fun j s hj => hI j s (by omega)
    by_cases e : k = n
    · subst e; exact hit _ hin
    · exact stay n _ (by omega) hin (ih (by omega) (fun j s hj => hI j s (by omega)) fun j s hj => stay j s (by omega))
def solS (L : Int → Int → Int) (f : Nat → Nat → Int) (c : Nat) : Int × Int := foldN (fun i s => foldN (stepS L f i) i s) c (tryS L 1 1 (0, 1))
def Okf (c : Nat) (f : Nat → Nat → Int) : Prop := ∀ k, k < c → (-1000 ≤ f 0 k ∧ f 0 k ≤ 1000) ∧ (-1000 ≤ f 1 k ∧ f 1 k ≤ 1000)
theorem step_sh {L : Int → Int → Int} {c : Nat} {f : Nat → Nat → Int} (hf : Okf c f) {i k : Nat} (hi : i < c) (hk : k < c) {s : Int × Int} (hs : Sh s) : Sh (stepS L f i k s) := by
  unfold stepS
  split
  · rename_i h
    have h1 := hf i hi; have h2 := hf k hk
    exact tryS_sh h (by unfold dnN; omega) hs
  · exact hs
theorem step_dm {L : Int → Int → Int} {c : Nat} {f : Nat → Nat → Int} (hf : Okf c f) {i k : Nat} (hi : i < c) (hk : k < c) {s : Int × Int} (hs : Sh s) {p q : Int} (hq : 0 < q) (h : Dm L p q s) : Dm L p q (stepS L f i k s) := by
  unfold stepS
  split
  · rename_i hd
    have h1 := hf i hi; have h2 := hf k hk
    exact h.try hs hq hd (by unfold dnN; omega)
  · exact h
theorem in_sh {L : Int → Int → Int} {c : Nat} {f : Nat → Nat → Int} (hf : Okf c f) {i n : Nat} (hi : i < c) (hn : n ≤ c) {s : Int × Int} (hs : Sh s) : Sh (foldN (stepS L f i) n s) := foldN_inv hs fun k s hk h => step_sh hf hi (by omega) h
theorem in_dm {L : Int → Int → Int} {c : Nat} {f : Nat → Nat → Int} (hf : Okf c f) {i n : Nat} (hi : i < c) (hn : n ≤ c) {s : Int × Int} (hs : Sh s) {p q : Int} (hq : 0 < q) (h : Dm L p q s) : Dm L p q (foldN (stepS L f i) n s) :=
  (foldN_inv (I := fun s => Sh s ∧ Dm L p q s) ⟨hs, h⟩ fun k s hk h => ⟨step_sh hf hi (by omega) h.1, step_dm hf hi (by omega) h.1 hq h.2⟩).2
theorem s0_sh : Sh (0, 1) := ⟨Int.le_refl _, by decide, by decide, by decide⟩
theorem s1_sh (L : Int → Int → Int) : Sh (tryS L 1 1 (0, 1)) := tryS_sh (by decide) (by decide) s0_sh
theorem sol_sh {L : Int → Int → Int} {c : Nat} {f : Nat → Nat → Int} (hf : Okf c f) : Sh (solS L f c) := foldN_inv (s1_sh L) fun i s hi h => in_sh hf hi (by omega) h
theorem sol_ends {L : Int → Int → Int} {c : Nat} {f : Nat → Nat → Int} (hf : Okf c f) : Dm L 0 1 (solS L f c) ∧ Dm L 1 1 (solS L f c) := by
  have key : ∀ p q : Int, 0 < q → Dm L p q (tryS L 1 1 (0, 1)) → Dm L p q (solS L f c) := fun p q hq h =>
    (foldN_inv (I := fun s => Sh s ∧ Dm L p q s) ⟨s1_sh L, h⟩ fun i s hi h => ⟨in_sh hf hi (by omega) h.1, in_dm hf hi (by omega) h.1 hq h.2⟩).2
  refine ⟨key 0 1 (by decide) ?_, key 1 1 (by decide) ?_⟩
  · exact Dm.try s0_sh (by decide) (by decide) (by decide) (Int.le_refl _)
  · exact tryS_cand (L := L) (p := 1) (q := 1) (s := (0, 1)) (by decide) (by decide)
theorem sol_pair {L : Int → Int → Int} {c : Nat} {f : Nat → Nat → Int} (hf : Okf c f) {i k : Nat} (hi : i < c) (hk : k < i) (hd : dnN f i k ≠ 0) (h0 : 0 ≤ (normP (upN f i k) (dnN f i k)).1) (h1 : (normP (upN f i k) (dnN f i k)).1 ≤ (normP (upN f i k) (dnN f i k)).2) :
    Dm L (normP (upN f i k) (dnN f i k)).1 (normP (upN f i k) (dnN f i k)).2 (solS L f c) := by
  have b1 := hf i hi; have b2 := hf k (by omega)
  have hq := (normP_q (p := upN f i k) hd (by unfold dnN; omega)).1
  refine foldN_hit (I := Sh) (J := Dm L _ _) hi (s1_sh L) (fun j s hj h => in_sh hf hj (by omega) h) (fun s hs => ?_) fun j s hj hs h => in_dm hf hj (by omega) hs (by omega) h
  refine foldN_hit (I := Sh) (J := Dm L _ _) hk hs (fun j s hj h => step_sh hf hi (by omega) h) (fun s hs => ?_) fun j s hj hs h => step_dm hf hi (by omega) hs (by omega) h
  unfold stepS
  rw [if_pos hd]
  exact tryS_cand h0 h1
/-- THE MOST: no share is worth more -/
theorem sol_best {c : Nat} {f : Nat → Nat → Int} (hf : Okf c f) (h1 : 1 ≤ c) {p q : Int} (hp : 0 ≤ p) (hpq : p ≤ q) (hq : 1 ≤ q) : Dm (lst c f) p q (solS (lst c f) f c) := by
  have sh := sol_sh (L := lst c f) hf
  obtain ⟨d0, d1⟩ := sol_ends (L := lst c f) hf
  have pr := fun i k => @sol_pair (lst c f) c f hf i k
  generalize hS : solS (lst c f) f c = S at *
  obtain ⟨P, Q⟩ := S
  have hQ : 1 ≤ Q := sh.q1
  unfold Dm at *
  simp only at *
  rcases Int.lt_or_le (lst c f P Q * q) (lst c f p q * Q) with hlt | hle
  · exfalso
    have lk : ∀ (x y : Int) k, k < c → lst c f x y ≤ lin f x y k := fun x y k hk => lst_le k hk
    have at_ : ∀ x y : Int, ∃ k, k < c ∧ lst c f x y = lin f x y k := fun x y => lst_at h1
    generalize hN : lst c f P Q = N at *
    obtain ⟨k0, hk0, e0⟩ := at_ 0 1
    obtain ⟨k1, hk1, e1⟩ := at_ 1 1
    obtain ⟨i, j, hi, hj, hs, hr, hall⟩ := cross (u := fun k => f 1 k * Q - N) (w := fun k => f 0 k * Q - N) (n := c) (p := p) (r := q - p) hp (by omega) (fun k hk => by
        have := mul_le (show 0 ≤ Q by omega) (lk p q k hk)
        unfold lin at this
        try dsimp only
        grind)
      ⟨k0, hk0, by rw [e0] at d0; unfold lin at d0; (try dsimp only); grind⟩
      ⟨k1, hk1, by rw [e1] at d1; unfold lin at d1; (try dsimp only); grind⟩
    try dsimp only at hs hr hall
    have hs' : 0 < f 1 j - f 1 i := by
      refine pos_of_mul (b := Q) (by omega) ?_
      rw [Int.sub_mul]; omega
    have hr' : 0 < f 0 i - f 0 j := by
      refine pos_of_mul (b := Q) (by omega) ?_
      rw [Int.sub_mul]; omega
    have cand : lst c f (f 1 j - f 1 i) (f 1 j - f 1 i + (f 0 i - f 0 j)) * Q ≤ N * (f 1 j - f 1 i + (f 0 i - f 0 j)) := by
      rcases Nat.lt_or_ge j i with hji | hji
      · have en : normP (upN f i j) (dnN f i j) = (f 1 j - f 1 i, f 1 j - f 1 i + (f 0 i - f 0 j)) := by
          unfold normP upN dnN; rw [if_neg (by omega)]; congr 1; omega
        have := pr i j hi hji (by unfold dnN; omega) (by rw [en]; simp only; omega) (by rw [en]; simp only; omega)
        rw [en] at this; exact this
      · have hne : i ≠ j := fun e => by subst e; omega
        have en : normP (upN f j i) (dnN f j i) = (f 1 j - f 1 i, f 1 j - f 1 i + (f 0 i - f 0 j)) := by
          unfold normP upN dnN; rw [if_pos (by omega)]; congr 1 <;> omega
        have := pr j i hj (by omega) (by unfold dnN; omega) (by rw [en]; simp only; omega) (by rw [en]; simp only; omega)
        rw [en] at this; exact this
    obtain ⟨k, hk, ek⟩ := at_ (f 1 j - f 1 i) (f 1 j - f 1 i + (f 0 i - f 0 j))
    have hk' := hall k hk
    rw [ek] at cand
    have cand' := mul_le (show 0 ≤ Q by omega) cand
    unfold lin at cand'
    grind
  · exact hle
/-- THE OTHER ONE: a column, or two mixed, that hold him to it -/
theorem sol_right {c : Nat} {f : Nat → Nat → Int} (hf : Okf c f) (h1 : 1 ≤ c) {P Q : Int} (hS : solS (lst c f) f c = (P, Q)) : P = Q ∨ ∃ j, j < c ∧ lin f P Q j = lst c f P Q ∧ f 0 j ≤ f 1 j := by
  have sh := sol_sh (L := lst c f) hf
  rw [hS] at sh
  have p0 := sh.p0; have pq := sh.pq; have q1 := sh.q1
  simp only at p0 pq q1
  by_cases e : P = Q
  · exact .inl e
  · right
    by_cases hx : ∃ j, j < c ∧ lin f P Q j = lst c f P Q ∧ f 0 j ≤ f 1 j
    · exact hx
    · exfalso
      have hb := sol_best hf h1 (p := P * 2001 + 1) (q := Q * 2001) (by omega) (by omega) (by omega)
      rw [hS] at hb
      unfold Dm at hb
      simp only at hb
      obtain ⟨k, hk, ek⟩ := lst_at (g := lin f (P * 2001 + 1) (Q * 2001)) h1
      have hlk : lst c f P Q ≤ lin f P Q k := lst_le k hk
      have exp : lin f (P * 2001 + 1) (Q * 2001) k = lin f P Q k * 2001 + (f 0 k - f 1 k) := by unfold lin; grind
      have bk := hf k hk
      have hgt : lst c f P Q * 2001 + 1 ≤ lin f (P * 2001 + 1) (Q * 2001) k := by
        rw [exp]
        by_cases ea : lin f P Q k = lst c f P Q
        · have : ¬ f 0 k ≤ f 1 k := fun h => hx ⟨k, hk, ea, h⟩
          omega
        · omega
      unfold lst at hb
      rw [ek] at hb
      have h2 := mul_le (show 0 ≤ Q by omega) hgt
      unfold lst at h2
      generalize lstN (lin f P Q) c = N at *
      rw [Int.add_mul] at h2
      have e2 : N * (Q * 2001) = N * 2001 * Q := by rw [Int.mul_assoc, Int.mul_comm 2001 Q]
      omega
theorem sol_left {c : Nat} {f : Nat → Nat → Int} (hf : Okf c f) (h1 : 1 ≤ c) {P Q : Int} (hS : solS (lst c f) f c = (P, Q)) : P = 0 ∨ ∃ j, j < c ∧ lin f P Q j = lst c f P Q ∧ f 1 j ≤ f 0 j := by
  have sh := sol_sh (L := lst c f) hf
  rw [hS] at sh
  have p0 := sh.p0; have pq := sh.pq; have q1 := sh.q1
  simp only at p0 pq q1
  by_cases e : P = 0
  · exact .inl e
  · right
    by_cases hx : ∃ j, j < c ∧ lin f P Q j = lst c f P Q ∧ f 1 j ≤ f 0 j
    · exact hx
    · exfalso
      have hb := sol_best hf h1 (p := P * 2001 - 1) (q := Q * 2001) (by omega) (by omega) (by omega)
      rw [hS] at hb
      unfold Dm at hb
      simp only at hb
      obtain ⟨k, hk, ek⟩ := lst_at (g := lin f (P * 2001 - 1) (Q * 2001)) h1
      have hlk : lst c f P Q ≤ lin f P Q k := lst_le k hk
      have exp : lin f (P * 2001 - 1) (Q * 2001) k = lin f P Q k * 2001 + (f 1 k - f 0 k) := by unfold lin; grind
      have bk := hf k hk
      have hgt : lst c f P Q * 2001 + 1 ≤ lin f (P * 2001 - 1) (Q * 2001) k := by
        rw [exp]
        by_cases ea : lin f P Q k = lst c f P Q
        · have : ¬ f 1 k ≤ f 0 k := fun h => hx ⟨k, hk, ea, h⟩
          omega
        · omega
      unfold lst at hb
      rw [ek] at hb
      have h2 := mul_le (show 0 ≤ Q by omega) hgt
      unfold lst at h2
      generalize lstN (lin f P Q) c = N at *
      rw [Int.add_mul] at h2
      have e2 : N * (Q * 2001) = N * 2001 * Q := by rw [Int.mul_assoc, Int.mul_comm 2001 Q]
      omega
theorem Tbl.okf {c : Nat} {m : List (List Int)} {f : Nat → Nat → Int} (h : Tbl 2 c m f) : Okf c f := fun k hk => ⟨h.val 0 k (by omega) hk, h.val 1 k (by omega) hk⟩
theorem lst_bound {c : Nat} {f : Nat → Nat → Int} (hf : Okf c f) (h1 : 1 ≤ c) {p q : Int} (hp : 0 ≤ p) (hpq : p ≤ q) : -(1000 * q) ≤ lst c f p q ∧ lst c f p q ≤ 1000 * q := by
  obtain ⟨k, hk, e⟩ := lst_at (g := lin f p q) h1
  have := lin_bound (f := f) (k := k) (B := 1000) (hf k hk).1 (hf k hk).2 hp hpq
  unfold lst; rw [e]; omega
theorem solve_sad {c : Nat} {m : List (List Int)} {f : Nat → Nat → Int} (h : Tbl 2 c m f) : mixed_Solve_m m = some (lowP (solS (lst c f) f c).1 (solS (lst c f) f c).2, lowP (lst c f (solS (lst c f) f c).1 (solS (lst c f) f c).2) (solS (lst c f) f c).2, 0) := by
  apply Ok.eq
  have hf := h.okf
  have c1 := h.c1; have c6 := h.c6
  have i0 : ∀ l : List (List Int), idx l (0 : Int) = l[0]? := fun l => idx_nat (i := 0)
  have i1 : ∀ l : List (List Int), idx l (1 : Int) = l[1]? := fun l => idx_nat (i := 1)
  unfold mixed_Solve_m
  have t0 := try_ok h (p := 1) (q := 1) s0_sh (by decide) (by decide) (by decide)
  simp only at t0
  rw [sad_ok h, Option.bind_some, if_neg (by decide), h.mat.len, if_neg (by decide), t0, Option.bind_some, i0, h.mat.row? (by omega), Option.bind_some, ok_bindR]
  refine ok_rangeL (fun i (s : Int × Int) => s = foldN (fun i s => foldN (stepS (lst c f) f i) i s) i (tryS (lst c f) 1 1 (0, 1))) rfl (fun i v s hi hI => ?_) fun s hs => ?_
  · obtain ⟨hv, hil⟩ := nth_of hi
    rw [h.mat.row 0 (by omega)] at hil
    have shI : Sh s := by rw [hI]; exact foldN_inv (s1_sh _) fun j s hj hs => in_sh hf (by omega) (by omega) hs
    unfold mixed_Solve_b1
    dsimp only
    rw [chk_t (by omega), Option.bind_some, ok_bindF, Int.toNat_natCast]
    refine ok_rangeN (fun k (t : Int × Int) => t = foldN (stepS (lst c f) f i) k s) rfl (fun k t hk hK => ?_) fun t ht => ?_
    · have shK : Sh t := by rw [hK]; exact in_sh hf hil (by omega) shI
      have hkc : k < c := by omega
      unfold mixed_Solve_b2
      simp only [i0, i1, idx_nat, h.mat.row? (show 0 < 2 by omega), h.mat.row? (show 1 < 2 by omega), h.mat.cell? (x := 0) (show 0 < 2 by omega) hil, h.mat.cell? (x := 1) (show 1 < 2 by omega) hil, h.mat.cell? (x := 0) (show 0 < 2 by omega) hkc, h.mat.cell? (x := 1) (show 1 < 2 by omega) hkc, Option.bind_some]
      have b1 := hf i hil; have b2 := hf k hkc
      rw [wsub_of (x := f 0 i) (y := f 1 i) (by omega) (by omega), wsub_of (x := f 0 i - f 1 i) (by omega) (by omega), wadd_of (by omega) (by omega), wsub_of (x := f 1 k) (by omega) (by omega)]
      by_cases hd : f 0 i - f 1 i - f 0 k + f 1 k = 0
      · rw [if_neg (by simpa using hd), ok_some, flok_nx]
        show t = stepS (lst c f) f i k (foldN (stepS (lst c f) f i) k s)
        rw [stepS_no hd, hK]
      · rw [if_pos (by simpa using hd)]
        have tt := try_ok h (p := f 1 k - f 1 i) (q := f 0 i - f 1 i - f 0 k + f 1 k) shK hd (by omega) (by omega)
        rw [tt, Option.bind_some, ok_some, flok_nx]
        show _ = stepS (lst c f) f i k (foldN (stepS (lst c f) f i) k s)
        rw [stepS_do hd, ← hK]; rfl
    · rw [ok_some, flok_nx, ht, hI]; rfl
  · rw [h.mat.row 0 (by omega)] at hs
    have hS : s = solS (lst c f) f c := hs
    have sh : Sh s := by rw [hS]; exact sol_sh hf
    obtain ⟨P, Q⟩ := s
    have p0 := sh.p0; have pq := sh.pq; have q1 := sh.q1; have q4 := sh.q4
    simp only at p0 pq q1 q4 ⊢
    have lb := lst_bound hf c1 p0 pq
    rw [low_ok P Q q1 (by omega) (by omega), Option.bind_some, least_ok h p0 pq (by omega), Option.bind_some, low_ok _ Q q1 (by omega) (by omega), Option.bind_some, ok_some, ← hS]
/-- all of it -/
structure Sol (c : Nat) (f : Nat → Nat → Int) (x v : Int × Int) (P Q g h : Int) : Prop where
  p0 : 0 ≤ P
  pq : P ≤ Q
  q1 : 1 ≤ Q
  q4 : Q ≤ 4000
  g1 : 1 ≤ g
  h1 : 1 ≤ h
  ep : P = g * x.1
  eq : Q = g * x.2
  ev : lst c f P Q = h * v.1
  ew : Q = h * v.2
  best : ∀ p q, 0 ≤ p → p ≤ q → 1 ≤ q → lst c f p q * Q ≤ lst c f P Q * q
theorem solve_mix {c : Nat} {m : List (List Int)} {f : Nat → Nat → Int} (h : Tbl 2 c m f) : ∃ x v P Q g k, mixed_Solve_m m = some (x, v, 0) ∧ solS (lst c f) f c = (P, Q) ∧ Sol c f x v P Q g k := by
  have hf := h.okf
  have sh := sol_sh (L := lst c f) hf
  obtain ⟨g, g1, e1, e2⟩ := lowP_spec (solS (lst c f) f c).1 (solS (lst c f) f c).2 sh.q1
  obtain ⟨k, k1, e3, e4⟩ := lowP_spec (lst c f (solS (lst c f) f c).1 (solS (lst c f) f c).2) (solS (lst c f) f c).2 sh.q1
  exact ⟨_, _, _, _, g, k, solve_sad h, rfl, sh.p0, sh.pq, sh.q1, sh.q4, g1, k1, e1, e2, e3, e4, fun p q hp hpq hq => sol_best hf h.c1 hp hpq hq⟩
end Go.Pu
