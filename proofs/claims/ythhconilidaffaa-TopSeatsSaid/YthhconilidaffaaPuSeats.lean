/- Seats by dividing: seat by seat to whom has most by what he has already. -/
import Derived.Test.YthhconilidaffaaWTopSeatsModels
import Derived.Test.YthhconilidaffaaPuMat
import Derived.Test.YthhconilidaffaaPuWithin
set_option linter.all false
namespace Go.Pu
open Go.Fw Go.Mo
theorem cross_lt {pi pb pk Di Db Dk : Int} (h0 : 0 < Db) (h1 : 0 < Dk) (h2 : 0 < Di) (a : pi * Db ≤ pb * Di) (b : pb * Dk < pk * Db) : pi * Dk < pk * Di := by
  have e1 : pi * Db * Dk ≤ pb * Di * Dk := Int.mul_le_mul_of_nonneg_right a (by omega)
  have e2 : pb * Dk * Di < pk * Db * Di := Int.mul_lt_mul_of_pos_right b h2
  have e3 : pi * Dk * Db < pk * Di * Db := by grind
  exact Int.lt_of_mul_lt_mul_right e3 (by omega)
def psum (l : List Int) : Int := l.sum
structure People (p : List Int) : Prop where
  n1 : 1 ≤ p.length
  n8 : p.length ≤ 8
  val : ∀ k, k < p.length → 0 ≤ nth p k ∧ nth p k ≤ 1000000
  pos : 0 < p.sum
theorem sum_take_succ {l : List Int} {k : Nat} (h : k < l.length) : (l.take (k + 1)).sum = (l.take k).sum + nth l k := by
  rw [List.take_succ_eq_append_getElem h, List.sum_append, nth_get h]; simp
theorem psum_bound {p : List Int} (h : ∀ k, k < p.length → 0 ≤ nth p k ∧ nth p k ≤ 1000000) : ∀ k, k ≤ p.length → 0 ≤ (p.take k).sum ∧ (p.take k).sum ≤ 1000000 * k := by
  intro k
  induction k with
  | zero => simp
  | succ k ih =>
    intro hk
    have := ih (by omega)
    have := h k (by omega)
    rw [sum_take_succ (by omega)]
    omega
theorem seats_check {p : List Int} {h : Int} (hp : People p) (h0 : 0 ≤ h) (h1 : h ≤ 100) : seats_Check_m p h = some 0 := by
  apply Ok.eq
  have := hp.n1; have := hp.n8; have hpos := hp.pos
  unfold seats_Check_m
  simp only [ok_bindR, ok_ite, ok_some, flok_nx, decide_eq_true_eq]
  refine ⟨fun _ => by omega, fun _ => ⟨fun _ => by omega, fun _ => ?_⟩⟩
  refine ok_rangeL (s := (0 : Int)) (fun (k : Nat) (s : Int) => s = (p.take k).sum) (by simp) (fun k x s hk hs => ?_) fun s hs => ?_
  · obtain ⟨hx, hkl⟩ := nth_of hk
    have v := hp.val k hkl
    have b := psum_bound hp.val k (by omega)
    subst hs
    unfold seats_Check_b1
    simp only [ok_bindF, ok_ite, ok_some, flok_nx, flok_rt, decide_eq_true_eq]
    rw [sum_take_succ hkl, wadd_of (by omega) (by omega), hx]
    grind
  · rw [List.take_length] at hs
    subst hs
    simp only [flok_nx, ok_ite, ok_some, ok_bindR, beq_iff_eq, decide_eq_true_eq]
    grind
/-- the first of those with the greatest quotient -/
structure Best (p a : List Int) (w : Int) (b : Nat) : Prop where
  lt : b < p.length
  le : ∀ i, i < p.length → nth p i * (w * nth a b + 1) ≤ nth p b * (w * nth a i + 1)
  fst : ∀ i, i < b → nth p i * (w * nth a b + 1) < nth p b * (w * nth a i + 1)
theorem Best.one {p a : List Int} {w : Int} {b c : Nat} (hb : Best p a w b) (hc : Best p a w c) : b = c := by
  rcases Nat.lt_trichotomy b c with h | h | h
  · have := hc.fst b h; have := hb.le c hc.lt; omega
  · exact h
  · have := hb.fst c h; have := hc.le b hb.lt; omega
inductive Div (p : List Int) (w : Int) : Nat → List Int → Prop
  | nil : Div p w 0 (List.replicate p.length 0)
  | seat {h a b} : Div p w h a → Best p a w b → Div p w (h + 1) (a.set b (nth a b + 1))
theorem Div.len {p a : List Int} {w : Int} {h : Nat} (d : Div p w h a) : a.length = p.length := by
  induction d with
  | nil => simp
  | seat _ _ ih => simpa using ih
theorem Div.one {p a : List Int} {w : Int} {h : Nat} (d : Div p w h a) : ∀ {c}, Div p w h c → a = c := by
  induction d with
  | nil => intro c d; cases d; rfl
  | seat d1 hb ih =>
    intro c d
    cases d with
    | seat d2 hc =>
      obtain rfl := ih d2
      obtain rfl := hb.one hc
      rfl
theorem sum_set {l : List Int} {b : Nat} {v : Int} (h : b < l.length) : (l.set b v).sum = l.sum - nth l b + v := by
  induction l generalizing b with
  | nil => simp at h
  | cons x l ih =>
    cases b with
    | zero => simp [nth_cons_zero]; omega
    | succ b => simp only [List.set_cons_succ, List.sum_cons, nth_cons_succ]; rw [ih (by simpa using h)]; omega
theorem Div.val {p a : List Int} {w : Int} {h : Nat} (d : Div p w h a) : ∀ i, i < p.length → 0 ≤ nth a i ∧ nth a i ≤ h := by
  induction d with
  | nil => intro i hi; rw [nth_replicate hi]; simp
  | @seat h a b d1 hb ih =>
    intro i hi
    have := ih i hi
    have := ih b hb.lt
    rw [nth_set (by rw [d1.len]; exact hb.lt)]
    split <;> omega
theorem Div.sum {p a : List Int} {w : Int} {h : Nat} (d : Div p w h a) : a.sum = h := by
  induction d with
  | nil => simp
  | @seat h a b d1 hb ih => rw [sum_set (by rw [d1.len]; exact hb.lt), ih]; omega
/-- whoever has a seat had it for a quotient that nobody's next one is above; of equal ones he is the first -/
theorem Div.fair {p a : List Int} {w : Int} {h : Nat} (hw : 0 ≤ w) (hp : ∀ k, k < p.length → 0 ≤ nth p k) (d : Div p w h a) : ∀ i k, i < p.length → k < p.length → 0 < nth a i →
    nth p k * (w * (nth a i - 1) + 1) < nth p i * (w * nth a k + 1) ∨ (nth p k * (w * (nth a i - 1) + 1) = nth p i * (w * nth a k + 1) ∧ i ≤ k) ∨ i = k := by
  induction d with
  | nil => intro i k hi hk h; rw [nth_replicate hi] at h; omega
  | @seat h a b d1 hb ih =>
    intro i k hi hk hpos
    have hbl : b < a.length := by rw [d1.len]; exact hb.lt
    rw [nth_set hbl] at hpos
    rw [nth_set hbl, nth_set hbl]
    by_cases hik : i = k
    · exact .inr (.inr hik)
    by_cases hib : i = b
    · subst hib
      rw [if_pos rfl, if_neg (Ne.symm hik)]
      rw [show nth a i + 1 - 1 = nth a i by omega]
      rcases Nat.lt_or_ge k i with hlt | hge
      · exact .inl (hb.fst k hlt)
      · have := hb.le k hk
        rcases Int.lt_or_eq_of_le this with h | h
        · exact .inl h
        · exact .inr (.inl ⟨h, hge⟩)
    · rw [if_neg hib] at hpos ⊢
      have hfair := ih i k hi hk hpos
      by_cases hkb : k = b
      · subst hkb
        rw [if_pos rfl]
        have e : nth p i * (w * (nth a k + 1) + 1) = nth p i * (w * nth a k + 1) + nth p i * w := by grind
        have hnn := Int.mul_nonneg (hp i hi) hw
        rcases hfair with h | ⟨h, h'⟩ | h
        · left; omega
        · by_cases hz : nth p i * w = 0
          · right; left; exact ⟨by omega, h'⟩
          · left; omega
        · exact absurd h hik
      · rw [if_neg hkb]; exact hfair
theorem divided_ok {p : List Int} (hp : People p) {h : Nat} (hh : h ≤ 100) {w : Int} (hw0 : 1 ≤ w) (hw : w ≤ 2) : ∃ a, seats_divided_m p (h : Int) w = some a ∧ Div p w h a := by
  have : Ok (seats_divided_m p (h : Int) w) (fun a => Div p w h a) := by
    have n1 := hp.n1; have n8 := hp.n8
    unfold seats_divided_m
    simp only [ok_bind, ok_chk, ok_bindR, ok_some, Int.toNat_natCast]
    refine ⟨by omega, by omega, ok_rangeN (fun k a => Div p w k a) .nil (fun k a hk hd => ?_) fun a ha => ha⟩
    have hlen := hd.len
    have hv := hd.val
    have D : ∀ i, i < p.length → 1 ≤ w * nth a i + 1 ∧ w * nth a i + 1 ≤ 201 := fun i hi => by
      have := hv i hi
      have : w = 1 ∨ w = 2 := by omega
      rcases this with rfl | rfl <;> omega
    have W : ∀ i, i < p.length → wadd (wmul w (nth a i)) 1 = w * nth a i + 1 := fun i hi => by
      have := D i hi
      rw [wmul_of (by omega) (by omega), wadd_of (by omega) (by omega)]
    have M : ∀ i j, i < p.length → j < p.length → wmul (nth p i) (w * nth a j + 1) = nth p i * (w * nth a j + 1) := fun i j hi hj => by
      have := D j hj
      have v := hp.val i hi
      have h1 : 0 ≤ nth p i * (w * nth a j + 1) := Int.mul_nonneg v.1 (by omega)
      have h2 : nth p i * (w * nth a j + 1) ≤ 1000000 * 201 := Int.mul_le_mul v.2 (by omega) (by omega) (by omega)
      rw [wmul_of (by omega) (by omega)]
    unfold seats_divided_b1
    simp only [ok_bindF]
    refine ok_rangeL (s := (0 : Int)) (fun (j : Nat) (b : Int) => 0 ≤ b ∧ b < p.length ∧ (∀ i, i < j → nth p i * (w * nth a b.toNat + 1) ≤ nth p b.toNat * (w * nth a i + 1)) ∧ (∀ i : Nat, (i : Int) < b → nth p i * (w * nth a b.toNat + 1) < nth p b.toNat * (w * nth a i + 1))) ⟨by omega, by omega, by intro i hi; omega, by intro i hi; omega⟩ (fun j x b hj hb => ?_) fun b hb => ?_
    · obtain ⟨hx, hjl⟩ := nth_of hj
      subst hx
      obtain ⟨b0, b1, b2, b3⟩ := hb
      obtain ⟨b, rfl⟩ : ∃ c : Nat, b = c := ⟨b.toNat, by omega⟩
      rw [Int.toNat_natCast] at b2 b3
      have hbl : b < p.length := by omega
      unfold seats_divided_b2
      simp only [idx_nat, nth_at (show b < a.length by omega), nth_at hbl, nth_at (show j < a.length by omega), Option.bind_some, W b hbl, W j hjl, M j b hjl hbl, M b j hbl hjl, ok_ite, ok_some, flok_nx, decide_eq_true_eq, Int.toNat_natCast]
      refine ⟨fun hgt => ⟨by omega, by omega, fun i hi => ?_, fun i hi => ?_⟩, fun hle => ⟨by omega, by omega, fun i hi => ?_, fun i hi => b3 i hi⟩⟩
      · by_cases hij : i = j
        · subst hij; exact Int.le_refl _
        · exact Int.le_of_lt (cross_lt (by have := D b hbl; omega) (by have := D j hjl; omega) (by have := D i (by omega); omega) (b2 i (by omega)) hgt)
      · exact cross_lt (by have := D b hbl; omega) (by have := D j hjl; omega) (by have := D i (by omega); omega) (b2 i (by omega)) hgt
      · by_cases hij : i = j
        · subst hij; omega
        · exact b2 i (by omega)
    · obtain ⟨b0, b1, b2, b3⟩ := hb
      obtain ⟨b, rfl⟩ : ∃ c : Nat, b = c := ⟨b.toNat, by omega⟩
      rw [Int.toNat_natCast] at b2 b3
      have hbl : b < p.length := by omega
      have hB : Best p a w b := ⟨hbl, b2, fun i hi => b3 i (by omega)⟩
      have v := hv b hbl
      simp only [idx_nat, nth_at (show b < a.length by omega), Option.bind_some, ok_some, flok_nx, Int.toNat_natCast]
      rw [wadd_of (by omega) (by omega)]
      exact .seat hd hB
  exact this
theorem share_div {p : List Int} (hp : People p) {h : Nat} (hh : h ≤ 100) {w : Int} (hw0 : 1 ≤ w) (hw : w ≤ 2) : ∃ a, seats_Share_m w p (h : Int) = some (a, 0) ∧ Div p w h a := by
  obtain ⟨a, e, d⟩ := divided_ok hp hh hw0 hw
  refine ⟨a, ?_, d⟩
  apply Ok.eq
  have : w = 1 ∨ w = 2 := by omega
  unfold seats_Share_m
  rw [seats_check hp (by omega) (by omega)]
  rcases this with rfl | rfl
  · simp [ok_bindR, ok_ite, ok_some, ok_bind, flok_nx, e]
  · simp [ok_bindR, ok_ite, ok_some, ok_bind, flok_nx, e]
theorem psum_ok {l : List Int} {B : Int} (hB : B ≤ 1000000000) (h : ∀ k, k < l.length → 0 ≤ nth l k ∧ nth l k ≤ B) (hl : l.length ≤ 1000000) : pk_sum_m l = some l.sum := by
  apply Ok.eq
  unfold pk_sum_m
  simp only [ok_bindR, ok_some]
  have bound : ∀ k, k ≤ l.length → 0 ≤ (l.take k).sum ∧ (l.take k).sum ≤ 1000000000 * k := by
    intro k
    induction k with
    | zero => simp
    | succ k ih =>
      intro hk
      have := ih (by omega)
      have := h k (by omega)
      rw [sum_take_succ (by omega)]
      omega
  refine ok_rangeL (s := (0 : Int)) (fun (k : Nat) (s : Int) => s = (l.take k).sum) (by simp) (fun k x s hk hs => ?_) fun s hs => by rw [hs, List.take_length]
  obtain ⟨hx, hkl⟩ := nth_of hk
  have b1 := bound k (by omega)
  have b2 := bound (k + 1) (by omega)
  rw [sum_take_succ hkl] at b2
  unfold pk_sum_b1
  simp only [ok_some, flok_nx]
  rw [hs, sum_take_succ hkl, ← hx, wadd_of (by omega) (by omega)]
theorem peopleOf_ok (x0 : List Int) : ∃ p, pk_PeopleOf_m x0 = some p ∧ People p ∧ ∀ k, k < p.length → nth p k ≤ 1000 := by
  have : Ok (pk_PeopleOf_m x0) (fun p => (1 ≤ p.length ∧ p.length ≤ 8) ∧ nth p 0 = 1 ∧ ∀ k, k < p.length → 0 ≤ nth p k ∧ nth p k ≤ 1000) := by
    unfold pk_PeopleOf_m
    have e : (if (7 : Int) < (x0.length : Int) then (7 : Int) else (x0.length : Int)) = ((min 7 x0.length : Nat) : Int) := by omega
    rw [e, List.drop_zero, Int.toNat_natCast]
    simp only [ok_bind, ok_chk, ok_bindR, ok_some]
    have start : ([(1 : Int)] : List Int).length = 0 + 1 ∧ nth ([(1 : Int)] : List Int) 0 = 1 ∧ ∀ k, k < ([(1 : Int)] : List Int).length → 0 ≤ nth ([(1 : Int)] : List Int) k ∧ nth ([(1 : Int)] : List Int) k ≤ 1000 := by
      refine ⟨rfl, rfl, fun k hk => ?_⟩
      have : k = 0 := by simp at hk; omega
      subst this; decide
    refine ⟨by omega, ok_rangeL (fun (k : Nat) (p : List Int) => p.length = k + 1 ∧ nth p 0 = 1 ∧ ∀ k, k < p.length → 0 ≤ nth p k ∧ nth p k ≤ 1000) start (fun k x p hk hI => ?_) fun p hp => ⟨by rw [hp.1, List.length_take]; omega, hp.2⟩⟩
    obtain ⟨i1, i2, i3⟩ := hI
    have hk' := (List.getElem?_eq_some_iff.1 hk).1
    rw [List.length_take] at hk'
    have a0 := Int.emod_nonneg x (b := 1000) (by decide)
    have a1 := Int.emod_lt_of_pos x (b := 1000) (by decide)
    unfold pk_PeopleOf_b1
    rw [within_at x 1000 (by decide) (by decide)]
    simp only [ok_bind, ok_chk, ok_some, flok_nx]
    refine ⟨by simp; omega, by simp [i1], by rw [nth_append, if_pos (by omega)]; exact i2, fun j hj => ?_⟩
    rw [nth_append]
    split
    · exact i3 j (by assumption)
    · have : j - p.length = 0 := by simp at hj; omega
      rw [this, nth_cons_zero]; omega
  obtain ⟨p, e, h1, h2, h3⟩ := this
  refine ⟨p, e, ⟨h1.1, h1.2, fun k hk => by have := h3 k hk; omega, ?_⟩, fun k hk => (h3 k hk).2⟩
  match p, h1, h2, h3 with
  | x :: l, h1, h2, h3 =>
    rw [nth_cons_zero] at h2
    have := psum_bound (p := l) (fun k hk => by have := h3 (k + 1) (by simpa using hk); rw [nth_cons_succ] at this; omega) l.length (Nat.le_refl _)
    rw [List.take_length] at this
    simp only [List.sum_cons]; omega
theorem shares_t : pk_shares_m = some true := by decide +kernel
end Go.Pu
