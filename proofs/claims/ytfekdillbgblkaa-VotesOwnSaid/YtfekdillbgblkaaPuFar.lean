/- How far two orders are from one another. -/
import Derived.Test.YtfekdillbgblkaaWVotesOwnModels
import Derived.Test.YtfekdillbgblkaaPuDuels
import Derived.Test.YtfekdillbgblkaaPuList
set_option linter.all false
namespace Go.Pu
open Go.Fw Go.Mo
def lsum (f : Int → Int) : List Int → Int
  | [] => 0
  | x :: l => f x + lsum f l
theorem lsum_perm {f : Int → Int} {l m : List Int} (h : l.Perm m) : lsum f l = lsum f m := by
  induction h with
  | nil => rfl
  | cons x _ ih => simp only [lsum, ih]
  | swap x y l => simp only [lsum]; omega
  | trans _ _ h1 h2 => exact h1.trans h2
theorem lsum_append {f : Int → Int} (l m : List Int) : lsum f (l ++ m) = lsum f l + lsum f m := by
  induction l with
  | nil => simp [lsum]
  | cons x l ih => simp only [List.cons_append, lsum, ih]; omega
theorem lsum_nth {f : Int → Int} (l : List Int) : lsum f l = sumN l.length (fun i => f (nth l i)) := by
  have : ∀ k, k ≤ l.length → lsum f (l.take k) = sumN k (fun i => f (nth l i)) := by
    intro k
    induction k with
    | zero => intro _; simp [sumN, lsum]
    | succ k ih =>
      intro hk
      rw [List.take_succ_eq_append_getElem (by omega), lsum_append, ih (by omega)]
      simp only [lsum, sumN, nth_get (show k < l.length by omega)]; omega
  have := this l.length (Nat.le_refl _)
  rwa [List.take_length] at this
theorem Ord.perm_sides {n : Nat} {p : List Int} (h : Ord n p) : p.Perm (sides n) :=
  (List.perm_ext_iff_of_nodup h.nd (sides_ord n).nd).2 fun x => by rw [h.mem, (sides_ord n).mem]
theorem sides_nth {n k : Nat} (h : k < n) : nth (sides n) k = k := by
  unfold sides
  rw [nth_get (by simpa using h)]; simp
/-- a sum over the places of an order is one over the sides -/
theorem ord_sum {n : Nat} {p : List Int} (h : Ord n p) (f : Nat → Int) : sumN n (fun i => f (nth p i).toNat) = sumN n f := by
  have h1 := lsum_nth (f := fun x => f x.toNat) p
  have h2 := lsum_nth (f := fun x => f x.toNat) (sides n)
  rw [lsum_perm h.perm_sides, h2, h.len, (sides_ord n).len] at h1
  rw [← h1]
  exact sumN_congr fun i hi => by rw [sides_nth hi, Int.toNat_natCast]
theorem bf_at {n : Nat} {p : List Int} (h : Ord n p) {i j : Nat} (hi : i < n) (hj : j < n) : bf p (nth p i).toNat (nth p j).toNat = decide (i < j) := by
  have vi := h.val hi; have vj := h.val hj
  unfold bf
  rw [Int.toNat_of_nonneg vi.1, Int.toNat_of_nonneg vj.1, h.idx hi, h.idx hj]
def b1 (b : Bool) : Int := if b then 1 else 0
theorem b1_val (b : Bool) : 0 ≤ b1 b ∧ b1 b ≤ 1 := by cases b <;> simp [b1]
/-- pairs that stand otherwise -/
def kt (n : Nat) (p q : List Int) : Int := sumN n (fun x => sumN n (fun y => b1 (bf p x y && bf q y x)))
theorem sumN_lt_one {n i : Nat} {f : Nat → Int} (hi : i ≤ n) : sumN n (fun j => if j < i then f j else 0) = sumN i f := by
  induction n with
  | zero => have : i = 0 := by omega
            subst this; rfl
  | succ n ih =>
    by_cases h : i = n + 1
    · subst h
      exact sumN_congr fun j hj => if_pos hj
    · simp only [sumN]
      rw [ih (by omega), if_neg (by omega)]; omega
theorem kt_pos {n : Nat} {p q : List Int} (hp : Ord n p) : kt n p q = sumN n (fun i => sumN n (fun j => b1 (decide (i < j) && bf q (nth p j).toNat (nth p i).toNat))) := by
  unfold kt
  rw [← ord_sum hp (fun x => sumN n (fun y => b1 (bf p x y && bf q y x)))]
  refine sumN_congr fun i hi => ?_
  rw [← ord_sum hp (fun y => b1 (bf p (nth p i).toNat y && bf q y (nth p i).toNat))]
  exact sumN_congr fun j hj => by rw [bf_at hp hi hj]
theorem sumN_b1 {n : Nat} {f : Nat → Bool} : 0 ≤ sumN n (fun i => b1 (f i)) ∧ sumN n (fun i => b1 (f i)) ≤ n := by
  induction n with
  | zero => simp [sumN]
  | succ n ih => simp only [sumN]; have := b1_val (f n); omega
theorem kt_bound {n : Nat} (h6 : n ≤ 6) (p q : List Int) : 0 ≤ kt n p q ∧ kt n p q ≤ 36 := by
  unfold kt
  have l := sumN_le (n := n) (f := fun _ => 0) (g := fun x => sumN n (fun y => b1 (bf p x y && bf q y x))) fun x _ => (sumN_b1 (f := fun y => bf p x y && bf q y x)).1
  have u := sumN_le (n := n) (g := fun _ => 6) (f := fun x => sumN n (fun y => b1 (bf p x y && bf q y x))) fun x _ => by have := (sumN_b1 (n := n) (f := fun y => bf p x y && bf q y x)).2; omega
  rw [sumN_zero] at l
  rw [sumN_const] at u
  omega
theorem far_ok {n : Nat} {p q : List Int} (h0 : 1 ≤ n) (h6 : n ≤ 6) (hp : Ord n p) (hq : Ord n q) : order_Far_m p q = some (kt n p q, 0) := by
  apply Ok.eq
  have hpl := hp.len
  unfold order_Far_m
  rw [hpl, order_check h0 h6 hp, order_check h0 h6 hq]
  simp only [ok_bind, ok_bindR, ok_ite, ok_some, bne_self_eq_false, Bool.false_eq_true, false_implies, true_and, not_false_eq_true, true_implies]
  have rb : ∀ i k : Nat, 0 ≤ sumN k (fun j => b1 (decide (i < j) && bf q (nth p j).toNat (nth p i).toNat)) ∧ sumN k (fun j => b1 (decide (i < j) && bf q (nth p j).toNat (nth p i).toNat)) ≤ k := fun i k => sumN_b1
  have tb : ∀ k : Nat, 0 ≤ sumN k (fun i => sumN n (fun j => b1 (decide (i < j) && bf q (nth p j).toNat (nth p i).toNat))) ∧ sumN k (fun i => sumN n (fun j => b1 (decide (i < j) && bf q (nth p j).toNat (nth p i).toNat))) ≤ 6 * k := by
    intro k
    induction k with
    | zero => simp [sumN]
    | succ k ih => simp only [sumN]; have := rb k n; omega
  refine ok_rangeL (s := (0 : Int)) (fun (i : Nat) (c : Int) => c = sumN i (fun i => sumN n (fun j => b1 (decide (i < j) && bf q (nth p j).toNat (nth p i).toNat)))) rfl (fun i x c hi hc => ?_) fun c hc => ?_
  · obtain ⟨hx, hil⟩ := nth_of hi
    rw [hpl] at hil
    unfold order_Far_b1
    rw [wadd_of (by omega) (by omega), List.take_length, show ((i : Int) + 1).toNat = i + 1 by omega]
    simp only [ok_bind, ok_chk, ok_bindF, ok_some]
    refine ⟨by omega, ?_⟩
    have vi := hp.val hil
    refine ok_rangeL (fun (j : Nat) (c' : Int) => c' = c + sumN (i + 1 + j) (fun j => b1 (decide (i < j) && bf q (nth p j).toNat (nth p i).toNat))) ?_ (fun j y c' hj hc' => ?_) fun c' hc' => ?_
    · rw [Nat.add_zero, sumN_congr (g := fun _ => 0) (fun j hj => by rw [decide_eq_false (by omega)]; rfl), sumN_zero]; omega
    · have hjl := (List.getElem?_eq_some_iff.1 hj).1
      rw [List.length_drop] at hjl
      rw [List.getElem?_drop] at hj
      obtain ⟨hy, hjn⟩ := nth_of hj
      rw [hpl] at hjn
      have vj := hp.val hjn
      have r1 := rb i (i + 1 + j)
      have t1 := tb i
      subst hc' hc hx hy
      unfold order_Far_b2
      rw [index_ok, index_ok, if_pos ((hq.mem _).2 vi), if_pos ((hq.mem _).2 vj)]
      simp only [Option.bind_some, ok_ite, ok_some, flok_nx, decide_eq_true_eq]
      rw [show i + 1 + (j + 1) = (i + 1 + j) + 1 by omega]
      have e : sumN (i + 1 + j + 1) (fun j => b1 (decide (i < j) && bf q (nth p j).toNat (nth p i).toNat)) = sumN (i + 1 + j) (fun j => b1 (decide (i < j) && bf q (nth p j).toNat (nth p i).toNat)) + b1 (bf q (nth p (i + 1 + j)).toNat (nth p i).toNat) := by
        simp only [sumN]; rw [decide_eq_true (show i < i + 1 + j by omega), Bool.true_and]
      have eb : bf q (nth p (i + 1 + j)).toNat (nth p i).toNat = decide (q.idxOf (nth p (i + 1 + j)) < q.idxOf (nth p i)) := by
        unfold bf; rw [Int.toNat_of_nonneg vi.1, Int.toNat_of_nonneg vj.1]
      rw [e, eb]
      refine ⟨fun hgt => ?_, fun hle => ?_⟩
      · rw [wadd_of (by omega) (by omega), decide_eq_true (by omega)]; simp only [b1, if_true]; omega
      · rw [decide_eq_false (by omega)]; simp [b1]
    · rw [List.length_drop, hpl, show i + 1 + (n - (i + 1)) = n by omega] at hc'
      rw [hc', hc]; rfl
  · rw [hpl, ← kt_pos hp] at hc
    rw [hc]
theorem kt_comm (n : Nat) (p q : List Int) : kt n p q = kt n q p := by
  unfold kt
  rw [sumN_comm]
  exact sumN_congr fun x _ => sumN_congr fun y _ => by rw [Bool.and_comm]
theorem kt_third {n : Nat} {p q r : List Int} (hq : Ord n q) : kt n p r ≤ kt n p q + kt n q r := by
  unfold kt
  rw [← sumN_add]
  refine sumN_le fun x hx => ?_
  rw [← sumN_add]
  refine sumN_le fun y hy => ?_
  by_cases hxy : x = y
  · subst hxy; simp [bf_self, b1]
  · have := bf_or hq hx hy hxy
    cases h1 : bf p x y <;> cases h2 : bf r y x <;> cases h3 : bf q y x <;> rw [h3] at this <;> simp [b1, this]
theorem sumN_pos_ex {n : Nat} {f : Nat → Int} (h : ∀ x, x < n → 0 ≤ f x) (h0 : sumN n f = 0) : ∀ x, x < n → f x = 0 := by
  induction n with
  | zero => intro x hx; omega
  | succ n ih =>
    simp only [sumN] at h0
    have a := sumN_le (f := fun _ => 0) (g := f) (n := n) fun x hx => h x (by omega)
    rw [sumN_zero] at a
    have b := h n (by omega)
    intro x hx
    by_cases hxn : x = n
    · subst hxn; omega
    · exact ih (fun x hx => h x (by omega)) (by omega) x (by omega)
/-- how many stand ahead -/
theorem ahead_count {n : Nat} {p : List Int} (h : Ord n p) {x : Nat} (hx : x < n) : sumN n (fun y => b1 (bf p y x)) = p.idxOf (x : Int) := by
  rw [← ord_sum h]
  have hi := h.idx_lt hx
  have hat := h.at_idx hx
  have : sumN n (fun i => b1 (bf p (nth p i).toNat x)) = sumN n (fun i => if i < p.idxOf (x : Int) then (1 : Int) else 0) := sumN_congr fun i hi' => by
    have := bf_at h hi' hi
    rw [hat, Int.toNat_natCast] at this
    rw [this]; unfold b1; simp
  rw [this, sumN_lt_one (f := fun _ => 1) (by omega), sumN_const]; omega
theorem behind_count {n : Nat} {p : List Int} (h : Ord n p) {x : Nat} (hx : x < n) : sumN n (fun y => b1 (bf p x y)) = n - 1 - p.idxOf (x : Int) := by
  have e1 := ahead_count h hx
  have e2 : sumN n (fun y => b1 (bf p x y) + b1 (bf p y x)) = sumN n (fun y => 1 - if y = x then 1 else 0) := sumN_congr fun y hy => by
    by_cases hyx : y = x
    · subst hyx; simp [bf_self, b1]
    · have := bf_or h hx hy (Ne.symm hyx)
      cases h3 : bf p y x <;> rw [h3] at this <;> simp [b1, this, hyx]
  rw [sumN_add, sumN_sub, sumN_const, sumN_single hx] at e2
  omega
theorem ord_ext {n : Nat} {p q : List Int} (hp : Ord n p) (hq : Ord n q) (h : ∀ x y, x < n → y < n → bf p x y = bf q x y) : p = q := by
  refine nth_ext (by rw [hp.len, hq.len]) fun k hk => ?_
  rw [hp.len] at hk
  have v := hp.val hk
  obtain ⟨x, hx⟩ : ∃ x : Nat, nth p k = x := ⟨(nth p k).toNat, by omega⟩
  have hxn : x < n := by omega
  have e1 := ahead_count hp hxn
  have e2 := ahead_count hq hxn
  have e3 : sumN n (fun y => b1 (bf p y x)) = sumN n (fun y => b1 (bf q y x)) := sumN_congr fun y hy => by rw [h y x hy hxn]
  have hi := hp.idx hk
  rw [hx] at hi
  have hj : q.idxOf (x : Int) = k := by omega
  have := hq.at_idx hxn
  rw [hj] at this
  rw [hx, this]
theorem kt_zero {n : Nat} {p q : List Int} (hp : Ord n p) (hq : Ord n q) : kt n p q = 0 ↔ p = q := by
  constructor
  · intro h0
    unfold kt at h0
    have h1 := sumN_pos_ex (fun x _ => (sumN_b1 (f := fun y => bf p x y && bf q y x)).1) h0
    refine ord_ext hp hq fun x y hx hy => ?_
    by_cases hxy : x = y
    · subst hxy; simp [bf_self]
    · have a := sumN_pos_ex (fun y _ => (b1_val _).1) (h1 x hx) y hy
      have b := sumN_pos_ex (fun y _ => (b1_val _).1) (h1 y hy) x hx
      have c := bf_or hp hx hy hxy
      have d := bf_or hq hx hy hxy
      cases h3 : bf p y x <;> cases h4 : bf q y x <;> rw [h3] at c b <;> rw [h4] at d a <;> rw [c] at a <;> rw [d] at b <;> simp [b1] at a b <;> rw [c, d]
  · rintro rfl
    unfold kt
    rw [sumN_congr (g := fun _ => 0) (fun x hx => ?_), sumN_zero]
    rw [sumN_congr (g := fun _ => 0) (fun y hy => ?_), sumN_zero]
    by_cases hxy : x = y
    · subst hxy; simp [bf_self, b1]
    · have c := bf_or hp hx hy hxy
      cases h3 : bf p y x <;> rw [h3] at c <;> simp [b1, c]
theorem orders_t : pk_orders_m = some true := by decide +kernel
end Go.Pu
