/- The order that is nearest to all votes. -/
import Derived.Test.YtfekdillbgblkaaWVotesOwnModels
import Derived.Test.YtfekdillbgblkaaPuAllOrd
set_option linter.all false
namespace Go.Pu
open Go.Fw Go.Mo
/-- votes against an order, in its duels -/
def cost (n : Nat) (d : Nat → Nat → Int) (p : List Int) : Int := sumN n (fun x => sumN n (fun y => if bf p x y then d y x else 0))
theorem cost_pos {n : Nat} {d : Nat → Nat → Int} {p : List Int} (hp : Ord n p) : cost n d p = sumN n (fun i => sumN n (fun j => if i < j then d (nth p j).toNat (nth p i).toNat else 0)) := by
  unfold cost
  rw [← ord_sum hp (fun x => sumN n (fun y => if bf p x y then d y x else 0))]
  refine sumN_congr fun i hi => ?_
  rw [← ord_sum hp (fun y => if bf p (nth p i).toNat y then d y (nth p i).toNat else 0)]
  exact sumN_congr fun j hj => by rw [bf_at hp hi hj]; simp
theorem row_bound {n k : Nat} {f : Nat → Int} (hk : k ≤ n) (h : ∀ x, x < n → 0 ≤ f x ∧ f x ≤ 30) : 0 ≤ sumN k f ∧ sumN k f ≤ 30 * k := by
  induction k with
  | zero => simp [sumN]
  | succ k ih => have := ih (by omega); have := h k (by omega); simp only [sumN]; omega
theorem cost_one {n : Nat} {m : List (List Int)} {d : Nat → Nat → Int} (h6 : n ≤ 6) (hM : Mat n n m d) (hd : ∀ x y, x < n → y < n → 0 ≤ d x y ∧ d x y ≤ 30) {p : List Int} (hp : Ord n p) (e : Int) :
    Ok (rangeL (γ := (List Int) × Int) (middle_Best_b2 p (m, e)) p 0 (0 : Int)) (FlOk (fun c => c = cost n d p) (fun _ => False) (fun _ => False)) := by
  have hpl := hp.len
  have pd : ∀ i j, i < n → j < n → 0 ≤ (if i < j then d (nth p j).toNat (nth p i).toNat else 0) ∧ (if i < j then d (nth p j).toNat (nth p i).toNat else 0) ≤ 30 := fun i j hi hj => by
    have vi := hp.val hi; have vj := hp.val hj
    have := hd (nth p j).toNat (nth p i).toNat (by omega) (by omega)
    split <;> omega
  have rb : ∀ i k, i < n → k ≤ n → 0 ≤ sumN k (fun j => if i < j then d (nth p j).toNat (nth p i).toNat else 0) ∧ sumN k (fun j => if i < j then d (nth p j).toNat (nth p i).toNat else 0) ≤ 30 * k := fun i k hi hk => row_bound hk fun j hj => pd i j hi hj
  have tb : ∀ k, k ≤ n → 0 ≤ sumN k (fun i => sumN n (fun j => if i < j then d (nth p j).toNat (nth p i).toNat else 0)) ∧ sumN k (fun i => sumN n (fun j => if i < j then d (nth p j).toNat (nth p i).toNat else 0)) ≤ 180 * k := by
    intro k
    induction k with
    | zero => simp [sumN]
    | succ k ih => intro hk; have := ih (by omega); have := rb k n (by omega) (Nat.le_refl _); simp only [sumN]; omega
  refine ok_rangeL (s := (0 : Int)) (fun (i : Nat) (c : Int) => c = sumN i (fun i => sumN n (fun j => if i < j then d (nth p j).toNat (nth p i).toNat else 0))) rfl (fun i x c hi hc => ?_) fun c hc => by rw [hc, hpl, cost_pos hp]
  obtain ⟨hx, hil⟩ := nth_of hi
  rw [hpl] at hil
  have vi := hp.val hil
  unfold middle_Best_b2
  rw [wadd_of (by omega) (by omega), List.take_length, show ((i : Int) + 1).toNat = i + 1 by omega]
  simp only [ok_bind, ok_chk, ok_bindF, ok_some]
  refine ⟨by omega, ?_⟩
  refine ok_rangeL (fun (j : Nat) (c' : Int) => c' = c + sumN (i + 1 + j) (fun j => if i < j then d (nth p j).toNat (nth p i).toNat else 0)) ?_ (fun j y c' hj hc' => ?_) fun c' hc' => ?_
  · rw [Nat.add_zero, sumN_congr (g := fun _ => 0) (fun j hj => if_neg (by omega)), sumN_zero]; omega
  · have hjl := (List.getElem?_eq_some_iff.1 hj).1
    rw [List.length_drop] at hjl
    rw [List.getElem?_drop] at hj
    obtain ⟨hy, hjn⟩ := nth_of hj
    rw [hpl] at hjn
    have vj := hp.val hjn
    have r1 := rb i (i + 1 + j) hil (by omega)
    have t1 := tb i (by omega)
    subst hx hy
    obtain ⟨a, ha⟩ : ∃ a : Nat, nth p i = a := ⟨(nth p i).toNat, by omega⟩
    obtain ⟨b, hb⟩ : ∃ b : Nat, nth p (i + 1 + j) = b := ⟨(nth p (i + 1 + j)).toNat, by omega⟩
    have han : a < n := by omega
    have hbn : b < n := by omega
    have dv := hd b a hbn han
    have e1 : sumN (i + 1 + (j + 1)) (fun j => if i < j then d (nth p j).toNat (nth p i).toNat else 0) = sumN (i + 1 + j) (fun j => if i < j then d (nth p j).toNat (nth p i).toNat else 0) + d b a := by
      rw [show i + 1 + (j + 1) = (i + 1 + j) + 1 by omega]
      simp only [sumN]
      rw [if_pos (by omega), hb, ha, Int.toNat_natCast, Int.toNat_natCast]
    have e2 : middle_Best_b3 (m, e) (nth p i) j (nth p (i + 1 + j)) c' = some (.nx (wadd c' (d b a))) := by
      unfold middle_Best_b3
      rw [hb, ha]
      simp only [idx_nat, hM.row? hbn, hM.cell? hbn han, Option.bind_some]
    rw [e2, ok_some, flok_nx, wadd_of (by omega) (by omega), e1]; omega
  · rw [List.length_drop, hpl, show i + 1 + (n - (i + 1)) = n by omega] at hc'
    rw [hc', hc]; rfl
theorem cost_bound {n : Nat} {d : Nat → Nat → Int} (h6 : n ≤ 6) (hd : ∀ x y, x < n → y < n → 0 ≤ d x y ∧ d x y ≤ 30) (p : List Int) : 0 ≤ cost n d p ∧ cost n d p ≤ 1080 := by
  have r : ∀ x, x < n → 0 ≤ sumN n (fun y => if bf p x y then d y x else 0) ∧ sumN n (fun y => if bf p x y then d y x else 0) ≤ 180 := fun x hx => by
    have := row_bound (k := n) (n := n) (f := fun y => if bf p x y then d y x else 0) (Nat.le_refl _) fun y hy => by have := hd y x hy hx; split <;> omega
    omega
  have l := sumN_le (n := n) (f := fun _ => 0) fun x hx => (r x hx).1
  have u := sumN_le (n := n) (g := fun _ => 180) fun x hx => (r x hx).2
  rw [sumN_zero] at l
  rw [sumN_const] at u
  unfold cost; omega
theorem best_ok {n : Nat} {v : List (List Int)} (h1 : 1 ≤ n) (h6 : n ≤ 6) (hv : Votes n v) : ∃ p, middle_Best_m (n : Int) v = some (p, cost n (duel v) p, 0) ∧ Ord n p ∧ ∀ q, Ord n q → cost n (duel v) p ≤ cost n (duel v) q := by
  obtain ⟨m, em, hM⟩ := duels_ok h1 h6 hv
  obtain ⟨l, el, hR, hlen⟩ := all_ok h1 h6
  have hd : ∀ x y, x < n → y < n → 0 ≤ duel v x y ∧ duel v x y ≤ 30 := fun x y _ _ => by have := duel_bound v x y; have := hv.1; omega
  have : Ok (middle_Best_m (n : Int) v) (fun r => r.2.2 = 0 ∧ Ord n r.1 ∧ r.2.1 = cost n (duel v) r.1 ∧ ∀ q, Ord n q → r.2.1 ≤ cost n (duel v) q) := by
    unfold middle_Best_m
    rw [em, el]
    simp only [ok_bind, ok_bindR, ok_ite, ok_some, bne_self_eq_false, Bool.false_eq_true, false_implies, true_and, not_false_eq_true, true_implies]
    refine ok_rangeN (s := (([] : List Int), (-1 : Int))) (fun (k : Nat) (s : List Int × Int) => (k = 0 → s.2 = -1) ∧ (0 < k → Ord n s.1 ∧ s.2 = cost n (duel v) s.1 ∧ ∀ i, i < k → s.2 ≤ cost n (duel v) (nth l i))) ⟨fun _ => rfl, fun h => by omega⟩ (fun k s hk hs => ?_) fun s hs => ?_
    · obtain ⟨b, c⟩ := s
      obtain ⟨s1, s2⟩ := hs
      simp only at s1 s2
      have hrow := rows_ord (hR.row _ (nth_mem hk))
      have cb := cost_bound h6 hd (nth l k)
      unfold middle_Best_b1
      rw [idx_nat, nth_at hk]
      simp only [Option.bind_some, ok_bindF]
      refine (cost_one h6 hM hd hrow 0).mono fun r hr => ?_
      cases r with
      | br _ => exact hr.elim
      | rt _ => exact hr.elim
      | nx c' =>
        have hc' : c' = cost n (duel v) (nth l k) := hr
        subst hc'
        simp only [flok_nx, ok_ite, ok_some, decide_eq_true_eq]
        have new : (k = 0 ∨ cost n (duel v) (nth l k) < c) → (k + 1 = 0 → cost n (duel v) (nth l k) = -1) ∧ (0 < k + 1 → Ord n (nth l k) ∧ True ∧ ∀ i, i < k + 1 → cost n (duel v) (nth l k) ≤ cost n (duel v) (nth l i)) := fun hh => by
          refine ⟨fun h => by omega, fun _ => ⟨hrow, trivial, fun i hi => ?_⟩⟩
          by_cases hik : i = k
          · subst hik; exact Int.le_refl _
          · have := (s2 (by omega)).2.2 i (by omega); omega
        have old : 0 < k → ¬ cost n (duel v) (nth l k) < c → (k + 1 = 0 → c = -1) ∧ (0 < k + 1 → Ord n b ∧ c = cost n (duel v) b ∧ ∀ i, i < k + 1 → c ≤ cost n (duel v) (nth l i)) := fun h0 hh => by
          obtain ⟨t1, t2, t3⟩ := s2 h0
          refine ⟨fun h => by omega, fun _ => ⟨t1, t2, fun i hi => ?_⟩⟩
          by_cases hik : i = k
          · subst hik; omega
          · exact t3 i (by omega)
        refine ⟨fun hneg => ⟨fun _ => new ?_, fun hh => absurd trivial hh⟩, fun hnn => ⟨fun hlt => new (.inr hlt), fun hge => old ?_ hge⟩⟩
        · refine Classical.byContradiction fun hh => ?_
          have := (s2 (by omega)).2.1
          have := cost_bound h6 hd b
          omega
        · refine Nat.pos_of_ne_zero fun h0 => ?_
          have := s1 h0; omega
    · have hpos : 0 < l.length := by
        have := hR.all (sides n) (ord_row (sides_ord n))
        exact List.length_pos_of_mem this
      obtain ⟨t1, t2, t3⟩ := hs.2 hpos
      refine ⟨t1, t2, fun q hq => ?_⟩
      obtain ⟨i, hi, e⟩ := mem_nth (hR.all q (ord_row hq))
      have := t3 i hi
      rwa [e] at this
  obtain ⟨⟨p, c, e⟩, g1, g2, g3, g4, g5⟩ := this
  simp only at g2 g3 g4 g5
  subst g2 g4
  exact ⟨p, g1, g3, g5⟩
/-- two that are next to one another, the other way round -/
def swap (p : List Int) (k : Nat) : List Int := (p.set k (nth p (k + 1))).set (k + 1) (nth p k)
theorem swap_nth {p : List Int} {k i : Nat} (h : k + 1 < p.length) : nth (swap p k) i = if i = k then nth p (k + 1) else if i = k + 1 then nth p k else nth p i := by
  unfold swap
  rw [nth_set (by simpa using h)]
  by_cases h1 : i = k + 1
  · subst h1; rw [if_pos rfl, if_neg (by omega), if_pos rfl]
  · rw [if_neg h1, nth_set (by omega), if_neg h1]
theorem swap_ord {n : Nat} {p : List Int} (hp : Ord n p) {k : Nat} (hk : k + 1 < n) : Ord n (swap p k) := by
  have hl := hp.len
  have hlen : (swap p k).length = n := by unfold swap; simp [hl]
  refine rows_ord ⟨hlen, ?_, fun x hx => ?_⟩
  · refine List.pairwise_iff_getElem.2 fun i j hi hj hij => ?_
    rw [hlen] at hi hj
    rw [← nth_get, ← nth_get, swap_nth (by omega), swap_nth (by omega)]
    have inj : ∀ a b, a < n → b < n → a ≠ b → nth p a ≠ nth p b := fun a b ha hb hab e => by
      have e1 := hp.idx ha; have e2 := hp.idx hb
      rw [e] at e1; omega
    split <;> (try split) <;> (try split) <;> (try split) <;> (refine inj _ _ ?_ ?_ ?_ <;> omega)
  · obtain ⟨i, hi, rfl⟩ := mem_nth hx
    rw [hlen] at hi
    rw [swap_nth (by omega)]
    split
    · exact hp.val hk
    · split
      · exact hp.val (by omega)
      · exact hp.val hi
theorem swap_bf {n : Nat} {p : List Int} (hp : Ord n p) {k a b x y : Nat} (hk : k + 1 < n) (ha : nth p k = a) (hb : nth p (k + 1) = b) (hx : x < n) (hy : y < n) : bf (swap p k) x y = if x = a ∧ y = b then false else if x = b ∧ y = a then true else bf p x y := by
  have hs := swap_ord hp hk
  have hl := hp.len
  have va := hp.val (show k < n by omega); have vb := hp.val hk
  have han : a < n := by omega
  have hbn : b < n := by omega
  have ia : p.idxOf (a : Int) = k := by rw [← ha]; exact hp.idx (by omega)
  have ib : p.idxOf (b : Int) = k + 1 := by rw [← hb]; exact hp.idx hk
  have idx' : ∀ z, z < n → (swap p k).idxOf (z : Int) = if z = a then k + 1 else if z = b then k else p.idxOf (z : Int) := fun z hz => by
    have hi := hp.idx_lt hz
    have hat := hp.at_idx hz
    by_cases hza : z = a
    · subst hza
      rw [if_pos rfl]
      have := hs.idx hk
      rw [swap_nth (by omega), if_neg (by omega), if_pos rfl, ha] at this
      exact this
    · rw [if_neg hza]
      by_cases hzb : z = b
      · subst hzb
        rw [if_pos rfl]
        have := hs.idx (show k < n by omega)
        rw [swap_nth (by omega), if_pos rfl, hb] at this
        exact this
      · rw [if_neg hzb]
        have := hs.idx hi
        rw [swap_nth (by omega), if_neg (fun e => hza (hp.idx_inj hz han (by omega))), if_neg (fun e => hzb (hp.idx_inj hz hbn (by omega))), hat] at this
        exact this
  have hab : a ≠ b := fun e => by subst e; omega
  unfold bf
  rw [idx' x hx, idx' y hy]
  have ix := hp.idx_lt hx; have iy := hp.idx_lt hy
  have jx : ∀ z, z < n → z ≠ a → z ≠ b → p.idxOf (z : Int) ≠ k ∧ p.idxOf (z : Int) ≠ k + 1 := fun z hz h1 h2 => ⟨fun e => h1 (hp.idx_inj hz han (by omega)), fun e => h2 (hp.idx_inj hz hbn (by omega))⟩
  by_cases hxa : x = a
  · subst hxa
    by_cases hyb : y = b
    · subst hyb; rw [if_pos rfl, if_neg (Ne.symm hab), if_pos rfl, if_pos ⟨rfl, rfl⟩]; simp
    · rw [if_neg (by omega : ¬ (x = x ∧ y = b)), if_neg (by omega : ¬ (x = b ∧ y = x)), if_pos rfl]
      by_cases hyx : y = x
      · subst hyx; rw [if_pos rfl]; simp
      · have := jx y hy hyx hyb
        rw [if_neg hyx, if_neg hyb, ia]
        exact Bool.eq_iff_iff.2 (by simp; omega)
  · by_cases hxb : x = b
    · subst hxb
      rw [if_neg (by omega : ¬ (x = a ∧ y = x)), if_neg hxa, if_pos rfl]
      by_cases hya : y = a
      · subst hya; rw [if_pos rfl, if_pos ⟨rfl, rfl⟩]; simp
      · rw [if_neg hya, if_neg (by omega : ¬ (x = x ∧ y = a))]
        by_cases hyx : y = x
        · subst hyx; rw [if_pos rfl]; simp
        · have := jx y hy hya hyx
          rw [if_neg hyx, ib]
          exact Bool.eq_iff_iff.2 (by simp; omega)
    · rw [if_neg (by omega : ¬ (x = a ∧ y = b)), if_neg (by omega : ¬ (x = b ∧ y = a)), if_neg hxa, if_neg hxb]
      have hxk := jx x hx hxa hxb
      by_cases hya : y = a
      · subst hya; rw [if_pos rfl, ia]; exact Bool.eq_iff_iff.2 (by simp; omega)
      · by_cases hyb : y = b
        · subst hyb; rw [if_neg hya, if_pos rfl, ib]; exact Bool.eq_iff_iff.2 (by simp; omega)
        · rw [if_neg hya, if_neg hyb]
theorem swap_cost {n : Nat} {d : Nat → Nat → Int} {p : List Int} (hp : Ord n p) {k a b : Nat} (hk : k + 1 < n) (ha : nth p k = a) (hb : nth p (k + 1) = b) : cost n d (swap p k) = cost n d p + d a b - d b a := by
  have va := hp.val (show k < n by omega); have vb := hp.val hk
  have han : a < n := by omega
  have hbn : b < n := by omega
  have hab : a ≠ b := fun e => by
    subst e
    have e1 := hp.idx (show k < n by omega); have e2 := hp.idx hk
    rw [ha] at e1; rw [hb] at e2; omega
  have bab : bf p a b = true := by
    have := bf_at hp (show k < n by omega) hk
    rw [ha, hb, Int.toNat_natCast, Int.toNat_natCast] at this
    rw [this]; simp
  have bba : bf p b a = false := by have := bf_or hp han hbn hab; rw [bab] at this; cases h : bf p b a with | false => rfl | true => rw [h] at this; cases this
  have e : cost n d (swap p k) + sumN n (fun x => if x = a then d b a else 0) = cost n d p + sumN n (fun x => if x = b then d a b else 0) := by
    unfold cost
    rw [← sumN_add, ← sumN_add]
    refine sumN_congr fun x hx => ?_
    have inner : sumN n (fun y => (if bf (swap p k) x y then d y x else 0) + if y = b then (if x = a then d b a else 0) else 0) = sumN n (fun y => (if bf p x y then d y x else 0) + if y = a then (if x = b then d a b else 0) else 0) := sumN_congr fun y hy => by
      rw [swap_bf hp hk ha hb hx hy]
      by_cases h1 : x = a ∧ y = b
      · obtain ⟨rfl, rfl⟩ := h1
        simp [bab, hab, Ne.symm hab]
      · by_cases h2 : x = b ∧ y = a
        · obtain ⟨rfl, rfl⟩ := h2
          simp [bba, hab, Ne.symm hab]
        · rw [if_neg h1, if_neg h2]
          have z1 : (if y = b then (if x = a then d b a else 0) else 0) = 0 := by
            by_cases hy' : y = b
            · rw [if_pos hy', if_neg (fun e => h1 ⟨e, hy'⟩)]
            · rw [if_neg hy']
          have z2 : (if y = a then (if x = b then d a b else 0) else 0) = 0 := by
            by_cases hy' : y = a
            · rw [if_pos hy', if_neg (fun e => h2 ⟨e, hy'⟩)]
            · rw [if_neg hy']
          rw [z1, z2]
    rw [sumN_add, sumN_add, sumN_single hbn, sumN_single han] at inner
    exact inner
  rw [sumN_single han, sumN_single hbn] at e
  omega
/-- in the nearest order each is not beaten by the next one -/
theorem best_next {n : Nat} {d : Nat → Nat → Int} {p : List Int} (hp : Ord n p) (hb : ∀ q, Ord n q → cost n d p ≤ cost n d q) {k : Nat} (hk : k + 1 < n) : d (nth p (k + 1)).toNat (nth p k).toNat ≤ d (nth p k).toNat (nth p (k + 1)).toNat := by
  have va := hp.val (show k < n by omega); have vb := hp.val hk
  have := hb _ (swap_ord hp hk)
  rw [swap_cost (a := (nth p k).toNat) (b := (nth p (k + 1)).toNat) hp hk (by omega) (by omega)] at this
  omega
end Go.Pu
