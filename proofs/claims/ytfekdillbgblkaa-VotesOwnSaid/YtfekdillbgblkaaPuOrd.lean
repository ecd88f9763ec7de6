/- Orders of n sides. -/
import Derived.Test.YtfekdillbgblkaaWVotesOwnModels
import Derived.Test.YtfekdillbgblkaaPuWp
import Derived.Test.YtfekdillbgblkaaPuWithin
set_option linter.all false
namespace Go.Pu
open Go.Fw Go.Mo
/-- the sides 0 .. n-1, each once -/
structure Ord (n : Nat) (p : List Int) : Prop where
  len : p.length = n
  mem : ∀ x : Int, x ∈ p ↔ 0 ≤ x ∧ x < n
  nd : p.Nodup
def sides (n : Nat) : List Int := (List.range n).map (fun (k : Nat) => (k : Int))
theorem sides_ord (n : Nat) : Ord n (sides n) := by
  refine ⟨by simp [sides], fun x => ?_, ?_⟩
  · simp only [sides, List.mem_map, List.mem_range]
    constructor
    · rintro ⟨k, hk, rfl⟩; omega
    · intro h; exact ⟨x.toNat, by omega, by omega⟩
  · unfold sides List.Nodup
    rw [List.pairwise_map]
    exact (List.nodup_range (n := n)).imp fun h => by omega
theorem Ord.perm {n : Nat} {p q : List Int} (h : Ord n p) (e : q.Perm p) : Ord n q := ⟨by rw [e.length_eq, h.len], fun x => by rw [e.mem_iff, h.mem], e.nodup_iff.2 h.nd⟩
theorem sides_at (n : Nat) (h : n ≤ 1000) : ref_Sides_m (n : Int) = some (sides n) := by
  apply Ok.eq
  unfold ref_Sides_m
  simp only [ok_bind, ok_chk, ok_bindR, ok_some, Int.toNat_natCast]
  refine ⟨by omega, ok_rangeN (fun k s => s = sides k) rfl (fun k s hk hs => ?_) fun s hs => hs⟩
  subst hs
  unfold ref_Sides_b1
  simp only [ok_bind, ok_chk, ok_some, flok_nx]
  refine ⟨by have := (sides_ord k).len; simp; omega, ?_⟩
  simp [sides, List.range_succ]
theorem orderOf_ok (n : Nat) (l : List Int) (h0 : 1 ≤ n) (h : n ≤ 1000) : ∃ p, pk_OrderOf_m (n : Int) l = some p ∧ Ord n p := by
  have : Ok (pk_OrderOf_m (n : Int) l) (Ord n) := by
    unfold pk_OrderOf_m
    rw [sides_at n h]
    simp only [ok_bind, ok_chk, ok_bindR, ok_some, Int.toNat_natCast]
    refine ⟨by omega, ok_rangeN (fun k s => s.2.length = k ∧ (s.2 ++ s.1).Perm (sides n)) ⟨rfl, by simp⟩ (fun k s hk hs => ?_) fun s hs => ?_⟩
    · obtain ⟨left, out⟩ := s
      obtain ⟨h1, h2⟩ := hs
      simp only at h1 h2
      have hlen : out.length + left.length = n := by have := h2.length_eq; rw [List.length_append] at this; rw [this, (sides_ord n).len]
      unfold pk_OrderOf_b1
      simp only
      have step : ∀ (B : (List Int) × (List Int) → Prop) (R : List Int → Prop) (j : Int), 0 ≤ j → j < (left.length : Int) → Ok (chk (out.length + [nth left j.toNat].length ≤ 68719476736)) fun _ => Ok (slices_Delete_int_int_m left j (wadd j 1)) fun v =>
          FlOk (ρ := List Int) (β := (List Int) × (List Int)) (σ := (List Int) × (List Int)) (fun s => s.2.length = k + 1 ∧ (s.2 ++ s.1).Perm (sides n)) B R (.nx (v, out ++ [nth left j.toNat])) := by
        intro B R j hj0 hj
        rw [wadd_of (by omega) (by omega)]
        unfold slices_Delete_int_int_m
        simp only [ok_bind, ok_chk, ok_some, flok_nx]
        have e1 : (j + 1).toNat = j.toNat + 1 := by omega
        have hjl : j.toNat < left.length := by omega
        rw [e1, nth_get hjl]
        refine ⟨by simp; omega, by omega, by simp [h1], ?_⟩
        refine List.Perm.trans ?_ h2
        rw [List.append_assoc]
        refine List.Perm.append_left out ?_
        have e2 : left = left.take j.toNat ++ left[j.toNat] :: left.drop (j.toNat + 1) := by simp
        conv => rhs; rw [e2]
        exact (List.perm_middle (a := left[j.toNat]) (l₁ := left.take j.toNat) (l₂ := left.drop (j.toNat + 1))).symm
      simp only [ok_bindF, ok_ite, ok_some, ok_bind, ok_idx, decide_eq_true_eq, Int.toNat_natCast]
      refine ⟨fun hl => ⟨by omega, by omega, ?_⟩, fun _ => ?_⟩
      · rw [within_at _ _ (by omega) (by omega), ok_some, flok_nx]
        have a0 := Int.emod_nonneg (nth l k) (b := (left.length : Int)) (by omega)
        have a1 := Int.emod_lt_of_pos (nth l k) (b := (left.length : Int)) (by omega)
        exact ⟨a0, a1, step _ _ _ a0 a1⟩
      · rw [flok_nx]
        exact ⟨by omega, by omega, step _ _ _ (by omega) (by omega)⟩
    · obtain ⟨left, out⟩ := s
      obtain ⟨h1, h2⟩ := hs
      simp only at h1 h2
      have hlen : out.length + left.length = n := by have := h2.length_eq; rw [List.length_append] at this; rw [this, (sides_ord n).len]
      have : left = [] := List.eq_nil_of_length_eq_zero (by omega)
      subst this
      rw [List.append_nil] at h2
      simp only [ok_some]
      exact (sides_ord n).perm h2
  exact this
theorem order_check {n : Nat} {p : List Int} (h0 : 1 ≤ n) (h6 : n ≤ 6) (h : Ord n p) : order_Check_m (n : Int) p = some 0 := by
  apply Ok.eq
  unfold order_Check_m
  have hl := h.len
  simp only [ok_bindR, ok_ite, ok_some, flok_nx, decide_eq_true_eq]
  refine ⟨fun _ => by omega, fun _ => ⟨fun _ => by omega, fun _ => ?_⟩⟩
  refine ok_rangeL (fun k s => s.length = 6 ∧ ∀ x : Nat, x < n → nth s x = true → (x : Int) ∈ p.take k) ⟨by simp, fun x hx ht => by rw [nth_replicate (by omega)] at ht; cases ht⟩ (fun k x s hk hI => ?_) fun s _ => ?_
  · obtain ⟨h1, h2⟩ := hI
    have hkl := (List.getElem?_eq_some_iff.1 hk).1
    have hx := (h.mem x).1 (List.mem_of_getElem? hk)
    obtain ⟨j, rfl⟩ : ∃ j : Nat, x = j := ⟨x.toNat, by omega⟩
    unfold order_Check_b1
    have hj : nth s j = false := by
      cases hb : nth s j with
      | false => rfl
      | true =>
        have := h2 j (by omega) hb
        obtain ⟨i, hi, he⟩ := List.getElem_of_mem this
        rw [List.length_take] at hi
        rw [List.getElem_take] at he
        have hi' : i < p.length := by omega
        have := (List.getElem?_inj (j := k) hi' h.nd).1 (by rw [hk, List.getElem?_eq_getElem hi', he])
        omega
    have e1 : idx s (j : Int) = some false := by rw [idx_nat, nth_at (by omega), hj]
    simp only [ok_bindF, ok_ite, ok_some, ok_bind, flok_nx, flok_rt, decide_eq_true_eq, e1, Int.toNat_natCast]
    have e2 : nth (s.set j true) j = true := by rw [nth_set (by omega), if_pos rfl]
    have fin : (s.set j true).length = 6 ∧ ∀ x : Nat, x < n → nth (s.set j true) x = true → (x : Int) ∈ p.take (k + 1) := by
      refine ⟨by simpa using h1, fun x hx hxt => ?_⟩
      rw [List.take_succ_eq_append_getElem hkl, List.mem_append]
      by_cases hxj : x = j
      · subst hxj; right; simp [(List.getElem?_eq_some_iff.1 hk).2]
      · left; rw [nth_set (by omega), if_neg hxj] at hxt; exact h2 x hx hxt
    refine ⟨fun _ => by omega, fun _ => ⟨fun _ => by omega, fun _ => ⟨by simp, fun _ => fin⟩⟩⟩
  · simp only [ok_ite, ok_some, bne_iff_ne]
    exact ⟨fun hh => absurd (by omega) hh, fun _ => by trivial⟩
/-- a stands ahead of b -/
def bf (p : List Int) (a b : Nat) : Bool := decide (p.idxOf (a : Int) < p.idxOf (b : Int))
theorem Ord.idx {n : Nat} {p : List Int} (h : Ord n p) {k : Nat} (hk : k < n) : p.idxOf (nth p k) = k := by
  have hk' : k < p.length := by rw [h.len]; exact hk
  rw [nth_get hk']; exact h.nd.idxOf_getElem k hk'
theorem Ord.val {n : Nat} {p : List Int} (h : Ord n p) {k : Nat} (hk : k < n) : 0 ≤ nth p k ∧ nth p k < n := (h.mem _).1 (nth_mem (by rw [h.len]; exact hk))
theorem Ord.idx_lt {n : Nat} {p : List Int} (h : Ord n p) {x : Nat} (hx : x < n) : p.idxOf (x : Int) < n := by
  have : (x : Int) ∈ p := (h.mem _).2 ⟨by omega, by omega⟩
  have := List.idxOf_lt_length_of_mem this
  rw [h.len] at this; exact this
theorem Ord.at_idx {n : Nat} {p : List Int} (h : Ord n p) {x : Nat} (hx : x < n) : nth p (p.idxOf (x : Int)) = x := by
  have hl := h.idx_lt hx
  rw [nth_get (by rw [h.len]; exact hl)]
  exact List.getElem_idxOf _
theorem Ord.idx_inj {n : Nat} {p : List Int} (h : Ord n p) {x y : Nat} (hx : x < n) (hy : y < n) (e : p.idxOf (x : Int) = p.idxOf (y : Int)) : x = y := by
  have h1 := h.at_idx hx
  have h2 := h.at_idx hy
  rw [e, h2] at h1; omega
theorem bf_or {n : Nat} {p : List Int} (h : Ord n p) {a b : Nat} (ha : a < n) (hb : b < n) (hab : a ≠ b) : bf p a b = !bf p b a := by
  unfold bf
  have := fun e => hab (h.idx_inj ha hb e)
  rcases Nat.lt_or_gt_of_ne this with h1 | h1
  · rw [decide_eq_true h1, decide_eq_false (by omega)]; rfl
  · rw [decide_eq_false (by omega), decide_eq_true h1]; rfl
theorem bf_self (p : List Int) (a : Nat) : bf p a a = false := by simp [bf]
end Go.Pu
