/- What Most answers: the best worth, and a choice that has it. -/
import Derived.Test.YtfhfoechannphaaWKnapApartModels
import Derived.Test.YtfhfoechannphaaPuKit
set_option linter.all false
namespace Go.Pu
open Go.Fw Go.Mo
def Items (l : List (Int × Int)) : Prop := l.length ≤ 12 ∧ ∀ x ∈ l, 1 ≤ x.1 ∧ x.1 ≤ 100 ∧ 0 ≤ x.2 ∧ x.2 ≤ 1000000
def best : List (Int × Int) → Int → Int
  | [], _ => 0
  | x :: l, r => if x.1 ≤ r then max (best l r) (x.2 + best l (r - x.1)) else best l r
theorem best_bound : ∀ (l : List (Int × Int)) (r : Int), (∀ x ∈ l, 0 ≤ x.2 ∧ x.2 ≤ 1000000) → 0 ≤ best l r ∧ best l r ≤ 1000000 * (l.length : Int)
  | [], r, _ => by simp [best]
  | x :: l, r, h => by
    have hx := h x (by simp)
    have h1 := best_bound l r fun y hy => h y (by simp [hy])
    have h2 := best_bound l (r - x.1) fun y hy => h y (by simp [hy])
    simp only [best, List.length_cons]
    split <;> constructor <;> omega
theorem best_mono : ∀ (l : List (Int × Int)) {r q : Int}, (∀ x ∈ l, 0 ≤ x.2) → r ≤ q → best l r ≤ best l q
  | [], r, q, _, _ => Int.le_refl _
  | x :: l, r, q, h, hrq => by
    have hx := h x (by simp)
    have h' : ∀ y ∈ l, 0 ≤ y.2 := fun y hy => h y (by simp [hy])
    have h1 := best_mono l h' hrq
    have h2 := best_mono l (r := r - x.1) (q := q - x.1) h' (by omega)
    simp only [best]
    split <;> split <;> omega
/-- a row of the table -/
def Row (W : List (List Int)) (R : Nat) (i : Nat) (f : Int → Int) (k : Nat) : Prop := ∃ r, W[i]? = some r ∧ r.length = R + 1 ∧ ∀ q : Nat, q < k → r[q]? = some (f (q : Int))
theorem drop_at {α : Type} {l : List α} {i : Nat} {x : α} (h : l[i]? = some x) : l.drop i = x :: l.drop (i + 1) := by
  obtain ⟨hi, hx⟩ := List.getElem?_eq_some_iff.1 h
  rw [← hx]; simp
theorem inner_step {l : List (Int × Int)} (hl : Items l) {R i : Nat} (hR : R ≤ 1000) {x : Int × Int} (hx : l[i]? = some x) {W : List (List Int)} (hn : Row W R (i + 1) (best (l.drop (i + 1))) (R + 1)) {k : Nat} (hk : k < R + 1) (hr : Row W R i (best (l.drop i)) k) :
    ∃ W', knap_Most_b2 (i : Int) l k W = some (.nx W') ∧ W'.length = W.length ∧ (∀ j, j ≠ i → W'[j]? = W[j]?) ∧ Row W' R i (best (l.drop i)) (k + 1) := by
  obtain ⟨r, r1, r2, r3⟩ := hr
  obtain ⟨n, n1, n2, n3⟩ := hn
  have hxi := hl.2 x (List.mem_of_getElem? hx)
  have hil : i < l.length := (List.getElem?_eq_some_iff.1 hx).1
  have hiW : i < W.length := (List.getElem?_eq_some_iff.1 r1).1
  have hb := hl.1
  have hb1 := fun r => best_bound (l.drop (i + 1)) r (fun y hy => by have := hl.2 y (List.mem_of_mem_drop hy); omega)
  have hlen : ((l.drop (i + 1)).length : Int) ≤ 12 := by rw [List.length_drop]; omega
  have hk' : k < r.length := by omega
  have hrow : r[k]? = some r[k] := List.getElem?_eq_getElem hk'
  have e1 : best (l.drop i) (k : Int) = if x.1 ≤ (k : Int) then max (best (l.drop (i + 1)) (k : Int)) (x.2 + best (l.drop (i + 1)) ((k : Int) - x.1)) else best (l.drop (i + 1)) (k : Int) := by
    rw [drop_at hx]; rfl
  have done : ∀ v : Int, v = best (l.drop i) (k : Int) → (W.set i (r.set k v)).length = W.length ∧ (∀ j, j ≠ i → (W.set i (r.set k v))[j]? = W[j]?) ∧ Row (W.set i (r.set k v)) R i (best (l.drop i)) (k + 1) := by
    intro v hv
    refine ⟨by simp, fun j hj => List.getElem?_set_ne (Ne.symm hj), r.set k v, List.getElem?_set_self hiW, by simpa using r2, fun q hq => ?_⟩
    by_cases hqk : q = k
    · subst hqk; rw [List.getElem?_set_self hk', hv]
    · rw [List.getElem?_set_ne (Ne.symm hqk)]; exact r3 q (by omega)
  unfold knap_Most_b2
  simp only [idx_nat, r1, Option.bind_some]
  rw [wadd_of (by omega) (by omega), show (i : Int) + 1 = ((i + 1 : Nat) : Int) from rfl]
  simp only [idx_nat, n1, Option.bind_some, n3 k hk, hrow, hx, Int.toNat_natCast]
  by_cases hw : x.1 ≤ (k : Int)
  · have hd : decide (x.1 ≤ (k : Int)) = true := by simpa using hw
    rw [if_pos hd]
    simp only [List.getElem?_set_self hiW, Option.bind_some]
    rw [List.getElem?_set_self hk', List.getElem?_set_ne (by omega : i ≠ i + 1), n1]
    simp only [Option.bind_some]
    rw [wsub_of (by omega) (by omega), idx_at (by omega)]
    have e2 := n3 ((k : Int) - x.1).toNat (by omega)
    rw [Int.toNat_of_nonneg (by omega)] at e2
    rw [e2]
    simp only [Option.bind_some, List.getElem?_set_self hk']
    have b2 := hb1 ((k : Int) - x.1)
    have b3 := hb1 (k : Int)
    rw [wadd_of (by omega) (by omega)]
    rw [List.set_set, List.set_set]
    obtain ⟨d1, d2, d3⟩ := done (if x.2 + best (l.drop (i + 1)) ((k : Int) - x.1) > best (l.drop (i + 1)) (k : Int) then x.2 + best (l.drop (i + 1)) ((k : Int) - x.1) else best (l.drop (i + 1)) (k : Int)) (by
      rw [e1, if_pos hw]; split <;> omega)
    exact ⟨_, rfl, d1, d2, d3⟩
  · have hd : ¬ decide (x.1 ≤ (k : Int)) = true := by simpa using hw
    rw [if_neg hd]
    obtain ⟨d1, d2, d3⟩ := done (best (l.drop (i + 1)) (k : Int)) (by rw [e1, if_neg hw])
    exact ⟨_, rfl, d1, d2, d3⟩
theorem knap_check {l : List (Int × Int)} (hl : Items l) {R : Nat} (hR : R ≤ 1000) : knap_Check_m l (R : Int) = some 0 := by
  unfold knap_Check_m
  rw [if_neg (by simp; have := hl.1; omega)]
  obtain ⟨_, e, _⟩ := rangeL_inv (γ := Unit) (body := knap_Check_b1) (fun _ _ => True) l 0 () trivial (fun k x s hk _ => by
    have hx := hl.2 x (List.mem_of_getElem? hk)
    refine ⟨(), ?_, trivial⟩
    unfold knap_Check_b1
    rw [if_neg (by simp; omega), if_neg (by simp; omega), if_neg (by simp; omega)]
    simp only [bindF]
    rw [if_neg (by simp; omega)])
  rw [e]
  simp only [bindR]
  rw [if_neg (by simp)]
  show (if decide ((R : Int) > 1000) = true then some (1 : Int) else some 0) = some 0
  rw [if_neg (by simp; omega)]
theorem outer_step {l : List (Int × Int)} (hl : Items l) {R : Nat} (hR : R ≤ 1000) (i : Nat) (W : List (List Int)) (hI : i + 1 ≤ l.length ∧ W.length = l.length + 1 ∧ ∀ j, i + 1 ≤ j → j ≤ l.length → Row W R j (best (l.drop j)) (R + 1)) :
    ∃ W', knap_Most_b1 (R : Int) l (W, (i : Int)) = some (.nx (W', (i : Int) - 1)) ∧ i ≤ l.length ∧ W'.length = l.length + 1 ∧ ∀ j, i ≤ j → j ≤ l.length → Row W' R j (best (l.drop j)) (R + 1) := by
    have hlen := hl.1
    obtain ⟨i0, i1, i2⟩ := hI
    have hx : l[i]? = some l[i] := List.getElem?_eq_getElem (by omega)
    have hiW : i < W.length := by omega
    unfold knap_Most_b1
    simp only
    rw [if_pos (by simp), wadd_of (by omega) (by omega), chk_t (by constructor <;> omega)]
    rw [Option.bind_some, idx_nat, List.getElem?_eq_getElem hiW, Option.bind_some, Int.toNat_natCast, idx_nat, List.getElem?_set_self hiW, Option.bind_some]
    rw [show ((R : Int) + 1).toNat = R + 1 by omega, List.length_replicate, chk_t (by omega), Option.bind_some, Int.toNat_natCast]
    obtain ⟨W', e', h1, h2, h3⟩ := rangeN_inv (γ := (List (List Int)) × Int) (body := knap_Most_b2 (i : Int) l) (fun k W' => W'.length = W.length ∧ (∀ j, j ≠ i → W'[j]? = W[j]?) ∧ Row W' R i (best (l.drop i)) k) (R + 1) 0 (W.set i (List.replicate (R + 1) (0 : Int)))
      ⟨by simp, fun j hj => List.getElem?_set_ne (Ne.symm hj), List.replicate (R + 1) 0, List.getElem?_set_self hiW, by simp, fun q hq => by omega⟩ (fun k W' hk hI => by
        rw [Nat.zero_add] at *
        obtain ⟨a1, a2, a3⟩ := hI
        obtain ⟨n, n1, n2, n3⟩ := i2 (i + 1) (by omega) (by omega)
        obtain ⟨W'', e'', b1, b2, b3⟩ := inner_step hl hR hx (W := W') ⟨n, by rw [a2 (i + 1) (by omega)]; exact n1, n2, n3⟩ hk a3
        exact ⟨W'', e'', by omega, fun j hj => by rw [b2 j hj, a2 j hj], b3⟩)
    rw [e']
    simp only [bindF]
    rw [wsub_of (by omega) (by omega)]
    refine ⟨W', rfl, by omega, by omega, fun j hj1 hj2 => ?_⟩
    by_cases hji : j = i
    · subst hji; rw [Nat.zero_add] at h3; exact h3
    · obtain ⟨n, n1, n2, n3⟩ := i2 j (by omega) hj2
      exact ⟨n, by rw [h2 j hji]; exact n1, n2, n3⟩
theorem table_dp {l : List (Int × Int)} (hl : Items l) {R : Nat} (hR : R ≤ 1000) (f : Nat) (hf : 12 < f) : ∃ W, loopM (γ := Unit) (knap_Most_b1 (R : Int) l) f ((List.set (List.replicate (l.length + 1) ([] : (List Int))) l.length (List.replicate (R + 1) (0 : Int))), (l.length : Int) - 1) = some (.nx (W, -1)) ∧
    ∀ j, j ≤ l.length → Row W R j (best (l.drop j)) (R + 1) := by
  have hlen := hl.1
  obtain ⟨W, e, h1, h2⟩ := loopM_down (γ := Unit) (body := knap_Most_b1 (R : Int) l) (fun k W => k ≤ l.length ∧ W.length = l.length + 1 ∧ ∀ j, k ≤ j → j ≤ l.length → Row W R j (best (l.drop j)) (R + 1)) (fun i W hI => outer_step hl hR i W hI) (fun W _ => by
    unfold knap_Most_b1
    simp only
    rw [if_neg (by decide)]) l.length (List.set (List.replicate (l.length + 1) ([] : (List Int))) l.length (List.replicate (R + 1) (0 : Int))) f (by omega) ⟨Nat.le_refl _, by simp, fun j hj1 hj2 => by
      have : j = l.length := by omega
      subst this
      refine ⟨List.replicate (R + 1) 0, by rw [List.getElem?_set_self (by simp)], by simp, fun q hq => ?_⟩
      rw [List.getElem?_replicate, if_pos hq, List.drop_length]; rfl⟩
  exact ⟨W, e, fun j hj => h2.2 j (by omega) hj⟩
def wsum (l : List (Int × Int)) (s : List Int) : Int := (s.map fun x => (l.getD x.toNat (0, 0)).1).sum
def vsum (l : List (Int × Int)) (s : List Int) : Int := (s.map fun x => (l.getD x.toNat (0, 0)).2).sum
/-- indexes in order, below n -/
def Incr (n : Nat) (s : List Int) : Prop := s.length ≤ n ∧ (∀ x ∈ s, 0 ≤ x ∧ x < (n : Int)) ∧ s.Pairwise (· < ·)
theorem most_ok {l : List (Int × Int)} (hl : Items l) {R : Nat} (hR : R ≤ 1000) : ∃ s, knap_Most_m l (R : Int) = some (s, best l (R : Int), 0) ∧ Incr l.length s ∧ wsum l s ≤ (R : Int) ∧ vsum l s = best l (R : Int) := by
  have hlen := hl.1
  obtain ⟨W, eW, hW⟩ := table_dp hl hR 1048576 (by decide)
  unfold knap_Most_m
  rw [knap_check hl hR]
  simp only [Option.bind_some, bne_self_eq_false, Bool.false_eq_true, if_false]
  rw [wadd_of (by omega) (by omega), wadd_of (by omega) (by omega), chk_t (by constructor <;> omega), chk_t (by constructor <;> omega)]
  simp only [Option.bind_some, idx_nat, Int.toNat_natCast]
  rw [show ((l.length : Int) + 1).toNat = l.length + 1 by omega, show ((R : Int) + 1).toNat = R + 1 by omega, List.getElem?_replicate, if_pos (by omega)]
  simp only [Option.bind_some]
  rw [wsub_of (by omega) (by omega), eW]
  simp only [bindR]
  obtain ⟨⟨s, r⟩, e, q, hr0, hs1, hs2, hs3⟩ := rangeL_inv (γ := Unit) (body := knap_Most_b3 W) (fun i (p : List Int × Int) => ∃ q : Nat, p.2 = (q : Int) ∧ Incr i p.1 ∧ wsum l p.1 + p.2 = (R : Int) ∧ vsum l p.1 + best (l.drop i) p.2 = best l (R : Int)) l 0 ([], (R : Int))
    ⟨R, rfl, ⟨by simp, by simp, List.Pairwise.nil⟩, by simp [wsum], by simp [vsum]⟩ (fun i x p hx hI => by
    rw [Nat.zero_add] at *
    obtain ⟨s, r⟩ := p
    obtain ⟨q, hr, ⟨c1, c2, c3⟩, c4, c5⟩ := hI
    simp only at hr c1 c2 c3 c4 c5
    subst hr
    have hil : i < l.length := (List.getElem?_eq_some_iff.1 hx).1
    have hxi := hl.2 x (List.mem_of_getElem? hx)
    have hw0 : 0 ≤ wsum l s := by
      unfold wsum
      have : ∀ (s : List Int), 0 ≤ (s.map fun x => (l.getD x.toNat (0, 0)).1).sum := by
        intro s
        induction s with
        | nil => simp
        | cons y s ih =>
          simp only [List.map_cons, List.sum_cons]
          have : 0 ≤ (l.getD y.toNat (0, 0)).1 := by
            rw [List.getD_eq_getElem?_getD]
            cases hy : l[y.toNat]? with
            | none => simp
            | some z => have := hl.2 z (List.mem_of_getElem? hy); simp; omega
          omega
      exact this s
    obtain ⟨n, n1, n2, n3⟩ := hW (i + 1) (by omega)
    obtain ⟨m, m1, m2, m3⟩ := hW i (by omega)
    have hq : q < R + 1 := by omega
    have hbb := fun r => best_bound (l.drop (i + 1)) r (fun y hy => by have := hl.2 y (List.mem_of_mem_drop hy); omega)
    have hln : ((l.drop (i + 1)).length : Int) ≤ 12 := by rw [List.length_drop]; omega
    have e1 : best (l.drop i) (q : Int) = if x.1 ≤ (q : Int) then max (best (l.drop (i + 1)) (q : Int)) (x.2 + best (l.drop (i + 1)) ((q : Int) - x.1)) else best (l.drop (i + 1)) (q : Int) := by
      rw [drop_at hx]; rfl
    unfold knap_Most_b3
    simp only
    by_cases h1 : x.1 ≤ (q : Int)
    · have d1 : decide (x.1 ≤ (q : Int)) = true := by simpa using h1
      rw [if_pos d1]
      rw [if_pos h1] at e1
      by_cases h2 : x.2 > 0
      · have d2 : decide (x.2 > 0) = true := by simpa using h2
        rw [if_pos d2, wadd_of (x := (i : Int)) (by omega) (by omega), show (i : Int) + 1 = ((i + 1 : Nat) : Int) from rfl]
        simp only [idx_nat, n1, m1, Option.bind_some, m3 q hq]
        rw [wsub_of (by omega) (by omega), idx_at (by omega)]
        have e2 := n3 ((q : Int) - x.1).toNat (by omega)
        rw [Int.toNat_of_nonneg (by omega)] at e2
        rw [e2]
        simp only [Option.bind_some, bindF]
        have b2 := hbb ((q : Int) - x.1)
        rw [wadd_of (by omega) (by omega)]
        by_cases h3 : x.2 + best (l.drop (i + 1)) ((q : Int) - x.1) = best (l.drop i) (q : Int)
        · have d3 : (x.2 + best (l.drop (i + 1)) ((q : Int) - x.1) == best (l.drop i) (q : Int)) = true := by simpa using h3
          rw [if_pos d3, chk_t (by simp; omega)]
          refine ⟨_, rfl, ((q : Int) - x.1).toNat, by simp only; omega, ⟨by simp; omega, ?_, ?_⟩, ?_, ?_⟩
          · intro y hy
            rcases List.mem_append.1 hy with hy | hy
            · have := c2 y hy; omega
            · simp at hy; subst hy; omega
          · rw [List.pairwise_append]
            exact ⟨c3, by simp, fun a ha b hb => by simp at hb; subst hb; exact (c2 a ha).2⟩
          · unfold wsum at c4 ⊢
            rw [List.map_append, List.sum_append]
            simp [List.getD_eq_getElem?_getD, hx]
            simp only [List.getD_eq_getElem?_getD] at c4
            omega
          · unfold vsum at c5 ⊢
            rw [List.map_append, List.sum_append]
            simp [List.getD_eq_getElem?_getD, hx]
            simp only [List.getD_eq_getElem?_getD] at c5
            omega
        · have d3 : ¬ (x.2 + best (l.drop (i + 1)) ((q : Int) - x.1) == best (l.drop i) (q : Int)) = true := by simpa using h3
          rw [if_neg d3]
          exact ⟨_, rfl, q, rfl, ⟨by simp only; omega, fun y hy => by have := c2 y hy; omega, c3⟩, c4, by simp only; omega⟩
      · have d2 : ¬ decide (x.2 > 0) = true := by simpa using h2
        rw [if_neg d2]
        have hm := best_mono (l.drop (i + 1)) (r := (q : Int) - x.1) (q := (q : Int)) (fun y hy => by have := hl.2 y (List.mem_of_mem_drop hy); omega) (by omega)
        exact ⟨_, rfl, q, rfl, ⟨by simp only; omega, fun y hy => by have := c2 y hy; omega, c3⟩, c4, by simp only; omega⟩
    · have d1 : ¬ decide (x.1 ≤ (q : Int)) = true := by simpa using h1
      rw [if_neg d1]
      rw [if_neg h1] at e1
      exact ⟨_, rfl, q, rfl, ⟨by simp only; omega, fun y hy => by have := c2 y hy; omega, c3⟩, c4, by simp only; omega⟩)
  rw [e]
  simp only
  rw [Nat.zero_add] at *
  obtain ⟨m, m1, m2, m3⟩ := hW 0 (by omega)
  have e0 : idx W (0 : Int) = some m := by rw [show (0 : Int) = ((0 : Nat) : Int) from rfl, idx_nat, m1]
  rw [e0]
  simp only [Option.bind_some, idx_nat, m3 R (by omega), List.drop_zero]
  refine ⟨s, rfl, hs1, by simp only at hs2 hr0; omega, ?_⟩
  simp only [List.drop_length, best] at hs3
  omega
end Go.Pu
