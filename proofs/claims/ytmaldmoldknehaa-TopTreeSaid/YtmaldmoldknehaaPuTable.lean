/- Grundy numbers: what Table answers, and the plain law PilesTable. -/
import Derived.Test.YtmaldmoldknehaaWTopTreeModels
import Derived.Test.YtmaldmoldknehaaPuKit
set_option linter.all false
namespace Go.Pu
open Go.Fw Go.Mo
def Steps (s : List Int) : Prop := s.length ≤ 6 ∧ ∀ x ∈ s, 1 ≤ x ∧ x ≤ 40
/-- y is come to from a pile of x in one move -/
def Reach (t : List Int) (s : List Int) (x : Nat) (y : Int) : Prop := ∃ k ∈ s, k ≤ (x : Int) ∧ t[((x : Int) - k).toNat]? = some y
/-- the first n entries of t are Grundy numbers -/
def Grundy (t : List Int) (s : List Int) (n : Nat) : Prop := ∀ x, x < n → ∃ g : Nat, t[x]? = some (g : Int) ∧ g ≤ 6 ∧ ¬ Reach t s x (g : Int) ∧ ∀ y : Nat, y < g → Reach t s x (y : Int)
theorem seen_loop (t : List Int) (x : Nat) (hx40 : x ≤ 40) : ∀ (s : List Int) (i : Nat) (b : List Bool), (∀ k ∈ s, 1 ≤ k ∧ k ≤ 40) → b.length = 7 → (∀ y, y < x → ∃ g : Nat, t[y]? = some (g : Int) ∧ g ≤ 6) →
    ∃ b' : List Bool, rangeL (γ := List Int) (piles_Table_b3 x t) s i b = some (.nx b') ∧ b'.length = 7 ∧ (∀ y : Nat, b'[y]? = some true ↔ b[y]? = some true ∨ Reach t s x (y : Int)) ∧ b'.countP (· == true) ≤ b.countP (· == true) + s.length
  | [], i, b, _, hb, _ => ⟨b, rfl, hb, fun y => by simp [Reach], by simp⟩
  | k :: s, i, b, hs, hb, ht => by
    have hk := hs k (by simp)
    have hs' : ∀ k ∈ s, 1 ≤ k ∧ k ≤ 40 := fun k hk => hs k (by simp [hk])
    by_cases hkx : k ≤ (x : Int)
    · obtain ⟨g, hg, hg6⟩ := ht ((x : Int) - k).toNat (by omega)
      have hbody : piles_Table_b3 x t i k b = some (.nx (b.set g true)) := by
        unfold piles_Table_b3
        rw [if_pos (by simpa using hkx), wsub_of (by omega) (by omega), idx_at (by omega), hg]
        simp only [Option.bind_some, idx_nat]
        rw [List.getElem?_eq_getElem (by omega : g < b.length)]
        simp
      obtain ⟨b', e, h1, h2, h3⟩ := seen_loop t x hx40 s (i + 1) (b.set g true) hs' (by simpa using hb) ht
      refine ⟨b', by unfold rangeL; rw [hbody]; exact e, h1, fun y => ?_, ?_⟩
      · rw [h2 y]
        constructor
        · rintro (h | ⟨q, hq, hq1, hq2⟩)
          · by_cases hy : g = y
            · subst hy; exact .inr ⟨k, by simp, hkx, hg⟩
            · rw [List.getElem?_set_ne hy] at h; exact .inl h
          · exact .inr ⟨q, by simp [hq], hq1, hq2⟩
        · rintro (h | ⟨q, hq, hq1, hq2⟩)
          · left
            by_cases hy : g = y
            · subst hy; rw [List.getElem?_set_self (by omega)]
            · rw [List.getElem?_set_ne hy]; exact h
          · rcases List.mem_cons.1 hq with rfl | hq
            · rw [hg] at hq2
              have : g = y := Int.ofNat.inj (Option.some.inj hq2)
              subst this
              left; rw [List.getElem?_set_self (by omega)]
            · exact .inr ⟨q, hq, hq1, hq2⟩
      · have : (b.set g true).countP (· == true) ≤ b.countP (· == true) + 1 := by
          rw [List.countP_set (by omega)]
          split <;> split <;> omega
        simp only [List.length_cons]; omega
    · have hbody : piles_Table_b3 x t i k b = some (.nx b) := by
        unfold piles_Table_b3
        rw [if_neg (by simpa using hkx)]
      obtain ⟨b', e, h1, h2, h3⟩ := seen_loop t x hx40 s (i + 1) b hs' hb ht
      refine ⟨b', by unfold rangeL; rw [hbody]; exact e, h1, fun y => ?_, by simp only [List.length_cons]; omega⟩
      rw [h2 y]
      constructor
      · rintro (h | ⟨q, hq, hq1, hq2⟩)
        · exact .inl h
        · exact .inr ⟨q, by simp [hq], hq1, hq2⟩
      · rintro (h | ⟨q, hq, hq1, hq2⟩)
        · exact .inl h
        · rcases List.mem_cons.1 hq with rfl | hq
          · exact absurd hq1 hkx
          · exact .inr ⟨q, hq, hq1, hq2⟩
/-- the least number that is not seen -/
theorem mex_loop (b : List Bool) (x : Nat) (m : Nat) (hm : b[m]? = some false) (hl : ∀ y, y < m → b[y]? = some true) (hm6 : m ≤ 6) :
    ∀ (d v : Nat) (t : List Int) (f : Nat), v + d = m → d < f → x < t.length → t[x]? = some (v : Int) → loopM (γ := List Int) (ρ := List Int × Int) (piles_Table_b4 x b) f t = some (.nx (t.set x (m : Int)))
  | 0, v, t, f, hv, hf, hx, ht => by
    obtain ⟨f, rfl⟩ : ∃ q, f = q + 1 := ⟨f - 1, by omega⟩
    have : v = m := by omega
    subst this
    unfold loopM piles_Table_b4
    simp only [idx_nat, ht, Option.bind_some, hm, Bool.false_eq_true, if_false]
    congr 2
    apply List.ext_getElem?
    intro q
    by_cases hq : x = q
    · subst hq; rw [List.getElem?_set_self hx, ht]
    · rw [List.getElem?_set_ne hq]
  | d + 1, v, t, f, hv, hf, hx, ht => by
    obtain ⟨f, rfl⟩ : ∃ q, f = q + 1 := ⟨f - 1, by omega⟩
    have hb := hl v (by omega)
    unfold loopM
    have hbody : piles_Table_b4 x b t = some (.nx (t.set x ((v + 1 : Nat) : Int))) := by
      unfold piles_Table_b4
      simp only [idx_nat, ht, Option.bind_some, hb, if_true]
      rw [wadd_of (by omega) (by omega)]
      rfl
    rw [hbody]
    have := mex_loop b x m hm hl hm6 d (v + 1) (t.set x ((v + 1 : Nat) : Int)) f (by omega) (by omega) (by simpa using hx) (by rw [List.getElem?_set_self hx])
    simp only
    rw [this, List.set_set]
theorem least_false (b : List Bool) (h7 : b.length = 7) (hc : b.countP (· == true) ≤ 6) : ∃ m : Nat, m ≤ 6 ∧ b[m]? = some false ∧ ∀ y, y < m → b[y]? = some true := by
  have hex : ∃ m : Nat, b[m]? = some false := by
    refine Classical.byContradiction fun hn => ?_
    have : b.countP (· == true) = b.length := by
      rw [List.countP_eq_length]
      intro x hx
      obtain ⟨i, hi, rfl⟩ := List.mem_iff_getElem.1 hx
      cases hbi : b[i] with
      | true => rfl
      | false => exact absurd ⟨i, by rw [List.getElem?_eq_getElem hi, hbi]⟩ hn
    omega
  obtain ⟨m, h1, h2⟩ := exists_least hex
  have hm : m < b.length := (List.getElem?_eq_some_iff.1 h1).1
  refine ⟨m, by omega, h1, fun y hy => ?_⟩
  have hy' : y < b.length := by omega
  rw [List.getElem?_eq_getElem hy']
  cases hb : b[y] with
  | true => rfl
  | false => have := h2 y (by rw [List.getElem?_eq_getElem hy', hb]); omega
theorem table_ok {n : Int} {s : List Int} (h0 : 0 ≤ n) (h1 : n ≤ 40) (hs : Steps s) : ∃ t, piles_Table_m n s = some (t, 0) ∧ t.length = n.toNat + 1 ∧ Grundy t s (n.toNat + 1) := by
  unfold piles_Table_m
  rw [if_neg (by simp; omega)]
  simp only [bindR]
  rw [if_neg (by simp; omega), if_neg (by simp; have := hs.1; omega)]
  obtain ⟨_, e, _⟩ := rangeL_inv (γ := Unit) (body := piles_Table_b1) (fun _ _ => True) s 0 () trivial (fun k x u hk _ => by
    have hx := hs.2 x (List.mem_of_getElem? hk)
    refine ⟨(), ?_, trivial⟩
    unfold piles_Table_b1
    rw [if_neg (by simp; omega)]
    simp only [bindF]
    rw [if_neg (by simp; omega)])
  rw [e]
  simp only
  rw [wadd_of (by omega) (by omega), chk_t (by constructor <;> omega)]
  simp only [Option.bind_some]
  have hlen : (List.replicate (n + 1).toNat (0 : Int)).length = n.toNat + 1 := by simp; omega
  obtain ⟨t, e, ht1, ht2, _⟩ := rangeN_inv (γ := Unit) (body := piles_Table_b2 s) (fun i (t : List Int) => t.length = n.toNat + 1 ∧ Grundy t s i ∧ ∀ j, i ≤ j → j < n.toNat + 1 → t[j]? = some 0) (List.replicate (n + 1).toNat (0 : Int)).length 0 (List.replicate (n + 1).toNat (0 : Int))
    ⟨hlen, fun x hx => by omega, fun j _ hj => by rw [List.getElem?_replicate, if_pos (by omega)]⟩ (fun k t hk hI => by
    rw [Nat.zero_add] at *
    rw [hlen] at hk
    obtain ⟨i1, i2, i3⟩ := hI
    unfold piles_Table_b2
    obtain ⟨b, eb, hb7, hbr, hbc⟩ := seen_loop t k (by omega) s 0 (List.replicate 7 false) hs.2 (by simp) (fun y hy => by obtain ⟨g, g1, g2, _⟩ := i2 y hy; exact ⟨g, g1, g2⟩)
    rw [eb]
    simp only [bindF]
    obtain ⟨m, hm6, hmf, hmt⟩ := least_false b hb7 (by
      have : (List.replicate 7 false).countP (· == true) = 0 := by decide
      have := hs.1; omega)
    rw [mex_loop b k m hmf hmt hm6 m 0 t 1048576 (by omega) (by omega) (by omega) (i3 k (Nat.le_refl _) hk)]
    have hreach : ∀ (x : Nat) (y : Int), x ≤ k → (Reach (t.set k (m : Int)) s x y ↔ Reach t s x y) := fun x y hx => by
      unfold Reach
      constructor
      · rintro ⟨q, q1, q2, q3⟩
        have := hs.2 q q1
        rw [List.getElem?_set_ne (by omega)] at q3
        exact ⟨q, q1, q2, q3⟩
      · rintro ⟨q, q1, q2, q3⟩
        have := hs.2 q q1
        refine ⟨q, q1, q2, ?_⟩
        rw [List.getElem?_set_ne (by omega)]
        exact q3
    refine ⟨_, rfl, by simpa using i1, ?_, ?_⟩
    · intro x hx
      by_cases hxk : x = k
      · subst hxk
        refine ⟨m, by rw [List.getElem?_set_self (by omega)], hm6, ?_, ?_⟩
        · rw [hreach x _ (Nat.le_refl _)]
          intro hr
          have := (hbr m).2 (.inr hr)
          rw [hmf] at this; cases this
        · intro y hy
          rw [hreach x _ (Nat.le_refl _)]
          rcases (hbr y).1 (hmt y hy) with h | h
          · rw [List.getElem?_replicate] at h; split at h <;> cases h
          · exact h
      · obtain ⟨g, g1, g2, g3, g4⟩ := i2 x (by omega)
        refine ⟨g, by rw [List.getElem?_set_ne (by omega)]; exact g1, g2, ?_, ?_⟩
        · rw [hreach x _ (by omega)]; exact g3
        · intro y hy; rw [hreach x _ (by omega)]; exact g4 y hy
    · intro j hj1 hj2
      rw [List.getElem?_set_ne (by omega)]
      exact i3 j (by omega) hj2)
  rw [e]
  rw [Nat.zero_add, hlen] at ht2
  exact ⟨t, rfl, ht1, ht2⟩
end Go.Pu
