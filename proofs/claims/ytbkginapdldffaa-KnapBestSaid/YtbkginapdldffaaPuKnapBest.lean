/- The plain law: what is chosen fits, has the worth that is told, and nothing that fits is worth more. -/
import Derived.Test.YtbkginapdldffaaWKnapBestModels
import Derived.Test.YtbkginapdldffaaPuItems
import Derived.Test.YtbkginapdldffaaPuWeigh
set_option linter.all false
namespace Go.Pu
open Go.Fw Go.Mo
/-- what a set of things weighs and is worth -/
def take2 : List (Int × Int) → (Nat → Bool) → Int × Int
  | [], _ => (0, 0)
  | x :: l, q => if q 0 then ((take2 l fun i => q (i + 1)).1 + x.1, (take2 l fun i => q (i + 1)).2 + x.2) else take2 l fun i => q (i + 1)
theorem take2_best : ∀ (l : List (Int × Int)) (q : Nat → Bool) (r : Int), (∀ x ∈ l, 0 ≤ x.1 ∧ 0 ≤ x.2) → 0 ≤ (take2 l q).1 ∧ 0 ≤ (take2 l q).2 ∧ ((take2 l q).1 ≤ r → (take2 l q).2 ≤ best l r)
  | [], q, r, _ => by simp [take2, best]
  | x :: l, q, r, h => by
    have hx := h x (by simp)
    have h' : ∀ y ∈ l, 0 ≤ y.1 ∧ 0 ≤ y.2 := fun y hy => h y (by simp [hy])
    have i1 := take2_best l (fun i => q (i + 1)) r h'
    have i2 := take2_best l (fun i => q (i + 1)) (r - x.1) h'
    simp only [take2, best]
    by_cases hq : q 0 = true
    · rw [if_pos hq]
      refine ⟨by simp only; omega, by simp only; omega, fun hr => ?_⟩
      simp only at hr ⊢
      rw [if_pos (by omega)]
      have := i2.2.2 (by omega)
      omega
    · rw [if_neg hq]
      refine ⟨i1.1, i1.2.1, fun hr => ?_⟩
      have := i1.2.2 hr
      split <;> omega
theorem take2_bound : ∀ (l : List (Int × Int)) (q : Nat → Bool), (∀ x ∈ l, 1 ≤ x.1 ∧ x.1 ≤ 100 ∧ 0 ≤ x.2 ∧ x.2 ≤ 1000000) → 0 ≤ (take2 l q).1 ∧ (take2 l q).1 ≤ 100 * (l.length : Int) ∧ 0 ≤ (take2 l q).2 ∧ (take2 l q).2 ≤ 1000000 * (l.length : Int)
  | [], q, _ => by simp [take2]
  | x :: l, q, h => by
    have hx := h x (by simp)
    have i1 := take2_bound l (fun i => q (i + 1)) fun y hy => h y (by simp [hy])
    simp only [take2, List.length_cons]
    split <;> (try simp only) <;> omega
theorem set_loop (set : Int) : ∀ (l : List (Int × Int)) (i : Nat) (a b : Int), (∀ x ∈ l, 1 ≤ x.1 ∧ x.1 ≤ 100 ∧ 0 ≤ x.2 ∧ x.2 ≤ 1000000) → 0 ≤ a → a ≤ 10000 → 0 ≤ b → b ≤ 100000000 → l.length ≤ 12 → a + 100 * (l.length : Int) ≤ 10000 → b + 1000000 * (l.length : Int) ≤ 100000000 →
    rangeL (γ := Unit) (pk_KnapBest_b1 set) l i (a, b) = some (.nx (a + (take2 l fun j => (bits .and .i64 (Int.fdiv set (2 ^ (min ((j + i : Nat) : Int).toNat (IntKind.bits .i64)))) (1 : Int)) == (1 : Int)).1, b + (take2 l fun j => (bits .and .i64 (Int.fdiv set (2 ^ (min ((j + i : Nat) : Int).toNat (IntKind.bits .i64)))) (1 : Int)) == (1 : Int)).2))
  | [], i, a, b, _, _, _, _, _, _, _, _ => by simp [rangeL, take2]
  | x :: l, i, a, b, h, a0, a1, b0, b1, hl, ha, hb => by
    have hx := h x (by simp)
    have h' : ∀ y ∈ l, 1 ≤ y.1 ∧ y.1 ≤ 100 ∧ 0 ≤ y.2 ∧ y.2 ≤ 1000000 := fun y hy => h y (by simp [hy])
    simp only [List.length_cons] at hl ha hb
    have e1 : (fun j => (bits .and .i64 (Int.fdiv set (2 ^ (min (((j + 1) + i : Nat) : Int).toNat (IntKind.bits .i64)))) (1 : Int)) == (1 : Int)) = (fun j : Nat => (bits .and .i64 (Int.fdiv set (2 ^ (min ((j + (i + 1) : Nat) : Int).toNat (IntKind.bits .i64)))) (1 : Int)) == (1 : Int)) := by
      funext j; rw [show j + 1 + i = j + (i + 1) by omega]
    unfold rangeL pk_KnapBest_b1
    simp only [take2]
    rw [chk_t (by omega), e1, Nat.zero_add]
    simp only [Option.bind_some]
    by_cases hq : ((bits .and .i64 (Int.fdiv set (2 ^ (min ((i : Nat) : Int).toNat (IntKind.bits .i64)))) (1 : Int)) == (1 : Int)) = true
    · rw [if_pos hq, if_pos hq, wadd_of (by omega) (by omega), wadd_of (by omega) (by omega)]
      simp only
      have := set_loop set l (i + 1) (a + x.1) (b + x.2) h' (by omega) (by omega) (by omega) (by omega) (by omega) (by omega) (by omega)
      unfold pk_KnapBest_b1 at this
      rw [this]
      congr 3 <;> omega
    · rw [if_neg hq, if_neg hq]
      simp only
      have := set_loop set l (i + 1) a b h' a0 a1 b0 b1 (by omega) (by omega) (by omega)
      unfold pk_KnapBest_b1 at this
      rw [this]
theorem KnapBest (x0 : List (List Int)) (h0 : (∀ x ∈ x0, x.length = 2 ∧ ∀ y ∈ x, (Lit.int .i64 y).wf = true) ∧ x0.length ≤ maxLen) (x1 : Int) (_ : (Lit.int .i64 x1).wf = true) (x2 : Int) (_ : (Lit.int .i64 x2).wf = true) : pk_KnapBest_m x0 x1 x2 = some true := by
  unfold pk_KnapBest_m
  rw [knaps_t]
  obtain ⟨l, el, hl, _⟩ := itemsOf_ok x0 h0
  have hlen := hl.1
  simp only [Option.bind_some, Bool.not_true, Bool.false_eq_true, if_false, el]
  rw [within_at x1 120 (by decide) (by decide)]
  simp only [Option.bind_some]
  rw [chk_t (by omega)]
  simp only [Option.bind_some, Int.toNat_natCast]
  have hpow : ∃ n : Int, IntKind.wrap .i64 ((1 : Int) * 2 ^ (min l.length (IntKind.bits .i64))) = n ∧ 0 < n ∧ n ≤ 1000000 := by
    have : l.length = 0 ∨ l.length = 1 ∨ l.length = 2 ∨ l.length = 3 ∨ l.length = 4 ∨ l.length = 5 ∨ l.length = 6 ∨ l.length = 7 ∨ l.length = 8 ∨ l.length = 9 ∨ l.length = 10 ∨ l.length = 11 ∨ l.length = 12 := by omega
    rcases this with h | h | h | h | h | h | h | h | h | h | h | h | h <;> rw [h] <;> exact ⟨_, rfl, by decide, by decide⟩
  obtain ⟨n, en, n0, n1⟩ := hpow
  rw [en, within_at x2 n n0 n1]
  simp only [Option.bind_some]
  have a0 := Int.emod_nonneg x1 (b := 120) (by decide)
  have a1 := Int.emod_lt_of_pos x1 (b := 120) (by decide)
  obtain ⟨a, ea⟩ : ∃ a : Nat, x1 % 120 = (a : Int) := ⟨(x1 % 120).toNat, by omega⟩
  rw [ea] at a0 a1
  rw [ea]
  obtain ⟨s, es, hs1, hs2, hs3⟩ := most_ok hl (R := a) (by omega)
  rw [es]
  simp only [Option.bind_some]
  rw [weighed_ok hl hs1]
  simp only [Option.bind_some, bne_self_eq_false, Bool.false_eq_true, if_false, Bool.not_true]
  rw [if_neg (by simpa using hs2), hs3]
  simp only [bne_self_eq_false, bindR, Bool.false_eq_true, if_false]
  rw [set_loop (x2 % n) l 0 0 0 hl.2 (by omega) (by omega) (by omega) (by omega) hlen (by omega) (by omega)]
  simp only [Int.zero_add]
  generalize (fun j : Nat => (bits .and .i64 (Int.fdiv (x2 % n) (2 ^ (min ((j + 0 : Nat) : Int).toNat (IntKind.bits .i64)))) (1 : Int)) == (1 : Int)) = q
  have hb := take2_best l q (a : Int) (fun x hx => by have := hl.2 x hx; omega)
  by_cases hw : (take2 l q).1 > (a : Int)
  · rw [if_pos (by simpa using hw)]
  · rw [if_neg (by simpa using hw)]
    have := hb.2.2 (by omega)
    simp [this]
end Go.Pu
