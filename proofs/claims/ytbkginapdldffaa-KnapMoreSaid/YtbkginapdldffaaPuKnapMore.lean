/- The plain law: more room or one thing more never makes the best worth less, and the thing adds at most its own worth. -/
import Derived.Test.YtbkginapdldffaaWKnapMoreModels
import Derived.Test.YtbkginapdldffaaPuItems
import Derived.Test.YtbkginapdldffaaPuGood
set_option linter.all false
namespace Go.Pu
open Go.Fw Go.Mo
theorem best_snoc (y : Int × Int) (hy : 0 ≤ y.2) (hw : 0 ≤ y.1) : ∀ (l : List (Int × Int)) (r : Int), (∀ x ∈ l, 0 ≤ x.2) → best l r ≤ best (l ++ [y]) r ∧ best (l ++ [y]) r ≤ best l r + y.2
  | [], r, _ => by simp only [List.nil_append, best]; split <;> constructor <;> omega
  | x :: l, r, h => by
    have h' : ∀ z ∈ l, 0 ≤ z.2 := fun z hz => h z (by simp [hz])
    have h1 := best_snoc y hy hw l r h'
    have h2 := best_snoc y hy hw l (r - x.1) h'
    simp only [List.cons_append, best]
    split <;> constructor <;> omega
theorem KnapMore (x0 : List (List Int)) (h0 : (∀ x ∈ x0, x.length = 2 ∧ ∀ y ∈ x, (Lit.int .i64 y).wf = true) ∧ x0.length ≤ maxLen) (x1 : Int) (_ : (Lit.int .i64 x1).wf = true) (x2 : Int) (_ : (Lit.int .i64 x2).wf = true)
    (x3 : List Int) (h3 : x3.length = 2 ∧ ∀ y ∈ x3, (Lit.int .i64 y).wf = true) : pk_KnapMore_m x0 x1 x2 x3 = some true := by
  unfold pk_KnapMore_m
  rw [knaps_t]
  obtain ⟨l, el, hl, _⟩ := itemsOf_ok x0 h0
  obtain ⟨o, eo, ho, hol⟩ := itemsOf_ok [x3] ⟨by simpa using h3, by simp [maxLen]⟩
  simp only [Option.bind_some, Bool.not_true, Bool.false_eq_true, if_false, el, eo]
  rw [chk_t (by split <;> constructor <;> omega), within_at x1 100 (by decide) (by decide), within_at x2 50 (by decide) (by decide)]
  simp only [Option.bind_some, List.drop_zero]
  have hm : (List.take (if (11 : Int) < (l.length : Int) then (11 : Int) else (l.length : Int)).toNat l).length ≤ 11 := by
    rw [List.length_take]; split <;> omega
  have hmp : ∀ x ∈ List.take (if (11 : Int) < (l.length : Int) then (11 : Int) else (l.length : Int)).toNat l, 1 ≤ x.1 ∧ x.1 ≤ 100 ∧ 0 ≤ x.2 ∧ x.2 ≤ 1000000 := fun x hx => hl.2 x (List.mem_of_mem_take hx)
  generalize List.take (if (11 : Int) < (l.length : Int) then (11 : Int) else (l.length : Int)).toNat l = m at *
  have a0 := Int.emod_nonneg x1 (b := 100) (by decide)
  have a1 := Int.emod_lt_of_pos x1 (b := 100) (by decide)
  have b0 := Int.emod_nonneg x2 (b := 50) (by decide)
  have b1 := Int.emod_lt_of_pos x2 (b := 50) (by decide)
  obtain ⟨a, ea⟩ : ∃ a : Nat, x1 % 100 = (a : Int) := ⟨(x1 % 100).toNat, by omega⟩
  obtain ⟨b, eb⟩ : ∃ b : Nat, x2 % 50 = (b : Int) := ⟨(x2 % 50).toNat, by omega⟩
  rw [ea] at a0 a1
  rw [eb] at b0 b1
  rw [ea, eb]
  obtain ⟨y, hy⟩ : ∃ y, o = [y] := by
    match o, hol with
    | [y], _ => exact ⟨y, rfl⟩
    | [], h => simp at h
    | _ :: _ :: _, h => simp at h
  subst hy
  have hyy := ho.2 y (by simp)
  have I1 : Items m := ⟨by omega, hmp⟩
  have I2 : Items (m ++ [y]) := ⟨by simp; omega, fun x hx => by
    rcases List.mem_append.1 hx with hx | hx
    · exact hmp x hx
    · simp at hx; subst hx; exact hyy⟩
  obtain ⟨s1, e1, _⟩ := most_ok I1 (R := a) (by omega)
  obtain ⟨s2, e2, _⟩ := most_ok I1 (R := a + b) (by omega)
  obtain ⟨s3, e3, _⟩ := most_ok I2 (R := a) (by omega)
  have hc : slices_Clone_api_Item_api_Item_m m = some m := by unfold slices_Clone_api_Item_api_Item_m; rw [chk_t (by omega)]; rfl
  have hab : wadd (a : Int) (b : Int) = ((a + b : Nat) : Int) := by rw [wadd_of (by omega) (by omega)]; omega
  simp only [e1, hab, e2, hc, Option.bind_some]
  rw [chk_t (by simp; omega)]
  have g0 : idx [y] (0 : Int) = some y := rfl
  simp only [Option.bind_some, e3, good_at, g0]
  have p0 : ∀ x ∈ m, 0 ≤ x.2 := fun x hx => by have := hmp x hx; omega
  have q1 := best_mono m (r := (a : Int)) (q := ((a + b : Nat) : Int)) p0 (by omega)
  have q2 := best_snoc y (by omega) (by omega) m (a : Int) p0
  have q3 := best_bound m (a : Int) (fun x hx => by have := hmp x hx; omega)
  rw [wadd_of (by omega) (by omega)]
  rw [Int.natCast_add] at q1
  simp [bindR, q1, q2.1, q2.2]
end Go.Pu
