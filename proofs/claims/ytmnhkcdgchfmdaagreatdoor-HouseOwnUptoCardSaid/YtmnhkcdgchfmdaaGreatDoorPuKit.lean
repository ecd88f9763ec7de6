/- Plain lemmas about the small language of the models: loops that keep an invariant, loops that fold. -/
import Derived.Test.YtmnhkcdgchfmdaaGreatDoorFwF
set_option linter.all false
namespace Go.Pu
open Go.Fw
section
variable {ρ σ α β γ : Type}
/-- the first place where the test holds -/
theorem rangeL_first {body : Nat → α → Unit → Option (Fl Int Unit Unit)} (q : α → Bool) (l : List α) (h : ∀ i x, x ∈ l → body i x () = if q x then some (.rt (i : Int)) else some (.nx ())) :
    ∀ i, rangeL (γ := γ) body l i () = if l.any q then some (.rt ((i + l.findIdx q : Nat) : Int)) else some (.nx ()) := by
  induction l with
  | nil => intro i; rfl
  | cons x l ih =>
    intro i
    unfold rangeL
    rw [h i x (by simp)]
    by_cases hx : q x = true
    · simp [hx, List.findIdx_cons]
    · have hx' : q x = false := by simpa using hx
      rw [hx']
      simp only [Bool.false_eq_true, if_false]
      rw [ih (fun i y hy => h i y (by simp [hy])) (i + 1)]
      simp only [List.any_cons, hx', Bool.false_or, List.findIdx_cons, cond_false]
      split
      · congr 3; omega
      · rfl
theorem idx_nat {l : List α} {i : Nat} : idx l (i : Int) = l[i]? := by
  unfold idx
  rw [if_pos (by omega)]
  simp
theorem idx_at {l : List α} {i : Int} (h0 : 0 ≤ i) : idx l i = l[i.toNat]? := by unfold idx; rw [if_pos h0]
theorem wadd_of {x y : Int} (h0 : -9223372036854775808 ≤ x + y) (h1 : x + y ≤ 9223372036854775807) : wadd x y = x + y := by
  unfold wadd; rw [IntKind.wrap_i64]; omega
theorem wsub_of {x y : Int} (h0 : -9223372036854775808 ≤ x - y) (h1 : x - y ≤ 9223372036854775807) : wsub x y = x - y := by
  unfold wsub; rw [IntKind.wrap_i64]; omega
theorem wmul_of {x y : Int} (h0 : -9223372036854775808 ≤ x * y) (h1 : x * y ≤ 9223372036854775807) : wmul x y = x * y := by
  unfold wmul; rw [IntKind.wrap_i64]; omega
theorem chk_t {p : Prop} [Decidable p] (h : p) : chk p = some () := if_pos h
end
end Go.Pu
