/- Sets as numbers: members, how many, with one more. -/
import Derived.Test.YtfekdillbgblkaaPuMat
set_option linter.all false
namespace Go.Pu
open Go.Fw
def has (s i : Nat) : Bool := s / 2 ^ i % 2 == 1
def pc (s : Nat) : Nat := (List.range 6).foldl (fun c i => if has s i then c + 1 else c) 0
def fct : Nat → Int | 0 => 1 | n + 1 => (n + 1 : Int) * fct n
theorem bit_ok : ∀ s : Nat, s < 64 → ∀ i : Nat, i < 6 → bits .and .i64 (Int.fdiv (s : Int) (2 ^ (min (i : Int).toNat (IntKind.bits .i64)))) (1 : Int) = if has s i then 1 else 0 := by decide +kernel
theorem or_ok : ∀ s : Nat, s < 64 → ∀ i : Nat, i < 6 → has s i = false → bits .or .i64 (s : Int) (IntKind.wrap .i64 ((1 : Int) * 2 ^ (min (i : Int).toNat (IntKind.bits .i64)))) = ((s + 2 ^ i : Nat) : Int) := by decide +kernel
theorem pow_ok : ∀ n : Nat, n < 7 → IntKind.wrap .i64 ((1 : Int) * 2 ^ (min (n : Int).toNat (IntKind.bits .i64))) = ((2 ^ n : Nat) : Int) := by decide +kernel
theorem with_lt : ∀ n : Nat, n < 7 → ∀ s : Nat, s < 2 ^ n → ∀ i : Nat, i < n → has s i = false → s + 2 ^ i < 2 ^ n := by decide +kernel
theorem with_has : ∀ s : Nat, s < 64 → ∀ i : Nat, i < 6 → has s i = false → ∀ j, j < 6 → has (s + 2 ^ i) j = (has s j || j == i) := by decide +kernel
theorem pc_le : ∀ n : Nat, n < 7 → ∀ s : Nat, s < 2 ^ n → pc s ≤ n := by decide +kernel
theorem pc_lt : ∀ n : Nat, n < 7 → ∀ s : Nat, s < 2 ^ n → ∀ i : Nat, i < n → has s i = false → pc s < n := by decide +kernel
theorem pow_le : ∀ n : Nat, n < 7 → 2 ^ n ≤ 64 := by decide
theorem pow_pos' : ∀ n : Nat, 0 < 2 ^ n := fun n => Nat.two_pow_pos n
end Go.Pu
