/- Two weights against each other: the sets that the heavier one turns. -/
import Derived.Test.YtlglnacpabmjnaaWPowerTurnsModels
import Derived.Test.YtlglnacpabmjnaaPuPCmp
set_option linter.all false
namespace Go.Pu
open Go.Fw Go.Mo
theorem turn_cmp : ∀ n : Nat, n < 7 → ∀ i : Nat, i < n → ∀ k : Nat, k < n → i ≠ k → cmpOk n (turnLC n i ++ LC.neg (turnLC n k)) i k = true := by decide +kernel
end Go.Pu
