/- The plain law: what each could hinder is shared as what each can do. -/
import Derived.Test.YtlglnacpabmjnaaWWorthDualModels
import Derived.Test.YtlglnacpabmjnaaPuWorth
import Derived.Test.YtlglnacpabmjnaaPuGood
import Derived.Test.YtlglnacpabmjnaaPuEq
set_option linter.all false
namespace Go.Pu
open Go.Fw Go.Mo
def dualLC (N : Nat) (L : LC) : LC := match L with | [] => [] | p :: r => (p.1, N - 1) :: (-p.1, N - 1 - p.2) :: dualLC N r
theorem dual_ev (N : Nat) (L : LC) (v : Nat → Int) : LC.ev L (fun s => v (N - 1) - v (N - 1 - s)) = LC.ev (dualLC N L) v := by
  induction L with
  | nil => rfl
  | cons p L ih => simp only [LC.ev, dualLC, ih]; grind
theorem dual_same : ∀ n : Nat, n < 6 → ∀ i : Nat, i < n → LC.same (2 ^ n) (dualLC (2 ^ n) (shareLC n i)) (shareLC n i) = true := by decide +kernel
theorem WorthDual (x0 : Int) (_ : (Lit.int .i64 x0).wf = true) (x1 : List Int) (h1 : (∀ x ∈ x1, (Lit.int .i64 x).wf = true) ∧ x1.length ≤ maxLen) : pk_WorthDual_m x0 x1 = some true := by
  obtain ⟨n, n1, n5, hn⟩ := one_within x0 5 (by decide) (by decide)
  rw [show ((5 : Nat) : Int) = 5 from rfl] at hn
  obtain ⟨g, v, eg, hg, bg⟩ := gameOf_ok n1 (by omega) x1 h1.2
  obtain ⟨a, ea, ha⟩ := worth_share hg
  have hp := pow_le n (by omega); have hp0 := pow_pos' n
  apply Ok.eq
  unfold pk_WorthDual_m
  rw [worths_t]
  simp only [Option.bind_some, Bool.not_true, Bool.false_eq_true, if_false, within_at x0 5 (by decide) (by decide), hn, eg]
  simp only [ok_bind, ok_chk, ok_bindR, hg.vec.len, Int.toNat_natCast]
  refine ⟨by omega, ok_rangeN (fun (s : Nat) (l : List Int) => Vec (2 ^ n) l (fun t => if t < s then v (2 ^ n - 1) - v (2 ^ n - 1 - t) else 0)) (Vec.zero.congr fun x _ => by simp) (fun s l hs hI => ?_) fun c hc => ?_⟩
  · have b1 := bg (2 ^ n - 1) (by omega); have b2 := bg (2 ^ n - 1 - s) (by omega)
    unfold pk_WorthDual_b1
    rw [hg.vec.len, wsub_of (x := ((2 ^ n : Nat) : Int)) (by omega) (by omega), wsub_of (by omega) (by omega), show ((2 ^ n : Nat) : Int) - 1 = ((2 ^ n - 1 : Nat) : Int) by omega, show ((2 ^ n - 1 : Nat) : Int) - (s : Int) = ((2 ^ n - 1 - s : Nat) : Int) by omega]
    simp only [idx_nat, hg.vec.at? (show 2 ^ n - 1 < 2 ^ n by omega), hg.vec.at? (show 2 ^ n - 1 - s < 2 ^ n by omega), hI.at? hs, Option.bind_some, ok_some, flok_nx]
    rw [wsub_of (by omega) (by omega)]
    refine (hI.set hs _).congr fun t ht => ?_
    by_cases hts : t = s
    · subst hts; rw [if_pos rfl, if_pos (by omega)]
    · rw [if_neg hts]
      by_cases hlt : t < s
      · rw [if_pos hlt, if_pos (by omega)]
      · rw [if_neg hlt, if_neg (by omega)]
  · have hc' : Game n c (fun t => v (2 ^ n - 1) - v (2 ^ n - 1 - t)) := ⟨n1, by omega, hc.congr fun x hx => by rw [if_pos hx], fun s hs => by have := bg (2 ^ n - 1) (by omega); have := bg (2 ^ n - 1 - s) (by omega); omega, by simp⟩
    obtain ⟨q, eq, hq⟩ := worth_share hc'
    have hqa : q = a := hq.ext (ha.congr fun i hi => by rw [dual_ev]; exact (LC.same_ev (dual_same n (by omega) i hi) v).symm)
    subst hqa
    simp [flok_nx, ea, eq, ok_bind, ok_bindR, ok_ite, ok_some, good_at, equal_ok]
end Go.Pu
