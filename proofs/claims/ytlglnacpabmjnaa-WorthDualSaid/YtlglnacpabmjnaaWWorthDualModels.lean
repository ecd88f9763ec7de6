/- The meaning of each function, as a plain function; printed by a program of this repository. -/
import Derived.Test.YtlglnacpabmjnaaFwI
namespace Go.Mo
open Go.Fw
set_option linter.unusedVariables false

/-- feathermark/worth.Check -/
def worth_Check_b1 (i48 : Nat) (y58 : Int) : Unit → Option (Fl Int Unit Unit) := fun _ => bindF (ρ := Int) (β := Unit) (σ := Bool) (if decide (y58 < (-1000000 : Int)) then some (.nx true) else some (.nx (decide (y58 > (1000000 : Int))))) fun x64 => (if x64 then some (.rt (1 : Int)) else some (.nx ()))
def worth_Check_m (x0 : Int) (x1 : (List Int)) : Option Int := bindR (ρ := Int) (β := Unit) (σ := Bool) (if decide (x0 < (1 : Int)) then some (.nx true) else some (.nx (decide (x0 > (6 : Int))))) fun x5 => (if x5 then some (1 : Int) else (chk (0 ≤ x0)).bind fun _ => (if ((x1).length : Int) != (IntKind.wrap .i64 ((1 : Int) * 2 ^ (min x0.toNat (IntKind.bits .i64)))) then some (3 : Int) else bindR (ρ := Int) (β := Unit) (σ := Unit) (rangeL (γ := Unit) worth_Check_b1 x1 0 ()) fun _ => (idx x1 (0 : Int)).bind fun y80 => (if y80 != (0 : Int) then some (3 : Int) else some (0 : Int))))

/-- feathermark/worth.size -/
def worth_size_b1 : Int × Int → Option (Fl Int (Int × Int) (Int × Int)) := fun (x2, x3) => (if decide (x2 > (0 : Int)) then (chk ((2 : Int) ≠ 0)).bind fun _ => (chk ((2 : Int) ≠ 0)).bind fun _ => some (.nx (IntKind.wrap .i64 (Int.tdiv x2 (2 : Int)), wadd x3 (Int.tmod x2 (2 : Int)))) else some (.br (x2, x3)))
def worth_size_m (x0 : Int) : Option Int := bindR (ρ := Int) (β := Unit) (σ := Int × Int) (loopM (γ := Unit) worth_size_b1 1048576 (x0, (0 : Int))) fun (x2, x3) => some x3

/-- feathermark/worth.factorial -/
def worth_factorial_b1 (x0 : Int) : Int × Int → Option (Fl Int (Int × Int) (Int × Int)) := fun (x2, x3) => (if decide (x3 ≤ x0) then some (.nx (wmul x2 x3, wadd x3 (1 : Int))) else some (.br (x2, x3)))
def worth_factorial_m (x0 : Int) : Option Int := bindR (ρ := Int) (β := Unit) (σ := Int × Int) (loopM (γ := Unit) (worth_factorial_b1 x0) 1048576 ((1 : Int), (2 : Int))) fun (x2, x3) => some x2

/-- feathermark/worth.Share -/
def worth_Share_b2 (i296 : Nat) (x0 : Int) (x1 : (List Int)) (y306 : Int) (i388 : Nat) : (List Int) → Option (Fl ((List Int) × Int) (List Int) (List Int)) := fun l343 => (chk (0 ≤ (i388 : Int))).bind fun _ => (if (bits .and .i64 (Int.fdiv (i296 : Int) (2 ^ (min (i388 : Int).toNat (IntKind.bits .i64)))) (1 : Int)) == (0 : Int) then (worth_size_m (i296 : Int)).bind fun y406 => (idx l343 (i388 : Int)).bind fun y420 => (worth_factorial_m y406).bind fun y422 => (worth_factorial_m (wsub (wsub x0 (1 : Int)) y406)).bind fun y424 => (chk (0 ≤ (i388 : Int))).bind fun _ => (idx x1 (bits .or .i64 (i296 : Int) (IntKind.wrap .i64 ((1 : Int) * 2 ^ (min (i388 : Int).toNat (IntKind.bits .i64)))))).bind fun y428 => (idx l343 (i388 : Int)).bind fun y430 => some (.nx (List.set l343 i388 (wadd y420 (wmul (wmul y422 y424) (wsub y428 y306))))) else some (.nx l343))
def worth_Share_b1 (x0 : Int) (x1 : (List Int)) (i296 : Nat) (y306 : Int) : (List Int) → Option (Fl ((List Int) × Int) (List Int) (List Int)) := fun l150 => (chk (x0 ≤ 9223372036854775807)).bind fun _ => bindF (ρ := (List Int) × Int) (β := (List Int)) (σ := (List Int)) (rangeN (γ := (List Int)) (worth_Share_b2 i296 x0 x1 y306) (x0).toNat 0 l150) fun l343 => some (.nx l343)
def worth_Share_m (x0 : Int) (x1 : (List Int)) : Option ((List Int) × Int) := (worth_Check_m x0 x1).bind fun y5 => (if y5 != (0 : Int) then some ([], y5) else (chk (0 ≤ x0 ∧ x0 ≤ 68719476736)).bind fun _ => bindR (ρ := (List Int) × Int) (β := Unit) (σ := (List Int)) (rangeL (γ := Unit) (worth_Share_b1 x0 x1) x1 0 (List.replicate (x0).toNat (0 : Int))) fun l150 => some (l150, (0 : Int)))

/-- slices.Equal[[]int,int] -/
def slices_Equal_int_int_b1 (x1 : (List Int)) (i21 : Nat) (y31 : Int) : Unit → Option (Fl Bool Unit Unit) := fun _ => (idx x1 (i21 : Int)).bind fun y37 => (if y31 != y37 then some (.rt false) else some (.nx ()))
def slices_Equal_int_int_m (x0 : (List Int)) (x1 : (List Int)) : Option Bool := (if ((x0).length : Int) != ((x1).length : Int) then some false else bindR (ρ := Bool) (β := Unit) (σ := Unit) (rangeL (γ := Unit) (slices_Equal_int_int_b1 x1) x0 0 ()) fun _ => some true)

/-- feathermark/plumekeep.worths -/
def pk_worths_m : Option Bool := (worth_Share_m (2 : Int) ([(0 : Int), (0 : Int), (2 : Int), (6 : Int)] : (List Int))).bind fun y6 => bindR (ρ := Bool) (β := Unit) (σ := Bool) (if y6.2 == (0 : Int) then (slices_Equal_int_int_m y6.1 ([(4 : Int), (8 : Int)] : (List Int))).bind fun y27 => some (.nx y27) else some (.nx false)) fun x17 => some x17

/-- feathermark/plumeref.Rest -/
def ref_Rest_m (x0 : Int) (x1 : Int) : Option Int := (chk (x1 ≠ 0)).bind fun _ => bindR (ρ := Int) (β := Unit) (σ := Int) (if decide ((Int.tmod x0 x1) < (0 : Int)) then some (.nx (wadd (Int.tmod x0 x1) x1)) else some (.nx (Int.tmod x0 x1))) fun x8 => some x8

/-- feathermark/plumekeep.Within -/
def pk_Within_m (x0 : Int) (x1 : Int) : Option Int := (ref_Rest_m x0 x1).bind fun y5 => some y5

/-- feathermark/plumekeep.GameOf -/
def pk_GameOf_b1 (x1 : (List Int)) : (List Int) × Int → Option (Fl (List Int) ((List Int) × Int) ((List Int) × Int)) := fun (l28, x30) => (if decide (x30 < ((l28).length : Int)) then (if decide ((wsub x30 (1 : Int)) < ((x1).length : Int)) then (idx x1 (wsub x30 (1 : Int))).bind fun y69 => (pk_Within_m y69 (41 : Int)).bind fun y71 => (idx l28 x30).bind fun y73 => some (.nx ((List.set l28 ((x30).toNat) (wsub y71 (10 : Int))), wadd x30 (1 : Int))) else some (.nx (l28, wadd x30 (1 : Int)))) else some (.br (l28, x30)))
def pk_GameOf_m (x0 : Int) (x1 : (List Int)) : Option (List Int) := (chk (0 ≤ x0)).bind fun _ => (chk (0 ≤ (IntKind.wrap .i64 ((1 : Int) * 2 ^ (min x0.toNat (IntKind.bits .i64)))) ∧ (IntKind.wrap .i64 ((1 : Int) * 2 ^ (min x0.toNat (IntKind.bits .i64)))) ≤ 68719476736)).bind fun _ => bindR (ρ := (List Int)) (β := Unit) (σ := (List Int) × Int) (loopM (γ := Unit) (pk_GameOf_b1 x1) 1048576 ((List.replicate (IntKind.wrap .i64 ((1 : Int) * 2 ^ (min x0.toNat (IntKind.bits .i64)))).toNat (0 : Int)), (1 : Int))) fun (l28, x30) => some l28

/-- slices.IndexFunc[[]feathermark/api.Errno,feathermark/api.Errno] -/
def slices_IndexFunc_api_Errno_api_Errno_b1 (g1 : Int → Option Bool) (i20 : Nat) (y30 : Int) : Unit → Option (Fl Int Unit Unit) := fun _ => (g1 y30).bind fun y36 => (if y36 then some (.rt (i20 : Int)) else some (.nx ()))
def slices_IndexFunc_api_Errno_api_Errno_m (x0 : (List Int)) (g1 : Int → Option Bool) : Option Int := bindR (ρ := Int) (β := Unit) (σ := Unit) (rangeL (γ := Unit) (slices_IndexFunc_api_Errno_api_Errno_b1 g1) x0 0 ()) fun _ => some (-1 : Int)

/-- slices.ContainsFunc[[]feathermark/api.Errno,feathermark/api.Errno] -/
def slices_ContainsFunc_api_Errno_api_Errno_m (x0 : (List Int)) (g1 : Int → Option Bool) : Option Bool := (slices_IndexFunc_api_Errno_api_Errno_m x0 g1).bind fun y5 => some (decide (y5 ≥ (0 : Int)))

/-- feathermark/plumekeep.good$1 -/
def pk_good_1_m (x0 : Int) : Option Bool := some (x0 != (0 : Int))

/-- feathermark/plumekeep.good -/
def pk_good_m (x0 : (List Int)) : Option Bool := (slices_ContainsFunc_api_Errno_api_Errno_m x0 (fun a0 => pk_good_1_m a0)).bind fun y4 => some (!y4)

/-- feathermark/plumekeep.WorthDual -/
def pk_WorthDual_b1 (y15 : (List Int)) (i58 : Nat) : (List Int) → Option (Fl Bool (List Int) (List Int)) := fun l36 => (idx y15 (wsub ((y15).length : Int) (1 : Int))).bind fun y75 => (idx y15 (wsub (wsub ((y15).length : Int) (1 : Int)) (i58 : Int))).bind fun y77 => (idx l36 (i58 : Int)).bind fun y79 => some (.nx (List.set l36 i58 (wsub y75 y77)))
def pk_WorthDual_m (x0 : Int) (x1 : (List Int)) : Option Bool := (pk_worths_m).bind fun y5 => (if !y5 then some false else (pk_Within_m x0 (5 : Int)).bind fun y10 => (pk_GameOf_m (wadd (1 : Int) y10) x1).bind fun y15 => (chk (0 ≤ ((y15).length : Int) ∧ ((y15).length : Int) ≤ 68719476736)).bind fun _ => bindR (ρ := Bool) (β := Unit) (σ := (List Int)) (rangeN (γ := Unit) (pk_WorthDual_b1 y15) (y15).length 0 (List.replicate (((y15).length : Int)).toNat (0 : Int))) fun l36 => (worth_Share_m (wadd (1 : Int) y10) y15).bind fun y86 => (worth_Share_m (wadd (1 : Int) y10) l36).bind fun y92 => bindR (ρ := Bool) (β := Unit) (σ := Bool) ((pk_good_m ([y86.2, y92.2] : (List Int))).bind fun y116 => (if y116 then (slices_Equal_int_int_m y86.1 y92.1).bind fun y119 => some (.nx y119) else some (.nx false))) fun x107 => some x107)
end Go.Mo
