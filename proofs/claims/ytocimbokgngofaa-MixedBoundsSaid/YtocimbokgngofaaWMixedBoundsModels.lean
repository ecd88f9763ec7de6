/- The meaning of each function, as a plain function; printed by a program of this repository. -/
import Derived.Test.YtocimbokgngofaaFwK
namespace Go.Mo
open Go.Fw
set_option linter.unusedVariables false

/-- feathermark/saddle.Check -/
def saddle_Check_b2 (i170 : Nat) (y180 : Int) : Unit → Option (Fl Int Unit Unit) := fun _ => bindF (ρ := Int) (β := Unit) (σ := Bool) (if decide (y180 < (-1000 : Int)) then some (.nx true) else some (.nx (decide (y180 > (1000 : Int))))) fun x186 => (if x186 then some (.rt (1 : Int)) else some (.nx ()))
def saddle_Check_b1 (x0 : (List (List Int))) (i107 : Nat) (y117 : (List Int)) : Unit → Option (Fl Int Unit Unit) := fun _ => (idx x0 (0 : Int)).bind fun y126 => (if ((y117).length : Int) != ((y126).length : Int) then some (.rt (3 : Int)) else bindF (ρ := Int) (β := Unit) (σ := Bool) (if decide (((y117).length : Int) < (1 : Int)) then some (.nx true) else some (.nx (decide (((y117).length : Int) > (6 : Int))))) fun x132 => (if x132 then some (.rt (2 : Int)) else bindF (ρ := Int) (β := Unit) (σ := Unit) (rangeL (γ := Unit) saddle_Check_b2 y117 0 ()) fun _ => some (.nx ())))
def saddle_Check_m (x0 : (List (List Int))) : Option Int := bindR (ρ := Int) (β := Unit) (σ := Bool) (if decide (((x0).length : Int) < (1 : Int)) then some (.nx true) else some (.nx (decide (((x0).length : Int) > (6 : Int))))) fun x4 => (if x4 then some (2 : Int) else bindR (ρ := Int) (β := Unit) (σ := Unit) (rangeL (γ := Unit) (saddle_Check_b1 x0) x0 0 ()) fun _ => some (0 : Int))

/-- feathermark/mixed.least -/
def mixed_least_b1 (x0 : (List (List Int))) (x1 : Int) (x2 : Int) (i59 : Nat) (y69 : Int) : Int → Option (Fl Int Int Int) := fun x30 => (idx x0 (0 : Int)).bind fun y83 => (idx y83 (i59 : Int)).bind fun y86 => (idx x0 (1 : Int)).bind fun y88 => (idx y88 (i59 : Int)).bind fun y91 => some (.nx (if (wadd (wmul y86 x1) (wmul y91 (wsub x2 x1))) < x30 then wadd (wmul y86 x1) (wmul y91 (wsub x2 x1)) else x30))
def mixed_least_m (x0 : (List (List Int))) (x1 : Int) (x2 : Int) : Option Int := (idx x0 (0 : Int)).bind fun y14 => (idx y14 (0 : Int)).bind fun y17 => (idx x0 (1 : Int)).bind fun y19 => (idx y19 (0 : Int)).bind fun y22 => (idx x0 (0 : Int)).bind fun y27 => bindR (ρ := Int) (β := Unit) (σ := Int) (rangeL (γ := Unit) (mixed_least_b1 x0 x1 x2) y27 0 (wadd (wmul y17 x1) (wmul y22 (wsub x2 x1)))) fun x30 => some x30

/-- feathermark/mixed.Solve$1 -/
def mixed_Solve_1_m (x0 : Int) (x1 : Int) (x2 : (List (List Int))) (x3 : Int) (x4 : Int) : Option (Int × Int) := bindR (ρ := Int × Int) (β := Unit) (σ := Int × Int) (if decide (x1 < (0 : Int)) then some (.nx (wsub 0 x0, wsub 0 x1)) else some (.nx (x0, x1))) fun (x7, x8) => bindR (ρ := Int × Int) (β := Unit) (σ := Bool) (if decide (x7 < (0 : Int)) then some (.nx true) else some (.nx (decide (x7 > x8)))) fun x21 => (if x21 then some (x3, x4) else (mixed_least_m x2 x7 x8).bind fun y40 => (mixed_least_m x2 x4 x3).bind fun y43 => bindR (ρ := Int × Int) (β := Unit) (σ := Bool) (if decide ((wmul y40 x3) > (wmul y43 x8)) then some (.nx true) else (if (wmul y40 x3) == (wmul y43 x8) then some (.nx (decide ((wmul x7 x3) < (wmul x4 x8)))) else some (.nx false))) fun x49 => (if x49 then some (x8, x7) else some (x3, x4)))

/-- feathermark/mixed.gcd -/
def mixed_gcd_b1 : Int × Int → Option (Fl Int (Int × Int) (Int × Int)) := fun (x3, x4) => (if decide (x4 > (0 : Int)) then (chk (x4 ≠ 0)).bind fun _ => some (.nx (x4, Int.tmod x3 x4)) else some (.br (x3, x4)))
def mixed_gcd_m (x0 : Int) (x1 : Int) : Option Int := bindR (ρ := Int) (β := Unit) (σ := Int × Int) (loopM (γ := Unit) mixed_gcd_b1 1048576 (if (wsub 0 x0) > x0 then wsub 0 x0 else x0, x1)) fun (x3, x4) => some x3

/-- feathermark/mixed.low -/
def mixed_low_m (x0 : Int) (x1 : Int) : Option (Int × Int) := bindR (ρ := (Int × Int)) (β := Unit) (σ := Int × Int) (if decide (x1 < (0 : Int)) then some (.nx (wsub 0 x0, wsub 0 x1)) else some (.nx (x0, x1))) fun (x6, x7) => (mixed_gcd_m x6 x7).bind fun y20 => (chk (y20 ≠ 0)).bind fun _ => (chk (y20 ≠ 0)).bind fun _ => some ((IntKind.wrap .i64 (Int.tdiv x6 y20), IntKind.wrap .i64 (Int.tdiv x7 y20)) : (Int × Int))

/-- feathermark/mixed.Solve -/
def mixed_Solve_b2 (x0 : (List (List Int))) (i568 : Nat) (i748 : Nat) : Int × Int → Option (Fl ((Int × Int) × (Int × Int) × Int) (Int × Int) (Int × Int)) := fun (l659, l660) => (idx x0 (1 : Int)).bind fun y772 => (idx y772 (i748 : Int)).bind fun y775 => (idx x0 (1 : Int)).bind fun y778 => (idx y778 (i568 : Int)).bind fun y781 => (idx x0 (0 : Int)).bind fun y808 => (idx y808 (i568 : Int)).bind fun y811 => (idx x0 (1 : Int)).bind fun y814 => (idx y814 (i568 : Int)).bind fun y817 => (idx x0 (0 : Int)).bind fun y820 => (idx y820 (i748 : Int)).bind fun y823 => (idx x0 (1 : Int)).bind fun y826 => (idx y826 (i748 : Int)).bind fun y829 => (if (wadd (wsub (wsub y811 y817) y823) y829) != (0 : Int) then (mixed_Solve_1_m (wsub y775 y781) (wadd (wsub (wsub y811 y817) y823) y829) x0 l660 l659).bind fun y834 => some (.nx (y834.2, y834.1)) else some (.nx (l659, l660)))
def mixed_Solve_b1 (x0 : (List (List Int))) (i568 : Nat) (y578 : Int) : Int × Int → Option (Fl ((Int × Int) × (Int × Int) × Int) (Int × Int) (Int × Int)) := fun (l302, l303) => (chk ((i568 : Int) ≤ 9223372036854775807)).bind fun _ => bindF (ρ := (Int × Int) × (Int × Int) × Int) (β := Int × Int) (σ := Int × Int) (rangeN (γ := (Int × Int)) (mixed_Solve_b2 x0 i568) ((i568 : Int)).toNat 0 (l302, l303)) fun (l659, l660) => some (.nx (l659, l660))
def mixed_Solve_m (x0 : (List (List Int))) : Option ((Int × Int) × (Int × Int) × Int) := (saddle_Check_m x0).bind fun y12 => (if y12 != (0 : Int) then some ((((0 : Int), (0 : Int)) : (Int × Int)), (((0 : Int), (0 : Int)) : (Int × Int)), y12) else (if ((x0).length : Int) != (2 : Int) then some ((((0 : Int), (0 : Int)) : (Int × Int)), (((0 : Int), (0 : Int)) : (Int × Int)), (3 : Int)) else (mixed_Solve_1_m (1 : Int) (1 : Int) x0 (1 : Int) (0 : Int)).bind fun y36 => (idx x0 (0 : Int)).bind fun y43 => bindR (ρ := (Int × Int) × (Int × Int) × Int) (β := Unit) (σ := Int × Int) (rangeL (γ := Unit) (mixed_Solve_b1 x0) y43 0 (y36.2, y36.1)) fun (l302, l303) => (mixed_low_m l302 l303).bind fun y998 => (mixed_least_m x0 l302 l303).bind fun y1002 => (mixed_low_m y1002 l303).bind fun y1153 => some (y998, y1153, (0 : Int))))

/-- feathermark/plumekeep.mixes -/
def pk_mixes_m : Option Bool := (mixed_Solve_m ([([(1 : Int), (-1 : Int)] : (List Int)), ([(-1 : Int), (1 : Int)] : (List Int))] : (List (List Int)))).bind fun y13 => bindR (ρ := Bool) (β := Unit) (σ := Bool) (if y13.2.2 == (0 : Int) then (if decide (y13.1 = (((1 : Int), (2 : Int)) : (Int × Int))) then some (.nx (decide (y13.2.1 = (((0 : Int), (1 : Int)) : (Int × Int))))) else some (.nx false)) else some (.nx false)) fun x31 => some x31

/-- feathermark/saddle.Bounds -/
def saddle_Bounds_b2 (i80 : Nat) (y90 : Int) : Int → Option (Fl (Int × Int × Int) Int Int) := fun x67 => some (.nx (if y90 < x67 then y90 else x67))
def saddle_Bounds_b1 (i51 : Nat) (y61 : (List Int)) : Int → Option (Fl (Int × Int × Int) Int Int) := fun x7 => bindF (ρ := Int × Int × Int) (β := Int) (σ := Int) (rangeL (γ := Int) saddle_Bounds_b2 y61 0 (1000 : Int)) fun x67 => some (.nx (if x67 > x7 then x67 else x7))
def saddle_Bounds_b4 (i154 : Nat) (i187 : Nat) (y197 : (List Int)) : Int → Option (Fl (Int × Int × Int) Int Int) := fun x168 => (idx y197 (i154 : Int)).bind fun y205 => some (.nx (if y205 > x168 then y205 else x168))
def saddle_Bounds_b3 (x0 : (List (List Int))) (i154 : Nat) (y164 : Int) : Int → Option (Fl (Int × Int × Int) Int Int) := fun x104 => bindF (ρ := Int × Int × Int) (β := Int) (σ := Int) (rangeL (γ := Int) (saddle_Bounds_b4 i154) x0 0 (-1000 : Int)) fun x168 => some (.nx (if x168 < x104 then x168 else x104))
def saddle_Bounds_m (x0 : (List (List Int))) : Option (Int × Int × Int) := (saddle_Check_m x0).bind fun y4 => (if y4 != (0 : Int) then some ((0 : Int), (0 : Int), y4) else bindR (ρ := Int × Int × Int) (β := Unit) (σ := Int) (rangeL (γ := Unit) saddle_Bounds_b1 x0 0 (-1000 : Int)) fun x7 => (idx x0 (0 : Int)).bind fun y101 => bindR (ρ := Int × Int × Int) (β := Unit) (σ := Int) (rangeL (γ := Unit) (saddle_Bounds_b3 x0) y101 0 (1000 : Int)) fun x104 => some (x7, x104, (0 : Int)))

/-- feathermark/saddle.Points -/
def saddle_Points_b3 (y504 : Int) (i534 : Nat) (y544 : Int) : Bool → Option (Fl ((List (List Int)) × Int) Bool Bool) := fun x508 => bindF (ρ := (List (List Int)) × Int) (β := Bool) (σ := Bool) (if x508 then some (.nx (decide (y504 ≤ y544))) else some (.nx false)) fun x550 => some (.nx x550)
def saddle_Points_b4 (i494 : Nat) (y504 : Int) (i597 : Nat) (y607 : (List Int)) : Bool → Option (Fl ((List (List Int)) × Int) Bool Bool) := fun x563 => bindF (ρ := (List (List Int)) × Int) (β := Bool) (σ := Bool) (if x563 then (idx y607 (i494 : Int)).bind fun y628 => some (.nx (decide (y504 ≥ y628))) else some (.nx false)) fun x619 => some (.nx x619)
def saddle_Points_b2 (y337 : (List Int)) (x0 : (List (List Int))) (i327 : Nat) (i494 : Nat) (y504 : Int) : (List (List Int)) → Option (Fl ((List (List Int)) × Int) (List (List Int)) (List (List Int))) := fun l343 => bindF (ρ := (List (List Int)) × Int) (β := (List (List Int))) (σ := Bool) (rangeL (γ := (List (List Int))) (saddle_Points_b3 y504) y337 0 true) fun x508 => bindF (ρ := (List (List Int)) × Int) (β := (List (List Int))) (σ := Bool) (rangeL (γ := (List (List Int))) (saddle_Points_b4 i494 y504) x0 0 x508) fun x563 => (if x563 then (chk ((l343).length + (([([(i327 : Int), (i494 : Int)] : (List Int))] : (List (List Int)))).length ≤ 68719476736)).bind fun _ => some (.nx (l343 ++ ([([(i327 : Int), (i494 : Int)] : (List Int))] : (List (List Int))))) else some (.nx l343))
def saddle_Points_b1 (x0 : (List (List Int))) (i327 : Nat) (y337 : (List Int)) : (List (List Int)) → Option (Fl ((List (List Int)) × Int) (List (List Int)) (List (List Int))) := fun l7 => bindF (ρ := (List (List Int)) × Int) (β := (List (List Int))) (σ := (List (List Int))) (rangeL (γ := (List (List Int))) (saddle_Points_b2 y337 x0 i327) y337 0 l7) fun l343 => some (.nx l343)
def saddle_Points_m (x0 : (List (List Int))) : Option ((List (List Int)) × Int) := (saddle_Check_m x0).bind fun y4 => (if y4 != (0 : Int) then some ([], y4) else bindR (ρ := (List (List Int)) × Int) (β := Unit) (σ := (List (List Int))) (rangeL (γ := Unit) (saddle_Points_b1 x0) x0 0 ([])) fun l7 => some (l7, (0 : Int)))

/-- slices.IndexFunc[[]feathermark/api.Errno,feathermark/api.Errno] -/
def slices_IndexFunc_api_Errno_api_Errno_b1 (g1 : Int → Option Bool) (i20 : Nat) (y30 : Int) : Unit → Option (Fl Int Unit Unit) := fun _ => (g1 y30).bind fun y36 => (if y36 then some (.rt (i20 : Int)) else some (.nx ()))
def slices_IndexFunc_api_Errno_api_Errno_m (x0 : (List Int)) (g1 : Int → Option Bool) : Option Int := bindR (ρ := Int) (β := Unit) (σ := Unit) (rangeL (γ := Unit) (slices_IndexFunc_api_Errno_api_Errno_b1 g1) x0 0 ()) fun _ => some (-1 : Int)

/-- slices.ContainsFunc[[]feathermark/api.Errno,feathermark/api.Errno] -/
def slices_ContainsFunc_api_Errno_api_Errno_m (x0 : (List Int)) (g1 : Int → Option Bool) : Option Bool := (slices_IndexFunc_api_Errno_api_Errno_m x0 g1).bind fun y5 => some (decide (y5 ≥ (0 : Int)))

/-- feathermark/plumekeep.good$1 -/
def pk_good_1_m (x0 : Int) : Option Bool := some (x0 != (0 : Int))

/-- feathermark/plumekeep.good -/
def pk_good_m (x0 : (List Int)) : Option Bool := (slices_ContainsFunc_api_Errno_api_Errno_m x0 (fun a0 => pk_good_1_m a0)).bind fun y4 => some (!y4)

/-- slices.Equal[[][2]int,[2]int] -/
def slices_Equal_pairs_b1 (x1 : (List (List Int))) (i25 : Nat) (y35 : (List Int)) : Unit → Option (Fl Bool Unit Unit) := fun _ => (idx x1 (i25 : Int)).bind fun y44 => (if !(decide (y35 = y44)) then some (.rt false) else some (.nx ()))
def slices_Equal_pairs_m (x0 : (List (List Int))) (x1 : (List (List Int))) : Option Bool := (if ((x0).length : Int) != ((x1).length : Int) then some false else bindR (ρ := Bool) (β := Unit) (σ := Unit) (rangeL (γ := Unit) (slices_Equal_pairs_b1 x1) x0 0 ()) fun _ => some true)

/-- feathermark/plumekeep.saddles -/
def pk_saddles_m : Option Bool := (saddle_Bounds_m ([([(3 : Int), (1 : Int)] : (List Int)), ([(4 : Int), (2 : Int)] : (List Int))] : (List (List Int)))).bind fun y9 => (saddle_Points_m ([([(3 : Int), (1 : Int)] : (List Int)), ([(4 : Int), (2 : Int)] : (List Int))] : (List (List Int)))).bind fun y20 => bindR (ρ := Bool) (β := Unit) (σ := Bool) ((pk_good_m ([y9.2.2, y20.2] : (List Int))).bind fun y52 => (if y52 then (if y9.1 == (2 : Int) then (if y9.2.1 == (2 : Int) then (slices_Equal_pairs_m y20.1 ([([(1 : Int), (1 : Int)] : (List Int))] : (List (List Int)))).bind fun y59 => some (.nx y59) else some (.nx false)) else some (.nx false)) else some (.nx false))) fun x43 => some x43

/-- feathermark/plumekeep.two -/
def pk_two_m (x0 : (List (List Int))) : Option (List (List Int)) := (if decide (((x0).length : Int) > (2 : Int)) then (chk ((2 : Int) ≤ (x0).length ∧ 0 ≤ (2 : Int))).bind fun _ => some ((List.take (((2 : Int)).toNat) x0).drop 0) else some x0)

/-- feathermark/plumekeep.MixedBounds -/
def pk_MixedBounds_m (x0 : (List (List Int))) : Option Bool := bindR (ρ := Bool) (β := Unit) (σ := Bool) ((pk_mixes_m).bind fun y20 => (if !y20 then some (.nx true) else (pk_saddles_m).bind fun y23 => some (.nx (!y23)))) fun x12 => (if x12 then some false else (pk_two_m x0).bind fun y31 => (mixed_Solve_m y31).bind fun y40 => (saddle_Bounds_m y31).bind fun y48 => (if y40.2.2 != (0 : Int) then some (decide (y40.2.1 = (((0 : Int), (0 : Int)) : (Int × Int)))) else bindR (ρ := Bool) (β := Unit) (σ := Bool) (if y48.2.2 == (0 : Int) then (if decide ((wmul y48.1 y40.2.1.2) ≤ y40.2.1.1) then (if decide (y40.2.1.1 ≤ (wmul y48.2.1 y40.2.1.2)) then (if y48.1 != y48.2.1 then some (.nx true) else some (.nx (y40.2.1.1 == (wmul y48.1 y40.2.1.2)))) else some (.nx false)) else some (.nx false)) else some (.nx false)) fun x63 => some x63))

/- more models, of functions that this law does not call -/
def slices_Equal_int_int_b1 (x1 : (List Int)) (i21 : Nat) (y31 : Int) : Unit → Option (Fl Bool Unit Unit) := fun _ => (idx x1 (i21 : Int)).bind fun y37 => (if y31 != y37 then some (.rt false) else some (.nx ()))
def slices_Equal_int_int_m (x0 : (List Int)) (x1 : (List Int)) : Option Bool := (if ((x0).length : Int) != ((x1).length : Int) then some false else bindR (ρ := Bool) (β := Unit) (σ := Unit) (rangeL (γ := Unit) (slices_Equal_int_int_b1 x1) x0 0 ()) fun _ => some true)

def ref_Rest_m (x0 : Int) (x1 : Int) : Option Int := (chk (x1 ≠ 0)).bind fun _ => bindR (ρ := Int) (β := Unit) (σ := Int) (if decide ((Int.tmod x0 x1) < (0 : Int)) then some (.nx (wadd (Int.tmod x0 x1) x1)) else some (.nx (Int.tmod x0 x1))) fun x8 => some x8

def pk_Within_m (x0 : Int) (x1 : Int) : Option Int := (ref_Rest_m x0 x1).bind fun y5 => some y5

def slices_Index_int_int_b1 (x1 : Int) (i17 : Nat) (y27 : Int) : Unit → Option (Fl Int Unit Unit) := fun _ => (if x1 == y27 then some (.rt (i17 : Int)) else some (.nx ()))
def slices_Index_int_int_m (x0 : (List Int)) (x1 : Int) : Option Int := bindR (ρ := Int) (β := Unit) (σ := Unit) (rangeL (γ := Unit) (slices_Index_int_int_b1 x1) x0 0 ()) fun _ => some (-1 : Int)

def slices_Index_pairs_b1 (x1 : (List Int)) (i22 : Nat) (y32 : (List Int)) : Unit → Option (Fl Int Unit Unit) := fun _ => (if decide (x1 = y32) then some (.rt (i22 : Int)) else some (.nx ()))
def slices_Index_pairs_m (x0 : (List (List Int))) (x1 : (List Int)) : Option Int := bindR (ρ := Int) (β := Unit) (σ := Unit) (rangeL (γ := Unit) (slices_Index_pairs_b1 x1) x0 0 ()) fun _ => some (-1 : Int)

def slices_Contains_pairs_m (x0 : (List (List Int))) (x1 : (List Int)) : Option Bool := (slices_Index_pairs_m x0 x1).bind fun y9 => some (decide (y9 ≥ (0 : Int)))

def slices_Contains_int_int_m (x0 : (List Int)) (x1 : Int) : Option Bool := (slices_Index_int_int_m x0 x1).bind fun y5 => some (decide (y5 ≥ (0 : Int)))

end Go.Mo
