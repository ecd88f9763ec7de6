/- The meaning of each function, as a plain function; printed by a program of this repository. -/
import Derived.Test.YtocimbokgngofaaFwK
namespace Go.Mo
open Go.Fw
set_option linter.unusedVariables false

/-- feathermark/saddle.Check -/
def saddle_Check_b2 (i170 : Nat) (y180 : Int) : Unit → Option (Fl Int Unit Unit) := fun _ => bindF (ρ := Int) (β := Unit) (σ := Bool) (if decide (y180 < (-1000 : Int)) then some (.nx true) else some (.nx (decide (y180 > (1000 : Int))))) fun x186 => (if x186 then some (.rt (1 : Int)) else some (.nx ()))
def saddle_Check_b1 (x0 : (List (List Int))) (i107 : Nat) (y117 : (List Int)) : Unit → Option (Fl Int Unit Unit) := fun _ => (idx x0 (0 : Int)).bind fun y126 => (if ((y117).length : Int) != ((y126).length : Int) then some (.rt (3 : Int)) else bindF (ρ := Int) (β := Unit) (σ := Bool) (if decide (((y117).length : Int) < (1 : Int)) then some (.nx true) else some (.nx (decide (((y117).length : Int) > (6 : Int))))) fun x132 => (if x132 then some (.rt (2 : Int)) else bindF (ρ := Int) (β := Unit) (σ := Unit) (rangeL (γ := Unit) saddle_Check_b2 y117 0 ()) fun _ => some (.nx ())))
def saddle_Check_m (x0 : (List (List Int))) : Option Int := bindR (ρ := Int) (β := Unit) (σ := Bool) (if decide (((x0).length : Int) < (1 : Int)) then some (.nx true) else some (.nx (decide (((x0).length : Int) > (6 : Int))))) fun x4 => (if x4 then some (2 : Int) else bindR (ρ := Int) (β := Unit) (σ := Unit) (rangeL (γ := Unit) (saddle_Check_b1 x0) x0 0 ()) fun _ => some (0 : Int))

/-- feathermark/saddle.Bounds -/
def saddle_Bounds_b2 (i80 : Nat) (y90 : Int) : Int → Option (Fl (Int × Int × Int) Int Int) := fun x67 => some (.nx (if y90 < x67 then y90 else x67))
def saddle_Bounds_b1 (i51 : Nat) (y61 : (List Int)) : Int → Option (Fl (Int × Int × Int) Int Int) := fun x7 => bindF (ρ := Int × Int × Int) (β := Int) (σ := Int) (rangeL (γ := Int) saddle_Bounds_b2 y61 0 (1000 : Int)) fun x67 => some (.nx (if x67 > x7 then x67 else x7))
def saddle_Bounds_b4 (i154 : Nat) (i187 : Nat) (y197 : (List Int)) : Int → Option (Fl (Int × Int × Int) Int Int) := fun x168 => (idx y197 (i154 : Int)).bind fun y205 => some (.nx (if y205 > x168 then y205 else x168))
def saddle_Bounds_b3 (x0 : (List (List Int))) (i154 : Nat) (y164 : Int) : Int → Option (Fl (Int × Int × Int) Int Int) := fun x104 => bindF (ρ := Int × Int × Int) (β := Int) (σ := Int) (rangeL (γ := Int) (saddle_Bounds_b4 i154) x0 0 (-1000 : Int)) fun x168 => some (.nx (if x168 < x104 then x168 else x104))
def saddle_Bounds_m (x0 : (List (List Int))) : Option (Int × Int × Int) := (saddle_Check_m x0).bind fun y4 => (if y4 != (0 : Int) then some ((0 : Int), (0 : Int), y4) else bindR (ρ := Int × Int × Int) (β := Unit) (σ := Int) (rangeL (γ := Unit) saddle_Bounds_b1 x0 0 (-1000 : Int)) fun x7 => (idx x0 (0 : Int)).bind fun y101 => bindR (ρ := Int × Int × Int) (β := Unit) (σ := Int) (rangeL (γ := Unit) (saddle_Bounds_b3 x0) y101 0 (1000 : Int)) fun x104 => some (x7, x104, (0 : Int)))

/-- feathermark/saddle.Points -/
def saddle_Points_b3 (y504 : Int) (i534 : Nat) (y544 : Int) : Bool → Option (Fl ((List (List Int)) × Int) Bool Bool) := fun x508 => bindF (ρ := (List (List Int)) × Int) (β := Bool) (σ := Bool) (if x508 then some (.nx (decide (y504 ≤ y544))) else some (.nx false)) fun x550 => some (.nx x550)
def saddle_Points_b4 (i494 : Nat) (y504 : Int) (i597 : Nat) (y607 : (List Int)) : Bool → Option (Fl ((List (List Int)) × Int) Bool Bool) := fun x563 => bindF (ρ := (List (List Int)) × Int) (β := Bool) (σ := Bool) (if x563 then (idx y607 (i494 : Int)).bind fun y628 => some (.nx (decide (y504 ≥ y628))) else some (.nx false)) fun x619 => some (.nx x619)
def saddle_Points_b2 (y337 : (List Int)) (x0 : (List (List Int))) (i327 : Nat) (i494 : Nat) (y504 : Int) : (List (List Int)) → Option (Fl ((List (List Int)) × Int) (List (List Int)) (List (List Int))) := fun l343 => bindF (ρ := (List (List Int)) × Int) (β := (List (List Int))) (σ := Bool) (rangeL (γ := (List (List Int))) (saddle_Points_b3 y504) y337 0 true) fun x508 => bindF (ρ := (List (List Int)) × Int) (β := (List (List Int))) (σ := Bool) (rangeL (γ := (List (List Int))) (saddle_Points_b4 i494 y504) x0 0 x508) fun x563 => (if x563 then (chk ((l343).length + (([([(i327 : Int), (i494 : Int)] : (List Int))] : (List (List Int)))).length ≤ 68719476736)).bind fun _ => some (.nx (l343 ++ ([([(i327 : Int), (i494 : Int)] : (List Int))] : (List (List Int))))) else some (.nx l343))
def saddle_Points_b1 (x0 : (List (List Int))) (i327 : Nat) (y337 : (List Int)) : (List (List Int)) → Option (Fl ((List (List Int)) × Int) (List (List Int)) (List (List Int))) := fun l7 => bindF (ρ := (List (List Int)) × Int) (β := (List (List Int))) (σ := (List (List Int))) (rangeL (γ := (List (List Int))) (saddle_Points_b2 y337 x0 i327) y337 0 l7) fun l343 => some (.nx l343)
def saddle_Points_m (x0 : (List (List Int))) : Option ((List (List Int)) × Int) := (saddle_Check_m x0).bind fun y4 => (if y4 != (0 : Int) then some ([], y4) else bindR (ρ := (List (List Int)) × Int) (β := Unit) (σ := (List (List Int))) (rangeL (γ := Unit) (saddle_Points_b1 x0) x0 0 ([])) fun l7 => some (l7, (0 : Int)))

/-- slices.IndexFunc[[]feathermark/api.Errno,feathermark/api.Errno] -/
def slices_IndexFunc_api_Errno_api_Errno_b1 (g1 : Int → Option Bool) (i20 : Nat) (y30 : Int) : Unit → Option (Fl Int Unit Unit) := fun _ => (g1 y30).bind fun y36 => (if y36 then some (.rt (i20 : Int)) else some (.nx ()))
def slices_IndexFunc_api_Errno_api_Errno_m (x0 : (List Int)) (g1 : Int → Option Bool) : Option Int := bindR (ρ := Int) (β := Unit) (σ := Unit) (rangeL (γ := Unit) (slices_IndexFunc_api_Errno_api_Errno_b1 g1) x0 0 ()) fun _ => some (-1 : Int)

/-- slices.ContainsFunc[[]feathermark/api.Errno,feathermark/api.Errno] -/
def slices_ContainsFunc_api_Errno_api_Errno_m (x0 : (List Int)) (g1 : Int → Option Bool) : Option Bool := (slices_IndexFunc_api_Errno_api_Errno_m x0 g1).bind fun y5 => some (decide (y5 ≥ (0 : Int)))

/-- feathermark/plumekeep.good$1 -/
def pk_good_1_m (x0 : Int) : Option Bool := some (x0 != (0 : Int))

/-- feathermark/plumekeep.good -/
def pk_good_m (x0 : (List Int)) : Option Bool := (slices_ContainsFunc_api_Errno_api_Errno_m x0 (fun a0 => pk_good_1_m a0)).bind fun y4 => some (!y4)

/-- slices.Equal[[][2]int,[2]int] -/
def slices_Equal_pairs_b1 (x1 : (List (List Int))) (i25 : Nat) (y35 : (List Int)) : Unit → Option (Fl Bool Unit Unit) := fun _ => (idx x1 (i25 : Int)).bind fun y44 => (if !(decide (y35 = y44)) then some (.rt false) else some (.nx ()))
def slices_Equal_pairs_m (x0 : (List (List Int))) (x1 : (List (List Int))) : Option Bool := (if ((x0).length : Int) != ((x1).length : Int) then some false else bindR (ρ := Bool) (β := Unit) (σ := Unit) (rangeL (γ := Unit) (slices_Equal_pairs_b1 x1) x0 0 ()) fun _ => some true)

/-- feathermark/plumekeep.saddles -/
def pk_saddles_m : Option Bool := (saddle_Bounds_m ([([(3 : Int), (1 : Int)] : (List Int)), ([(4 : Int), (2 : Int)] : (List Int))] : (List (List Int)))).bind fun y9 => (saddle_Points_m ([([(3 : Int), (1 : Int)] : (List Int)), ([(4 : Int), (2 : Int)] : (List Int))] : (List (List Int)))).bind fun y20 => bindR (ρ := Bool) (β := Unit) (σ := Bool) ((pk_good_m ([y9.2.2, y20.2] : (List Int))).bind fun y52 => (if y52 then (if y9.1 == (2 : Int) then (if y9.2.1 == (2 : Int) then (slices_Equal_pairs_m y20.1 ([([(1 : Int), (1 : Int)] : (List Int))] : (List (List Int)))).bind fun y59 => some (.nx y59) else some (.nx false)) else some (.nx false)) else some (.nx false))) fun x43 => some x43

/-- feathermark/saddle.Turned -/
def saddle_Turned_b2 (i337 : Nat) (i446 : Nat) (y456 : (List Int)) : (List (List Int)) → Option (Fl ((List (List Int)) × Int) (List (List Int)) (List (List Int))) := fun l392 => (idx l392 (i337 : Int)).bind fun y481 => (idx y456 (i337 : Int)).bind fun y483 => (chk ((y481).length + (([wsub 0 y483] : (List Int))).length ≤ 68719476736)).bind fun _ => (idx l392 (i337 : Int)).bind fun y498 => some (.nx (List.set l392 i337 (y481 ++ ([wsub 0 y483] : (List Int)))))
def saddle_Turned_b1 (x0 : (List (List Int))) (i337 : Nat) : (List (List Int)) → Option (Fl ((List (List Int)) × Int) (List (List Int)) (List (List Int))) := fun l173 => bindF (ρ := (List (List Int)) × Int) (β := (List (List Int))) (σ := (List (List Int))) (rangeL (γ := (List (List Int))) (saddle_Turned_b2 i337) x0 0 l173) fun l392 => some (.nx l392)
def saddle_Turned_m (x0 : (List (List Int))) : Option ((List (List Int)) × Int) := (saddle_Check_m x0).bind fun y4 => (if y4 != (0 : Int) then some ([], y4) else (idx x0 (0 : Int)).bind fun y13 => (chk (0 ≤ ((y13).length : Int) ∧ ((y13).length : Int) ≤ 68719476736)).bind fun _ => bindR (ρ := (List (List Int)) × Int) (β := Unit) (σ := (List (List Int))) (rangeN (γ := Unit) (saddle_Turned_b1 x0) ((List.replicate (((y13).length : Int)).toNat ([] : (List Int)))).length 0 (List.replicate (((y13).length : Int)).toNat ([] : (List Int)))) fun l173 => some (l173, (0 : Int)))

/-- slices.EqualFunc[[][]int,[][]int,[]int,[]int] -/
def slices_EqualFunc_int_int_int_int_b1 (x1 : (List (List Int))) (g2 : (List Int) → (List Int) → Option Bool) (i30 : Nat) (y40 : (List Int)) : Unit → Option (Fl Bool Unit Unit) := fun _ => (idx x1 (i30 : Int)).bind fun y49 => (g2 y40 y49).bind fun y54 => (if !y54 then some (.rt false) else some (.nx ()))
def slices_EqualFunc_int_int_int_int_m (x0 : (List (List Int))) (x1 : (List (List Int))) (g2 : (List Int) → (List Int) → Option Bool) : Option Bool := (if ((x0).length : Int) != ((x1).length : Int) then some false else bindR (ρ := Bool) (β := Unit) (σ := Unit) (rangeL (γ := Unit) (slices_EqualFunc_int_int_int_int_b1 x1 g2) x0 0 ()) fun _ => some true)

/-- slices.Equal[[]int,int] -/
def slices_Equal_int_int_b1 (x1 : (List Int)) (i21 : Nat) (y31 : Int) : Unit → Option (Fl Bool Unit Unit) := fun _ => (idx x1 (i21 : Int)).bind fun y37 => (if y31 != y37 then some (.rt false) else some (.nx ()))
def slices_Equal_int_int_m (x0 : (List Int)) (x1 : (List Int)) : Option Bool := (if ((x0).length : Int) != ((x1).length : Int) then some false else bindR (ρ := Bool) (β := Unit) (σ := Unit) (rangeL (γ := Unit) (slices_Equal_int_int_b1 x1) x0 0 ()) fun _ => some true)

/-- slices.Index[[][2]int,[2]int] -/
def slices_Index_pairs_b1 (x1 : (List Int)) (i22 : Nat) (y32 : (List Int)) : Unit → Option (Fl Int Unit Unit) := fun _ => (if decide (x1 = y32) then some (.rt (i22 : Int)) else some (.nx ()))
def slices_Index_pairs_m (x0 : (List (List Int))) (x1 : (List Int)) : Option Int := bindR (ρ := Int) (β := Unit) (σ := Unit) (rangeL (γ := Unit) (slices_Index_pairs_b1 x1) x0 0 ()) fun _ => some (-1 : Int)

/-- slices.Contains[[][2]int,[2]int] -/
def slices_Contains_pairs_m (x0 : (List (List Int))) (x1 : (List Int)) : Option Bool := (slices_Index_pairs_m x0 x1).bind fun y9 => some (decide (y9 ≥ (0 : Int)))

/-- feathermark/plumekeep.SaddleTurned -/
def pk_SaddleTurned_b1 (y31 : (List (List Int)) × Int) (y37 : (List (List Int)) × Int) (i109 : Nat) : Unit → Option (Fl Bool Unit Unit) := fun _ => (idx y31.1 (i109 : Int)).bind fun y124 => (idx y124 (1 : Int)).bind fun y135 => (idx y124 (0 : Int)).bind fun y137 => (slices_Contains_pairs_m y37.1 ([y135, y137] : (List Int))).bind fun y140 => (if !y140 then some (.rt false) else some (.nx ()))
def pk_SaddleTurned_m (x0 : (List (List Int))) : Option Bool := (pk_saddles_m).bind fun y4 => (if !y4 then some false else (saddle_Turned_m x0).bind fun y10 => (if y10.2 != (0 : Int) then some (((y10.1).length : Int) == (0 : Int)) else (saddle_Turned_m y10.1).bind fun y17 => (saddle_Bounds_m x0).bind fun y22 => (saddle_Bounds_m y10.1).bind fun y26 => (saddle_Points_m x0).bind fun y31 => (saddle_Points_m y10.1).bind fun y37 => bindR (ρ := Bool) (β := Unit) (σ := Bool) ((pk_good_m ([y17.2, y22.2.2, y26.2.2, y31.2, y37.2] : (List Int))).bind fun y67 => (if !y67 then some (.nx true) else (slices_EqualFunc_int_int_int_int_m y17.1 x0 (fun a0 a1 => slices_Equal_int_int_m a0 a1)).bind fun y70 => (if !y70 then some (.nx true) else (if y26.1 != (wsub 0 y22.2.1) then some (.nx true) else (if y26.2.1 != (wsub 0 y22.1) then some (.nx true) else some (.nx (((y31.1).length : Int) != ((y37.1).length : Int)))))))) fun x58 => (if x58 then some false else bindR (ρ := Bool) (β := Unit) (σ := Unit) (rangeN (γ := Unit) (pk_SaddleTurned_b1 y31 y37) (y31.1).length 0 ()) fun _ => some true)))

/- more models, of functions that this law does not call -/
def slices_Index_int_int_b1 (x1 : Int) (i17 : Nat) (y27 : Int) : Unit → Option (Fl Int Unit Unit) := fun _ => (if x1 == y27 then some (.rt (i17 : Int)) else some (.nx ()))
def slices_Index_int_int_m (x0 : (List Int)) (x1 : Int) : Option Int := bindR (ρ := Int) (β := Unit) (σ := Unit) (rangeL (γ := Unit) (slices_Index_int_int_b1 x1) x0 0 ()) fun _ => some (-1 : Int)

def slices_Contains_int_int_m (x0 : (List Int)) (x1 : Int) : Option Bool := (slices_Index_int_int_m x0 x1).bind fun y5 => some (decide (y5 ≥ (0 : Int)))

end Go.Mo
