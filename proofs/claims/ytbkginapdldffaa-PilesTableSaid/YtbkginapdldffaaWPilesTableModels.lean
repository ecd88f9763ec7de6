/- The meaning of each function, as a plain function; printed by a program of this repository. -/
import Derived.Test.YtbkginapdldffaaFwH
namespace Go.Mo
open Go.Fw
set_option linter.unusedVariables false

/-- feathermark/piles.Table -/
def piles_Table_b1 (i44 : Nat) (y54 : Int) : Unit → Option (Fl ((List Int) × Int) Unit Unit) := fun _ => bindF (ρ := (List Int) × Int) (β := Unit) (σ := Bool) (if decide (y54 < (1 : Int)) then some (.nx true) else some (.nx (decide (y54 > (40 : Int))))) fun x60 => (if x60 then some (.rt ([], (3 : Int))) else some (.nx ()))
def piles_Table_b3 (i356 : Nat) (l213 : (List Int)) (i404 : Nat) (y414 : Int) : (List Bool) → Option (Fl ((List Int) × Int) (List Bool) (List Bool)) := fun l382 => (if decide (y414 ≤ (i356 : Int)) then (idx l213 (wsub (i356 : Int) y414)).bind fun y423 => (idx l382 y423).bind fun y425 => some (.nx (List.set l382 ((y423).toNat) true)) else some (.nx l382))
def piles_Table_b4 (i356 : Nat) (l382 : (List Bool)) : (List Int) → Option (Fl ((List Int) × Int) (List Int) (List Int)) := fun l446 => (idx l446 (i356 : Int)).bind fun y485 => (idx l382 y485).bind fun y487 => (if y487 then (idx l446 (i356 : Int)).bind fun y494 => (idx l446 (i356 : Int)).bind fun y496 => some (.nx (List.set l446 i356 (wadd y494 (1 : Int)))) else some (.br l446))
def piles_Table_b2 (x1 : (List Int)) (i356 : Nat) : (List Int) → Option (Fl ((List Int) × Int) (List Int) (List Int)) := fun l213 => bindF (ρ := (List Int) × Int) (β := (List Int)) (σ := (List Bool)) (rangeL (γ := (List Int)) (piles_Table_b3 i356 l213) x1 0 (List.replicate 7 false)) fun l382 => bindF (ρ := (List Int) × Int) (β := (List Int)) (σ := (List Int)) (loopM (γ := (List Int)) (piles_Table_b4 i356 l382) 1048576 l213) fun l446 => some (.nx l446)
def piles_Table_m (x0 : Int) (x1 : (List Int)) : Option ((List Int) × Int) := bindR (ρ := (List Int) × Int) (β := Unit) (σ := Bool) (if decide (x0 < (0 : Int)) then some (.nx true) else some (.nx (decide (x0 > (40 : Int))))) fun x5 => (if x5 then some ([], (1 : Int)) else (if decide (((x1).length : Int) > (6 : Int)) then some ([], (2 : Int)) else bindR (ρ := (List Int) × Int) (β := Unit) (σ := Unit) (rangeL (γ := Unit) piles_Table_b1 x1 0 ()) fun _ => (chk (0 ≤ (wadd x0 (1 : Int)) ∧ (wadd x0 (1 : Int)) ≤ 68719476736)).bind fun _ => bindR (ρ := (List Int) × Int) (β := Unit) (σ := (List Int)) (rangeN (γ := Unit) (piles_Table_b2 x1) ((List.replicate (wadd x0 (1 : Int)).toNat (0 : Int))).length 0 (List.replicate (wadd x0 (1 : Int)).toNat (0 : Int))) fun l213 => some (l213, (0 : Int))))

/-- slices.Equal[[]int,int] -/
def slices_Equal_int_int_b1 (x1 : (List Int)) (i21 : Nat) (y31 : Int) : Unit → Option (Fl Bool Unit Unit) := fun _ => (idx x1 (i21 : Int)).bind fun y37 => (if y31 != y37 then some (.rt false) else some (.nx ()))
def slices_Equal_int_int_m (x0 : (List Int)) (x1 : (List Int)) : Option Bool := (if ((x0).length : Int) != ((x1).length : Int) then some false else bindR (ρ := Bool) (β := Unit) (σ := Unit) (rangeL (γ := Unit) (slices_Equal_int_int_b1 x1) x0 0 ()) fun _ => some true)

/-- feathermark/piles.Check -/
def piles_Check_b1 (i29 : Nat) (y39 : Int) : Unit → Option (Fl Int Unit Unit) := fun _ => bindF (ρ := Int) (β := Unit) (σ := Bool) (if decide (y39 < (0 : Int)) then some (.nx true) else some (.nx (decide (y39 > (40 : Int))))) fun x45 => (if x45 then some (.rt (1 : Int)) else some (.nx ()))
def piles_Check_m (x0 : (List Int)) : Option Int := (if decide (((x0).length : Int) > (6 : Int)) then some (2 : Int) else bindR (ρ := Int) (β := Unit) (σ := Unit) (rangeL (γ := Unit) piles_Check_b1 x0 0 ()) fun _ => some (0 : Int))

/-- feathermark/piles.Move -/
def piles_Move_b1 (i20 : Nat) (y30 : Int) : Int → Option (Fl (Int × Int × Int) Int Int) := fun x7 => some (.nx (bits .xor .i64 x7 y30))
def piles_Move_b2 (x7 : Int) (i49 : Nat) (y59 : Int) : Unit → Option (Fl (Int × Int × Int) Unit Unit) := fun _ => (if decide ((bits .xor .i64 y59 x7) < y59) then some (.rt ((i49 : Int), wsub y59 (bits .xor .i64 y59 x7), (0 : Int))) else some (.nx ()))
def piles_Move_m (x0 : (List Int)) : Option (Int × Int × Int) := (piles_Check_m x0).bind fun y4 => (if y4 != (0 : Int) then some ((0 : Int), (0 : Int), y4) else bindR (ρ := Int × Int × Int) (β := Unit) (σ := Int) (rangeL (γ := Unit) piles_Move_b1 x0 0 (0 : Int)) fun x7 => bindR (ρ := Int × Int × Int) (β := Unit) (σ := Unit) (rangeL (γ := Unit) (piles_Move_b2 x7) x0 0 ()) fun _ => some ((0 : Int), (0 : Int), (4 : Int)))

/-- feathermark/piles.Wins -/
def piles_Wins_b1 (i20 : Nat) (y30 : Int) : Int → Option (Fl (Bool × Int) Int Int) := fun x7 => some (.nx (bits .xor .i64 x7 y30))
def piles_Wins_m (x0 : (List Int)) : Option (Bool × Int) := (piles_Check_m x0).bind fun y4 => (if y4 != (0 : Int) then some (false, y4) else bindR (ρ := Bool × Int) (β := Unit) (σ := Int) (rangeL (γ := Unit) piles_Wins_b1 x0 0 (0 : Int)) fun x7 => some (x7 != (0 : Int), (0 : Int)))

/-- slices.IndexFunc[[]feathermark/api.Errno,feathermark/api.Errno] -/
def slices_IndexFunc_api_Errno_api_Errno_b1 (g1 : Int → Option Bool) (i20 : Nat) (y30 : Int) : Unit → Option (Fl Int Unit Unit) := fun _ => (g1 y30).bind fun y36 => (if y36 then some (.rt (i20 : Int)) else some (.nx ()))
def slices_IndexFunc_api_Errno_api_Errno_m (x0 : (List Int)) (g1 : Int → Option Bool) : Option Int := bindR (ρ := Int) (β := Unit) (σ := Unit) (rangeL (γ := Unit) (slices_IndexFunc_api_Errno_api_Errno_b1 g1) x0 0 ()) fun _ => some (-1 : Int)

/-- slices.ContainsFunc[[]feathermark/api.Errno,feathermark/api.Errno] -/
def slices_ContainsFunc_api_Errno_api_Errno_m (x0 : (List Int)) (g1 : Int → Option Bool) : Option Bool := (slices_IndexFunc_api_Errno_api_Errno_m x0 g1).bind fun y5 => some (decide (y5 ≥ (0 : Int)))

/-- feathermark/plumekeep.good$1 -/
def pk_good_1_m (x0 : Int) : Option Bool := some (x0 != (0 : Int))

/-- feathermark/plumekeep.good -/
def pk_good_m (x0 : (List Int)) : Option Bool := (slices_ContainsFunc_api_Errno_api_Errno_m x0 (fun a0 => pk_good_1_m a0)).bind fun y4 => some (!y4)

/-- feathermark/plumekeep.nims -/
def pk_nims_m : Option Bool := (piles_Move_m ([(1 : Int), (2 : Int), (4 : Int)] : (List Int))).bind fun y5 => (piles_Wins_m ([(1 : Int), (2 : Int), (3 : Int)] : (List Int))).bind fun y11 => bindR (ρ := Bool) (β := Unit) (σ := Bool) ((pk_good_m ([y5.2.2, y11.2] : (List Int))).bind fun y34 => (if y34 then (if y5.1 == (2 : Int) then (if y5.2.1 == (1 : Int) then some (.nx (!y11.1)) else some (.nx false)) else some (.nx false)) else some (.nx false))) fun x25 => some x25

/-- slices.Index[[]int,int] -/
def slices_Index_int_int_b1 (x1 : Int) (i16 : Nat) (y26 : Int) : Unit → Option (Fl Int Unit Unit) := fun _ => (if x1 == y26 then some (.rt (i16 : Int)) else some (.nx ()))
def slices_Index_int_int_m (x0 : (List Int)) (x1 : Int) : Option Int := bindR (ρ := Int) (β := Unit) (σ := Unit) (rangeL (γ := Unit) (slices_Index_int_int_b1 x1) x0 0 ()) fun _ => some (-1 : Int)

/-- slices.Contains[[]int,int] -/
def slices_Contains_int_int_m (x0 : (List Int)) (x1 : Int) : Option Bool := (slices_Index_int_int_m x0 x1).bind fun y5 => some (decide (y5 ≥ (0 : Int)))

/-- feathermark/plumekeep.PilesTable -/
def pk_PilesTable_b2 (i182 : Nat) (y46 : (List Int) × Int) (i224 : Nat) (y234 : Int) : (List Int) → Option (Fl Bool (List Int) (List Int)) := fun l197 => (if decide (y234 ≤ (i182 : Int)) then (idx y46.1 (wsub (i182 : Int) y234)).bind fun y245 => (chk ((l197).length + (([y245] : (List Int))).length ≤ 68719476736)).bind fun _ => some (.nx (l197 ++ ([y245] : (List Int)))) else some (.nx l197))
def pk_PilesTable_b3 (l197 : (List Int)) (i273 : Nat) : Unit → Option (Fl Bool Unit Unit) := fun _ => (slices_Contains_int_int_m l197 (i273 : Int)).bind fun y286 => (if !y286 then some (.rt false) else some (.nx ()))
def pk_PilesTable_b1 (y46 : (List Int) × Int) (x1 : (List Int)) (i182 : Nat) : Unit → Option (Fl Bool Unit Unit) := fun _ => (idx y46.1 (i182 : Int)).bind fun y195 => bindF (ρ := Bool) (β := Unit) (σ := (List Int)) (rangeL (γ := Unit) (pk_PilesTable_b2 i182 y46) x1 0 ([])) fun l197 => (slices_Contains_int_int_m l197 y195).bind fun y255 => (if y255 then some (.rt false) else (chk (y195 ≤ 9223372036854775807)).bind fun _ => bindF (ρ := Bool) (β := Unit) (σ := Unit) (rangeN (γ := Unit) (pk_PilesTable_b3 l197) (y195).toNat 0 ()) fun _ => some (.nx ()))
def pk_PilesTable_m (x0 : Int) (x1 : (List Int)) : Option Bool := (piles_Table_m (5 : Int) ([(1 : Int), (2 : Int)] : (List Int))).bind fun y8 => bindR (ρ := Bool) (β := Unit) (σ := Bool) (if y8.2 != (0 : Int) then some (.nx true) else (slices_Equal_int_int_m y8.1 ([(0 : Int), (1 : Int), (2 : Int), (0 : Int), (1 : Int), (2 : Int)] : (List Int))).bind fun y35 => (if !y35 then some (.nx true) else (pk_nims_m).bind fun y38 => some (.nx (!y38)))) fun x25 => (if x25 then some false else (piles_Table_m x0 x1).bind fun y46 => bindR (ρ := Bool) (β := Unit) (σ := Bool) (if y46.2 != (0 : Int) then some (.nx true) else some (.nx (((y46.1).length : Int) != (wadd x0 (1 : Int))))) fun x51 => (if x51 then bindR (ρ := Bool) (β := Unit) (σ := Bool) (if y46.2 != (0 : Int) then some (.nx (((y46.1).length : Int) == (0 : Int))) else some (.nx false)) fun x65 => some x65 else bindR (ρ := Bool) (β := Unit) (σ := Unit) (rangeN (γ := Unit) (pk_PilesTable_b1 y46 x1) (y46.1).length 0 ()) fun _ => some true))
end Go.Mo
