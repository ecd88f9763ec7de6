/- The meaning of each function, as a plain function; printed by a program of this repository. -/
import Derived.Test.YtbkginapdldffaaFwF
namespace Go.Mo
open Go.Fw
set_option linter.unusedVariables false

/-- feathermark/piles.Check -/
def piles_Check_b1 (i28 : Nat) (y38 : Int) : Unit → Option (Fl Int Unit Unit) := fun _ => bindF (ρ := Int) (β := Unit) (σ := Bool) (if decide (y38 < (0 : Int)) then some (.nx true) else some (.nx (decide (y38 > (40 : Int))))) fun x44 => (if x44 then some (.rt (1 : Int)) else some (.nx ()))
def piles_Check_m (x0 : (List Int)) : Option Int := (if decide (((x0).length : Int) > (6 : Int)) then some (2 : Int) else bindR (ρ := Int) (β := Unit) (σ := Unit) (rangeL (γ := Unit) piles_Check_b1 x0 0 ()) fun _ => some (0 : Int))

/-- feathermark/piles.Move -/
def piles_Move_b1 (i19 : Nat) (y29 : Int) : Int → Option (Fl (Int × Int × Int) Int Int) := fun x6 => some (.nx (bits .xor .i64 x6 y29))
def piles_Move_b2 (x6 : Int) (i48 : Nat) (y58 : Int) : Unit → Option (Fl (Int × Int × Int) Unit Unit) := fun _ => (if decide ((bits .xor .i64 y58 x6) < y58) then some (.rt ((i48 : Int), wsub y58 (bits .xor .i64 y58 x6), (0 : Int))) else some (.nx ()))
def piles_Move_m (x0 : (List Int)) : Option (Int × Int × Int) := (piles_Check_m x0).bind fun y3 => (if y3 != (0 : Int) then some ((0 : Int), (0 : Int), y3) else bindR (ρ := Int × Int × Int) (β := Unit) (σ := Int) (rangeL (γ := Unit) piles_Move_b1 x0 0 (0 : Int)) fun x6 => bindR (ρ := Int × Int × Int) (β := Unit) (σ := Unit) (rangeL (γ := Unit) (piles_Move_b2 x6) x0 0 ()) fun _ => some ((0 : Int), (0 : Int), (4 : Int)))

/-- feathermark/piles.Wins -/
def piles_Wins_b1 (i19 : Nat) (y29 : Int) : Int → Option (Fl (Bool × Int) Int Int) := fun x6 => some (.nx (bits .xor .i64 x6 y29))
def piles_Wins_m (x0 : (List Int)) : Option (Bool × Int) := (piles_Check_m x0).bind fun y3 => (if y3 != (0 : Int) then some (false, y3) else bindR (ρ := Bool × Int) (β := Unit) (σ := Int) (rangeL (γ := Unit) piles_Wins_b1 x0 0 (0 : Int)) fun x6 => some (x6 != (0 : Int), (0 : Int)))

/-- slices.IndexFunc[[]feathermark/api.Errno,feathermark/api.Errno] -/
def slices_IndexFunc_api_Errno_api_Errno_b1 (g1 : Int → Option Bool) (i18 : Nat) (y28 : Int) : Unit → Option (Fl Int Unit Unit) := fun _ => (g1 y28).bind fun y34 => (if y34 then some (.rt (i18 : Int)) else some (.nx ()))
def slices_IndexFunc_api_Errno_api_Errno_m (x0 : (List Int)) (g1 : Int → Option Bool) : Option Int := bindR (ρ := Int) (β := Unit) (σ := Unit) (rangeL (γ := Unit) (slices_IndexFunc_api_Errno_api_Errno_b1 g1) x0 0 ()) fun _ => some (-1 : Int)

/-- slices.ContainsFunc[[]feathermark/api.Errno,feathermark/api.Errno] -/
def slices_ContainsFunc_api_Errno_api_Errno_m (x0 : (List Int)) (g1 : Int → Option Bool) : Option Bool := (slices_IndexFunc_api_Errno_api_Errno_m x0 g1).bind fun y3 => some (decide (y3 ≥ (0 : Int)))

/-- feathermark/plumekeep.good$1 -/
def pk_good_1_m (x0 : Int) : Option Bool := some (x0 != (0 : Int))

/-- feathermark/plumekeep.good -/
def pk_good_m (x0 : (List Int)) : Option Bool := (slices_ContainsFunc_api_Errno_api_Errno_m x0 (fun a0 => pk_good_1_m a0)).bind fun y3 => some (!y3)

/-- feathermark/plumekeep.nims -/
def pk_nims_m : Option Bool := (piles_Move_m ([(1 : Int), (2 : Int), (4 : Int)] : (List Int))).bind fun y5 => (piles_Wins_m ([(1 : Int), (2 : Int), (3 : Int)] : (List Int))).bind fun y11 => bindR (ρ := Bool) (β := Unit) (σ := Bool) ((pk_good_m ([y5.2.2, y11.2] : (List Int))).bind fun y34 => (if y34 then (if y5.1 == (2 : Int) then (if y5.2.1 == (1 : Int) then some (.nx (!y11.1)) else some (.nx false)) else some (.nx false)) else some (.nx false))) fun x25 => some x25

/-- feathermark/plumeref.Rest -/
def ref_Rest_m (x0 : Int) (x1 : Int) : Option Int := (chk (x1 ≠ 0)).bind fun _ => bindR (ρ := Int) (β := Unit) (σ := Int) (if decide ((Int.tmod x0 x1) < (0 : Int)) then some (.nx (wadd (Int.tmod x0 x1) x1)) else some (.nx (Int.tmod x0 x1))) fun x6 => some x6

/-- feathermark/plumekeep.Within -/
def pk_Within_m (x0 : Int) (x1 : Int) : Option Int := (ref_Rest_m x0 x1).bind fun y3 => some y3

/-- feathermark/piles.Table -/
def piles_Table_b1 (i42 : Nat) (y52 : Int) : Unit → Option (Fl ((List Int) × Int) Unit Unit) := fun _ => bindF (ρ := (List Int) × Int) (β := Unit) (σ := Bool) (if decide (y52 < (1 : Int)) then some (.nx true) else some (.nx (decide (y52 > (40 : Int))))) fun x58 => (if x58 then some (.rt ([], (3 : Int))) else some (.nx ()))
def piles_Table_b3 (i354 : Nat) (l211 : (List Int)) (i402 : Nat) (y412 : Int) : (List Bool) → Option (Fl ((List Int) × Int) (List Bool) (List Bool)) := fun l380 => (if decide (y412 ≤ (i354 : Int)) then (idx l211 (wsub (i354 : Int) y412)).bind fun y421 => (idx l380 y421).bind fun y423 => some (.nx (List.set l380 ((y421).toNat) true)) else some (.nx l380))
def piles_Table_b4 (i354 : Nat) (l380 : (List Bool)) : (List Int) → Option (Fl ((List Int) × Int) (List Int) (List Int)) := fun l444 => (idx l444 (i354 : Int)).bind fun y483 => (idx l380 y483).bind fun y485 => (if y485 then (idx l444 (i354 : Int)).bind fun y492 => (idx l444 (i354 : Int)).bind fun y494 => some (.nx (List.set l444 i354 (wadd y492 (1 : Int)))) else some (.br l444))
def piles_Table_b2 (x1 : (List Int)) (i354 : Nat) : (List Int) → Option (Fl ((List Int) × Int) (List Int) (List Int)) := fun l211 => bindF (ρ := (List Int) × Int) (β := (List Int)) (σ := (List Bool)) (rangeL (γ := (List Int)) (piles_Table_b3 i354 l211) x1 0 (List.replicate 7 false)) fun l380 => bindF (ρ := (List Int) × Int) (β := (List Int)) (σ := (List Int)) (loopM (γ := (List Int)) (piles_Table_b4 i354 l380) 1048576 l211) fun l444 => some (.nx l444)
def piles_Table_m (x0 : Int) (x1 : (List Int)) : Option ((List Int) × Int) := bindR (ρ := (List Int) × Int) (β := Unit) (σ := Bool) (if decide (x0 < (0 : Int)) then some (.nx true) else some (.nx (decide (x0 > (40 : Int))))) fun x3 => (if x3 then some ([], (1 : Int)) else (if decide (((x1).length : Int) > (6 : Int)) then some ([], (2 : Int)) else bindR (ρ := (List Int) × Int) (β := Unit) (σ := Unit) (rangeL (γ := Unit) piles_Table_b1 x1 0 ()) fun _ => (chk (0 ≤ (wadd x0 (1 : Int)) ∧ (wadd x0 (1 : Int)) ≤ 68719476736)).bind fun _ => bindR (ρ := (List Int) × Int) (β := Unit) (σ := (List Int)) (rangeN (γ := Unit) (piles_Table_b2 x1) ((List.replicate (wadd x0 (1 : Int)).toNat (0 : Int))).length 0 (List.replicate (wadd x0 (1 : Int)).toNat (0 : Int))) fun l211 => some (l211, (0 : Int))))

/-- feathermark/plumekeep.PilesNim -/
def pk_PilesNim_b1 (i30 : Nat) : (List Int) → Option (Fl Bool (List Int) (List Int)) := fun l10 => (chk ((l10).length + (([wadd (i30 : Int) (1 : Int)] : (List Int))).length ≤ 68719476736)).bind fun _ => some (.nx (l10 ++ ([wadd (i30 : Int) (1 : Int)] : (List Int))))
def pk_PilesNim_b2 (y54 : (List Int) × Int) (i70 : Nat) : Unit → Option (Fl Bool Unit Unit) := fun _ => (idx y54.1 (i70 : Int)).bind fun y83 => (if y83 != (i70 : Int) then some (.rt false) else some (.nx ()))
def pk_PilesNim_b3 (y91 : (List Int) × Int) (y8 : Int) (i137 : Nat) : Unit → Option (Fl Bool Unit Unit) := fun _ => (idx y91.1 (i137 : Int)).bind fun y150 => (chk ((wadd y8 (1 : Int)) ≠ 0)).bind fun _ => (if y150 != (Int.tmod (i137 : Int) (wadd y8 (1 : Int))) then some (.rt false) else some (.nx ()))
def pk_PilesNim_m (x0 : Int) : Option Bool := (pk_nims_m).bind fun y3 => (if !y3 then some false else (pk_Within_m x0 (7 : Int)).bind fun y8 => (chk (y8 ≤ 9223372036854775807)).bind fun _ => bindR (ρ := Bool) (β := Unit) (σ := (List Int)) (rangeN (γ := Unit) pk_PilesNim_b1 (y8).toNat 0 ([])) fun l10 => (piles_Table_m y8 l10).bind fun y54 => bindR (ρ := Bool) (β := Unit) (σ := Unit) (rangeN (γ := Unit) (pk_PilesNim_b2 y54) (y54.1).length 0 ()) fun _ => (piles_Table_m (40 : Int) l10).bind fun y91 => bindR (ρ := Bool) (β := Unit) (σ := Bool) ((pk_good_m ([y54.2, y91.2] : (List Int))).bind fun y113 => (if !y113 then some (.nx true) else (if ((y54.1).length : Int) != (wadd y8 (1 : Int)) then some (.nx true) else some (.nx (((y91.1).length : Int) != (41 : Int)))))) fun x104 => (if x104 then some false else bindR (ρ := Bool) (β := Unit) (σ := Unit) (rangeN (γ := Unit) (pk_PilesNim_b3 y91 y8) (y91.1).length 0 ()) fun _ => some true))
end Go.Mo
