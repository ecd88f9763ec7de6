/- The meaning of each function, as a plain function; printed by a program of this repository. -/
import Derived.Test.YtbkginapdldffaaFwH
namespace Go.Mo
open Go.Fw
set_option linter.unusedVariables false

/-- feathermark/piles.Check -/
def piles_Check_b1 (i29 : Nat) (y39 : Int) : Unit → Option (Fl Int Unit Unit) := fun _ => bindF (ρ := Int) (β := Unit) (σ := Bool) (if decide (y39 < (0 : Int)) then some (.nx true) else some (.nx (decide (y39 > (40 : Int))))) fun x45 => (if x45 then some (.rt (1 : Int)) else some (.nx ()))
def piles_Check_m (x0 : (List Int)) : Option Int := (if decide (((x0).length : Int) > (6 : Int)) then some (2 : Int) else bindR (ρ := Int) (β := Unit) (σ := Unit) (rangeL (γ := Unit) piles_Check_b1 x0 0 ()) fun _ => some (0 : Int))

/-- feathermark/piles.Move -/
def piles_Move_b1 (i20 : Nat) (y30 : Int) : Int → Option (Fl (Int × Int × Int) Int Int) := fun x7 => some (.nx (bits .xor .i64 x7 y30))
def piles_Move_b2 (x7 : Int) (i49 : Nat) (y59 : Int) : Unit → Option (Fl (Int × Int × Int) Unit Unit) := fun _ => (if decide ((bits .xor .i64 y59 x7) < y59) then some (.rt ((i49 : Int), wsub y59 (bits .xor .i64 y59 x7), (0 : Int))) else some (.nx ()))
def piles_Move_m (x0 : (List Int)) : Option (Int × Int × Int) := (piles_Check_m x0).bind fun y4 => (if y4 != (0 : Int) then some ((0 : Int), (0 : Int), y4) else bindR (ρ := Int × Int × Int) (β := Unit) (σ := Int) (rangeL (γ := Unit) piles_Move_b1 x0 0 (0 : Int)) fun x7 => bindR (ρ := Int × Int × Int) (β := Unit) (σ := Unit) (rangeL (γ := Unit) (piles_Move_b2 x7) x0 0 ()) fun _ => some ((0 : Int), (0 : Int), (4 : Int)))

/-- feathermark/piles.Wins -/
def piles_Wins_b1 (i20 : Nat) (y30 : Int) : Int → Option (Fl (Bool × Int) Int Int) := fun x7 => some (.nx (bits .xor .i64 x7 y30))
def piles_Wins_m (x0 : (List Int)) : Option (Bool × Int) := (piles_Check_m x0).bind fun y4 => (if y4 != (0 : Int) then some (false, y4) else bindR (ρ := Bool × Int) (β := Unit) (σ := Int) (rangeL (γ := Unit) piles_Wins_b1 x0 0 (0 : Int)) fun x7 => some (x7 != (0 : Int), (0 : Int)))

/-- slices.IndexFunc[[]feathermark/api.Errno,feathermark/api.Errno] -/
def slices_IndexFunc_api_Errno_api_Errno_b1 (g1 : Int → Option Bool) (i20 : Nat) (y30 : Int) : Unit → Option (Fl Int Unit Unit) := fun _ => (g1 y30).bind fun y36 => (if y36 then some (.rt (i20 : Int)) else some (.nx ()))
def slices_IndexFunc_api_Errno_api_Errno_m (x0 : (List Int)) (g1 : Int → Option Bool) : Option Int := bindR (ρ := Int) (β := Unit) (σ := Unit) (rangeL (γ := Unit) (slices_IndexFunc_api_Errno_api_Errno_b1 g1) x0 0 ()) fun _ => some (-1 : Int)

/-- slices.ContainsFunc[[]feathermark/api.Errno,feathermark/api.Errno] -/
def slices_ContainsFunc_api_Errno_api_Errno_m (x0 : (List Int)) (g1 : Int → Option Bool) : Option Bool := (slices_IndexFunc_api_Errno_api_Errno_m x0 g1).bind fun y5 => some (decide (y5 ≥ (0 : Int)))

/-- feathermark/plumekeep.good$1 -/
def pk_good_1_m (x0 : Int) : Option Bool := some (x0 != (0 : Int))

/-- feathermark/plumekeep.good -/
def pk_good_m (x0 : (List Int)) : Option Bool := (slices_ContainsFunc_api_Errno_api_Errno_m x0 (fun a0 => pk_good_1_m a0)).bind fun y4 => some (!y4)

/-- feathermark/plumekeep.nims -/
def pk_nims_m : Option Bool := (piles_Move_m ([(1 : Int), (2 : Int), (4 : Int)] : (List Int))).bind fun y5 => (piles_Wins_m ([(1 : Int), (2 : Int), (3 : Int)] : (List Int))).bind fun y11 => bindR (ρ := Bool) (β := Unit) (σ := Bool) ((pk_good_m ([y5.2.2, y11.2] : (List Int))).bind fun y34 => (if y34 then (if y5.1 == (2 : Int) then (if y5.2.1 == (1 : Int) then some (.nx (!y11.1)) else some (.nx false)) else some (.nx false)) else some (.nx false))) fun x25 => some x25

/-- feathermark/plumeref.Rest -/
def ref_Rest_m (x0 : Int) (x1 : Int) : Option Int := (chk (x1 ≠ 0)).bind fun _ => bindR (ρ := Int) (β := Unit) (σ := Int) (if decide ((Int.tmod x0 x1) < (0 : Int)) then some (.nx (wadd (Int.tmod x0 x1) x1)) else some (.nx (Int.tmod x0 x1))) fun x8 => some x8

/-- feathermark/plumekeep.Within -/
def pk_Within_m (x0 : Int) (x1 : Int) : Option Int := (ref_Rest_m x0 x1).bind fun y5 => some y5

/-- feathermark/plumekeep.PilesOf -/
def pk_PilesOf_b1 (i34 : Nat) (y44 : Int) : (List Int) → Option (Fl (List Int) (List Int) (List Int)) := fun l8 => (pk_Within_m y44 (41 : Int)).bind fun y54 => (chk ((l8).length + (([y54] : (List Int))).length ≤ 68719476736)).bind fun _ => some (.nx (l8 ++ ([y54] : (List Int))))
def pk_PilesOf_m (x0 : (List Int)) : Option (List Int) := (chk ((if (6 : Int) < ((x0).length : Int) then (6 : Int) else ((x0).length : Int)) ≤ (x0).length ∧ 0 ≤ (if (6 : Int) < ((x0).length : Int) then (6 : Int) else ((x0).length : Int)))).bind fun _ => bindR (ρ := (List Int)) (β := Unit) (σ := (List Int)) (rangeL (γ := Unit) pk_PilesOf_b1 ((List.take ((if (6 : Int) < ((x0).length : Int) then (6 : Int) else ((x0).length : Int)).toNat) x0).drop 0) 0 ([])) fun l8 => some l8

/-- slices.Clone[[]int,int] -/
def slices_Clone_int_int_m (x0 : List Int) : Option (List Int) := (chk (x0.length ≤ 68719476736)).bind fun _ => some x0

/-- feathermark/plumekeep.PilesBouton -/
def pk_PilesBouton_b2 (y385 : Int) (y10 : (List Int)) (i375 : Nat) (y15 : Bool × Int) (y19 : Int × Int × Int) : Int → Option (Fl Bool Int Int) := fun x389 => (if decide (x389 ≤ y385) then (slices_Clone_int_int_m y10).bind fun y467 => (idx y467 (i375 : Int)).bind fun y474 => (idx y467 (i375 : Int)).bind fun y476 => (piles_Wins_m (List.set y467 i375 (wsub y474 x389))).bind fun y480 => bindF (ρ := Bool) (β := Int) (σ := Bool) (if y480.2 != (0 : Int) then some (.nx true) else (if !y15.1 then (if !y480.1 then some (.nx true) else (if y19.2.2 == (0 : Int) then (if (i375 : Int) == y19.1 then (if x389 == y19.2.1 then some (.nx y480.1) else some (.nx false)) else some (.nx false)) else some (.nx false))) else (if y19.2.2 == (0 : Int) then (if (i375 : Int) == y19.1 then (if x389 == y19.2.1 then some (.nx y480.1) else some (.nx false)) else some (.nx false)) else some (.nx false)))) fun x500 => (if x500 then some (.rt false) else some (.nx (wadd x389 (1 : Int)))) else some (.br x389))
def pk_PilesBouton_b1 (y10 : (List Int)) (y15 : Bool × Int) (y19 : Int × Int × Int) (i375 : Nat) (y385 : Int) : Unit → Option (Fl Bool Unit Unit) := fun _ => bindF (ρ := Bool) (β := Unit) (σ := Int) (loopM (γ := Unit) (pk_PilesBouton_b2 y385 y10 i375 y15 y19) 1048576 (1 : Int)) fun x389 => some (.nx ())
def pk_PilesBouton_m (x0 : (List Int)) : Option Bool := (pk_nims_m).bind fun y4 => (if !y4 then some false else (pk_PilesOf_m x0).bind fun y10 => (piles_Wins_m y10).bind fun y15 => (piles_Move_m y10).bind fun y19 => bindR (ρ := Bool) (β := Unit) (σ := Bool) (if y15.2 != (0 : Int) then some (.nx true) else some (.nx (!(y15.1 == (y19.2.2 == (0 : Int)))))) fun x23 => (if x23 then some false else bindR (ρ := Bool) (β := Unit) (σ := Unit) (rangeL (γ := Unit) (pk_PilesBouton_b1 y10 y15 y19) y10 0 ()) fun _ => bindR (ρ := Bool) (β := Unit) (σ := Bool) (if !y15.1 then some (.nx true) else (if decide (y19.1 ≥ (0 : Int)) then (if decide (y19.1 < ((y10).length : Int)) then (if decide (y19.2.1 ≥ (1 : Int)) then (idx y10 y19.1).bind fun y548 => some (.nx (decide (y19.2.1 ≤ y548))) else some (.nx false)) else some (.nx false)) else some (.nx false))) fun x536 => some x536))
end Go.Mo
