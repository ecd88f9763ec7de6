/- The meaning of each function, as a plain function; printed by a program of this repository. -/
import Derived.Test.YtbkginapdldffaaFwH
namespace Go.Mo
open Go.Fw
set_option linter.unusedVariables false

/-- feathermark/piles.Check -/
def piles_Check_b1 (i29 : Nat) (y39 : Int) : Unit → Option (Fl Int Unit Unit) := fun _ => bindF (ρ := Int) (β := Unit) (σ := Bool) (if decide (y39 < (0 : Int)) then some (.nx true) else some (.nx (decide (y39 > (40 : Int))))) fun x45 => (if x45 then some (.rt (1 : Int)) else some (.nx ()))
def piles_Check_m (x0 : (List Int)) : Option Int := (if decide (((x0).length : Int) > (6 : Int)) then some (2 : Int) else bindR (ρ := Int) (β := Unit) (σ := Unit) (rangeL (γ := Unit) piles_Check_b1 x0 0 ()) fun _ => some (0 : Int))

/-- feathermark/piles.Move -/
def piles_Move_b1 (i20 : Nat) (y30 : Int) : Int → Option (Fl (Int × Int × Int) Int Int) := fun x7 => some (.nx (bits .xor .i64 x7 y30))
def piles_Move_b2 (x7 : Int) (i49 : Nat) (y59 : Int) : Unit → Option (Fl (Int × Int × Int) Unit Unit) := fun _ => (if decide ((bits .xor .i64 y59 x7) < y59) then some (.rt ((i49 : Int), wsub y59 (bits .xor .i64 y59 x7), (0 : Int))) else some (.nx ()))
def piles_Move_m (x0 : (List Int)) : Option (Int × Int × Int) := (piles_Check_m x0).bind fun y4 => (if y4 != (0 : Int) then some ((0 : Int), (0 : Int), y4) else bindR (ρ := Int × Int × Int) (β := Unit) (σ := Int) (rangeL (γ := Unit) piles_Move_b1 x0 0 (0 : Int)) fun x7 => bindR (ρ := Int × Int × Int) (β := Unit) (σ := Unit) (rangeL (γ := Unit) (piles_Move_b2 x7) x0 0 ()) fun _ => some ((0 : Int), (0 : Int), (4 : Int)))

/-- feathermark/piles.Wins -/
def piles_Wins_b1 (i20 : Nat) (y30 : Int) : Int → Option (Fl (Bool × Int) Int Int) := fun x7 => some (.nx (bits .xor .i64 x7 y30))
def piles_Wins_m (x0 : (List Int)) : Option (Bool × Int) := (piles_Check_m x0).bind fun y4 => (if y4 != (0 : Int) then some (false, y4) else bindR (ρ := Bool × Int) (β := Unit) (σ := Int) (rangeL (γ := Unit) piles_Wins_b1 x0 0 (0 : Int)) fun x7 => some (x7 != (0 : Int), (0 : Int)))

/-- slices.IndexFunc[[]feathermark/api.Errno,feathermark/api.Errno] -/
def slices_IndexFunc_api_Errno_api_Errno_b1 (g1 : Int → Option Bool) (i20 : Nat) (y30 : Int) : Unit → Option (Fl Int Unit Unit) := fun _ => (g1 y30).bind fun y36 => (if y36 then some (.rt (i20 : Int)) else some (.nx ()))
def slices_IndexFunc_api_Errno_api_Errno_m (x0 : (List Int)) (g1 : Int → Option Bool) : Option Int := bindR (ρ := Int) (β := Unit) (σ := Unit) (rangeL (γ := Unit) (slices_IndexFunc_api_Errno_api_Errno_b1 g1) x0 0 ()) fun _ => some (-1 : Int)

/-- slices.ContainsFunc[[]feathermark/api.Errno,feathermark/api.Errno] -/
def slices_ContainsFunc_api_Errno_api_Errno_m (x0 : (List Int)) (g1 : Int → Option Bool) : Option Bool := (slices_IndexFunc_api_Errno_api_Errno_m x0 g1).bind fun y5 => some (decide (y5 ≥ (0 : Int)))

/-- feathermark/plumekeep.good$1 -/
def pk_good_1_m (x0 : Int) : Option Bool := some (x0 != (0 : Int))

/-- feathermark/plumekeep.good -/
def pk_good_m (x0 : (List Int)) : Option Bool := (slices_ContainsFunc_api_Errno_api_Errno_m x0 (fun a0 => pk_good_1_m a0)).bind fun y4 => some (!y4)

/-- feathermark/plumekeep.nims -/
def pk_nims_m : Option Bool := (piles_Move_m ([(1 : Int), (2 : Int), (4 : Int)] : (List Int))).bind fun y5 => (piles_Wins_m ([(1 : Int), (2 : Int), (3 : Int)] : (List Int))).bind fun y11 => bindR (ρ := Bool) (β := Unit) (σ := Bool) ((pk_good_m ([y5.2.2, y11.2] : (List Int))).bind fun y34 => (if y34 then (if y5.1 == (2 : Int) then (if y5.2.1 == (1 : Int) then some (.nx (!y11.1)) else some (.nx false)) else some (.nx false)) else some (.nx false))) fun x25 => some x25

/-- feathermark/plumeref.Rest -/
def ref_Rest_m (x0 : Int) (x1 : Int) : Option Int := (chk (x1 ≠ 0)).bind fun _ => bindR (ρ := Int) (β := Unit) (σ := Int) (if decide ((Int.tmod x0 x1) < (0 : Int)) then some (.nx (wadd (Int.tmod x0 x1) x1)) else some (.nx (Int.tmod x0 x1))) fun x8 => some x8

/-- feathermark/plumekeep.Within -/
def pk_Within_m (x0 : Int) (x1 : Int) : Option Int := (ref_Rest_m x0 x1).bind fun y5 => some y5

/-- feathermark/piles.Table -/
def piles_Table_b1 (i44 : Nat) (y54 : Int) : Unit → Option (Fl ((List Int) × Int) Unit Unit) := fun _ => bindF (ρ := (List Int) × Int) (β := Unit) (σ := Bool) (if decide (y54 < (1 : Int)) then some (.nx true) else some (.nx (decide (y54 > (40 : Int))))) fun x60 => (if x60 then some (.rt ([], (3 : Int))) else some (.nx ()))
def piles_Table_b3 (i356 : Nat) (l213 : (List Int)) (i404 : Nat) (y414 : Int) : (List Bool) → Option (Fl ((List Int) × Int) (List Bool) (List Bool)) := fun l382 => (if decide (y414 ≤ (i356 : Int)) then (idx l213 (wsub (i356 : Int) y414)).bind fun y423 => (idx l382 y423).bind fun y425 => some (.nx (List.set l382 ((y423).toNat) true)) else some (.nx l382))
def piles_Table_b4 (i356 : Nat) (l382 : (List Bool)) : (List Int) → Option (Fl ((List Int) × Int) (List Int) (List Int)) := fun l446 => (idx l446 (i356 : Int)).bind fun y485 => (idx l382 y485).bind fun y487 => (if y487 then (idx l446 (i356 : Int)).bind fun y494 => (idx l446 (i356 : Int)).bind fun y496 => some (.nx (List.set l446 i356 (wadd y494 (1 : Int)))) else some (.br l446))
def piles_Table_b2 (x1 : (List Int)) (i356 : Nat) : (List Int) → Option (Fl ((List Int) × Int) (List Int) (List Int)) := fun l213 => bindF (ρ := (List Int) × Int) (β := (List Int)) (σ := (List Bool)) (rangeL (γ := (List Int)) (piles_Table_b3 i356 l213) x1 0 (List.replicate 7 false)) fun l382 => bindF (ρ := (List Int) × Int) (β := (List Int)) (σ := (List Int)) (loopM (γ := (List Int)) (piles_Table_b4 i356 l382) 1048576 l213) fun l446 => some (.nx l446)
def piles_Table_m (x0 : Int) (x1 : (List Int)) : Option ((List Int) × Int) := bindR (ρ := (List Int) × Int) (β := Unit) (σ := Bool) (if decide (x0 < (0 : Int)) then some (.nx true) else some (.nx (decide (x0 > (40 : Int))))) fun x5 => (if x5 then some ([], (1 : Int)) else (if decide (((x1).length : Int) > (6 : Int)) then some ([], (2 : Int)) else bindR (ρ := (List Int) × Int) (β := Unit) (σ := Unit) (rangeL (γ := Unit) piles_Table_b1 x1 0 ()) fun _ => (chk (0 ≤ (wadd x0 (1 : Int)) ∧ (wadd x0 (1 : Int)) ≤ 68719476736)).bind fun _ => bindR (ρ := (List Int) × Int) (β := Unit) (σ := (List Int)) (rangeN (γ := Unit) (piles_Table_b2 x1) ((List.replicate (wadd x0 (1 : Int)).toNat (0 : Int))).length 0 (List.replicate (wadd x0 (1 : Int)).toNat (0 : Int))) fun l213 => some (l213, (0 : Int))))

/-- feathermark/plumekeep.PilesSum -/
def pk_PilesSum_b1 (i49 : Nat) (y59 : Int) : (List Int) → Option (Fl Bool (List Int) (List Int)) := fun l23 => (pk_Within_m y59 (8 : Int)).bind fun y69 => (chk ((l23).length + (([wadd (1 : Int) y69] : (List Int))).length ≤ 68719476736)).bind fun _ => some (.nx (l23 ++ ([wadd (1 : Int) y69] : (List Int))))
def pk_PilesSum_b4 (x828 : Int) (x1810 : Int) (i2214 : Nat) (y2224 : Int) : (List (List Bool)) → Option (Fl Bool (List (List Bool)) (List (List Bool))) := fun l2134 => bindF (ρ := Bool) (β := (List (List Bool))) (σ := Bool) (if decide (y2224 ≤ x828) then (idx l2134 (wsub x828 y2224)).bind fun y2269 => (idx y2269 x1810).bind fun y2271 => (if !y2271 then some (.nx true) else (if decide (y2224 ≤ x1810) then (idx l2134 x828).bind fun y2275 => (idx y2275 (wsub x1810 y2224)).bind fun y2277 => some (.nx (!y2277)) else some (.nx false))) else (if decide (y2224 ≤ x1810) then (idx l2134 x828).bind fun y2280 => (idx y2280 (wsub x1810 y2224)).bind fun y2282 => some (.nx (!y2282)) else some (.nx false))) fun x2260 => (if x2260 then (idx l2134 x828).bind fun y2291 => (idx y2291 x1810).bind fun y2293 => some (.nx (List.set l2134 ((x828).toNat) (List.set y2291 ((x1810).toNat) true))) else some (.nx l2134))
def pk_PilesSum_b3 (x828 : Int) (l23 : (List Int)) : (List (List Bool)) × Int → Option (Fl Bool ((List (List Bool)) × Int) ((List (List Bool)) × Int)) := fun (l1809, x1810) => (if decide (x1810 < (9 : Int)) then bindF (ρ := Bool) (β := (List (List Bool)) × Int) (σ := (List (List Bool))) (rangeL (γ := ((List (List Bool)) × Int)) (pk_PilesSum_b4 x828 x1810) l23 0 l1809) fun l2134 => some (.nx (l2134, wadd x1810 (1 : Int))) else some (.br (l1809, x1810)))
def pk_PilesSum_b2 (l23 : (List Int)) : (List (List Bool)) × Int → Option (Fl Bool ((List (List Bool)) × Int) ((List (List Bool)) × Int)) := fun (l827, x828) => (if decide (x828 < (9 : Int)) then bindF (ρ := Bool) (β := (List (List Bool)) × Int) (σ := (List (List Bool)) × Int) (loopM (γ := ((List (List Bool)) × Int)) (pk_PilesSum_b3 x828 l23) 1048576 (l827, (0 : Int))) fun (l1809, x1810) => some (.nx (l1809, wadd x828 (1 : Int))) else some (.br (l827, x828)))
def pk_PilesSum_m (x0 : Int) (x1 : Int) (x2 : (List Int)) : Option Bool := (pk_nims_m).bind fun y6 => (if !y6 then some false else (pk_Within_m x0 (9 : Int)).bind fun y13 => (pk_Within_m x1 (9 : Int)).bind fun y15 => (chk ((if (6 : Int) < ((x2).length : Int) then (6 : Int) else ((x2).length : Int)) ≤ (x2).length ∧ 0 ≤ (if (6 : Int) < ((x2).length : Int) then (6 : Int) else ((x2).length : Int)))).bind fun _ => bindR (ρ := Bool) (β := Unit) (σ := (List Int)) (rangeL (γ := Unit) pk_PilesSum_b1 ((List.take ((if (6 : Int) < ((x2).length : Int) then (6 : Int) else ((x2).length : Int)).toNat) x2).drop 0) 0 ([])) fun l23 => (piles_Table_m (8 : Int) l23).bind fun y80 => bindR (ρ := Bool) (β := Unit) (σ := Bool) (if y80.2 != (0 : Int) then some (.nx true) else some (.nx (((y80.1).length : Int) != (9 : Int)))) fun x85 => (if x85 then some false else bindR (ρ := Bool) (β := Unit) (σ := (List (List Bool)) × Int) (loopM (γ := Unit) (pk_PilesSum_b2 l23) 1048576 ((List.replicate 9 (List.replicate 9 false)), (0 : Int))) fun (l827, x828) => (idx l827 y13).bind fun y2309 => (idx y2309 y15).bind fun y2311 => (idx y80.1 y13).bind fun y2313 => (idx y80.1 y15).bind fun y2315 => some (y2311 == (y2313 != y2315))))
end Go.Mo
