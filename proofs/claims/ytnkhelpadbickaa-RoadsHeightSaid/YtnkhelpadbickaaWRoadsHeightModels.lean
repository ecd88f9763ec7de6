/- The meaning of each function, as a plain function; printed by a program of this repository. -/
import Derived.Test.YtnkhelpadbickaaFwI
namespace Go.Mo
open Go.Fw
set_option linter.unusedVariables false

/-- feathermark/roads.Check -/
def roads_Check_b2 (y153 : (List Int)) (i215 : Nat) (y225 : Int) : Unit → Option (Fl Int Unit Unit) := fun _ => bindF (ρ := Int) (β := Unit) (σ := Bool) (if decide (y225 < (0 : Int)) then some (.nx true) else some (.nx (decide (y225 > (100 : Int))))) fun x231 => (if x231 then some (.rt (1 : Int)) else bindF (ρ := Int) (β := Unit) (σ := Bool) (if decide ((i215 : Int) > (0 : Int)) then (idx y153 (wsub (i215 : Int) (1 : Int))).bind fun y261 => some (.nx (decide (y225 < y261))) else some (.nx false)) fun x251 => (if x251 then some (.rt (3 : Int)) else some (.nx ())))
def roads_Check_b1 (x1 : (List Int)) (i143 : Nat) (y153 : (List Int)) : Unit → Option (Fl Int Unit Unit) := fun _ => (if ((y153).length : Int) != ((x1).length : Int) then some (.rt (3 : Int)) else bindF (ρ := Int) (β := Unit) (σ := Unit) (rangeL (γ := Unit) (roads_Check_b2 y153) y153 0 ()) fun _ => some (.nx ()))
def roads_Check_b3 (x0 : (List (List Int))) (i296 : Nat) (y306 : Int) : Unit → Option (Fl Int Unit Unit) := fun _ => bindF (ρ := Int) (β := Unit) (σ := Bool) (if decide (y306 < (0 : Int)) then some (.nx true) else some (.nx (decide (y306 ≥ ((x0).length : Int))))) fun x312 => (if x312 then some (.rt (4 : Int)) else some (.nx ()))
def roads_Check_m (x0 : (List (List Int))) (x1 : (List Int)) : Option Int := bindR (ρ := Int) (β := Unit) (σ := Bool) (if decide (((x0).length : Int) < (1 : Int)) then some (.nx true) else (if decide (((x0).length : Int) > (4 : Int)) then some (.nx true) else some (.nx (decide (((x1).length : Int) > (6 : Int)))))) fun x7 => (if x7 then some (2 : Int) else bindR (ρ := Int) (β := Unit) (σ := Unit) (rangeL (γ := Unit) (roads_Check_b1 x1) x0 0 ()) fun _ => bindR (ρ := Int) (β := Unit) (σ := Unit) (rangeL (γ := Unit) (roads_Check_b3 x0) x1 0 ()) fun _ => some (0 : Int))

/-- slices.Clone[[]int,int] -/
def slices_Clone_int_int_m (x0 : List Int) : Option (List Int) := (chk (x0.length ≤ 68719476736)).bind fun _ => some x0

/-- feathermark/roads.load -/
def roads_load_b1 (i43 : Nat) (y53 : Int) : (List Int) → Option (Fl (List Int) (List Int) (List Int)) := fun l21 => (idx l21 y53).bind fun y61 => (idx l21 y53).bind fun y63 => some (.nx (List.set l21 ((y53).toNat) (wadd y61 (1 : Int))))
def roads_load_m (x0 : (List (List Int))) (x1 : (List Int)) : Option (List Int) := (chk (0 ≤ ((x0).length : Int) ∧ ((x0).length : Int) ≤ 68719476736)).bind fun _ => bindR (ρ := (List Int)) (β := Unit) (σ := (List Int)) (rangeL (γ := Unit) roads_load_b1 x1 0 (List.replicate (((x0).length : Int)).toNat (0 : Int))) fun l21 => some l21

/-- feathermark/roads.Better -/
def roads_Better_b1 (x1 : (List Int)) (x2 : Int) (y26 : (List Int)) (i110 : Nat) (y120 : (List Int)) : Int × Int → Option (Fl (Int × Int) (Int × Int) (Int × Int)) := fun (x47, x48) => bindF (ρ := Int × Int) (β := Int × Int) (σ := Bool) ((idx x1 x2).bind fun y152 => (if (i110 : Int) != y152 then (idx y26 (i110 : Int)).bind fun y156 => (idx y120 y156).bind fun y158 => some (.nx (decide (y158 < x48))) else some (.nx false))) fun x144 => (if x144 then (idx y26 (i110 : Int)).bind fun y169 => (idx y120 y169).bind fun y171 => some (.nx ((i110 : Int), y171)) else some (.nx (x47, x48)))
def roads_Better_m (x0 : (List (List Int))) (x1 : (List Int)) (x2 : Int) : Option (Int × Int) := (roads_Check_m x0 x1).bind fun y6 => (if y6 != (0 : Int) then some ((0 : Int), y6) else bindR (ρ := Int × Int) (β := Unit) (σ := Bool) (if decide (x2 < (0 : Int)) then some (.nx true) else some (.nx (decide (x2 ≥ ((x1).length : Int))))) fun x11 => (if x11 then some ((0 : Int), (1 : Int)) else (roads_load_m x0 x1).bind fun y26 => (idx x1 x2).bind fun y31 => (idx x0 y31).bind fun y40 => (idx y26 y31).bind fun y43 => (idx y40 (wsub y43 (1 : Int))).bind fun y45 => bindR (ρ := Int × Int) (β := Unit) (σ := Int × Int) (rangeL (γ := Unit) (roads_Better_b1 x1 x2 y26) x0 0 (y31, y45)) fun (x47, x48) => some (x47, (0 : Int))))

/-- feathermark/roads.Settle -/
def roads_Settle_b1 (x0 : (List (List Int))) : (List Int) × Int × Int → Option (Fl ((List Int) × Int × Int) ((List Int) × Int × Int) ((List Int) × Int × Int)) := fun (l30, x32, x33) => (if decide (x33 < ((l30).length : Int)) then (roads_Better_m x0 l30 x33).bind fun y67 => (idx l30 x33).bind fun y71 => (if y67.1 != y71 then (idx l30 x33).bind fun y76 => some (.nx ((List.set l30 ((x33).toNat) y67.1), wadd x32 (1 : Int), wadd (-1 : Int) (1 : Int))) else some (.nx (l30, x32, wadd x33 (1 : Int)))) else some (.br (l30, x32, x33)))
def roads_Settle_m (x0 : (List (List Int))) (x1 : (List Int)) : Option ((List Int) × Int × Int) := (roads_Check_m x0 x1).bind fun y5 => (if y5 != (0 : Int) then some ([], (0 : Int), y5) else (slices_Clone_int_int_m x1).bind fun y11 => bindR (ρ := (List Int) × Int × Int) (β := Unit) (σ := (List Int) × Int × Int) (loopM (γ := Unit) (roads_Settle_b1 x0) 1048576 (y11, (0 : Int), (0 : Int))) fun (l30, x32, x33) => some (l30, x32, (0 : Int)))

/-- slices.Equal[[]int,int] -/
def slices_Equal_int_int_b1 (x1 : (List Int)) (i21 : Nat) (y31 : Int) : Unit → Option (Fl Bool Unit Unit) := fun _ => (idx x1 (i21 : Int)).bind fun y37 => (if y31 != y37 then some (.rt false) else some (.nx ()))
def slices_Equal_int_int_m (x0 : (List Int)) (x1 : (List Int)) : Option Bool := (if ((x0).length : Int) != ((x1).length : Int) then some false else bindR (ρ := Bool) (β := Unit) (σ := Unit) (rangeL (γ := Unit) (slices_Equal_int_int_b1 x1) x0 0 ()) fun _ => some true)

/-- feathermark/plumekeep.crowds -/
def pk_crowds_m : Option Bool := (roads_Settle_m ([([(1 : Int), (3 : Int)] : (List Int)), ([(2 : Int), (2 : Int)] : (List Int))] : (List (List Int))) ([(0 : Int), (0 : Int)] : (List Int))).bind fun y16 => bindR (ρ := Bool) (β := Unit) (σ := Bool) (if y16.2.2 == (0 : Int) then (if y16.2.1 == (1 : Int) then (slices_Equal_int_int_m y16.1 ([(1 : Int), (0 : Int)] : (List Int))).bind fun y40 => some (.nx y40) else some (.nx false)) else some (.nx false)) fun x29 => some x29

/-- feathermark/roads.Height -/
def roads_Height_b2 (i108 : Nat) (y118 : Int) : Int → Option (Fl (Int × Int) Int Int) := fun x95 => some (.nx (wadd x95 y118))
def roads_Height_b1 (y11 : (List Int)) (x0 : (List (List Int))) (i68 : Nat) : Int → Option (Fl (Int × Int) Int Int) := fun x14 => (idx y11 (i68 : Int)).bind fun y81 => (idx x0 (i68 : Int)).bind fun y89 => (chk (y81 ≤ (y89).length ∧ 0 ≤ y81)).bind fun _ => bindF (ρ := Int × Int) (β := Int) (σ := Int) (rangeL (γ := Int) roads_Height_b2 ((List.take ((y81).toNat) y89).drop 0) 0 x14) fun x95 => some (.nx x95)
def roads_Height_m (x0 : (List (List Int))) (x1 : (List Int)) : Option (Int × Int) := (roads_Check_m x0 x1).bind fun y5 => (if y5 != (0 : Int) then some ((0 : Int), y5) else (roads_load_m x0 x1).bind fun y11 => bindR (ρ := Int × Int) (β := Unit) (σ := Int) (rangeN (γ := Unit) (roads_Height_b1 y11 x0) (y11).length 0 (0 : Int)) fun x14 => some (x14, (0 : Int)))

/-- feathermark/roads.Costs -/
def roads_Costs_b1 (x0 : (List (List Int))) (y11 : (List Int)) (i74 : Nat) (y84 : Int) : (List Int) → Option (Fl ((List Int) × Int) (List Int) (List Int)) := fun l42 => (idx x0 y84).bind fun y97 => (idx y11 y84).bind fun y100 => (idx y97 (wsub y100 (1 : Int))).bind fun y102 => (idx l42 (i74 : Int)).bind fun y104 => some (.nx (List.set l42 i74 y102))
def roads_Costs_m (x0 : (List (List Int))) (x1 : (List Int)) : Option ((List Int) × Int) := (roads_Check_m x0 x1).bind fun y5 => (if y5 != (0 : Int) then some ([], y5) else (roads_load_m x0 x1).bind fun y11 => (chk (0 ≤ ((x1).length : Int) ∧ ((x1).length : Int) ≤ 68719476736)).bind fun _ => bindR (ρ := (List Int) × Int) (β := Unit) (σ := (List Int)) (rangeL (γ := Unit) (roads_Costs_b1 x0 y11) x1 0 (List.replicate (((x1).length : Int)).toNat (0 : Int))) fun l42 => some (l42, (0 : Int)))

/-- feathermark/plumeref.Rest -/
def ref_Rest_m (x0 : Int) (x1 : Int) : Option Int := (chk (x1 ≠ 0)).bind fun _ => bindR (ρ := Int) (β := Unit) (σ := Int) (if decide ((Int.tmod x0 x1) < (0 : Int)) then some (.nx (wadd (Int.tmod x0 x1) x1)) else some (.nx (Int.tmod x0 x1))) fun x8 => some x8

/-- feathermark/plumekeep.Within -/
def pk_Within_m (x0 : Int) (x1 : Int) : Option Int := (ref_Rest_m x0 x1).bind fun y5 => some y5

/-- slices.IndexFunc[[]feathermark/api.Errno,feathermark/api.Errno] -/
def slices_IndexFunc_api_Errno_api_Errno_b1 (g1 : Int → Option Bool) (i20 : Nat) (y30 : Int) : Unit → Option (Fl Int Unit Unit) := fun _ => (g1 y30).bind fun y36 => (if y36 then some (.rt (i20 : Int)) else some (.nx ()))
def slices_IndexFunc_api_Errno_api_Errno_m (x0 : (List Int)) (g1 : Int → Option Bool) : Option Int := bindR (ρ := Int) (β := Unit) (σ := Unit) (rangeL (γ := Unit) (slices_IndexFunc_api_Errno_api_Errno_b1 g1) x0 0 ()) fun _ => some (-1 : Int)

/-- slices.ContainsFunc[[]feathermark/api.Errno,feathermark/api.Errno] -/
def slices_ContainsFunc_api_Errno_api_Errno_m (x0 : (List Int)) (g1 : Int → Option Bool) : Option Bool := (slices_IndexFunc_api_Errno_api_Errno_m x0 g1).bind fun y5 => some (decide (y5 ≥ (0 : Int)))

/-- feathermark/plumekeep.good$1 -/
def pk_good_1_m (x0 : Int) : Option Bool := some (x0 != (0 : Int))

/-- feathermark/plumekeep.good -/
def pk_good_m (x0 : (List Int)) : Option Bool := (slices_ContainsFunc_api_Errno_api_Errno_m x0 (fun a0 => pk_good_1_m a0)).bind fun y4 => some (!y4)

/-- feathermark/plumekeep.RoadsHeight -/
def pk_RoadsHeight_m (x0 : (List (List Int))) (x1 : (List Int)) (x2 : Int) (x3 : Int) : Option Bool := (pk_crowds_m).bind fun y7 => (if !y7 then some false else (roads_Height_m x0 x1).bind fun y12 => (roads_Costs_m x0 x1).bind fun y17 => bindR (ρ := Bool) (β := Unit) (σ := Bool) (if y12.2 != (0 : Int) then some (.nx true) else (if y17.2 != (0 : Int) then some (.nx true) else (if ((x1).length : Int) == (0 : Int) then some (.nx true) else some (.nx (((y17.1).length : Int) != ((x1).length : Int)))))) fun x26 => (if x26 then bindR (ρ := Bool) (β := Unit) (σ := Bool) (if y12.2 == y17.2 then some (.nx (y12.1 == (0 : Int))) else some (.nx false)) fun x42 => some x42 else (pk_Within_m x2 ((x1).length : Int)).bind fun y57 => (pk_Within_m x3 ((x0).length : Int)).bind fun y59 => (slices_Clone_int_int_m x1).bind fun y64 => (idx y64 y57).bind fun y69 => (roads_Height_m x0 (List.set y64 ((y57).toNat) y59)).bind fun y73 => (roads_Costs_m x0 (List.set y64 ((y57).toNat) y59)).bind fun y78 => bindR (ρ := Bool) (β := Unit) (σ := Bool) ((pk_good_m ([y73.2, y78.2] : (List Int))).bind fun y108 => (if y108 then (if ((y78.1).length : Int) == ((x1).length : Int) then (idx y78.1 y57).bind fun y112 => (idx y17.1 y57).bind fun y114 => some (.nx ((wsub y73.1 y12.1) == (wsub y112 y114))) else some (.nx false)) else some (.nx false))) fun x99 => some x99))

/- more models, of functions that this law does not call -/
def auction_Check_b1 (i30 : Nat) (y40 : Int) : Unit → Option (Fl Int Unit Unit) := fun _ => bindF (ρ := Int) (β := Unit) (σ := Bool) (if decide (y40 < (0 : Int)) then some (.nx true) else some (.nx (decide (y40 > (1000000 : Int))))) fun x46 => (if x46 then some (.rt (1 : Int)) else some (.nx ()))
def auction_Check_m (x0 : (List Int)) (x1 : Int) : Option Int := (if decide (((x0).length : Int) > (10 : Int)) then some (2 : Int) else bindR (ρ := Int) (β := Unit) (σ := Unit) (rangeL (γ := Unit) auction_Check_b1 x0 0 ()) fun _ => bindR (ρ := Int) (β := Unit) (σ := Bool) (if decide (x1 < (0 : Int)) then some (.nx true) else some (.nx (decide (x1 > (1000000 : Int))))) fun x62 => (if x62 then some (1 : Int) else some (0 : Int)))

def auction_two_b1 (x1 : Int) (x0 : (List Int)) (i39 : Nat) (y49 : Int) : Int → Option (Fl (Int × Int) Int Int) := fun x3 => bindF (ρ := Int × Int) (β := Int) (σ := Bool) (if decide (y49 ≥ x1) then (if decide (x3 < (0 : Int)) then some (.nx true) else (idx x0 x3).bind fun y71 => some (.nx (decide (y49 > y71)))) else some (.nx false)) fun x61 => (if x61 then some (.nx (i39 : Int)) else some (.nx x3))
def auction_two_b2 (x3 : Int) (i92 : Nat) (y102 : Int) : Int → Option (Fl (Int × Int) Int Int) := fun x78 => (if (i92 : Int) != x3 then some (.nx (if y102 > x78 then y102 else x78)) else some (.nx x78))
def auction_two_m (x0 : (List Int)) (x1 : Int) : Option (Int × Int) := bindR (ρ := Int × Int) (β := Unit) (σ := Int) (rangeL (γ := Unit) (auction_two_b1 x1 x0) x0 0 (-1 : Int)) fun x3 => bindR (ρ := Int × Int) (β := Unit) (σ := Int) (rangeL (γ := Unit) (auction_two_b2 x3) x0 0 x1) fun x78 => some (x3, x78)

def auction_Second_m (x0 : (List Int)) (x1 : Int) : Option (Int × Int × Int) := (auction_Check_m x0 x1).bind fun y5 => (if y5 != (0 : Int) then some ((0 : Int), (0 : Int), y5) else (auction_two_m x0 x1).bind fun y10 => (if decide (y10.1 < (0 : Int)) then some ((0 : Int), (0 : Int), (4 : Int)) else some (y10.1, y10.2, (0 : Int))))

def auction_first_b1 (x1 : Int) (i16 : Nat) (y26 : Int) : Unit → Option (Fl Int Unit Unit) := fun _ => (if decide (y26 ≥ x1) then some (.rt (i16 : Int)) else some (.nx ()))
def auction_first_m (x0 : (List Int)) (x1 : Int) : Option Int := bindR (ρ := Int) (β := Unit) (σ := Unit) (rangeL (γ := Unit) (auction_first_b1 x1) x0 0 ()) fun _ => some (-1 : Int)

def auction_Rise_b2 (x1 : Int) (x48 : Int) (x2 : Int) (i121 : Nat) (y131 : Int) : Int × Int → Option (Fl (Int × Int × Int) (Int × Int) (Int × Int)) := fun (x105, x106) => (if decide (y131 ≥ (wadd x1 (wmul x48 x2))) then (if decide (x106 < (0 : Int)) then some (.nx (wadd x105 (1 : Int), (i121 : Int))) else some (.nx (wadd x105 (1 : Int), x106))) else some (.nx (x105, x106)))
def auction_Rise_b1 (x1 : Int) (x2 : Int) (x0 : (List Int)) : Int → Option (Fl (Int × Int × Int) Int Int) := fun x48 => bindF (ρ := Int × Int × Int) (β := Int) (σ := Int × Int) (rangeL (γ := Int) (auction_Rise_b2 x1 x48 x2) x0 0 ((0 : Int), (-1 : Int))) fun (x105, x106) => (if x105 == (1 : Int) then some (.rt (x106, wadd x1 (wmul x48 x2), (0 : Int))) else (if x105 == (0 : Int) then (auction_first_m x0 (wsub (wadd x1 (wmul x48 x2)) x2)).bind fun y143 => some (.rt (y143, wsub (wadd x1 (wmul x48 x2)) x2, (0 : Int))) else some (.nx (wadd x48 (1 : Int)))))
def auction_Rise_m (x0 : (List Int)) (x1 : Int) (x2 : Int) : Option (Int × Int × Int) := (auction_Check_m x0 x1).bind fun y6 => (if y6 != (0 : Int) then some ((0 : Int), (0 : Int), y6) else bindR (ρ := Int × Int × Int) (β := Unit) (σ := Bool) (if decide (x2 < (1 : Int)) then some (.nx true) else some (.nx (decide (x2 > (1000000 : Int))))) fun x11 => (if x11 then some ((0 : Int), (0 : Int), (1 : Int)) else (auction_two_m x0 x1).bind fun y25 => (if decide (y25.1 < (0 : Int)) then some ((0 : Int), (0 : Int), (4 : Int)) else bindR (ρ := Int × Int × Int) (β := Unit) (σ := Int) (if decide (y25.2 > x1) then (chk (x2 ≠ 0)).bind fun _ => some (.nx (IntKind.wrap .i64 (Int.tdiv (wsub y25.2 x1) x2))) else some (.nx (0 : Int))) fun x33 => bindR (ρ := Int × Int × Int) (β := Unit) (σ := Int) (loopM (γ := Unit) (auction_Rise_b1 x1 x2 x0) 1048576 x33) fun x48 => none)))

def pk_auctions_m : Option Bool := (auction_Second_m ([(3 : Int), (9 : Int), (5 : Int)] : (List Int)) (1 : Int)).bind fun y5 => (auction_Rise_m ([(3 : Int), (9 : Int), (5 : Int)] : (List Int)) (1 : Int) (3 : Int)).bind fun y11 => bindR (ρ := Bool) (β := Unit) (σ := Bool) ((pk_good_m ([y5.2.2, y11.2.2] : (List Int))).bind fun y36 => (if y36 then (if y5.1 == (1 : Int) then (if y5.2.1 == (5 : Int) then (if y11.1 == (1 : Int) then some (.nx (y11.2.1 == (7 : Int))) else some (.nx false)) else some (.nx false)) else some (.nx false)) else some (.nx false))) fun x27 => some x27

def pk_BidsOf_b1 (i34 : Nat) (y44 : Int) : (List Int) → Option (Fl (List Int) (List Int) (List Int)) := fun l8 => (pk_Within_m y44 (101 : Int)).bind fun y54 => (chk ((l8).length + (([y54] : (List Int))).length ≤ 68719476736)).bind fun _ => some (.nx (l8 ++ ([y54] : (List Int))))
def pk_BidsOf_m (x0 : (List Int)) : Option (List Int) := (chk ((if (10 : Int) < ((x0).length : Int) then (10 : Int) else ((x0).length : Int)) ≤ (x0).length ∧ 0 ≤ (if (10 : Int) < ((x0).length : Int) then (10 : Int) else ((x0).length : Int)))).bind fun _ => bindR (ρ := (List Int)) (β := Unit) (σ := (List Int)) (rangeL (γ := Unit) pk_BidsOf_b1 ((List.take ((if (10 : Int) < ((x0).length : Int) then (10 : Int) else ((x0).length : Int)).toNat) x0).drop 0) 0 ([])) fun l8 => some l8

end Go.Mo
