/- The meaning of each function, as a plain function; printed by a program of this repository. -/
import Derived.Test.YtdmolnfnpinhcaaFwI
namespace Go.Mo
open Go.Fw
set_option linter.unusedVariables false

/-- feathermark/auction.Check -/
def auction_Check_b1 (i30 : Nat) (y40 : Int) : Unit → Option (Fl Int Unit Unit) := fun _ => bindF (ρ := Int) (β := Unit) (σ := Bool) (if decide (y40 < (0 : Int)) then some (.nx true) else some (.nx (decide (y40 > (1000000 : Int))))) fun x46 => (if x46 then some (.rt (1 : Int)) else some (.nx ()))
def auction_Check_m (x0 : (List Int)) (x1 : Int) : Option Int := (if decide (((x0).length : Int) > (10 : Int)) then some (2 : Int) else bindR (ρ := Int) (β := Unit) (σ := Unit) (rangeL (γ := Unit) auction_Check_b1 x0 0 ()) fun _ => bindR (ρ := Int) (β := Unit) (σ := Bool) (if decide (x1 < (0 : Int)) then some (.nx true) else some (.nx (decide (x1 > (1000000 : Int))))) fun x62 => (if x62 then some (1 : Int) else some (0 : Int)))

/-- feathermark/auction.two -/
def auction_two_b1 (x1 : Int) (x0 : (List Int)) (i39 : Nat) (y49 : Int) : Int → Option (Fl (Int × Int) Int Int) := fun x3 => bindF (ρ := Int × Int) (β := Int) (σ := Bool) (if decide (y49 ≥ x1) then (if decide (x3 < (0 : Int)) then some (.nx true) else (idx x0 x3).bind fun y71 => some (.nx (decide (y49 > y71)))) else some (.nx false)) fun x61 => (if x61 then some (.nx (i39 : Int)) else some (.nx x3))
def auction_two_b2 (x3 : Int) (i92 : Nat) (y102 : Int) : Int → Option (Fl (Int × Int) Int Int) := fun x78 => (if (i92 : Int) != x3 then some (.nx (if y102 > x78 then y102 else x78)) else some (.nx x78))
def auction_two_m (x0 : (List Int)) (x1 : Int) : Option (Int × Int) := bindR (ρ := Int × Int) (β := Unit) (σ := Int) (rangeL (γ := Unit) (auction_two_b1 x1 x0) x0 0 (-1 : Int)) fun x3 => bindR (ρ := Int × Int) (β := Unit) (σ := Int) (rangeL (γ := Unit) (auction_two_b2 x3) x0 0 x1) fun x78 => some (x3, x78)

/-- feathermark/auction.Second -/
def auction_Second_m (x0 : (List Int)) (x1 : Int) : Option (Int × Int × Int) := (auction_Check_m x0 x1).bind fun y5 => (if y5 != (0 : Int) then some ((0 : Int), (0 : Int), y5) else (auction_two_m x0 x1).bind fun y10 => (if decide (y10.1 < (0 : Int)) then some ((0 : Int), (0 : Int), (4 : Int)) else some (y10.1, y10.2, (0 : Int))))

/-- feathermark/auction.first -/
def auction_first_b1 (x1 : Int) (i16 : Nat) (y26 : Int) : Unit → Option (Fl Int Unit Unit) := fun _ => (if decide (y26 ≥ x1) then some (.rt (i16 : Int)) else some (.nx ()))
def auction_first_m (x0 : (List Int)) (x1 : Int) : Option Int := bindR (ρ := Int) (β := Unit) (σ := Unit) (rangeL (γ := Unit) (auction_first_b1 x1) x0 0 ()) fun _ => some (-1 : Int)

/-- feathermark/auction.Rise -/
def auction_Rise_b2 (x1 : Int) (x48 : Int) (x2 : Int) (i121 : Nat) (y131 : Int) : Int × Int → Option (Fl (Int × Int × Int) (Int × Int) (Int × Int)) := fun (x105, x106) => (if decide (y131 ≥ (wadd x1 (wmul x48 x2))) then (if decide (x106 < (0 : Int)) then some (.nx (wadd x105 (1 : Int), (i121 : Int))) else some (.nx (wadd x105 (1 : Int), x106))) else some (.nx (x105, x106)))
def auction_Rise_b1 (x1 : Int) (x2 : Int) (x0 : (List Int)) : Int → Option (Fl (Int × Int × Int) Int Int) := fun x48 => bindF (ρ := Int × Int × Int) (β := Int) (σ := Int × Int) (rangeL (γ := Int) (auction_Rise_b2 x1 x48 x2) x0 0 ((0 : Int), (-1 : Int))) fun (x105, x106) => (if x105 == (1 : Int) then some (.rt (x106, wadd x1 (wmul x48 x2), (0 : Int))) else (if x105 == (0 : Int) then (auction_first_m x0 (wsub (wadd x1 (wmul x48 x2)) x2)).bind fun y143 => some (.rt (y143, wsub (wadd x1 (wmul x48 x2)) x2, (0 : Int))) else some (.nx (wadd x48 (1 : Int)))))
def auction_Rise_m (x0 : (List Int)) (x1 : Int) (x2 : Int) : Option (Int × Int × Int) := (auction_Check_m x0 x1).bind fun y6 => (if y6 != (0 : Int) then some ((0 : Int), (0 : Int), y6) else bindR (ρ := Int × Int × Int) (β := Unit) (σ := Bool) (if decide (x2 < (1 : Int)) then some (.nx true) else some (.nx (decide (x2 > (1000000 : Int))))) fun x11 => (if x11 then some ((0 : Int), (0 : Int), (1 : Int)) else (auction_two_m x0 x1).bind fun y25 => (if decide (y25.1 < (0 : Int)) then some ((0 : Int), (0 : Int), (4 : Int)) else bindR (ρ := Int × Int × Int) (β := Unit) (σ := Int) (if decide (y25.2 > x1) then (chk (x2 ≠ 0)).bind fun _ => some (.nx (IntKind.wrap .i64 (Int.tdiv (wsub y25.2 x1) x2))) else some (.nx (0 : Int))) fun x33 => bindR (ρ := Int × Int × Int) (β := Unit) (σ := Int) (loopM (γ := Unit) (auction_Rise_b1 x1 x2 x0) 1048576 x33) fun x48 => none)))

/-- slices.IndexFunc[[]feathermark/api.Errno,feathermark/api.Errno] -/
def slices_IndexFunc_api_Errno_api_Errno_b1 (g1 : Int → Option Bool) (i20 : Nat) (y30 : Int) : Unit → Option (Fl Int Unit Unit) := fun _ => (g1 y30).bind fun y36 => (if y36 then some (.rt (i20 : Int)) else some (.nx ()))
def slices_IndexFunc_api_Errno_api_Errno_m (x0 : (List Int)) (g1 : Int → Option Bool) : Option Int := bindR (ρ := Int) (β := Unit) (σ := Unit) (rangeL (γ := Unit) (slices_IndexFunc_api_Errno_api_Errno_b1 g1) x0 0 ()) fun _ => some (-1 : Int)

/-- slices.ContainsFunc[[]feathermark/api.Errno,feathermark/api.Errno] -/
def slices_ContainsFunc_api_Errno_api_Errno_m (x0 : (List Int)) (g1 : Int → Option Bool) : Option Bool := (slices_IndexFunc_api_Errno_api_Errno_m x0 g1).bind fun y5 => some (decide (y5 ≥ (0 : Int)))

/-- feathermark/plumekeep.good$1 -/
def pk_good_1_m (x0 : Int) : Option Bool := some (x0 != (0 : Int))

/-- feathermark/plumekeep.good -/
def pk_good_m (x0 : (List Int)) : Option Bool := (slices_ContainsFunc_api_Errno_api_Errno_m x0 (fun a0 => pk_good_1_m a0)).bind fun y4 => some (!y4)

/-- feathermark/plumekeep.auctions -/
def pk_auctions_m : Option Bool := (auction_Second_m ([(3 : Int), (9 : Int), (5 : Int)] : (List Int)) (1 : Int)).bind fun y5 => (auction_Rise_m ([(3 : Int), (9 : Int), (5 : Int)] : (List Int)) (1 : Int) (3 : Int)).bind fun y11 => bindR (ρ := Bool) (β := Unit) (σ := Bool) ((pk_good_m ([y5.2.2, y11.2.2] : (List Int))).bind fun y36 => (if y36 then (if y5.1 == (1 : Int) then (if y5.2.1 == (5 : Int) then (if y11.1 == (1 : Int) then some (.nx (y11.2.1 == (7 : Int))) else some (.nx false)) else some (.nx false)) else some (.nx false)) else some (.nx false))) fun x27 => some x27

/-- feathermark/plumeref.Rest -/
def ref_Rest_m (x0 : Int) (x1 : Int) : Option Int := (chk (x1 ≠ 0)).bind fun _ => bindR (ρ := Int) (β := Unit) (σ := Int) (if decide ((Int.tmod x0 x1) < (0 : Int)) then some (.nx (wadd (Int.tmod x0 x1) x1)) else some (.nx (Int.tmod x0 x1))) fun x8 => some x8

/-- feathermark/plumekeep.Within -/
def pk_Within_m (x0 : Int) (x1 : Int) : Option Int := (ref_Rest_m x0 x1).bind fun y5 => some y5

/-- feathermark/plumekeep.BidsOf -/
def pk_BidsOf_b1 (i34 : Nat) (y44 : Int) : (List Int) → Option (Fl (List Int) (List Int) (List Int)) := fun l8 => (pk_Within_m y44 (101 : Int)).bind fun y54 => (chk ((l8).length + (([y54] : (List Int))).length ≤ 68719476736)).bind fun _ => some (.nx (l8 ++ ([y54] : (List Int))))
def pk_BidsOf_m (x0 : (List Int)) : Option (List Int) := (chk ((if (10 : Int) < ((x0).length : Int) then (10 : Int) else ((x0).length : Int)) ≤ (x0).length ∧ 0 ≤ (if (10 : Int) < ((x0).length : Int) then (10 : Int) else ((x0).length : Int)))).bind fun _ => bindR (ρ := (List Int)) (β := Unit) (σ := (List Int)) (rangeL (γ := Unit) pk_BidsOf_b1 ((List.take ((if (10 : Int) < ((x0).length : Int) then (10 : Int) else ((x0).length : Int)).toNat) x0).drop 0) 0 ([])) fun l8 => some l8

/-- slices.Max[[]int,int] -/
def slices_Max_int_int_b1 (x0 : (List Int)) : Int × Int → Option (Fl Int (Int × Int) (Int × Int)) := fun (x17, x18) => (if decide (x18 < ((x0).length : Int)) then (idx x0 x18).bind fun y43 => some (.nx (if y43 > x17 then y43 else x17, wadd x18 (1 : Int))) else some (.br (x17, x18)))
def slices_Max_int_int_m (x0 : (List Int)) : Option Int := bindR (ρ := Int) (β := Unit) (σ := Unit) (if decide (((x0).length : Int) < (1 : Int)) then none else some (.nx ())) fun _ => (idx x0 (0 : Int)).bind fun y15 => bindR (ρ := Int) (β := Unit) (σ := Int × Int) (loopM (γ := Unit) (slices_Max_int_int_b1 x0) 1048576 (y15, (1 : Int))) fun (x17, x18) => some x17

/-- feathermark/plumekeep.AuctionRise -/
def pk_AuctionRise_m (x0 : (List Int)) (x1 : Int) (x2 : Int) : Option Bool := (pk_auctions_m).bind fun y6 => (if !y6 then some false else (pk_BidsOf_m x0).bind fun y12 => (pk_Within_m x1 (60 : Int)).bind fun y19 => (pk_Within_m x2 (20 : Int)).bind fun y21 => (auction_Rise_m y12 y19 (wadd (1 : Int) y21)).bind fun y25 => (auction_Second_m y12 y19).bind fun y29 => bindR (ρ := Bool) (β := Unit) (σ := Bool) (if y25.2.2 != (0 : Int) then some (.nx true) else some (.nx (y29.2.2 != (0 : Int)))) fun x33 => (if x33 then bindR (ρ := Bool) (β := Unit) (σ := Bool) (if y25.2.2 == y29.2.2 then (if y25.1 == (0 : Int) then some (.nx (y25.2.1 == (0 : Int))) else some (.nx false)) else some (.nx false)) fun x49 => some x49 else bindR (ρ := Bool) (β := Unit) (σ := Bool) (if decide (y25.1 < (0 : Int)) then some (.nx true) else (if decide (y25.1 ≥ ((y12).length : Int)) then some (.nx true) else (idx y12 y25.1).bind fun y85 => (if decide (y85 < y25.2.1) then some (.nx true) else (if decide (y25.2.1 < y19) then some (.nx true) else (if decide (y25.2.1 < (wsub y29.2.1 (wadd (1 : Int) y21))) then some (.nx true) else some (.nx (decide (y25.2.1 > (wadd y29.2.1 (wadd (1 : Int) y21)))))))))) fun x75 => (if x75 then some false else bindR (ρ := Bool) (β := Unit) (σ := Bool) (if decide ((wadd (1 : Int) y21) > (1 : Int)) then some (.nx true) else (idx y12 y25.1).bind fun y112 => (slices_Max_int_int_m y12).bind fun y114 => some (.nx (y112 == y114))) fun x103 => some x103)))

/- more models, of functions that this law does not call -/
def slices_Clone_int_int_m (x0 : List Int) : Option (List Int) := (chk (x0.length ≤ 68719476736)).bind fun _ => some x0

def auction_First_m (x0 : (List Int)) (x1 : Int) : Option (Int × Int × Int) := (auction_Check_m x0 x1).bind fun y5 => (if y5 != (0 : Int) then some ((0 : Int), (0 : Int), y5) else (auction_two_m x0 x1).bind fun y10 => (if decide (y10.1 < (0 : Int)) then some ((0 : Int), (0 : Int), (4 : Int)) else (idx x0 y10.1).bind fun y15 => some (y10.1, y15, (0 : Int))))

def slices_IndexFunc_int_int_b1 (g1 : Int → Option Bool) (i20 : Nat) (y30 : Int) : Unit → Option (Fl Int Unit Unit) := fun _ => (g1 y30).bind fun y36 => (if y36 then some (.rt (i20 : Int)) else some (.nx ()))
def slices_IndexFunc_int_int_m (x0 : (List Int)) (g1 : Int → Option Bool) : Option Int := bindR (ρ := Int) (β := Unit) (σ := Unit) (rangeL (γ := Unit) (slices_IndexFunc_int_int_b1 g1) x0 0 ()) fun _ => some (-1 : Int)

def slices_ContainsFunc_int_int_m (x0 : (List Int)) (g1 : Int → Option Bool) : Option Bool := (slices_IndexFunc_int_int_m x0 g1).bind fun y5 => some (decide (y5 ≥ (0 : Int)))

def pk_AuctionPays_1_m (x0 : Int) (x1 : Int) : Option Bool := some (decide (x0 ≥ x1))

def pk_AuctionPays_b1 (y13 : (List Int)) (y22 : Int × Int × Int) (y26 : Int × Int × Int) (i128 : Nat) : Unit → Option (Fl Bool Unit Unit) := fun _ => (idx y13 (i128 : Int)).bind fun y141 => bindF (ρ := Bool) (β := Unit) (σ := Bool) (if (i128 : Int) != y22.1 then (if decide (y141 > y22.2.1) then some (.nx true) else (if y141 == y26.2.1 then some (.nx (decide ((i128 : Int) < y22.1))) else some (.nx false))) else some (.nx false)) fun x149 => (if x149 then some (.rt false) else some (.nx ()))
def pk_AuctionPays_m (x0 : (List Int)) (x1 : Int) : Option Bool := (pk_auctions_m).bind fun y7 => (if !y7 then some false else (pk_BidsOf_m x0).bind fun y13 => (pk_Within_m x1 (110 : Int)).bind fun y18 => (auction_Second_m y13 y18).bind fun y22 => (auction_First_m y13 y18).bind fun y26 => bindR (ρ := Bool) (β := Unit) (σ := Bool) (if y22.2.2 != (0 : Int) then some (.nx true) else some (.nx (y26.2.2 != (0 : Int)))) fun x30 => (if x30 then bindR (ρ := Bool) (β := Unit) (σ := Bool) (if y22.2.2 == y26.2.2 then (if y22.2.2 == (4 : Int) then (slices_ContainsFunc_int_int_m y13 (fun a0 => pk_AuctionPays_1_m a0 y18)).bind fun y60 => some (.nx (!y60)) else some (.nx false)) else some (.nx false)) fun x50 => some x50 else bindR (ρ := Bool) (β := Unit) (σ := Bool) (if y22.1 != y26.1 then some (.nx true) else (if decide (y22.1 < (0 : Int)) then some (.nx true) else (if decide (y22.1 ≥ ((y13).length : Int)) then some (.nx true) else (idx y13 y22.1).bind fun y89 => (if y26.2.1 != y89 then some (.nx true) else (if decide (y22.2.1 > y26.2.1) then some (.nx true) else some (.nx (decide (y22.2.1 < y18)))))))) fun x78 => (if x78 then some false else bindR (ρ := Bool) (β := Unit) (σ := Unit) (rangeN (γ := Unit) (pk_AuctionPays_b1 y13 y22 y26) (y13).length 0 ()) fun _ => some true)))

end Go.Mo
