/- The meaning of each function, as a plain function; printed by a program of this repository. -/
import Derived.Test.YtldkahoceefngaaFwI
namespace Go.Mo
open Go.Fw
set_option linter.unusedVariables false

/-- feathermark/plumeref.Rest -/
def ref_Rest_m (x0 : Int) (x1 : Int) : Option Int := (chk (x1 ≠ 0)).bind fun _ => bindR (ρ := Int) (β := Unit) (σ := Int) (if decide ((Int.tmod x0 x1) < (0 : Int)) then some (.nx (wadd (Int.tmod x0 x1) x1)) else some (.nx (Int.tmod x0 x1))) fun x8 => some x8

/-- feathermark/plumekeep.Within -/
def pk_Within_m (x0 : Int) (x1 : Int) : Option Int := (ref_Rest_m x0 x1).bind fun y5 => some y5

/-- feathermark/plumeref.Sides -/
def ref_Sides_b1 (i22 : Nat) : (List Int) → Option (Fl (List Int) (List Int) (List Int)) := fun l2 => (chk ((l2).length + (([(i22 : Int)] : (List Int))).length ≤ 68719476736)).bind fun _ => some (.nx (l2 ++ ([(i22 : Int)] : (List Int))))
def ref_Sides_m (x0 : Int) : Option (List Int) := (chk (x0 ≤ 9223372036854775807)).bind fun _ => bindR (ρ := (List Int)) (β := Unit) (σ := (List Int)) (rangeN (γ := Unit) ref_Sides_b1 (x0).toNat 0 ([])) fun l2 => some l2

/-- slices.Delete[[]int,int] -/
def slices_Delete_int_int_m (x0 : List Int) (x1 x2 : Int) : Option (List Int) := (chk (0 ≤ x1 ∧ x1 ≤ x2 ∧ x2 ≤ (x0.length : Int))).bind fun _ => some (x0.take x1.toNat ++ x0.drop x2.toNat)

/-- feathermark/plumekeep.OrderOf -/
def pk_OrderOf_b1 (x1 : (List Int)) (i69 : Nat) : (List Int) × (List Int) → Option (Fl (List Int) ((List Int) × (List Int)) ((List Int) × (List Int))) := fun (l9, l11) => bindF (ρ := (List Int)) (β := (List Int) × (List Int)) (σ := Int) (if decide ((i69 : Int) < ((x1).length : Int)) then (idx x1 (i69 : Int)).bind fun y102 => (pk_Within_m y102 ((l9).length : Int)).bind fun y104 => some (.nx y104) else some (.nx (0 : Int))) fun x89 => (idx l9 x89).bind fun y114 => (chk ((l11).length + (([y114] : (List Int))).length ≤ 68719476736)).bind fun _ => (slices_Delete_int_int_m l9 x89 (wadd x89 (1 : Int))).bind fun y123 => some (.nx (y123, (l11 ++ ([y114] : (List Int)))))
def pk_OrderOf_m (x0 : Int) (x1 : (List Int)) : Option (List Int) := (ref_Sides_m x0).bind fun y6 => (chk (x0 ≤ 9223372036854775807)).bind fun _ => bindR (ρ := (List Int)) (β := Unit) (σ := (List Int) × (List Int)) (rangeN (γ := Unit) (pk_OrderOf_b1 x1) (x0).toNat 0 (y6, [])) fun (l9, l11) => some l11

/-- feathermark/plumekeep.VotesOf -/
def pk_VotesOf_b1 (x0 : Int) (i39 : Nat) (y49 : (List Int)) : (List (List Int)) → Option (Fl (List (List Int)) (List (List Int)) (List (List Int))) := fun l9 => (pk_OrderOf_m x0 y49).bind fun y62 => (chk ((l9).length + (([y62] : (List (List Int)))).length ≤ 68719476736)).bind fun _ => some (.nx (l9 ++ ([y62] : (List (List Int)))))
def pk_VotesOf_m (x0 : Int) (x1 : (List (List Int))) : Option (List (List Int)) := (chk ((if (30 : Int) < ((x1).length : Int) then (30 : Int) else ((x1).length : Int)) ≤ (x1).length ∧ 0 ≤ (if (30 : Int) < ((x1).length : Int) then (30 : Int) else ((x1).length : Int)))).bind fun _ => bindR (ρ := (List (List Int))) (β := Unit) (σ := (List (List Int))) (rangeL (γ := Unit) (pk_VotesOf_b1 x0) ((List.take ((if (30 : Int) < ((x1).length : Int) then (30 : Int) else ((x1).length : Int)).toNat) x1).drop 0) 0 ([])) fun l9 => some l9

/-- feathermark/order.Check -/
def order_Check_b1 (x0 : Int) (i90 : Nat) (y100 : Int) : (List Bool) → Option (Fl Int (List Bool) (List Bool)) := fun l50 => bindF (ρ := Int) (β := (List Bool)) (σ := Bool) (if decide (y100 < (0 : Int)) then some (.nx true) else (if decide (y100 ≥ x0) then some (.nx true) else (idx l50 y100).bind fun y122 => some (.nx y122))) fun x112 => (if x112 then some (.rt (3 : Int)) else (idx l50 y100).bind fun y129 => some (.nx (List.set l50 ((y100).toNat) true)))
def order_Check_m (x0 : Int) (x1 : (List Int)) : Option Int := bindR (ρ := Int) (β := Unit) (σ := Bool) (if decide (x0 < (1 : Int)) then some (.nx true) else some (.nx (decide (x0 > (6 : Int))))) fun x5 => (if x5 then some (1 : Int) else bindR (ρ := Int) (β := Unit) (σ := (List Bool)) (rangeL (γ := Unit) (order_Check_b1 x0) x1 0 (List.replicate 6 false)) fun l50 => (if ((x1).length : Int) != x0 then some (3 : Int) else some (0 : Int)))

/-- feathermark/tally.Check -/
def tally_Check_b1 (x0 : Int) (i37 : Nat) (y47 : (List Int)) : Unit → Option (Fl Int Unit Unit) := fun _ => (order_Check_m x0 y47).bind fun y55 => (if y55 != (0 : Int) then some (.rt (3 : Int)) else some (.nx ()))
def tally_Check_m (x0 : Int) (x1 : (List (List Int))) : Option Int := bindR (ρ := Int) (β := Unit) (σ := Bool) (if decide (x0 < (1 : Int)) then some (.nx true) else some (.nx (decide (x0 > (6 : Int))))) fun x5 => (if x5 then some (1 : Int) else (if decide (((x1).length : Int) > (30 : Int)) then some (2 : Int) else bindR (ρ := Int) (β := Unit) (σ := Unit) (rangeL (γ := Unit) (tally_Check_b1 x0) x1 0 ()) fun _ => some (0 : Int)))

/-- slices.Index[[]int,int] -/
def slices_Index_int_int_b1 (x1 : Int) (i16 : Nat) (y26 : Int) : Unit → Option (Fl Int Unit Unit) := fun _ => (if x1 == y26 then some (.rt (i16 : Int)) else some (.nx ()))
def slices_Index_int_int_m (x0 : (List Int)) (x1 : Int) : Option Int := bindR (ρ := Int) (β := Unit) (σ := Unit) (rangeL (γ := Unit) (slices_Index_int_int_b1 x1) x0 0 ()) fun _ => some (-1 : Int)

/-- feathermark/order.Far -/
def order_Far_b2 (x1 : (List Int)) (y89 : Int) (i121 : Nat) (y131 : Int) : Int → Option (Fl (Int × Int) Int Int) := fun x99 => (slices_Index_int_int_m x1 y89).bind fun y139 => (slices_Index_int_int_m x1 y131).bind fun y141 => (if decide (y139 > y141) then some (.nx (wadd x99 (1 : Int))) else some (.nx x99))
def order_Far_b1 (x0 : (List Int)) (x1 : (List Int)) (i79 : Nat) (y89 : Int) : Int → Option (Fl (Int × Int) Int Int) := fun x13 => (chk (0 ≤ (wadd (i79 : Int) (1 : Int)) ∧ (wadd (i79 : Int) (1 : Int)) ≤ (x0).length)).bind fun _ => bindF (ρ := Int × Int) (β := Int) (σ := Int) (rangeL (γ := Int) (order_Far_b2 x1 y89) ((List.take ((x0).length) x0).drop ((wadd (i79 : Int) (1 : Int)).toNat)) 0 x13) fun x99 => some (.nx x99)
def order_Far_m (x0 : (List Int)) (x1 : (List Int)) : Option (Int × Int) := (order_Check_m ((x0).length : Int) x0).bind fun y5 => (if y5 != (0 : Int) then some ((0 : Int), y5) else (order_Check_m ((x0).length : Int) x1).bind fun y10 => (if y10 != (0 : Int) then some ((0 : Int), y10) else bindR (ρ := Int × Int) (β := Unit) (σ := Int) (rangeL (γ := Unit) (order_Far_b1 x0 x1) x0 0 (0 : Int)) fun x13 => some (x13, (0 : Int))))

/-- feathermark/middle.Far -/
def middle_Far_b1 (x2 : (List Int)) (i33 : Nat) (y43 : (List Int)) : Int → Option (Fl (Int × Int) Int Int) := fun x14 => (order_Far_m x2 y43).bind fun y51 => some (.nx (wadd x14 y51.1))
def middle_Far_m (x0 : Int) (x1 : (List (List Int))) (x2 : (List Int)) : Option (Int × Int) := (tally_Check_m x0 x1).bind fun y6 => (if y6 != (0 : Int) then some ((0 : Int), y6) else (order_Check_m x0 x2).bind fun y11 => (if y11 != (0 : Int) then some ((0 : Int), (3 : Int)) else bindR (ρ := Int × Int) (β := Unit) (σ := Int) (rangeL (γ := Unit) (middle_Far_b1 x2) x1 0 (0 : Int)) fun x14 => some (x14, (0 : Int))))

/-- feathermark/tally.Duels -/
def tally_Duels_b1 (x0 : Int) (i44 : Nat) : (List (List Int)) → Option (Fl ((List (List Int)) × Int) (List (List Int)) (List (List Int))) := fun l24 => (chk (0 ≤ x0 ∧ x0 ≤ 68719476736)).bind fun _ => (idx l24 (i44 : Int)).bind fun y63 => some (.nx (List.set l24 i44 (List.replicate (x0).toNat (0 : Int))))
def tally_Duels_b4 (y809 : Int) (i861 : Nat) (y871 : Int) : (List (List Int)) → Option (Fl ((List (List Int)) × Int) (List (List Int)) (List (List Int))) := fun l835 => (idx l835 y809).bind fun y881 => (idx y881 y871).bind fun y883 => (idx y881 y871).bind fun y885 => some (.nx (List.set l835 ((y809).toNat) (List.set y881 ((y871).toNat) (wadd y883 (1 : Int)))))
def tally_Duels_b3 (y623 : (List Int)) (i799 : Nat) (y809 : Int) : (List (List Int)) → Option (Fl ((List (List Int)) × Int) (List (List Int)) (List (List Int))) := fun l709 => (chk (0 ≤ (wadd (i799 : Int) (1 : Int)) ∧ (wadd (i799 : Int) (1 : Int)) ≤ (y623).length)).bind fun _ => bindF (ρ := (List (List Int)) × Int) (β := (List (List Int))) (σ := (List (List Int))) (rangeL (γ := (List (List Int))) (tally_Duels_b4 y809) ((List.take ((y623).length) y623).drop ((wadd (i799 : Int) (1 : Int)).toNat)) 0 l709) fun l835 => some (.nx l835)
def tally_Duels_b2 (i613 : Nat) (y623 : (List Int)) : (List (List Int)) → Option (Fl ((List (List Int)) × Int) (List (List Int)) (List (List Int))) := fun l335 => bindF (ρ := (List (List Int)) × Int) (β := (List (List Int))) (σ := (List (List Int))) (rangeL (γ := (List (List Int))) (tally_Duels_b3 y623) y623 0 l335) fun l709 => some (.nx l709)
def tally_Duels_m (x0 : Int) (x1 : (List (List Int))) : Option ((List (List Int)) × Int) := (tally_Check_m x0 x1).bind fun y5 => (if y5 != (0 : Int) then some ([], y5) else (chk (0 ≤ x0 ∧ x0 ≤ 68719476736)).bind fun _ => bindR (ρ := (List (List Int)) × Int) (β := Unit) (σ := (List (List Int))) (rangeN (γ := Unit) (tally_Duels_b1 x0) ((List.replicate (x0).toNat ([] : (List Int)))).length 0 (List.replicate (x0).toNat ([] : (List Int)))) fun l24 => bindR (ρ := (List (List Int)) × Int) (β := Unit) (σ := (List (List Int))) (rangeL (γ := Unit) tally_Duels_b2 x1 0 l24) fun l335 => some (l335, (0 : Int)))

/-- feathermark/worth.Check -/
def worth_Check_b1 (i48 : Nat) (y58 : Int) : Unit → Option (Fl Int Unit Unit) := fun _ => bindF (ρ := Int) (β := Unit) (σ := Bool) (if decide (y58 < (-1000000 : Int)) then some (.nx true) else some (.nx (decide (y58 > (1000000 : Int))))) fun x64 => (if x64 then some (.rt (1 : Int)) else some (.nx ()))
def worth_Check_m (x0 : Int) (x1 : (List Int)) : Option Int := bindR (ρ := Int) (β := Unit) (σ := Bool) (if decide (x0 < (1 : Int)) then some (.nx true) else some (.nx (decide (x0 > (6 : Int))))) fun x5 => (if x5 then some (1 : Int) else (chk (0 ≤ x0)).bind fun _ => (if ((x1).length : Int) != (IntKind.wrap .i64 ((1 : Int) * 2 ^ (min x0.toNat (IntKind.bits .i64)))) then some (3 : Int) else bindR (ρ := Int) (β := Unit) (σ := Unit) (rangeL (γ := Unit) worth_Check_b1 x1 0 ()) fun _ => (idx x1 (0 : Int)).bind fun y80 => (if y80 != (0 : Int) then some (3 : Int) else some (0 : Int))))

/-- feathermark/worth.size -/
def worth_size_b1 : Int × Int → Option (Fl Int (Int × Int) (Int × Int)) := fun (x2, x3) => (if decide (x2 > (0 : Int)) then (chk ((2 : Int) ≠ 0)).bind fun _ => (chk ((2 : Int) ≠ 0)).bind fun _ => some (.nx (IntKind.wrap .i64 (Int.tdiv x2 (2 : Int)), wadd x3 (Int.tmod x2 (2 : Int)))) else some (.br (x2, x3)))
def worth_size_m (x0 : Int) : Option Int := bindR (ρ := Int) (β := Unit) (σ := Int × Int) (loopM (γ := Unit) worth_size_b1 1048576 (x0, (0 : Int))) fun (x2, x3) => some x3

/-- feathermark/worth.factorial -/
def worth_factorial_b1 (x0 : Int) : Int × Int → Option (Fl Int (Int × Int) (Int × Int)) := fun (x2, x3) => (if decide (x3 ≤ x0) then some (.nx (wmul x2 x3, wadd x3 (1 : Int))) else some (.br (x2, x3)))
def worth_factorial_m (x0 : Int) : Option Int := bindR (ρ := Int) (β := Unit) (σ := Int × Int) (loopM (γ := Unit) (worth_factorial_b1 x0) 1048576 ((1 : Int), (2 : Int))) fun (x2, x3) => some x2

/-- feathermark/worth.Share -/
def worth_Share_b2 (i296 : Nat) (x0 : Int) (x1 : (List Int)) (y306 : Int) (i388 : Nat) : (List Int) → Option (Fl ((List Int) × Int) (List Int) (List Int)) := fun l343 => (chk (0 ≤ (i388 : Int))).bind fun _ => (if (bits .and .i64 (Int.fdiv (i296 : Int) (2 ^ (min (i388 : Int).toNat (IntKind.bits .i64)))) (1 : Int)) == (0 : Int) then (worth_size_m (i296 : Int)).bind fun y406 => (idx l343 (i388 : Int)).bind fun y420 => (worth_factorial_m y406).bind fun y422 => (worth_factorial_m (wsub (wsub x0 (1 : Int)) y406)).bind fun y424 => (chk (0 ≤ (i388 : Int))).bind fun _ => (idx x1 (bits .or .i64 (i296 : Int) (IntKind.wrap .i64 ((1 : Int) * 2 ^ (min (i388 : Int).toNat (IntKind.bits .i64)))))).bind fun y428 => (idx l343 (i388 : Int)).bind fun y430 => some (.nx (List.set l343 i388 (wadd y420 (wmul (wmul y422 y424) (wsub y428 y306))))) else some (.nx l343))
def worth_Share_b1 (x0 : Int) (x1 : (List Int)) (i296 : Nat) (y306 : Int) : (List Int) → Option (Fl ((List Int) × Int) (List Int) (List Int)) := fun l150 => (chk (x0 ≤ 9223372036854775807)).bind fun _ => bindF (ρ := (List Int) × Int) (β := (List Int)) (σ := (List Int)) (rangeN (γ := (List Int)) (worth_Share_b2 i296 x0 x1 y306) (x0).toNat 0 l150) fun l343 => some (.nx l343)
def worth_Share_m (x0 : Int) (x1 : (List Int)) : Option ((List Int) × Int) := (worth_Check_m x0 x1).bind fun y5 => (if y5 != (0 : Int) then some ([], y5) else (chk (0 ≤ x0 ∧ x0 ≤ 68719476736)).bind fun _ => bindR (ρ := (List Int) × Int) (β := Unit) (σ := (List Int)) (rangeL (γ := Unit) (worth_Share_b1 x0 x1) x1 0 (List.replicate (x0).toNat (0 : Int))) fun l150 => some (l150, (0 : Int)))

/-- slices.Equal[[]int,int] -/
def slices_Equal_int_int_b1 (x1 : (List Int)) (i21 : Nat) (y31 : Int) : Unit → Option (Fl Bool Unit Unit) := fun _ => (idx x1 (i21 : Int)).bind fun y37 => (if y31 != y37 then some (.rt false) else some (.nx ()))
def slices_Equal_int_int_m (x0 : (List Int)) (x1 : (List Int)) : Option Bool := (if ((x0).length : Int) != ((x1).length : Int) then some false else bindR (ρ := Bool) (β := Unit) (σ := Unit) (rangeL (γ := Unit) (slices_Equal_int_int_b1 x1) x0 0 ()) fun _ => some true)

/-- feathermark/plumetop.works -/
def top_works_m : Option Bool := (order_Far_m ([(0 : Int), (1 : Int), (2 : Int)] : (List Int)) ([(2 : Int), (0 : Int), (1 : Int)] : (List Int))).bind fun y7 => (worth_Share_m (2 : Int) ([(0 : Int), (0 : Int), (2 : Int), (6 : Int)] : (List Int))).bind fun y14 => bindR (ρ := Bool) (β := Unit) (σ := Bool) (if y7.2 == (0 : Int) then (if y14.2 == (0 : Int) then (if y7.1 == (2 : Int) then (slices_Equal_int_int_m y14.1 ([(4 : Int), (8 : Int)] : (List Int))).bind fun y41 => some (.nx y41) else some (.nx false)) else some (.nx false)) else some (.nx false)) fun x29 => some x29

/-- slices.IndexFunc[[]feathermark/api.Errno,feathermark/api.Errno] -/
def slices_IndexFunc_api_Errno_api_Errno_b1 (g1 : Int → Option Bool) (i20 : Nat) (y30 : Int) : Unit → Option (Fl Int Unit Unit) := fun _ => (g1 y30).bind fun y36 => (if y36 then some (.rt (i20 : Int)) else some (.nx ()))
def slices_IndexFunc_api_Errno_api_Errno_m (x0 : (List Int)) (g1 : Int → Option Bool) : Option Int := bindR (ρ := Int) (β := Unit) (σ := Unit) (rangeL (γ := Unit) (slices_IndexFunc_api_Errno_api_Errno_b1 g1) x0 0 ()) fun _ => some (-1 : Int)

/-- slices.ContainsFunc[[]feathermark/api.Errno,feathermark/api.Errno] -/
def slices_ContainsFunc_api_Errno_api_Errno_m (x0 : (List Int)) (g1 : Int → Option Bool) : Option Bool := (slices_IndexFunc_api_Errno_api_Errno_m x0 g1).bind fun y5 => some (decide (y5 ≥ (0 : Int)))

/-- feathermark/plumetop.good$1 -/
def top_good_1_m (x0 : Int) : Option Bool := some (x0 != (0 : Int))

/-- feathermark/plumetop.good -/
def top_good_m (x0 : (List Int)) : Option Bool := (slices_ContainsFunc_api_Errno_api_Errno_m x0 (fun a0 => top_good_1_m a0)).bind fun y4 => some (!y4)

/-- feathermark/plumetop.TopFar -/
def top_TopFar_b2 (y17 : (List Int)) (i153 : Nat) (y27 : (List (List Int)) × Int) (y6 : Int) (i204 : Nat) : Int → Option (Fl Bool Int Int) := fun x164 => (idx y17 (i153 : Int)).bind fun y220 => (idx y27.1 y220).bind fun y222 => (if ((y222).length : Int) != (wadd (1 : Int) y6) then some (.rt false) else (idx y17 (i153 : Int)).bind fun y235 => (idx y27.1 y235).bind fun y237 => (idx y17 (i204 : Int)).bind fun y240 => (idx y237 y240).bind fun y242 => some (.nx (wadd x164 y242)))
def top_TopFar_b1 (y17 : (List Int)) (y27 : (List (List Int)) × Int) (y6 : Int) (i153 : Nat) : Int → Option (Fl Bool Int Int) := fun x62 => (chk ((i153 : Int) ≤ 9223372036854775807)).bind fun _ => bindF (ρ := Bool) (β := Int) (σ := Int) (rangeN (γ := Int) (top_TopFar_b2 y17 i153 y27 y6) ((i153 : Int)).toNat 0 x62) fun x164 => some (.nx x164)
def top_TopFar_m (x0 : Int) (x1 : (List (List Int))) (x2 : (List Int)) : Option Bool := (pk_Within_m x0 (6 : Int)).bind fun y6 => (pk_VotesOf_m (wadd (1 : Int) y6) x1).bind fun y14 => (pk_OrderOf_m (wadd (1 : Int) y6) x2).bind fun y17 => (middle_Far_m (wadd (1 : Int) y6) y14 y17).bind fun y22 => (tally_Duels_m (wadd (1 : Int) y6) y14).bind fun y27 => bindR (ρ := Bool) (β := Unit) (σ := Bool) ((top_works_m).bind fun y52 => (if !y52 then some (.nx true) else (top_good_m ([y22.2, y27.2] : (List Int))).bind fun y56 => (if !y56 then some (.nx true) else some (.nx (((y27.1).length : Int) != (wadd (1 : Int) y6)))))) fun x44 => (if x44 then some false else bindR (ρ := Bool) (β := Unit) (σ := Int) (rangeN (γ := Unit) (top_TopFar_b1 y17 y27 y6) (y17).length 0 (0 : Int)) fun x62 => some (y22.1 == x62))

/- more models, of functions that this law does not call -/
def slices_Clone_int_int_m (x0 : List Int) : Option (List Int) := (chk (x0.length ≤ 68719476736)).bind fun _ => some x0

def pk_worths_m : Option Bool := (worth_Share_m (2 : Int) ([(0 : Int), (0 : Int), (2 : Int), (6 : Int)] : (List Int))).bind fun y6 => bindR (ρ := Bool) (β := Unit) (σ := Bool) (if y6.2 == (0 : Int) then (slices_Equal_int_int_m y6.1 ([(4 : Int), (8 : Int)] : (List Int))).bind fun y27 => some (.nx y27) else some (.nx false)) fun x17 => some x17

def pk_GameOf_b1 (x1 : (List Int)) : (List Int) × Int → Option (Fl (List Int) ((List Int) × Int) ((List Int) × Int)) := fun (l28, x30) => (if decide (x30 < ((l28).length : Int)) then (if decide ((wsub x30 (1 : Int)) < ((x1).length : Int)) then (idx x1 (wsub x30 (1 : Int))).bind fun y69 => (pk_Within_m y69 (41 : Int)).bind fun y71 => (idx l28 x30).bind fun y73 => some (.nx ((List.set l28 ((x30).toNat) (wsub y71 (10 : Int))), wadd x30 (1 : Int))) else some (.nx (l28, wadd x30 (1 : Int)))) else some (.br (l28, x30)))
def pk_GameOf_m (x0 : Int) (x1 : (List Int)) : Option (List Int) := (chk (0 ≤ x0)).bind fun _ => (chk (0 ≤ (IntKind.wrap .i64 ((1 : Int) * 2 ^ (min x0.toNat (IntKind.bits .i64)))) ∧ (IntKind.wrap .i64 ((1 : Int) * 2 ^ (min x0.toNat (IntKind.bits .i64)))) ≤ 68719476736)).bind fun _ => bindR (ρ := (List Int)) (β := Unit) (σ := (List Int) × Int) (loopM (γ := Unit) (pk_GameOf_b1 x1) 1048576 ((List.replicate (IntKind.wrap .i64 ((1 : Int) * 2 ^ (min x0.toNat (IntKind.bits .i64)))).toNat (0 : Int)), (1 : Int))) fun (l28, x30) => some l28

def pk_orders_m : Option Bool := (order_Far_m ([(0 : Int), (1 : Int), (2 : Int)] : (List Int)) ([(2 : Int), (0 : Int), (1 : Int)] : (List Int))).bind fun y7 => bindR (ρ := Bool) (β := Unit) (σ := Bool) (if y7.2 == (0 : Int) then some (.nx (y7.1 == (2 : Int))) else some (.nx false)) fun x11 => some x11

def slices_Contains_int_int_m (x0 : (List Int)) (x1 : Int) : Option Bool := (slices_Index_int_int_m x0 x1).bind fun y5 => some (decide (y5 ≥ (0 : Int)))

def order_All_b3 (y343 : (List Int)) (i385 : Nat) : (List (List Int)) → Option (Fl ((List (List Int)) × Int) (List (List Int)) (List (List Int))) := fun l346 => (slices_Contains_int_int_m y343 (i385 : Int)).bind fun y398 => (if !y398 then (slices_Clone_int_int_m y343).bind fun y412 => (chk ((y412).length + (([(i385 : Int)] : (List Int))).length ≤ 68719476736)).bind fun _ => (chk ((l346).length + (([(y412 ++ ([(i385 : Int)] : (List Int)))] : (List (List Int)))).length ≤ 68719476736)).bind fun _ => some (.nx (l346 ++ ([(y412 ++ ([(i385 : Int)] : (List Int)))] : (List (List Int))))) else some (.nx l346))
def order_All_b2 (l18 : (List (List Int))) (x0 : Int) (i329 : Nat) : (List (List Int)) → Option (Fl ((List (List Int)) × Int) (List (List Int)) (List (List Int))) := fun l234 => (idx l18 (i329 : Int)).bind fun y343 => (chk (x0 ≤ 9223372036854775807)).bind fun _ => bindF (ρ := (List (List Int)) × Int) (β := (List (List Int))) (σ := (List (List Int))) (rangeN (γ := (List (List Int))) (order_All_b3 y343) (x0).toNat 0 l234) fun l346 => some (.nx l346)
def order_All_b1 (x0 : Int) (i223 : Nat) : (List (List Int)) → Option (Fl ((List (List Int)) × Int) (List (List Int)) (List (List Int))) := fun l18 => bindF (ρ := (List (List Int)) × Int) (β := (List (List Int))) (σ := (List (List Int))) (rangeN (γ := (List (List Int))) (order_All_b2 l18 x0) (l18).length 0 ([])) fun l234 => some (.nx l234)
def order_All_m (x0 : Int) : Option ((List (List Int)) × Int) := bindR (ρ := (List (List Int)) × Int) (β := Unit) (σ := Bool) (if decide (x0 < (1 : Int)) then some (.nx true) else some (.nx (decide (x0 > (6 : Int))))) fun x4 => (if x4 then some ([], (1 : Int)) else (chk (x0 ≤ 9223372036854775807)).bind fun _ => bindR (ρ := (List (List Int)) × Int) (β := Unit) (σ := (List (List Int))) (rangeN (γ := Unit) (order_All_b1 x0) (x0).toNat 0 ([[]] : (List (List Int)))) fun l18 => some (l18, (0 : Int)))

def middle_Best_b3 (y6 : (List (List Int)) × Int) (y443 : Int) (i476 : Nat) (y486 : Int) : Int → Option (Fl ((List Int) × Int × Int) Int Int) := fun x453 => (idx y6.1 y486).bind fun y495 => (idx y495 y443).bind fun y498 => some (.nx (wadd x453 y498))
def middle_Best_b2 (y362 : (List Int)) (y6 : (List (List Int)) × Int) (i433 : Nat) (y443 : Int) : Int → Option (Fl ((List Int) × Int × Int) Int Int) := fun x365 => (chk (0 ≤ (wadd (i433 : Int) (1 : Int)) ∧ (wadd (i433 : Int) (1 : Int)) ≤ (y362).length)).bind fun _ => bindF (ρ := (List Int) × Int × Int) (β := Int) (σ := Int) (rangeL (γ := Int) (middle_Best_b3 y6 y443) ((List.take ((y362).length) y362).drop ((wadd (i433 : Int) (1 : Int)).toNat)) 0 x365) fun x453 => some (.nx x453)
def middle_Best_b1 (y13 : (List (List Int)) × Int) (y6 : (List (List Int)) × Int) (i348 : Nat) : (List Int) × Int → Option (Fl ((List Int) × Int × Int) ((List Int) × Int) ((List Int) × Int)) := fun (l178, x180) => (idx y13.1 (i348 : Int)).bind fun y362 => bindF (ρ := (List Int) × Int × Int) (β := (List Int) × Int) (σ := Int) (rangeL (γ := ((List Int) × Int)) (middle_Best_b2 y362 y6) y362 0 (0 : Int)) fun x365 => bindF (ρ := (List Int) × Int × Int) (β := (List Int) × Int) (σ := Bool) (if decide (x180 < (0 : Int)) then some (.nx true) else some (.nx (decide (x365 < x180)))) fun x506 => (if x506 then some (.nx (y362, x365)) else some (.nx (l178, x180)))
def middle_Best_m (x0 : Int) (x1 : (List (List Int))) : Option ((List Int) × Int × Int) := (tally_Duels_m x0 x1).bind fun y6 => (if y6.2 != (0 : Int) then some ([], (0 : Int), y6.2) else (order_All_m x0).bind fun y13 => bindR (ρ := (List Int) × Int × Int) (β := Unit) (σ := (List Int) × Int) (rangeN (γ := Unit) (middle_Best_b1 y13 y6) (y13.1).length 0 ([], (-1 : Int))) fun (l178, x180) => some (l178, x180, (0 : Int)))

end Go.Mo
