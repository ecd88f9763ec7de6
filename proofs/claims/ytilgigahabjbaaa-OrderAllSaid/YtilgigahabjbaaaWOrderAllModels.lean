/- The meaning of each function, as a plain function; printed by a program of this repository. -/
import Derived.Test.YtilgigahabjbaaaFwI
namespace Go.Mo
open Go.Fw
set_option linter.unusedVariables false

/-- feathermark/order.Check -/
def order_Check_b1 (x0 : Int) (i90 : Nat) (y100 : Int) : (List Bool) → Option (Fl Int (List Bool) (List Bool)) := fun l50 => bindF (ρ := Int) (β := (List Bool)) (σ := Bool) (if decide (y100 < (0 : Int)) then some (.nx true) else (if decide (y100 ≥ x0) then some (.nx true) else (idx l50 y100).bind fun y122 => some (.nx y122))) fun x112 => (if x112 then some (.rt (3 : Int)) else (idx l50 y100).bind fun y129 => some (.nx (List.set l50 ((y100).toNat) true)))
def order_Check_m (x0 : Int) (x1 : (List Int)) : Option Int := bindR (ρ := Int) (β := Unit) (σ := Bool) (if decide (x0 < (1 : Int)) then some (.nx true) else some (.nx (decide (x0 > (6 : Int))))) fun x5 => (if x5 then some (1 : Int) else bindR (ρ := Int) (β := Unit) (σ := (List Bool)) (rangeL (γ := Unit) (order_Check_b1 x0) x1 0 (List.replicate 6 false)) fun l50 => (if ((x1).length : Int) != x0 then some (3 : Int) else some (0 : Int)))

/-- slices.Index[[]int,int] -/
def slices_Index_int_int_b1 (x1 : Int) (i16 : Nat) (y26 : Int) : Unit → Option (Fl Int Unit Unit) := fun _ => (if x1 == y26 then some (.rt (i16 : Int)) else some (.nx ()))
def slices_Index_int_int_m (x0 : (List Int)) (x1 : Int) : Option Int := bindR (ρ := Int) (β := Unit) (σ := Unit) (rangeL (γ := Unit) (slices_Index_int_int_b1 x1) x0 0 ()) fun _ => some (-1 : Int)

/-- feathermark/order.Far -/
def order_Far_b2 (x1 : (List Int)) (y89 : Int) (i121 : Nat) (y131 : Int) : Int → Option (Fl (Int × Int) Int Int) := fun x99 => (slices_Index_int_int_m x1 y89).bind fun y139 => (slices_Index_int_int_m x1 y131).bind fun y141 => (if decide (y139 > y141) then some (.nx (wadd x99 (1 : Int))) else some (.nx x99))
def order_Far_b1 (x0 : (List Int)) (x1 : (List Int)) (i79 : Nat) (y89 : Int) : Int → Option (Fl (Int × Int) Int Int) := fun x13 => (chk (0 ≤ (wadd (i79 : Int) (1 : Int)) ∧ (wadd (i79 : Int) (1 : Int)) ≤ (x0).length)).bind fun _ => bindF (ρ := Int × Int) (β := Int) (σ := Int) (rangeL (γ := Int) (order_Far_b2 x1 y89) ((List.take ((x0).length) x0).drop ((wadd (i79 : Int) (1 : Int)).toNat)) 0 x13) fun x99 => some (.nx x99)
def order_Far_m (x0 : (List Int)) (x1 : (List Int)) : Option (Int × Int) := (order_Check_m ((x0).length : Int) x0).bind fun y5 => (if y5 != (0 : Int) then some ((0 : Int), y5) else (order_Check_m ((x0).length : Int) x1).bind fun y10 => (if y10 != (0 : Int) then some ((0 : Int), y10) else bindR (ρ := Int × Int) (β := Unit) (σ := Int) (rangeL (γ := Unit) (order_Far_b1 x0 x1) x0 0 (0 : Int)) fun x13 => some (x13, (0 : Int))))

/-- feathermark/plumekeep.orders -/
def pk_orders_m : Option Bool := (order_Far_m ([(0 : Int), (1 : Int), (2 : Int)] : (List Int)) ([(2 : Int), (0 : Int), (1 : Int)] : (List Int))).bind fun y7 => bindR (ρ := Bool) (β := Unit) (σ := Bool) (if y7.2 == (0 : Int) then some (.nx (y7.1 == (2 : Int))) else some (.nx false)) fun x11 => some x11

/-- feathermark/plumeref.Rest -/
def ref_Rest_m (x0 : Int) (x1 : Int) : Option Int := (chk (x1 ≠ 0)).bind fun _ => bindR (ρ := Int) (β := Unit) (σ := Int) (if decide ((Int.tmod x0 x1) < (0 : Int)) then some (.nx (wadd (Int.tmod x0 x1) x1)) else some (.nx (Int.tmod x0 x1))) fun x8 => some x8

/-- feathermark/plumekeep.Within -/
def pk_Within_m (x0 : Int) (x1 : Int) : Option Int := (ref_Rest_m x0 x1).bind fun y5 => some y5

/-- slices.Contains[[]int,int] -/
def slices_Contains_int_int_m (x0 : (List Int)) (x1 : Int) : Option Bool := (slices_Index_int_int_m x0 x1).bind fun y5 => some (decide (y5 ≥ (0 : Int)))

/-- slices.Clone[[]int,int] -/
def slices_Clone_int_int_m (x0 : List Int) : Option (List Int) := (chk (x0.length ≤ 68719476736)).bind fun _ => some x0

/-- feathermark/order.All -/
def order_All_b3 (y343 : (List Int)) (i385 : Nat) : (List (List Int)) → Option (Fl ((List (List Int)) × Int) (List (List Int)) (List (List Int))) := fun l346 => (slices_Contains_int_int_m y343 (i385 : Int)).bind fun y398 => (if !y398 then (slices_Clone_int_int_m y343).bind fun y412 => (chk ((y412).length + (([(i385 : Int)] : (List Int))).length ≤ 68719476736)).bind fun _ => (chk ((l346).length + (([(y412 ++ ([(i385 : Int)] : (List Int)))] : (List (List Int)))).length ≤ 68719476736)).bind fun _ => some (.nx (l346 ++ ([(y412 ++ ([(i385 : Int)] : (List Int)))] : (List (List Int))))) else some (.nx l346))
def order_All_b2 (l18 : (List (List Int))) (x0 : Int) (i329 : Nat) : (List (List Int)) → Option (Fl ((List (List Int)) × Int) (List (List Int)) (List (List Int))) := fun l234 => (idx l18 (i329 : Int)).bind fun y343 => (chk (x0 ≤ 9223372036854775807)).bind fun _ => bindF (ρ := (List (List Int)) × Int) (β := (List (List Int))) (σ := (List (List Int))) (rangeN (γ := (List (List Int))) (order_All_b3 y343) (x0).toNat 0 l234) fun l346 => some (.nx l346)
def order_All_b1 (x0 : Int) (i223 : Nat) : (List (List Int)) → Option (Fl ((List (List Int)) × Int) (List (List Int)) (List (List Int))) := fun l18 => bindF (ρ := (List (List Int)) × Int) (β := (List (List Int))) (σ := (List (List Int))) (rangeN (γ := (List (List Int))) (order_All_b2 l18 x0) (l18).length 0 ([])) fun l234 => some (.nx l234)
def order_All_m (x0 : Int) : Option ((List (List Int)) × Int) := bindR (ρ := (List (List Int)) × Int) (β := Unit) (σ := Bool) (if decide (x0 < (1 : Int)) then some (.nx true) else some (.nx (decide (x0 > (6 : Int))))) fun x4 => (if x4 then some ([], (1 : Int)) else (chk (x0 ≤ 9223372036854775807)).bind fun _ => bindR (ρ := (List (List Int)) × Int) (β := Unit) (σ := (List (List Int))) (rangeN (γ := Unit) (order_All_b1 x0) (x0).toNat 0 ([[]] : (List (List Int)))) fun l18 => some (l18, (0 : Int)))

/-- feathermark/plumeref.Sides -/
def ref_Sides_b1 (i22 : Nat) : (List Int) → Option (Fl (List Int) (List Int) (List Int)) := fun l2 => (chk ((l2).length + (([(i22 : Int)] : (List Int))).length ≤ 68719476736)).bind fun _ => some (.nx (l2 ++ ([(i22 : Int)] : (List Int))))
def ref_Sides_m (x0 : Int) : Option (List Int) := (chk (x0 ≤ 9223372036854775807)).bind fun _ => bindR (ρ := (List Int)) (β := Unit) (σ := (List Int)) (rangeN (γ := Unit) ref_Sides_b1 (x0).toNat 0 ([])) fun l2 => some l2

/-- slices.Delete[[]int,int] -/
def slices_Delete_int_int_m (x0 : List Int) (x1 x2 : Int) : Option (List Int) := (chk (0 ≤ x1 ∧ x1 ≤ x2 ∧ x2 ≤ (x0.length : Int))).bind fun _ => some (x0.take x1.toNat ++ x0.drop x2.toNat)

/-- feathermark/plumekeep.OrderOf -/
def pk_OrderOf_b1 (x1 : (List Int)) (i69 : Nat) : (List Int) × (List Int) → Option (Fl (List Int) ((List Int) × (List Int)) ((List Int) × (List Int))) := fun (l9, l11) => bindF (ρ := (List Int)) (β := (List Int) × (List Int)) (σ := Int) (if decide ((i69 : Int) < ((x1).length : Int)) then (idx x1 (i69 : Int)).bind fun y102 => (pk_Within_m y102 ((l9).length : Int)).bind fun y104 => some (.nx y104) else some (.nx (0 : Int))) fun x89 => (idx l9 x89).bind fun y114 => (chk ((l11).length + (([y114] : (List Int))).length ≤ 68719476736)).bind fun _ => (slices_Delete_int_int_m l9 x89 (wadd x89 (1 : Int))).bind fun y123 => some (.nx (y123, (l11 ++ ([y114] : (List Int)))))
def pk_OrderOf_m (x0 : Int) (x1 : (List Int)) : Option (List Int) := (ref_Sides_m x0).bind fun y6 => (chk (x0 ≤ 9223372036854775807)).bind fun _ => bindR (ρ := (List Int)) (β := Unit) (σ := (List Int) × (List Int)) (rangeN (γ := Unit) (pk_OrderOf_b1 x1) (x0).toNat 0 (y6, [])) fun (l9, l11) => some l11

/-- cmp.isNaN[int] -/
def cmp_isNaN_int_m (x0 : Int) : Option Bool := some (x0 != x0)

/-- cmp.Compare[int] -/
def cmp_Compare_int_m (x0 : Int) (x1 : Int) : Option Int := (cmp_isNaN_int_m x0).bind fun y5 => (cmp_isNaN_int_m x1).bind fun y9 => (if y5 then (if y9 then some (0 : Int) else some (-1 : Int)) else (if y9 then some (1 : Int) else (if decide (x0 < x1) then some (-1 : Int) else (if decide (x0 > x1) then some (1 : Int) else some (0 : Int)))))

/-- slices.Compare[[]int,int] -/
def slices_Compare_int_int_b1 (x1 : (List Int)) (i25 : Nat) (y35 : Int) : Unit → Option (Fl Int Unit Unit) := fun _ => (if decide ((i25 : Int) ≥ ((x1).length : Int)) then some (.rt (1 : Int)) else (idx x1 (i25 : Int)).bind fun y42 => (cmp_Compare_int_m y35 y42).bind fun y46 => (if y46 != (0 : Int) then some (.rt y46) else some (.nx ())))
def slices_Compare_int_int_m (x0 : (List Int)) (x1 : (List Int)) : Option Int := bindR (ρ := Int) (β := Unit) (σ := Unit) (rangeL (γ := Unit) (slices_Compare_int_int_b1 x1) x0 0 ()) fun _ => (if decide (((x0).length : Int) < ((x1).length : Int)) then some (-1 : Int) else some (0 : Int))

/-- slices.Equal[[]int,int] -/
def slices_Equal_int_int_b1 (x1 : (List Int)) (i21 : Nat) (y31 : Int) : Unit → Option (Fl Bool Unit Unit) := fun _ => (idx x1 (i21 : Int)).bind fun y37 => (if y31 != y37 then some (.rt false) else some (.nx ()))
def slices_Equal_int_int_m (x0 : (List Int)) (x1 : (List Int)) : Option Bool := (if ((x0).length : Int) != ((x1).length : Int) then some false else bindR (ρ := Bool) (β := Unit) (σ := Unit) (rangeL (γ := Unit) (slices_Equal_int_int_b1 x1) x0 0 ()) fun _ => some true)

/-- feathermark/plumekeep.OrderAll -/
def pk_OrderAll_b1 (y10 : Int) : Int × Int → Option (Fl Bool (Int × Int) (Int × Int)) := fun (x24, x25) => (if decide (x25 ≤ (wadd (1 : Int) y10)) then some (.nx (wmul x24 x25, wadd x25 (1 : Int))) else some (.br (x24, x25)))
def pk_OrderAll_b2 (y15 : (List (List Int)) × Int) (y10 : Int) (y21 : (List Int)) (i132 : Nat) : Bool → Option (Fl Bool Bool Bool) := fun x60 => (idx y15.1 (i132 : Int)).bind fun y146 => bindF (ρ := Bool) (β := Bool) (σ := Bool) ((order_Check_m (wadd (1 : Int) y10) y146).bind fun y175 => (if y175 != (0 : Int) then some (.nx true) else (if decide ((i132 : Int) > (0 : Int)) then (idx y15.1 (wsub (i132 : Int) (1 : Int))).bind fun y179 => (slices_Compare_int_int_m y179 y146).bind fun y182 => some (.nx (decide (y182 ≥ (0 : Int)))) else some (.nx false)))) fun x167 => (if x167 then some (.rt false) else bindF (ρ := Bool) (β := Bool) (σ := Bool) (if x60 then some (.nx true) else (slices_Equal_int_int_m y21 y146).bind fun y202 => some (.nx y202)) fun x193 => some (.nx x193))
def pk_OrderAll_m (x0 : Int) (x1 : (List Int)) : Option Bool := (pk_orders_m).bind fun y5 => (if !y5 then some false else (pk_Within_m x0 (6 : Int)).bind fun y10 => (order_All_m (wadd (1 : Int) y10)).bind fun y15 => (pk_OrderOf_m (wadd (1 : Int) y10) x1).bind fun y21 => bindR (ρ := Bool) (β := Unit) (σ := Int × Int) (loopM (γ := Unit) (pk_OrderAll_b1 y10) 1048576 ((1 : Int), (2 : Int))) fun (x24, x25) => bindR (ρ := Bool) (β := Unit) (σ := Bool) (if y15.2 != (0 : Int) then some (.nx true) else some (.nx (((y15.1).length : Int) != x24))) fun x48 => (if x48 then some false else bindR (ρ := Bool) (β := Unit) (σ := Bool) (rangeN (γ := Unit) (pk_OrderAll_b2 y15 y10 y21) (y15.1).length 0 false) fun x60 => some x60))

/- more models, of functions that this law does not call -/
def pk_VotesOf_b1 (x0 : Int) (i39 : Nat) (y49 : (List Int)) : (List (List Int)) → Option (Fl (List (List Int)) (List (List Int)) (List (List Int))) := fun l9 => (pk_OrderOf_m x0 y49).bind fun y62 => (chk ((l9).length + (([y62] : (List (List Int)))).length ≤ 68719476736)).bind fun _ => some (.nx (l9 ++ ([y62] : (List (List Int)))))
def pk_VotesOf_m (x0 : Int) (x1 : (List (List Int))) : Option (List (List Int)) := (chk ((if (30 : Int) < ((x1).length : Int) then (30 : Int) else ((x1).length : Int)) ≤ (x1).length ∧ 0 ≤ (if (30 : Int) < ((x1).length : Int) then (30 : Int) else ((x1).length : Int)))).bind fun _ => bindR (ρ := (List (List Int))) (β := Unit) (σ := (List (List Int))) (rangeL (γ := Unit) (pk_VotesOf_b1 x0) ((List.take ((if (30 : Int) < ((x1).length : Int) then (30 : Int) else ((x1).length : Int)).toNat) x1).drop 0) 0 ([])) fun l9 => some l9

def tally_Check_b1 (x0 : Int) (i37 : Nat) (y47 : (List Int)) : Unit → Option (Fl Int Unit Unit) := fun _ => (order_Check_m x0 y47).bind fun y55 => (if y55 != (0 : Int) then some (.rt (3 : Int)) else some (.nx ()))
def tally_Check_m (x0 : Int) (x1 : (List (List Int))) : Option Int := bindR (ρ := Int) (β := Unit) (σ := Bool) (if decide (x0 < (1 : Int)) then some (.nx true) else some (.nx (decide (x0 > (6 : Int))))) fun x5 => (if x5 then some (1 : Int) else (if decide (((x1).length : Int) > (30 : Int)) then some (2 : Int) else bindR (ρ := Int) (β := Unit) (σ := Unit) (rangeL (γ := Unit) (tally_Check_b1 x0) x1 0 ()) fun _ => some (0 : Int)))

def tally_Duels_b1 (x0 : Int) (i44 : Nat) : (List (List Int)) → Option (Fl ((List (List Int)) × Int) (List (List Int)) (List (List Int))) := fun l24 => (chk (0 ≤ x0 ∧ x0 ≤ 68719476736)).bind fun _ => (idx l24 (i44 : Int)).bind fun y63 => some (.nx (List.set l24 i44 (List.replicate (x0).toNat (0 : Int))))
def tally_Duels_b4 (y809 : Int) (i861 : Nat) (y871 : Int) : (List (List Int)) → Option (Fl ((List (List Int)) × Int) (List (List Int)) (List (List Int))) := fun l835 => (idx l835 y809).bind fun y881 => (idx y881 y871).bind fun y883 => (idx y881 y871).bind fun y885 => some (.nx (List.set l835 ((y809).toNat) (List.set y881 ((y871).toNat) (wadd y883 (1 : Int)))))
def tally_Duels_b3 (y623 : (List Int)) (i799 : Nat) (y809 : Int) : (List (List Int)) → Option (Fl ((List (List Int)) × Int) (List (List Int)) (List (List Int))) := fun l709 => (chk (0 ≤ (wadd (i799 : Int) (1 : Int)) ∧ (wadd (i799 : Int) (1 : Int)) ≤ (y623).length)).bind fun _ => bindF (ρ := (List (List Int)) × Int) (β := (List (List Int))) (σ := (List (List Int))) (rangeL (γ := (List (List Int))) (tally_Duels_b4 y809) ((List.take ((y623).length) y623).drop ((wadd (i799 : Int) (1 : Int)).toNat)) 0 l709) fun l835 => some (.nx l835)
def tally_Duels_b2 (i613 : Nat) (y623 : (List Int)) : (List (List Int)) → Option (Fl ((List (List Int)) × Int) (List (List Int)) (List (List Int))) := fun l335 => bindF (ρ := (List (List Int)) × Int) (β := (List (List Int))) (σ := (List (List Int))) (rangeL (γ := (List (List Int))) (tally_Duels_b3 y623) y623 0 l335) fun l709 => some (.nx l709)
def tally_Duels_m (x0 : Int) (x1 : (List (List Int))) : Option ((List (List Int)) × Int) := (tally_Check_m x0 x1).bind fun y5 => (if y5 != (0 : Int) then some ([], y5) else (chk (0 ≤ x0 ∧ x0 ≤ 68719476736)).bind fun _ => bindR (ρ := (List (List Int)) × Int) (β := Unit) (σ := (List (List Int))) (rangeN (γ := Unit) (tally_Duels_b1 x0) ((List.replicate (x0).toNat ([] : (List Int)))).length 0 (List.replicate (x0).toNat ([] : (List Int)))) fun l24 => bindR (ρ := (List (List Int)) × Int) (β := Unit) (σ := (List (List Int))) (rangeL (γ := Unit) tally_Duels_b2 x1 0 l24) fun l335 => some (l335, (0 : Int)))

end Go.Mo
