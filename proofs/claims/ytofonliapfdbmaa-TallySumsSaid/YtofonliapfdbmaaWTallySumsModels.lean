/- The meaning of each function, as a plain function; printed by a program of this repository. -/
import Derived.Test.YtofonliapfdbmaaFwI
namespace Go.Mo
open Go.Fw
set_option linter.unusedVariables false

/-- feathermark/order.Check -/
def order_Check_b1 (x0 : Int) (i90 : Nat) (y100 : Int) : (List Bool) → Option (Fl Int (List Bool) (List Bool)) := fun l50 => bindF (ρ := Int) (β := (List Bool)) (σ := Bool) (if decide (y100 < (0 : Int)) then some (.nx true) else (if decide (y100 ≥ x0) then some (.nx true) else (idx l50 y100).bind fun y122 => some (.nx y122))) fun x112 => (if x112 then some (.rt (3 : Int)) else (idx l50 y100).bind fun y129 => some (.nx (List.set l50 ((y100).toNat) true)))
def order_Check_m (x0 : Int) (x1 : (List Int)) : Option Int := bindR (ρ := Int) (β := Unit) (σ := Bool) (if decide (x0 < (1 : Int)) then some (.nx true) else some (.nx (decide (x0 > (6 : Int))))) fun x5 => (if x5 then some (1 : Int) else bindR (ρ := Int) (β := Unit) (σ := (List Bool)) (rangeL (γ := Unit) (order_Check_b1 x0) x1 0 (List.replicate 6 false)) fun l50 => (if ((x1).length : Int) != x0 then some (3 : Int) else some (0 : Int)))

/-- feathermark/tally.Check -/
def tally_Check_b1 (x0 : Int) (i37 : Nat) (y47 : (List Int)) : Unit → Option (Fl Int Unit Unit) := fun _ => (order_Check_m x0 y47).bind fun y55 => (if y55 != (0 : Int) then some (.rt (3 : Int)) else some (.nx ()))
def tally_Check_m (x0 : Int) (x1 : (List (List Int))) : Option Int := bindR (ρ := Int) (β := Unit) (σ := Bool) (if decide (x0 < (1 : Int)) then some (.nx true) else some (.nx (decide (x0 > (6 : Int))))) fun x5 => (if x5 then some (1 : Int) else (if decide (((x1).length : Int) > (30 : Int)) then some (2 : Int) else bindR (ρ := Int) (β := Unit) (σ := Unit) (rangeL (γ := Unit) (tally_Check_b1 x0) x1 0 ()) fun _ => some (0 : Int)))

/-- feathermark/tally.Duels -/
def tally_Duels_b1 (x0 : Int) (i44 : Nat) : (List (List Int)) → Option (Fl ((List (List Int)) × Int) (List (List Int)) (List (List Int))) := fun l24 => (chk (0 ≤ x0 ∧ x0 ≤ 68719476736)).bind fun _ => (idx l24 (i44 : Int)).bind fun y63 => some (.nx (List.set l24 i44 (List.replicate (x0).toNat (0 : Int))))
def tally_Duels_b4 (y809 : Int) (i861 : Nat) (y871 : Int) : (List (List Int)) → Option (Fl ((List (List Int)) × Int) (List (List Int)) (List (List Int))) := fun l835 => (idx l835 y809).bind fun y881 => (idx y881 y871).bind fun y883 => (idx y881 y871).bind fun y885 => some (.nx (List.set l835 ((y809).toNat) (List.set y881 ((y871).toNat) (wadd y883 (1 : Int)))))
def tally_Duels_b3 (y623 : (List Int)) (i799 : Nat) (y809 : Int) : (List (List Int)) → Option (Fl ((List (List Int)) × Int) (List (List Int)) (List (List Int))) := fun l709 => (chk (0 ≤ (wadd (i799 : Int) (1 : Int)) ∧ (wadd (i799 : Int) (1 : Int)) ≤ (y623).length)).bind fun _ => bindF (ρ := (List (List Int)) × Int) (β := (List (List Int))) (σ := (List (List Int))) (rangeL (γ := (List (List Int))) (tally_Duels_b4 y809) ((List.take ((y623).length) y623).drop ((wadd (i799 : Int) (1 : Int)).toNat)) 0 l709) fun l835 => some (.nx l835)
def tally_Duels_b2 (i613 : Nat) (y623 : (List Int)) : (List (List Int)) → Option (Fl ((List (List Int)) × Int) (List (List Int)) (List (List Int))) := fun l335 => bindF (ρ := (List (List Int)) × Int) (β := (List (List Int))) (σ := (List (List Int))) (rangeL (γ := (List (List Int))) (tally_Duels_b3 y623) y623 0 l335) fun l709 => some (.nx l709)
def tally_Duels_m (x0 : Int) (x1 : (List (List Int))) : Option ((List (List Int)) × Int) := (tally_Check_m x0 x1).bind fun y5 => (if y5 != (0 : Int) then some ([], y5) else (chk (0 ≤ x0 ∧ x0 ≤ 68719476736)).bind fun _ => bindR (ρ := (List (List Int)) × Int) (β := Unit) (σ := (List (List Int))) (rangeN (γ := Unit) (tally_Duels_b1 x0) ((List.replicate (x0).toNat ([] : (List Int)))).length 0 (List.replicate (x0).toNat ([] : (List Int)))) fun l24 => bindR (ρ := (List (List Int)) × Int) (β := Unit) (σ := (List (List Int))) (rangeL (γ := Unit) tally_Duels_b2 x1 0 l24) fun l335 => some (l335, (0 : Int)))

/-- feathermark/tally.Beater -/
def tally_Beater_b2 (i137 : Nat) (y6 : (List (List Int)) × Int) (i205 : Nat) : Bool → Option (Fl (Int × Int) Bool Bool) := fun x148 => bindF (ρ := Int × Int) (β := Bool) (σ := Bool) (if x148 then (if (i137 : Int) == (i205 : Int) then some (.nx true) else (idx y6.1 (i137 : Int)).bind fun y250 => (idx y250 (i205 : Int)).bind fun y253 => (idx y6.1 (i205 : Int)).bind fun y255 => (idx y255 (i137 : Int)).bind fun y258 => some (.nx (decide (y253 > y258)))) else some (.nx false)) fun x240 => some (.nx x240)
def tally_Beater_b1 (x0 : Int) (y6 : (List (List Int)) × Int) (i137 : Nat) : Unit → Option (Fl (Int × Int) Unit Unit) := fun _ => (chk (x0 ≤ 9223372036854775807)).bind fun _ => bindF (ρ := Int × Int) (β := Unit) (σ := Bool) (rangeN (γ := Unit) (tally_Beater_b2 i137 y6) (x0).toNat 0 true) fun x148 => (if x148 then some (.rt ((i137 : Int), (0 : Int))) else some (.nx ()))
def tally_Beater_m (x0 : Int) (x1 : (List (List Int))) : Option (Int × Int) := (tally_Duels_m x0 x1).bind fun y6 => (if y6.2 != (0 : Int) then some ((0 : Int), y6.2) else (chk (x0 ≤ 9223372036854775807)).bind fun _ => bindR (ρ := Int × Int) (β := Unit) (σ := Unit) (rangeN (γ := Unit) (tally_Beater_b1 x0 y6) (x0).toNat 0 ()) fun _ => some ((0 : Int), (4 : Int)))

/-- feathermark/tally.Points -/
def tally_Points_b2 (x0 : Int) (i202 : Nat) (y212 : Int) : (List Int) → Option (Fl ((List Int) × Int) (List Int) (List Int)) := fun l180 => (idx l180 y212).bind fun y220 => (idx l180 y212).bind fun y222 => some (.nx (List.set l180 ((y212).toNat) (wadd y220 (wsub (wsub x0 (1 : Int)) (i202 : Int)))))
def tally_Points_b1 (x0 : Int) (i152 : Nat) (y162 : (List Int)) : (List Int) → Option (Fl ((List Int) × Int) (List Int) (List Int)) := fun l78 => bindF (ρ := (List Int) × Int) (β := (List Int)) (σ := (List Int)) (rangeL (γ := (List Int)) (tally_Points_b2 x0) y162 0 l78) fun l180 => some (.nx l180)
def tally_Points_m (x0 : Int) (x1 : (List (List Int))) : Option ((List Int) × Int) := (tally_Check_m x0 x1).bind fun y5 => (if y5 != (0 : Int) then some ([], y5) else (chk (0 ≤ x0 ∧ x0 ≤ 68719476736)).bind fun _ => bindR (ρ := (List Int) × Int) (β := Unit) (σ := (List Int)) (rangeL (γ := Unit) (tally_Points_b1 x0) x1 0 (List.replicate (x0).toNat (0 : Int))) fun l78 => some (l78, (0 : Int)))

/-- slices.IndexFunc[[]feathermark/api.Errno,feathermark/api.Errno] -/
def slices_IndexFunc_api_Errno_api_Errno_b1 (g1 : Int → Option Bool) (i20 : Nat) (y30 : Int) : Unit → Option (Fl Int Unit Unit) := fun _ => (g1 y30).bind fun y36 => (if y36 then some (.rt (i20 : Int)) else some (.nx ()))
def slices_IndexFunc_api_Errno_api_Errno_m (x0 : (List Int)) (g1 : Int → Option Bool) : Option Int := bindR (ρ := Int) (β := Unit) (σ := Unit) (rangeL (γ := Unit) (slices_IndexFunc_api_Errno_api_Errno_b1 g1) x0 0 ()) fun _ => some (-1 : Int)

/-- slices.ContainsFunc[[]feathermark/api.Errno,feathermark/api.Errno] -/
def slices_ContainsFunc_api_Errno_api_Errno_m (x0 : (List Int)) (g1 : Int → Option Bool) : Option Bool := (slices_IndexFunc_api_Errno_api_Errno_m x0 g1).bind fun y5 => some (decide (y5 ≥ (0 : Int)))

/-- feathermark/plumekeep.good$1 -/
def pk_good_1_m (x0 : Int) : Option Bool := some (x0 != (0 : Int))

/-- feathermark/plumekeep.good -/
def pk_good_m (x0 : (List Int)) : Option Bool := (slices_ContainsFunc_api_Errno_api_Errno_m x0 (fun a0 => pk_good_1_m a0)).bind fun y4 => some (!y4)

/-- slices.Equal[[]int,int] -/
def slices_Equal_int_int_b1 (x1 : (List Int)) (i21 : Nat) (y31 : Int) : Unit → Option (Fl Bool Unit Unit) := fun _ => (idx x1 (i21 : Int)).bind fun y37 => (if y31 != y37 then some (.rt false) else some (.nx ()))
def slices_Equal_int_int_m (x0 : (List Int)) (x1 : (List Int)) : Option Bool := (if ((x0).length : Int) != ((x1).length : Int) then some false else bindR (ρ := Bool) (β := Unit) (σ := Unit) (rangeL (γ := Unit) (slices_Equal_int_int_b1 x1) x0 0 ()) fun _ => some true)

/-- feathermark/plumekeep.tallies -/
def pk_tallies_m : Option Bool := (tally_Beater_m (3 : Int) ([([(0 : Int), (1 : Int), (2 : Int)] : (List Int)), ([(1 : Int), (2 : Int), (0 : Int)] : (List Int)), ([(1 : Int), (0 : Int), (2 : Int)] : (List Int))] : (List (List Int)))).bind fun y11 => (tally_Points_m (3 : Int) ([([(0 : Int), (1 : Int), (2 : Int)] : (List Int)), ([(1 : Int), (2 : Int), (0 : Int)] : (List Int)), ([(1 : Int), (0 : Int), (2 : Int)] : (List Int))] : (List (List Int)))).bind fun y16 => bindR (ρ := Bool) (β := Unit) (σ := Bool) ((pk_good_m ([y11.2, y16.2] : (List Int))).bind fun y44 => (if y44 then (if y11.1 == (1 : Int) then (slices_Equal_int_int_m y16.1 ([(3 : Int), (5 : Int), (1 : Int)] : (List Int))).bind fun y49 => some (.nx y49) else some (.nx false)) else some (.nx false))) fun x35 => some x35

/-- feathermark/plumeref.Rest -/
def ref_Rest_m (x0 : Int) (x1 : Int) : Option Int := (chk (x1 ≠ 0)).bind fun _ => bindR (ρ := Int) (β := Unit) (σ := Int) (if decide ((Int.tmod x0 x1) < (0 : Int)) then some (.nx (wadd (Int.tmod x0 x1) x1)) else some (.nx (Int.tmod x0 x1))) fun x8 => some x8

/-- feathermark/plumekeep.Within -/
def pk_Within_m (x0 : Int) (x1 : Int) : Option Int := (ref_Rest_m x0 x1).bind fun y5 => some y5

/-- feathermark/plumeref.Sides -/
def ref_Sides_b1 (i22 : Nat) : (List Int) → Option (Fl (List Int) (List Int) (List Int)) := fun l2 => (chk ((l2).length + (([(i22 : Int)] : (List Int))).length ≤ 68719476736)).bind fun _ => some (.nx (l2 ++ ([(i22 : Int)] : (List Int))))
def ref_Sides_m (x0 : Int) : Option (List Int) := (chk (x0 ≤ 9223372036854775807)).bind fun _ => bindR (ρ := (List Int)) (β := Unit) (σ := (List Int)) (rangeN (γ := Unit) ref_Sides_b1 (x0).toNat 0 ([])) fun l2 => some l2

/-- slices.Delete[[]int,int] -/
def slices_Delete_int_int_m (x0 : List Int) (x1 x2 : Int) : Option (List Int) := (chk (0 ≤ x1 ∧ x1 ≤ x2 ∧ x2 ≤ (x0.length : Int))).bind fun _ => some (x0.take x1.toNat ++ x0.drop x2.toNat)

/-- feathermark/plumekeep.OrderOf -/
def pk_OrderOf_b1 (x1 : (List Int)) (i69 : Nat) : (List Int) × (List Int) → Option (Fl (List Int) ((List Int) × (List Int)) ((List Int) × (List Int))) := fun (l9, l11) => bindF (ρ := (List Int)) (β := (List Int) × (List Int)) (σ := Int) (if decide ((i69 : Int) < ((x1).length : Int)) then (idx x1 (i69 : Int)).bind fun y102 => (pk_Within_m y102 ((l9).length : Int)).bind fun y104 => some (.nx y104) else some (.nx (0 : Int))) fun x89 => (idx l9 x89).bind fun y114 => (chk ((l11).length + (([y114] : (List Int))).length ≤ 68719476736)).bind fun _ => (slices_Delete_int_int_m l9 x89 (wadd x89 (1 : Int))).bind fun y123 => some (.nx (y123, (l11 ++ ([y114] : (List Int)))))
def pk_OrderOf_m (x0 : Int) (x1 : (List Int)) : Option (List Int) := (ref_Sides_m x0).bind fun y6 => (chk (x0 ≤ 9223372036854775807)).bind fun _ => bindR (ρ := (List Int)) (β := Unit) (σ := (List Int) × (List Int)) (rangeN (γ := Unit) (pk_OrderOf_b1 x1) (x0).toNat 0 (y6, [])) fun (l9, l11) => some l11

/-- feathermark/plumekeep.VotesOf -/
def pk_VotesOf_b1 (x0 : Int) (i39 : Nat) (y49 : (List Int)) : (List (List Int)) → Option (Fl (List (List Int)) (List (List Int)) (List (List Int))) := fun l9 => (pk_OrderOf_m x0 y49).bind fun y62 => (chk ((l9).length + (([y62] : (List (List Int)))).length ≤ 68719476736)).bind fun _ => some (.nx (l9 ++ ([y62] : (List (List Int)))))
def pk_VotesOf_m (x0 : Int) (x1 : (List (List Int))) : Option (List (List Int)) := (chk ((if (30 : Int) < ((x1).length : Int) then (30 : Int) else ((x1).length : Int)) ≤ (x1).length ∧ 0 ≤ (if (30 : Int) < ((x1).length : Int) then (30 : Int) else ((x1).length : Int)))).bind fun _ => bindR (ρ := (List (List Int))) (β := Unit) (σ := (List (List Int))) (rangeL (γ := Unit) (pk_VotesOf_b1 x0) ((List.take ((if (30 : Int) < ((x1).length : Int) then (30 : Int) else ((x1).length : Int)).toNat) x1).drop 0) 0 ([])) fun l9 => some l9

/-- feathermark/tally.Firsts -/
def tally_Firsts_b1 (i60 : Nat) (y70 : (List Int)) : (List Int) → Option (Fl ((List Int) × Int) (List Int) (List Int)) := fun l32 => (idx y70 (0 : Int)).bind fun y82 => (idx l32 y82).bind fun y84 => (idx l32 y82).bind fun y86 => some (.nx (List.set l32 ((y82).toNat) (wadd y84 (1 : Int))))
def tally_Firsts_m (x0 : Int) (x1 : (List (List Int))) : Option ((List Int) × Int) := (tally_Check_m x0 x1).bind fun y5 => (if y5 != (0 : Int) then some ([], y5) else (chk (0 ≤ x0 ∧ x0 ≤ 68719476736)).bind fun _ => bindR (ρ := (List Int) × Int) (β := Unit) (σ := (List Int)) (rangeL (γ := Unit) tally_Firsts_b1 x1 0 (List.replicate (x0).toNat (0 : Int))) fun l32 => some (l32, (0 : Int)))

/-- feathermark/plumekeep.TallySums -/
def pk_TallySums_b2 (y21 : (List (List Int)) × Int) (i269 : Nat) (y10 : Int) (y15 : (List (List Int))) (i364 : Nat) : Int → Option (Fl Bool Int Int) := fun x287 => (idx y21.1 (i269 : Int)).bind fun y380 => (idx y380 (i364 : Int)).bind fun y383 => bindF (ρ := Bool) (β := Int) (σ := Bool) ((idx y21.1 (i364 : Int)).bind fun y423 => (if ((y423).length : Int) != (wadd (1 : Int) y10) then some (.nx true) else (if (i269 : Int) != (i364 : Int) then (idx y21.1 (i269 : Int)).bind fun y428 => (idx y428 (i364 : Int)).bind fun y431 => (idx y21.1 (i364 : Int)).bind fun y433 => (idx y433 (i269 : Int)).bind fun y436 => some (.nx ((wadd y431 y436) != ((y15).length : Int))) else some (.nx false)))) fun x415 => (if x415 then some (.rt false) else some (.nx (wadd x287 y383)))
def pk_TallySums_b1 (y21 : (List (List Int)) × Int) (y10 : Int) (y15 : (List (List Int))) (y33 : (List Int) × Int) (y27 : (List Int) × Int) (i269 : Nat) : Int → Option (Fl Bool Int Int) := fun x65 => (idx y21.1 (i269 : Int)).bind fun y283 => (if ((y283).length : Int) != (wadd (1 : Int) y10) then some (.rt false) else (chk ((wadd (1 : Int) y10) ≤ 9223372036854775807)).bind fun _ => bindF (ρ := Bool) (β := Int) (σ := Int) (rangeN (γ := Int) (pk_TallySums_b2 y21 i269 y10 y15) (wadd (1 : Int) y10).toNat 0 (0 : Int)) fun x287 => (idx y33.1 (i269 : Int)).bind fun y445 => bindF (ρ := Bool) (β := Int) (σ := Bool) ((idx y27.1 (i269 : Int)).bind fun y465 => (if x287 != y465 then some (.nx true) else (idx y33.1 (i269 : Int)).bind fun y468 => some (.nx (decide (y468 < (0 : Int)))))) fun x457 => (if x457 then some (.rt false) else some (.nx (wadd x65 y445))))
def pk_TallySums_m (x0 : Int) (x1 : (List (List Int))) : Option Bool := (pk_tallies_m).bind fun y5 => (if !y5 then some false else (pk_Within_m x0 (6 : Int)).bind fun y10 => (pk_VotesOf_m (wadd (1 : Int) y10) x1).bind fun y15 => (tally_Duels_m (wadd (1 : Int) y10) y15).bind fun y21 => (tally_Points_m (wadd (1 : Int) y10) y15).bind fun y27 => (tally_Firsts_m (wadd (1 : Int) y10) y15).bind fun y33 => bindR (ρ := Bool) (β := Unit) (σ := Bool) ((pk_good_m ([y21.2, y27.2, y33.2] : (List Int))).bind fun y57 => (if !y57 then some (.nx true) else (if ((y21.1).length : Int) != (wadd (1 : Int) y10) then some (.nx true) else (if ((y27.1).length : Int) != (wadd (1 : Int) y10) then some (.nx true) else some (.nx (((y33.1).length : Int) != (wadd (1 : Int) y10))))))) fun x48 => (if x48 then some false else (chk ((wadd (1 : Int) y10) ≤ 9223372036854775807)).bind fun _ => bindR (ρ := Bool) (β := Unit) (σ := Int) (rangeN (γ := Unit) (pk_TallySums_b1 y21 y10 y15 y33 y27) (wadd (1 : Int) y10).toNat 0 (0 : Int)) fun x65 => some (x65 == ((y15).length : Int))))

/- more models, of functions that this law does not call -/
def slices_Index_int_int_b1 (x1 : Int) (i16 : Nat) (y26 : Int) : Unit → Option (Fl Int Unit Unit) := fun _ => (if x1 == y26 then some (.rt (i16 : Int)) else some (.nx ()))
def slices_Index_int_int_m (x0 : (List Int)) (x1 : Int) : Option Int := bindR (ρ := Int) (β := Unit) (σ := Unit) (rangeL (γ := Unit) (slices_Index_int_int_b1 x1) x0 0 ()) fun _ => some (-1 : Int)

def order_Far_b2 (x1 : (List Int)) (y89 : Int) (i121 : Nat) (y131 : Int) : Int → Option (Fl (Int × Int) Int Int) := fun x99 => (slices_Index_int_int_m x1 y89).bind fun y139 => (slices_Index_int_int_m x1 y131).bind fun y141 => (if decide (y139 > y141) then some (.nx (wadd x99 (1 : Int))) else some (.nx x99))
def order_Far_b1 (x0 : (List Int)) (x1 : (List Int)) (i79 : Nat) (y89 : Int) : Int → Option (Fl (Int × Int) Int Int) := fun x13 => (chk (0 ≤ (wadd (i79 : Int) (1 : Int)) ∧ (wadd (i79 : Int) (1 : Int)) ≤ (x0).length)).bind fun _ => bindF (ρ := Int × Int) (β := Int) (σ := Int) (rangeL (γ := Int) (order_Far_b2 x1 y89) ((List.take ((x0).length) x0).drop ((wadd (i79 : Int) (1 : Int)).toNat)) 0 x13) fun x99 => some (.nx x99)
def order_Far_m (x0 : (List Int)) (x1 : (List Int)) : Option (Int × Int) := (order_Check_m ((x0).length : Int) x0).bind fun y5 => (if y5 != (0 : Int) then some ((0 : Int), y5) else (order_Check_m ((x0).length : Int) x1).bind fun y10 => (if y10 != (0 : Int) then some ((0 : Int), y10) else bindR (ρ := Int × Int) (β := Unit) (σ := Int) (rangeL (γ := Unit) (order_Far_b1 x0 x1) x0 0 (0 : Int)) fun x13 => some (x13, (0 : Int))))

def pk_orders_m : Option Bool := (order_Far_m ([(0 : Int), (1 : Int), (2 : Int)] : (List Int)) ([(2 : Int), (0 : Int), (1 : Int)] : (List Int))).bind fun y7 => bindR (ρ := Bool) (β := Unit) (σ := Bool) (if y7.2 == (0 : Int) then some (.nx (y7.1 == (2 : Int))) else some (.nx false)) fun x11 => some x11

def slices_Contains_int_int_m (x0 : (List Int)) (x1 : Int) : Option Bool := (slices_Index_int_int_m x0 x1).bind fun y5 => some (decide (y5 ≥ (0 : Int)))

end Go.Mo
