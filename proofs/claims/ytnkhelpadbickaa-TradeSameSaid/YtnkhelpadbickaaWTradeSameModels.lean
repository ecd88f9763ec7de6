/- The meaning of each function, as a plain function; printed by a program of this repository. -/
import Derived.Test.YtnkhelpadbickaaFwS
namespace Go.Mo
open Go.Fw
set_option linter.unusedVariables false

/-- feathermark/order.Check -/
def order_Check_b1 (x0 : Int) (i90 : Nat) (y100 : Int) : (List Bool) → Option (Fl Int (List Bool) (List Bool)) := fun l50 => bindF (ρ := Int) (β := (List Bool)) (σ := Bool) (if decide (y100 < (0 : Int)) then some (.nx true) else (if decide (y100 ≥ x0) then some (.nx true) else (idx l50 y100).bind fun y122 => some (.nx y122))) fun x112 => (if x112 then some (.rt (3 : Int)) else (idx l50 y100).bind fun y129 => some (.nx (List.set l50 ((y100).toNat) true)))
def order_Check_m (x0 : Int) (x1 : (List Int)) : Option Int := bindR (ρ := Int) (β := Unit) (σ := Bool) (if decide (x0 < (1 : Int)) then some (.nx true) else some (.nx (decide (x0 > (6 : Int))))) fun x5 => (if x5 then some (1 : Int) else bindR (ρ := Int) (β := Unit) (σ := (List Bool)) (rangeL (γ := Unit) (order_Check_b1 x0) x1 0 (List.replicate 6 false)) fun l50 => (if ((x1).length : Int) != x0 then some (3 : Int) else some (0 : Int)))

/-- feathermark/trade.Check -/
def trade_Check_b1 (x0 : (List (List Int))) (i35 : Nat) (y45 : (List Int)) : Unit → Option (Fl Int Unit Unit) := fun _ => (order_Check_m ((x0).length : Int) y45).bind fun y53 => (if y53 != (0 : Int) then some (.rt (3 : Int)) else some (.nx ()))
def trade_Check_m (x0 : (List (List Int))) : Option Int := bindR (ρ := Int) (β := Unit) (σ := Bool) (if decide (((x0).length : Int) < (1 : Int)) then some (.nx true) else some (.nx (decide (((x0).length : Int) > (6 : Int))))) fun x4 => (if x4 then some (2 : Int) else bindR (ρ := Int) (β := Unit) (σ := Unit) (rangeL (γ := Unit) (trade_Check_b1 x0) x0 0 ()) fun _ => some (0 : Int))

/-- feathermark/trade.Swap$1 -/
def trade_Swap_1_b1 (x2 : (List Int)) (i31 : Nat) (y41 : Int) : Unit → Option (Fl Int Unit Unit) := fun _ => (idx x2 y41).bind fun y49 => (if y49 == (0 : Int) then some (.rt y41) else some (.nx ()))
def trade_Swap_1_m (x0 : Int) (x1 : (List (List Int))) (x2 : (List Int)) : Option Int := (idx x1 x0).bind fun y9 => bindR (ρ := Int) (β := Unit) (σ := Unit) (rangeL (γ := Unit) (trade_Swap_1_b1 x2) y9 0 ()) fun _ => some x0

/-- feathermark/trade.Swap -/
def trade_Swap_b1 (i36 : Nat) : (List Int) → Option (Fl ((List Int) × (List (List Int)) × Int) (List Int) (List Int)) := fun l23 => (idx l23 (i36 : Int)).bind fun y49 => some (.nx (List.set l23 i36 (-1 : Int)))
def trade_Swap_b4 (i658 : Nat) (x0 : (List (List Int))) (l319 : (List Int)) (i694 : Nat) : Int → Option (Fl ((List Int) × (List (List Int)) × Int) Int Int) := fun x678 => (if x678 != (i658 : Int) then (trade_Swap_1_m x678 x0 l319).bind fun y708 => some (.nx y708) else some (.nx x678))
def trade_Swap_b3 (l318 : (List Int)) (x0 : (List (List Int))) (l319 : (List Int)) (i658 : Nat) : (List Int) → Option (Fl ((List Int) × (List (List Int)) × Int) (List Int) (List Int)) := fun l594 => (idx l318 (i658 : Int)).bind fun y671 => (if decide (y671 ≥ (0 : Int)) then some (.nx l594) else (trade_Swap_1_m (i658 : Int) x0 l319).bind fun y676 => (chk (((x0).length : Int) ≤ 9223372036854775807)).bind fun _ => bindF (ρ := (List Int) × (List (List Int)) × Int) (β := (List Int)) (σ := Int) (rangeN (γ := (List Int)) (trade_Swap_b4 i658 x0 l319) (((x0).length : Int)).toNat 0 y676) fun x678 => (if x678 == (i658 : Int) then (chk ((l594).length + (([(i658 : Int)] : (List Int))).length ≤ 68719476736)).bind fun _ => some (.nx (l594 ++ ([(i658 : Int)] : (List Int)))) else some (.nx l594)))
def trade_Swap_b5 (l594 : (List Int)) (x0 : (List (List Int))) (l319 : (List Int)) (i756 : Nat) : (List Int) → Option (Fl ((List Int) × (List (List Int)) × Int) (List Int) (List Int)) := fun l735 => (idx l594 (i756 : Int)).bind fun y769 => (trade_Swap_1_m y769 x0 l319).bind fun y775 => (idx l735 y769).bind fun y777 => some (.nx (List.set l735 ((y769).toNat) y775))
def trade_Swap_b6 (l594 : (List Int)) (l735 : (List Int)) (i814 : Nat) : (List Int) → Option (Fl ((List Int) × (List (List Int)) × Int) (List Int) (List Int)) := fun l793 => (idx l594 (i814 : Int)).bind fun y827 => (idx l735 y827).bind fun y833 => (idx l793 y833).bind fun y835 => some (.nx (List.set l793 ((y833).toNat) (1 : Int)))
def trade_Swap_b2 (x0 : (List (List Int))) : (List Int) × (List Int) × (List (List Int)) × Int → Option (Fl ((List Int) × (List (List Int)) × Int) ((List Int) × (List Int) × (List (List Int)) × Int) ((List Int) × (List Int) × (List (List Int)) × Int)) := fun (l318, l319, l320, x322) => (if decide (x322 > (0 : Int)) then (chk (((x0).length : Int) ≤ 9223372036854775807)).bind fun _ => bindF (ρ := (List Int) × (List (List Int)) × Int) (β := (List Int) × (List Int) × (List (List Int)) × Int) (σ := (List Int)) (rangeN (γ := ((List Int) × (List Int) × (List (List Int)) × Int)) (trade_Swap_b3 l318 x0 l319) (((x0).length : Int)).toNat 0 ([])) fun l594 => bindF (ρ := (List Int) × (List (List Int)) × Int) (β := (List Int) × (List Int) × (List (List Int)) × Int) (σ := (List Int)) (rangeN (γ := ((List Int) × (List Int) × (List (List Int)) × Int)) (trade_Swap_b5 l594 x0 l319) (l594).length 0 l318) fun l735 => bindF (ρ := (List Int) × (List (List Int)) × Int) (β := (List Int) × (List Int) × (List (List Int)) × Int) (σ := (List Int)) (rangeN (γ := ((List Int) × (List Int) × (List (List Int)) × Int)) (trade_Swap_b6 l594 l735) (l594).length 0 l319) fun l793 => (chk ((l320).length + (([l594] : (List (List Int)))).length ≤ 68719476736)).bind fun _ => some (.nx (l735, l793, (l320 ++ ([l594] : (List (List Int)))), wsub x322 ((l594).length : Int))) else some (.br (l318, l319, l320, x322)))
def trade_Swap_m (x0 : (List (List Int))) : Option ((List Int) × (List (List Int)) × Int) := (trade_Check_m x0).bind fun y8 => (if y8 != (0 : Int) then some ([], [], y8) else (chk (0 ≤ ((x0).length : Int) ∧ ((x0).length : Int) ≤ 68719476736)).bind fun _ => bindR (ρ := (List Int) × (List (List Int)) × Int) (β := Unit) (σ := (List Int)) (rangeN (γ := Unit) trade_Swap_b1 ((List.replicate (((x0).length : Int)).toNat (0 : Int))).length 0 (List.replicate (((x0).length : Int)).toNat (0 : Int))) fun l23 => (chk (0 ≤ ((x0).length : Int) ∧ ((x0).length : Int) ≤ 68719476736)).bind fun _ => bindR (ρ := (List Int) × (List (List Int)) × Int) (β := Unit) (σ := (List Int) × (List Int) × (List (List Int)) × Int) (loopM (γ := Unit) (trade_Swap_b2 x0) 1048576 (l23, (List.replicate (((x0).length : Int)).toNat (0 : Int)), [], ((x0).length : Int))) fun (l318, l319, l320, x322) => some (l318, l320, (0 : Int)))

/-- slices.Equal[[]int,int] -/
def slices_Equal_int_int_b1 (x1 : (List Int)) (i21 : Nat) (y31 : Int) : Unit → Option (Fl Bool Unit Unit) := fun _ => (idx x1 (i21 : Int)).bind fun y37 => (if y31 != y37 then some (.rt false) else some (.nx ()))
def slices_Equal_int_int_m (x0 : (List Int)) (x1 : (List Int)) : Option Bool := (if ((x0).length : Int) != ((x1).length : Int) then some false else bindR (ρ := Bool) (β := Unit) (σ := Unit) (rangeL (γ := Unit) (slices_Equal_int_int_b1 x1) x0 0 ()) fun _ => some true)

/-- feathermark/plumekeep.trades -/
def pk_trades_m : Option Bool := (trade_Swap_m ([([(1 : Int), (0 : Int), (2 : Int)] : (List Int)), ([(2 : Int), (0 : Int), (1 : Int)] : (List Int)), ([(0 : Int), (1 : Int), (2 : Int)] : (List Int))] : (List (List Int)))).bind fun y13 => bindR (ρ := Bool) (β := Unit) (σ := Bool) (if y13.2.2 == (0 : Int) then (slices_Equal_int_int_m y13.1 ([(1 : Int), (2 : Int), (0 : Int)] : (List Int))).bind fun y37 => (if y37 then some (.nx (((y13.2.1).length : Int) == (1 : Int))) else some (.nx false)) else some (.nx false)) fun x27 => some x27

/-- feathermark/plumeref.Rest -/
def ref_Rest_m (x0 : Int) (x1 : Int) : Option Int := (chk (x1 ≠ 0)).bind fun _ => bindR (ρ := Int) (β := Unit) (σ := Int) (if decide ((Int.tmod x0 x1) < (0 : Int)) then some (.nx (wadd (Int.tmod x0 x1) x1)) else some (.nx (Int.tmod x0 x1))) fun x8 => some x8

/-- feathermark/plumekeep.Within -/
def pk_Within_m (x0 : Int) (x1 : Int) : Option Int := (ref_Rest_m x0 x1).bind fun y5 => some y5

/-- feathermark/plumeref.Sides -/
def ref_Sides_b1 (i22 : Nat) : (List Int) → Option (Fl (List Int) (List Int) (List Int)) := fun l2 => (chk ((l2).length + (([(i22 : Int)] : (List Int))).length ≤ 68719476736)).bind fun _ => some (.nx (l2 ++ ([(i22 : Int)] : (List Int))))
def ref_Sides_m (x0 : Int) : Option (List Int) := (chk (x0 ≤ 9223372036854775807)).bind fun _ => bindR (ρ := (List Int)) (β := Unit) (σ := (List Int)) (rangeN (γ := Unit) ref_Sides_b1 (x0).toNat 0 ([])) fun l2 => some l2

/-- slices.Delete[[]int,int] -/
def slices_Delete_int_int_m (x0 : List Int) (x1 x2 : Int) : Option (List Int) := (chk (0 ≤ x1 ∧ x1 ≤ x2 ∧ x2 ≤ (x0.length : Int))).bind fun _ => some (x0.take x1.toNat ++ x0.drop x2.toNat)

/-- feathermark/plumekeep.OrderOf -/
def pk_OrderOf_b1 (x1 : (List Int)) (i69 : Nat) : (List Int) × (List Int) → Option (Fl (List Int) ((List Int) × (List Int)) ((List Int) × (List Int))) := fun (l9, l11) => bindF (ρ := (List Int)) (β := (List Int) × (List Int)) (σ := Int) (if decide ((i69 : Int) < ((x1).length : Int)) then (idx x1 (i69 : Int)).bind fun y102 => (pk_Within_m y102 ((l9).length : Int)).bind fun y104 => some (.nx y104) else some (.nx (0 : Int))) fun x89 => (idx l9 x89).bind fun y114 => (chk ((l11).length + (([y114] : (List Int))).length ≤ 68719476736)).bind fun _ => (slices_Delete_int_int_m l9 x89 (wadd x89 (1 : Int))).bind fun y123 => some (.nx (y123, (l11 ++ ([y114] : (List Int)))))
def pk_OrderOf_m (x0 : Int) (x1 : (List Int)) : Option (List Int) := (ref_Sides_m x0).bind fun y6 => (chk (x0 ≤ 9223372036854775807)).bind fun _ => bindR (ρ := (List Int)) (β := Unit) (σ := (List Int) × (List Int)) (rangeN (γ := Unit) (pk_OrderOf_b1 x1) (x0).toNat 0 (y6, [])) fun (l9, l11) => some l11

/-- slices.IndexFunc[[]feathermark/api.Errno,feathermark/api.Errno] -/
def slices_IndexFunc_api_Errno_api_Errno_b1 (g1 : Int → Option Bool) (i20 : Nat) (y30 : Int) : Unit → Option (Fl Int Unit Unit) := fun _ => (g1 y30).bind fun y36 => (if y36 then some (.rt (i20 : Int)) else some (.nx ()))
def slices_IndexFunc_api_Errno_api_Errno_m (x0 : (List Int)) (g1 : Int → Option Bool) : Option Int := bindR (ρ := Int) (β := Unit) (σ := Unit) (rangeL (γ := Unit) (slices_IndexFunc_api_Errno_api_Errno_b1 g1) x0 0 ()) fun _ => some (-1 : Int)

/-- slices.ContainsFunc[[]feathermark/api.Errno,feathermark/api.Errno] -/
def slices_ContainsFunc_api_Errno_api_Errno_m (x0 : (List Int)) (g1 : Int → Option Bool) : Option Bool := (slices_IndexFunc_api_Errno_api_Errno_m x0 g1).bind fun y5 => some (decide (y5 ≥ (0 : Int)))

/-- feathermark/plumekeep.good$1 -/
def pk_good_1_m (x0 : Int) : Option Bool := some (x0 != (0 : Int))

/-- feathermark/plumekeep.good -/
def pk_good_m (x0 : (List Int)) : Option Bool := (slices_ContainsFunc_api_Errno_api_Errno_m x0 (fun a0 => pk_good_1_m a0)).bind fun y4 => some (!y4)

/-- feathermark/plumekeep.TradeSame -/
def pk_TradeSame_b2 (i168 : Nat) (i212 : Nat) (y222 : Int) : (List Int) → Option (Fl Bool (List Int) (List Int)) := fun l189 => (if y222 != (i168 : Int) then (chk ((l189).length + (([y222] : (List Int))).length ≤ 68719476736)).bind fun _ => some (.nx (l189 ++ ([y222] : (List Int)))) else some (.nx l189))
def pk_TradeSame_b1 (y15 : (List Int)) (i168 : Nat) : (List (List Int)) × (List (List Int)) → Option (Fl Bool ((List (List Int)) × (List (List Int))) ((List (List Int)) × (List (List Int)))) := fun (l88, l90) => (chk ((l88).length + (([y15] : (List (List Int)))).length ≤ 68719476736)).bind fun _ => bindF (ρ := Bool) (β := (List (List Int)) × (List (List Int))) (σ := (List Int)) (rangeL (γ := ((List (List Int)) × (List (List Int)))) (pk_TradeSame_b2 i168) y15 0 ([(i168 : Int)] : (List Int))) fun l189 => (chk ((l90).length + (([l189] : (List (List Int)))).length ≤ 68719476736)).bind fun _ => some (.nx ((l88 ++ ([y15] : (List (List Int)))), (l90 ++ ([l189] : (List (List Int))))))
def pk_TradeSame_b3 (y251 : (List Int) × (List (List Int)) × Int) (y259 : (List Int) × (List (List Int)) × Int) (y15 : (List Int)) (i400 : Nat) : Unit → Option (Fl Bool Unit Unit) := fun _ => bindF (ρ := Bool) (β := Unit) (σ := Bool) ((idx y251.1 (i400 : Int)).bind fun y475 => (if y475 != (i400 : Int) then some (.nx true) else (idx y259.1 (i400 : Int)).bind fun y478 => (if y478 != (i400 : Int) then some (.nx true) else (idx y251.2.1 (i400 : Int)).bind fun y481 => (idx y15 (i400 : Int)).bind fun y483 => (slices_Equal_int_int_m y481 ([y483] : (List Int))).bind fun y501 => some (.nx (!y501))))) fun x467 => (if x467 then some (.rt false) else some (.nx ()))
def pk_TradeSame_m (x0 : Int) (x1 : (List Int)) : Option Bool := (pk_trades_m).bind fun y5 => (if !y5 then some false else (pk_Within_m x0 (6 : Int)).bind fun y10 => (pk_OrderOf_m (wadd (1 : Int) y10) x1).bind fun y15 => (chk ((wadd (1 : Int) y10) ≤ 9223372036854775807)).bind fun _ => bindR (ρ := Bool) (β := Unit) (σ := (List (List Int)) × (List (List Int))) (rangeN (γ := Unit) (pk_TradeSame_b1 y15) (wadd (1 : Int) y10).toNat 0 ([], [])) fun (l88, l90) => (trade_Swap_m l88).bind fun y251 => (trade_Swap_m l90).bind fun y259 => bindR (ρ := Bool) (β := Unit) (σ := Bool) ((pk_good_m ([y251.2.2, y259.2.2] : (List Int))).bind fun y286 => (if !y286 then some (.nx true) else (if ((y251.1).length : Int) != (wadd (1 : Int) y10) then some (.nx true) else (if ((y259.1).length : Int) != (wadd (1 : Int) y10) then some (.nx true) else (if ((y251.2.1).length : Int) != (wadd (1 : Int) y10) then some (.nx true) else some (.nx (((y259.2.1).length : Int) != (1 : Int)))))))) fun x277 => (if x277 then some false else (chk ((wadd (1 : Int) y10) ≤ 9223372036854775807)).bind fun _ => bindR (ρ := Bool) (β := Unit) (σ := Unit) (rangeN (γ := Unit) (pk_TradeSame_b3 y251 y259 y15) (wadd (1 : Int) y10).toNat 0 ()) fun _ => some true))

/- more models, of functions that this law does not call -/
def slices_Index_int_int_b1 (x1 : Int) (i17 : Nat) (y27 : Int) : Unit → Option (Fl Int Unit Unit) := fun _ => (if x1 == y27 then some (.rt (i17 : Int)) else some (.nx ()))
def slices_Index_int_int_m (x0 : (List Int)) (x1 : Int) : Option Int := bindR (ρ := Int) (β := Unit) (σ := Unit) (rangeL (γ := Unit) (slices_Index_int_int_b1 x1) x0 0 ()) fun _ => some (-1 : Int)

def slices_Contains_int_int_m (x0 : (List Int)) (x1 : Int) : Option Bool := (slices_Index_int_int_m x0 x1).bind fun y5 => some (decide (y5 ≥ (0 : Int)))

def pk_LikesOf_b1 (x1 : (List (List Int))) (x0 : Int) (i61 : Nat) : (List (List Int)) → Option (Fl (List (List Int)) (List (List Int)) (List (List Int))) := fun l3 => bindF (ρ := (List (List Int))) (β := (List (List Int))) (σ := (List Int)) (if decide ((i61 : Int) < ((x1).length : Int)) then (idx x1 (i61 : Int)).bind fun y99 => some (.nx y99) else some (.nx ([]))) fun l86 => (pk_OrderOf_m x0 l86).bind fun y111 => (chk ((l3).length + (([y111] : (List (List Int)))).length ≤ 68719476736)).bind fun _ => some (.nx (l3 ++ ([y111] : (List (List Int)))))
def pk_LikesOf_m (x0 : Int) (x1 : (List (List Int))) : Option (List (List Int)) := (chk (x0 ≤ 9223372036854775807)).bind fun _ => bindR (ρ := (List (List Int))) (β := Unit) (σ := (List (List Int))) (rangeN (γ := Unit) (pk_LikesOf_b1 x1 x0) (x0).toNat 0 ([])) fun l3 => some l3

end Go.Mo
