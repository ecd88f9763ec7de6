/- The meaning of each function, as a plain function; printed by a program of this repository. -/
import Derived.Test.YtflbneojjnpegaaFwS
namespace Go.Mo
open Go.Fw
set_option linter.unusedVariables false

/-- feathermark/ledger.named -/
def ledger_named_b1 (i34 : Nat) (y44 : Int) : Unit → Option (Fl Bool Unit Unit) := fun _ => bindF (ρ := Bool) (β := Unit) (σ := Bool) (if decide (y44 < (97 : Int)) then some (.nx true) else some (.nx (decide (y44 > (122 : Int))))) fun x50 => (if x50 then some (.rt false) else some (.nx ()))
def ledger_named_m (x0 : (List UInt8)) : Option Bool := (chk ((x0).length ≤ 9223372036854775807)).bind fun _ => bindR (ρ := Bool) (β := Unit) (σ := Unit) (rangeL (γ := Unit) ledger_named_b1 (intsOf x0) 0 ()) fun _ => bindR (ρ := Bool) (β := Unit) (σ := Bool) (if decide (((x0).length : Int) > (0 : Int)) then some (.nx (decide (((x0).length : Int) ≤ (8 : Int)))) else some (.nx false)) fun x66 => some x66

/-- feathermark/ledger.Right -/
def ledger_Right_m (x0 : ((List UInt8) × ((List UInt8) × (Int × (Int × (Int × Int)))))) : Option Int := bindR (ρ := Int) (β := Unit) (σ := Bool) ((ledger_named_m x0.1).bind fun y24 => (if !y24 then some (.nx true) else (ledger_named_m x0.2.1).bind fun y27 => (if !y27 then some (.nx true) else some (.nx (x0.1 == x0.2.1))))) fun x16 => (if x16 then some (3 : Int) else bindR (ρ := Int) (β := Unit) (σ := Bool) (if decide (x0.2.2.1 < (0 : Int)) then some (.nx true) else (if decide (x0.2.2.1 > (1000000 : Int)) then some (.nx true) else (if decide (x0.2.2.2.1 < (0 : Int)) then some (.nx true) else (if decide (x0.2.2.2.1 > (1000000 : Int)) then some (.nx true) else (if decide (x0.2.2.2.2.1 < (0 : Int)) then some (.nx true) else (if decide (x0.2.2.2.2.1 > (1000000 : Int)) then some (.nx true) else (if decide (x0.2.2.2.2.2 < (1 : Int)) then some (.nx true) else some (.nx (decide (x0.2.2.2.2.2 > (100 : Int))))))))))) fun x47 => (if x47 then some (1 : Int) else some (0 : Int)))

/-- slices.IndexFunc[[]feathermark/api.Deal,feathermark/api.Deal] -/
def slices_IndexFunc_api_Deal_api_Deal_b1 (g1 : ((List UInt8) × ((List UInt8) × (Int × (Int × (Int × Int))))) → Option Bool) (i22 : Nat) (y32 : ((List UInt8) × ((List UInt8) × (Int × (Int × (Int × Int)))))) : Unit → Option (Fl Int Unit Unit) := fun _ => (g1 y32).bind fun y40 => (if y40 then some (.rt (i22 : Int)) else some (.nx ()))
def slices_IndexFunc_api_Deal_api_Deal_m (x0 : (List ((List UInt8) × ((List UInt8) × (Int × (Int × (Int × Int))))))) (g1 : ((List UInt8) × ((List UInt8) × (Int × (Int × (Int × Int))))) → Option Bool) : Option Int := bindR (ρ := Int) (β := Unit) (σ := Unit) (rangeL (γ := Unit) (slices_IndexFunc_api_Deal_api_Deal_b1 g1) x0 0 ()) fun _ => some (-1 : Int)

/-- feathermark/queue.find$1 -/
def queue_find_1_m (x0 : ((List UInt8) × ((List UInt8) × (Int × (Int × (Int × Int)))))) (x1 : (List UInt8)) (x2 : Int) : Option Bool := bindR (ρ := Bool) (β := Unit) (σ := Bool) (if x0.1 == x1 then some (.nx (x0.2.2.1 == x2)) else some (.nx false)) fun x8 => some x8

/-- feathermark/queue.find -/
def queue_find_m (x0 : (List ((List UInt8) × ((List UInt8) × (Int × (Int × (Int × Int))))))) (x1 : (List UInt8)) (x2 : Int) : Option Int := (slices_IndexFunc_api_Deal_api_Deal_m x0 (fun a0 => queue_find_1_m a0 x1 x2)).bind fun y10 => some y10

/-- feathermark/queue.Check -/
def queue_Check_b1 (x0 : (List ((List UInt8) × ((List UInt8) × (Int × (Int × (Int × Int))))))) (i37 : Nat) (y47 : ((List UInt8) × ((List UInt8) × (Int × (Int × (Int × Int)))))) : Unit → Option (Fl Int Unit Unit) := fun _ => (ledger_Right_m y47).bind fun y59 => (if y59 != (0 : Int) then some (.rt y59) else (chk ((i37 : Int) ≤ (x0).length ∧ 0 ≤ (i37 : Int))).bind fun _ => (queue_find_m ((List.take (((i37 : Int)).toNat) x0).drop 0) y47.1 y47.2.2.1).bind fun y70 => (if decide (y70 ≥ (0 : Int)) then some (.rt (7 : Int)) else some (.nx ())))
def queue_Check_m (x0 : (List ((List UInt8) × ((List UInt8) × (Int × (Int × (Int × Int))))))) : Option Int := (if decide (((x0).length : Int) > (20 : Int)) then some (2 : Int) else bindR (ρ := Int) (β := Unit) (σ := Unit) (rangeL (γ := Unit) (queue_Check_b1 x0) x0 0 ()) fun _ => some (0 : Int))

/-- slices.Clone[[]feathermark/api.Deal,feathermark/api.Deal] -/
def slices_Clone_api_Deal_api_Deal_m (x0 : List ((List UInt8) × ((List UInt8) × (Int × (Int × (Int × Int)))))) : Option (List ((List UInt8) × ((List UInt8) × (Int × (Int × (Int × Int)))))) := (chk (x0.length ≤ 68719476736)).bind fun _ => some x0

/-- feathermark/queue.Add -/
def queue_Add_m (x0 : (List ((List UInt8) × ((List UInt8) × (Int × (Int × (Int × Int))))))) (x1 : ((List UInt8) × ((List UInt8) × (Int × (Int × (Int × Int)))))) : Option ((List ((List UInt8) × ((List UInt8) × (Int × (Int × (Int × Int)))))) × Int) := (queue_Check_m x0).bind fun y7 => (if y7 != (0 : Int) then some ([], y7) else (ledger_Right_m x1).bind fun y14 => (if y14 != (0 : Int) then some ([], y14) else (queue_find_m x0 x1.1 x1.2.2.1).bind fun y19 => (if decide (y19 ≥ (0 : Int)) then (idx x0 y19).bind fun y24 => (if decide (x1.2.2.2.2.1 ≤ y24.2.2.2.2.1) then some ([], (7 : Int)) else (slices_Clone_api_Deal_api_Deal_m x0).bind fun y30 => (idx y30 y19).bind fun y37 => some ((List.set y30 ((y19).toNat) x1), (0 : Int))) else (if ((x0).length : Int) == (20 : Int) then some ([], (8 : Int)) else (slices_Clone_api_Deal_api_Deal_m x0).bind fun y65 => (chk ((y65).length + (([x1] : (List ((List UInt8) × ((List UInt8) × (Int × (Int × (Int × Int)))))))).length ≤ 68719476736)).bind fun _ => some ((y65 ++ ([x1] : (List ((List UInt8) × ((List UInt8) × (Int × (Int × (Int × Int)))))))), (0 : Int))))))

/-- slices.IndexFunc[[]feathermark/api.Errno,feathermark/api.Errno] -/
def slices_IndexFunc_api_Errno_api_Errno_b1 (g1 : Int → Option Bool) (i20 : Nat) (y30 : Int) : Unit → Option (Fl Int Unit Unit) := fun _ => (g1 y30).bind fun y36 => (if y36 then some (.rt (i20 : Int)) else some (.nx ()))
def slices_IndexFunc_api_Errno_api_Errno_m (x0 : (List Int)) (g1 : Int → Option Bool) : Option Int := bindR (ρ := Int) (β := Unit) (σ := Unit) (rangeL (γ := Unit) (slices_IndexFunc_api_Errno_api_Errno_b1 g1) x0 0 ()) fun _ => some (-1 : Int)

/-- slices.ContainsFunc[[]feathermark/api.Errno,feathermark/api.Errno] -/
def slices_ContainsFunc_api_Errno_api_Errno_m (x0 : (List Int)) (g1 : Int → Option Bool) : Option Bool := (slices_IndexFunc_api_Errno_api_Errno_m x0 g1).bind fun y5 => some (decide (y5 ≥ (0 : Int)))

/-- feathermark/plumekeep.good$1 -/
def pk_good_1_m (x0 : Int) : Option Bool := some (x0 != (0 : Int))

/-- feathermark/plumekeep.good -/
def pk_good_m (x0 : (List Int)) : Option Bool := (slices_ContainsFunc_api_Errno_api_Errno_m x0 (fun a0 => pk_good_1_m a0)).bind fun y4 => some (!y4)

/-- feathermark/plumekeep.queues -/
def pk_queues_m : Option Bool := (queue_Add_m ([] : (List ((List UInt8) × ((List UInt8) × (Int × (Int × (Int × Int))))))) ((([97] : List UInt8), ([98] : List UInt8), (0 : Int), (0 : Int), (1 : Int), (1 : Int)) : ((List UInt8) × ((List UInt8) × (Int × (Int × (Int × Int))))))).bind fun y6 => (queue_Add_m y6.1 ((([97] : List UInt8), ([98] : List UInt8), (0 : Int), (0 : Int), (2 : Int), (1 : Int)) : ((List UInt8) × ((List UInt8) × (Int × (Int × (Int × Int))))))).bind fun y14 => (queue_Add_m y14.1 ((([97] : List UInt8), ([98] : List UInt8), (0 : Int), (0 : Int), (2 : Int), (3 : Int)) : ((List UInt8) × ((List UInt8) × (Int × (Int × (Int × Int))))))).bind fun y22 => bindR (ρ := Bool) (β := Unit) (σ := Bool) ((pk_good_m ([y6.2, y14.2] : (List Int))).bind fun y50 => (if y50 then (if y22.2 == (7 : Int) then (if ((y14.1).length : Int) == (1 : Int) then (idx y14.1 (0 : Int)).bind fun y55 => some (.nx (y55.2.2.2.2.1 == (2 : Int))) else some (.nx false)) else some (.nx false)) else some (.nx false))) fun x41 => some x41

/-- feathermark/ledger.Check -/
def ledger_Check_b1 (x0 : (List ((List UInt8) × (Int × Int)))) (i68 : Nat) (y78 : ((List UInt8) × (Int × Int))) : Unit → Option (Fl Int Unit Unit) := fun _ => bindF (ρ := Int) (β := Unit) (σ := Bool) ((ledger_named_m y78.1).bind fun y106 => (if !y106 then some (.nx true) else (if decide ((i68 : Int) > (0 : Int)) then (idx x0 (wsub (i68 : Int) (1 : Int))).bind fun y110 => some (.nx (bls y78.1 y110.1 || y78.1 == y110.1)) else some (.nx false)))) fun x98 => (if x98 then some (.rt (3 : Int)) else bindF (ρ := Int) (β := Unit) (σ := Bool) (if decide (y78.2.1 < (0 : Int)) then some (.nx true) else (if decide (y78.2.1 > (1000000 : Int)) then some (.nx true) else (if decide (y78.2.2 < (0 : Int)) then some (.nx true) else some (.nx (decide (y78.2.2 > (1000000 : Int))))))) fun x121 => (if x121 then some (.rt (1 : Int)) else some (.nx ())))
def ledger_Check_m (x0 : (List ((List UInt8) × (Int × Int)))) : Option Int := (if decide (((x0).length : Int) > (6 : Int)) then some (2 : Int) else bindR (ρ := Int) (β := Unit) (σ := Unit) (rangeL (γ := Unit) (ledger_Check_b1 x0) x0 0 ()) fun _ => some (0 : Int))

/-- slices.DeleteFunc[[]feathermark/api.Deal,feathermark/api.Deal] -/
def slices_DeleteFunc_api_Deal_api_Deal_b1 (g1 : ((List UInt8) × ((List UInt8) × (Int × (Int × (Int × Int))))) → Option Bool) : (List ((List UInt8) × ((List UInt8) × (Int × (Int × (Int × Int)))))) × Int × Int → Option (Fl (List ((List UInt8) × ((List UInt8) × (Int × (Int × (Int × Int)))))) ((List ((List UInt8) × ((List UInt8) × (Int × (Int × (Int × Int)))))) × Int × Int) ((List ((List UInt8) × ((List UInt8) × (Int × (Int × (Int × Int)))))) × Int × Int)) := fun (l32, x33, x34) => (if decide (x34 < ((l32).length : Int)) then (idx l32 x34).bind fun y79 => (g1 y79).bind fun y87 => (if !y87 then (idx l32 x33).bind fun y94 => some (.nx ((List.set l32 ((x33).toNat) y79), wadd x33 (1 : Int), wadd x34 (1 : Int))) else some (.nx (l32, x33, wadd x34 (1 : Int)))) else some (.br (l32, x33, x34)))
def slices_DeleteFunc_api_Deal_api_Deal_m (x0 : (List ((List UInt8) × ((List UInt8) × (Int × (Int × (Int × Int))))))) (g1 : ((List UInt8) × ((List UInt8) × (Int × (Int × (Int × Int))))) → Option Bool) : Option (List ((List UInt8) × ((List UInt8) × (Int × (Int × (Int × Int)))))) := (slices_IndexFunc_api_Deal_api_Deal_m x0 g1).bind fun y5 => (if y5 == (-1 : Int) then some x0 else bindR (ρ := (List ((List UInt8) × ((List UInt8) × (Int × (Int × (Int × Int))))))) (β := Unit) (σ := (List ((List UInt8) × ((List UInt8) × (Int × (Int × (Int × Int)))))) × Int × Int) (loopM (γ := Unit) (slices_DeleteFunc_api_Deal_api_Deal_b1 g1) 1048576 (x0, y5, wadd y5 (1 : Int))) fun (l32, x33, x34) => (chk (0 ≤ x33 ∧ x33 ≤ (l32).length)).bind fun _ => (chk (0 ≤ x33)).bind fun _ => some (List.take ((x33).toNat) l32))

/-- slices.IndexFunc[[]feathermark/api.Account,feathermark/api.Account] -/
def slices_IndexFunc_api_Account_api_Account_b1 (g1 : ((List UInt8) × (Int × Int)) → Option Bool) (i22 : Nat) (y32 : ((List UInt8) × (Int × Int))) : Unit → Option (Fl Int Unit Unit) := fun _ => (g1 y32).bind fun y40 => (if y40 then some (.rt (i22 : Int)) else some (.nx ()))
def slices_IndexFunc_api_Account_api_Account_m (x0 : (List ((List UInt8) × (Int × Int)))) (g1 : ((List UInt8) × (Int × Int)) → Option Bool) : Option Int := bindR (ρ := Int) (β := Unit) (σ := Unit) (rangeL (γ := Unit) (slices_IndexFunc_api_Account_api_Account_b1 g1) x0 0 ()) fun _ => some (-1 : Int)

/-- slices.ContainsFunc[[]feathermark/api.Account,feathermark/api.Account] -/
def slices_ContainsFunc_api_Account_api_Account_m (x0 : (List ((List UInt8) × (Int × Int)))) (g1 : ((List UInt8) × (Int × Int)) → Option Bool) : Option Bool := (slices_IndexFunc_api_Account_api_Account_m x0 g1).bind fun y5 => some (decide (y5 ≥ (0 : Int)))

/-- feathermark/queue.Clean$1$1 -/
def queue_Clean_1_1_m (x0 : ((List UInt8) × (Int × Int))) (x1 : ((List UInt8) × ((List UInt8) × (Int × (Int × (Int × Int)))))) : Option Bool := bindR (ρ := Bool) (β := Unit) (σ := Bool) (if x0.1 == x1.1 then some (.nx (decide (x1.2.2.1 < x0.2.2))) else some (.nx false)) fun x7 => some x7

/-- feathermark/queue.Clean$1 -/
def queue_Clean_1_m (x0 : ((List UInt8) × ((List UInt8) × (Int × (Int × (Int × Int)))))) (x1 : (List ((List UInt8) × (Int × Int)))) : Option Bool := (slices_ContainsFunc_api_Account_api_Account_m x1 (fun a0 => queue_Clean_1_1_m a0 x0)).bind fun y9 => some y9

/-- feathermark/queue.Clean -/
def queue_Clean_m (x0 : (List ((List UInt8) × ((List UInt8) × (Int × (Int × (Int × Int))))))) (x1 : (List ((List UInt8) × (Int × Int)))) : Option ((List ((List UInt8) × ((List UInt8) × (Int × (Int × (Int × Int)))))) × Int) := (queue_Check_m x0).bind fun y7 => (if y7 != (0 : Int) then some ([], y7) else (ledger_Check_m x1).bind fun y14 => (if y14 != (0 : Int) then some ([], y14) else (slices_Clone_api_Deal_api_Deal_m x0).bind fun y23 => (slices_DeleteFunc_api_Deal_api_Deal_m y23 (fun a0 => queue_Clean_1_m a0 x1)).bind fun y26 => some (y26, (0 : Int))))

/-- feathermark/plumekeep.QueueClean$1 -/
def pk_QueueClean_1_m (x0 : ((List UInt8) × (Int × Int))) (x1 : ((List UInt8) × ((List UInt8) × (Int × (Int × (Int × Int)))))) : Option Bool := bindR (ρ := Bool) (β := Unit) (σ := Bool) (if x0.1 == x1.1 then some (.nx (decide (x0.2.2 > x1.2.2.1))) else some (.nx false)) fun x7 => some x7

/-- slices.Equal[[]feathermark/api.Deal,feathermark/api.Deal] -/
def slices_Equal_api_Deal_api_Deal_b1 (x1 : (List ((List UInt8) × ((List UInt8) × (Int × (Int × (Int × Int))))))) (i25 : Nat) (y35 : ((List UInt8) × ((List UInt8) × (Int × (Int × (Int × Int)))))) : Unit → Option (Fl Bool Unit Unit) := fun _ => (idx x1 (i25 : Int)).bind fun y44 => (if !(decide (y35 = y44)) then some (.rt false) else some (.nx ()))
def slices_Equal_api_Deal_api_Deal_m (x0 : (List ((List UInt8) × ((List UInt8) × (Int × (Int × (Int × Int))))))) (x1 : (List ((List UInt8) × ((List UInt8) × (Int × (Int × (Int × Int))))))) : Option Bool := (if ((x0).length : Int) != ((x1).length : Int) then some false else bindR (ρ := Bool) (β := Unit) (σ := Unit) (rangeL (γ := Unit) (slices_Equal_api_Deal_api_Deal_b1 x1) x0 0 ()) fun _ => some true)

/-- feathermark/plumekeep.QueueClean -/
def pk_QueueClean_b1 (x1 : (List ((List UInt8) × (Int × Int)))) (y11 : (List ((List UInt8) × ((List UInt8) × (Int × (Int × (Int × Int)))))) × Int) (i69 : Nat) (y79 : ((List UInt8) × ((List UInt8) × (Int × (Int × (Int × Int)))))) : Int → Option (Fl Bool Int Int) := fun x21 => (slices_ContainsFunc_api_Account_api_Account_m x1 (fun a0 => pk_QueueClean_1_m a0 y79)).bind fun y89 => (if y89 then some (.nx x21) else bindF (ρ := Bool) (β := Int) (σ := Bool) (if decide (x21 ≥ ((y11.1).length : Int)) then some (.nx true) else (idx y11.1 x21).bind fun y111 => some (.nx (!(decide (y111 = y79))))) fun x102 => (if x102 then some (.rt false) else some (.nx (wadd x21 (1 : Int)))))
def pk_QueueClean_m (x0 : (List ((List UInt8) × ((List UInt8) × (Int × (Int × (Int × Int))))))) (x1 : (List ((List UInt8) × (Int × Int)))) : Option Bool := (pk_queues_m).bind fun y5 => (if !y5 then some false else (queue_Clean_m x0 x1).bind fun y11 => (if y11.2 != (0 : Int) then some (((y11.1).length : Int) == (0 : Int)) else (queue_Clean_m y11.1 x1).bind fun y18 => bindR (ρ := Bool) (β := Unit) (σ := Int) (rangeL (γ := Unit) (pk_QueueClean_b1 x1 y11) x0 0 (0 : Int)) fun x21 => bindR (ρ := Bool) (β := Unit) (σ := Bool) (if y18.2 == (0 : Int) then (if x21 == ((y11.1).length : Int) then (slices_Equal_api_Deal_api_Deal_m y11.1 y18.1).bind fun y138 => some (.nx y138) else some (.nx false)) else some (.nx false)) fun x128 => some x128))

/- more models, of functions that this law does not call -/
def pk_QueueOne_b1 (i34 : Nat) (y44 : ((List UInt8) × ((List UInt8) × (Int × (Int × (Int × Int)))))) : (List ((List UInt8) × ((List UInt8) × (Int × (Int × (Int × Int)))))) → Option (Fl Bool (List ((List UInt8) × ((List UInt8) × (Int × (Int × (Int × Int)))))) (List ((List UInt8) × ((List UInt8) × (Int × (Int × (Int × Int))))))) := fun l7 => (queue_Add_m l7 y44).bind fun y57 => (if y57.2 != (0 : Int) then some (.nx l7) else some (.nx y57.1))
def pk_QueueOne_b3 (y237 : ((List UInt8) × ((List UInt8) × (Int × (Int × (Int × Int)))))) (i281 : Nat) (y291 : ((List UInt8) × ((List UInt8) × (Int × (Int × (Int × Int)))))) : Unit → Option (Fl Bool Unit Unit) := fun _ => bindF (ρ := Bool) (β := Unit) (σ := Bool) (if y291.1 == y237.1 then some (.nx (y291.2.2.1 == y237.2.2.1)) else some (.nx false)) fun x301 => (if x301 then some (.rt false) else some (.nx ()))
def pk_QueueOne_b2 (l7 : (List ((List UInt8) × ((List UInt8) × (Int × (Int × (Int × Int))))))) (i227 : Nat) (y237 : ((List UInt8) × ((List UInt8) × (Int × (Int × (Int × Int)))))) : Unit → Option (Fl Bool Unit Unit) := fun _ => (chk ((i227 : Int) ≤ (l7).length ∧ 0 ≤ (i227 : Int))).bind fun _ => bindF (ρ := Bool) (β := Unit) (σ := Unit) (rangeL (γ := Unit) (pk_QueueOne_b3 y237) ((List.take (((i227 : Int)).toNat) l7).drop 0) 0 ()) fun _ => some (.nx ())
def pk_QueueOne_m (x0 : (List ((List UInt8) × ((List UInt8) × (Int × (Int × (Int × Int))))))) : Option Bool := (pk_queues_m).bind fun y4 => (if !y4 then some false else bindR (ρ := Bool) (β := Unit) (σ := (List ((List UInt8) × ((List UInt8) × (Int × (Int × (Int × Int))))))) (rangeL (γ := Unit) pk_QueueOne_b1 x0 0 ([])) fun l7 => bindR (ρ := Bool) (β := Unit) (σ := Unit) (rangeL (γ := Unit) (pk_QueueOne_b2 l7) l7 0 ()) fun _ => (queue_Check_m l7).bind fun y319 => some (y319 == (0 : Int)))

def slices_Index_api_Deal_api_Deal_b1 (x1 : ((List UInt8) × ((List UInt8) × (Int × (Int × (Int × Int)))))) (i22 : Nat) (y32 : ((List UInt8) × ((List UInt8) × (Int × (Int × (Int × Int)))))) : Unit → Option (Fl Int Unit Unit) := fun _ => (if decide (x1 = y32) then some (.rt (i22 : Int)) else some (.nx ()))
def slices_Index_api_Deal_api_Deal_m (x0 : (List ((List UInt8) × ((List UInt8) × (Int × (Int × (Int × Int))))))) (x1 : ((List UInt8) × ((List UInt8) × (Int × (Int × (Int × Int)))))) : Option Int := bindR (ρ := Int) (β := Unit) (σ := Unit) (rangeL (γ := Unit) (slices_Index_api_Deal_api_Deal_b1 x1) x0 0 ()) fun _ => some (-1 : Int)

def slices_Contains_api_Deal_api_Deal_m (x0 : (List ((List UInt8) × ((List UInt8) × (Int × (Int × (Int × Int))))))) (x1 : ((List UInt8) × ((List UInt8) × (Int × (Int × (Int × Int)))))) : Option Bool := (slices_Index_api_Deal_api_Deal_m x0 x1).bind fun y9 => some (decide (y9 ≥ (0 : Int)))

end Go.Mo
