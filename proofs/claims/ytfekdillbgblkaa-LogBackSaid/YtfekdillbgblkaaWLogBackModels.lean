/- The meaning of each function, as a plain function; printed by a program of this repository. -/
import Derived.Test.YtfekdillbgblkaaFwS
namespace Go.Mo
open Go.Fw
set_option linter.unusedVariables false

/-- feathermark/log.New -/
def log_New_m : Option ((List UInt8) × Int) := some ((([] : List UInt8), (0 : Int)) : ((List UInt8) × Int))

/-- feathermark/log.Sum -/
def log_Sum_b2 : Int × Int → Option (Fl Int (Int × Int) (Int × Int)) := fun (x91, x92) => (if decide (x92 < (8 : Int)) then (chk (0 ≤ (15 : Int))).bind fun _ => (if (Int.fdiv x91 (2 ^ (min (15 : Int).toNat (IntKind.bits .u16)))) == (1 : Int) then (chk (0 ≤ (1 : Int))).bind fun _ => some (.nx (bits .xor .u16 (IntKind.wrap .u16 (x91 * 2 ^ (min (1 : Int).toNat (IntKind.bits .u16)))) (4129 : Int), wadd x92 (1 : Int))) else (chk (0 ≤ (1 : Int))).bind fun _ => some (.nx (IntKind.wrap .u16 (x91 * 2 ^ (min (1 : Int).toNat (IntKind.bits .u16))), wadd x92 (1 : Int)))) else some (.br (x91, x92)))
def log_Sum_b1 (i73 : Nat) (y83 : Int) : Int → Option (Fl Int Int Int) := fun x8 => (chk (0 ≤ (8 : Int))).bind fun _ => bindF (ρ := Int) (β := Int) (σ := Int × Int) (loopM (γ := Int) log_Sum_b2 1048576 (bits .xor .u16 x8 (IntKind.wrap .u16 ((IntKind.wrap .u16 y83) * 2 ^ (min (8 : Int).toNat (IntKind.bits .u16)))), (0 : Int))) fun (x91, x92) => some (.nx x91)
def log_Sum_m (x0 : (List UInt8)) : Option Int := (chk ((x0).length ≤ 9223372036854775807)).bind fun _ => bindR (ρ := Int) (β := Unit) (σ := Int) (rangeL (γ := Unit) log_Sum_b1 (intsOf x0) 0 (65535 : Int)) fun x8 => some x8

/-- feathermark/log.Frame -/
def log_Frame_m (x0 : (List UInt8)) : Option ((List UInt8) × Int) := (if decide (((x0).length : Int) > (64 : Int)) then some (([] : List UInt8), (2 : Int)) else (chk ((bytesOf ([IntKind.wrap .u8 ((x0).length : Int)] : (List Int))).length + (x0).length ≤ 9223372036854775807)).bind fun _ => (log_Sum_m ((bytesOf ([IntKind.wrap .u8 ((x0).length : Int)] : (List Int))) ++ x0)).bind fun y11 => (chk (0 ≤ (8 : Int))).bind fun _ => (chk (((bytesOf ([IntKind.wrap .u8 ((x0).length : Int)] : (List Int))) ++ x0).length + (bytesOf ([IntKind.wrap .u8 (Int.fdiv y11 (2 ^ (min (8 : Int).toNat (IntKind.bits .u16)))), IntKind.wrap .u8 y11] : (List Int))).length ≤ 9223372036854775807)).bind fun _ => some (((bytesOf ([IntKind.wrap .u8 ((x0).length : Int)] : (List Int))) ++ x0) ++ (bytesOf ([IntKind.wrap .u8 (Int.fdiv y11 (2 ^ (min (8 : Int).toNat (IntKind.bits .u16)))), IntKind.wrap .u8 y11] : (List Int))), (0 : Int)))

/-- (*feathermark/log.Log).Append -/
def log_Log_Append_m (x0 : ((List UInt8) × Int)) (x1 : (List UInt8)) : Option (Int × ((List UInt8) × Int)) := (log_Frame_m x1).bind fun y5 => (if y5.2 != (0 : Int) then some (y5.2, x0) else (if decide ((wadd ((x0.1).length : Int) ((y5.1).length : Int)) > (4000 : Int)) then some ((8 : Int), x0) else (chk ((x0.1).length + (y5.1).length ≤ 9223372036854775807)).bind fun _ => some ((0 : Int), (x0.1 ++ y5.1, x0.2))))

/-- (*feathermark/log.Log).Size -/
def log_Log_Size_m (x0 : ((List UInt8) × Int)) : Option (Int × Int) := some (((x0.1).length : Int), x0.2)

/-- (*feathermark/log.Log).Sync -/
def log_Log_Sync_m (x0 : ((List UInt8) × Int)) : Option ((List UInt8) × Int) := some (x0.1, ((x0.1).length : Int))

/-- feathermark/log.Scan -/
def log_Scan_b1 (x0 : (List UInt8)) : (List (List UInt8)) × Int → Option (Fl ((List (List UInt8)) × Int) ((List (List UInt8)) × Int) ((List (List UInt8)) × Int)) := fun (l2, x4) => (if decide (x4 < ((x0).length : Int)) then (idx x0 x4).bind fun y95 => bindF (ρ := (List (List UInt8)) × Int) (β := (List (List UInt8)) × Int) (σ := Bool) (if decide ((IntKind.wrap .i64 (y95.toNat : Int)) > (64 : Int)) then some (.nx true) else some (.nx (decide ((wsub ((x0).length : Int) x4) < (wadd (IntKind.wrap .i64 (y95.toNat : Int)) (3 : Int)))))) fun x99 => (if x99 then some (.br (l2, x4)) else (chk (0 ≤ x4 ∧ (wadd (wadd x4 (IntKind.wrap .i64 (y95.toNat : Int))) (1 : Int)) ≤ (x0).length ∧ x4 ≤ (wadd (wadd x4 (IntKind.wrap .i64 (y95.toNat : Int))) (1 : Int)))).bind fun _ => (log_Sum_m ((List.take ((wadd (wadd x4 (IntKind.wrap .i64 (y95.toNat : Int))) (1 : Int)).toNat) x0).drop ((x4).toNat))).bind fun y117 => bindF (ρ := (List (List UInt8)) × Int) (β := (List (List UInt8)) × Int) (σ := Bool) ((idx x0 (wadd (wadd x4 (IntKind.wrap .i64 (y95.toNat : Int))) (1 : Int))).bind fun y141 => (chk (0 ≤ (8 : Int))).bind fun _ => (if (y141.toNat : Int) != (IntKind.wrap .u8 (Int.fdiv y117 (2 ^ (min (8 : Int).toNat (IntKind.bits .u16))))) then some (.nx true) else (idx x0 (wadd (wadd x4 (IntKind.wrap .i64 (y95.toNat : Int))) (2 : Int))).bind fun y146 => some (.nx ((y146.toNat : Int) != (IntKind.wrap .u8 y117))))) fun x133 => (if x133 then some (.br (l2, x4)) else (chk (0 ≤ (wadd x4 (1 : Int)) ∧ (wadd (wadd x4 (1 : Int)) (IntKind.wrap .i64 (y95.toNat : Int))) ≤ (x0).length ∧ (wadd x4 (1 : Int)) ≤ (wadd (wadd x4 (1 : Int)) (IntKind.wrap .i64 (y95.toNat : Int))))).bind fun _ => (chk ((l2).length + (([(List.take ((wadd (wadd x4 (1 : Int)) (IntKind.wrap .i64 (y95.toNat : Int))).toNat) x0).drop ((wadd x4 (1 : Int)).toNat)] : (List (List UInt8)))).length ≤ 8796093022208)).bind fun _ => some (.nx ((l2 ++ ([(List.take ((wadd (wadd x4 (1 : Int)) (IntKind.wrap .i64 (y95.toNat : Int))).toNat) x0).drop ((wadd x4 (1 : Int)).toNat)] : (List (List UInt8)))), wadd x4 (wadd (IntKind.wrap .i64 (y95.toNat : Int)) (3 : Int)))))) else some (.br (l2, x4)))
def log_Scan_m (x0 : (List UInt8)) : Option ((List (List UInt8)) × Int) := bindR (ρ := (List (List UInt8)) × Int) (β := Unit) (σ := (List (List UInt8)) × Int) (loopM (γ := Unit) (log_Scan_b1 x0) 9223372036854775808 ([], (0 : Int))) fun (l2, x4) => some (l2, x4)

/-- (*feathermark/log.Log).All -/
def log_Log_All_m (x0 : ((List UInt8) × Int)) : Option (List (List UInt8)) := (log_Scan_m x0.1).bind fun y5 => some y5.1

/-- slices.Equal[[]string,string] -/
def slices_Equal_string_string_b1 (x1 : (List (List UInt8))) (i21 : Nat) (y31 : (List UInt8)) : Unit → Option (Fl Bool Unit Unit) := fun _ => (idx x1 (i21 : Int)).bind fun y37 => (if !(y31 == y37) then some (.rt false) else some (.nx ()))
def slices_Equal_string_string_m (x0 : (List (List UInt8))) (x1 : (List (List UInt8))) : Option Bool := (if ((x0).length : Int) != ((x1).length : Int) then some false else bindR (ρ := Bool) (β := Unit) (σ := Unit) (rangeL (γ := Unit) (slices_Equal_string_string_b1 x1) x0 0 ()) fun _ => some true)

/-- feathermark/plumekeep.logs -/
def pk_logs_m : Option Bool := (log_New_m).bind fun y4 => (if false then some false else (log_Log_Append_m y4 ([97, 98] : List UInt8)).bind fun y10 => (log_Log_Size_m y10.2).bind fun y14 => (log_Log_Sync_m y10.2).bind fun y18 => (log_Log_Size_m y18).bind fun y22 => bindR (ρ := Bool) (β := Unit) (σ := Bool) (if y10.1 == (0 : Int) then (if y14.1 == (5 : Int) then (if y14.2 == (0 : Int) then (if y22.1 == (5 : Int) then (if y22.2 == (5 : Int) then (log_Log_All_m y18).bind fun y65 => (slices_Equal_string_string_m y65 ([([97, 98] : List UInt8)] : (List (List UInt8)))).bind fun y69 => (if y69 then (log_Sum_m ([49, 50, 51, 52, 53, 54, 55, 56, 57] : List UInt8)).bind fun y72 => some (.nx (y72 == (10673 : Int))) else some (.nx false)) else some (.nx false)) else some (.nx false)) else some (.nx false)) else some (.nx false)) else some (.nx false)) fun x52 => some x52)

/-- feathermark/plumeref.Rest -/
def ref_Rest_m (x0 : Int) (x1 : Int) : Option Int := (chk (x1 ≠ 0)).bind fun _ => bindR (ρ := Int) (β := Unit) (σ := Int) (if decide ((Int.tmod x0 x1) < (0 : Int)) then some (.nx (wadd (Int.tmod x0 x1) x1)) else some (.nx (Int.tmod x0 x1))) fun x8 => some x8

/-- feathermark/plumekeep.Within -/
def pk_Within_m (x0 : Int) (x1 : Int) : Option Int := (ref_Rest_m x0 x1).bind fun y5 => some y5

/-- feathermark/plumekeep.LogBack -/
def pk_LogBack_b1 (i53 : Nat) (y63 : (List UInt8)) : (List UInt8) × (List Int) → Option (Fl Bool ((List UInt8) × (List Int)) ((List UInt8) × (List Int))) := fun (x8, l9) => (log_Frame_m y63).bind fun y69 => (if y69.2 != (0 : Int) then bindF (ρ := Bool) (β := (List UInt8) × (List Int)) (σ := Bool) (if decide (((y63).length : Int) > (64 : Int)) then some (.nx (y69.1 == ([] : List UInt8))) else some (.nx false)) fun x74 => some (.rt x74) else (chk ((x8).length + (y69.1).length ≤ 9223372036854775807)).bind fun _ => (chk ((l9).length + (([((x8 ++ y69.1).length : Int)] : (List Int))).length ≤ 17592186044416)).bind fun _ => some (.nx (x8 ++ y69.1, (l9 ++ ([((x8 ++ y69.1).length : Int)] : (List Int))))))
def pk_LogBack_b2 (l9 : (List Int)) (y101 : Int) : Int × Int → Option (Fl Bool (Int × Int) (Int × Int)) := fun (x103, x104) => bindF (ρ := Bool) (β := Int × Int) (σ := Bool) (if decide (x103 < ((l9).length : Int)) then (idx l9 x103).bind fun y160 => some (.nx (decide (y160 ≤ y101))) else some (.nx false)) fun x151 => (if x151 then (idx l9 x103).bind fun y167 => some (.nx (wadd x103 (1 : Int), y167)) else some (.br (x103, x104)))
def pk_LogBack_m (x0 : (List (List UInt8))) (x1 : Int) : Option Bool := (pk_logs_m).bind fun y5 => (if !y5 then some false else bindR (ρ := Bool) (β := Unit) (σ := (List UInt8) × (List Int)) (rangeL (γ := Unit) pk_LogBack_b1 x0 0 (([] : List UInt8), [])) fun (x8, l9) => (pk_Within_m x1 (wadd ((x8).length : Int) (1 : Int))).bind fun y101 => bindR (ρ := Bool) (β := Unit) (σ := Int × Int) (loopM (γ := Unit) (pk_LogBack_b2 l9 y101) 9223372036854775808 ((0 : Int), (0 : Int))) fun (x103, x104) => (chk (y101 ≤ (x8).length ∧ 0 ≤ y101)).bind fun _ => (log_Scan_m ((List.take ((y101).toNat) x8).drop 0)).bind fun y178 => bindR (ρ := Bool) (β := Unit) (σ := Bool) (if y178.2 == x104 then (chk (x103 ≤ (x0).length ∧ 0 ≤ x103)).bind fun _ => (slices_Equal_string_string_m y178.1 ((List.take ((x103).toNat) x0).drop 0)).bind fun y205 => some (.nx y205) else some (.nx false)) fun x193 => some x193)

/- more models, of functions that this law does not call -/
def log_Log_Crash_m (x0 : ((List UInt8) × Int)) (x1 : Int) : Option (Int × ((List UInt8) × Int)) := bindR (ρ := Int × ((List UInt8) × Int)) (β := Unit) (σ := Bool) (if decide (x1 < (0 : Int)) then some (.nx true) else some (.nx (decide (x1 > (wsub ((x0.1).length : Int) x0.2))))) fun x5 => (if x5 then some ((1 : Int), x0) else (chk ((wadd x0.2 x1) ≤ (x0.1).length ∧ 0 ≤ (wadd x0.2 x1))).bind fun _ => (log_Scan_m ((List.take ((wadd x0.2 x1).toNat) x0.1).drop 0)).bind fun y24 => (chk (y24.2 ≤ ((List.take ((wadd x0.2 x1).toNat) x0.1).drop 0).length ∧ 0 ≤ y24.2)).bind fun _ => some ((0 : Int), (((List.take ((y24.2).toNat) ((List.take ((wadd x0.2 x1).toNat) x0.1).drop 0)).drop 0, x0.2).1, y24.2)))

end Go.Mo
