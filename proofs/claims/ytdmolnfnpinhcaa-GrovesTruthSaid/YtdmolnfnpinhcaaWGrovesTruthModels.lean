/- The meaning of each function, as a plain function; printed by a program of this repository. -/
import Derived.Test.YtdmolnfnpinhcaaFwK
namespace Go.Mo
open Go.Fw
set_option linter.unusedVariables false

/-- feathermark/groves.Check -/
def groves_Check_b2 (i131 : Nat) (y141 : Int) : Unit → Option (Fl Int Unit Unit) := fun _ => bindF (ρ := Int) (β := Unit) (σ := Bool) (if decide (y141 < (0 : Int)) then some (.nx true) else some (.nx (decide (y141 > (1000000 : Int))))) fun x147 => (if x147 then some (.rt (1 : Int)) else some (.nx ()))
def groves_Check_b1 (x0 : (List (List Int))) (i81 : Nat) (y91 : (List Int)) : Unit → Option (Fl Int Unit Unit) := fun _ => (idx x0 (0 : Int)).bind fun y100 => (if ((y91).length : Int) != ((y100).length : Int) then some (.rt (3 : Int)) else (if decide (((y91).length : Int) > (4 : Int)) then some (.rt (2 : Int)) else bindF (ρ := Int) (β := Unit) (σ := Unit) (rangeL (γ := Unit) groves_Check_b2 y91 0 ()) fun _ => some (.nx ())))
def groves_Check_m (x0 : (List (List Int))) : Option Int := (if decide (((x0).length : Int) > (4 : Int)) then some (2 : Int) else bindR (ρ := Int) (β := Unit) (σ := Unit) (rangeL (γ := Unit) (groves_Check_b1 x0) x0 0 ()) fun _ => some (0 : Int))

/-- feathermark/groves.best -/
def groves_best_b1 (x2 : Int) (rcm : (List (List Int)) → Int → Int → Int → Option ((List Int) × Int)) (x0 : (List (List Int))) (x1 : Int) (x3 : Int) (i133 : Nat) (y143 : Int) : (List Int) × Int × Int → Option (Fl ((List Int) × Int) ((List Int) × Int × Int) ((List Int) × Int × Int)) := fun (l101, x103, x104) => (chk (0 ≤ (i133 : Int))).bind fun _ => (if (bits .and .i64 (Int.fdiv x2 (2 ^ (min (i133 : Int).toNat (IntKind.bits .i64)))) (1 : Int)) == (0 : Int) then (chk (0 ≤ (i133 : Int))).bind fun _ => (rcm x0 (wadd x1 (1 : Int)) (bits .or .i64 x2 (IntKind.wrap .i64 ((1 : Int) * 2 ^ (min (i133 : Int).toNat (IntKind.bits .i64))))) x3).bind fun y159 => (if decide ((wadd y143 y159.2) > x103) then some (.nx (y159.1, wadd y143 y159.2, (i133 : Int))) else some (.nx (l101, x103, x104))) else some (.nx (l101, x103, x104)))
def groves_best_r (rcm : (List (List Int)) → Int → Int → Int → Option ((List Int) × Int)) (x0 : (List (List Int))) (x1 : Int) (x2 : Int) (x3 : Int) : Option ((List Int) × Int) := (if x1 == ((x0).length : Int) then some ([], (0 : Int)) else (rcm x0 (wadd x1 (1 : Int)) x2 x3).bind fun y9 => bindR (ρ := (List Int) × Int) (β := Unit) (σ := (List Int) × Int × Int) (if x1 != x3 then (idx x0 x1).bind fun y98 => bindF (ρ := (List Int) × Int) (β := Unit) (σ := (List Int) × Int × Int) (rangeL (γ := Unit) (groves_best_b1 x2 rcm x0 x1 x3) y98 0 (y9.1, y9.2, (-1 : Int))) fun (l101, x103, x104) => some (.nx (l101, x103, x104)) else some (.nx (y9.1, y9.2, (-1 : Int)))) fun (l83, x85, x86) => (chk ((([x86] : (List Int))).length + (l83).length ≤ 68719476736)).bind fun _ => some ((([x86] : (List Int)) ++ l83), x85))
def groves_best_f : Nat → (List (List Int)) → Int → Int → Int → Option ((List Int) × Int)
  | 0 => fun _ _ _ _ => none
  | n + 1 => groves_best_r (groves_best_f n)
def groves_best_m : (List (List Int)) → Int → Int → Int → Option ((List Int) × Int) := groves_best_f 64

/-- feathermark/groves.Share -/
def groves_Share_m (x0 : (List (List Int))) : Option ((List Int) × Int × Int) := (groves_Check_m x0).bind fun y4 => (if y4 != (0 : Int) then some ([], (0 : Int), y4) else (groves_best_m x0 (0 : Int) (0 : Int) (-1 : Int)).bind fun y10 => some (y10.1, y10.2, (0 : Int)))

/-- feathermark/groves.Pays -/
def groves_Pays_b1 (y5 : (List Int) × Int × Int) (x0 : (List (List Int))) (i116 : Nat) : (List Int) → Option (Fl ((List Int) × Int) (List Int) (List Int)) := fun l61 => (idx y5.1 (i116 : Int)).bind fun y129 => (groves_best_m x0 (0 : Int) (0 : Int) (i116 : Int)).bind fun y134 => bindF (ρ := (List Int) × Int) (β := (List Int)) (σ := Int) (if decide (y129 ≥ (0 : Int)) then (idx x0 (i116 : Int)).bind fun y162 => (idx y162 y129).bind fun y165 => some (.nx y165) else some (.nx (0 : Int))) fun x148 => (idx l61 (i116 : Int)).bind fun y171 => some (.nx (List.set l61 i116 (wsub y134.2 (wsub y5.2.1 x148))))
def groves_Pays_m (x0 : (List (List Int))) : Option ((List Int) × Int) := (groves_Share_m x0).bind fun y5 => (if y5.2.2 != (0 : Int) then some ([], y5.2.2) else (chk (0 ≤ ((y5.1).length : Int) ∧ ((y5.1).length : Int) ≤ 68719476736)).bind fun _ => bindR (ρ := (List Int) × Int) (β := Unit) (σ := (List Int)) (rangeN (γ := Unit) (groves_Pays_b1 y5 x0) (y5.1).length 0 (List.replicate (((y5.1).length : Int)).toNat (0 : Int))) fun l61 => some (l61, (0 : Int)))

/-- slices.IndexFunc[[]feathermark/api.Errno,feathermark/api.Errno] -/
def slices_IndexFunc_api_Errno_api_Errno_b1 (g1 : Int → Option Bool) (i20 : Nat) (y30 : Int) : Unit → Option (Fl Int Unit Unit) := fun _ => (g1 y30).bind fun y36 => (if y36 then some (.rt (i20 : Int)) else some (.nx ()))
def slices_IndexFunc_api_Errno_api_Errno_m (x0 : (List Int)) (g1 : Int → Option Bool) : Option Int := bindR (ρ := Int) (β := Unit) (σ := Unit) (rangeL (γ := Unit) (slices_IndexFunc_api_Errno_api_Errno_b1 g1) x0 0 ()) fun _ => some (-1 : Int)

/-- slices.ContainsFunc[[]feathermark/api.Errno,feathermark/api.Errno] -/
def slices_ContainsFunc_api_Errno_api_Errno_m (x0 : (List Int)) (g1 : Int → Option Bool) : Option Bool := (slices_IndexFunc_api_Errno_api_Errno_m x0 g1).bind fun y5 => some (decide (y5 ≥ (0 : Int)))

/-- feathermark/plumekeep.good$1 -/
def pk_good_1_m (x0 : Int) : Option Bool := some (x0 != (0 : Int))

/-- feathermark/plumekeep.good -/
def pk_good_m (x0 : (List Int)) : Option Bool := (slices_ContainsFunc_api_Errno_api_Errno_m x0 (fun a0 => pk_good_1_m a0)).bind fun y4 => some (!y4)

/-- slices.Equal[[]int,int] -/
def slices_Equal_int_int_b1 (x1 : (List Int)) (i21 : Nat) (y31 : Int) : Unit → Option (Fl Bool Unit Unit) := fun _ => (idx x1 (i21 : Int)).bind fun y37 => (if y31 != y37 then some (.rt false) else some (.nx ()))
def slices_Equal_int_int_m (x0 : (List Int)) (x1 : (List Int)) : Option Bool := (if ((x0).length : Int) != ((x1).length : Int) then some false else bindR (ρ := Bool) (β := Unit) (σ := Unit) (rangeL (γ := Unit) (slices_Equal_int_int_b1 x1) x0 0 ()) fun _ => some true)

/-- feathermark/plumekeep.vickreys -/
def pk_vickreys_m : Option Bool := (groves_Share_m ([([(5 : Int), (4 : Int)] : (List Int)), ([(6 : Int), (1 : Int)] : (List Int))] : (List (List Int)))).bind fun y10 => (groves_Pays_m ([([(5 : Int), (4 : Int)] : (List Int)), ([(6 : Int), (1 : Int)] : (List Int))] : (List (List Int)))).bind fun y22 => bindR (ρ := Bool) (β := Unit) (σ := Bool) ((pk_good_m ([y10.2.2, y22.2] : (List Int))).bind fun y58 => (if y58 then (slices_Equal_int_int_m y10.1 ([(1 : Int), (0 : Int)] : (List Int))).bind fun y62 => (if y62 then (if y10.2.1 == (10 : Int) then (slices_Equal_int_int_m y22.1 ([(0 : Int), (1 : Int)] : (List Int))).bind fun y67 => some (.nx y67) else some (.nx false)) else some (.nx false)) else some (.nx false))) fun x49 => some x49

/-- feathermark/plumeref.Rest -/
def ref_Rest_m (x0 : Int) (x1 : Int) : Option Int := (chk (x1 ≠ 0)).bind fun _ => bindR (ρ := Int) (β := Unit) (σ := Int) (if decide ((Int.tmod x0 x1) < (0 : Int)) then some (.nx (wadd (Int.tmod x0 x1) x1)) else some (.nx (Int.tmod x0 x1))) fun x8 => some x8

/-- feathermark/plumekeep.Within -/
def pk_Within_m (x0 : Int) (x1 : Int) : Option Int := (ref_Rest_m x0 x1).bind fun y5 => some y5

/-- feathermark/plumekeep.GoodsOf -/
def pk_GoodsOf_b2 (i121 : Nat) (x1 : Int) (x2 : (List Int)) (i180 : Nat) : (List Int) → Option (Fl (List (List Int)) (List Int) (List Int)) := fun l132 => bindF (ρ := (List (List Int))) (β := (List Int)) (σ := Int) (if decide ((wadd (wmul (i121 : Int) x1) (i180 : Int)) < ((x2).length : Int)) then (idx x2 (wadd (wmul (i121 : Int) x1) (i180 : Int))).bind fun y213 => (pk_Within_m y213 (60 : Int)).bind fun y215 => some (.nx y215) else some (.nx (0 : Int))) fun x200 => (chk ((l132).length + (([x200] : (List Int))).length ≤ 68719476736)).bind fun _ => some (.nx (l132 ++ ([x200] : (List Int))))
def pk_GoodsOf_b1 (x1 : Int) (x2 : (List Int)) (i121 : Nat) : (List (List Int)) → Option (Fl (List (List Int)) (List (List Int)) (List (List Int))) := fun l4 => (chk (x1 ≤ 9223372036854775807)).bind fun _ => bindF (ρ := (List (List Int))) (β := (List (List Int))) (σ := (List Int)) (rangeN (γ := (List (List Int))) (pk_GoodsOf_b2 i121 x1 x2) (x1).toNat 0 ([])) fun l132 => (chk ((l4).length + (([l132] : (List (List Int)))).length ≤ 68719476736)).bind fun _ => some (.nx (l4 ++ ([l132] : (List (List Int)))))
def pk_GoodsOf_m (x0 : Int) (x1 : Int) (x2 : (List Int)) : Option (List (List Int)) := (chk (x0 ≤ 9223372036854775807)).bind fun _ => bindR (ρ := (List (List Int))) (β := Unit) (σ := (List (List Int))) (rangeN (γ := Unit) (pk_GoodsOf_b1 x1 x2) (x0).toNat 0 ([])) fun l4 => some l4

/-- slices.Clone[[][]int,[]int] -/
def slices_Clone_rows_m (x0 : List (List Int)) : Option (List (List Int)) := (chk (x0.length ≤ 68719476736)).bind fun _ => some x0

/-- feathermark/plumekeep.GrovesTruth$1 -/
def pk_GrovesTruth_1_m (x0 : (List (List Int))) (x1 : Int) (x2 : Int) (x3 : Int) (x4 : (List (List Int))) : Option (Int × Bool) := (groves_Share_m x0).bind fun y9 => (groves_Pays_m x0).bind fun y15 => bindR (ρ := Int × Bool) (β := Unit) (σ := Bool) ((pk_good_m ([y9.2.2, y15.2] : (List Int))).bind fun y49 => (if !y49 then some (.nx true) else (if ((y9.1).length : Int) != x1 then some (.nx true) else (if ((y15.1).length : Int) != x1 then some (.nx true) else (idx y9.1 x2).bind fun y54 => (if decide (y54 < (-1 : Int)) then some (.nx true) else (idx y9.1 x2).bind fun y57 => some (.nx (decide (y57 ≥ x3)))))))) fun x40 => (if x40 then some ((0 : Int), false) else (idx y9.1 x2).bind fun y64 => (if decide (y64 < (0 : Int)) then (idx y15.1 x2).bind fun y69 => some (wsub 0 y69, true) else (idx x4 x2).bind fun y82 => (idx y9.1 x2).bind fun y85 => (idx y82 y85).bind fun y87 => (idx y15.1 x2).bind fun y89 => some (wsub y87 y89, true)))

/-- feathermark/plumekeep.GrovesTruth -/
def pk_GrovesTruth_m (x0 : Int) (x1 : Int) (x2 : (List Int)) (x3 : Int) (x4 : (List Int)) : Option Bool := (pk_vickreys_m).bind fun y14 => (if !y14 then some false else (pk_Within_m x0 (4 : Int)).bind fun y26 => (pk_Within_m x1 (4 : Int)).bind fun y33 => (pk_GoodsOf_m (wadd (1 : Int) y26) (wadd (1 : Int) y33) x2).bind fun y39 => (pk_Within_m x3 (wadd (1 : Int) y26)).bind fun y45 => (slices_Clone_rows_m y39).bind fun y50 => (pk_GoodsOf_m (1 : Int) (wadd (1 : Int) y33) x4).bind fun y76 => (idx y76 (0 : Int)).bind fun y79 => (idx y50 y45).bind fun y82 => (pk_GrovesTruth_1_m y39 (wadd (1 : Int) y26) y45 (wadd (1 : Int) y33) y39).bind fun y101 => (pk_GrovesTruth_1_m (List.set y50 ((y45).toNat) y79) (wadd (1 : Int) y26) y45 (wadd (1 : Int) y33) y39).bind fun y105 => bindR (ρ := Bool) (β := Unit) (σ := Bool) (if y101.2 then (if y105.2 then (if decide (y101.1 ≥ (0 : Int)) then some (.nx (decide (y101.1 ≥ y105.1))) else some (.nx false)) else some (.nx false)) else some (.nx false)) fun x113 => some x113)
end Go.Mo
