/- The meaning of each function, as a plain function; printed by a program of this repository. -/
import Derived.Test.YtilgigahabjbaaaFwI
namespace Go.Mo
open Go.Fw
set_option linter.unusedVariables false

/-- feathermark/seats.Check -/
def seats_Check_b1 (i44 : Nat) (y54 : Int) : Int → Option (Fl Int Int Int) := fun x17 => bindF (ρ := Int) (β := Int) (σ := Bool) (if decide (y54 < (0 : Int)) then some (.nx true) else some (.nx (decide (y54 > (1000000 : Int))))) fun x60 => (if x60 then some (.rt (1 : Int)) else some (.nx (wadd x17 y54)))
def seats_Check_m (x0 : (List Int)) (x1 : Int) : Option Int := bindR (ρ := Int) (β := Unit) (σ := Bool) (if decide (((x0).length : Int) < (1 : Int)) then some (.nx true) else some (.nx (decide (((x0).length : Int) > (8 : Int))))) fun x5 => (if x5 then some (2 : Int) else bindR (ρ := Int) (β := Unit) (σ := Int) (rangeL (γ := Unit) seats_Check_b1 x0 0 (0 : Int)) fun x17 => (if x17 == (0 : Int) then some (4 : Int) else bindR (ρ := Int) (β := Unit) (σ := Bool) (if decide (x1 < (0 : Int)) then some (.nx true) else some (.nx (decide (x1 > (100 : Int))))) fun x77 => (if x77 then some (1 : Int) else some (0 : Int))))

/-- feathermark/seats.divided -/
def seats_divided_b2 (l73 : (List Int)) (x0 : (List Int)) (x2 : Int) (i185 : Nat) (y195 : Int) : Int → Option (Fl (List Int) Int Int) := fun x159 => (idx l73 x159).bind fun y205 => (idx x0 x159).bind fun y207 => (idx l73 (i185 : Int)).bind fun y209 => (if decide ((wmul y195 (wadd (wmul x2 y205) (1 : Int))) > (wmul y207 (wadd (wmul x2 y209) (1 : Int)))) then some (.nx (i185 : Int)) else some (.nx x159))
def seats_divided_b1 (x0 : (List Int)) (x2 : Int) (i148 : Nat) : (List Int) → Option (Fl (List Int) (List Int) (List Int)) := fun l73 => bindF (ρ := (List Int)) (β := (List Int)) (σ := Int) (rangeL (γ := (List Int)) (seats_divided_b2 l73 x0 x2) x0 0 (0 : Int)) fun x159 => (idx l73 x159).bind fun y218 => (idx l73 x159).bind fun y220 => some (.nx (List.set l73 ((x159).toNat) (wadd y218 (1 : Int))))
def seats_divided_m (x0 : (List Int)) (x1 : Int) (x2 : Int) : Option (List Int) := (chk (0 ≤ ((x0).length : Int) ∧ ((x0).length : Int) ≤ 68719476736)).bind fun _ => (chk (x1 ≤ 9223372036854775807)).bind fun _ => bindR (ρ := (List Int)) (β := Unit) (σ := (List Int)) (rangeN (γ := Unit) (seats_divided_b1 x0 x2) (x1).toNat 0 (List.replicate (((x0).length : Int)).toNat (0 : Int))) fun l73 => some l73

/-- feathermark/seats.Share -/
def seats_Share_b1 (i50 : Nat) (y60 : Int) : Int → Option (Fl ((List Int) × Int) Int Int) := fun x37 => some (.nx (wadd x37 y60))
def seats_Share_b2 (x37 : Int) (x2 : Int) (i140 : Nat) (y150 : Int) : (List Int) × (List Int) × Int → Option (Fl ((List Int) × Int) ((List Int) × (List Int) × Int) ((List Int) × (List Int) × Int)) := fun (l103, l105, x107) => (chk (x37 ≠ 0)).bind fun _ => (chk (x37 ≠ 0)).bind fun _ => (idx l103 (i140 : Int)).bind fun y166 => (idx l105 (i140 : Int)).bind fun y168 => (idx (List.set l103 i140 (IntKind.wrap .i64 (Int.tdiv (wmul y150 x2) x37))) (i140 : Int)).bind fun y172 => some (.nx ((List.set l103 i140 (IntKind.wrap .i64 (Int.tdiv (wmul y150 x2) x37))), (List.set l105 i140 (Int.tmod (wmul y150 x2) x37)), wsub x107 y172))
def seats_Share_b4 (l230 : (List Int)) (i323 : Nat) : Int → Option (Fl ((List Int) × Int) Int Int) := fun x305 => (idx l230 (i323 : Int)).bind fun y338 => (idx l230 x305).bind fun y340 => (if decide (y338 > y340) then some (.nx (i323 : Int)) else some (.nx x305))
def seats_Share_b3 (i294 : Nat) : (List Int) × (List Int) → Option (Fl ((List Int) × Int) ((List Int) × (List Int)) ((List Int) × (List Int))) := fun (l228, l230) => bindF (ρ := (List Int) × Int) (β := (List Int) × (List Int)) (σ := Int) (rangeN (γ := ((List Int) × (List Int))) (seats_Share_b4 l230) (l230).length 0 (0 : Int)) fun x305 => (idx l228 x305).bind fun y349 => (idx l228 x305).bind fun y351 => (idx l230 x305).bind fun y355 => some (.nx ((List.set l228 ((x305).toNat) (wadd y349 (1 : Int))), (List.set l230 ((x305).toNat) (-1 : Int))))
def seats_Share_m (x0 : Int) (x1 : (List Int)) (x2 : Int) : Option ((List Int) × Int) := bindR (ρ := (List Int) × Int) (β := Unit) (σ := Bool) (if decide (x0 < (1 : Int)) then some (.nx true) else some (.nx (decide (x0 > (3 : Int))))) fun x6 => (if x6 then some ([], (1 : Int)) else (seats_Check_m x1 x2).bind fun y20 => (if y20 != (0 : Int) then some ([], y20) else (if x0 == (1 : Int) then (seats_divided_m x1 x2 (1 : Int)).bind fun y27 => some (y27, (0 : Int)) else (if x0 == (2 : Int) then (seats_divided_m x1 x2 (2 : Int)).bind fun y34 => some (y34, (0 : Int)) else bindR (ρ := (List Int) × Int) (β := Unit) (σ := Int) (rangeL (γ := Unit) seats_Share_b1 x1 0 (0 : Int)) fun x37 => (chk (0 ≤ ((x1).length : Int) ∧ ((x1).length : Int) ≤ 68719476736)).bind fun _ => (chk (0 ≤ ((x1).length : Int) ∧ ((x1).length : Int) ≤ 68719476736)).bind fun _ => bindR (ρ := (List Int) × Int) (β := Unit) (σ := (List Int) × (List Int) × Int) (rangeL (γ := Unit) (seats_Share_b2 x37 x2) x1 0 ((List.replicate (((x1).length : Int)).toNat (0 : Int)), (List.replicate (((x1).length : Int)).toNat (0 : Int)), x2)) fun (l103, l105, x107) => (chk (x107 ≤ 9223372036854775807)).bind fun _ => bindR (ρ := (List Int) × Int) (β := Unit) (σ := (List Int) × (List Int)) (rangeN (γ := Unit) seats_Share_b3 (x107).toNat 0 (l103, l105)) fun (l228, l230) => some (l228, (0 : Int))))))

/-- slices.IndexFunc[[]feathermark/api.Errno,feathermark/api.Errno] -/
def slices_IndexFunc_api_Errno_api_Errno_b1 (g1 : Int → Option Bool) (i20 : Nat) (y30 : Int) : Unit → Option (Fl Int Unit Unit) := fun _ => (g1 y30).bind fun y36 => (if y36 then some (.rt (i20 : Int)) else some (.nx ()))
def slices_IndexFunc_api_Errno_api_Errno_m (x0 : (List Int)) (g1 : Int → Option Bool) : Option Int := bindR (ρ := Int) (β := Unit) (σ := Unit) (rangeL (γ := Unit) (slices_IndexFunc_api_Errno_api_Errno_b1 g1) x0 0 ()) fun _ => some (-1 : Int)

/-- slices.ContainsFunc[[]feathermark/api.Errno,feathermark/api.Errno] -/
def slices_ContainsFunc_api_Errno_api_Errno_m (x0 : (List Int)) (g1 : Int → Option Bool) : Option Bool := (slices_IndexFunc_api_Errno_api_Errno_m x0 g1).bind fun y5 => some (decide (y5 ≥ (0 : Int)))

/-- feathermark/plumekeep.good$1 -/
def pk_good_1_m (x0 : Int) : Option Bool := some (x0 != (0 : Int))

/-- feathermark/plumekeep.good -/
def pk_good_m (x0 : (List Int)) : Option Bool := (slices_ContainsFunc_api_Errno_api_Errno_m x0 (fun a0 => pk_good_1_m a0)).bind fun y4 => some (!y4)

/-- slices.Equal[[]int,int] -/
def slices_Equal_int_int_b1 (x1 : (List Int)) (i21 : Nat) (y31 : Int) : Unit → Option (Fl Bool Unit Unit) := fun _ => (idx x1 (i21 : Int)).bind fun y37 => (if y31 != y37 then some (.rt false) else some (.nx ()))
def slices_Equal_int_int_m (x0 : (List Int)) (x1 : (List Int)) : Option Bool := (if ((x0).length : Int) != ((x1).length : Int) then some false else bindR (ρ := Bool) (β := Unit) (σ := Unit) (rangeL (γ := Unit) (slices_Equal_int_int_b1 x1) x0 0 ()) fun _ => some true)

/-- feathermark/plumekeep.shares -/
def pk_shares_m : Option Bool := (seats_Share_m (1 : Int) ([(60 : Int), (30 : Int), (10 : Int)] : (List Int)) (5 : Int)).bind fun y6 => (seats_Share_m (3 : Int) ([(60 : Int), (30 : Int), (10 : Int)] : (List Int)) (5 : Int)).bind fun y14 => bindR (ρ := Bool) (β := Unit) (σ := Bool) ((pk_good_m ([y6.2, y14.2] : (List Int))).bind fun y48 => (if y48 then (slices_Equal_int_int_m y6.1 ([(4 : Int), (1 : Int), (0 : Int)] : (List Int))).bind fun y52 => (if y52 then (slices_Equal_int_int_m y14.1 ([(3 : Int), (2 : Int), (0 : Int)] : (List Int))).bind fun y56 => some (.nx y56) else some (.nx false)) else some (.nx false))) fun x39 => some x39

/-- feathermark/plumeref.Rest -/
def ref_Rest_m (x0 : Int) (x1 : Int) : Option Int := (chk (x1 ≠ 0)).bind fun _ => bindR (ρ := Int) (β := Unit) (σ := Int) (if decide ((Int.tmod x0 x1) < (0 : Int)) then some (.nx (wadd (Int.tmod x0 x1) x1)) else some (.nx (Int.tmod x0 x1))) fun x8 => some x8

/-- feathermark/plumekeep.Within -/
def pk_Within_m (x0 : Int) (x1 : Int) : Option Int := (ref_Rest_m x0 x1).bind fun y5 => some y5

/-- feathermark/plumekeep.PeopleOf -/
def pk_PeopleOf_b1 (i36 : Nat) (y46 : Int) : (List Int) → Option (Fl (List Int) (List Int) (List Int)) := fun l10 => (pk_Within_m y46 (1000 : Int)).bind fun y56 => (chk ((l10).length + (([y56] : (List Int))).length ≤ 68719476736)).bind fun _ => some (.nx (l10 ++ ([y56] : (List Int))))
def pk_PeopleOf_m (x0 : (List Int)) : Option (List Int) := (chk ((if (7 : Int) < ((x0).length : Int) then (7 : Int) else ((x0).length : Int)) ≤ (x0).length ∧ 0 ≤ (if (7 : Int) < ((x0).length : Int) then (7 : Int) else ((x0).length : Int)))).bind fun _ => bindR (ρ := (List Int)) (β := Unit) (σ := (List Int)) (rangeL (γ := Unit) pk_PeopleOf_b1 ((List.take ((if (7 : Int) < ((x0).length : Int) then (7 : Int) else ((x0).length : Int)).toNat) x0).drop 0) 0 ([(1 : Int)] : (List Int))) fun l10 => some l10

/-- feathermark/plumekeep.SeatsMore -/
def pk_SeatsMore_b1 (x3 : Int) (i56 : Nat) (y66 : Int) : (List Int) → Option (Fl Bool (List Int) (List Int)) := fun l30 => (pk_Within_m x3 (900 : Int)).bind fun y76 => (chk ((l30).length + (([wmul y66 (wadd (1 : Int) y76)] : (List Int))).length ≤ 68719476736)).bind fun _ => some (.nx (l30 ++ ([wmul y66 (wadd (1 : Int) y76)] : (List Int))))
def pk_SeatsMore_b3 (y21 : (List Int)) (y231 : Int) (y27 : (List Int) × Int) (i221 : Nat) (i277 : Nat) : Unit → Option (Fl Bool Unit Unit) := fun _ => bindF (ρ := Bool) (β := Unit) (σ := Bool) ((idx y21 (i277 : Int)).bind fun y310 => (if decide (y310 ≥ y231) then (idx y27.1 (i277 : Int)).bind fun y313 => (idx y27.1 (i221 : Int)).bind fun y315 => some (.nx (decide (y313 < y315))) else some (.nx false))) fun x302 => (if x302 then some (.rt false) else some (.nx ()))
def pk_SeatsMore_b2 (y21 : (List Int)) (y27 : (List Int) × Int) (i221 : Nat) (y231 : Int) : Unit → Option (Fl Bool Unit Unit) := fun _ => (chk ((i221 : Int) ≤ 9223372036854775807)).bind fun _ => bindF (ρ := Bool) (β := Unit) (σ := Unit) (rangeN (γ := Unit) (pk_SeatsMore_b3 y21 y231 y27 i221) ((i221 : Int)).toNat 0 ()) fun _ => some (.nx ())
def pk_SeatsMore_m (x0 : Int) (x1 : (List Int)) (x2 : Int) (x3 : Int) : Option Bool := (pk_shares_m).bind fun y7 => (if !y7 then some false else (pk_Within_m x0 (3 : Int)).bind fun y14 => (pk_Within_m x2 (101 : Int)).bind fun y16 => (pk_PeopleOf_m x1).bind fun y21 => (seats_Share_m (wadd (1 : Int) y14) y21 y16).bind fun y27 => bindR (ρ := Bool) (β := Unit) (σ := (List Int)) (rangeL (γ := Unit) (pk_SeatsMore_b1 x3) y21 0 ([])) fun l30 => (seats_Share_m (wadd (1 : Int) y14) l30 y16).bind fun y87 => bindR (ρ := Bool) (β := Unit) (σ := Bool) ((pk_good_m ([y27.2, y87.2] : (List Int))).bind fun y113 => (if !y113 then some (.nx true) else (slices_Equal_int_int_m y27.1 y87.1).bind fun y116 => (if !y116 then some (.nx true) else some (.nx (((y27.1).length : Int) != ((y21).length : Int)))))) fun x104 => (if x104 then some false else bindR (ρ := Bool) (β := Unit) (σ := Unit) (rangeL (γ := Unit) (pk_SeatsMore_b2 y21 y27) y21 0 ()) fun _ => some true))

/- more models, of functions that this law does not call -/
def pk_sum_b1 (i15 : Nat) (y25 : Int) : Int → Option (Fl Int Int Int) := fun x2 => some (.nx (wadd x2 y25))
def pk_sum_m (x0 : (List Int)) : Option Int := bindR (ρ := Int) (β := Unit) (σ := Int) (rangeL (γ := Unit) pk_sum_b1 x0 0 (0 : Int)) fun x2 => some x2

end Go.Mo
