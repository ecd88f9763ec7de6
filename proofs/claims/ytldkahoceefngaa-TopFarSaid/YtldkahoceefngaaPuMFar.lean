/- How far an order is from all votes. -/
import Derived.Test.YtldkahoceefngaaWTopFarModels
import Derived.Test.YtldkahoceefngaaPuBest
set_option linter.all false
namespace Go.Pu
open Go.Fw Go.Mo
def ktAll (n : Nat) (p : List Int) : List (List Int) → Int
  | [] => 0
  | q :: v => ktAll n p v + kt n p q
theorem ktAll_append (n : Nat) (p : List Int) (v w : List (List Int)) : ktAll n p (v ++ w) = ktAll n p v + ktAll n p w := by
  induction v with
  | nil => simp [ktAll]
  | cons q v ih => simp only [List.cons_append, ktAll, ih]; omega
theorem ktAll_cost (n : Nat) (p : List Int) (v : List (List Int)) : ktAll n p v = cost n (duel v) p := by
  induction v with
  | nil =>
    unfold cost
    simp only [ktAll, duel]
    rw [sumN_congr (g := fun _ => 0) (fun x _ => ?_), sumN_zero]
    rw [sumN_congr (g := fun _ => 0) (fun y _ => by split <;> rfl), sumN_zero]
  | cons q v ih =>
    simp only [ktAll, ih]
    unfold cost kt
    rw [← sumN_add]
    refine sumN_congr fun x _ => ?_
    rw [← sumN_add]
    refine sumN_congr fun y _ => ?_
    simp only [duel]
    cases bf p x y <;> cases bf q y x <;> simp [b1]
theorem ktAll_bound {n : Nat} (h6 : n ≤ 6) (p : List Int) (v : List (List Int)) : 0 ≤ ktAll n p v ∧ ktAll n p v ≤ 36 * v.length := by
  induction v with
  | nil => simp [ktAll]
  | cons q v ih => simp only [ktAll, List.length_cons]; have := kt_bound h6 p q; omega
theorem mfar_ok {n : Nat} {v : List (List Int)} {p : List Int} (h1 : 1 ≤ n) (h6 : n ≤ 6) (hv : Votes n v) (hp : Ord n p) : middle_Far_m (n : Int) v p = some (cost n (duel v) p, 0) := by
  apply Ok.eq
  unfold middle_Far_m
  rw [tally_check h1 h6 hv, order_check h1 h6 hp]
  simp only [ok_bind, ok_bindR, ok_ite, ok_some, bne_self_eq_false, Bool.false_eq_true, false_implies, true_and, not_false_eq_true, true_implies]
  refine ok_rangeL (s := (0 : Int)) (fun (k : Nat) (c : Int) => c = ktAll n p (v.take k)) (by simp [ktAll]) (fun k q c hk hc => ?_) fun c hc => by rw [hc, List.take_length, ktAll_cost]
  have hq := hv.2 q (List.mem_of_getElem? hk)
  have hkl := (List.getElem?_eq_some_iff.1 hk).1
  have b := ktAll_bound h6 p (v.take k)
  have b2 := kt_bound h6 p q
  have hl : ((v.take k).length : Int) ≤ 30 := by rw [List.length_take]; have := hv.1; omega
  unfold middle_Far_b1
  rw [far_ok h1 h6 hp hq]
  simp only [Option.bind_some, ok_some, flok_nx]
  have e1 : v[k] = q := (List.getElem?_eq_some_iff.1 hk).2
  rw [hc, wadd_of (by omega) (by omega), List.take_succ_eq_append_getElem hkl, ktAll_append, e1]
  simp [ktAll]
end Go.Pu
