/- The plain law: winners by widest ways are top sides; a top side that is alone is the winner. -/
import Derived.Test.YtofonliapfdbmaaWWidestTopModels
import Derived.Test.YtofonliapfdbmaaPuWide
import Derived.Test.YtofonliapfdbmaaPuTop
import Derived.Test.YtofonliapfdbmaaPuEq
set_option linter.all false
namespace Go.Pu
open Go.Fw Go.Mo
theorem wide_out {n : Nat} {d : Nat → Nat → Int} {x t : Nat} (hx : x < n) (ht : t < n) (h1 : ¬ Tops n d x) (h2 : Tops n d t) : ∀ (k : Nat), k ≤ n → ∀ {x t : Nat}, x < n → t < n → ¬ Tops n d x → Tops n d t → wide d k x t ≤ 0
  | 0, _, x, t, hx, ht, h1, h2 => by
    have := tops_beat ht hx h2 h1
    rw [wide, if_neg (by omega)]; omega
  | k + 1, hk, x, t, hx, ht, h1, h2 => by
    have a := wide_out hx ht h1 h2 k (by omega) hx ht h1 h2
    rw [wide]
    split
    · by_cases hkt : Tops n d k
      · have := wide_out hx ht h1 h2 k (by omega) hx (show k < n by omega) h1 hkt; omega
      · have := wide_out hx ht h1 h2 k (by omega) (show k < n by omega) ht hkt h2; omega
    · exact a
theorem wins_top {n : Nat} {d : Nat → Nat → Int} (hn : 1 ≤ n) (hv : ∀ x y, x < n → y < n → 0 ≤ d x y ∧ d x y ≤ 30) {x : Nat} (hx : x < n) (h : WideWins n d x) : Tops n d x := by
  refine Classical.byContradiction fun hnt => ?_
  obtain ⟨t, ht, hT⟩ := tops_ex (d := d) hn
  have a := wide_out hx ht hnt hT n (Nat.le_refl _) hx ht hnt hT
  have b := tops_beat ht hx hT hnt
  have c := wide_duel (d := d) (k := n) b
  have e := h t ht
  have := hv x t hx ht
  omega
theorem WidestTop (x0 : List (List Int)) (_ : (∀ r ∈ x0, (∀ x ∈ r, (Lit.int .i64 x).wf = true) ∧ r.length ≤ maxLen) ∧ x0.length ≤ maxLen) : pk_WidestTop_m x0 = some true := by
  apply Ok.eq
  unfold pk_WidestTop_m
  have e1 : pk_wides_m = some true := by decide +kernel
  have e2 : pk_duels_m = some true := by decide +kernel
  rw [e1, e2]
  simp only [ok_bind, ok_ite, ok_bindR, ok_some, flok_nx, Bool.not_true, Bool.false_eq_true, false_implies, true_and, not_false_eq_true, true_implies]
  rcases tab_split x0 with ⟨d, h, ec⟩ | ⟨e, he, ec⟩
  · have ew := winners_ok h
    have et := top_ok h
    have hn := h.n1
    generalize hN : x0.length = n at *
    have sub : ∀ x : Int, x ∈ pickB (wideB n d) n → x ∈ pickB (topB n d) n := fun x hx => by
      obtain ⟨k, hk, hk', rfl⟩ := mem_pickB.1 hx
      exact mem_pickB.2 ⟨k, hk, topB_iff.2 (wins_top hn h.val hk (wideB_iff.1 hk')), rfl⟩
    simp only [ew, et, ok_bind, ok_ite, ok_bindR, ok_some, flok_nx, bne_self_eq_false, Bool.not_true, Bool.false_eq_true, false_implies, true_and, not_false_eq_true, true_implies]
    refine ok_rangeN (fun _ _ => True) trivial (fun k s hk _ => ?_) fun s _ => ?_
    · unfold pk_WidestTop_b1
      have hin := sub _ (nth_mem hk)
      simp [idx_nat, nth_at hk, Option.bind_some, ok_ite, ok_some, flok_nx, flok_rt, contains_ok, hin]
    · simp only [flok_nx, ok_ite, ok_some, ok_bind, ok_bindR, equal_ok, bne_iff_ne]
      refine ⟨fun _ => by trivial, fun h1 => ?_⟩
      rw [decide_eq_true_eq]
      refine pickB_congr fun k hk => ?_
      rw [Bool.eq_iff_iff, wideB_iff, topB_iff]
      refine ⟨fun hw => wins_top hn h.val hk hw, fun hT y hy => ?_⟩
      by_cases hyk : y = k
      · subst hyk; exact Int.le_refl _
      · have hnt : ¬ Tops n d y := fun hy' => by
          have m1 : (k : Int) ∈ pickB (topB n d) n := mem_pickB.2 ⟨k, hk, topB_iff.2 hT, rfl⟩
          have m2 : (y : Int) ∈ pickB (topB n d) n := mem_pickB.2 ⟨y, hy, topB_iff.2 hy', rfl⟩
          have hl : (pickB (topB n d) n).length = 1 := by
            have := Classical.not_not.1 h1; omega
          obtain ⟨a, ha⟩ := List.length_eq_one_iff.1 hl
          rw [ha] at m1 m2
          simp at m1 m2
          omega
        have a := wide_out hy hk hnt hT n (Nat.le_refl _) hy hk hnt hT
        have b := wide_nn h.val n (Nat.le_refl _) hk hy
        omega
  · have ep : widest_Paths_m x0 = some ([], e) := by
      unfold widest_Paths_m
      rw [ec, Option.bind_some, if_pos (by simpa using he)]
    have ew : widest_Winners_m x0 = some ([], e) := by
      unfold widest_Winners_m
      rw [ep, Option.bind_some, if_pos (by simpa using he)]
    have et : duel_Top_m x0 = some ([], e) := by
      unfold duel_Top_m
      rw [ec, Option.bind_some, if_pos (by simpa using he)]
    simp only [ew, et, ok_bind, ok_ite, ok_bindR, ok_some, flok_nx, bne_iff_ne]
    simp [he]
end Go.Pu
