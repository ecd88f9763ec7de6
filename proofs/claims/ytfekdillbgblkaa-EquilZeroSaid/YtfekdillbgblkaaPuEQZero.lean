/- The plain law: what the one wins the other one loses: then what neither would leave is what is least of its row and most of its place. -/
import Derived.Test.YtfekdillbgblkaaWEquilZeroModels
import Derived.Test.YtfekdillbgblkaaPuEqu
set_option linter.all false
namespace Go.Pu
open Go.Fw Go.Mo
theorem less_ok (m : List (List Int)) (hm : m.length ≤ 5864062014634) (hr : ∀ r ∈ m, r.length ≤ 17592186043904) : Ok (rangeL (ρ := Bool) (γ := Unit) pk_EquilZero_b1 m 0 ([] : List (List Int))) (FlOk (fun l => l = m.map (fun r => r.map (fun x => wsub 0 x))) (fun _ => False) (fun _ => False)) := by
  refine ok_rangeL (fun k (l : List (List Int)) => l = (m.map (fun r => r.map (fun x => wsub 0 x))).take k) rfl (fun k row l hk hI => ?_) fun l hl' => by rw [hl', List.take_of_length_le (by simp)]
  obtain ⟨hv, hkl⟩ := nth_of hk
  have hrow := hr row (List.mem_of_getElem? hk)
  unfold pk_EquilZero_b1
  rw [ok_bindF]
  refine ok_rangeL (fun j (l : List Int) => l = (row.map (fun x => wsub 0 x)).take j) rfl (fun j v l hj hJ => ?_) fun l' hl' => ?_
  · obtain ⟨hv2, hjl⟩ := nth_of hj
    unfold pk_EquilZero_b2
    have hll : l.length ≤ row.length := by rw [hJ, List.length_take, List.length_map]; omega
    rw [chk_t (by simp; omega), Option.bind_some, ok_some, flok_nx, hJ, List.take_succ, List.getElem?_map, hj]; rfl
  · have hll : l.length ≤ m.length := by rw [hI, List.length_take, List.length_map]; omega
    have e : l' = row.map (fun x => wsub 0 x) := by rw [hl', List.take_of_length_le (by simp)]
    rw [chk_t (by simp; omega), Option.bind_some, ok_some, flok_nx, hI, List.take_succ, List.getElem?_map, hk, e]; rfl
theorem EquilZero (x0 : List (List Int)) (_ : (∀ r ∈ x0, (∀ x ∈ r, (Lit.int .i64 x).wf = true) ∧ r.length ≤ maxLen) ∧ x0.length ≤ maxLen) (hx : x0.length ≤ 5864062014634 ∧ ∀ r ∈ x0, r.length ≤ 17592186043904) : pk_EquilZero_m x0 = some true := by
  apply Ok.eq
  unfold pk_EquilZero_m
  rw [equils_t, Option.bind_some, if_neg (by decide), saddles_t, Option.bind_some, ok_bindR, ok_some, flok_nx, if_neg (by decide), ok_bindR]
  refine (less_ok x0 hx.1 hx.2).mono fun z hz => ?_
  cases z with
  | br b => exact hz.elim
  | rt b => exact hz.elim
  | nx l =>
    rw [flok_nx] at hz ⊢
    subst hz
    rcases sad_split x0 with ⟨r, c, f, h⟩ | ⟨e, he, hc⟩
    · have hl := h.mat.len
      have hT : Tbl r c (x0.map (fun r => r.map (fun x => wsub 0 x))) (fun x y => - f x y) := by
        have row : ∀ x, x < r → nth (x0.map (fun r => r.map (fun x => wsub 0 x))) x = (nth x0 x).map (fun x => wsub 0 x) := fun x hx => nth_map (by omega)
        refine ⟨⟨by simpa using hl, fun x hx => by rw [row x hx, List.length_map]; exact h.mat.row x hx, fun x y hx hy => ?_⟩, h.r1, h.r6, h.c1, h.c6, fun x y hx hy => by have := h.val x y hx hy; omega⟩
        have hb := h.val x y hx hy
        rw [row x hx, nth_map (by rw [h.mat.row x hx]; exact hy), h.mat.at_ x y hx hy, wsub_of (by omega) (by omega)]; omega
      have hp : ptsL c (isEq r c f (fun x y => - f x y)) r = ptsL c (isPt r c f) r := ptsL_congr fun x y hx hy => by
        rw [Bool.eq_iff_iff, isEq_iff, isPt_iff]
        exact ⟨fun ⟨a, b⟩ => ⟨fun k hk => by have := b k hk; omega, a⟩, fun ⟨a, b⟩ => ⟨b, fun k hk => by have := a k hk; omega⟩⟩
      rw [rest_ok h hT, Option.bind_some, points_sad h, Option.bind_some, hp]
      simp only [beq_self_eq_true, if_true]
      rw [equal_pairs_ok, Option.bind_some, ok_bindR, ok_some, flok_nx, ok_some]
      simp
    · have hq : equil_Check_m x0 (x0.map (fun r => r.map (fun x => wsub 0 x))) = some e := by
        unfold equil_Check_m
        rw [hc, Option.bind_some, if_pos (by simpa using he)]
      rw [rest_no he hq, Option.bind_some, points_no he hc, Option.bind_some]
      simp only [beq_self_eq_true, if_true]
      rw [equal_pairs_ok, Option.bind_some, ok_bindR, ok_some, flok_nx, ok_some]
      simp
end Go.Pu
