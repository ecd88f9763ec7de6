/- The plain law: where neither would go is what is left; and where one row and one place are left it is just that. -/
import Derived.Test.YtocimbokgngofaaWEquilLeftModels
import Derived.Test.YtocimbokgngofaaPuEqu
set_option linter.all false
namespace Go.Pu
open Go.Fw Go.Mo
theorem pick_pos {p : Nat → Bool} {n x : Nat} (hx : x < n) (hp : p x = true) : 0 < (pickB p n).length := List.length_pos_of_mem (mem_pickB.2 ⟨x, hx, hp, rfl⟩)
theorem pick_one {p : Nat → Bool} {n : Nat} (h : (pickB p n).length = 1) : ∃ x, x < n ∧ p x = true ∧ pickB p n = [(x : Int)] ∧ ∀ y, y < n → p y = true → y = x := by
  match hl : pickB p n, h with
  | [z], _ =>
    obtain ⟨x, hx, hp, e⟩ := mem_pickB.1 (show z ∈ pickB p n by rw [hl]; simp)
    refine ⟨x, hx, hp, by rw [e], fun y hy hpy => ?_⟩
    have := mem_pickB.2 ⟨y, hy, hpy, rfl⟩
    rw [hl, List.mem_singleton] at this
    omega
theorem pts_one {r c : Nat} {P : Nat → Nat → Bool} {x y : Nat} (hx : x < r) (hy : y < c) (hp : P x y = true) (h : ∀ a b, a < r → b < c → P a b = true → a = x ∧ b = y) : ptsL c P r = [[(x : Int), (y : Int)]] := by
  have hlen : ((ptsL c P r).length : Int) = 1 := by
    rw [len_ptsL]
    have e : sumN r (fun a => sumN c (fun b => if P a b then (1 : Int) else 0)) = sumN r (fun a => if a = x then 1 else 0) := by
      refine sumN_congr fun a ha => ?_
      by_cases e : a = x
      · subst e
        rw [if_pos rfl]
        have : sumN c (fun b => if P a b then (1 : Int) else 0) = sumN c (fun b => if b = y then 1 else 0) := by
          refine sumN_congr fun b hb => ?_
          by_cases e : b = y
          · subst e; rw [hp]; simp
          · rw [if_neg e, if_neg fun h' => e (h a b ha hb h').2]
        rw [this, sumN_single hy]
      · rw [if_neg e, sumN_congr (g := fun _ => 0) fun b hb => if_neg fun h' => e (h a b ha hb h').1, sumN_zero]
    rw [e, sumN_single hx]
  have hm := mem_ptsL.2 ⟨x, y, hx, hy, hp, rfl⟩
  match hl : ptsL c P r, hlen, hm with
  | [z], _, hm => rw [List.mem_singleton] at hm; rw [hm]
theorem EquilRest (x0 : List (List Int)) (_ : (∀ r ∈ x0, (∀ x ∈ r, (Lit.int .i64 x).wf = true) ∧ r.length ≤ maxLen) ∧ x0.length ≤ maxLen) (x1 : List (List Int)) (_ : (∀ r ∈ x1, (∀ x ∈ r, (Lit.int .i64 x).wf = true) ∧ r.length ≤ maxLen) ∧ x1.length ≤ maxLen) : pk_EquilRest_m x0 x1 = some true := by
  apply Ok.eq
  unfold pk_EquilRest_m
  rw [equils_t, Option.bind_some, if_neg (by decide)]
  rcases eq_split x0 x1 with ⟨r, c, f, g, ha, hb⟩ | ⟨e, he, hc⟩
  · obtain ⟨R, C, el, hI, n1, n2⟩ := left_ok ha hb
    rw [rest_ok ha hb, Option.bind_some, el, Option.bind_some]
    simp only [bne_self_eq_false, Bool.false_eq_true, if_false]
    rw [ok_bindR, ok_some, flok_nx, if_neg (by decide), ok_bindR]
    refine ok_rangeN (fun _ _ => True) trivial (fun i u hi _ => ?_) fun _ _ => ?_
    · obtain ⟨x, y, hx, hy, hp, e⟩ := mem_ptsL.1 (nth_mem hi)
      obtain ⟨q1, q2⟩ := hI.eqs x y hx hy hp
      have m1 : (x : Int) ∈ pickB (nth R) r := mem_pickB.2 ⟨x, hx, q1, rfl⟩
      have m2 : (y : Int) ∈ pickB (nth C) c := mem_pickB.2 ⟨y, hy, q2, rfl⟩
      have i0 : idx [(x : Int), (y : Int)] (0 : Int) = some (x : Int) := rfl
      have i1 : idx [(x : Int), (y : Int)] (1 : Int) = some (y : Int) := rfl
      unfold pk_EquilRest_b1
      simp only
      rw [idx_nat, nth_at hi, Option.bind_some, e]
      simp only [i0, i1, Option.bind_some, contains_ok, decide_eq_true m1, decide_eq_true m2, Bool.not_true, Bool.false_eq_true, if_false]
      rw [ok_bindF, ok_some, flok_nx, if_neg (by decide), ok_some, flok_nx]; trivial
    · obtain ⟨x, hx, hxR⟩ := hI.rn
      obtain ⟨y, hy, hyC⟩ := hI.cn
      have p1 := pick_pos hx hxR
      have p2 := pick_pos hy hyC
      rw [if_pos (by simpa using p1), if_pos (by simpa using p2)]
      by_cases g1 : 1 < (pickB (nth R) r).length
      · rw [if_pos (by simp; omega), ok_bindR, ok_some, flok_nx, ok_some]
      · rw [if_neg (by simp; omega)]
        by_cases g2 : 1 < (pickB (nth C) c).length
        · rw [if_pos (by simp; omega), ok_bindR, ok_some, flok_nx, ok_some]
        · rw [if_neg (by simp; omega)]
          obtain ⟨a, ha', haR, ea, ua⟩ := pick_one (p := nth R) (n := r) (by omega)
          obtain ⟨b, hb', hbC, eb, ub⟩ := pick_one (p := nth C) (n := c) (by omega)
          have hE : isEq r c f g a b = true := by
            refine isEq_iff.2 ⟨fun k hk => ?_, fun k hk => ?_⟩
            · obtain ⟨q, hq, hm⟩ := maxOf ha.r1 (fun x => f x b)
              have := ua q hq (hI.rm b q hb' hq hbC hm)
              subst this; exact hm k hk
            · obtain ⟨q, hq, hm⟩ := maxOf ha.c1 (fun y => g a y)
              have := ub q hq (hI.cm a q ha' hq haR hm)
              subst this; exact hm k hk
          have hpts := pts_one ha' hb' hE fun u v hu hv huv => by
            obtain ⟨q1, q2⟩ := hI.eqs u v hu hv huv
            exact ⟨ua u hu q1, ub v hv q2⟩
          rw [ea, eb, hpts]
          simp only [show idx [(a : Int)] (0 : Int) = some (a : Int) from rfl, show idx [(b : Int)] (0 : Int) = some (b : Int) from rfl, Option.bind_some, equal_pairs_ok, decide_true]
          simp [ok_bindR, ok_some, flok_nx]
  · rw [rest_no he hc, Option.bind_some, left_no he hc, Option.bind_some]
    have hb : (e != 0) = true := by simpa using he
    simp only [hb, if_true]
    rw [ok_bindR, ok_some, flok_nx, if_pos rfl, beq_self_eq_true, if_pos rfl, ok_bindR, ok_some, flok_nx, ok_some]
    rfl
end Go.Pu
