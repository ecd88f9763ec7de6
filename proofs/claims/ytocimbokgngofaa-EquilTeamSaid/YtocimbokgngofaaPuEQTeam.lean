/- The plain law: where both have the same there is a row and a place from which neither would go: where it is most. -/
import Derived.Test.YtocimbokgngofaaWEquilTeamModels
import Derived.Test.YtocimbokgngofaaPuEqu
set_option linter.all false
namespace Go.Pu
open Go.Fw Go.Mo
theorem EquilTeam (x0 : List (List Int)) (_ : (∀ r ∈ x0, (∀ x ∈ r, (Lit.int .i64 x).wf = true) ∧ r.length ≤ maxLen) ∧ x0.length ≤ maxLen) : pk_EquilTeam_m x0 = some true := by
  apply Ok.eq
  unfold pk_EquilTeam_m
  rw [equils_t, Option.bind_some, if_neg (by decide)]
  rcases eq_split x0 x0 with ⟨r, c, f, g, h, _⟩ | ⟨e, he, hc⟩
  · rw [rest_ok h h, Option.bind_some, if_neg (by simp), ok_bindR]
    have hl := h.mat.len; have r1 := h.r1; have c1 := h.c1
    have start : ∃ a b : Nat, ([(0 : Int), (0 : Int)] : List Int) = [(a : Int), (b : Int)] ∧ a < r ∧ b < c ∧ ∀ x y, x < 0 → y < c → f x y ≤ f a b := ⟨0, 0, rfl, by omega, by omega, fun x y hx => by omega⟩
    refine ok_rangeL (fun i (l : List Int) => ∃ a b : Nat, l = [(a : Int), (b : Int)] ∧ a < r ∧ b < c ∧ ∀ x y, x < i → y < c → f x y ≤ f a b) start (fun i row l hi hI => ?_) fun l hl' => ?_
    · obtain ⟨hr, hil⟩ := nth_of hi
      have hrow := h.mat.row i (by omega)
      rw [hr] at hrow
      unfold pk_EquilTeam_b1
      rw [ok_bindF]
      obtain ⟨a0, b0, e0, ha0, hb0, hm0⟩ := hI
      refine ok_rangeL (fun j (l : List Int) => ∃ a b : Nat, l = [(a : Int), (b : Int)] ∧ a < r ∧ b < c ∧ (∀ x y, x < i → y < c → f x y ≤ f a b) ∧ ∀ y, y < j → f i y ≤ f a b) ⟨a0, b0, e0, ha0, hb0, hm0, fun y hy => by omega⟩ (fun j v l hj hJ => ?_) fun l hl' => ?_
      · obtain ⟨hv, hjl⟩ := nth_of hj
        have hb := h.mat.at_ i j (by omega) (by omega)
        rw [hr, hv] at hb
        obtain ⟨a, b, rfl, ha, hbc, hm, hj'⟩ := hJ
        have i0 : idx [(a : Int), (b : Int)] (0 : Int) = some (a : Int) := rfl
        have i1 : idx [(a : Int), (b : Int)] (1 : Int) = some (b : Int) := rfl
        unfold pk_EquilTeam_b2
        simp only [i0, i1, Option.bind_some, idx_nat, h.mat.row? ha, h.mat.cell? ha hbc]
        by_cases hgt : v > f a b
        · rw [if_pos (by simpa using hgt), ok_some, flok_nx]
          refine ⟨i, j, rfl, by omega, by omega, fun x y hx hy => ?_, fun y hy => ?_⟩
          · have := hm x y hx hy; omega
          · by_cases e : y = j
            · subst e; exact Int.le_refl _
            · have := hj' y (by omega); omega
        · rw [if_neg (by simpa using hgt), ok_some, flok_nx]
          refine ⟨a, b, rfl, ha, hbc, hm, fun y hy => ?_⟩
          by_cases e : y = j
          · subst e; omega
          · exact hj' y (by omega)
      · obtain ⟨a, b, e, ha, hbc, hm, hj'⟩ := hl'
        rw [hrow] at hj'
        rw [ok_some, flok_nx]
        refine ⟨a, b, e, ha, hbc, fun x y hx hy => ?_⟩
        by_cases e : x = i
        · subst e; exact hj' y hy
        · exact hm x y (by omega) hy
    · obtain ⟨a, b, rfl, ha, hb, hm⟩ := hl'
      rw [hl] at hm
      have hin : [(a : Int), (b : Int)] ∈ ptsL c (isEq r c f f) r := mem_ptsL.2 ⟨a, b, ha, hb, isEq_iff.2 ⟨fun k hk => hm k b hk hb, fun k hk => hm a k ha hk⟩, rfl⟩
      rw [contains_pairs_ok, Option.bind_some, ok_some, decide_eq_true hin]
  · rw [rest_no he hc, Option.bind_some, if_pos (by simpa using he), ok_some]; rfl
end Go.Pu
