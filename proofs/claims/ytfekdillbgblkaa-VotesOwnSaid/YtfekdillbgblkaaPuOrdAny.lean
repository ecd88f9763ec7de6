/- Whatever order.Check answers. -/
import Derived.Test.YtfekdillbgblkaaWVotesOwnModels
import Derived.Test.YtfekdillbgblkaaPuOrd
set_option linter.all false
namespace Go.Pu
open Go.Fw Go.Mo
theorem nodup_len' {n : Nat} {l : List Int} (hn : l.Nodup) (hb : ∀ x ∈ l, 0 ≤ x ∧ x < n) : l.length ≤ n := by
  have h : (l.map Int.toNat).Nodup := by
    unfold List.Nodup
    rw [List.pairwise_map]
    exact hn.imp_of_mem fun ha hb' hne => by have := hb _ ha; have := hb _ hb'; omega
  have := List.Nodup.length_le_of_subset h (l₂ := List.range n) (fun x hx => by
    obtain ⟨y, hy, rfl⟩ := List.mem_map.1 hx
    have := hb y hy
    exact List.mem_range.2 (by omega))
  simpa using this
theorem ord_of {n : Nat} {p : List Int} (hl : p.length = n) (hn : p.Nodup) (hb : ∀ x ∈ p, 0 ≤ x ∧ x < n) : Ord n p := by
  refine ⟨hl, fun x => ⟨hb x, fun hx => ?_⟩, hn⟩
  apply Decidable.byContradiction
  intro hm
  have := nodup_len' (n := n) (l := x :: p) (List.nodup_cons.2 ⟨hm, hn⟩) (fun y hy => by
    rcases List.mem_cons.1 hy with rfl | hy
    · exact hx
    · exact hb y hy)
  rw [List.length_cons] at this
  omega
theorem order_any (x0 : Int) (p : List Int) : Ok (order_Check_m x0 p) (fun e => e = 0 → ∃ n : Nat, x0 = (n : Int) ∧ 1 ≤ n ∧ n ≤ 6 ∧ Ord n p) := by
  unfold order_Check_m
  by_cases h1 : x0 < 1
  · rw [if_pos (by simpa using h1), ok_bindR, ok_some, flok_nx, if_pos rfl, ok_some]; intro h; exact absurd h (by decide)
  rw [if_neg (by simpa using h1), ok_bindR, ok_some, flok_nx]
  by_cases h6 : x0 > 6
  · rw [if_pos (by simpa using h6), ok_some]; intro h; exact absurd h (by decide)
  rw [if_neg (by simpa using h6), ok_bindR]
  obtain ⟨n, rfl⟩ : ∃ n : Nat, x0 = (n : Int) := ⟨x0.toNat, by omega⟩
  refine ok_rangeL (fun k s => s.length = 6 ∧ (∀ x ∈ p.take k, 0 ≤ x ∧ x < n) ∧ (p.take k).Nodup ∧ ∀ x ∈ p.take k, nth s x.toNat = true) ⟨by simp, by simp, by simp, by simp⟩ (fun k x s hk hI => ?_) fun s hs => ?_
  · obtain ⟨i1, i2, i3, i4⟩ := hI
    have hkl := (List.getElem?_eq_some_iff.1 hk).1
    have htk : p.take (k + 1) = p.take k ++ [x] := by rw [List.take_succ, hk]; rfl
    unfold order_Check_b1
    by_cases c1 : x < 0
    · rw [if_pos (by simpa using c1), ok_bindF, ok_some, flok_nx, if_pos rfl, ok_some, flok_rt]; intro h; exact absurd h (by decide)
    rw [if_neg (by simpa using c1)]
    by_cases c2 : x ≥ n
    · rw [if_pos (by simpa using c2), ok_bindF, ok_some, flok_nx, if_pos rfl, ok_some, flok_rt]; intro h; exact absurd h (by decide)
    rw [if_neg (by simpa using c2)]
    obtain ⟨j, rfl⟩ : ∃ j : Nat, x = (j : Int) := ⟨x.toNat, by omega⟩
    rw [idx_nat, nth_at (by omega), Option.bind_some, ok_bindF, ok_some, flok_nx]
    cases hb : nth s j with
    | true => rw [if_pos rfl, ok_some, flok_rt]; intro h; exact absurd h (by decide)
    | false =>
      rw [if_neg (by simp), Option.bind_some, ok_some, flok_nx, Int.toNat_natCast, htk]
      refine ⟨by simpa using i1, fun y hy => ?_, ?_, fun y hy => ?_⟩
      · rcases List.mem_append.1 hy with hy | hy
        · exact i2 y hy
        · rw [List.mem_singleton] at hy; omega
      · rw [List.nodup_append]
        refine ⟨i3, by simp, fun a ha b hb' e => ?_⟩
        rw [List.mem_singleton] at hb'
        subst hb'
        have := i4 a ha
        rw [e, Int.toNat_natCast, hb] at this
        cases this
      · rw [nth_set (by omega)]
        split
        · rfl
        · rename_i hne
          rcases List.mem_append.1 hy with hy | hy
          · exact i4 y hy
          · rw [List.mem_singleton] at hy; subst hy; exact absurd (Int.toNat_natCast j) hne
  · rw [List.take_length] at hs
    by_cases hl : (p.length : Int) = n
    · rw [if_neg (by rw [bne_iff_ne]; omega), ok_some]
      exact fun _ => ⟨n, rfl, by omega, by omega, ord_of (by omega) hs.2.2.1 hs.2.1⟩
    · rw [if_pos (by rw [bne_iff_ne]; exact hl), ok_some]; intro h; exact absurd h (by decide)
end Go.Pu
