/- The plain law: records that are framed are told, in order, whatever is torn off the end. -/
import Derived.Test.YtfekdillbgblkaaWLogBackModels
import Derived.Test.YtfekdillbgblkaaPuLogK0
import Derived.Test.YtfekdillbgblkaaPuWithin
import Derived.Test.YtfekdillbgblkaaPuLogS
set_option linter.all false
namespace Go.Pu
open Go.Fw Go.Mo
theorem within_big (x : Int) (n : Int) (h0 : 0 < n) (h1 : n ≤ 4611686018427387904) : pk_Within_m x n = some (x % n) := by
  have h2 : n ≠ 0 := by omega
  have he : 0 ≤ x % n := Int.emod_nonneg x h2
  have hl : x % n < n := Int.emod_lt_of_pos x h0
  unfold pk_Within_m ref_Rest_m
  simp only [chk, ne_eq, h2, not_false_eq_true, if_true, Option.bind_some]
  by_cases hx : 0 ≤ x
  · have ht : x.tmod n = x % n := Int.tmod_eq_emod_of_nonneg hx
    rw [ht]
    rw [if_neg (by simp; omega)]
    rfl
  · by_cases hd : x.tmod n < 0
    · rw [if_pos (by simpa using hd)]
      simp only [bindR, Option.bind_some]
      have : wadd (x.tmod n) n = x % n := by
        unfold wadd
        rw [IntKind.wrap_i64]
        have ht := Int.tmod_eq_emod (a := x) (b := n)
        have hnd : ¬ n ∣ x := fun hh => by rw [Int.tmod_eq_zero_of_dvd hh] at hd; omega
        simp [hx, hnd] at ht
        omega
      rw [this]
    · rw [if_neg (by simpa using hd)]
      simp only [bindR, Option.bind_some]
      have ht := Int.tmod_eq_emod (a := x) (b := n)
      by_cases hnd : n ∣ x
      · simp [hnd] at ht; rw [ht]
      · simp [hx, hnd] at ht; omega
/-- where each of them ends -/
def ends (l : List Bs) : List Int := (List.range l.length).map fun i => ((cat (l.take (i + 1))).length : Int)
theorem ends_len (l : List Bs) : (ends l).length = l.length := by simp [ends]
theorem ends_at {l : List Bs} {i : Nat} (h : i < l.length) : nth (ends l) i = ((cat (l.take (i + 1))).length : Int) := by
  unfold ends; rw [nth_get (by simpa using h)]; simp
theorem ends_snoc (l : List Bs) (r : Bs) : ends (l ++ [r]) = ends l ++ [((cat (l ++ [r])).length : Int)] := by
  unfold ends
  rw [List.length_append, List.length_singleton, List.range_succ, List.map_append, List.map_singleton]
  congr 1
  · apply List.map_congr_left
    intro i hi
    rw [List.mem_range] at hi
    rw [List.take_append_of_le_length (by omega)]
  · rw [List.take_of_length_le (by simp)]
theorem whole_at : ∀ (l : List Bs) (k i : Nat), i < l.length → ((cat (l.take (i + 1))).length ≤ k ↔ i < whole_ l k)
  | [], k, i, h => by simp at h
  | r :: l, k, i, h => by
    rw [List.take_succ_cons, cat, List.length_append, fr_len, whole_]
    cases i with
    | zero =>
      rw [List.take_zero]
      simp only [cat, List.length_nil]
      split <;> omega
    | succ i =>
      have := whole_at l (k - (r.length + 3)) i (by simpa using h)
      split
      · omega
      · omega
theorem cat_le : ∀ (l : List Bs), (∀ r ∈ l, r.length ≤ 64) → (cat l).length ≤ 67 * l.length
  | [], _ => by simp [cat]
  | r :: l, h => by
    have := cat_le l fun x hx => h x (by simp [hx])
    have := h r (by simp)
    simp only [cat, List.length_append, fr_len, List.length_cons]; omega
theorem LogBack (x0 : List Bs) (h0 : (∀ s ∈ x0, s.length ≤ maxLen) ∧ x0.length ≤ maxLen) (hx : x0.length ≤ 8796093021952) (x1 : Int) (_ : (Lit.int .i64 x1).wf = true) : pk_LogBack_m x0 x1 = some true := by
  apply Ok.eq
  unfold pk_LogBack_m
  rw [logs_t, Option.bind_some, if_neg (by decide), ok_bindR]
  refine ok_rangeL (fun k (st : Bs × List Int) => st = (cat (x0.take k), ends (x0.take k)) ∧ ∀ r ∈ x0.take k, r.length ≤ 64) ⟨rfl, by simp⟩ (fun k r st hk hI => ?_) fun st hst => ?_
  · obtain ⟨rfl, hr⟩ := hI
    obtain ⟨_, hkl⟩ := nth_of hk
    have hc := cat_le _ hr
    have htl : (x0.take k).length = k := by rw [List.length_take]; omega
    have hr0 : r.length ≤ 9223372036854775807 := h0.1 r (List.mem_of_getElem? hk)
    have htk : x0.take (k + 1) = x0.take k ++ [r] := by rw [List.take_succ, hk]; rfl
    unfold pk_LogBack_b1
    dsimp only
    rw [frame_ok, Option.bind_some]
    by_cases h64 : r.length ≤ 64
    · rw [if_pos h64]
      dsimp only
      have hfl := fr_len r
      rw [if_neg (by decide), chk_t (by omega), Option.bind_some, chk_t (by rw [ends_len, htl]; simp; omega), Option.bind_some, ok_some, flok_nx, htk, ← cat_snoc, ends_snoc]
      refine ⟨rfl, fun x h => ?_⟩
      rcases List.mem_append.1 h with h | h
      · exact hr x h
      · rw [List.mem_singleton] at h; subst h; exact h64
    · rw [if_neg h64]
      dsimp only
      rw [if_pos (by decide), if_pos (by rw [decide_eq_true_eq]; omega), ok_bindF, ok_some, flok_nx, ok_some, flok_rt]; rfl
  · rw [List.take_length] at hst
    obtain ⟨rfl, hr⟩ := hst
    have hc := cat_le _ hr
    dsimp only
    rw [wadd_of (by omega) (by omega), within_big x1 _ (by omega) (by omega), Option.bind_some]
    have a0 := Int.emod_nonneg x1 (b := ((cat x0).length : Int) + 1) (by omega)
    have a1 := Int.emod_lt_of_pos x1 (b := ((cat x0).length : Int) + 1) (by omega)
    generalize x1 % (((cat x0).length : Int) + 1) = K0 at a0 a1
    obtain ⟨K, rfl⟩ : ∃ K : Nat, K0 = K := ⟨K0.toNat, by omega⟩
    have hwl := whole_le x0 K
    rw [ok_bindR]
    refine Ok.fl (N := fun s : Int × Int => s = ((whole_ x0 K : Int), ((cat (x0.take (whole_ x0 K))).length : Int))) (B := fun _ => False) (R := fun _ => False) (ok_loopM (fun s : Int × Int => ∃ w : Nat, s = ((w : Int), ((cat (x0.take w)).length : Int)) ∧ w ≤ whole_ x0 K) (fun s => (x0.length - s.1).toNat) (fun s hs => ?_) _ _ ⟨0, by simp [cat], Nat.zero_le _⟩ (by dsimp only; omega)) (fun s hs => ?_) (fun _ h => h.elim) (fun _ h => h.elim)
    · obtain ⟨w, rfl, hw⟩ := hs
      unfold pk_LogBack_b2
      dsimp only
      rw [ends_len]
      by_cases h1 : w < x0.length
      · have hi := whole_at x0 K w h1
        rw [if_pos (by rw [decide_eq_true_eq]; omega), idx_nat, nth_at (by rw [ends_len]; exact h1), Option.bind_some, ends_at h1, ok_bindF, ok_some, flok_nx]
        by_cases h2 : w < whole_ x0 K
        · have := hi.2 h2
          rw [if_pos (by rw [decide_eq_true_eq]; omega), Option.bind_some, wadd_of (by omega) (by omega), ok_some, flok_nx]
          exact ⟨⟨w + 1, by simp, h2⟩, by dsimp only; omega⟩
        · have : ¬ (cat (x0.take (w + 1))).length ≤ K := fun h => h2 (hi.1 h)
          rw [if_neg (by rw [decide_eq_true_eq]; omega), ok_some, flok_br]
          have : w = whole_ x0 K := by omega
          subst this; rfl
      · rw [if_neg (by rw [decide_eq_true_eq]; omega), ok_bindF, ok_some, flok_nx, if_neg (by decide), ok_some, flok_br]
        have : w = whole_ x0 K := by omega
        subst this; rfl
    · subst hs
      dsimp only
      rw [chk_t ⟨by omega, by omega⟩, Option.bind_some, Int.toNat_natCast, List.drop_zero, scan_okB hr (by omega) (by omega), Option.bind_some]
      dsimp only
      rw [ok_bindR, if_pos (by rw [beq_iff_eq]), chk_t ⟨by omega, by omega⟩, Option.bind_some, Int.toNat_natCast, List.drop_zero, equalS_ok, Option.bind_some, ok_some, flok_nx, ok_some]; simp
end Go.Pu
