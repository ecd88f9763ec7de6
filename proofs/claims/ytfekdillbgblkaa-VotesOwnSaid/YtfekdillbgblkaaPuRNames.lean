/- The plain law: by other names the same have won, and with all votes twice nothing changes. -/
import Derived.Test.YtfekdillbgblkaaWVotesOwnModels
import Derived.Test.YtfekdillbgblkaaPuRename
import Derived.Test.YtfekdillbgblkaaPuRounds2
import Derived.Test.YtfekdillbgblkaaPuList
set_option linter.all false
namespace Go.Pu
open Go.Fw Go.Mo
theorem ren_ok {n : Nat} (h6 : n ≤ 6) {p : List Int} (hp : Ord n p) {v : List (List Int)} (hv : Votes n v) : pk_renamed_m v p = some (ren p v) := by
  apply Ok.eq
  unfold pk_renamed_m
  have h30 := hv.1
  rw [ok_bindR]
  refine ok_rangeL (fun k (s : List (List Int)) => s = ren p (v.take k)) rfl (fun k r s hk hI => ?_) fun s hs => by rw [ok_some, hs, List.take_length]
  have hkl := (List.getElem?_eq_some_iff.1 hk).1
  have et : v.take (k + 1) = v.take k ++ [r] := by rw [List.take_succ, hk]; rfl
  have hr : Ord n r := hv.2 r (List.mem_of_getElem? hk)
  have sl : s.length ≤ 30 := by rw [hI]; unfold ren; rw [List.length_map, List.length_take]; omega
  unfold pk_renamed_b1
  rw [ok_bindF]
  refine ok_rangeL (fun j (l : List Int) => l = (r.take j).map (nm p)) rfl (fun j y l hj hJ => ?_) fun l hl => ?_
  · have hjl := (List.getElem?_eq_some_iff.1 hj).1
    have et' : r.take (j + 1) = r.take j ++ [y] := by rw [List.take_succ, hj]; rfl
    have hy := (hr.mem y).1 (List.mem_of_getElem? hj)
    have ll : l.length ≤ 6 := by rw [hJ, List.length_map, List.length_take]; have := hr.len; omega
    obtain ⟨q, rfl⟩ : ∃ q : Nat, y = q := ⟨y.toNat, by omega⟩
    unfold pk_renamed_b2
    rw [idx_nat, nth_at (show q < p.length by rw [hp.len]; omega), Option.bind_some, chk_t (by simp; omega), Option.bind_some, ok_some, flok_nx, et', List.map_append, hJ]
    rfl
  · rw [List.take_length] at hl
    rw [chk_t (by simp; omega), Option.bind_some, ok_some, flok_nx, et, hI, hl]
    unfold ren
    rw [List.map_append]; rfl
theorem am_count {g : Nat → Int} {n : Nat} : ((am g n).length : Int) = sumN n (fun i => if (∀ j, j < n → g j ≤ g i) then 1 else 0) := by
  unfold am
  have : ∀ (P : Nat → Bool) (k : Nat), ((((List.range k).filter P).length : Nat) : Int) = sumN k (fun i => if P i = true then 1 else 0) := fun P k => by
    induction k with
    | zero => rfl
    | succ k ih =>
      rw [List.range_succ, List.filter_append, List.length_append, Int.natCast_add, ih]
      simp only [sumN]
      cases h : P k <;> simp [h]
  rw [this]
  exact sumN_congr fun i _ => by simp only [decide_eq_true_eq]
theorem winners5 {n : Nat} (h1 : 1 ≤ n) (h6 : n ≤ 6) {v : List (List Int)} (hv : Votes n v) : rules_Winners_m ((5 : Nat) : Int) (n : Int) v = (rules_rounds_m (n : Int) v).bind fun y => some (y, 0) := by
  obtain ⟨m, em, hM⟩ := duels_ok h1 h6 hv
  unfold rules_Winners_m
  rw [show (if decide (((5 : Nat) : Int) < (1 : Int)) then some (Fl.nx true) else some (Fl.nx (decide (((5 : Nat) : Int) > (5 : Int))))) = (some (Fl.nx false) : Option (Fl (List Int × Int) Unit Bool)) from rfl, bindR, if_neg (by decide), em, Option.bind_some, if_neg (by simp), if_neg (by decide), if_neg (by decide), if_neg (by decide), if_neg (by decide), if_pos (by decide)]
theorem RulesNames (x0 : Int) (_ : (Lit.int .i64 x0).wf = true) (x1 : Int) (_ : (Lit.int .i64 x1).wf = true) (x2 : List (List Int)) (_ : (∀ r ∈ x2, (∀ x ∈ r, (Lit.int .i64 x).wf = true) ∧ r.length ≤ maxLen) ∧ x2.length ≤ maxLen) (x3 : List Int) (_ : (∀ x ∈ x3, (Lit.int .i64 x).wf = true) ∧ x3.length ≤ maxLen) : pk_RulesNames_m x0 x1 x2 x3 = some true := by
  obtain ⟨k, k1, k5, hk⟩ := one_within x0 5 (by decide) (by decide)
  rw [show ((5 : Nat) : Int) = 5 from rfl] at hk
  obtain ⟨n, n1, n6, hn⟩ := one_within x1 6 (by decide) (by decide)
  rw [show ((6 : Nat) : Int) = 6 from rfl] at hn
  obtain ⟨v0, ev, hl0, hv0⟩ := votesOf_ok n x2 n1 n6
  obtain ⟨p, ep, hp⟩ := orderOf_ok n x3 n1 (by omega)
  have h30 := hv0.1
  have e15 : (if (15 : Int) < ((v0).length : Int) then (15 : Int) else ((v0).length : Int)) = ((min 15 v0.length : Nat) : Int) := by omega
  unfold pk_RulesNames_m
  rw [winners_t, Option.bind_some, if_neg (by decide), within_at x0 5 (by decide) (by decide), Option.bind_some, within_at x1 6 (by decide) (by decide), Option.bind_some, hn, ev, Option.bind_some, ep, Option.bind_some, e15, chk_t (by omega), Option.bind_some, hk]
  simp only [Int.toNat_natCast, List.drop_zero]
  have hvl : (v0.take (min 15 v0.length)).length ≤ 15 := by rw [List.length_take]; omega
  have hv : Votes n (v0.take (min 15 v0.length)) := ⟨by omega, fun q hq => hv0.2 q (List.mem_of_mem_take hq)⟩
  generalize v0.take (min 15 v0.length) = v at *
  have hrv := ren_votes hp hv
  have hvv : Votes n (v ++ v) := ⟨by rw [List.length_append]; omega, fun q hq => by
    rcases List.mem_append.1 hq with h | h <;> exact hv.2 q h⟩
  have ecl : slices_Clone_rows_m v = some v := by unfold slices_Clone_rows_m; rw [chk_t (by omega)]; rfl
  have g3 : pk_good_m [0, 0, 0] = some true := by rw [good_at]; rfl
  by_cases h5 : k = 5
  · subst h5
    obtain ⟨x, ex, -⟩ := rounds_ok n1 n6 hv
    obtain ⟨y, ey, -⟩ := rounds_ok n1 n6 hrv
    have ez : rules_rounds_m (n : Int) (v ++ v) = some [(x : Int)] := by rw [rounds_two n1 n6 (by omega) hv.2, ex]
    have w1 := winners5 n1 n6 hv
    have w2 := winners5 n1 n6 hrv
    have w3 := winners5 n1 n6 hvv
    rw [ex, Option.bind_some] at w1
    rw [ey, Option.bind_some] at w2
    rw [ez, Option.bind_some] at w3
    rw [w1, Option.bind_some, ren_ok n6 hp hv, Option.bind_some, w2, Option.bind_some, ecl, Option.bind_some, chk_t (by omega), Option.bind_some, w3, Option.bind_some]
    simp only [g3, Option.bind_some, equal_ok]
    rfl
  · obtain ⟨g, hg, eg⟩ := winners_am n1 n6 hv (k := (k : Int)) (by omega)
    obtain ⟨h, hh, eh⟩ := winners_am n1 n6 hrv (k := (k : Int)) (by omega)
    obtain ⟨d, hd, ed⟩ := winners_am n1 n6 hvv (k := (k : Int)) (by omega)
    have hren := val_ren hp hv hg hh
    have htwo : am d n = am g n := (am_congr (val_two hg hd)).symm
    rw [htwo] at ed
    have hne : 0 < (am g n).length := by
      obtain ⟨m, hm, hmax⟩ : ∃ m, m < n ∧ ∀ j, j < n → g j ≤ g m := by
        have : ∀ q, q < n → ∃ m, m ≤ q ∧ ∀ j, j ≤ q → g j ≤ g m := by
          intro q
          induction q with
          | zero => intro _; exact ⟨0, Nat.le_refl _, fun j hj => by rw [show j = 0 by omega]; exact Int.le_refl _⟩
          | succ q ih =>
            intro hq
            obtain ⟨m, hm, h⟩ := ih (by omega)
            by_cases c : g (q + 1) ≤ g m
            · exact ⟨m, by omega, fun j hj => by
                by_cases e : j = q + 1
                · rw [e]; exact c
                · exact h j (by omega)⟩
            · exact ⟨q + 1, Nat.le_refl _, fun j hj => by
                by_cases e : j = q + 1
                · rw [e]; exact Int.le_refl _
                · have := h j (by omega); omega⟩
        obtain ⟨m, hm, h⟩ := this (n - 1) (by omega)
        exact ⟨m, by omega, fun j hj => h j (by omega)⟩
      exact List.length_pos_of_mem (am_mem.2 ⟨hm, hmax⟩)
    have hmap : ∀ i, i < n → ((∀ j, j < n → h j ≤ h (pi_ p i)) ↔ ∀ j, j < n → g j ≤ g i) := fun i hi => ⟨fun H j hj => by
      have := H (pi_ p j) (pi_lt hp hj)
      rwa [hren j hj, hren i hi] at this, fun H j hj => by
      obtain ⟨q, hq, rfl⟩ := pi_sur hp hj
      rw [hren q hq, hren i hi]; exact H q hq⟩
    have hlen : (am g n).length = (am h n).length := by
      have c1 := am_count (g := g) (n := n)
      have c2 := am_count (g := h) (n := n)
      rw [← ord_sum hp] at c2
      have : sumN n (fun i => if (∀ j, j < n → h j ≤ h (nth p i).toNat) then (1 : Int) else 0) = sumN n (fun i => if (∀ j, j < n → g j ≤ g i) then (1 : Int) else 0) := sumN_congr fun i hi => by
        have := hmap i hi
        unfold pi_ at this
        simp only [this]
      rw [this] at c2
      omega
    rw [eg, Option.bind_some, ren_ok n6 hp hv, Option.bind_some, eh, Option.bind_some, ecl, Option.bind_some, chk_t (by omega), Option.bind_some, ed, Option.bind_some]
    simp only [g3, Option.bind_some, equal_ok, contains_ok, decide_true, Bool.not_true, Bool.false_eq_true, if_false, List.length_map, hlen]
    have hz : (((am h n).length : Int) == 0) = false := by rw [beq_eq_false_iff_ne]; omega
    have hk5 : ((k : Int) == 5) = false := by rw [beq_eq_false_iff_ne]; omega
    rw [hz]
    apply Ok.eq
    rw [ok_bindR, ok_some, flok_nx, if_neg (by decide), hk5, if_neg (by decide), ok_bindR, ← hlen]
    refine ok_rangeN (fun _ _ => True) trivial (fun i u hi _ => ?_) fun _ _ => by rw [ok_some]; simp
    have hm := am_mem.1 (nth_mem hi)
    have hi' : ((am g n).map fun (i : Nat) => (i : Int))[i]? = some (((nth (am g n) i : Nat)) : Int) := by
      rw [List.getElem?_map, nth_at hi]; rfl
    generalize nth (am g n) i = q at *
    obtain ⟨hq, hmax⟩ := hm
    have hpq := nm_pi hp hq
    have hpq' : nth p q = (pi_ p q : Int) := by unfold nm at hpq; rwa [Int.toNat_natCast] at hpq
    have hin : ((pi_ p q : Nat) : Int) ∈ (am h n).map fun (i : Nat) => (i : Int) := List.mem_map.2 ⟨pi_ p q, am_mem.2 ⟨pi_lt hp hq, (hmap q hq).2 hmax⟩, rfl⟩
    unfold pk_RulesNames_b1
    simp only
    rw [idx_nat, hi', Option.bind_some, ok_bindF, hn, if_neg (by simp), if_neg (by simp; omega), idx_nat, nth_at (by rw [hp.len]; exact hq), Option.bind_some, hpq', contains_ok, Option.bind_some, ok_some, flok_nx, decide_eq_true hin]
    rw [if_neg (by decide), ok_some, flok_nx]
    trivial
end Go.Pu
