/- Tables of duels: the check. -/
import Derived.Test.YtfekdillbgblkaaWVotesOwnModels
import Derived.Test.YtfekdillbgblkaaPuMat
set_option linter.all false
namespace Go.Pu
open Go.Fw Go.Mo
structure Tab (n : Nat) (m : List (List Int)) (d : Nat → Nat → Int) : Prop where
  mat : Mat n n m d
  n1 : 1 ≤ n
  n6 : n ≤ 6
  val : ∀ x y, x < n → y < n → 0 ≤ d x y ∧ d x y ≤ 30
  diag : ∀ x, x < n → d x x = 0
theorem tab_check (m : List (List Int)) : Ok (duel_Check_m m) (fun e => e = 0 → Tab m.length m (fun x y => nth (nth m x) y)) := by
  unfold duel_Check_m
  simp only [ok_ite, ok_some, ok_bindR, decide_eq_true_eq, flok_nx]
  refine ⟨fun _ => by simp, fun _ => ⟨fun _ => by omega, fun _ => ?_⟩⟩
  refine ok_rangeL (fun k _ => ∀ x, x < k → (nth m x).length = m.length ∧ ∀ y, y < m.length → 0 ≤ nth (nth m x) y ∧ nth (nth m x) y ≤ 30) (by intro x hx; omega) (fun k r s hk hI => ?_) fun s hs => ?_
  · obtain ⟨hr, hkl⟩ := nth_of hk
    unfold duel_Check_b1
    simp only [ok_ite, ok_some, ok_bindF, bne_iff_ne, flok_rt, flok_nx]
    refine ⟨fun _ => by omega, fun hlen => ?_⟩
    refine ok_rangeL (fun j _ => ∀ y, y < j → 0 ≤ nth r y ∧ nth r y ≤ 30) (by intro y hy; omega) (fun j v s hj hJ => ?_) fun s hs x hx => ?_
    · obtain ⟨hv, _⟩ := nth_of hj
      unfold duel_Check_b2
      simp only [ok_ite, ok_some, ok_bindF, decide_eq_true_eq, flok_rt, flok_nx]
      grind
    · by_cases hxk : x = k
      · subst hxk; rw [hr]; exact ⟨by omega, fun y hy => hs y (by omega)⟩
      · exact hI x (by omega)
  · refine ok_rangeL (fun k _ => ∀ x, x < k → nth (nth m x) x = 0) (by intro x hx; omega) (fun k r s hk hI => ?_) fun s hd => ?_
    · obtain ⟨hr, hkl⟩ := nth_of hk
      unfold duel_Check_b3
      have h1 := hs k hkl
      rw [hr] at h1
      simp only [idx_nat, nth_at (show k < r.length by omega), Option.bind_some, ok_ite, ok_some, flok_rt, flok_nx, bne_iff_ne]
      grind
    · intro _
      exact ⟨⟨rfl, fun x hx => (hs x hx).1, fun _ _ _ _ => rfl⟩, by omega, by omega, fun x y hx hy => (hs x hx).2 y hy, hd⟩
theorem tab_ok {n : Nat} {m : List (List Int)} {d : Nat → Nat → Int} (h : Tab n m d) : duel_Check_m m = some 0 := by
  apply Ok.eq
  unfold duel_Check_m
  have hn := h.mat.len; have h1 := h.n1; have h6 := h.n6
  simp only [ok_ite, ok_some, ok_bindR, decide_eq_true_eq, flok_nx]
  refine ⟨fun _ => by omega, fun _ => ⟨fun _ => by omega, fun _ => ?_⟩⟩
  refine ok_rangeL (fun k _ => True) trivial (fun k r s hk _ => ?_) fun s _ => ?_
  · obtain ⟨hr, hkl⟩ := nth_of hk
    have hlen := h.mat.row k (by omega)
    rw [hr] at hlen
    unfold duel_Check_b1
    simp only [ok_ite, ok_some, ok_bindF, bne_iff_ne, flok_rt, flok_nx]
    refine ⟨fun _ => by omega, fun _ => ?_⟩
    refine ok_rangeL (fun j _ => True) trivial (fun j v s hj _ => ?_) fun s _ => trivial
    obtain ⟨hv, hjl⟩ := nth_of hj
    have := h.val k j (by omega) (by omega)
    rw [← h.mat.at_ k j (by omega) (by omega), hr, hv] at this
    unfold duel_Check_b2
    simp only [ok_ite, ok_some, ok_bindF, decide_eq_true_eq, flok_rt, flok_nx]
    grind
  · refine ok_rangeL (fun k _ => True) trivial (fun k r s hk _ => ?_) fun s _ => by trivial
    obtain ⟨hr, hkl⟩ := nth_of hk
    have h2 := h.mat.row k (by omega)
    have h3 := h.diag k (by omega)
    rw [← h.mat.at_ k k (by omega) (by omega), hr] at h3
    rw [hr] at h2
    unfold duel_Check_b3
    simp only [idx_nat, nth_at (show k < r.length by omega), Option.bind_some, ok_ite, ok_some, flok_rt, flok_nx, bne_iff_ne]
    grind
theorem tab_split (m : List (List Int)) : (∃ d, Tab m.length m d ∧ duel_Check_m m = some 0) ∨ ∃ e, e ≠ 0 ∧ duel_Check_m m = some e := by
  obtain ⟨e, h1, h2⟩ := tab_check m
  by_cases he : e = 0
  · subst he; exact .inl ⟨_, h2 rfl, h1⟩
  · exact .inr ⟨e, he, h1⟩
end Go.Pu
