/- The plain law: the greatest defeat. -/
import Derived.Test.YtfekdillbgblkaaWVotesOwnModels
import Derived.Test.YtfekdillbgblkaaPuTab
import Derived.Test.YtfekdillbgblkaaPuEq
set_option linter.all false
namespace Go.Pu
open Go.Fw Go.Mo
def IsWorst (n : Nat) (d : Nat → Nat → Int) (x : Nat) (v : Int) : Prop := 0 ≤ v ∧ v ≤ 30 ∧ (∀ y, y < n → d y x - d x y ≤ v) ∧ (v = 0 ∨ ∃ y, y < n ∧ v = d y x - d x y)
theorem worst_ok {n : Nat} {m : List (List Int)} {d : Nat → Nat → Int} (h : Tab n m d) : ∃ w, duel_Worst_m m = some (w, 0) ∧ w.length = n ∧ ∀ x, x < n → IsWorst n d x (nth w x) := by
  have : Ok (duel_Worst_m m) (fun r => r.2 = 0 ∧ r.1.length = n ∧ ∀ x, x < n → IsWorst n d x (nth r.1 x)) := by
    have hM := h.mat; have hn := hM.len
    unfold duel_Worst_m
    rw [tab_ok h]
    have := h.n6
    simp only [ok_bind, ok_ite, ok_chk, ok_bindR, ok_some, hn, Int.toNat_natCast, bne_self_eq_false, Bool.false_eq_true, false_implies, true_and, not_false_eq_true, true_implies]
    refine ⟨by omega, ok_rangeL (fun k w => w.length = n ∧ (∀ x, x < k → IsWorst n d x (nth w x)) ∧ ∀ x, k ≤ x → x < n → nth w x = 0) ⟨by simp, by intro x hx; omega, fun x _ hx => nth_replicate hx⟩ (fun k r w hk hI => ?_) fun w hw => ⟨hw.1, fun x hx => hw.2.1 x (by omega)⟩⟩
    obtain ⟨hr, hkl⟩ := nth_of hk
    rw [hn] at hkl
    subst hr
    obtain ⟨i1, i2, i3⟩ := hI
    unfold duel_Worst_b1
    simp only [ok_bindF, ok_some]
    refine ok_rangeL (fun j u => u.length = n ∧ (∀ x, x ≠ k → nth u x = nth w x) ∧ (0 ≤ nth u k ∧ nth u k ≤ 30 ∧ (∀ y, y < j → d y k - d k y ≤ nth u k) ∧ (nth u k = 0 ∨ ∃ y, y < n ∧ nth u k = d y k - d k y))) ⟨i1, fun x _ => rfl, by have := i3 k (Nat.le_refl _) hkl; grind⟩ (fun j q u hj hJ => ?_) fun u hu => ?_
    · obtain ⟨hq, hjl⟩ := nth_of hj
      rw [hn] at hjl
      subst hq
      obtain ⟨j1, j2, j3, j4, j5, j6⟩ := hJ
      have v1 := h.val k j hkl hjl
      have v2 := h.val j k hjl hkl
      unfold duel_Worst_b2
      simp only [idx_nat, hM.cell? hkl hjl, hM.cell? hjl hkl, nth_at (show k < u.length by omega), Option.bind_some, ok_some, flok_nx]
      rw [wsub_of (by omega) (by omega)]
      refine ⟨by simpa using j1, fun x hx => by rw [nth_set (by omega), if_neg hx]; exact j2 x hx, ?_⟩
      rw [nth_set (by omega), if_pos rfl]
      grind
    · refine flok_nx.2 ⟨hu.1, fun x hx => ?_, fun x hx hxn => ?_⟩
      · obtain ⟨_, u2, u3⟩ := hu
        by_cases hxk : x = k
        · subst hxk; rw [hn] at u3; exact ⟨u3.1, u3.2.1, u3.2.2.1, u3.2.2.2⟩
        · rw [u2 x hxk]; exact i2 x (by omega)
      · rw [hu.2.1 x (by omega)]; exact i3 x (by omega) hxn
  obtain ⟨⟨w, e⟩, h1, h2, h3⟩ := this
  simp only at h2 h3
  subst h2
  exact ⟨w, h1, h3⟩
end Go.Pu
