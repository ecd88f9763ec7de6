/- Who beats all others. -/
import Derived.Test.YtfekdillbgblkaaWVotesOwnModels
import Derived.Test.YtfekdillbgblkaaPuDuels
set_option linter.all false
namespace Go.Pu
open Go.Fw Go.Mo
def Beats (n : Nat) (d : Nat → Nat → Int) (x : Nat) : Prop := ∀ y, y < n → y ≠ x → d y x < d x y
theorem Beats.one {n : Nat} {d : Nat → Nat → Int} {x y : Nat} (hx : x < n) (hy : y < n) (h : Beats n d x) (k : Beats n d y) : x = y := by
  refine Classical.byContradiction fun hne => ?_
  have := h y hy (Ne.symm hne)
  have := k x hx hne
  omega
theorem beater_ok {n : Nat} {v : List (List Int)} (h0 : 1 ≤ n) (h6 : n ≤ 6) (h : Votes n v) : ∃ x e, tally_Beater_m (n : Int) v = some (x, e) ∧ ((∃ a : Nat, a < n ∧ x = a ∧ e = 0 ∧ Beats n (duel v) a) ∨ (x = 0 ∧ e = 4 ∧ ∀ a, a < n → ¬ Beats n (duel v) a)) := by
  have : Ok (tally_Beater_m (n : Int) v) (fun r => (∃ a : Nat, a < n ∧ r.1 = a ∧ r.2 = 0 ∧ Beats n (duel v) a) ∨ (r.1 = 0 ∧ r.2 = 4 ∧ ∀ a, a < n → ¬ Beats n (duel v) a)) := by
    obtain ⟨m, e, hM⟩ := duels_ok h0 h6 h
    unfold tally_Beater_m
    rw [e]
    simp only [ok_bind, ok_ite, ok_chk, ok_bindR, ok_some, Int.toNat_natCast, bne_self_eq_false, Bool.false_eq_true, false_implies, true_and, not_false_eq_true, true_implies]
    refine ⟨by omega, ?_⟩
    refine ok_rangeN (fun k _ => ∀ a, a < k → ¬ Beats n (duel v) a) (by intro a ha; omega) (fun k s hk hI => ?_) fun s hs => ?_
    · unfold tally_Beater_b1
      simp only [ok_bind, ok_chk, ok_bindF, ok_some, ok_ite, Int.toNat_natCast]
      refine ⟨by omega, ok_rangeN (fun j b => b = true ↔ ∀ y, y < j → y ≠ k → duel v y k < duel v k y) (by simp) (fun j b hj hb => ?_) fun b hb => ?_⟩
      · unfold tally_Beater_b2
        simp only [idx_nat, hM.row? hk, hM.row? hj, Option.bind_some, hM.cell? hk hj, hM.cell? hj hk, ok_bindF, ok_ite, ok_some, flok_nx, beq_iff_eq, decide_eq_true_eq]
        grind
      · simp only [flok_nx, ok_ite, ok_some, flok_rt]
        refine ⟨fun ht => .inl ⟨k, hk, rfl, trivial, hb.1 ht⟩, fun hf a ha => ?_⟩
        by_cases hak : a = k
        · subst hak; exact fun hB => hf (hb.2 hB)
        · exact hI a (by omega)
    · grind
  obtain ⟨⟨x, e⟩, h1, h2⟩ := this
  exact ⟨x, e, h1, h2⟩
theorem tallies_t : pk_tallies_m = some true := by decide +kernel
end Go.Pu
