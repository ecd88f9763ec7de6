/- What slices.Min answers. -/
import Derived.Test.YtflbneojjnpegaaWUnitsMeetModels
import Derived.Test.YtflbneojjnpegaaPuWp
set_option linter.all false
namespace Go.Pu
open Go.Fw Go.Mo
theorem min_ok {l : List Int} (h0 : 1 ≤ l.length) (h : l.length ≤ 1000000) : ∃ v, slices_Min_int_int_m l = some v ∧ v ∈ l ∧ ∀ x ∈ l, v ≤ x := by
  have : Ok (slices_Min_int_int_m l) (fun v => (∃ k, k < l.length ∧ v = nth l k) ∧ ∀ k, k < l.length → v ≤ nth l k) := by
    unfold slices_Min_int_int_m
    simp only [ok_bindR, ok_bind, ok_ite, ok_none, ok_some, ok_idx, flok_nx, decide_eq_true_eq]
    refine ⟨fun _ => by omega, fun _ => ⟨by omega, by omega, ?_⟩⟩
    have start : 1 ≤ ((nth l (0 : Int).toNat, (1 : Int)) : Int × Int).2 ∧ ((nth l (0 : Int).toNat, (1 : Int)) : Int × Int).2 ≤ l.length ∧ (∃ k, k < l.length ∧ ((nth l (0 : Int).toNat, (1 : Int)) : Int × Int).1 = nth l k) ∧ ∀ k : Nat, (k : Int) < ((nth l (0 : Int).toNat, (1 : Int)) : Int × Int).2 → ((nth l (0 : Int).toNat, (1 : Int)) : Int × Int).1 ≤ nth l k := by
      refine ⟨by simp, by simp only; omega, ⟨0, by omega, rfl⟩, fun k hk => ?_⟩
      have : k = 0 := by simp only at hk; omega
      subst this; exact Int.le_refl _
    refine ok_loopM (fun p : Int × Int => 1 ≤ p.2 ∧ p.2 ≤ l.length ∧ (∃ k, k < l.length ∧ p.1 = nth l k) ∧ ∀ k : Nat, (k : Int) < p.2 → p.1 ≤ nth l k) (fun p => l.length - p.2.toNat) (fun p hp => ?_) _ _ start (by simp only; omega)
    obtain ⟨a, i⟩ := p
    obtain ⟨h1, h2, h3, h4⟩ := hp
    simp only at h1 h2 h3 h4
    obtain ⟨j, rfl⟩ : ∃ j : Nat, i = j := ⟨i.toNat, by omega⟩
    unfold slices_Min_int_int_b1
    simp only [ok_bind, ok_ite, ok_some, ok_idx, flok_nx, flok_br, decide_eq_true_eq, Int.toNat_natCast]
    refine ⟨fun hlt => ⟨by omega, by omega, ?_⟩, fun hge => ⟨h3, fun k hk => h4 k (by omega)⟩⟩
    rw [wadd_of (by omega) (by omega)]
    refine ⟨⟨by omega, by omega, ?_, fun k hk => ?_⟩, by omega⟩
    · split
      · exact ⟨j, by omega, rfl⟩
      · exact h3
    · by_cases hkj : k = j
      · subst hkj; split <;> omega
      · have := h4 k (by omega); split <;> omega
  obtain ⟨v, e, ⟨k, hk, hv⟩, h2⟩ := this
  refine ⟨v, e, by rw [hv]; exact nth_mem hk, fun x hx => ?_⟩
  obtain ⟨j, hj, rfl⟩ := mem_nth hx
  exact h2 j hj
end Go.Pu
