/- What is spoiled: each number of a slice, each row of a table. -/
import Derived.Test.YtfekdillbgblkaaWVotesOwnModels
import Derived.Test.YtfekdillbgblkaaPuWp
import Derived.Test.YtfekdillbgblkaaPuEq
import Derived.Test.YtfekdillbgblkaaPuList
import Derived.Test.YtfekdillbgblkaaPuSTurned
import Derived.Test.YtfekdillbgblkaaPuAuction
set_option linter.all false
namespace Go.Pu
open Go.Fw Go.Mo
theorem spoil_ok (l : List Int) (x : Int) : pk_spoil_int_m l x = some (List.replicate l.length x) := rfl
theorem clone_intB {l : List Int} (h : l.length ≤ 17592186043904) : slices_Clone_int_int_m l = some l := by
  unfold slices_Clone_int_int_m; rw [chk_t (by omega)]; rfl
theorem copied_ok {l : List (List Int)} (h : l.length ≤ 5864062014634 ∧ ∀ r ∈ l, r.length ≤ 17592186043904) : pk_copied_m l = some l := by
  apply Ok.eq
  unfold pk_copied_m
  rw [ok_bindR]
  refine ok_rangeL (fun k s => s = l.take k) rfl (fun k x s hk hI => ?_) fun s hs => by rw [ok_some, hs, List.take_length]
  subst hI
  have hkl := (List.getElem?_eq_some_iff.1 hk).1
  have hx := h.2 x (List.mem_of_getElem? hk)
  unfold pk_copied_b1
  rw [clone_intB (by omega), Option.bind_some, chk_t (by rw [List.length_take]; simp only [List.length_cons, List.length_nil]; omega), Option.bind_some, ok_some, flok_nx, List.take_succ, hk]; rfl
theorem sameRows_ok (a : List (List Int)) : pk_sameRows_m a a = some true := by
  unfold pk_sameRows_m
  rw [equalRows_ok]; rfl
/-- each row spoiled by its own number -/
def spoiled (c : Nat → Int) (l : List (List Int)) : List (List Int) := l.mapIdx fun i r => List.replicate r.length (c i)
theorem spoil_rows {ρ γ : Type} {b : Nat → List (List Int) → Option (Fl ρ (List (List Int)) (List (List Int)))} (c : Nat → Int) (hb : ∀ (i : Nat) (l : List (List Int)), b i l = (idx l (i : Int)).bind fun y => (pk_spoil_int_m y (c i)).bind fun z => some (.nx (List.set l i z))) (l : List (List Int)) :
    rangeN (γ := γ) b l.length 0 l = some (.nx (spoiled c l)) := by
  obtain ⟨s, e, h1, h2⟩ := rangeN_inv (γ := γ) (body := b) (fun i s => s.length = l.length ∧ ∀ j : Nat, s[j]? = if j < i then (l[j]?).map (fun r => List.replicate r.length (c j)) else l[j]?) l.length 0 l ⟨rfl, fun j => by rw [if_neg (by omega)]⟩ (fun k s hk ⟨h1, h2⟩ => by
    rw [Nat.zero_add] at h2 ⊢
    have hks : k < s.length := by omega
    have e1 : s[k]? = some l[k] := by rw [h2 k, if_neg (by omega), List.getElem?_eq_getElem hk]
    rw [hb, idx_nat, e1]
    refine ⟨_, rfl, by rw [List.length_set]; exact h1, fun j => ?_⟩
    by_cases hj : j = k
    · subst hj
      rw [List.getElem?_set_self hks, if_pos (by omega), List.getElem?_eq_getElem hk]; rfl
    · rw [List.getElem?_set_ne (Ne.symm hj), h2 j]
      by_cases h3 : j < k
      · rw [if_pos h3, if_pos (by omega)]
      · rw [if_neg h3, if_neg (by omega)])
  rw [e]
  congr 2
  unfold spoiled
  apply List.ext_getElem?
  intro j
  rw [h2 j, List.getElem?_mapIdx]
  by_cases hj : j < l.length
  · rw [if_pos (by omega)]
  · rw [if_neg (by omega), List.getElem?_eq_none (by omega)]; rfl
end Go.Pu
