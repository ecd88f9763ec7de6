/- What weighed answers of a choice in order. -/
import Derived.Test.YtbkginapdldffaaWKnapHalfModels
import Derived.Test.YtbkginapdldffaaPuKnap
set_option linter.all false
namespace Go.Pu
open Go.Fw Go.Mo
theorem sum_take {s : List Int} {k : Nat} {x : Int} (h : s[k]? = some x) (f : Int → Int) : ((s.take (k + 1)).map f).sum = ((s.take k).map f).sum + f x := by
  have hk := (List.getElem?_eq_some_iff.1 h)
  obtain ⟨h1, h2⟩ := hk
  rw [List.take_succ_eq_append_getElem h1, List.map_append, List.sum_append, h2]
  simp
theorem sum_nonneg (f : Int → Int) (hf : ∀ x, 0 ≤ f x) : ∀ s : List Int, 0 ≤ (s.map f).sum
  | [] => by simp
  | x :: s => by have := sum_nonneg f hf s; have := hf x; simp only [List.map_cons, List.sum_cons]; omega
theorem sum_le (f : Int → Int) (M : Int) (hM : ∀ x, f x ≤ M) : ∀ s : List Int, (s.map f).sum ≤ M * (s.length : Int)
  | [] => by simp
  | x :: s => by
    have := sum_le f M hM s
    have := hM x
    simp only [List.map_cons, List.sum_cons, List.length_cons]
    rw [show ((s.length + 1 : Nat) : Int) = (s.length : Int) + 1 by omega, Int.mul_add]; omega
theorem weighed_ok {l : List (Int × Int)} (hl : Items l) {s : List Int} (hs : Incr l.length s) : pk_weighed_m l s = some (wsum l s, vsum l s, true) := by
  obtain ⟨c1, c2, c3⟩ := hs
  have hlen := hl.1
  have fw : ∀ x : Int, 0 ≤ (l.getD x.toNat (0, 0)).1 ∧ (l.getD x.toNat (0, 0)).1 ≤ 100 ∧ 0 ≤ (l.getD x.toNat (0, 0)).2 ∧ (l.getD x.toNat (0, 0)).2 ≤ 1000000 := fun x => by
    rw [List.getD_eq_getElem?_getD]
    cases hy : l[x.toNat]? with
    | none => simp
    | some z => have := hl.2 z (List.mem_of_getElem? hy); simp; omega
  unfold pk_weighed_m
  obtain ⟨p, e, hp⟩ := rangeL_inv (γ := Unit) (body := pk_weighed_b1 l s) (fun i (p : Int × Int) => p = (wsum l (s.take i), vsum l (s.take i))) s 0 (0, 0) (by simp [wsum, vsum]) (fun k x p hk hI => by
    rw [Nat.zero_add] at *
    subst hI
    have hks : k < s.length := (List.getElem?_eq_some_iff.1 hk).1
    have hx := c2 x (List.mem_of_getElem? hk)
    unfold pk_weighed_b1
    simp only
    rw [if_neg (by simp; omega), if_neg (by simp; omega)]
    have hprev : (if decide ((k : Int) > 0) = true then (idx s (wsub (k : Int) 1)).bind fun y86 => some (Fl.nx (decide (x ≤ y86))) else some (Fl.nx false) : Option (Fl (Int × Int × Bool) (Int × Int) Bool)) = some (Fl.nx false) := by
      by_cases h0 : (k : Int) > 0
      · rw [if_pos (by simpa using h0), wsub_of (by omega) (by omega), idx_at (by omega)]
        have hi : ((k : Int) - 1).toNat < s.length := by omega
        rw [List.getElem?_eq_getElem hi]
        simp only [Option.bind_some]
        have hlt := List.pairwise_iff_getElem.1 c3 ((k : Int) - 1).toNat k hi hks (by omega)
        have hxx : s[k] = x := (List.getElem?_eq_some_iff.1 hk).2
        rw [hxx] at hlt
        have : decide (x ≤ s[((k : Int) - 1).toNat]) = false := by simpa using hlt
        rw [this]
      · rw [if_neg (by simpa using h0)]
    rw [hprev]
    simp only [bindF, Bool.false_eq_true, if_false]
    have hxl : x.toNat < l.length := by omega
    rw [idx_at hx.1, List.getElem?_eq_getElem hxl]
    simp only [Option.bind_some]
    have n1 := sum_nonneg (fun x => (l.getD x.toNat (0, 0)).1) (fun x => (fw x).1) (s.take k)
    have n2 := sum_nonneg (fun x => (l.getD x.toNat (0, 0)).2) (fun x => (fw x).2.2.1) (s.take k)
    have m1 := sum_le (fun x => (l.getD x.toNat (0, 0)).1) 100 (fun x => (fw x).2.1) (s.take k)
    have m2 := sum_le (fun x => (l.getD x.toNat (0, 0)).2) 1000000 (fun x => (fw x).2.2.2) (s.take k)
    have hlk : ((s.take k).length : Int) ≤ 12 := by rw [List.length_take]; omega
    have hg : l.getD x.toNat (0, 0) = l[x.toNat] := by rw [List.getD_eq_getElem?_getD, List.getElem?_eq_getElem hxl]; rfl
    have hfx := fw x
    rw [hg] at hfx
    refine ⟨_, rfl, ?_⟩
    unfold wsum vsum
    rw [sum_take hk, sum_take hk, hg, wadd_of (by omega) (by omega), wadd_of (by omega) (by omega)])
  rw [e]
  rw [Nat.zero_add, List.take_length] at hp
  subst hp
  rfl
end Go.Pu
