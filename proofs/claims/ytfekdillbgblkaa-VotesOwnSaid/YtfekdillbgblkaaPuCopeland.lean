/- Duels won, less those that are lost. -/
import Derived.Test.YtfekdillbgblkaaWVotesOwnModels
import Derived.Test.YtfekdillbgblkaaPuTab
set_option linter.all false
namespace Go.Pu
open Go.Fw Go.Mo
def sgn (a b : Int) : Int := if b < a then 1 else if a < b then -1 else 0
def cope (n : Nat) (d : Nat → Nat → Int) (x : Nat) : Int := sumN n (fun y => sgn (d x y) (d y x))
theorem sgn_neg (a b : Int) : sgn a b = - sgn b a := by unfold sgn; by_cases h1 : b < a <;> by_cases h2 : a < b <;> simp [h1, h2] <;> omega
theorem sgn_val (a b : Int) : -1 ≤ sgn a b ∧ sgn a b ≤ 1 := by unfold sgn; split <;> (try split) <;> omega
theorem cope_bound {n : Nat} {f : Nat → Int} (h : ∀ x, -1 ≤ f x ∧ f x ≤ 1) : -(n : Int) ≤ sumN n f ∧ sumN n f ≤ n := by
  induction n with
  | zero => simp [sumN]
  | succ n ih => simp only [sumN]; have := h n; omega
theorem wins_ok {n : Nat} {m : List (List Int)} {d : Nat → Nat → Int} (h : Tab n m d) : ∃ w, duel_Wins_m m = some (w, 0) ∧ Vec n w (cope n d) := by
  have : Ok (duel_Wins_m m) (fun r => r.2 = 0 ∧ Vec n r.1 (cope n d)) := by
    have hM := h.mat; have hn := hM.len
    unfold duel_Wins_m
    rw [tab_ok h]
    have h6 := h.n6
    simp only [ok_bind, ok_ite, ok_chk, ok_bindR, ok_some, hn, Int.toNat_natCast, bne_self_eq_false, Bool.false_eq_true, false_implies, true_and, not_false_eq_true, true_implies]
    refine ⟨by omega, ok_rangeL (fun k w => Vec n w (fun x => if x < k then cope n d x else 0)) (Vec.zero.congr fun x _ => by simp) (fun k r w hk hI => ?_) fun w hw => hw.congr fun x hx => by rw [hn, if_pos hx]⟩
    obtain ⟨hr, hkl⟩ := nth_of hk
    rw [hn] at hkl
    subst hr
    unfold duel_Wins_b1
    simp only [ok_bindF, ok_some]
    refine ok_rangeL (fun j u => Vec n u (fun x => if x < k then cope n d x else if x = k then sumN j (fun y => sgn (d k y) (d y k)) else 0)) (hI.congr fun x hx => ?_) (fun j q u hj hJ => ?_) fun u hu => flok_nx.2 (hu.congr fun x hx => ?_)
    · by_cases h1 : x < k
      · simp [h1]
      · by_cases h2 : x = k <;> simp [h1, h2, sumN]
    · obtain ⟨hq, hjl⟩ := nth_of hj
      rw [hn] at hjl
      subst hq
      have hb := cope_bound (n := j) (f := fun y => sgn (d k y) (d y k)) fun x => sgn_val _ _
      have g1 : u[k]? = some (sumN j (fun y => sgn (d k y) (d y k))) := by rw [hJ.at? hkl, if_neg (by omega), if_pos rfl]
      unfold duel_Wins_b2
      simp only [idx_nat, hM.cell? hkl hjl, hM.cell? hjl hkl, g1, Option.bind_some, ok_ite, ok_some, flok_nx, decide_eq_true_eq]
      have step : ∀ v, v = sumN (j + 1) (fun y => sgn (d k y) (d y k)) → Vec n (u.set k v) (fun x => if x < k then cope n d x else if x = k then sumN (j + 1) (fun y => sgn (d k y) (d y k)) else 0) := fun v hv => (hJ.set hkl v).congr fun x hx => by
        by_cases hxk : x = k
        · subst hxk; simp [hv]
        · simp [hxk]
      refine ⟨fun hgt => step _ ?_, fun hng => ⟨fun hlt => step _ ?_, fun hnl => ?_⟩⟩
      · rw [wadd_of (by omega) (by omega)]; simp only [sumN, sgn]; rw [if_pos (by omega)]
      · rw [wsub_of (by omega) (by omega)]; simp only [sumN, sgn]; rw [if_neg (by omega), if_pos (by omega)]; omega
      · refine hJ.congr fun x hx => ?_
        have : sumN (j + 1) (fun y => sgn (d k y) (d y k)) = sumN j (fun y => sgn (d k y) (d y k)) := by simp only [sumN, sgn]; rw [if_neg (by omega), if_neg (by omega)]; omega
        rw [this]
    · by_cases h1 : x < k
      · rw [if_pos h1, if_pos (by omega)]
      · by_cases h2 : x = k
        · subst h2; rw [if_neg h1, if_pos rfl, if_pos (by omega), hn]; rfl
        · rw [if_neg h1, if_neg h2, if_neg (by omega)]
  obtain ⟨⟨w, e⟩, h1, h2, h3⟩ := this
  simp only at h2 h3
  subst h2
  exact ⟨w, h1, h3⟩
theorem cope_sum (n : Nat) (d : Nat → Nat → Int) : sumN n (cope n d) = 0 := by
  have h1 : sumN n (cope n d) = sumN n (fun y => sumN n (fun x => sgn (d x y) (d y x))) := sumN_comm
  have h2 : sumN n (cope n d) = - sumN n (fun y => sumN n (fun x => sgn (d x y) (d y x))) := by
    unfold cope
    rw [← sumN_neg]
    refine sumN_congr fun x _ => ?_
    rw [← sumN_neg]
    exact sumN_congr fun y _ => sgn_neg _ _
  omega
end Go.Pu
