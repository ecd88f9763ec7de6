/- trade.Swap to its end, and what the laws need of it. -/
import Derived.Test.YtnkhelpadbickaaWTradeSameModels
import Derived.Test.YtnkhelpadbickaaPuSwap
set_option linter.all false
namespace Go.Pu
open Go.Fw Go.Mo
structure Swapped (n : Nat) (l : List (List Int)) (got : List Int) (r : List (List Int)) (G ρ : Nat → Nat) (K : Nat) : Prop where
  ttc : Ttc n (rk l) G ρ K
  gl : got.length = n
  got : ∀ i, i < n → nth got i = (G i : Int)
  rl : r.length = K
  rounds : ∀ s, s < K → nth r s = pickB (fun i => ρ i == s) n
theorem swap_ok {n : Nat} {l : List (List Int)} (h : Likes n l) : ∃ got r G ρ K, trade_Swap_m l = some (got, r, 0) ∧ Swapped n l got r G ρ K := by
  have hl := h.len; have n1 := h.n1; have n6 := h.n6
  have this : Ok (trade_Swap_m l) (fun p => p.2.2 = 0 ∧ ∃ G ρ K, Swapped n l p.1 p.2.1 G ρ K) := by
    unfold trade_Swap_m
    rw [tcheck_ok h, Option.bind_some, if_neg (by decide), chk_t (by omega), Option.bind_some, ok_bindR, hl, Int.toNat_natCast]
    refine ok_rangeN (fun k (g : List Int) => g.length = n ∧ ∀ i, i < k → nth g i = -1) ⟨by simp, fun i hi => by omega⟩ (fun k g hk hI => ?_) fun g hg => ?_
    · rw [List.length_replicate] at hk
      unfold trade_Swap_b1
      rw [b1 hI.1 hk, Option.bind_some, ok_some, flok_nx]
      refine ⟨by rw [List.length_set]; exact hI.1, fun i hi => ?_⟩
      rw [nth_set (by rw [hI.1]; exact hk)]
      split
      · rfl
      · exact hI.2 i (by omega)
    · rw [List.length_replicate] at hg
      rw [Option.bind_some, ok_bindR]
      have all0 : ∀ n : Nat, (pickB (fun _ => (0 : Nat) == 0) n).length = n := by
        intro n
        induction n with
        | zero => rfl
        | succ n ih => simp only [pickB, List.length_append, ih]; rfl
      have R0 : Run n l 0 (fun _ => 0) (fun _ => 0) g (List.replicate n 0) [] := by
        refine ⟨hg.1, by simp, rfl, fun i hi => Nat.le_refl _, fun i hi => by rw [hg.2 i hi]; rfl, fun i hi => by rw [nth_replicate hi]; rfl, fun s hs => by omega, fun i hi hh => by omega, fun i x hi hx hh => by omega, fun i hi hh => by omega, fun s hs => by omega, fun i s hi hs => by omega⟩
      refine ok_loopM (fun (s : List Int × List Int × List (List Int) × Int) => ∃ t ρ G, Run n l t ρ G s.1 s.2.1 s.2.2.1 ∧ s.2.2.2 = (stay t ρ n : Int) ∧ stay t ρ n + t ≤ n) (fun s => s.2.2.2.toNat) (fun s hs => ?_) _ _ ⟨0, _, _, R0, by unfold stay; rw [all0], by unfold stay; rw [all0]; omega⟩ (by dsimp only; omega)
      obtain ⟨got, taken, r, left⟩ := s
      obtain ⟨t, ρ, G, R, e, hle⟩ := hs
      dsimp only at R e hle
      subst e
      by_cases hst : 0 < stay t ρ n
      · refine (round_ok h R hst (by omega)).fl (fun s hs => ?_) (fun _ h => h.elim) (fun _ h => h.elim)
        obtain ⟨ρ', G', h1, h2, h3⟩ := hs
        exact ⟨⟨t + 1, ρ', G', h1, h2, by omega⟩, by rw [h2]; dsimp only; omega⟩
      · unfold trade_Swap_b2
        dsimp only
        rw [if_neg (by rw [decide_eq_true_eq]; omega), ok_some, flok_br]
        dsimp only
        rw [ok_some]
        have hlt : ∀ i, i < n → ρ i < t := fun i hi => by
          have := R.le i hi
          by_cases e : ρ i = t
          · exact absurd (pickB_pos.2 ⟨i, hi, by rw [beq_iff_eq]; exact e⟩) hst
          · omega
        exact ⟨rfl, G, ρ, t, ⟨fun i hi => (R.lt i hi (hlt i hi)).1, hlt, fun i hi => (R.lt i hi (hlt i hi)).2, fun i x hi hx hh => R.best i x hi hx (hlt i hi) hh, fun i hi => R.cyc i hi (hlt i hi), R.hit, R.self⟩, R.gl, fun i hi => by rw [R.got i hi, if_pos (hlt i hi)], R.rl, R.rounds⟩
  obtain ⟨⟨g, r, e⟩, h1, h2, G, ρ, K, h3⟩ := this
  dsimp only at h2 h3
  subst h2
  exact ⟨g, r, G, ρ, K, h1, h3⟩
theorem likesOf_ok {n : Nat} (n1 : 1 ≤ n) (n6 : n ≤ 6) (x : List (List Int)) : ∃ l, pk_LikesOf_m (n : Int) x = some l ∧ Likes n l := by
  have this : Ok (pk_LikesOf_m (n : Int) x) (Likes n) := by
    unfold pk_LikesOf_m
    rw [chk_t (by omega), Option.bind_some, ok_bindR, Int.toNat_natCast]
    refine ok_rangeN (fun k (l : List (List Int)) => l.length = k ∧ ∀ i, i < k → Ord n (nth l i)) ⟨rfl, fun i hi => by omega⟩ (fun k l hk hI => ?_) fun l hl => by rw [ok_some]; exact ⟨n1, n6, hl.1, hl.2⟩
    unfold pk_LikesOf_b1
    rw [ok_bindF]
    have fin : ∀ y : List Int, Ok ((pk_OrderOf_m (n : Int) y).bind fun y111 => (chk ((l).length + (([y111] : (List (List Int)))).length ≤ 68719476736)).bind fun _ => some (Fl.nx (ρ := List (List Int)) (β := List (List Int)) (l ++ ([y111] : (List (List Int)))))) (FlOk (fun l => l.length = k + 1 ∧ ∀ i, i < k + 1 → Ord n (nth l i)) (fun _ => False) (fun _ => False)) := fun y => by
      obtain ⟨p, ep, hp⟩ := orderOf_ok n y n1 (by omega)
      rw [ep, Option.bind_some, chk_t (by simp only [List.length_cons, List.length_nil]; omega), Option.bind_some, ok_some, flok_nx]
      refine ⟨by simp [hI.1], fun i hi => ?_⟩
      rw [nth_append, hI.1]
      split
      · rename_i h; exact hI.2 i h
      · rw [show i - k = 0 by omega]; exact hp
    by_cases hlt : k < x.length
    · rw [if_pos (by rw [decide_eq_true_eq]; omega), idx_nat, nth_at hlt, Option.bind_some, ok_some, flok_nx]
      exact (fin _).fl (fun _ h => h) (fun _ h => h.elim) (fun _ h => h.elim)
    · rw [if_neg (by rw [decide_eq_true_eq]; omega), ok_some, flok_nx]
      exact (fin _).fl (fun _ h => h) (fun _ h => h.elim) (fun _ h => h.elim)
  exact this
theorem trades_t : pk_trades_m = some true := by decide +kernel
theorem Likes.index {n : Nat} {l : List (List Int)} (h : Likes n l) {i x : Nat} (hi : i < n) (hx : x < n) : slices_Index_int_int_m (nth l i) (x : Int) = some (rk l i x : Int) := by
  rw [index_ok, if_pos (((h.ord i hi).mem _).2 (by omega))]; rfl
end Go.Pu
