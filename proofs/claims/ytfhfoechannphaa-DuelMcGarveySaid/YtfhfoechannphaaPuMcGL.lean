/- The plain law: by two, and all others are even. -/
import Derived.Test.YtfhfoechannphaaWDuelMcGarveyModels
import Derived.Test.YtfhfoechannphaaPuMcG
set_option linter.all false
namespace Go.Pu
open Go.Fw Go.Mo
theorem mcg_t : duel_Votes_m 3 [[2, 0]] = some ([[2, 0, 1], [1, 2, 0]], 0) := by decide +kernel
theorem DuelMcGarvey (x0 : Int) (_ : (Lit.int .i64 x0).wf = true) (x1 : List (List Int)) (h1 : (∀ r ∈ x1, (∀ x ∈ r, (Lit.int .i64 x).wf = true) ∧ r.length ≤ maxLen) ∧ x1.length ≤ maxLen) : pk_DuelMcGarvey_m x0 x1 = some true := by
  have a0 := Int.emod_nonneg x0 (b := 5) (by decide)
  have a1 := Int.emod_lt_of_pos x0 (b := 5) (by decide)
  apply Ok.eq
  unfold pk_DuelMcGarvey_m
  rw [mcg_t, Option.bind_some]
  dsimp only
  rw [if_neg (by decide), if_neg (by decide), show idx [[(2 : Int), 0, 1], [1, 2, 0]] 0 = some [2, 0, 1] from rfl, show idx [[(2 : Int), 0, 1], [1, 2, 0]] 1 = some [1, 2, 0] from rfl, Option.bind_some, equal_ok, Option.bind_some, if_neg (by decide), Option.bind_some, equal_ok, Option.bind_some, ok_bindR, ok_some, flok_nx, if_neg (by decide), within_at x0 5 (by decide) (by decide), Option.bind_some]
  generalize x0 % 5 = m at a0 a1
  obtain ⟨n, hn⟩ : ∃ n : Nat, wadd 2 m = (n : Int) := ⟨(2 + m).toNat, by rw [wadd_of (by omega) (by omega)]; omega⟩
  have hn2 : 2 ≤ n ∧ n ≤ 6 := by rw [wadd_of (by omega) (by omega)] at hn; omega
  rw [ok_bindR]
  refine ok_rangeL (fun _ l => ∃ g, l = rows2 g ∧ Goodp n g) ⟨[], rfl, ⟨by simp, List.Pairwise.nil⟩⟩ (fun k r l hk hI => ?_) fun l hl => ?_
  · obtain ⟨g, rfl, hg⟩ := hI
    have hgl := hg.len (by omega)
    have hrl : (rows2 g).length = g.length := by simp [rows2]
    unfold pk_DuelMcGarvey_b1
    by_cases h2 : r.length < 2
    · rw [if_pos (by rw [decide_eq_true_eq]; omega), ok_some, flok_nx]; exact ⟨g, rfl, hg⟩
    · rw [if_neg (by rw [decide_eq_true_eq]; omega), show (0 : Int) = ((0 : Nat) : Int) from rfl, show (1 : Int) = ((1 : Nat) : Int) from rfl, idx_nat, nth_at (by omega), Option.bind_some, idx_nat, nth_at (by omega), hn, within_at _ n (by omega) (by omega), Option.bind_some, Option.bind_some, within_at _ n (by omega) (by omega), Option.bind_some]
      have b0 := Int.emod_nonneg (nth r 0) (b := (n : Int)) (by omega)
      have b1 := Int.emod_lt_of_pos (nth r 0) (b := (n : Int)) (by omega)
      have c0 := Int.emod_nonneg (nth r 1) (b := (n : Int)) (by omega)
      have c1 := Int.emod_lt_of_pos (nth r 1) (b := (n : Int)) (by omega)
      generalize nth r 0 % (n : Int) = X at b0 b1
      generalize nth r 1 % (n : Int) = Y at c0 c1
      obtain ⟨x, rfl⟩ : ∃ x : Nat, X = x := ⟨X.toNat, by omega⟩
      obtain ⟨y, rfl⟩ : ∃ y : Nat, Y = y := ⟨Y.toNat, by omega⟩
      rw [has_ok, has_ok]
      simp only [Option.bind_some]
      by_cases hc : x ≠ y ∧ (x, y) ∉ g ∧ (y, x) ∉ g
      · obtain ⟨q1, q2, q3⟩ := hc
        rw [if_pos (by rw [bne_iff_ne]; omega), decide_eq_false q2, if_pos (by decide), decide_eq_false q3]
        simp only [bindF, Bool.not_false, if_true]
        rw [chk_t (by rw [hrl]; simp; omega), Option.bind_some, ok_some, flok_nx]
        refine ⟨g ++ [(x, y)], by simp [rows2, rw_], fun p hp => ?_, ?_⟩
        · rcases List.mem_append.1 hp with hp | hp
          · exact hg.val p hp
          · rw [List.mem_singleton] at hp; subst hp; exact ⟨by dsimp only; omega, by dsimp only; omega, q1⟩
        · rw [List.pairwise_append]
          refine ⟨hg.once, by simp, fun p hp q hq => ?_⟩
          rw [List.mem_singleton] at hq; subst hq
          exact ⟨fun e => q2 (e ▸ hp), fun e => q3 (e ▸ hp)⟩
      · have : (if ((x : Int) != (y : Int)) = true then if (!decide ((x, y) ∈ g)) = true then some (Fl.nx (ρ := Bool) (β := List (List Int)) (!decide ((y, x) ∈ g))) else some (.nx false) else some (.nx false)) = some (.nx false) := by
          by_cases q1 : x = y
          · rw [if_neg (by rw [bne_iff_ne]; omega)]
          · rw [if_pos (by rw [bne_iff_ne]; omega)]
            by_cases q2 : (x, y) ∈ g
            · rw [if_neg (by simp [q2])]
            · by_cases q3 : (y, x) ∈ g
              · rw [if_pos (by simp [q2]), decide_eq_true q3]; rfl
              · exact absurd ⟨q1, q2, q3⟩ hc
        rw [this]
        simp only [bindF, Bool.false_eq_true, if_false]
        rw [ok_some, flok_nx]; exact ⟨g, rfl, hg⟩
  · obtain ⟨g, rfl, hg⟩ := hl
    have hV : Votes n (votes2 n g) := by
      refine ⟨by rw [votes2_len]; have := hg.len (by omega); omega, fun p hp => ?_⟩
      unfold votes2 at hp
      obtain ⟨q, hq, hp⟩ := List.mem_flatMap.1 hp
      have v := hg.val q hq
      have o := perm_at (by omega) v.1 v.2.1 v.2.2
      rcases List.mem_cons.1 hp with rfl | hp
      · exact o.1
      · rw [List.mem_singleton] at hp; subst hp; exact o.2
    obtain ⟨M, eM, hM⟩ := duels_ok (by omega) hn2.2 hV
    rw [hn, votes_ok (by omega) (by omega) hg, Option.bind_some]
    dsimp only
    rw [eM, Option.bind_some, good_at]
    dsimp only
    rw [Option.bind_some, if_neg (by decide), hM.len, ok_bindR, ok_some, flok_nx, if_neg (by simp), chk_t (by omega), Option.bind_some, ok_bindR, Int.toNat_natCast]
    refine ok_rangeN (fun _ _ => True) trivial (fun a _ ha _ => ?_) fun _ _ => by rw [ok_some]
    unfold pk_DuelMcGarvey_b2
    rw [hn, chk_t (by omega), Option.bind_some, ok_bindF, Int.toNat_natCast]
    refine ok_rangeN (fun _ _ => True) trivial (fun b _ hb _ => ?_) fun _ _ => by rw [ok_some, flok_nx]; trivial
    unfold pk_DuelMcGarvey_b3
    dsimp only
    have l1 : (nth M a).length = n := hM.row a ha
    have l2 : (nth M b).length = n := hM.row b hb
    simp only [idx_nat]
    rw [nth_at (by rw [hM.len]; exact ha), Option.bind_some, nth_at (by rw [hM.len]; exact hb), hn, if_neg (by rw [bne_iff_ne]; omega), Option.bind_some, l2, ok_bindF, ok_some, flok_nx, if_neg (by simp), Option.bind_some, nth_at (by omega), Option.bind_some, Option.bind_some, nth_at (by omega), Option.bind_some]
    have eab : nth (nth M a) b = duel (votes2 n g) a b := hM.at_ a b ha hb
    have eba : nth (nth M b) a = duel (votes2 n g) b a := hM.at_ b a hb ha
    have bab := duel_bound (votes2 n g) a b
    have bba := duel_bound (votes2 n g) b a
    have hvl := hV.1
    rw [eab, eba, has_ok, has_ok, wsub_of (by omega) (by omega)]
    simp only [Option.bind_some]
    have hd := dif_ok (by omega : n < 7) ha hb hg
    unfold dif at hd
    rw [hd]
    by_cases c1 : (a, b) ∈ g
    · by_cases c2 : (b, a) ∈ g
      · exfalso
        -- both ways round cannot be
        have hab : (a, b) ≠ (b, a) := fun e => by
          have := (hg.val _ c1).2.2
          simp only [Prod.mk.injEq] at e
          exact this e.1
        have key : ∀ {l : List Pr}, l.Pairwise (fun p q => p ≠ q ∧ p ≠ (q.2, q.1)) → (a, b) ∈ l → (b, a) ∈ l → False := by
          intro l
          induction l with
          | nil => intro _ h; cases h
          | cons p l ih =>
            intro hp h1 h2
            rw [List.pairwise_cons] at hp
            rcases List.mem_cons.1 h1 with rfl | h3
            · rcases List.mem_cons.1 h2 with h2 | h2
              · exact hab h2.symm
              · exact (hp.1 (b, a) h2).2 rfl
            · rcases List.mem_cons.1 h2 with rfl | h2
              · exact (hp.1 (a, b) h3).2 rfl
              · exact ih hp.2 h3 h2
        exact key hg.once c1 c2
      · simp [c1, c2, ok_bindF, ok_some, flok_nx]
    · by_cases c2 : (b, a) ∈ g
      · simp [c1, c2, ok_bindF, ok_some, flok_nx]
      · simp [c1, c2, ok_bindF, ok_some, flok_nx]
end Go.Pu
