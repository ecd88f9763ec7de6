/- Rounds: the last out wins, and who is first for more than half stays in. -/
import Derived.Test.YtfekdillbgblkaaWVotesOwnModels
import Derived.Test.YtfekdillbgblkaaPuRMost
set_option linter.all false
namespace Go.Pu
open Go.Fw Go.Mo
theorem idx0 {n : Nat} {p : List Int} (h : Ord n p) (hn : 1 ≤ n) {i : Nat} (h0 : p.idxOf (i : Int) = 0) (hi : i < n) : nth p 0 = i := by
  have := h.at_idx hi
  rwa [h0] at this
structure Cts (n : Nat) (f : List Bool) (v : List (List Int)) (l : List Int) : Prop where
  len : l.length = 6
  pos : ∀ x, x < 6 → 0 ≤ nth l x
  sum : sumN 6 (nth l) ≤ v.length
  fst : ∀ i, i < n → nth f i = false → fst1 v i ≤ nth l i
theorem cts_ok {n : Nat} (h1 : 1 ≤ n) (h6 : n ≤ 6) {v : List (List Int)} (hv : Votes n v) {f : List Bool} (hf : f.length = 6) : Ok (rangeL (ρ := List Int) (γ := (List Bool) × Int) (rules_rounds_b2 f) v 0 (List.replicate 6 (0 : Int))) (FlOk (Cts n f v) (fun _ => False) (fun _ => False)) := by
  have h30 := hv.1
  refine ok_rangeL (fun k l => Cts n f (v.take k) l) ⟨by simp, fun x hx => by rw [nth_replicate hx]; exact Int.le_refl _, by
    have : sumN 6 (nth (List.replicate 6 (0 : Int))) = 0 := by decide
    omega, fun i hi _ => by
    have : fst1 (v.take 0) i = 0 := rfl
    rw [this, nth_replicate (by omega)]; exact Int.le_refl _⟩ (fun k p l hk hI => ?_) fun l hl => by rw [List.take_length] at hl; exact hl
  have hkl := (List.getElem?_eq_some_iff.1 hk).1
  have et : v.take (k + 1) = v.take k ++ [p] := by rw [List.take_succ, hk]; rfl
  have hp : Ord n p := hv.2 p (List.mem_of_getElem? hk)
  have bl : (v.take k).length ≤ 30 := by rw [List.length_take]; omega
  have fp : ∀ i : Nat, fst1 [p] i = if p.idxOf (i : Int) = 0 then 1 else 0 := fun i => by
    show (0 : Int) + _ = _; omega
  have l6 := hI.len
  unfold rules_rounds_b2
  rw [ok_bindF]
  have fin : ∀ l' : List Int, ((l' = l ∧ ∀ i, i < n → nth f i = false → p.idxOf (i : Int) ≠ 0) ∨ ∃ y, y < n ∧ l' = l.set y (nth l y + 1) ∧ ∀ i, i < n → nth f i = false → p.idxOf (i : Int) = 0 → y = i) → Cts n f (v.take (k + 1)) l' := fun l' h => by
    rw [et]
    rcases h with ⟨e, hn⟩ | ⟨y, hy, e, hn⟩
    · subst e
      refine ⟨l6, hI.pos, by have := hI.sum; rw [List.length_append, List.length_singleton]; omega, fun i hi hfi => ?_⟩
      rw [fst1_append, fp, if_neg (hn i hi hfi)]
      have := hI.fst i hi hfi; omega
    · subst e
      have ns : ∀ x, nth (l.set y (nth l y + 1)) x = if x = y then nth l y + 1 else nth l x := fun x => nth_set (by omega)
      refine ⟨by simpa using l6, fun x hx => ?_, ?_, fun i hi hfi => ?_⟩
      · rw [ns]; split
        · have := hI.pos y (by omega); omega
        · exact hI.pos x hx
      · have : sumN 6 (nth (l.set y (nth l y + 1))) = sumN 6 (nth l) - nth l y + nth (l.set y (nth l y + 1)) y := sumN_but (by omega) fun j _ hj => by rw [ns, if_neg hj]
        rw [this, ns, if_pos rfl]
        have := hI.sum; rw [List.length_append, List.length_singleton]; omega
      · rw [fst1_append, fp, ns]
        have hfi' := hI.fst i hi hfi
        by_cases h0 : p.idxOf (i : Int) = 0
        · have := hn i hi hfi h0
          subst this
          rw [if_pos h0, if_pos rfl]; omega
        · rw [if_neg h0]
          split
          · rename_i e; subst e; omega
          · omega
  refine ok_rangeL (fun j (l' : List Int) => l' = l ∧ ∀ t, t < j → nth f (nth p t).toNat = true) ⟨rfl, fun t ht => by omega⟩ (fun j y l' hj hJ => ?_) fun l' hl' => ?_
  · obtain ⟨hy, hjl⟩ := nth_of hj
    rw [hp.len] at hjl
    obtain ⟨e, hout⟩ := hJ
    subst e
    have hval := hp.val hjl
    rw [hy] at hval
    obtain ⟨q, rfl⟩ : ∃ q : Nat, y = q := ⟨y.toNat, by omega⟩
    have hq : q < n := by omega
    have lq := hI.pos q (by omega)
    have ls := hI.sum
    have lle := sumN_ge (n := 6) (f := nth l') hI.pos (show q < 6 by omega)
    unfold rules_rounds_b3
    rw [idx_nat, nth_at (by omega), Option.bind_some, idx_nat, nth_at (by omega), Option.bind_some, Option.bind_some, wadd_of (by omega) (by omega), Int.toNat_natCast, ok_ite]
    refine ⟨fun hnot => ?_, fun hyes => ?_⟩
    · rw [ok_some, flok_br, ok_some, flok_nx]
      refine fin _ (.inr ⟨q, hq, rfl, fun i hi hfi h0 => ?_⟩)
      have p0 := idx0 hp h1 h0 hi
      by_cases j0 : j = 0
      · subst j0; rw [hy] at p0; exact Int.ofNat.inj p0
      · have := hout 0 (by omega)
        rw [p0, Int.toNat_natCast, hfi] at this
        cases this
    · rw [ok_some, flok_nx]
      refine ⟨rfl, fun t ht => ?_⟩
      by_cases e : t = j
      · rw [e, hy, Int.toNat_natCast]
        simpa using hyes
      · exact hout t (by omega)
  · rw [ok_some, flok_nx]
    obtain ⟨e, hout⟩ := hl'
    refine fin _ (.inl ⟨e, fun i hi hfi h0 => ?_⟩)
    have p0 := idx0 hp h1 h0 hi
    have := hout 0 (by rw [hp.len]; omega)
    rw [p0, Int.toNat_natCast, hfi] at this
    cases this
def inN (n : Nat) (f : List Bool) : Int := sumN n (fun y => if nth f y = true then 0 else 1)
theorem lose_ok {n : Nat} (h6 : n ≤ 6) {f : List Bool} (hf : f.length = 6) {l : List Int} (hl : l.length = 6) (hin : 1 ≤ inN n f) : Ok (rangeN (ρ := List Int) (γ := (List Bool) × Int) (rules_rounds_b4 f l) n 0 (-1 : Int)) (FlOk (fun x => ∃ m : Nat, x = (m : Int) ∧ m < n ∧ nth f m = false ∧ ∀ j, j < n → nth f j = false → nth l m ≤ nth l j) (fun _ => False) (fun _ => False)) := by
  refine ok_rangeN (fun k (x : Int) => (x = -1 ∧ ∀ j, j < k → nth f j = true) ∨ ∃ m : Nat, x = (m : Int) ∧ m < k ∧ nth f m = false ∧ ∀ j, j < k → nth f j = false → nth l m ≤ nth l j) (.inl ⟨rfl, fun j hj => by omega⟩) (fun k x hk hI => ?_) fun x hx => ?_
  · unfold rules_rounds_b4
    rw [ok_bindF, idx_nat, nth_at (show k < f.length by omega), Option.bind_some]
    cases hfk : nth f k with
    | true =>
      rw [if_neg (by decide), ok_some, flok_nx, if_neg (by decide), ok_some, flok_nx]
      rcases hI with ⟨e, h⟩ | ⟨m, e, hm, fm, h⟩
      · exact .inl ⟨e, fun j hj => by
          by_cases ej : j = k
          · rw [ej]; exact hfk
          · exact h j (by omega)⟩
      · exact .inr ⟨m, e, by omega, fm, fun j hj fj => by
          by_cases ej : j = k
          · rw [ej, hfk] at fj; cases fj
          · exact h j (by omega) fj⟩
    | false =>
      rw [if_pos (by decide)]
      rcases hI with ⟨e, h⟩ | ⟨m, e, hm, fm, h⟩
      · subst e
        rw [if_pos (by decide), ok_some, flok_nx, if_pos rfl, ok_some, flok_nx]
        exact .inr ⟨k, rfl, by omega, hfk, fun j hj fj => by
          by_cases ej : j = k
          · rw [ej]; exact Int.le_refl _
          · have := h j (by omega); rw [this] at fj; cases fj⟩
      · subst e
        rw [if_neg (by simp), idx_nat, nth_at (show k < l.length by omega), Option.bind_some, idx_nat, nth_at (show m < l.length by omega), Option.bind_some, ok_some, flok_nx, ok_ite]
        refine ⟨fun hle => ?_, fun hgt => ?_⟩
        · rw [ok_some, flok_nx]
          have hle : nth l k ≤ nth l m := by simpa using hle
          exact .inr ⟨k, rfl, by omega, hfk, fun j hj fj => by
            by_cases ej : j = k
            · rw [ej]; exact Int.le_refl _
            · have := h j (by omega) fj; omega⟩
        · rw [ok_some, flok_nx]
          have hgt : ¬ nth l k ≤ nth l m := by simpa using hgt
          exact .inr ⟨m, rfl, by omega, fm, fun j hj fj => by
            by_cases ej : j = k
            · rw [ej]; omega
            · exact h j (by omega) fj⟩
  · rcases hx with ⟨e, h⟩ | h
    · have : inN n f = 0 := by
        unfold inN
        rw [sumN_congr (g := fun _ => 0) fun j hj => by rw [if_pos (h j hj)], sumN_zero]
      omega
    · exact h
theorem rounds_ok {n : Nat} (h1 : 1 ≤ n) (h6 : n ≤ 6) {v : List (List Int)} (hv : Votes n v) : ∃ x : Nat, rules_rounds_m (n : Int) v = some [(x : Int)] ∧ ∀ i, i < n → (v.length : Int) < 2 * fst1 v i → x = i := by
  have : Ok (rules_rounds_m (n : Int) v) (fun r => ∃ x : Nat, r = [(x : Int)] ∧ ∀ i, i < n → (v.length : Int) < 2 * fst1 v i → x = i) := by
    unfold rules_rounds_m
    rw [ok_bindR]
    refine ok_loopM (fun s : List Bool × Int => s.1.length = 6 ∧ s.2 = inN n s.1 ∧ 1 ≤ s.2 ∧ s.2 ≤ n ∧ ∀ i, i < n → (v.length : Int) < 2 * fst1 v i → nth s.1 i = false) (fun s => s.2.toNat) (fun s hI => ?_) _ _ ⟨by simp, ?_, by simp only; omega, by simp only; omega, fun i hi _ => nth_replicate (by omega)⟩ (by simp only; omega)
    · obtain ⟨f, c⟩ := s
      obtain ⟨hf, hc, c1, cn, hmaj⟩ := hI
      simp only at hf hc c1 cn hmaj
      unfold rules_rounds_b1
      simp only
      rw [ok_bindF]
      refine (cts_ok h1 h6 hv hf).mono fun l hl => ?_
      cases l with
      | br _ => exact hl.elim
      | rt _ => exact hl.elim
      | nx l =>
        rw [flok_nx] at hl ⊢
        rw [chk_t (by omega), Option.bind_some, ok_bindF, Int.toNat_natCast]
        refine (lose_ok h6 hf hl.len (by omega)).mono fun x hx => ?_
        cases x with
        | br _ => exact hx.elim
        | rt _ => exact hx.elim
        | nx x =>
          obtain ⟨m, e, hm, fm, hmin⟩ := flok_nx.1 hx
          subst e
          have pos : ∀ y, y < n → 0 ≤ (fun y => if nth f y = true then (0 : Int) else 1) y := fun y _ => by show (0 : Int) ≤ if nth f y = true then (0 : Int) else 1; split <;> omega
          rw [flok_nx, ok_ite]
          refine ⟨fun he => ?_, fun hne => ?_⟩
          · have he : c = 1 := by simpa using he
            rw [ok_some, flok_rt]
            refine ⟨m, rfl, fun i hi hmi => ?_⟩
            have fi := hmaj i hi hmi
            refine Classical.byContradiction fun hmi' => ?_
            have := sumN_two pos hm hi hmi'
            rw [fm, fi] at this
            simp only [Bool.false_eq_true, if_false] at this
            unfold inN at hc
            omega
          · have hne : c ≠ 1 := by simpa using hne
            rw [idx_nat, nth_at (show m < f.length by omega), Option.bind_some, ok_some, flok_nx, Int.toNat_natCast, wsub_of (by omega) (by omega)]
            have ns : ∀ y, nth (f.set m true) y = if y = m then true else nth f y := fun y => nth_set (by omega)
            have hnew : inN n (f.set m true) = c - 1 := by
              unfold inN
              rw [sumN_but (i := m) (f := fun y => if nth f y = true then (0 : Int) else 1) hm fun j _ hj => by rw [ns, if_neg hj]]
              rw [ns, if_pos rfl, fm]
              unfold inN at hc
              rw [← hc]; simp
            refine ⟨⟨by simpa using hf, by simp only; omega, by simp only; omega, by simp only; omega, fun i hi hmi => ?_⟩, by simp only; omega⟩
            have fi := hmaj i hi hmi
            show nth (f.set m true) i = false
            rw [ns]
            by_cases e : i = m
            · exfalso
              have hex : ∃ j, j < n ∧ j ≠ i ∧ nth f j = false := Classical.byContradiction fun hno => by
                have : inN n f = 1 := by
                  unfold inN
                  rw [sumN_congr (g := fun y => if y = i then 1 else 0) fun y hy => by
                    by_cases ey : y = i
                    · rw [ey, fi, if_pos rfl]; rfl
                    · cases hfy : nth f y with
                      | true => rw [if_pos rfl, if_neg ey]
                      | false => exact (hno ⟨y, hy, ey, hfy⟩).elim, sumN_single hi]
                omega
              obtain ⟨j, hj, hji, fj⟩ := hex
              have g1 := hmin j hj fj
              have g2 := hl.fst i hi fi
              have g3 := sumN_two (n := 6) (f := nth l) hl.pos (show i < 6 by omega) (show j < 6 by omega) (Ne.symm hji)
              have g4 := hl.sum
              rw [← e] at g1
              omega
            · rw [if_neg e]; exact fi
    · show (n : Int) = inN n (List.replicate 6 false)
      unfold inN
      rw [sumN_congr (g := fun _ => 1) fun y hy => by rw [nth_replicate (by omega)]; rfl, sumN_const]; omega
  obtain ⟨r, e, x, hx, hm⟩ := this
  subst hx
  exact ⟨x, e, hm⟩
end Go.Pu
