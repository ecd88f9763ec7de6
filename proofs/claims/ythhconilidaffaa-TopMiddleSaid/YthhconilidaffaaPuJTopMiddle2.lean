import Derived.Test.YthhconilidaffaaWTopMiddleModels
import Derived.Test.YthhconilidaffaaPuJTopMiddle1
/- The plain law: who is first for more than half is the one winner, by four of the rules. -/
set_option linter.all false
namespace Go.Pu
open Go.Fw Go.Mo
theorem best_one {l : List Int} {i : Nat} (hl : l.length ≤ 100) (hi : i < l.length) (h : ∀ j, j < l.length → j ≠ i → nth l j < nth l i) : rules_best_m l = some [(i : Int)] := by
  apply Ok.eq
  unfold rules_best_m
  rw [ok_bindR]
  refine ok_rangeL (fun k (s : List Int) => (k ≤ i → s.length ≤ k ∧ ∀ x ∈ s, 0 ≤ x ∧ x < (k : Int)) ∧ (i < k → s = [(i : Int)])) ⟨fun _ => by simp, fun h => by omega⟩ (fun k y s hk hI => ?_) fun s hs => by rw [ok_some]; exact hs.2 hi
  obtain ⟨hy, hkl⟩ := nth_of hk
  subst hy
  unfold rules_best_b1
  by_cases hki : i < k
  · have hs := hI.2 hki
    subst hs
    have hlt := h k hkl (by omega)
    rw [ok_bindF, if_pos (by simp), show idx [(i : Int)] 0 = some (i : Int) from rfl, Option.bind_some, idx_nat, nth_at hi, Option.bind_some, ok_some, flok_nx, ok_bindF, if_neg (by simp; omega), ok_some, flok_nx, ok_bindF, if_neg (by simp), show idx [(i : Int)] 0 = some (i : Int) from rfl, Option.bind_some, idx_nat, nth_at hi, Option.bind_some, ok_some, flok_nx, if_neg (by simp; omega), ok_some, flok_nx]
    exact ⟨fun hh => by omega, fun _ => rfl⟩
  · obtain ⟨i1, i2⟩ := hI.1 (by omega)
    have reset : Ok (if decide (((s).length : Int) > (0 : Int)) then (idx s (0 : Int)).bind fun y122 => (idx l y122).bind fun y124 => some (.nx (decide (nth l k > y124))) else some (.nx false) : Option (Fl (List Int) (List Int) Bool)) (FlOk (fun b => k = i → s.length > 0 → b = true) (fun _ => False) (fun _ => False)) := by
      by_cases hs : s.length > 0
      · have hm := i2 _ (nth_mem (l := s) (k := 0) hs)
        obtain ⟨z, hz⟩ : ∃ z : Nat, nth s 0 = (z : Int) := ⟨(nth s 0).toNat, by omega⟩
        rw [if_pos (by simpa using hs), show (0 : Int) = ((0 : Nat) : Int) from rfl, idx_nat, nth_at hs, Option.bind_some, hz, idx_nat, nth_at (by omega), Option.bind_some, ok_some, flok_nx]
        intro e _
        have := h z (by omega) (by omega)
        rw [e]; simpa using this
      · rw [if_neg (by simpa using hs), ok_some, flok_nx]
        intro _ hh; exact (hs hh).elim
    rw [ok_bindF]
    refine reset.mono fun b hb => ?_
    cases b with
    | br _ => exact hb.elim
    | rt _ => exact hb.elim
    | nx b =>
      rw [flok_nx] at hb ⊢
      rw [ok_bindF]
      have mid : ∀ t : List Int, t.length ≤ k → (∀ x ∈ t, 0 ≤ x ∧ x < (k : Int)) → (k = i → t = []) → Ok (bindF (ρ := (List Int)) (β := (List Int)) (σ := Bool) (if ((t).length : Int) == (0 : Int) then some (.nx true) else (idx t (0 : Int)).bind fun y161 => (idx l y161).bind fun y163 => some (.nx (nth l k == y163))) fun x152 => (if x152 then (chk ((t).length + (([(k : Int)] : (List Int))).length ≤ 68719476736)).bind fun _ => some (.nx (t ++ ([(k : Int)] : (List Int)))) else some (.nx t)) : Option (Fl (List Int) (List Int) (List Int))) (FlOk (fun s => (k + 1 ≤ i → s.length ≤ k + 1 ∧ ∀ x ∈ s, 0 ≤ x ∧ x < ((k + 1 : Nat) : Int)) ∧ (i < k + 1 → s = [(i : Int)])) (fun _ => False) (fun _ => False)) := fun t t1 t2 t3 => by
        have app : (k + 1 ≤ i → (t ++ [(k : Int)]).length ≤ k + 1 ∧ ∀ x ∈ t ++ [(k : Int)], 0 ≤ x ∧ x < ((k + 1 : Nat) : Int)) ∧ (i < k + 1 → t ++ [(k : Int)] = [(i : Int)]) := ⟨fun _ => ⟨by simp; omega, fun x hx => by
          rcases List.mem_append.1 hx with hx | hx
          · have := t2 x hx; omega
          · simp at hx; omega⟩, fun hh => by
          have e : k = i := by omega
          rw [t3 e, e]; rfl⟩
        rw [ok_bindF]
        by_cases ht : t.length = 0
        · rw [if_pos (by simpa using ht), ok_some, flok_nx, if_pos rfl, chk_t (by simp; omega), Option.bind_some, ok_some, flok_nx]
          exact app
        · have hm := t2 _ (nth_mem (l := t) (k := 0) (by omega))
          obtain ⟨z, hz⟩ : ∃ z : Nat, nth t 0 = (z : Int) := ⟨(nth t 0).toNat, by omega⟩
          have hki' : k ≠ i := fun e => ht (by rw [t3 e]; rfl)
          rw [if_neg (by simpa using ht), show (0 : Int) = ((0 : Nat) : Int) from rfl, idx_nat, nth_at (show 0 < t.length by omega), Option.bind_some, hz, idx_nat, nth_at (by omega), Option.bind_some, ok_some, flok_nx, ok_ite]
          refine ⟨fun _ => ?_, fun _ => ?_⟩
          · rw [chk_t (by simp; omega), Option.bind_some, ok_some, flok_nx]; exact app
          · rw [ok_some, flok_nx]
            exact ⟨fun _ => ⟨by omega, fun x hx => by have := t2 x hx; omega⟩, fun hh => by omega⟩
      cases b with
      | true =>
        rw [if_pos rfl, ok_some, flok_nx]
        exact (mid [] (by simp) (by simp) fun _ => rfl).mono fun v hv => by
          cases v with
          | br _ => exact hv.elim
          | rt _ => exact hv.elim
          | nx v => exact hv
      | false =>
        rw [if_neg (by decide), ok_some, flok_nx]
        refine (mid s i1 i2 fun e => ?_).mono fun v hv => by
          cases v with
          | br _ => exact hv.elim
          | rt _ => exact hv.elim
          | nx v => exact hv
        by_cases hs : s.length > 0
        · have := hb e hs; cases this
        · exact List.length_eq_zero_iff.1 (by omega)
theorem sumN_ge {n i : Nat} {f : Nat → Int} (h : ∀ x, x < n → 0 ≤ f x) (hi : i < n) : f i ≤ sumN n f := by
  have := sumN_le (n := n) (f := fun x => if x = i then f i else 0) (g := f) fun x hx => by
    by_cases e : x = i
    · rw [if_pos e, e]; exact Int.le_refl _
    · rw [if_neg e]; exact h x hx
  rwa [sumN_single hi] at this
theorem sumN_two {n i j : Nat} {f : Nat → Int} (h : ∀ x, x < n → 0 ≤ f x) (hi : i < n) (hj : j < n) (hij : i ≠ j) : f i + f j ≤ sumN n f := by
  have := sumN_le (n := n) (f := fun x => (if x = i then f i else 0) + (if x = j then f j else 0)) (g := f) fun x hx => by
    by_cases e : x = i
    · subst e; rw [if_pos rfl, if_neg hij]; omega
    · rw [if_neg e]
      by_cases e' : x = j
      · subst e'; rw [if_pos rfl]; omega
      · rw [if_neg e']; have := h x hx; omega
  rwa [sumN_add, sumN_single hi, sumN_single hj] at this
/-- whoever is put first is put before each other -/
theorem fst_duel {n : Nat} {v : List (List Int)} (h : ∀ p ∈ v, Ord n p) {i j : Nat} (hi : i < n) (hj : j < n) (hij : i ≠ j) : fst1 v i ≤ duel v i j := by
  induction v with
  | nil => exact Int.le_refl _
  | cons p v ih =>
    have := ih fun q hq => h q (by simp [hq])
    have hp := h p (by simp)
    have e1 : fst1 (p :: v) i = fst1 v i + (if p.idxOf (i : Int) = 0 then 1 else 0) := rfl
    have e2 : duel (p :: v) i j = duel v i j + (if bf p i j then 1 else 0) := rfl
    rw [e1, e2]
    by_cases h0 : p.idxOf (i : Int) = 0
    · have hb : bf p i j = true := by
        unfold bf
        rw [decide_eq_true_eq]
        have : p.idxOf (j : Int) ≠ 0 := fun hh => hij (hp.idx_inj hi hj (by omega))
        omega
      rw [if_pos h0, hb]; simp; omega
    · rw [if_neg h0]; split <;> omega
end Go.Pu
/- Rounds: the last out wins, and who is first for more than half stays in. -/
set_option linter.all false
namespace Go.Pu
open Go.Fw Go.Mo
theorem idx0 {n : Nat} {p : List Int} (h : Ord n p) (hn : 1 ≤ n) {i : Nat} (h0 : p.idxOf (i : Int) = 0) (hi : i < n) : nth p 0 = i := by
  have := h.at_idx hi
  rwa [h0] at this
structure Cts (n : Nat) (f : List Bool) (v : List (List Int)) (l : List Int) : Prop where
  len : l.length = 6
  pos : ∀ x, x < 6 → 0 ≤ nth l x
  sum : sumN 6 (nth l) ≤ v.length
  fst : ∀ i, i < n → nth f i = false → fst1 v i ≤ nth l i
theorem cts_ok {n : Nat} (h1 : 1 ≤ n) (h6 : n ≤ 6) {v : List (List Int)} (hv : Votes n v) {f : List Bool} (hf : f.length = 6) : Ok (rangeL (ρ := List Int) (γ := (List Bool) × Int) (rules_rounds_b2 f) v 0 (List.replicate 6 (0 : Int))) (FlOk (Cts n f v) (fun _ => False) (fun _ => False)) := by
  have h30 := hv.1
  refine ok_rangeL (fun k l => Cts n f (v.take k) l) ⟨by simp, fun x hx => by rw [nth_replicate hx]; exact Int.le_refl _, by
    have : sumN 6 (nth (List.replicate 6 (0 : Int))) = 0 := by decide
    omega, fun i hi _ => by
    have : fst1 (v.take 0) i = 0 := rfl
    rw [this, nth_replicate (by omega)]; exact Int.le_refl _⟩ (fun k p l hk hI => ?_) fun l hl => by rw [List.take_length] at hl; exact hl
  have hkl := (List.getElem?_eq_some_iff.1 hk).1
  have et : v.take (k + 1) = v.take k ++ [p] := by rw [List.take_succ, hk]; rfl
  have hp : Ord n p := hv.2 p (List.mem_of_getElem? hk)
  have bl : (v.take k).length ≤ 30 := by rw [List.length_take]; omega
  have fp : ∀ i : Nat, fst1 [p] i = if p.idxOf (i : Int) = 0 then 1 else 0 := fun i => by
    show (0 : Int) + _ = _; omega
  have l6 := hI.len
  unfold rules_rounds_b2
  rw [ok_bindF]
  have fin : ∀ l' : List Int, ((l' = l ∧ ∀ i, i < n → nth f i = false → p.idxOf (i : Int) ≠ 0) ∨ ∃ y, y < n ∧ l' = l.set y (nth l y + 1) ∧ ∀ i, i < n → nth f i = false → p.idxOf (i : Int) = 0 → y = i) → Cts n f (v.take (k + 1)) l' := fun l' h => by
    rw [et]
    rcases h with ⟨e, hn⟩ | ⟨y, hy, e, hn⟩
    · subst e
      refine ⟨l6, hI.pos, by have := hI.sum; rw [List.length_append, List.length_singleton]; omega, fun i hi hfi => ?_⟩
      rw [fst1_append, fp, if_neg (hn i hi hfi)]
      have := hI.fst i hi hfi; omega
    · subst e
      have ns : ∀ x, nth (l.set y (nth l y + 1)) x = if x = y then nth l y + 1 else nth l x := fun x => nth_set (by omega)
      refine ⟨by simpa using l6, fun x hx => ?_, ?_, fun i hi hfi => ?_⟩
      · rw [ns]; split
        · have := hI.pos y (by omega); omega
        · exact hI.pos x hx
      · have : sumN 6 (nth (l.set y (nth l y + 1))) = sumN 6 (nth l) - nth l y + nth (l.set y (nth l y + 1)) y := sumN_but (by omega) fun j _ hj => by rw [ns, if_neg hj]
        rw [this, ns, if_pos rfl]
        have := hI.sum; rw [List.length_append, List.length_singleton]; omega
      · rw [fst1_append, fp, ns]
        have hfi' := hI.fst i hi hfi
        by_cases h0 : p.idxOf (i : Int) = 0
        · have := hn i hi hfi h0
          subst this
          rw [if_pos h0, if_pos rfl]; omega
        · rw [if_neg h0]
          split
          · rename_i e; subst e; omega
          · omega
  refine ok_rangeL (fun j (l' : List Int) => l' = l ∧ ∀ t, t < j → nth f (nth p t).toNat = true) ⟨rfl, fun t ht => by omega⟩ (fun j y l' hj hJ => ?_) fun l' hl' => ?_
  · obtain ⟨hy, hjl⟩ := nth_of hj
    rw [hp.len] at hjl
    obtain ⟨e, hout⟩ := hJ
    subst e
    have hval := hp.val hjl
    rw [hy] at hval
    obtain ⟨q, rfl⟩ : ∃ q : Nat, y = q := ⟨y.toNat, by omega⟩
    have hq : q < n := by omega
    have lq := hI.pos q (by omega)
    have ls := hI.sum
    have lle := sumN_ge (n := 6) (f := nth l') hI.pos (show q < 6 by omega)
    unfold rules_rounds_b3
    rw [idx_nat, nth_at (by omega), Option.bind_some, idx_nat, nth_at (by omega), Option.bind_some, Option.bind_some, wadd_of (by omega) (by omega), Int.toNat_natCast, ok_ite]
    refine ⟨fun hnot => ?_, fun hyes => ?_⟩
    · rw [ok_some, flok_br, ok_some, flok_nx]
      refine fin _ (.inr ⟨q, hq, rfl, fun i hi hfi h0 => ?_⟩)
      have p0 := idx0 hp h1 h0 hi
      by_cases j0 : j = 0
      · subst j0; rw [hy] at p0; exact Int.ofNat.inj p0
      · have := hout 0 (by omega)
        rw [p0, Int.toNat_natCast, hfi] at this
        cases this
    · rw [ok_some, flok_nx]
      refine ⟨rfl, fun t ht => ?_⟩
      by_cases e : t = j
      · rw [e, hy, Int.toNat_natCast]
        simpa using hyes
      · exact hout t (by omega)
  · rw [ok_some, flok_nx]
    obtain ⟨e, hout⟩ := hl'
    refine fin _ (.inl ⟨e, fun i hi hfi h0 => ?_⟩)
    have p0 := idx0 hp h1 h0 hi
    have := hout 0 (by rw [hp.len]; omega)
    rw [p0, Int.toNat_natCast, hfi] at this
    cases this
def inN (n : Nat) (f : List Bool) : Int := sumN n (fun y => if nth f y = true then 0 else 1)
theorem lose_ok {n : Nat} (h6 : n ≤ 6) {f : List Bool} (hf : f.length = 6) {l : List Int} (hl : l.length = 6) (hin : 1 ≤ inN n f) : Ok (rangeN (ρ := List Int) (γ := (List Bool) × Int) (rules_rounds_b4 f l) n 0 (-1 : Int)) (FlOk (fun x => ∃ m : Nat, x = (m : Int) ∧ m < n ∧ nth f m = false ∧ ∀ j, j < n → nth f j = false → nth l m ≤ nth l j) (fun _ => False) (fun _ => False)) := by
  refine ok_rangeN (fun k (x : Int) => (x = -1 ∧ ∀ j, j < k → nth f j = true) ∨ ∃ m : Nat, x = (m : Int) ∧ m < k ∧ nth f m = false ∧ ∀ j, j < k → nth f j = false → nth l m ≤ nth l j) (.inl ⟨rfl, fun j hj => by omega⟩) (fun k x hk hI => ?_) fun x hx => ?_
  · unfold rules_rounds_b4
    rw [ok_bindF, idx_nat, nth_at (show k < f.length by omega), Option.bind_some]
    cases hfk : nth f k with
    | true =>
      rw [if_neg (by decide), ok_some, flok_nx, if_neg (by decide), ok_some, flok_nx]
      rcases hI with ⟨e, h⟩ | ⟨m, e, hm, fm, h⟩
      · exact .inl ⟨e, fun j hj => by
          by_cases ej : j = k
          · rw [ej]; exact hfk
          · exact h j (by omega)⟩
      · exact .inr ⟨m, e, by omega, fm, fun j hj fj => by
          by_cases ej : j = k
          · rw [ej, hfk] at fj; cases fj
          · exact h j (by omega) fj⟩
    | false =>
      rw [if_pos (by decide)]
      rcases hI with ⟨e, h⟩ | ⟨m, e, hm, fm, h⟩
      · subst e
        rw [if_pos (by decide), ok_some, flok_nx, if_pos rfl, ok_some, flok_nx]
        exact .inr ⟨k, rfl, by omega, hfk, fun j hj fj => by
          by_cases ej : j = k
          · rw [ej]; exact Int.le_refl _
          · have := h j (by omega); rw [this] at fj; cases fj⟩
      · subst e
        rw [if_neg (by simp), idx_nat, nth_at (show k < l.length by omega), Option.bind_some, idx_nat, nth_at (show m < l.length by omega), Option.bind_some, ok_some, flok_nx, ok_ite]
        refine ⟨fun hle => ?_, fun hgt => ?_⟩
        · rw [ok_some, flok_nx]
          have hle : nth l k ≤ nth l m := by simpa using hle
          exact .inr ⟨k, rfl, by omega, hfk, fun j hj fj => by
            by_cases ej : j = k
            · rw [ej]; exact Int.le_refl _
            · have := h j (by omega) fj; omega⟩
        · rw [ok_some, flok_nx]
          have hgt : ¬ nth l k ≤ nth l m := by simpa using hgt
          exact .inr ⟨m, rfl, by omega, fm, fun j hj fj => by
            by_cases ej : j = k
            · rw [ej]; omega
            · exact h j (by omega) fj⟩
  · rcases hx with ⟨e, h⟩ | h
    · have : inN n f = 0 := by
        unfold inN
        rw [sumN_congr (g := fun _ => 0) fun j hj => by rw [if_pos (h j hj)], sumN_zero]
      omega
    · exact h
theorem rounds_ok {n : Nat} (h1 : 1 ≤ n) (h6 : n ≤ 6) {v : List (List Int)} (hv : Votes n v) : ∃ x : Nat, rules_rounds_m (n : Int) v = some [(x : Int)] ∧ ∀ i, i < n → (v.length : Int) < 2 * fst1 v i → x = i := by
  have : Ok (rules_rounds_m (n : Int) v) (fun r => ∃ x : Nat, r = [(x : Int)] ∧ ∀ i, i < n → (v.length : Int) < 2 * fst1 v i → x = i) := by
    unfold rules_rounds_m
    rw [ok_bindR]
    refine ok_loopM (fun s : List Bool × Int => s.1.length = 6 ∧ s.2 = inN n s.1 ∧ 1 ≤ s.2 ∧ s.2 ≤ n ∧ ∀ i, i < n → (v.length : Int) < 2 * fst1 v i → nth s.1 i = false) (fun s => s.2.toNat) (fun s hI => ?_) _ _ ⟨by simp, ?_, by simp only; omega, by simp only; omega, fun i hi _ => nth_replicate (by omega)⟩ (by simp only; omega)
    · obtain ⟨f, c⟩ := s
      obtain ⟨hf, hc, c1, cn, hmaj⟩ := hI
      simp only at hf hc c1 cn hmaj
      unfold rules_rounds_b1
      simp only
      rw [ok_bindF]
      refine (cts_ok h1 h6 hv hf).mono fun l hl => ?_
      cases l with
      | br _ => exact hl.elim
      | rt _ => exact hl.elim
      | nx l =>
        rw [flok_nx] at hl ⊢
        rw [chk_t (by omega), Option.bind_some, ok_bindF, Int.toNat_natCast]
        refine (lose_ok h6 hf hl.len (by omega)).mono fun x hx => ?_
        cases x with
        | br _ => exact hx.elim
        | rt _ => exact hx.elim
        | nx x =>
          obtain ⟨m, e, hm, fm, hmin⟩ := flok_nx.1 hx
          subst e
          have pos : ∀ y, y < n → 0 ≤ (fun y => if nth f y = true then (0 : Int) else 1) y := fun y _ => by show (0 : Int) ≤ if nth f y = true then (0 : Int) else 1; split <;> omega
          rw [flok_nx, ok_ite]
          refine ⟨fun he => ?_, fun hne => ?_⟩
          · have he : c = 1 := by simpa using he
            rw [ok_some, flok_rt]
            refine ⟨m, rfl, fun i hi hmi => ?_⟩
            have fi := hmaj i hi hmi
            refine Classical.byContradiction fun hmi' => ?_
            have := sumN_two pos hm hi hmi'
            rw [fm, fi] at this
            simp only [Bool.false_eq_true, if_false] at this
            unfold inN at hc
            omega
          · have hne : c ≠ 1 := by simpa using hne
            rw [idx_nat, nth_at (show m < f.length by omega), Option.bind_some, ok_some, flok_nx, Int.toNat_natCast, wsub_of (by omega) (by omega)]
            have ns : ∀ y, nth (f.set m true) y = if y = m then true else nth f y := fun y => nth_set (by omega)
            have hnew : inN n (f.set m true) = c - 1 := by
              unfold inN
              rw [sumN_but (i := m) (f := fun y => if nth f y = true then (0 : Int) else 1) hm fun j _ hj => by rw [ns, if_neg hj]]
              rw [ns, if_pos rfl, fm]
              unfold inN at hc
              rw [← hc]; simp
            refine ⟨⟨by simpa using hf, by simp only; omega, by simp only; omega, by simp only; omega, fun i hi hmi => ?_⟩, by simp only; omega⟩
            have fi := hmaj i hi hmi
            show nth (f.set m true) i = false
            rw [ns]
            by_cases e : i = m
            · exfalso
              have hex : ∃ j, j < n ∧ j ≠ i ∧ nth f j = false := Classical.byContradiction fun hno => by
                have : inN n f = 1 := by
                  unfold inN
                  rw [sumN_congr (g := fun y => if y = i then 1 else 0) fun y hy => by
                    by_cases ey : y = i
                    · rw [ey, fi, if_pos rfl]; rfl
                    · cases hfy : nth f y with
                      | true => rw [if_pos rfl, if_neg ey]
                      | false => exact (hno ⟨y, hy, ey, hfy⟩).elim, sumN_single hi]
                omega
              obtain ⟨j, hj, hji, fj⟩ := hex
              have g1 := hmin j hj fj
              have g2 := hl.fst i hi fi
              have g3 := sumN_two (n := 6) (f := nth l) hl.pos (show i < 6 by omega) (show j < 6 by omega) (Ne.symm hji)
              have g4 := hl.sum
              rw [← e] at g1
              omega
            · rw [if_neg e]; exact fi
    · show (n : Int) = inN n (List.replicate 6 false)
      unfold inN
      rw [sumN_congr (g := fun _ => 1) fun y hy => by rw [nth_replicate (by omega)]; rfl, sumN_const]; omega
  obtain ⟨r, e, x, hx, hm⟩ := this
  subst hx
  exact ⟨x, e, hm⟩
end Go.Pu
/- The plain law: who is first for more than half is the one winner, by four of the rules. -/
set_option linter.all false
namespace Go.Pu
open Go.Fw Go.Mo
/-- of some there is a best -/
theorem best_some {l : List Int} (hl : l.length ≤ 100) (h0 : 1 ≤ l.length) : ∃ s, rules_best_m l = some s ∧ 0 < s.length := by
  have : Ok (rules_best_m l) (fun s => 0 < s.length) := by
    unfold rules_best_m
    rw [ok_bindR]
    refine ok_rangeL (fun k (s : List Int) => s.length ≤ k ∧ (∀ x ∈ s, 0 ≤ x ∧ x < (k : Int)) ∧ (0 < k → 0 < s.length)) ⟨by simp, by simp, fun h => by omega⟩ (fun k y s hk hI => ?_) fun s hs => by rw [ok_some]; exact hs.2.2 (by omega)
    obtain ⟨hy, hkl⟩ := nth_of hk
    obtain ⟨i1, i2, i3⟩ := hI
    unfold rules_best_b1
    have reset : Ok (if decide (((s).length : Int) > (0 : Int)) then (idx s (0 : Int)).bind fun y122 => (idx l y122).bind fun y124 => some (.nx (decide (y > y124))) else some (.nx false) : Option (Fl (List Int) (List Int) Bool)) (FlOk (fun b => True) (fun _ => False) (fun _ => False)) := by
      by_cases hs : s.length > 0
      · have hm := i2 _ (nth_mem (l := s) (k := 0) hs)
        obtain ⟨z, hz⟩ : ∃ z : Nat, nth s 0 = (z : Int) := ⟨(nth s 0).toNat, by omega⟩
        rw [if_pos (by simpa using hs), show (0 : Int) = ((0 : Nat) : Int) from rfl, idx_nat, nth_at hs, Option.bind_some, hz, idx_nat, nth_at (by omega), Option.bind_some, ok_some, flok_nx]
        trivial
      · rw [if_neg (by simpa using hs), ok_some, flok_nx]
        trivial
    rw [ok_bindF]
    refine reset.mono fun b hb => ?_
    cases b with
    | br _ => exact hb.elim
    | rt _ => exact hb.elim
    | nx b =>
      rw [flok_nx, ok_bindF]
      have mid : ∀ t : List Int, t.length ≤ k → (∀ x ∈ t, 0 ≤ x ∧ x < (k : Int)) → Ok (bindF (ρ := (List Int)) (β := (List Int)) (σ := Bool) (if ((t).length : Int) == (0 : Int) then some (.nx true) else (idx t (0 : Int)).bind fun y161 => (idx l y161).bind fun y163 => some (.nx (y == y163))) fun x152 => (if x152 then (chk ((t).length + (([(k : Int)] : (List Int))).length ≤ 68719476736)).bind fun _ => some (.nx (t ++ ([(k : Int)] : (List Int)))) else some (.nx t)) : Option (Fl (List Int) (List Int) (List Int))) (FlOk (fun s => s.length ≤ k + 1 ∧ (∀ x ∈ s, 0 ≤ x ∧ x < ((k + 1 : Nat) : Int)) ∧ (0 < k + 1 → 0 < s.length)) (fun _ => False) (fun _ => False)) := fun t t1 t2 => by
        have app : (t ++ [(k : Int)]).length ≤ k + 1 ∧ (∀ x ∈ t ++ [(k : Int)], 0 ≤ x ∧ x < ((k + 1 : Nat) : Int)) ∧ (0 < k + 1 → 0 < (t ++ [(k : Int)]).length) := ⟨by simp; omega, fun x hx => by
          rcases List.mem_append.1 hx with hx | hx
          · have := t2 x hx; omega
          · simp at hx; omega, fun _ => by simp⟩
        rw [ok_bindF]
        by_cases ht : t.length = 0
        · rw [if_pos (by simpa using ht), ok_some, flok_nx, if_pos rfl, chk_t (by simp; omega), Option.bind_some, ok_some, flok_nx]
          exact app
        · have hm := t2 _ (nth_mem (l := t) (k := 0) (by omega))
          obtain ⟨z, hz⟩ : ∃ z : Nat, nth t 0 = (z : Int) := ⟨(nth t 0).toNat, by omega⟩
          rw [if_neg (by simpa using ht), show (0 : Int) = ((0 : Nat) : Int) from rfl, idx_nat, nth_at (show 0 < t.length by omega), Option.bind_some, hz, idx_nat, nth_at (by omega), Option.bind_some, ok_some, flok_nx, ok_ite]
          refine ⟨fun _ => ?_, fun _ => ?_⟩
          · rw [chk_t (by simp; omega), Option.bind_some, ok_some, flok_nx]; exact app
          · rw [ok_some, flok_nx]
            exact ⟨by omega, fun x hx => by have := t2 x hx; omega, fun _ => by omega⟩
      cases b with
      | true =>
        rw [if_pos rfl, ok_some, flok_nx]
        exact (mid [] (by simp) (by simp)).mono fun v hv => by
          cases v with
          | br _ => exact hv.elim
          | rt _ => exact hv.elim
          | nx v => exact hv
      | false =>
        rw [if_neg (by decide), ok_some, flok_nx]
        exact (mid s i1 i2).mono fun v hv => by
          cases v with
          | br _ => exact hv.elim
          | rt _ => exact hv.elim
          | nx v => exact hv
  exact this
/-- best of a list by a function -/
theorem best_vec {n : Nat} (h1 : 1 ≤ n) (h6 : n ≤ 6) {a : List Int} {g : Nat → Int} (ha : Vec n a g) : ∃ s, rules_best_m a = some s ∧ 0 < s.length ∧ ∀ i, i < n → (∀ j, j < n → j ≠ i → g j < g i) → s = [(i : Int)] := by
  obtain ⟨s, es, hs⟩ := best_some (l := a) (by rw [ha.len]; omega) (by rw [ha.len]; omega)
  refine ⟨s, es, hs, fun i hi h => ?_⟩
  have := best_one (l := a) (by rw [ha.len]; omega) (by rw [ha.len]; exact hi) fun j hj hne => by
    rw [ha.len] at hj
    rw [ha.at_ j hj, ha.at_ i hi]; exact h j hj hne
  rw [es] at this
  exact Option.some.inj this
def Maj (n : Nat) (v : List (List Int)) (w : List Int) : Prop := 0 < w.length ∧ ∀ i, i < n → (v.length : Int) < 2 * fst1 v i → w = [(i : Int)]
theorem fst_lt {n : Nat} (h1 : 1 ≤ n) {v : List (List Int)} (hv : ∀ p ∈ v, Ord n p) {i : Nat} (hi : i < n) (hm : (v.length : Int) < 2 * fst1 v i) : ∀ j, j < n → j ≠ i → fst1 v j < fst1 v i := fun j hj hne => by
  have h := sumN_two (n := n) (f := fst1 v) (fun x _ => (fst1_bound v x).1) hi hj (Ne.symm hne)
  rw [fst1_sum h1 hv] at h
  omega
theorem beats {n : Nat} {v : List (List Int)} (hv : ∀ p ∈ v, Ord n p) {i : Nat} (hi : i < n) (hm : (v.length : Int) < 2 * fst1 v i) : ∀ j, j < n → j ≠ i → duel v j i < duel v i j := fun j hj hne => by
  have h1 := fst_duel hv hi hj (Ne.symm hne)
  have h2 := duel_sum hv hi hj (Ne.symm hne)
  omega
theorem winners_maj {n : Nat} (h1 : 1 ≤ n) (h6 : n ≤ 6) {v : List (List Int)} (hv : Votes n v) {k : Int} (hk : k = 1 ∨ k = 3 ∨ k = 4 ∨ k = 5) : ∃ w, rules_Winners_m k (n : Int) v = some (w, 0) ∧ Maj n v w := by
  obtain ⟨m, em, hM⟩ := duels_ok h1 h6 hv
  have t := tabV h1 h6 hv hM
  have g : (if decide (k < (1 : Int)) then some (Fl.nx true) else some (Fl.nx (decide (k > (5 : Int))))) = (some (Fl.nx false) : Option (Fl (List Int × Int) Unit Bool)) := by
    rw [if_neg (by simp; omega)]; simp; omega
  unfold rules_Winners_m
  rw [g, bindR, if_neg (by decide), em, Option.bind_some, if_neg (by simp)]
  rcases hk with e | e | e | e <;> subst e
  · obtain ⟨a, ea, ha⟩ := firsts_ok h1 h6 hv
    obtain ⟨s, es, s0, hs⟩ := best_vec h1 h6 ha
    rw [if_pos (by decide), ea, Option.bind_some, es]
    exact ⟨s, rfl, s0, fun i hi hm => hs i hi (fst_lt h1 hv.2 hi hm)⟩
  · obtain ⟨w, ew, hw⟩ := wins_ok t
    obtain ⟨s, es, s0, hs⟩ := best_vec h1 h6 hw
    rw [if_neg (by decide), if_neg (by decide), if_pos (by decide), ew, Option.bind_some, es]
    refine ⟨s, rfl, s0, fun i hi hm => hs i hi fun x hx hne => ?_⟩
    have hb := beats hv.2 hi hm
    have hle : sumN n (fun y => sgn (duel v x y) (duel v y x) + if y = i then 1 else 0) ≤ sumN n (fun y => sgn (duel v i y) (duel v y i)) := sumN_le fun y hy => by
      by_cases e : y = i
      · subst e
        have := hb x hx hne
        have e1 : sgn (duel v x y) (duel v y x) = -1 := by unfold sgn; rw [if_neg (by omega), if_pos (by omega)]
        have e2 : sgn (duel v y y) (duel v y y) = 0 := by unfold sgn; rw [if_neg (by omega), if_neg (by omega)]
        rw [e1, e2, if_pos rfl]; omega
      · have := hb y hy e
        have e1 : sgn (duel v i y) (duel v y i) = 1 := by unfold sgn; rw [if_pos (by omega)]
        have := sgn_val (duel v x y) (duel v y x)
        rw [e1, if_neg e]; omega
    rw [sumN_add, sumN_single hi] at hle
    unfold cope; omega
  · obtain ⟨w, ew, hwl, hw⟩ := worst_ok t
    have lo : Ok (rangeN (ρ := List Int × Int) (γ := Unit) rules_Winners_b1 w.length 0 w) (FlOk (fun l => Vec n l (fun x => - nth w x)) (fun _ => False) (fun _ => False)) := by
      rw [hwl]
      refine ok_rangeN (fun k (l : List Int) => Vec n l (fun x => if x < k then - nth w x else nth w x)) ((Vec.self hwl).congr fun x _ => by simp) (fun k l hk hI => ?_) fun l hl => hl.congr fun x hx => by rw [if_pos hx]
      have hb := hw k hk
      unfold rules_Winners_b1
      rw [idx_nat, hI.at? hk, Option.bind_some, Option.bind_some, if_neg (by omega), ok_some, flok_nx, wsub_of (by have := hb.1; have := hb.2.1; omega) (by have := hb.1; have := hb.2.1; omega)]
      refine (hI.set hk _).congr fun x hx => ?_
      by_cases e : x = k
      · subst e; rw [if_pos rfl, if_pos (by omega)]; omega
      · rw [if_neg e]
        by_cases c : x < k
        · rw [if_pos c, if_pos (by omega)]
        · rw [if_neg c, if_neg (by omega)]
    obtain ⟨r, er, hr⟩ := lo
    cases r with
    | br _ => exact hr.elim
    | rt _ => exact hr.elim
    | nx l =>
      have hr' : Vec n l (fun x => - nth w x) := hr
      obtain ⟨s, es, s0, hs⟩ := best_vec h1 h6 hr'
      rw [if_neg (by decide), if_neg (by decide), if_neg (by decide), if_pos (by decide), ew, Option.bind_some]
      simp only
      rw [er, bindR, es]
      refine ⟨s, rfl, s0, fun i hi hm => hs i hi fun x hx hne => ?_⟩
      have hb := beats hv.2 hi hm
      have wi := hw i hi
      have wx := hw x hx
      have x1 := wx.2.2.1 i hi
      have := hb x hx hne
      have i0 : nth w i = 0 := by
        rcases wi.2.2.2 with h | ⟨y, hy, h⟩
        · exact h
        · have w0 := wi.1
          by_cases e : y = i
          · subst e; omega
          · have := hb y hy e; omega
      omega
  · obtain ⟨x, ex, hx⟩ := rounds_ok h1 h6 hv
    rw [if_neg (by decide), if_neg (by decide), if_neg (by decide), if_neg (by decide), if_pos (by decide), ex]
    exact ⟨_, rfl, by simp, fun i hi hm => by rw [hx i hi hm]⟩
theorem RulesMost (x0 : Int) (_ : (Lit.int .i64 x0).wf = true) (x1 : Int) (_ : (Lit.int .i64 x1).wf = true) (x2 : List (List Int)) (_ : (∀ r ∈ x2, (∀ x ∈ r, (Lit.int .i64 x).wf = true) ∧ r.length ≤ maxLen) ∧ x2.length ≤ maxLen) : pk_RulesMost_m x0 x1 x2 = some true := by
  obtain ⟨n, n1, n6, hn⟩ := one_within x1 6 (by decide) (by decide)
  rw [show ((6 : Nat) : Int) = 6 from rfl] at hn
  obtain ⟨v, ev, -, hv⟩ := votesOf_ok n x2 n1 n6
  obtain ⟨a, ea, ha⟩ := firsts_ok n1 n6 hv
  have a0 := Int.emod_nonneg x0 (b := 4) (by decide)
  have a1 := Int.emod_lt_of_pos x0 (b := 4) (by decide)
  obtain ⟨k, hk, ek⟩ : ∃ k : Int, (k = 1 ∨ k = 3 ∨ k = 4 ∨ k = 5) ∧ idx ([(1 : Int), (3 : Int), (4 : Int), (5 : Int)] : (List Int)) (x0 % 4) = some k := by
    rcases (show x0 % 4 = 0 ∨ x0 % 4 = 1 ∨ x0 % 4 = 2 ∨ x0 % 4 = 3 by omega) with e | e | e | e <;> rw [e]
    · exact ⟨1, by simp, rfl⟩
    · exact ⟨3, by simp, rfl⟩
    · exact ⟨4, by simp, rfl⟩
    · exact ⟨5, by simp, rfl⟩
  obtain ⟨w, ew, w0, hw⟩ := winners_maj n1 n6 hv hk
  have h30 := hv.1
  apply Ok.eq
  unfold pk_RulesMost_m
  rw [winners_t, Option.bind_some, if_neg (by decide), within_at x0 4 (by decide) (by decide), Option.bind_some, ek, Option.bind_some, within_at x1 6 (by decide) (by decide), Option.bind_some, hn, ev, Option.bind_some, ea, Option.bind_some, ew, Option.bind_some, mgood, Option.bind_some]
  simp only [Bool.not_true, Bool.false_eq_true, if_false, ha.len, bne_self_eq_false]
  rw [ok_bindR, ok_some, flok_nx, if_neg (by decide), ok_bindR]
  refine ok_rangeN (fun _ _ => True) trivial (fun i u hi _ => ?_) fun _ _ => by rw [ok_some]; simpa using w0
  have fb := fst1_bound v i
  unfold pk_RulesMost_b1
  rw [idx_nat, ha.at? hi, Option.bind_some, wmul_of (by omega) (by omega), ok_ite]
  refine ⟨fun hm => ?_, fun _ => by rw [ok_some, flok_nx]; trivial⟩
  have hm : (v.length : Int) < 2 * fst1 v i := by simpa using hm
  rw [equal_ok, Option.bind_some, ok_some, flok_rt, hw i hi hm]
  simp
end Go.Pu
/- What best answers: all indexes of the greatest, rising. -/
set_option linter.all false
namespace Go.Pu
open Go.Fw Go.Mo
def am (g : Nat → Int) (k : Nat) : List Nat := (List.range k).filter fun i => decide (∀ j, j < k → g j ≤ g i)
theorem am_mem {g : Nat → Int} {k i : Nat} : i ∈ am g k ↔ i < k ∧ ∀ j, j < k → g j ≤ g i := by
  unfold am; rw [List.mem_filter, List.mem_range, decide_eq_true_eq]
theorem am_congr {g h : Nat → Int} {k : Nat} (e : ∀ i j, i < k → j < k → (g i ≤ g j ↔ h i ≤ h j)) : am g k = am h k := by
  unfold am
  apply List.filter_congr
  intro i hi
  rw [List.mem_range] at hi
  rw [decide_eq_decide]
  exact ⟨fun H j hj => (e j i hj hi).1 (H j hj), fun H j hj => (e j i hj hi).2 (H j hj)⟩
theorem am_more {g : Nat → Int} {k : Nat} (h : ∀ i, i < k → g i < g k) : am g (k + 1) = [k] := by
  unfold am
  rw [List.range_succ, List.filter_append]
  have e1 : (List.range k).filter (fun i => decide (∀ j, j < k + 1 → g j ≤ g i)) = [] := by
    rw [List.filter_eq_nil_iff]
    intro i hi
    rw [List.mem_range] at hi
    rw [decide_eq_true_eq]
    intro H
    have := H k (by omega); have := h i hi; omega
  have e2 : decide (∀ j, j < k + 1 → g j ≤ g k) = true := by
    rw [decide_eq_true_eq]
    intro j hj
    by_cases e : j = k
    · rw [e]; exact Int.le_refl _
    · have := h j (by omega); omega
  rw [e1]
  simp only [List.filter_cons, List.filter_nil, e2, if_true, List.nil_append]
theorem am_same {g : Nat → Int} {k m : Nat} (hm : m ∈ am g k) (e : g k = g m) : am g (k + 1) = am g k ++ [k] := by
  have hmm := am_mem.1 hm
  unfold am
  rw [List.range_succ, List.filter_append]
  have e1 : (List.range k).filter (fun i => decide (∀ j, j < k + 1 → g j ≤ g i)) = (List.range k).filter (fun i => decide (∀ j, j < k → g j ≤ g i)) := by
    apply List.filter_congr
    intro i hi
    rw [decide_eq_decide]
    refine ⟨fun H j hj => H j (by omega), fun H j hj => ?_⟩
    by_cases ej : j = k
    · rw [ej, e]; exact H m hmm.1
    · exact H j (by omega)
  have e2 : decide (∀ j, j < k + 1 → g j ≤ g k) = true := by
    rw [decide_eq_true_eq]
    intro j hj
    by_cases ej : j = k
    · rw [ej]; exact Int.le_refl _
    · rw [e]; exact hmm.2 j (by omega)
  rw [e1]
  simp only [List.filter_cons, List.filter_nil, e2, if_true]
theorem am_less {g : Nat → Int} {k m : Nat} (hm : m ∈ am g k) (e : g k < g m) : am g (k + 1) = am g k := by
  have hmm := am_mem.1 hm
  unfold am
  rw [List.range_succ, List.filter_append]
  have e1 : (List.range k).filter (fun i => decide (∀ j, j < k + 1 → g j ≤ g i)) = (List.range k).filter (fun i => decide (∀ j, j < k → g j ≤ g i)) := by
    apply List.filter_congr
    intro i hi
    rw [decide_eq_decide]
    refine ⟨fun H j hj => H j (by omega), fun H j hj => ?_⟩
    by_cases ej : j = k
    · rw [ej]; have := H m hmm.1; omega
    · exact H j (by omega)
  have e2 : decide (∀ j, j < k + 1 → g j ≤ g k) = false := by
    rw [decide_eq_false_iff_not]
    intro H
    have := H m (by omega); omega
  rw [e1]
  simp only [List.filter_cons, List.filter_nil, e2, Bool.false_eq_true, if_false, List.append_nil]
theorem best_am {n : Nat} (h6 : n ≤ 100) {a : List Int} {g : Nat → Int} (ha : Vec n a g) : rules_best_m a = some ((am g n).map fun (i : Nat) => (i : Int)) := by
  apply Ok.eq
  unfold rules_best_m
  rw [ok_bindR]
  refine ok_rangeL (fun k (s : List Int) => s = (am g k).map fun (i : Nat) => (i : Int)) rfl (fun k y s hk hI => ?_) fun s hs => by rw [ok_some, hs, ha.len]
  obtain ⟨hy, hkl⟩ := nth_of hk
  rw [ha.len] at hkl
  rw [ha.at_ k hkl] at hy
  subst hy
  unfold rules_best_b1
  have app : ∀ (B R : List Int → Prop) (t : List Nat), t.length ≤ 100 → Ok ((chk (((t.map fun (i : Nat) => (i : Int))).length + (([(k : Int)] : (List Int))).length ≤ 68719476736)).bind fun _ => some (.nx ((t.map fun (i : Nat) => (i : Int)) ++ ([(k : Int)] : (List Int)))) : Option (Fl (List Int) (List Int) (List Int))) (FlOk (fun s => s = (t ++ [k]).map fun (i : Nat) => (i : Int)) B R) := fun B R t ht => by
    rw [chk_t (by simp; omega), Option.bind_some, ok_some, flok_nx]; simp
  have lam : (am g k).length ≤ 100 := by
    unfold am
    have := List.length_filter_le (fun i => decide (∀ j, j < k → g j ≤ g i)) (List.range k)
    rw [List.length_range] at this; omega
  subst hI
  by_cases hz : am g k = []
  · have k0 : ∀ i, i < k → g i < g k := fun i hi => by
      exfalso
      obtain ⟨m, hm, hmax⟩ : ∃ m, m < k ∧ ∀ j, j < k → g j ≤ g m := by
        have : ∀ q, q < k → ∃ m, m ≤ q ∧ ∀ j, j ≤ q → g j ≤ g m := by
          intro q
          induction q with
          | zero => intro _; exact ⟨0, Nat.le_refl _, fun j hj => by rw [show j = 0 by omega]; exact Int.le_refl _⟩
          | succ q ih =>
            intro hq
            obtain ⟨m, hm, h⟩ := ih (by omega)
            by_cases c : g (q + 1) ≤ g m
            · exact ⟨m, by omega, fun j hj => by
                by_cases e : j = q + 1
                · rw [e]; exact c
                · exact h j (by omega)⟩
            · exact ⟨q + 1, Nat.le_refl _, fun j hj => by
                by_cases e : j = q + 1
                · rw [e]; exact Int.le_refl _
                · have := h j (by omega); omega⟩
        obtain ⟨m, hm, h⟩ := this (k - 1) (by omega)
        exact ⟨m, by omega, fun j hj => h j (by omega)⟩
      have : m ∈ am g k := am_mem.2 ⟨hm, hmax⟩
      rw [hz] at this; cases this
    rw [am_more k0, hz]
    simp only [List.map_nil]
    rw [ok_bindF, if_neg (by simp), ok_some, flok_nx, ok_bindF, if_neg (by decide), ok_some, flok_nx, ok_bindF, if_pos (by simp), ok_some, flok_nx, if_pos rfl]
    exact app _ _ [] (by simp)
  · obtain ⟨m, r, hmr⟩ : ∃ m r, am g k = m :: r := by
      cases h : am g k with
      | nil => exact (hz h).elim
      | cons m r => exact ⟨m, r, rfl⟩
    have hm : m ∈ am g k := by rw [hmr]; simp
    have hmm := am_mem.1 hm
    have hi0 : ∀ q : List Nat, idx ((m :: q).map fun (i : Nat) => (i : Int)) (0 : Int) = some (m : Int) := fun q => rfl
    have ham : a[m]? = some (g m) := ha.at? (by omega)
    rw [ok_bindF, hmr]
    rw [if_pos (by simp), hi0, Option.bind_some, idx_nat, ham, Option.bind_some, ok_some, flok_nx, ok_bindF]
    by_cases c1 : g k > g m
    · rw [if_pos (by simpa using c1), ok_some, flok_nx, ok_bindF, if_pos (by simp), ok_some, flok_nx, if_pos rfl, am_more fun i hi => by have := hmm.2 i hi; omega]
      exact app _ _ [] (by simp)
    · rw [if_neg (by simpa using c1), ok_some, flok_nx, ok_bindF, if_neg (by simp; omega), hi0, Option.bind_some, idx_nat, ham, Option.bind_some, ok_some, flok_nx, ok_ite]
      rw [← hmr]
      refine ⟨fun c2 => ?_, fun c2 => ?_⟩
      · rw [am_same hm (by simpa using c2)]
        exact app _ _ _ lam
      · have c2 : g k ≠ g m := by simpa using c2
        rw [am_less hm (by omega), ok_some, flok_nx]
end Go.Pu
/- The enumeration of all orders. -/
set_option linter.all false
namespace Go.Pu
open Go.Fw Go.Mo
/-- k of n sides in a row, none twice -/
def Row_ (n k : Nat) (p : List Int) : Prop := p.length = k ∧ p.Nodup ∧ ∀ x ∈ p, 0 ≤ x ∧ x < n
/-- in the dictionary's order -/
def lexLt : List Int → List Int → Prop
  | [], _ => False
  | _ :: _, [] => False
  | x :: p, y :: q => x < y ∨ (x = y ∧ lexLt p q)
theorem lex_append {p q : List Int} (h : p.length = q.length) (x y : Int) (hl : lexLt p q) : lexLt (p ++ [x]) (q ++ [y]) := by
  induction p generalizing q with
  | nil => exact hl.elim
  | cons a p ih =>
    cases q with
    | nil => exact hl.elim
    | cons b q =>
      rcases hl with hl | ⟨rfl, hl⟩
      · exact .inl hl
      · exact .inr ⟨rfl, ih (by simpa using h) hl⟩
theorem lex_last (p : List Int) {x y : Int} (h : x < y) : lexLt (p ++ [x]) (p ++ [y]) := by
  induction p with
  | nil => exact .inl h
  | cons a p ih => exact .inr ⟨rfl, ih⟩
/-- all rows of k, each once, rising -/
structure Rows_ (n k : Nat) (l : List (List Int)) : Prop where
  row : ∀ p ∈ l, Row_ n k p
  all : ∀ p, Row_ n k p → p ∈ l
  lex : l.Pairwise lexLt
def desc : Nat → Nat → Nat | _, 0 => 1 | n, k + 1 => desc n k * (n - k)
theorem free_count {n k : Nat} {p : List Int} (h : Row_ n k p) (hk : k ≤ n) : sumN n (fun x => b1 (!decide ((x : Int) ∈ p))) = n - k := by
  have e : sumN n (fun x => b1 (decide ((x : Int) ∈ p))) = k := by
    obtain ⟨h1, h2, h3⟩ := h
    subst h1
    have key : ∀ (p : List Int), p.Nodup → (∀ x ∈ p, 0 ≤ x ∧ x < (n : Int)) → sumN n (fun x => b1 (decide ((x : Int) ∈ p))) = p.length := by
      intro p
      induction p with
      | nil => intro _ _; simp [b1, sumN_zero]
      | cons a p ih =>
        intro hnd hb
        have ha := hb a (by simp)
        have hnd' := List.nodup_cons.1 hnd
        rw [List.length_cons, sumN_congr (g := fun x => b1 (decide ((x : Int) ∈ p)) + if x = a.toNat then 1 else 0) (fun x hx => ?_), sumN_add, ih hnd'.2 fun x hx => hb x (by simp [hx]), sumN_single (by omega)]
        · omega
        · by_cases hxa : x = a.toNat
          · subst hxa
            have : ((a.toNat : Nat) : Int) = a := by omega
            rw [this]
            simp [b1, hnd'.1]
          · have : (x : Int) ≠ a := by omega
            simp [b1, hxa, this]
    exact key p h2 h3
  have : sumN n (fun x => b1 (!decide ((x : Int) ∈ p)) + b1 (decide ((x : Int) ∈ p))) = sumN n (fun _ => 1) := sumN_congr fun x _ => by cases decide ((x : Int) ∈ p) <;> simp [b1]
  rw [sumN_add, sumN_const, e] at this
  omega
theorem rows_ord {n : Nat} {p : List Int} (h : Row_ n n p) : Ord n p := by
  obtain ⟨h1, h2, h3⟩ := h
  refine ⟨h1, fun x => ⟨fun hx => h3 x hx, fun hx => ?_⟩, h2⟩
  refine Classical.byContradiction fun hno => ?_
  have hnd : ((x :: p).map Int.toNat).Nodup := by
    unfold List.Nodup
    rw [List.pairwise_map]
    have : (x :: p).Nodup := List.nodup_cons.2 ⟨hno, h2⟩
    refine this.imp_of_mem fun ha hb hne => ?_
    have b : ∀ z ∈ (x :: p), 0 ≤ z := fun z hz => by
      rcases List.mem_cons.1 hz with rfl | hz
      · exact hx.1
      · exact (h3 z hz).1
    have := b _ ha; have := b _ hb
    omega
  have := List.Nodup.length_le_of_subset hnd (l₂ := List.range n) (fun z hz => by
    obtain ⟨y, hy, rfl⟩ := List.mem_map.1 hz
    rcases List.mem_cons.1 hy with rfl | hy
    · exact List.mem_range.2 (by omega)
    · have := h3 y hy; exact List.mem_range.2 (by omega))
  simp at this; omega
theorem ord_row {n : Nat} {p : List Int} (h : Ord n p) : Row_ n n p := ⟨h.len, h.nd, fun x hx => (h.mem x).1 hx⟩
theorem desc_bound : ∀ n : Nat, n < 7 → ∀ k : Nat, k ≤ n → desc n k ≤ 720 := by decide
theorem all_ok {n : Nat} (h1 : 1 ≤ n) (h6 : n ≤ 6) : ∃ l, order_All_m (n : Int) = some (l, 0) ∧ Rows_ n n l ∧ l.length = desc n n := by
  have : Ok (order_All_m (n : Int)) (fun r => r.2 = 0 ∧ Rows_ n n r.1 ∧ r.1.length = desc n n) := by
    unfold order_All_m
    simp only [ok_bind, ok_bindR, ok_ite, ok_chk, ok_some, flok_nx, decide_eq_true_eq, Int.toNat_natCast]
    refine ⟨fun _ => by omega, fun _ => ⟨fun _ => by omega, fun _ => ⟨by omega, ?_⟩⟩⟩
    refine ok_rangeN (fun k l => Rows_ n k l ∧ l.length = desc n k) ⟨⟨fun p hp => by simp at hp; subst hp; exact ⟨rfl, by simp, by simp⟩, fun p hp => by simp [List.eq_nil_of_length_eq_zero hp.1], by simp⟩, rfl⟩ (fun k l hk hI => ?_) fun l hl => ?_
    · obtain ⟨hR, hlen⟩ := hI
      have hd := desc_bound n (by omega) k (by omega)
      unfold order_All_b1
      simp only [ok_bindF, ok_some]
      -- of the first i rows, each with each other side
      let J : Nat → Nat → List (List Int) → Prop := fun i x m => (∀ q ∈ m, ∃ j y, q = nth l j ++ [y] ∧ (j < i ∨ (j = i ∧ y < (x : Int))) ∧ j < l.length ∧ 0 ≤ y ∧ y < n ∧ y ∉ nth l j) ∧
        (∀ j y, (j < i ∨ (j = i ∧ y < (x : Int))) → j < l.length → 0 ≤ y → y < (n : Int) → y ∉ nth l j → nth l j ++ [y] ∈ m) ∧ m.Pairwise lexLt ∧ (m.length : Int) = i * (n - k) + (if i < l.length then sumN x (fun z => b1 (!decide ((z : Int) ∈ nth l i))) else 0)
      refine ok_rangeN (fun i m => J i 0 m) ⟨by simp, fun j y hj _ h0 _ _ => by omega, by simp, by simp [sumN]⟩ (fun i m hi hm => ?_) fun m hm => ?_
      · have hrow := hR.row _ (nth_mem hi)
        unfold order_All_b2
        simp only [idx_nat, nth_at hi, Option.bind_some, ok_bind, ok_chk, ok_bindF, ok_some, Int.toNat_natCast]
        refine ⟨by omega, ok_rangeN (fun x m => J i x m) hm (fun x m hx hm => ?_) fun m hm => ?_⟩
        · obtain ⟨m1, m2, m3, m4⟩ := hm
          rw [if_pos hi] at m4
          have sb := sumN_b1 (n := x) (f := fun z => !decide ((z : Int) ∈ nth l i))
          have hml : m.length ≤ 720 * 6 + 6 := by
            have : (i : Int) * (n - k) ≤ 720 * 6 := Int.mul_le_mul (by omega) (by omega) (by omega) (by omega)
            omega
          have hrl := hrow.1
          unfold order_All_b3
          rw [contains_ok, Option.bind_some]
          by_cases hin : (x : Int) ∈ nth l i
          · rw [decide_eq_true hin]
            simp only [Bool.not_true, Bool.false_eq_true, if_false, ok_some, flok_nx]
            refine ⟨fun q hq => ?_, fun j y hj hjl h0 hy hny => ?_, m3, ?_⟩
            · obtain ⟨j, y, e, h, g⟩ := m1 q hq
              exact ⟨j, y, e, by omega, g⟩
            · refine m2 j y ?_ hjl h0 hy hny
              rcases hj with hj | ⟨rfl, hj⟩
              · exact .inl hj
              · have : y ≠ x := fun e => by subst e; exact hny hin
                omega
            · rw [if_pos hi, m4]; simp only [sumN]; rw [decide_eq_true hin]; simp [b1]
          · rw [decide_eq_false hin]
            have hcl : slices_Clone_int_int_m (nth l i) = some (nth l i) := by unfold slices_Clone_int_int_m; rw [chk_t (by omega)]; rfl
            simp only [Bool.not_false, if_true, hcl, Option.bind_some, ok_bind, ok_chk, ok_some, flok_nx]
            refine ⟨by simp; omega, by simp; omega, fun q hq => ?_, fun j y hj hjl h0 hy hny => ?_, ?_, ?_⟩
            · rcases List.mem_append.1 hq with hq | hq
              · obtain ⟨j, y, e, h, g⟩ := m1 q hq
                exact ⟨j, y, e, by omega, g⟩
              · simp at hq
                exact ⟨i, x, hq, by omega, hi, by omega, by omega, hin⟩
            · by_cases hjx : j = i ∧ y = x
              · obtain ⟨rfl, rfl⟩ := hjx; simp
              · refine List.mem_append_left _ (m2 j y ?_ hjl h0 hy hny)
                omega
            · rw [List.pairwise_append]
              refine ⟨m3, by simp, fun q hq r hr => ?_⟩
              simp at hr
              subst hr
              obtain ⟨j, y, rfl, h, hjl, g⟩ := m1 q hq
              rcases h with h | ⟨rfl, h⟩
              · refine lex_append ?_ _ _ ?_
                · rw [(hR.row _ (nth_mem hjl)).1, hrow.1]
                · rw [nth_get hjl, nth_get hi]
                  exact List.pairwise_iff_getElem.1 hR.lex j i hjl hi h
              · exact lex_last _ h
            · rw [if_pos hi, List.length_append, Int.natCast_add, m4]; simp only [sumN]; rw [decide_eq_false hin]; simp [b1]; omega
        · obtain ⟨m1, m2, m3, m4⟩ := hm
          rw [if_pos hi, free_count hrow (by omega)] at m4
          refine flok_nx.2 ⟨fun q hq => ?_, fun j y hj hjl h0 hy hny => m2 j y (by omega) hjl h0 hy hny, m3, ?_⟩
          · obtain ⟨j, y, e, h, g⟩ := m1 q hq
            exact ⟨j, y, e, by omega, g⟩
          · rw [m4]
            have : (if i + 1 < l.length then sumN 0 (fun z => b1 (!decide ((z : Int) ∈ nth l (i + 1)))) else 0) = 0 := by split <;> rfl
            rw [this, Int.natCast_add, Int.add_mul]; simp
      · obtain ⟨m1, m2, m3, m4⟩ := hm
        rw [if_neg (by omega)] at m4
        refine flok_nx.2 ⟨⟨fun q hq => ?_, fun q hq => ?_, m3⟩, ?_⟩
        · obtain ⟨j, y, rfl, _, hjl, h0, hy, hny⟩ := m1 q hq
          obtain ⟨r1, r2, r3⟩ := hR.row _ (nth_mem hjl)
          refine ⟨by simp [r1], List.nodup_append.2 ⟨r2, by simp, fun a ha b hb => by simp at hb; subst hb; intro e; subst e; exact hny ha⟩, fun x hx => ?_⟩
          rcases List.mem_append.1 hx with hx | hx
          · exact r3 x hx
          · simp at hx; subst hx; exact ⟨h0, hy⟩
        · obtain ⟨q1, q2, q3⟩ := hq
          have hne : q ≠ [] := fun e => by subst e; simp at q1
          obtain ⟨p, y, rfl⟩ : ∃ p y, q = p ++ [y] := ⟨q.dropLast, q.getLast hne, (List.dropLast_concat_getLast hne).symm⟩
          rw [List.nodup_append] at q2
          have hp : Row_ n k p := ⟨by simpa using q1, q2.1, fun x hx => q3 x (by simp [hx])⟩
          obtain ⟨j, hj, hjp⟩ := mem_nth (hR.all p hp)
          have hy := q3 y (by simp)
          have hny : y ∉ nth l j := fun hh => by rw [hjp] at hh; exact q2.2.2 y hh y (by simp) rfl
          have := m2 j y (.inl hj) hj hy.1 hy.2 hny
          rwa [hjp] at this
        · have : ((desc n (k + 1) : Nat) : Int) = desc n k * (n - k) := by simp only [desc]; rw [Int.natCast_mul, Int.natCast_sub (by omega)]
          rw [← Int.natCast_inj, this, m4, hlen]; omega
    · exact ⟨trivial, hl⟩
  obtain ⟨⟨l, e⟩, g1, g2, g3⟩ := this
  simp only at g2 g3
  subst g2
  exact ⟨l, g1, g3⟩
end Go.Pu
/- Other names, and all votes twice: what becomes of what the rules count. -/
set_option linter.all false
namespace Go.Pu
open Go.Fw Go.Mo
def nm (p : List Int) (y : Int) : Int := nth p y.toNat
def pi_ (p : List Int) (x : Nat) : Nat := (nth p x).toNat
def ren (p : List Int) (v : List (List Int)) : List (List Int) := v.map fun r => r.map (nm p)
theorem nm_pi {n : Nat} {p : List Int} (hp : Ord n p) {x : Nat} (hx : x < n) : nm p (x : Int) = (pi_ p x : Int) := by
  have := hp.val hx
  unfold nm pi_; rw [Int.toNat_natCast]; omega
theorem pi_lt {n : Nat} {p : List Int} (hp : Ord n p) {x : Nat} (hx : x < n) : pi_ p x < n := by
  have := hp.val hx
  unfold pi_; omega
theorem pi_inj {n : Nat} {p : List Int} (hp : Ord n p) {x y : Nat} (hx : x < n) (hy : y < n) (e : pi_ p x = pi_ p y) : x = y := by
  have h1 := hp.idx hx
  have h2 := hp.idx hy
  have a := hp.val hx
  have b := hp.val hy
  unfold pi_ at e
  have : nth p x = nth p y := by omega
  rw [this, h2] at h1
  exact h1.symm
theorem pi_sur {n : Nat} {p : List Int} (hp : Ord n p) {y : Nat} (hy : y < n) : ∃ x, x < n ∧ pi_ p x = y := ⟨p.idxOf (y : Int), hp.idx_lt hy, by unfold pi_; rw [hp.at_idx hy]; rfl⟩
theorem ren_ord {n : Nat} {p r : List Int} (hp : Ord n p) (hr : Ord n r) : Ord n (r.map (nm p)) := by
  have hv : ∀ a ∈ r, ∃ x : Nat, a = x ∧ x < n := fun a ha => by
    have := (hr.mem a).1 ha
    exact ⟨a.toNat, by omega, by omega⟩
  refine rows_ord ⟨by rw [List.length_map]; exact hr.len, ?_, fun x hx => ?_⟩
  · unfold List.Nodup
    rw [List.pairwise_map]
    refine List.Pairwise.imp_of_mem (fun {a b} ha hb hab => ?_) hr.nd
    obtain ⟨x, rfl, hx⟩ := hv a ha
    obtain ⟨y, rfl, hy⟩ := hv b hb
    rw [nm_pi hp hx, nm_pi hp hy]
    intro e
    exact hab (by rw [pi_inj hp hx hy (Int.ofNat.inj e)])
  · obtain ⟨a, ha, rfl⟩ := List.mem_map.1 hx
    obtain ⟨y, rfl, hy⟩ := hv a ha
    rw [nm_pi hp hy]
    have := pi_lt hp hy; omega
theorem ren_idx {n : Nat} {p r : List Int} (hp : Ord n p) (hr : Ord n r) {x : Nat} (hx : x < n) : (r.map (nm p)).idxOf (pi_ p x : Int) = r.idxOf (x : Int) := by
  have h := (ren_ord hp hr).idx (hr.idx_lt hx)
  rw [nth_map (by rw [hr.len]; exact hr.idx_lt hx), hr.at_idx hx, nm_pi hp hx] at h
  exact h
theorem ren_votes {n : Nat} {p : List Int} (hp : Ord n p) {v : List (List Int)} (hv : Votes n v) : Votes n (ren p v) := ⟨by unfold ren; rw [List.length_map]; exact hv.1, fun q hq => by
  obtain ⟨r, hr, rfl⟩ := List.mem_map.1 hq
  exact ren_ord hp (hv.2 r hr)⟩
theorem ren_sums {n : Nat} {p : List Int} (hp : Ord n p) : ∀ v : List (List Int), (∀ r ∈ v, Ord n r) → (∀ x, x < n → fst1 (ren p v) (pi_ p x) = fst1 v x ∧ pts n (ren p v) (pi_ p x) = pts n v x) ∧ ∀ x y, x < n → y < n → duel (ren p v) (pi_ p x) (pi_ p y) = duel v x y
  | [], _ => ⟨fun x _ => ⟨rfl, rfl⟩, fun x y _ _ => rfl⟩
  | r :: v, h => by
    obtain ⟨h1, h2⟩ := ren_sums hp v fun q hq => h q (by simp [hq])
    have hr := h r (by simp)
    refine ⟨fun x hx => ⟨?_, ?_⟩, fun x y hx hy => ?_⟩
    · show fst1 (ren p v) (pi_ p x) + (if (r.map (nm p)).idxOf (pi_ p x : Int) = 0 then 1 else 0) = fst1 v x + _
      rw [(h1 x hx).1, ren_idx hp hr hx]
    · show pts n (ren p v) (pi_ p x) + ((n : Int) - 1 - (r.map (nm p)).idxOf (pi_ p x : Int)) = pts n v x + _
      rw [(h1 x hx).2, ren_idx hp hr hx]
    · show duel (ren p v) (pi_ p x) (pi_ p y) + (if bf (r.map (nm p)) (pi_ p x) (pi_ p y) then 1 else 0) = duel v x y + _
      have : bf (r.map (nm p)) (pi_ p x) (pi_ p y) = bf r x y := by unfold bf; rw [ren_idx hp hr hx, ren_idx hp hr hy]
      rw [h2 x y hx hy, this]
/-- what a rule counts -/
def Val (k : Int) (n : Nat) (v : List (List Int)) (g : Nat → Int) : Prop :=
  (k = 1 ∧ g = fst1 v) ∨ (k = 2 ∧ g = pts n v) ∨ (k = 3 ∧ g = cope n (duel v)) ∨ (k = 4 ∧ ∀ x, x < n → IsWorst n (duel v) x (- g x))
theorem val_ren {k : Int} {n : Nat} {p : List Int} (hp : Ord n p) {v : List (List Int)} (hv : Votes n v) {g h : Nat → Int} (hg : Val k n v g) (hh : Val k n (ren p v) h) : ∀ x, x < n → h (pi_ p x) = g x := by
  obtain ⟨s1, s2⟩ := ren_sums hp v hv.2
  intro x hx
  rcases hg with ⟨e, hg⟩ | ⟨e, hg⟩ | ⟨e, hg⟩ | ⟨e, hg⟩ <;> subst e <;> rcases hh with ⟨e, hh⟩ | ⟨e, hh⟩ | ⟨e, hh⟩ | ⟨e, hh⟩ <;> first | omega | skip
  · rw [hg, hh]; exact (s1 x hx).1
  · rw [hg, hh]; exact (s1 x hx).2
  · rw [hg, hh]
    unfold cope
    rw [← ord_sum hp]
    exact sumN_congr fun i hi => by
      show sgn (duel (ren p v) (pi_ p x) (pi_ p i)) (duel (ren p v) (pi_ p i) (pi_ p x)) = _
      rw [s2 x i hx hi, s2 i x hi hx]
  · have w1 := hg x hx
    have w2 := hh (pi_ p x) (pi_lt hp hx)
    have up : ∀ y, y < n → duel v y x - duel v x y ≤ - h (pi_ p x) := fun y hy => by
      have := w2.2.2.1 (pi_ p y) (pi_lt hp hy)
      rwa [s2 y x hy hx, s2 x y hx hy] at this
    have dn : ∀ y, y < n → duel v y x - duel v x y ≤ - g x := fun y hy => w1.2.2.1 y hy
    have a := w1.1
    have b := w2.1
    rcases w1.2.2.2 with e1 | ⟨y, hy, e1⟩ <;> rcases w2.2.2.2 with e2 | ⟨z, hz, e2⟩
    · omega
    · obtain ⟨q, hq, rfl⟩ := pi_sur hp hz
      rw [s2 q x hq hx, s2 x q hx hq] at e2
      have := dn q hq; omega
    · have := up y hy; omega
    · obtain ⟨q, hq, rfl⟩ := pi_sur hp hz
      rw [s2 q x hq hx, s2 x q hx hq] at e2
      have := dn q hq; have := up y hy; omega
theorem val_two {k : Int} {n : Nat} {v : List (List Int)} {g h : Nat → Int} (hg : Val k n v g) (hh : Val k n (v ++ v) h) : ∀ x y, x < n → y < n → (g x ≤ g y ↔ h x ≤ h y) := by
  intro x y hx hy
  rcases hg with ⟨e, hg⟩ | ⟨e, hg⟩ | ⟨e, hg⟩ | ⟨e, hg⟩ <;> subst e <;> rcases hh with ⟨e, hh⟩ | ⟨e, hh⟩ | ⟨e, hh⟩ | ⟨e, hh⟩ <;> first | omega | skip
  · rw [hg, hh, fst1_append, fst1_append]; omega
  · rw [hg, hh, pts_append, pts_append]; omega
  · have : cope n (duel (v ++ v)) = cope n (duel v) := by
      funext z
      unfold cope
      exact sumN_congr fun i _ => by
        rw [duel_append, duel_append]
        unfold sgn
        by_cases c1 : duel v i z < duel v z i
        · rw [if_pos c1, if_pos (by omega)]
        · rw [if_neg c1, if_neg (by omega)]
          by_cases c2 : duel v z i < duel v i z
          · rw [if_pos c2, if_pos (by omega)]
          · rw [if_neg c2, if_neg (by omega)]
    rw [hg, hh, this]
  · have key : ∀ z, z < n → h z = 2 * g z := fun z hz => by
      have w1 := hg z hz
      have w2 := hh z hz
      have a := w1.1
      have b := w2.1
      have d : ∀ i, duel (v ++ v) i z - duel (v ++ v) z i = 2 * (duel v i z - duel v z i) := fun i => by rw [duel_append, duel_append]; omega
      rcases w1.2.2.2 with e1 | ⟨i, hi, e1⟩ <;> rcases w2.2.2.2 with e2 | ⟨j, hj, e2⟩
      · omega
      · rw [d j] at e2
        have := w1.2.2.1 j hj; omega
      · have := w2.2.2.1 i hi
        rw [d i] at this; omega
      · rw [d j] at e2
        have := w1.2.2.1 j hj
        have := w2.2.2.1 i hi
        rw [d i] at this; omega
    rw [key x hx, key y hy]; omega
theorem winners_am {n : Nat} (h1 : 1 ≤ n) (h6 : n ≤ 6) {v : List (List Int)} (hv : Votes n v) {k : Int} (hk : k = 1 ∨ k = 2 ∨ k = 3 ∨ k = 4) : ∃ g, Val k n v g ∧ rules_Winners_m k (n : Int) v = some ((am g n).map fun (i : Nat) => (i : Int), 0) := by
  obtain ⟨m, em, hM⟩ := duels_ok h1 h6 hv
  have t := tabV h1 h6 hv hM
  have g : (if decide (k < (1 : Int)) then some (Fl.nx true) else some (Fl.nx (decide (k > (5 : Int))))) = (some (Fl.nx false) : Option (Fl (List Int × Int) Unit Bool)) := by
    rw [if_neg (by simp; omega)]; simp; omega
  unfold rules_Winners_m
  rw [g, bindR, if_neg (by decide), em, Option.bind_some, if_neg (by simp)]
  rcases hk with e | e | e | e <;> subst e
  · obtain ⟨a, ea, ha⟩ := firsts_ok h1 h6 hv
    rw [if_pos (by decide), ea, Option.bind_some, best_am (by omega) ha]
    exact ⟨_, .inl ⟨rfl, rfl⟩, rfl⟩
  · obtain ⟨a, ea, ha⟩ := points_ok h1 h6 hv
    rw [if_neg (by decide), if_pos (by decide), ea, Option.bind_some, best_am (by omega) ha]
    exact ⟨_, .inr (.inl ⟨rfl, rfl⟩), rfl⟩
  · obtain ⟨w, ew, hw⟩ := wins_ok t
    rw [if_neg (by decide), if_neg (by decide), if_pos (by decide), ew, Option.bind_some, best_am (by omega) hw]
    exact ⟨_, .inr (.inr (.inl ⟨rfl, rfl⟩)), rfl⟩
  · obtain ⟨w, ew, hwl, hw⟩ := worst_ok t
    have lo : Ok (rangeN (ρ := List Int × Int) (γ := Unit) rules_Winners_b1 w.length 0 w) (FlOk (fun l => Vec n l (fun x => - nth w x)) (fun _ => False) (fun _ => False)) := by
      rw [hwl]
      refine ok_rangeN (fun k (l : List Int) => Vec n l (fun x => if x < k then - nth w x else nth w x)) ((Vec.self hwl).congr fun x _ => by simp) (fun k l hk hI => ?_) fun l hl => hl.congr fun x hx => by rw [if_pos hx]
      have hb := hw k hk
      unfold rules_Winners_b1
      rw [idx_nat, hI.at? hk, Option.bind_some, Option.bind_some, if_neg (by omega), ok_some, flok_nx, wsub_of (by have := hb.1; have := hb.2.1; omega) (by have := hb.1; have := hb.2.1; omega)]
      refine (hI.set hk _).congr fun x hx => ?_
      by_cases e : x = k
      · subst e; rw [if_pos rfl, if_pos (by omega)]; omega
      · rw [if_neg e]
        by_cases c : x < k
        · rw [if_pos c, if_pos (by omega)]
        · rw [if_neg c, if_neg (by omega)]
    obtain ⟨r, er, hr⟩ := lo
    cases r with
    | br _ => exact hr.elim
    | rt _ => exact hr.elim
    | nx l =>
      have hr' : Vec n l (fun x => - nth w x) := hr
      rw [if_neg (by decide), if_neg (by decide), if_neg (by decide), if_pos (by decide), ew, Option.bind_some]
      simp only
      rw [er, bindR, best_am (by omega) hr']
      exact ⟨_, .inr (.inr (.inr ⟨rfl, fun x hx => by rw [Int.neg_neg]; exact hw x hx⟩)), rfl⟩
end Go.Pu
/- Rounds over all votes twice: the same. -/
set_option linter.all false
namespace Go.Pu
open Go.Fw Go.Mo
def fin1 (f : List Bool) (p : List Int) : Option Int := p.find? fun y => !nth f y.toNat
def rc (f : List Bool) : List (List Int) → Nat → Int
  | [], _ => 0
  | p :: v, x => rc f v x + if fin1 f p = some (x : Int) then 1 else 0
theorem rc_append (f : List Bool) (v w : List (List Int)) (x : Nat) : rc f (v ++ w) x = rc f v x + rc f w x := by
  induction v with
  | nil => simp [rc]
  | cons p v ih => simp only [List.cons_append, rc, ih]; omega
theorem rc_bound (f : List Bool) (v : List (List Int)) (x : Nat) : 0 ≤ rc f v x ∧ rc f v x ≤ v.length := by
  induction v with
  | nil => simp [rc]
  | cons p v ih => simp only [rc, List.length_cons]; split <;> omega
theorem exact_ok {n : Nat} (h6 : n ≤ 6) {v : List (List Int)} (hlen : v.length ≤ 1000) (hv : ∀ p ∈ v, Ord n p) {f : List Bool} (hf : f.length = 6) : Ok (rangeL (ρ := List Int) (γ := (List Bool) × Int) (rules_rounds_b2 f) v 0 (List.replicate 6 (0 : Int))) (FlOk (fun l => l.length = 6 ∧ ∀ x, x < 6 → nth l x = rc f v x) (fun _ => False) (fun _ => False)) := by
  refine ok_rangeL (fun k l => l.length = 6 ∧ ∀ x, x < 6 → nth l x = rc f (v.take k) x) ⟨by simp, fun x hx => by rw [nth_replicate hx]; rfl⟩ (fun k p l hk hI => ?_) fun l hl => by rw [List.take_length] at hl; exact hl
  obtain ⟨l6, hx⟩ := hI
  have et : v.take (k + 1) = v.take k ++ [p] := by rw [List.take_succ, hk]; rfl
  have hp : Ord n p := hv p (List.mem_of_getElem? hk)
  have bl : (v.take k).length ≤ 1000 := by rw [List.length_take]; omega
  have fp : ∀ x : Nat, rc f [p] x = if fin1 f p = some (x : Int) then 1 else 0 := fun x => by
    show (0 : Int) + _ = _; omega
  unfold rules_rounds_b2
  rw [ok_bindF, et]
  refine ok_rangeL (fun j (l' : List Int) => l' = l ∧ ∀ t, t < j → nth f (nth p t).toNat = true) ⟨rfl, fun t ht => by omega⟩ (fun j y l' hj hJ => ?_) fun l' hl' => ?_
  · obtain ⟨hy, hjl⟩ := nth_of hj
    have hjp := hjl
    rw [hp.len] at hjl
    obtain ⟨e, hout⟩ := hJ
    subst e
    have hval := hp.val hjl
    rw [hy] at hval
    obtain ⟨q, rfl⟩ : ∃ q : Nat, y = q := ⟨y.toNat, by omega⟩
    have hq : q < n := by omega
    have lq := hx q (by omega)
    have rb := rc_bound f (v.take k) q
    unfold rules_rounds_b3
    rw [idx_nat, nth_at (by omega), Option.bind_some, idx_nat, nth_at (by omega), Option.bind_some, Option.bind_some, wadd_of (by omega) (by omega), Int.toNat_natCast, ok_ite]
    refine ⟨fun hnot => ?_, fun hyes => ?_⟩
    · rw [ok_some, flok_br, ok_some, flok_nx]
      have hfq : nth f q = false := by simpa using hnot
      have hfin : fin1 f p = some (q : Int) := by
        unfold fin1
        rw [List.find?_eq_some_iff_getElem]
        refine ⟨by rw [Int.toNat_natCast, hfq]; rfl, j, hjp, ?_, fun t ht => ?_⟩
        · rw [← nth_get hjp]; exact hy
        · have := hout t ht
          rw [nth_get (show t < p.length by omega)] at this
          rw [this]; rfl
      refine ⟨by simpa using l6, fun x hx6 => ?_⟩
      rw [nth_set (by omega), rc_append, fp, hfin]
      by_cases e : x = q
      · subst e; rw [if_pos rfl, if_pos rfl, lq]
      · rw [if_neg e, if_neg (by intro h; have := Option.some.inj h; omega), hx x hx6]; omega
    · rw [ok_some, flok_nx]
      refine ⟨rfl, fun t ht => ?_⟩
      by_cases e : t = j
      · rw [e, hy, Int.toNat_natCast]
        simpa using hyes
      · exact hout t (by omega)
  · rw [ok_some, flok_nx]
    obtain ⟨e, hout⟩ := hl'
    subst e
    have hfin : fin1 f p = none := by
      unfold fin1
      rw [List.find?_eq_none]
      intro y hy
      obtain ⟨t, ht, rfl⟩ := mem_nth hy
      rw [hout t ht]; simp
    refine ⟨l6, fun x hx6 => ?_⟩
    rw [rc_append, fp, hfin, if_neg (by simp), hx x hx6]; omega
def Lose (n : Nat) (f : List Bool) (l : List Int) (m : Nat) : Prop := m < n ∧ nth f m = false ∧ ∀ j, j < n → nth f j = false → nth l m ≤ nth l j ∧ (m < j → nth l m < nth l j)
theorem lose2 {n : Nat} (h6 : n ≤ 6) {f : List Bool} (hf : f.length = 6) {l : List Int} (hl : l.length = 6) (hin : 1 ≤ inN n f) : Ok (rangeN (ρ := List Int) (γ := (List Bool) × Int) (rules_rounds_b4 f l) n 0 (-1 : Int)) (FlOk (fun x => ∃ m : Nat, x = (m : Int) ∧ Lose n f l m) (fun _ => False) (fun _ => False)) := by
  refine ok_rangeN (fun k (x : Int) => (x = -1 ∧ ∀ j, j < k → nth f j = true) ∨ ∃ m : Nat, x = (m : Int) ∧ Lose k f l m) (.inl ⟨rfl, fun j hj => by omega⟩) (fun k x hk hI => ?_) fun x hx => ?_
  · unfold rules_rounds_b4
    rw [ok_bindF, idx_nat, nth_at (show k < f.length by omega), Option.bind_some]
    cases hfk : nth f k with
    | true =>
      rw [if_neg (by decide), ok_some, flok_nx, if_neg (by decide), ok_some, flok_nx]
      rcases hI with ⟨e, h⟩ | ⟨m, e, hm, fm, h⟩
      · exact .inl ⟨e, fun j hj => by
          by_cases ej : j = k
          · rw [ej]; exact hfk
          · exact h j (by omega)⟩
      · exact .inr ⟨m, e, by omega, fm, fun j hj fj => by
          by_cases ej : j = k
          · rw [ej, hfk] at fj; cases fj
          · exact h j (by omega) fj⟩
    | false =>
      rw [if_pos (by decide)]
      rcases hI with ⟨e, h⟩ | ⟨m, e, hm, fm, h⟩
      · subst e
        rw [if_pos (by decide), ok_some, flok_nx, if_pos rfl, ok_some, flok_nx]
        exact .inr ⟨k, rfl, by omega, hfk, fun j hj fj => by
          by_cases ej : j = k
          · rw [ej]; exact ⟨Int.le_refl _, fun h => by omega⟩
          · have := h j (by omega); rw [this] at fj; cases fj⟩
      · subst e
        rw [if_neg (by simp), idx_nat, nth_at (show k < l.length by omega), Option.bind_some, idx_nat, nth_at (show m < l.length by omega), Option.bind_some, ok_some, flok_nx, ok_ite]
        refine ⟨fun hle => ?_, fun hgt => ?_⟩
        · rw [ok_some, flok_nx]
          have hle : nth l k ≤ nth l m := by simpa using hle
          exact .inr ⟨k, rfl, by omega, hfk, fun j hj fj => by
            by_cases ej : j = k
            · rw [ej]; exact ⟨Int.le_refl _, fun h => by omega⟩
            · have := (h j (by omega) fj).1; exact ⟨by omega, fun h => by omega⟩⟩
        · rw [ok_some, flok_nx]
          have hgt : ¬ nth l k ≤ nth l m := by simpa using hgt
          exact .inr ⟨m, rfl, by omega, fm, fun j hj fj => by
            by_cases ej : j = k
            · rw [ej]; exact ⟨by omega, fun _ => by omega⟩
            · exact h j (by omega) fj⟩
  · rcases hx with ⟨e, h⟩ | h
    · have : inN n f = 0 := by
        unfold inN
        rw [sumN_congr (g := fun _ => 0) fun j hj => by rw [if_pos (h j hj)], sumN_zero]
      omega
    · exact h
theorem step_val {n : Nat} (h6 : n ≤ 6) {v : List (List Int)} (hlen : v.length ≤ 1000) (hv : ∀ p ∈ v, Ord n p) {f : List Bool} (hf : f.length = 6) {c : Int} (hc : c = inN n f) (c1 : 1 ≤ c) (cn : c ≤ n) : ∃ (l : List Int) (m : Nat), (∀ x, x < 6 → nth l x = rc f v x) ∧ Lose n f l m ∧ rules_rounds_b1 v (n : Int) (f, c) = some (if c = 1 then .rt [(m : Int)] else .nx (f.set m true, c - 1)) := by
  obtain ⟨a, ea, ha⟩ := exact_ok h6 hlen hv hf
  cases a with
  | br _ => exact ha.elim
  | rt _ => exact ha.elim
  | nx l =>
    have ha' : l.length = 6 ∧ ∀ x, x < 6 → nth l x = rc f v x := ha
    obtain ⟨b, eb, hb⟩ := lose2 h6 hf ha'.1 (show 1 ≤ inN n f by omega)
    cases b with
    | br _ => exact hb.elim
    | rt _ => exact hb.elim
    | nx x =>
      have hb' : ∃ m : Nat, x = (m : Int) ∧ Lose n f l m := hb
      obtain ⟨m, rfl, hm⟩ := hb'
      refine ⟨l, m, ha'.2, hm, ?_⟩
      have h1 := hm.1
      unfold rules_rounds_b1
      simp only
      rw [ea]
      show (chk ((n : Int) ≤ 9223372036854775807)).bind _ = _
      rw [chk_t (by omega), Option.bind_some, Int.toNat_natCast, eb]
      show (if c == (1 : Int) then some (Fl.rt ([(m : Int)] : (List Int))) else (idx f (m : Int)).bind fun y1096 => some (Fl.nx ((List.set f (((m : Int)).toNat) true), wsub c (1 : Int)))) = _
      by_cases e : c = 1
      · rw [if_pos (by simpa using e), if_pos e]
      · rw [if_neg (by simpa using e), if_neg e, idx_nat, nth_at (by omega), Option.bind_some, Int.toNat_natCast, wsub_of (by omega) (by omega)]
theorem loopM_eq {ρ β σ γ : Type} {body body' : σ → Option (Fl ρ β σ)} (I : σ → Prop) (h : ∀ s, I s → body s = body' s ∧ ∀ s', body s = some (.nx s') → I s') : ∀ (n : Nat) (s : σ), I s → loopM (γ := γ) body n s = loopM (γ := γ) body' n s := by
  intro n
  induction n with
  | zero => intro s _; rfl
  | succ n ih =>
    intro s hs
    obtain ⟨e, hn⟩ := h s hs
    unfold loopM
    rw [← e]
    cases hb : body s with
    | none => rfl
    | some z =>
      cases z with
      | nx s' => exact ih s' (hn s' hb)
      | br _ => rfl
      | rt _ => rfl
theorem rounds_two {n : Nat} (h1 : 1 ≤ n) (h6 : n ≤ 6) {v : List (List Int)} (hlen : v.length ≤ 30) (hv : ∀ p ∈ v, Ord n p) : rules_rounds_m (n : Int) (v ++ v) = rules_rounds_m (n : Int) v := by
  unfold rules_rounds_m
  have hvv : ∀ p ∈ v ++ v, Ord n p := fun p hp => by
    rcases List.mem_append.1 hp with h | h <;> exact hv p h
  rw [loopM_eq (body := rules_rounds_b1 (v ++ v) (n : Int)) (body' := rules_rounds_b1 v (n : Int)) (fun s : List Bool × Int => s.1.length = 6 ∧ s.2 = inN n s.1 ∧ 1 ≤ s.2 ∧ s.2 ≤ n) ?key 1048576 _ ⟨by simp, ?start, by simp only; omega, by simp only; omega⟩]
  case key =>
    rintro ⟨f, c⟩ hI
    obtain ⟨hf, hc, c1, cn⟩ := hI
    simp only at hf hc c1 cn
    obtain ⟨l, m, hl, hm, e⟩ := step_val h6 (v := v) (by omega) hv hf hc c1 cn
    obtain ⟨l', m', hl', hm', e'⟩ := step_val h6 (v := v ++ v) (by rw [List.length_append]; omega) hvv hf hc c1 cn
    have two : ∀ x, x < 6 → nth l' x = 2 * nth l x := fun x hx => by rw [hl' x hx, hl x hx, rc_append]; omega
    have a1 := hm.1
    have a2 := hm'.1
    have same : m' = m := by
      have p1 := hm.2.2 m' hm'.1 hm'.2.1
      have p2 := hm'.2.2 m hm.1 hm.2.1
      rw [two m' (by omega), two m (by omega)] at p2
      rcases Nat.lt_trichotomy m m' with h | h | h
      · have := p1.2 h; omega
      · exact h.symm
      · have := p2.2 h; omega
    subst same
    refine ⟨by rw [e, e'], fun s' hs' => ?_⟩
    rw [e'] at hs'
    by_cases hc1 : c = 1
    · rw [if_pos hc1] at hs'; cases hs'
    · rw [if_neg hc1] at hs'
      cases hs'
      have ns : ∀ y, nth (f.set m' true) y = if y = m' then true else nth f y := fun y => nth_set (by omega)
      have hnew : inN n (f.set m' true) = c - 1 := by
        unfold inN
        rw [sumN_but (i := m') (f := fun y => if nth f y = true then (0 : Int) else 1) hm.1 fun j _ hj => by rw [ns, if_neg hj]]
        rw [ns, if_pos rfl, hm.2.1]
        unfold inN at hc
        rw [← hc]; simp
      exact ⟨by simpa using hf, by simp only; omega, by simp only; omega, by simp only; omega⟩
  case start =>
    show (n : Int) = inN n (List.replicate 6 false)
    unfold inN
    rw [sumN_congr (g := fun _ => 1) fun y hy => by rw [nth_replicate (by omega)]; rfl, sumN_const]; omega
end Go.Pu
/- The plain law: by other names the same have won, and with all votes twice nothing changes. -/
set_option linter.all false
namespace Go.Pu
open Go.Fw Go.Mo
theorem ren_ok {n : Nat} (h6 : n ≤ 6) {p : List Int} (hp : Ord n p) {v : List (List Int)} (hv : Votes n v) : pk_renamed_m v p = some (ren p v) := by
  apply Ok.eq
  unfold pk_renamed_m
  have h30 := hv.1
  rw [ok_bindR]
  refine ok_rangeL (fun k (s : List (List Int)) => s = ren p (v.take k)) rfl (fun k r s hk hI => ?_) fun s hs => by rw [ok_some, hs, List.take_length]
  have hkl := (List.getElem?_eq_some_iff.1 hk).1
  have et : v.take (k + 1) = v.take k ++ [r] := by rw [List.take_succ, hk]; rfl
  have hr : Ord n r := hv.2 r (List.mem_of_getElem? hk)
  have sl : s.length ≤ 30 := by rw [hI]; unfold ren; rw [List.length_map, List.length_take]; omega
  unfold pk_renamed_b1
  rw [ok_bindF]
  refine ok_rangeL (fun j (l : List Int) => l = (r.take j).map (nm p)) rfl (fun j y l hj hJ => ?_) fun l hl => ?_
  · have hjl := (List.getElem?_eq_some_iff.1 hj).1
    have et' : r.take (j + 1) = r.take j ++ [y] := by rw [List.take_succ, hj]; rfl
    have hy := (hr.mem y).1 (List.mem_of_getElem? hj)
    have ll : l.length ≤ 6 := by rw [hJ, List.length_map, List.length_take]; have := hr.len; omega
    obtain ⟨q, rfl⟩ : ∃ q : Nat, y = q := ⟨y.toNat, by omega⟩
    unfold pk_renamed_b2
    rw [idx_nat, nth_at (show q < p.length by rw [hp.len]; omega), Option.bind_some, chk_t (by simp; omega), Option.bind_some, ok_some, flok_nx, et', List.map_append, hJ]
    rfl
  · rw [List.take_length] at hl
    rw [chk_t (by simp; omega), Option.bind_some, ok_some, flok_nx, et, hI, hl]
    unfold ren
    rw [List.map_append]; rfl
theorem am_count {g : Nat → Int} {n : Nat} : ((am g n).length : Int) = sumN n (fun i => if (∀ j, j < n → g j ≤ g i) then 1 else 0) := by
  unfold am
  have : ∀ (P : Nat → Bool) (k : Nat), ((((List.range k).filter P).length : Nat) : Int) = sumN k (fun i => if P i = true then 1 else 0) := fun P k => by
    induction k with
    | zero => rfl
    | succ k ih =>
      rw [List.range_succ, List.filter_append, List.length_append, Int.natCast_add, ih]
      simp only [sumN]
      cases h : P k <;> simp [h]
  rw [this]
  exact sumN_congr fun i _ => by simp only [decide_eq_true_eq]
theorem winners5 {n : Nat} (h1 : 1 ≤ n) (h6 : n ≤ 6) {v : List (List Int)} (hv : Votes n v) : rules_Winners_m ((5 : Nat) : Int) (n : Int) v = (rules_rounds_m (n : Int) v).bind fun y => some (y, 0) := by
  obtain ⟨m, em, hM⟩ := duels_ok h1 h6 hv
  unfold rules_Winners_m
  rw [show (if decide (((5 : Nat) : Int) < (1 : Int)) then some (Fl.nx true) else some (Fl.nx (decide (((5 : Nat) : Int) > (5 : Int))))) = (some (Fl.nx false) : Option (Fl (List Int × Int) Unit Bool)) from rfl, bindR, if_neg (by decide), em, Option.bind_some, if_neg (by simp), if_neg (by decide), if_neg (by decide), if_neg (by decide), if_neg (by decide), if_pos (by decide)]
theorem RulesNames (x0 : Int) (_ : (Lit.int .i64 x0).wf = true) (x1 : Int) (_ : (Lit.int .i64 x1).wf = true) (x2 : List (List Int)) (_ : (∀ r ∈ x2, (∀ x ∈ r, (Lit.int .i64 x).wf = true) ∧ r.length ≤ maxLen) ∧ x2.length ≤ maxLen) (x3 : List Int) (_ : (∀ x ∈ x3, (Lit.int .i64 x).wf = true) ∧ x3.length ≤ maxLen) : pk_RulesNames_m x0 x1 x2 x3 = some true := by
  obtain ⟨k, k1, k5, hk⟩ := one_within x0 5 (by decide) (by decide)
  rw [show ((5 : Nat) : Int) = 5 from rfl] at hk
  obtain ⟨n, n1, n6, hn⟩ := one_within x1 6 (by decide) (by decide)
  rw [show ((6 : Nat) : Int) = 6 from rfl] at hn
  obtain ⟨v0, ev, hl0, hv0⟩ := votesOf_ok n x2 n1 n6
  obtain ⟨p, ep, hp⟩ := orderOf_ok n x3 n1 (by omega)
  have h30 := hv0.1
  have e15 : (if (15 : Int) < ((v0).length : Int) then (15 : Int) else ((v0).length : Int)) = ((min 15 v0.length : Nat) : Int) := by omega
  unfold pk_RulesNames_m
  rw [winners_t, Option.bind_some, if_neg (by decide), within_at x0 5 (by decide) (by decide), Option.bind_some, within_at x1 6 (by decide) (by decide), Option.bind_some, hn, ev, Option.bind_some, ep, Option.bind_some, e15, chk_t (by omega), Option.bind_some, hk]
  simp only [Int.toNat_natCast, List.drop_zero]
  have hvl : (v0.take (min 15 v0.length)).length ≤ 15 := by rw [List.length_take]; omega
  have hv : Votes n (v0.take (min 15 v0.length)) := ⟨by omega, fun q hq => hv0.2 q (List.mem_of_mem_take hq)⟩
  generalize v0.take (min 15 v0.length) = v at *
  have hrv := ren_votes hp hv
  have hvv : Votes n (v ++ v) := ⟨by rw [List.length_append]; omega, fun q hq => by
    rcases List.mem_append.1 hq with h | h <;> exact hv.2 q h⟩
  have ecl : slices_Clone_rows_m v = some v := by unfold slices_Clone_rows_m; rw [chk_t (by omega)]; rfl
  have g3 : pk_good_m [0, 0, 0] = some true := by rw [good_at]; rfl
  by_cases h5 : k = 5
  · subst h5
    obtain ⟨x, ex, -⟩ := rounds_ok n1 n6 hv
    obtain ⟨y, ey, -⟩ := rounds_ok n1 n6 hrv
    have ez : rules_rounds_m (n : Int) (v ++ v) = some [(x : Int)] := by rw [rounds_two n1 n6 (by omega) hv.2, ex]
    have w1 := winners5 n1 n6 hv
    have w2 := winners5 n1 n6 hrv
    have w3 := winners5 n1 n6 hvv
    rw [ex, Option.bind_some] at w1
    rw [ey, Option.bind_some] at w2
    rw [ez, Option.bind_some] at w3
    rw [w1, Option.bind_some, ren_ok n6 hp hv, Option.bind_some, w2, Option.bind_some, ecl, Option.bind_some, chk_t (by omega), Option.bind_some, w3, Option.bind_some]
    simp only [g3, Option.bind_some, equal_ok]
    rfl
  · obtain ⟨g, hg, eg⟩ := winners_am n1 n6 hv (k := (k : Int)) (by omega)
    obtain ⟨h, hh, eh⟩ := winners_am n1 n6 hrv (k := (k : Int)) (by omega)
    obtain ⟨d, hd, ed⟩ := winners_am n1 n6 hvv (k := (k : Int)) (by omega)
    have hren := val_ren hp hv hg hh
    have htwo : am d n = am g n := (am_congr (val_two hg hd)).symm
    rw [htwo] at ed
    have hne : 0 < (am g n).length := by
      obtain ⟨m, hm, hmax⟩ : ∃ m, m < n ∧ ∀ j, j < n → g j ≤ g m := by
        have : ∀ q, q < n → ∃ m, m ≤ q ∧ ∀ j, j ≤ q → g j ≤ g m := by
          intro q
          induction q with
          | zero => intro _; exact ⟨0, Nat.le_refl _, fun j hj => by rw [show j = 0 by omega]; exact Int.le_refl _⟩
          | succ q ih =>
            intro hq
            obtain ⟨m, hm, h⟩ := ih (by omega)
            by_cases c : g (q + 1) ≤ g m
            · exact ⟨m, by omega, fun j hj => by
                by_cases e : j = q + 1
                · rw [e]; exact c
                · exact h j (by omega)⟩
            · exact ⟨q + 1, Nat.le_refl _, fun j hj => by
                by_cases e : j = q + 1
                · rw [e]; exact Int.le_refl _
                · have := h j (by omega); omega⟩
        obtain ⟨m, hm, h⟩ := this (n - 1) (by omega)
        exact ⟨m, by omega, fun j hj => h j (by omega)⟩
      exact List.length_pos_of_mem (am_mem.2 ⟨hm, hmax⟩)
    have hmap : ∀ i, i < n → ((∀ j, j < n → h j ≤ h (pi_ p i)) ↔ ∀ j, j < n → g j ≤ g i) := fun i hi => ⟨fun H j hj => by
      have := H (pi_ p j) (pi_lt hp hj)
      rwa [hren j hj, hren i hi] at this, fun H j hj => by
      obtain ⟨q, hq, rfl⟩ := pi_sur hp hj
      rw [hren q hq, hren i hi]; exact H q hq⟩
    have hlen : (am g n).length = (am h n).length := by
      have c1 := am_count (g := g) (n := n)
      have c2 := am_count (g := h) (n := n)
      rw [← ord_sum hp] at c2
      have : sumN n (fun i => if (∀ j, j < n → h j ≤ h (nth p i).toNat) then (1 : Int) else 0) = sumN n (fun i => if (∀ j, j < n → g j ≤ g i) then (1 : Int) else 0) := sumN_congr fun i hi => by
        have := hmap i hi
        unfold pi_ at this
        simp only [this]
      rw [this] at c2
      omega
    rw [eg, Option.bind_some, ren_ok n6 hp hv, Option.bind_some, eh, Option.bind_some, ecl, Option.bind_some, chk_t (by omega), Option.bind_some, ed, Option.bind_some]
    simp only [g3, Option.bind_some, equal_ok, contains_ok, decide_true, Bool.not_true, Bool.false_eq_true, if_false, List.length_map, hlen]
    have hz : (((am h n).length : Int) == 0) = false := by rw [beq_eq_false_iff_ne]; omega
    have hk5 : ((k : Int) == 5) = false := by rw [beq_eq_false_iff_ne]; omega
    rw [hz]
    apply Ok.eq
    rw [ok_bindR, ok_some, flok_nx, if_neg (by decide), hk5, if_neg (by decide), ok_bindR, ← hlen]
    refine ok_rangeN (fun _ _ => True) trivial (fun i u hi _ => ?_) fun _ _ => by rw [ok_some]; simp
    have hm := am_mem.1 (nth_mem hi)
    have hi' : ((am g n).map fun (i : Nat) => (i : Int))[i]? = some (((nth (am g n) i : Nat)) : Int) := by
      rw [List.getElem?_map, nth_at hi]; rfl
    generalize nth (am g n) i = q at *
    obtain ⟨hq, hmax⟩ := hm
    have hpq := nm_pi hp hq
    have hpq' : nth p q = (pi_ p q : Int) := by unfold nm at hpq; rwa [Int.toNat_natCast] at hpq
    have hin : ((pi_ p q : Nat) : Int) ∈ (am h n).map fun (i : Nat) => (i : Int) := List.mem_map.2 ⟨pi_ p q, am_mem.2 ⟨pi_lt hp hq, (hmap q hq).2 hmax⟩, rfl⟩
    unfold pk_RulesNames_b1
    simp only
    rw [idx_nat, hi', Option.bind_some, ok_bindF, hn, if_neg (by simp), if_neg (by simp; omega), idx_nat, nth_at (by rw [hp.len]; exact hq), Option.bind_some, hpq', contains_ok, Option.bind_some, ok_some, flok_nx, decide_eq_true hin]
    rw [if_neg (by decide), ok_some, flok_nx]
    trivial
end Go.Pu
/- Along a line: from the last one on, each stands at an end of those that are left. -/
set_option linter.all false
namespace Go.Pu
open Go.Fw Go.Mo
def al (line p : List Int) : Nat → Nat → Bool
  | 0, _ => true
  | i + 1, lo => if nth p (i + 1) = nth line lo then al line p i (lo + 1) else if nth p (i + 1) = nth line (lo + i + 1) then al line p i lo else false
def along (n : Nat) (line p : List Int) : Bool := al line p (n - 1) 0
theorem along_ok {n : Nat} {line p : List Int} (h0 : 1 ≤ n) (h6 : n ≤ 6) (hl : Ord n line) (hp : Ord n p) : peak_Along_m line p = some (along n line p, 0) := by
  have c1 := order_check h0 h6 hl
  have c2 := order_check h0 h6 hp
  apply Ok.eq
  unfold peak_Along_m
  rw [hl.len, c1, Option.bind_some, if_neg (by simp), c2, Option.bind_some, if_neg (by simp), ok_bindR, hp.len, wsub_of (by omega) (by omega)]
  have key : Ok (loopM (γ := Unit) (peak_Along_b1 p line) 1048576 ((0 : Int), (n : Int) - 1, (n : Int) - 1)) (FlOk (fun _ => along n line p = true) (fun _ => False) (fun r => r = (along n line p, 0))) := by
    refine ok_loopM (fun s : Int × Int × Int => ∃ lo i : Nat, s = ((lo : Int), (lo : Int) + i, (i : Int)) ∧ lo + i < n ∧ al line p i lo = along n line p) (fun s => s.2.2.toNat) (fun s hs => ?_) 1048576 _ ⟨0, n - 1, ?_, by omega, rfl⟩ (by simp only; omega)
    · obtain ⟨lo, i, rfl, hlt, he⟩ := hs
      unfold peak_Along_b1
      cases i with
      | zero =>
        simp only
        rw [if_neg (by simp), ok_some, flok_br, ← he]; rfl
      | succ i =>
        simp only
        rw [if_pos (by simp), idx_nat, nth_at (show i + 1 < p.length by rw [hp.len]; omega), Option.bind_some, idx_nat, nth_at (show lo < line.length by rw [hl.len]; omega), Option.bind_some]
        simp only [al] at he
        by_cases h1 : nth p (i + 1) = nth line lo
        · rw [if_pos h1] at he
          rw [if_pos (by rw [h1]; simp), ok_some, flok_nx, wadd_of (by omega) (by omega), wsub_of (by omega) (by omega)]
          refine ⟨⟨lo + 1, i, ?_, by omega, he⟩, by simp⟩
          rw [Prod.mk.injEq, Prod.mk.injEq]; omega
        · rw [if_neg h1] at he
          have e2 : idx line ((lo : Int) + ((i + 1 : Nat) : Int)) = some (nth line (lo + i + 1)) := by
            rw [show (lo : Int) + ((i + 1 : Nat) : Int) = ((lo + i + 1 : Nat) : Int) by omega, idx_nat, nth_at (by rw [hl.len]; omega)]
          rw [if_neg (by simpa using h1), e2, Option.bind_some]
          by_cases h2 : nth p (i + 1) = nth line (lo + i + 1)
          · rw [if_pos h2] at he
            rw [if_pos (by rw [h2]; simp), ok_some, flok_nx, wsub_of (by omega) (by omega), wsub_of (by omega) (by omega)]
            refine ⟨⟨lo, i, ?_, by omega, he⟩, by simp⟩
            rw [Prod.mk.injEq, Prod.mk.injEq]; omega
          · rw [if_neg h2] at he
            rw [if_neg (by simpa using h2), ok_some, flok_rt, ← he]
    · rw [Prod.mk.injEq, Prod.mk.injEq]; omega
  refine key.mono ?_
  rintro (s | b | r) hs
  · obtain ⟨x, y, z⟩ := s
    have : along n line p = true := hs
    rw [flok_nx, ok_some, this]
  · exact hs.elim
  · exact hs
theorem al_ren {n : Nat} {line p q : List Int} (hl : Ord n line) (hp : Ord n p) (hq : Ord n q) : ∀ (i lo : Nat), lo + i < n → al (line.map (nm q)) (p.map (nm q)) i lo = al line p i lo
  | 0, _, _ => rfl
  | i + 1, lo, h => by
    have key : ∀ x y : Int, 0 ≤ x → x < n → 0 ≤ y → y < n → (nm q x = nm q y ↔ x = y) := fun x y x0 xn y0 yn => by
      constructor
      · intro e
        obtain ⟨a, rfl⟩ : ∃ a : Nat, x = a := ⟨x.toNat, by omega⟩
        obtain ⟨b, rfl⟩ : ∃ a : Nat, y = a := ⟨y.toNat, by omega⟩
        rw [nm_pi hq (by omega), nm_pi hq (by omega)] at e
        have := pi_inj hq (x := a) (y := b) (by omega) (by omega) (by omega)
        omega
      · intro e; rw [e]
    have vp := hp.val (show i + 1 < n by omega)
    have v1 := hl.val (show lo < n by omega)
    have v2 := hl.val (show lo + i + 1 < n by omega)
    simp only [al]
    rw [nth_map (by rw [hp.len]; omega), nth_map (by rw [hl.len]; omega), nth_map (by rw [hl.len]; omega), al_ren hl hp hq i (lo + 1) (by omega), al_ren hl hp hq i lo (by omega)]
    simp only [key _ _ vp.1 vp.2 v1.1 v1.2, key _ _ vp.1 vp.2 v2.1 v2.2]
theorem al_rev {n : Nat} {line p : List Int} (hl : Ord n line) : ∀ (i lo : Nat), lo + i < n → al line.reverse p i (n - 1 - (lo + i)) = al line p i lo
  | 0, _, _ => rfl
  | i + 1, lo, h => by
    simp only [al]
    have r1 : nth line.reverse (n - 1 - (lo + (i + 1))) = nth line (lo + i + 1) := by
      rw [nth_rev (by rw [hl.len]; omega), hl.len]; congr 1; omega
    have r2 : nth line.reverse (n - 1 - (lo + (i + 1)) + i + 1) = nth line lo := by
      rw [nth_rev (by rw [hl.len]; omega), hl.len]; congr 1; omega
    have a1 := al_rev (p := p) hl i lo (by omega)
    have a2 := al_rev (p := p) hl i (lo + 1) (by omega)
    rw [r1, r2, show n - 1 - (lo + (i + 1)) + 1 = n - 1 - (lo + i) by omega, a1, show n - 1 - (lo + (i + 1)) = n - 1 - (lo + 1 + i) by omega, a2]
    have ne : nth line lo ≠ nth line (lo + i + 1) := fun e => by
      have h1 := hl.idx (show lo < n by omega)
      have h2 := hl.idx (show lo + i + 1 < n by omega)
      rw [e] at h1; omega
    by_cases c1 : nth p (i + 1) = nth line lo
    · rw [if_pos c1, if_neg (fun e => ne (by rw [← c1, e])), if_pos c1]
    · rw [if_neg c1, if_neg c1]
end Go.Pu
/- The ways out of a piece of a model, weakened one by one. -/
set_option linter.all false
namespace Go.Pu
open Go.Fw
theorem Ok.fl {ρ σ β : Type} {x : Option (Fl ρ β σ)} {N N' : σ → Prop} {B B' : β → Prop} {R R' : ρ → Prop} (h : Ok x (FlOk N B R)) (hN : ∀ s, N s → N' s) (hB : ∀ s, B s → B' s) (hR : ∀ s, R s → R' s) : Ok x (FlOk N' B' R') := h.mono fun v hv => by
  cases v with
  | nx s => exact hN s hv
  | br b => exact hB b hv
  | rt r => exact hR r hv
end Go.Pu
/- Orders along a line: who stands between two is never the last of the three. -/
set_option linter.all false
namespace Go.Pu
open Go.Fw Go.Mo
theorem al_append {line p r : List Int} : ∀ (i lo : Nat), i < p.length → al line (p ++ r) i lo = al line p i lo
  | 0, _, _ => rfl
  | i + 1, lo, h => by
    simp only [al]
    rw [nth_append, if_pos h, al_append i (lo + 1) (by omega), al_append i lo (by omega)]
/-- what is known of an order that is being laid along a line -/
structure Laid (n : Nat) (line p : List Int) (lo i : Nat) : Prop where
  len : p.length = i
  pos : 1 ≤ i
  hi : lo + i ≤ n
  ok : al line p (i - 1) lo = true
  nd : p.Nodup
  mem : ∀ x, x ∈ p ↔ ∃ t, lo ≤ t ∧ t < lo + i ∧ x = nth line t
theorem line_inj {n : Nat} {line : List Int} (hl : Ord n line) {s t : Nat} (hs : s < n) (ht : t < n) (e : nth line s = nth line t) : s = t := by
  have h1 := hl.idx hs
  have h2 := hl.idx ht
  rw [e] at h1; omega
theorem Laid.low {n lo i : Nat} {line p : List Int} (hl : Ord n line) (h : Laid n line p (lo + 1) i) : Laid n line (p ++ [nth line lo]) lo (i + 1) := by
  have h1 := h.len; have h2 := h.pos; have h3 := h.hi
  refine ⟨by simp [h1], by omega, by omega, ?_, ?_, fun x => ?_⟩
  · have e : i + 1 - 1 = (i - 1) + 1 := by omega
    have e2 : nth (p ++ [nth line lo]) (i - 1 + 1) = nth line lo := by rw [nth_append, if_neg (by omega), show i - 1 + 1 - p.length = 0 by omega]; rfl
    rw [e, al, e2, if_pos rfl, al_append _ _ (by omega)]
    exact h.ok
  · rw [List.nodup_append]
    refine ⟨h.nd, by simp, fun x hx y hy e => ?_⟩
    rw [List.mem_singleton] at hy
    obtain ⟨t, t1, t2, rfl⟩ := (h.mem x).1 hx
    have := line_inj hl (by omega) (by omega) (e.trans hy)
    omega
  · rw [List.mem_append, h.mem, List.mem_singleton]
    constructor
    · rintro (⟨t, t1, t2, rfl⟩ | rfl)
      · exact ⟨t, by omega, by omega, rfl⟩
      · exact ⟨lo, by omega, by omega, rfl⟩
    · rintro ⟨t, t1, t2, rfl⟩
      by_cases e : t = lo
      · right; rw [e]
      · left; exact ⟨t, by omega, by omega, rfl⟩
theorem Laid.high {n lo i : Nat} {line p : List Int} (hl : Ord n line) (h : Laid n line p lo i) (hin : lo + i < n) : Laid n line (p ++ [nth line (lo + i)]) lo (i + 1) := by
  have h1 := h.len; have h2 := h.pos; have h3 := h.hi
  refine ⟨by simp [h1], by omega, by omega, ?_, ?_, fun x => ?_⟩
  · have e : i + 1 - 1 = (i - 1) + 1 := by omega
    have e2 : nth (p ++ [nth line (lo + i)]) (i - 1 + 1) = nth line (lo + i) := by rw [nth_append, if_neg (by omega), show i - 1 + 1 - p.length = 0 by omega]; rfl
    rw [e, al, e2, show lo + (i - 1) + 1 = lo + i by omega]
    rw [if_neg (fun e => by have := line_inj hl (by omega) (by omega) e; omega), if_pos rfl, al_append _ _ (by omega)]
    exact h.ok
  · rw [List.nodup_append]
    refine ⟨h.nd, by simp, fun x hx y hy e => ?_⟩
    rw [List.mem_singleton] at hy
    obtain ⟨t, t1, t2, rfl⟩ := (h.mem x).1 hx
    have := line_inj hl (by omega) (by omega) (e.trans hy)
    omega
  · rw [List.mem_append, h.mem, List.mem_singleton]
    constructor
    · rintro (⟨t, t1, t2, rfl⟩ | rfl)
      · exact ⟨t, by omega, by omega, rfl⟩
      · exact ⟨lo + i, by omega, by omega, rfl⟩
    · rintro ⟨t, t1, t2, rfl⟩
      by_cases e : t = lo + i
      · right; rw [e]
      · left; exact ⟨t, by omega, by omega, rfl⟩
theorem Laid.ord {n : Nat} {line p : List Int} (hl : Ord n line) (h : Laid n line p 0 n) : Ord n p := by
  refine ⟨h.len, fun x => ?_, h.nd⟩
  rw [h.mem, ← hl.mem]
  constructor
  · rintro ⟨t, _, t2, rfl⟩; exact nth_mem (by rw [hl.len]; omega)
  · intro hx
    obtain ⟨t, ht, rfl⟩ := mem_nth hx
    rw [hl.len] at ht
    exact ⟨t, by omega, by omega, rfl⟩
theorem pkAlong_ok {n : Nat} {line : List Int} (h0 : 1 ≤ n) (h6 : n ≤ 6) (hl : Ord n line) (l : List Int) (hll : l.length ≤ maxLen) : ∃ p, pk_along_m line l = some p ∧ Ord n p ∧ along n line p = true := by
  have hlen := hl.len
  have hll' : l.length ≤ 9223372036854775807 := hll
  have key : Ok (pk_along_m line l) (fun p => Ord n p ∧ along n line p = true) := by
    unfold pk_along_m
    rw [if_neg (by rw [beq_iff_eq]; omega), ok_bindR]
    have first : Ok (if decide ((l.length : Int) > (0 : Int)) = true then (idx l (0 : Int)).bind fun y26 => (pk_Within_m y26 (line.length : Int)).bind fun y28 => some (Fl.nx (ρ := List Int) (β := Unit) y28) else some (.nx (0 : Int))) (FlOk (fun at_ => ∃ a : Nat, at_ = a ∧ a < n) (fun _ => False) (fun _ => False)) := by
      by_cases hz : (l.length : Int) > 0
      · rw [if_pos (by rw [decide_eq_true_eq]; exact hz), show (0 : Int) = ((0 : Nat) : Int) from rfl, idx_nat, nth_at (by omega), Option.bind_some, within_at _ _ (by omega) (by omega), Option.bind_some, ok_some, flok_nx]
        have b0 := Int.emod_nonneg (nth l 0) (b := (line.length : Int)) (by omega)
        have b1 := Int.emod_lt_of_pos (nth l 0) (b := (line.length : Int)) (by omega)
        exact ⟨(nth l 0 % (line.length : Int)).toNat, by omega, by omega⟩
      · rw [if_neg (by rw [decide_eq_true_eq]; exact hz), ok_some, flok_nx]
        exact ⟨0, rfl, by omega⟩
    refine first.fl (fun at_ h => ?_) (fun _ h => h.elim) (fun _ h => h.elim)
    obtain ⟨a, rfl, ha⟩ := h
    rw [idx_nat, nth_at (by omega), Option.bind_some, ok_bindR, wsub_of (by omega) (by omega), wadd_of (by omega) (by omega)]
    refine Ok.fl (N := fun s : List Int × Int × Int × Int => ∃ lo, Laid n line s.1 lo n) (B := fun _ => False) (R := fun _ => False) (ok_loopM (fun s : List Int × Int × Int × Int => ∃ lo i : Nat, s = (s.1, (lo : Int) - 1, ((lo + i : Nat) : Int), (i : Int)) ∧ Laid n line s.1 lo i) (fun s => (n - s.2.2.2).toNat) (fun s hs => ?_) _ _ ⟨a, 1, by simp, ⟨rfl, by omega, by omega, rfl, by simp, fun x => ?_⟩⟩ (by dsimp only; omega)) (fun s hs => ?_) (fun _ h => h.elim) (fun _ h => h.elim)
    · obtain ⟨out, low, high, k⟩ := s
      obtain ⟨lo, i, e, hL⟩ := hs
      simp only [Prod.mk.injEq] at e
      obtain ⟨_, rfl, rfl, rfl⟩ := e
      dsimp only at hL ⊢
      have hol := hL.len
      have hhi := hL.hi
      unfold pk_along_b1
      dsimp only
      rw [hlen]
      by_cases hin : i < n
      · rw [if_pos (by rw [decide_eq_true_eq]; omega)]
        have goHigh : lo + i < n → Ok ((idx line ((lo + i : Nat) : Int)).bind fun y167 => (chk (out.length + [y167].length ≤ 68719476736)).bind fun _ => some (Fl.nx (ρ := List Int) (β := List Int × Int × Int × Int) (out ++ [y167], (lo : Int) - 1, wadd ((lo + i : Nat) : Int) 1, wadd (i : Int) 1))) (FlOk (fun s' => (∃ lo i : Nat, s' = (s'.1, (lo : Int) - 1, ((lo + i : Nat) : Int), (i : Int)) ∧ Laid n line s'.1 lo i) ∧ (n - s'.2.2.2).toNat < ((n : Int) - (i : Int)).toNat) (fun s => ∃ lo, Laid n line s.1 lo n) (fun _ => False)) := fun hlt => by
          rw [idx_nat, nth_at (by omega), Option.bind_some, chk_t (by simp; omega), Option.bind_some, ok_some, flok_nx, wadd_of (by omega) (by omega), wadd_of (by omega) (by omega)]
          exact ⟨⟨lo, i + 1, by dsimp only; rw [Prod.mk.injEq, Prod.mk.injEq, Prod.mk.injEq]; exact ⟨rfl, rfl, by omega, by omega⟩, hL.high hl hlt⟩, by dsimp only; omega⟩
        have goLow : 1 ≤ lo → Ok ((idx line ((lo : Int) - 1)).bind fun y155 => (chk (out.length + [y155].length ≤ 68719476736)).bind fun _ => some (Fl.nx (ρ := List Int) (β := List Int × Int × Int × Int) (out ++ [y155], wsub ((lo : Int) - 1) 1, ((lo + i : Nat) : Int), wadd (i : Int) 1))) (FlOk (fun s' => (∃ lo i : Nat, s' = (s'.1, (lo : Int) - 1, ((lo + i : Nat) : Int), (i : Int)) ∧ Laid n line s'.1 lo i) ∧ (n - s'.2.2.2).toNat < ((n : Int) - (i : Int)).toNat) (fun s => ∃ lo, Laid n line s.1 lo n) (fun _ => False)) := fun hlt => by
          obtain ⟨lo', rfl⟩ : ∃ q, lo = q + 1 := ⟨lo - 1, by omega⟩
          rw [show ((lo' + 1 : Nat) : Int) - 1 = (lo' : Int) by omega, idx_nat, nth_at (by omega), Option.bind_some, chk_t (by simp; omega), Option.bind_some, ok_some, flok_nx, wadd_of (by omega) (by omega), wsub_of (by omega) (by omega)]
          exact ⟨⟨lo', i + 1, by dsimp only; rw [Prod.mk.injEq, Prod.mk.injEq, Prod.mk.injEq]; exact ⟨rfl, rfl, by omega, by omega⟩, hL.low hl⟩, by dsimp only; omega⟩
        by_cases c1 : lo + i = n
        · rw [if_pos (by rw [decide_eq_true_eq]; omega)]
          simp only [bindF, if_true]
          exact goLow (by omega)
        · rw [if_neg (by rw [decide_eq_true_eq]; omega)]
          by_cases c2 : 1 ≤ lo
          · rw [if_pos (by rw [decide_eq_true_eq]; omega)]
            by_cases c3 : i < l.length
            · rw [if_pos (by rw [decide_eq_true_eq]; omega), idx_nat, nth_at c3, Option.bind_some, chk_t (by decide), Option.bind_some]
              simp only [bindF]
              by_cases c4 : (Int.tmod (nth l i) 2 == 0) = true
              · rw [if_pos c4]; exact goLow c2
              · rw [if_neg c4]; exact goHigh (by omega)
            · rw [if_neg (by rw [decide_eq_true_eq]; omega)]
              simp only [bindF, Bool.false_eq_true, if_false]
              exact goHigh (by omega)
          · rw [if_neg (by rw [decide_eq_true_eq]; omega)]
            simp only [bindF, Bool.false_eq_true, if_false]
            exact goHigh (by omega)
      · rw [if_neg (by rw [decide_eq_true_eq]; omega), ok_some, flok_br]
        have : i = n := by omega
        subst this
        exact ⟨lo, hL⟩
    · dsimp only
      rw [List.mem_singleton]
      constructor
      · rintro rfl; exact ⟨a, by omega, by omega, rfl⟩
      · rintro ⟨t, t1, t2, rfl⟩; rw [show t = a by omega]
    · obtain ⟨out, low, high, k⟩ := s
      obtain ⟨lo, hL⟩ := hs
      dsimp only at hL ⊢
      rw [ok_some]
      have : lo = 0 := by have := hL.hi; omega
      subst this
      exact ⟨hL.ord hl, hL.ok⟩
  exact key
/-- who stands between is not the last of the three -/
theorem al_sp {n : Nat} {line p : List Int} (hl : Ord n line) (hp : Ord n p) : ∀ (i lo : Nat), lo + i < n → al line p i lo = true → (∀ t, lo ≤ t → t ≤ lo + i → p.idxOf (nth line t) ≤ i) → ∀ u v w, lo ≤ u → u < v → v < w → w ≤ lo + i → p.idxOf (nth line v) < p.idxOf (nth line u) ∨ p.idxOf (nth line v) < p.idxOf (nth line w)
  | 0, lo, h, _, _, u, v, w, h1, h2, h3, h4 => by omega
  | i + 1, lo, h, ha, hI, u, v, w, h1, h2, h3, h4 => by
    have inj : ∀ s t, s < n → t < n → p.idxOf (nth line s) = p.idxOf (nth line t) → s = t := fun s t hs ht e => by
      have vs := hl.val hs; have vt := hl.val ht
      have e1 := hp.idx_inj (x := (nth line s).toNat) (y := (nth line t).toNat) (by omega) (by omega) (by
        rw [show (((nth line s).toNat : Nat) : Int) = nth line s by omega, show (((nth line t).toNat : Nat) : Int) = nth line t by omega]; exact e)
      exact line_inj hl hs ht (by omega)
    have ve := hp.idx (show i + 1 < n by omega)
    simp only [al] at ha
    have hv := hI v (by omega) (by omega)
    by_cases c1 : nth p (i + 1) = nth line lo
    · rw [if_pos c1] at ha
      rw [c1] at ve
      by_cases cu : u = lo
      · subst cu
        left
        have := inj v u (by omega) (by omega)
        omega
      · refine al_sp hl hp i (lo + 1) (by omega) ha (fun t t1 t2 => ?_) u v w (by omega) h2 h3 (by omega)
        have := hI t (by omega) (by omega)
        have := inj t lo (by omega) (by omega)
        omega
    · rw [if_neg c1] at ha
      by_cases c2 : nth p (i + 1) = nth line (lo + i + 1)
      · rw [if_pos c2] at ha
        rw [c2] at ve
        by_cases cw : w = lo + i + 1
        · subst cw
          right
          have := inj v (lo + i + 1) (by omega) (by omega)
          omega
        · refine al_sp hl hp i lo (by omega) ha (fun t t1 t2 => ?_) u v w h1 h2 h3 (by omega)
          have := hI t (by omega) (by omega)
          have := inj t (lo + i + 1) (by omega) (by omega)
          omega
      · rw [if_neg c2] at ha; cases ha
theorem along_sp {n : Nat} {line p : List Int} (h0 : 1 ≤ n) (hl : Ord n line) (hp : Ord n p) (h : along n line p = true) {u v w : Nat} (h1 : u < v) (h2 : v < w) (h3 : w < n) : p.idxOf (nth line v) < p.idxOf (nth line u) ∨ p.idxOf (nth line v) < p.idxOf (nth line w) := by
  refine al_sp hl hp (n - 1) 0 (by omega) h (fun t _ ht => ?_) u v w (by omega) h1 h2 (by omega)
  have vt := hl.val (show t < n by omega)
  have := hp.idx_lt (x := (nth line t).toNat) (by omega)
  rw [show (((nth line t).toNat : Nat) : Int) = nth line t by omega] at this
  omega
/-- b stands between a and c on the line -/
def btw (line : List Int) (a b c : Nat) : Prop := (line.idxOf (a : Int) < line.idxOf (b : Int) ∧ line.idxOf (b : Int) < line.idxOf (c : Int)) ∨ (line.idxOf (c : Int) < line.idxOf (b : Int) ∧ line.idxOf (b : Int) < line.idxOf (a : Int))
theorem btw_bf {n : Nat} {line p : List Int} (h0 : 1 ≤ n) (hl : Ord n line) (hp : Ord n p) (h : along n line p = true) {a b c : Nat} (ha : a < n) (hb : b < n) (hc : c < n) (hm : btw line a b c) : bf p b a = true ∨ bf p b c = true := by
  have la := hl.idx_lt ha; have lb := hl.idx_lt hb; have lc := hl.idx_lt hc
  have ea := hl.at_idx ha; have eb := hl.at_idx hb; have ec := hl.at_idx hc
  unfold bf
  rw [decide_eq_true_eq, decide_eq_true_eq]
  rcases hm with ⟨m1, m2⟩ | ⟨m1, m2⟩
  · have := along_sp h0 hl hp h m1 m2 lc
    rw [ea, eb, ec] at this; exact this
  · have := along_sp h0 hl hp h m1 m2 la
    rw [ea, eb, ec] at this; exact this.symm
theorem btw_or {n : Nat} {line : List Int} (hl : Ord n line) {a b c : Nat} (ha : a < n) (hb : b < n) (hc : c < n) (hab : a ≠ b) (hbc : b ≠ c) (hac : a ≠ c) : btw line a b c ∨ btw line b a c ∨ btw line a c b := by
  have h1 : line.idxOf (a : Int) ≠ line.idxOf (b : Int) := fun e => hab (hl.idx_inj ha hb e)
  have h2 : line.idxOf (b : Int) ≠ line.idxOf (c : Int) := fun e => hbc (hl.idx_inj hb hc e)
  have h3 : line.idxOf (a : Int) ≠ line.idxOf (c : Int) := fun e => hac (hl.idx_inj ha hc e)
  unfold btw; omega
theorem duel_le {v : List (List Int)} {a b c d : Nat} (h : ∀ p ∈ v, bf p a b = true → bf p c d = true) : duel v a b ≤ duel v c d := by
  induction v with
  | nil => simp [duel]
  | cons p v ih =>
    have := ih fun q hq => h q (by simp [hq])
    have hp := h p (by simp)
    simp only [duel]
    split
    · rename_i h1; rw [if_pos (hp h1)]; omega
    · split <;> omega
theorem bf_trans {p : List Int} {a b c : Nat} (h1 : bf p a b = true) (h2 : bf p b c = true) : bf p a c = true := by
  unfold bf at *; rw [decide_eq_true_eq] at *; omega
/-- to beat goes on over a third -/
theorem beat_trans {n : Nat} {line : List Int} {v : List (List Int)} (h0 : 1 ≤ n) (hl : Ord n line) (hv : ∀ p ∈ v, Ord n p ∧ along n line p = true) {a b c : Nat} (ha : a < n) (hb : b < n) (hc : c < n) (hac : a ≠ c) (h1 : duel v b a < duel v a b) (h2 : duel v c b < duel v b c) : duel v c a < duel v a c := by
  have hab : a ≠ b := fun e => by subst e; omega
  have hbc : b ≠ c := fun e => by subst e; omega
  have hO : ∀ p ∈ v, Ord n p := fun p hp => (hv p hp).1
  have s1 := duel_sum hO ha hb hab
  have s2 := duel_sum hO hb hc hbc
  have s3 := duel_sum hO ha hc hac
  rcases btw_or hl ha hb hc hab hbc hac with m | m | m
  · have : duel v a b ≤ duel v a c := duel_le fun p hp hpb => by
      rcases btw_bf h0 hl (hO p hp) (hv p hp).2 ha hb hc m with h | h
      · have := bf_or (hO p hp) ha hb hab; rw [hpb, h] at this; cases this
      · exact bf_trans hpb h
    omega
  · have : duel v b c ≤ duel v a c := duel_le fun p hp hpb => by
      rcases btw_bf h0 hl (hO p hp) (hv p hp).2 hb ha hc m with h | h
      · exact bf_trans h hpb
      · exact h
    omega
  · have : duel v b c ≤ duel v b a := duel_le fun p hp hpb => by
      rcases btw_bf h0 hl (hO p hp) (hv p hp).2 ha hc hb m with h | h
      · exact bf_trans hpb h
      · have := bf_or (hO p hp) hb hc hbc; rw [hpb, h] at this; cases this
    omega
end Go.Pu
/- Widest ways. -/
set_option linter.all false
namespace Go.Pu
open Go.Fw Go.Mo
theorem mm_eq (a b c : Int) : (if (if b < a then b else a) > c then (if b < a then b else a) else c) = max c (min a b) := by
  simp only [Int.max_def, Int.min_def]
  repeat' split
  all_goals omega
/-- how wide the widest way by sides below k is -/
def wide (d : Nat → Nat → Int) : Nat → Nat → Nat → Int
  | 0, x, y => if d y x < d x y then d x y else 0
  | k + 1, x, y => if x ≠ y ∧ x ≠ k ∧ y ≠ k then max (wide d k x y) (min (wide d k x k) (wide d k k y)) else wide d k x y
theorem wide_toK {d : Nat → Nat → Int} {k x : Nat} : wide d (k + 1) x k = wide d k x k := by rw [wide, if_neg (by omega)]
theorem wide_ofK {d : Nat → Nat → Int} {k y : Nat} : wide d (k + 1) k y = wide d k k y := by rw [wide, if_neg (by omega)]
theorem wide_up {d : Nat → Nat → Int} {k x y : Nat} : wide d k x y ≤ wide d (k + 1) x y := by rw [wide]; split <;> omega
theorem wide_mono {d : Nat → Nat → Int} {k q x y : Nat} (hq : k ≤ q) : wide d k x y ≤ wide d q x y := by
  induction q with
  | zero => have : k = 0 := by omega
            subst this; exact Int.le_refl _
  | succ q ih =>
    by_cases he : k = q + 1
    · subst he; exact Int.le_refl _
    · exact Int.le_trans (ih (by omega)) wide_up
theorem wide_third {d : Nat → Nat → Int} : ∀ (k : Nat) {x y z : Nat}, z < k → x ≠ y → x ≠ z → z ≠ y → min (wide d k x z) (wide d k z y) ≤ wide d k x y
  | 0, _, _, _, h, _, _, _ => by omega
  | k + 1, x, y, z, hz, h1, h2, h3 => by
    by_cases hzk : z = k
    · subst hzk
      rw [wide_toK, wide_ofK, wide, if_pos ⟨h1, h2, by omega⟩]; omega
    · have hz' : z < k := by omega
      have a := wide_third (d := d) k (x := x) (y := y) hz' h1 h2 h3
      have b := wide_up (d := d) (k := k) (x := x) (y := y)
      have e1 : wide d (k + 1) x z = if x ≠ k then max (wide d k x z) (min (wide d k x k) (wide d k k z)) else wide d k x z := by
        rw [wide]; by_cases hx : x = k
        · rw [if_neg (by omega), if_neg (by omega)]
        · rw [if_pos ⟨h2, hx, hzk⟩, if_pos hx]
      have e2 : wide d (k + 1) z y = if y ≠ k then max (wide d k z y) (min (wide d k z k) (wide d k k y)) else wide d k z y := by
        rw [wide]; by_cases hy : y = k
        · rw [if_neg (by omega), if_neg (by omega)]
        · rw [if_pos ⟨h3, hzk, hy⟩, if_pos hy]
      have e3 : wide d (k + 1) x y = if x ≠ k ∧ y ≠ k then max (wide d k x y) (min (wide d k x k) (wide d k k y)) else wide d k x y := by
        rw [wide]; by_cases hx : x ≠ k ∧ y ≠ k
        · rw [if_pos ⟨h1, hx⟩, if_pos hx]
        · rw [if_neg (by omega), if_neg hx]
      by_cases hxk : x = k
      · subst hxk
        rw [if_neg (by omega)] at e1 e3
        rw [e1, e2, e3]
        by_cases hyk : y = x
        · omega
        · rw [if_pos hyk]; omega
      · by_cases hyk : y = k
        · subst hyk
          rw [if_neg (by omega)] at e2 e3
          rw [e1, e2, e3, if_pos hxk]
          omega
        · have c := wide_third (d := d) k (x := x) (y := k) hz' hxk h2 hzk
          have g := wide_third (d := d) k (x := k) (y := y) hz' (by omega) (by omega) h3
          rw [e1, e2, e3, if_pos hxk, if_pos hyk, if_pos ⟨hxk, hyk⟩]
          omega
theorem wide_nn {d : Nat → Nat → Int} {n : Nat} (h : ∀ x y, x < n → y < n → 0 ≤ d x y ∧ d x y ≤ 30) : ∀ (k : Nat), k ≤ n → ∀ {x y : Nat}, x < n → y < n → 0 ≤ wide d k x y ∧ wide d k x y ≤ 30
  | 0, _, x, y, hx, hy => by have := h x y hx hy; rw [wide]; split <;> omega
  | k + 1, hk, x, y, hx, hy => by
    have a := wide_nn h k (by omega) hx hy
    have b := wide_nn h k (by omega) hx (show k < n by omega)
    have c := wide_nn h k (by omega) (show k < n by omega) hy
    rw [wide]; split <;> omega
theorem wide_self {d : Nat → Nat → Int} (x : Nat) : ∀ k, wide d k x x = 0
  | 0 => by rw [wide, if_neg (by omega)]
  | k + 1 => by rw [wide, if_neg (by omega)]; exact wide_self x k
theorem wide_duel {d : Nat → Nat → Int} {k x y : Nat} (h : d y x < d x y) : d x y ≤ wide d k x y := by
  have := wide_mono (d := d) (x := x) (y := y) (Nat.zero_le k)
  rw [wide, if_pos h] at this; exact this
theorem paths_ok {n : Nat} {m : List (List Int)} {d : Nat → Nat → Int} (h : Tab n m d) : ∃ p, widest_Paths_m m = some (p, 0) ∧ Mat n n p (wide d n) := by
  have : Ok (widest_Paths_m m) (fun r => r.2 = 0 ∧ Mat n n r.1 (wide d n)) := by
    have hM := h.mat; have hn := hM.len; have hn6 := h.n6
    unfold widest_Paths_m
    rw [tab_ok h]
    simp only [ok_bind, ok_ite, ok_chk, ok_bindR, ok_some, hn, Int.toNat_natCast, List.length_replicate, bne_self_eq_false, Bool.false_eq_true, false_implies, true_and, not_false_eq_true, true_implies]
    refine ⟨by omega, ?_⟩
    refine ok_rangeN (fun k W => W.length = n ∧ ∀ x, x < k → (nth W x).length = n ∧ ∀ y, y < n → nth (nth W x) y = wide d 0 x y) ⟨by simp, by intro x hx; omega⟩ (fun k W hk hI => ?_) fun W hW => ?_
    · obtain ⟨i1, i2⟩ := hI
      unfold widest_Paths_b1
      simp only [ok_bind, ok_chk, ok_idx, ok_bindF, ok_some, hn, Int.toNat_natCast]
      refine ⟨by omega, by omega, by omega, ?_⟩
      refine ok_rangeL (fun j U => U.length = n ∧ (∀ x, x ≠ k → nth U x = nth W x) ∧ (nth U k).length = n ∧ (∀ y, y < n → nth (nth U k) y = if y < j then wide d 0 k y else 0)) ⟨by simpa using i1, fun x hx => by rw [nth_set (by omega), if_neg hx], by rw [nth_set (by omega), if_pos rfl]; simp, fun y hy => by rw [nth_set (by omega), if_pos rfl, nth_replicate hy]; simp⟩ (fun j q U hj hJ => ?_) fun U hU => ?_
      · obtain ⟨hq, hjl⟩ := nth_of hj
        rw [hn] at hjl
        subst hq
        obtain ⟨j1, j2, j3, j4⟩ := hJ
        unfold widest_Paths_b2
        simp only [idx_nat, hM.row? hk, hM.cell? hk hjl, hM.cell? hjl hk, nth_at (show k < U.length by omega), nth_at (show j < (nth U k).length by omega), Option.bind_some, ok_ite, ok_bindF, ok_some, flok_nx, beq_iff_eq, decide_eq_true_eq]
        refine ⟨fun hw => ?_, fun hw => ⟨j1, j2, j3, fun y hy => ?_⟩⟩
        · refine ⟨by simpa using j1, fun x hx => by rw [nth_set (by omega), if_neg hx]; exact j2 x hx, by rw [nth_set (by omega), if_pos rfl]; simpa using j3, fun y hy => ?_⟩
          rw [nth_set (by omega), if_pos rfl, nth_set (by omega)]
          by_cases hyj : y = j
          · subst hyj; rw [if_pos rfl, if_pos (by omega), wide, if_pos hw]
          · rw [if_neg hyj, j4 y hy]
            by_cases hlt : y < j
            · rw [if_pos hlt, if_pos (by omega)]
            · rw [if_neg hlt, if_neg (by omega)]
        · rw [j4 y hy]
          by_cases hyj : y = j
          · subst hyj; rw [if_neg (by omega), if_pos (by omega), wide, if_neg hw]
          · by_cases hlt : y < j
            · rw [if_pos hlt, if_pos (by omega)]
            · rw [if_neg hlt, if_neg (by omega)]
      · obtain ⟨u1, u2, u3, u4⟩ := hU
        refine flok_nx.2 ⟨u1, fun x hx => ?_⟩
        by_cases hxk : x = k
        · subst hxk; exact ⟨u3, fun y hy => by rw [u4 y hy, hn, if_pos hy]⟩
        · rw [u2 x hxk]; exact i2 x (by omega)
    · have hW0 : Mat n n W (wide d 0) := ⟨hW.1, fun x hx => (hW.2 x hx).1, fun x y hx hy => (hW.2 x hx).2 y hy⟩
      refine ⟨by omega, ?_⟩
      refine ok_rangeN (fun k W => Mat n n W (wide d k)) hW0 (fun k W hk hI => ?_) fun W hW => hW
      unfold widest_Paths_b3
      simp only [ok_bind, ok_chk, ok_bindF, ok_some, hn, Int.toNat_natCast]
      refine ⟨by omega, ok_rangeN (fun i W => Mat n n W (fun x y => if x < i then wide d (k + 1) x y else wide d k x y)) (hI.congr fun x y _ _ => by simp) (fun i W hi hI => ?_) fun W hW => flok_nx.2 (hW.congr fun x y hx _ => by simp [hx])⟩
      unfold widest_Paths_b4
      simp only [ok_bind, ok_chk, ok_bindF, ok_some, hn, Int.toNat_natCast]
      refine ⟨by omega, ok_rangeN (fun j W => Mat n n W (fun x y => if x < i ∨ (x = i ∧ y < j) then wide d (k + 1) x y else wide d k x y)) (hI.congr fun x y _ _ => by simp) (fun j W hj hI => ?_) fun W hW => flok_nx.2 (hW.congr fun x y hx hy => ?_)⟩
      · have g1 : (nth W i)[k]? = some (wide d k i k) := by
          rw [hI.cell? hi hk]; congr 1; split
          · exact wide_toK
          · rfl
        have g2 : (nth W k)[j]? = some (wide d k k j) := by
          rw [hI.cell? hk hj]; congr 1; split
          · exact wide_ofK
          · rfl
        have g3 : (nth W i)[j]? = some (wide d k i j) := by rw [hI.cell? hi hj]; congr 1; rw [if_neg (by omega)]
        unfold widest_Paths_b5
        simp only [idx_nat, hI.row? hi, hI.row? hk, g1, g2, g3, Option.bind_some, ok_bindF, ok_ite, ok_some, flok_nx, bne_iff_ne]
        have hne : ∀ {a b : Nat}, (a : Int) ≠ (b : Int) → a ≠ b := fun h e => h (by rw [e])
        have same : ¬ (i ≠ j ∧ i ≠ k ∧ j ≠ k) → Mat n n W (fun x y => if x < i ∨ (x = i ∧ y < j + 1) then wide d (k + 1) x y else wide d k x y) := fun hno => hI.congr fun x y hx hy => by
          by_cases hxy : x = i ∧ y = j
          · obtain ⟨rfl, rfl⟩ := hxy
            rw [if_neg (by omega), if_pos (by omega), wide, if_neg hno]
          · have : (x < i ∨ (x = i ∧ y < j + 1)) ↔ (x < i ∨ (x = i ∧ y < j)) := by omega
            simp only [this]
        have new : (i ≠ j ∧ i ≠ k ∧ j ≠ k) → Mat n n (W.set i ((nth W i).set j (if (if wide d k k j < wide d k i k then wide d k k j else wide d k i k) > wide d k i j then (if wide d k k j < wide d k i k then wide d k k j else wide d k i k) else wide d k i j))) (fun x y => if x < i ∨ (x = i ∧ y < j + 1) then wide d (k + 1) x y else wide d k x y) := fun hyes => (hI.set hi hj _).congr fun x y hx hy => by
          by_cases hxy : x = i ∧ y = j
          · obtain ⟨rfl, rfl⟩ := hxy
            rw [if_pos ⟨rfl, rfl⟩, mm_eq, if_pos (by omega : x < x ∨ (x = x ∧ y < y + 1)), wide, if_pos hyes]
          · rw [if_neg hxy]
            have : (x < i ∨ (x = i ∧ y < j + 1)) ↔ (x < i ∨ (x = i ∧ y < j)) := by omega
            simp only [this]
        refine ⟨fun h1 => ⟨fun h2 => ⟨fun h3 => new ⟨hne h1, hne h2, hne h3⟩, fun h3 => same fun hh => h3 fun e => hh.2.2 (by omega)⟩, fun h2 => ⟨fun hh => by (first | cases hh | exact hh.elim), fun _ => same fun hh => h2 fun e => hh.2.1 (by omega)⟩⟩, fun h1 => ⟨fun hh => by (first | cases hh | exact hh.elim), fun _ => same fun hh => h1 fun e => hh.1 (by omega)⟩⟩
      · have : (x < i + 1) ↔ (x < i ∨ (x = i ∧ y < n)) := by omega
        simp only [this]
  obtain ⟨⟨w, e⟩, h1, h2, h3⟩ := this
  simp only at h2 h3
  subst h2
  exact ⟨w, h1, h3⟩
/-- nobody has a wider way to x than x has back -/
def WideWins (n : Nat) (d : Nat → Nat → Int) (x : Nat) : Prop := ∀ y, y < n → wide d n y x ≤ wide d n x y
noncomputable def wideB (n : Nat) (d : Nat → Nat → Int) (x : Nat) : Bool := @decide (WideWins n d x) (Classical.propDecidable _)
theorem wideB_iff {n : Nat} {d : Nat → Nat → Int} {x : Nat} : wideB n d x = true ↔ WideWins n d x := by unfold wideB; exact @decide_eq_true_iff _ (Classical.propDecidable _)
theorem winners_ok {n : Nat} {m : List (List Int)} {d : Nat → Nat → Int} (h : Tab n m d) : widest_Winners_m m = some (pickB (wideB n d) n, 0) := by
  obtain ⟨p, ep, hp⟩ := paths_ok h
  have hn := hp.len; have hn6 := h.n6
  apply Ok.eq
  unfold widest_Winners_m
  rw [ep]
  simp only [ok_bind, ok_ite, ok_chk, ok_bindR, ok_some, bne_self_eq_false, Bool.false_eq_true, false_implies, true_and, not_false_eq_true, true_implies]
  refine ok_rangeL (fun k l => l = pickB (wideB n d) k) rfl (fun k r l hk hl => ?_) fun l hl => by rw [hn] at hl; subst hl; trivial
  obtain ⟨hr, hkl⟩ := nth_of hk
  rw [hn] at hkl
  subst hr hl
  unfold widest_Winners_b1
  simp only [ok_bindF]
  refine ok_rangeL (fun j b => b = true ↔ ∀ y, y < j → wide d n y k ≤ wide d n k y) (by simp) (fun j q b hj hb => ?_) fun b hb => ?_
  · obtain ⟨hq, hjl⟩ := nth_of hj
    rw [hn] at hjl
    subst hq
    unfold widest_Winners_b2
    simp only [idx_nat, hp.cell? hkl hjl, hp.cell? hjl hkl, Option.bind_some, ok_bindF, ok_ite, ok_some, flok_nx, decide_eq_true_eq]
    grind
  · have hiff : b = true ↔ wideB n d k = true := by rw [wideB_iff, hb, hn]; exact Iff.rfl
    simp only [flok_nx, ok_ite, ok_bind, ok_chk, ok_some]
    refine ⟨fun e => ⟨by have := pickB_len (p := wideB n d) (n := k); simp; omega, ?_⟩, fun e => ?_⟩
    · rw [pickB, if_pos (hiff.1 e)]
    · rw [pickB, if_neg (fun hh => e (hiff.2 hh)), List.append_nil]
theorem tableOf_ok {n : Nat} {p : List (List Int)} {f : Nat → Nat → Int} (h : Mat n n p f) : pk_tableOf_m p (n : Int) = some true := by
  have e0 : slices_ContainsFunc_rows_m p (fun a0 => pk_tableOf_1_m a0 n) = some false := by
    apply Ok.eq
    unfold slices_ContainsFunc_rows_m slices_IndexFunc_rows_m
    simp only [ok_bind, ok_bindR, ok_some]
    refine ok_rangeL (fun _ _ => True) trivial (fun k r s hk _ => ?_) fun s _ => by simp [ok_some, flok_nx]
    obtain ⟨hr, hkl⟩ := nth_of hk
    have hl := h.row k (by rw [← h.len]; exact hkl)
    rw [hr] at hl
    unfold slices_IndexFunc_rows_b1 pk_tableOf_1_m
    simp [hl, ok_some, ok_ite, flok_nx]
  apply Ok.eq
  unfold pk_tableOf_m
  rw [e0]
  simp [h.len, ok_bindR, ok_ite, ok_some, flok_nx]
end Go.Pu
/- Who beats all others. -/
set_option linter.all false
namespace Go.Pu
open Go.Fw Go.Mo
def Beats (n : Nat) (d : Nat → Nat → Int) (x : Nat) : Prop := ∀ y, y < n → y ≠ x → d y x < d x y
theorem Beats.one {n : Nat} {d : Nat → Nat → Int} {x y : Nat} (hx : x < n) (hy : y < n) (h : Beats n d x) (k : Beats n d y) : x = y := by
  refine Classical.byContradiction fun hne => ?_
  have := h y hy (Ne.symm hne)
  have := k x hx hne
  omega
theorem beater_ok {n : Nat} {v : List (List Int)} (h0 : 1 ≤ n) (h6 : n ≤ 6) (h : Votes n v) : ∃ x e, tally_Beater_m (n : Int) v = some (x, e) ∧ ((∃ a : Nat, a < n ∧ x = a ∧ e = 0 ∧ Beats n (duel v) a) ∨ (x = 0 ∧ e = 4 ∧ ∀ a, a < n → ¬ Beats n (duel v) a)) := by
  have : Ok (tally_Beater_m (n : Int) v) (fun r => (∃ a : Nat, a < n ∧ r.1 = a ∧ r.2 = 0 ∧ Beats n (duel v) a) ∨ (r.1 = 0 ∧ r.2 = 4 ∧ ∀ a, a < n → ¬ Beats n (duel v) a)) := by
    obtain ⟨m, e, hM⟩ := duels_ok h0 h6 h
    unfold tally_Beater_m
    rw [e]
    simp only [ok_bind, ok_ite, ok_chk, ok_bindR, ok_some, Int.toNat_natCast, bne_self_eq_false, Bool.false_eq_true, false_implies, true_and, not_false_eq_true, true_implies]
    refine ⟨by omega, ?_⟩
    refine ok_rangeN (fun k _ => ∀ a, a < k → ¬ Beats n (duel v) a) (by intro a ha; omega) (fun k s hk hI => ?_) fun s hs => ?_
    · unfold tally_Beater_b1
      simp only [ok_bind, ok_chk, ok_bindF, ok_some, ok_ite, Int.toNat_natCast]
      refine ⟨by omega, ok_rangeN (fun j b => b = true ↔ ∀ y, y < j → y ≠ k → duel v y k < duel v k y) (by simp) (fun j b hj hb => ?_) fun b hb => ?_⟩
      · unfold tally_Beater_b2
        simp only [idx_nat, hM.row? hk, hM.row? hj, Option.bind_some, hM.cell? hk hj, hM.cell? hj hk, ok_bindF, ok_ite, ok_some, flok_nx, beq_iff_eq, decide_eq_true_eq]
        grind
      · simp only [flok_nx, ok_ite, ok_some, flok_rt]
        refine ⟨fun ht => .inl ⟨k, hk, rfl, trivial, hb.1 ht⟩, fun hf a ha => ?_⟩
        by_cases hak : a = k
        · subst hak; exact fun hB => hf (hb.2 hB)
        · exact hI a (by omega)
    · grind
  obtain ⟨⟨x, e⟩, h1, h2⟩ := this
  exact ⟨x, e, h1, h2⟩
theorem tallies_t : pk_tallies_m = some true := by decide +kernel
end Go.Pu
