/- The plain law: who wins has a move to a lost place, who has lost has none. -/
import Derived.Test.YtbkginapdldffaaWPilesBoutonModels
import Derived.Test.YtbkginapdldffaaPuPiles
import Derived.Test.YtbkginapdldffaaPuNims
set_option linter.all false
namespace Go.Pu
open Go.Fw Go.Mo
theorem top_bit : ∀ s ∈ List.range 64, s ≠ 0 → ∃ i ∈ List.range 6, s.testBit i = true ∧ ∀ y ∈ List.range 64, y.testBit i = true → y ^^^ s < y := by decide +kernel
theorem nsum_bit (i : Nat) : ∀ (l : List Int) (s : Nat), (l.foldl (fun x y => x ^^^ y.toNat) s).testBit i = true → s.testBit i = true ∨ ∃ y ∈ l, y.toNat.testBit i = true
  | [], s, h => .inl h
  | y :: l, s, h => by
    rcases nsum_bit i l (s ^^^ y.toNat) h with h | ⟨z, hz, hz'⟩
    · rw [Nat.testBit_xor] at h
      cases hs : s.testBit i with
      | true => exact .inl rfl
      | false => right; exact ⟨y, by simp, by simpa [hs] using h⟩
    · exact .inr ⟨z, by simp [hz], hz'⟩
theorem nsum_lt {l : List Int} (h : ∀ x ∈ l, 0 ≤ x ∧ x ≤ 40) : nsum l < 64 := (nfold l 0 h (by omega)).2
theorem move_ex {l : List Int} (h : ∀ x ∈ l, 0 ≤ x ∧ x ≤ 40) (hn : nsum l ≠ 0) : ∃ y ∈ l, y.toNat ^^^ nsum l < y.toNat := by
  obtain ⟨i, hi, h1, h2⟩ := top_bit (nsum l) (List.mem_range.2 (nsum_lt h)) hn
  rcases nsum_bit i l 0 h1 with h3 | ⟨y, hy, hy'⟩
  · simp at h3
  · exact ⟨y, hy, h2 y.toNat (List.mem_range.2 (by have := h y hy; omega)) hy'⟩
theorem nsum_set {l : List Int} {i : Nat} {n : Int} (v : Int) (hi : l[i]? = some n) : nsum (l.set i v) = nsum l ^^^ n.toNat ^^^ v.toNat := by
  have hlt : i < l.length := (List.getElem?_eq_some_iff.1 hi).1
  have hn : l[i] = n := (List.getElem?_eq_some_iff.1 hi).2
  have e1 : l = l.take i ++ ([n] ++ l.drop (i + 1)) := by
    rw [← hn]; simp
  have e2 : l.set i v = l.take i ++ ([v] ++ l.drop (i + 1)) := by
    rw [List.set_eq_take_append_cons_drop, if_pos hlt]; rfl
  have h3 : ∀ z : Int, nsum (l.take i ++ ([z] ++ l.drop (i + 1))) = nsum (l.take i) ^^^ (z.toNat ^^^ nsum (l.drop (i + 1))) := fun z => by
    rw [nsum_append, nsum_append]; simp [nsum]
  rw [e2, h3]
  conv => rhs; rw [e1, h3]
  generalize nsum (l.take i) = A
  generalize nsum (l.drop (i + 1)) = B
  generalize n.toNat = N
  generalize v.toNat = V
  apply Nat.eq_of_testBit_eq
  intro j
  simp only [Nat.testBit_xor]
  cases A.testBit j <;> cases B.testBit j <;> cases N.testBit j <;> cases V.testBit j <;> rfl
theorem xor_at {l : List Int} (h : ∀ x ∈ l, 0 ≤ x ∧ x ≤ 40) {y : Int} (hy : y ∈ l) : bits .xor .i64 y ((nsum l : Nat) : Int) = ((y.toNat ^^^ nsum l : Nat) : Int) := by
  have := h y hy
  have e := xor_small y.toNat (List.mem_range.2 (by omega)) (nsum l) (List.mem_range.2 (nsum_lt h))
  rw [Int.toNat_of_nonneg this.1] at e
  exact e
theorem move_ok {l : List Int} (h : Pile l) : (nsum l = 0 ∧ piles_Move_m l = some (0, 0, 4)) ∨ (nsum l ≠ 0 ∧ ∃ (i : Nat) (y : Int), l[i]? = some y ∧ y.toNat ^^^ nsum l < y.toNat ∧ piles_Move_m l = some ((i : Int), y - ((y.toNat ^^^ nsum l : Nat) : Int), 0)) := by
  have hx : rangeL (γ := Unit) piles_Move_b1 l 0 (0 : Int) = some (.nx ((nsum l : Nat) : Int) : Fl (Int × Int × Int) Unit Int) := by
    rw [rangeL_fold (γ := Unit) (body := piles_Move_b1) (fun (x y : Int) => bits .xor .i64 x y) l 0 0 (fun i x s _ => rfl)]
    have := (nfold l 0 h.2 (by omega)).1
    rw [show (0 : Int) = ((0 : Nat) : Int) from rfl, this]; rfl
  have hbody : ∀ (i : Nat) (x : Int), x ∈ l → piles_Move_b2 ((nsum l : Nat) : Int) i x () = if decide (x.toNat ^^^ nsum l < x.toNat) = true then some (.rt ((i : Int), x - ((x.toNat ^^^ nsum l : Nat) : Int), (0 : Int))) else some (.nx ()) := by
    intro i x hx'
    have := h.2 x hx'
    unfold piles_Move_b2
    rw [xor_at h.2 hx']
    have e : decide (((x.toNat ^^^ nsum l : Nat) : Int) < x) = decide (x.toNat ^^^ nsum l < x.toNat) := by
      rw [decide_eq_decide]; omega
    rw [e]
    by_cases hlt : x.toNat ^^^ nsum l < x.toNat
    · simp only [hlt, decide_true, if_true]
      rw [wsub_of (by omega) (by omega)]
    · simp only [hlt, decide_false, Bool.false_eq_true, if_false]
  unfold piles_Move_m
  rw [check_ok h]
  simp only [Option.bind_some, bne_self_eq_false, Bool.false_eq_true, if_false]
  rw [hx]
  simp only [bindR]
  by_cases hn : nsum l = 0
  · left
    refine ⟨hn, ?_⟩
    obtain ⟨_, e, _⟩ := rangeL_inv (γ := Unit) (body := piles_Move_b2 ((nsum l : Nat) : Int)) (fun _ _ => True) l 0 () trivial (fun k x s hk _ => by
      refine ⟨(), ?_, trivial⟩
      rw [hbody _ x (List.mem_of_getElem? hk), hn, Nat.xor_zero]
      simp)
    rw [e]
  · right
    refine ⟨hn, ?_⟩
    obtain ⟨y, hy, hy'⟩ := move_ex h.2 hn
    obtain ⟨k, x, h1, h2, h3⟩ := rangeL_pick (γ := Unit) (body := piles_Move_b2 ((nsum l : Nat) : Int)) (fun x => decide (x.toNat ^^^ nsum l < x.toNat)) (fun i x => ((i : Int), x - ((x.toNat ^^^ nsum l : Nat) : Int), (0 : Int))) l 0 hbody ⟨y, hy, by simpa using hy'⟩
    refine ⟨k, x, h1, by simpa using h2, ?_⟩
    rw [h3, Nat.zero_add]
theorem PilesBouton (x0 : List Int) (h0 : (∀ x ∈ x0, (Lit.int .i64 x).wf = true) ∧ x0.length ≤ maxLen) : pk_PilesBouton_m x0 = some true := by
  unfold pk_PilesBouton_m
  rw [nims_t]
  obtain ⟨l, e, hp⟩ := pilesOf_ok x0 h0.2
  simp only [Option.bind_some, Bool.not_true, Bool.false_eq_true, if_false, e]
  rw [wins_ok hp]
  have hc : slices_Clone_int_int_m l = some l := by unfold slices_Clone_int_int_m; rw [chk_t (by have := hp.1; omega)]; rfl
  have walk : ∀ (mv : Int × Int × Int), (nsum l = 0 → mv.2.2 ≠ 0) → (∀ (i : Nat) (n : Int) (k : Int), l[i]? = some n → 1 ≤ k → k ≤ n → mv.2.2 = 0 → (i : Int) = mv.1 → k = mv.2.1 → nsum (l.set i (n - k)) = 0) →
      rangeL (γ := Unit) (pk_PilesBouton_b1 l (decide (nsum l ≠ 0), 0) mv) l 0 () = some (.nx () : Fl Bool Unit Unit) := by
    intro mv hm0 hm1
    obtain ⟨_, e, _⟩ := rangeL_inv (γ := Unit) (body := pk_PilesBouton_b1 l (decide (nsum l ≠ 0), 0) mv) (fun _ _ => True) l 0 () trivial (fun i n s hi _ => by
      refine ⟨(), ?_, trivial⟩
      rw [Nat.zero_add]
      have hn := hp.2 n (List.mem_of_getElem? hi)
      unfold pk_PilesBouton_b1
      have hcount := loopM_cnt (γ := Unit) (body := pk_PilesBouton_b2 n l i (decide (nsum l ≠ 0), 0) mv) (n.toNat + 1) (fun k hk hk1 => by
        unfold pk_PilesBouton_b2
        rw [if_pos (by simp; omega), hc]
        simp only [Option.bind_some, idx_nat, hi]
        rw [wsub_of (by omega) (by omega)]
        have hp' : Pile (l.set i (n - (k : Int))) := by
          refine ⟨by simpa using hp.1, fun x hx => ?_⟩
          rcases List.mem_or_eq_of_mem_set hx with hx | hx
          · exact hp.2 x hx
          · subst hx; omega
        rw [wins_ok hp']
        simp only [Option.bind_some, bne_self_eq_false, Bool.false_eq_true, if_false]
        rw [wadd_of (by omega) (by omega)]
        have hne : nsum l = 0 → nsum (l.set i (n - (k : Int))) ≠ 0 := fun h => by
          rw [nsum_set _ hi, h, Nat.zero_xor]
          intro h'
          have := xor_zero_eq h'
          omega
        have hend : ∀ b : Bool, b = false → (bindF (ρ := Bool) (β := Int) (some (Fl.nx b)) fun x500 => if x500 = true then some (Fl.rt false) else some (Fl.nx ((k : Int) + 1))) = some (Fl.nx (((k + 1 : Nat) : Int))) := by
          intro b hb; subst hb; rfl
        have hchk : (if (mv.2.2 == (0 : Int)) = true then (if ((i : Int) == mv.1) = true then (if ((k : Int) == mv.2.1) = true then some (Fl.nx (decide (nsum (l.set i (n - (k : Int))) ≠ 0))) else some (Fl.nx false)) else some (Fl.nx false)) else some (Fl.nx false) : Option (Fl Bool Int Bool)) = some (Fl.nx false) := by
          by_cases c1 : mv.2.2 = 0
          · by_cases c2 : (i : Int) = mv.1
            · by_cases c3 : (k : Int) = mv.2.1
              · have := hm1 i n k hi (by omega) (by omega) c1 c2 c3
                simp [c1, c2, c3]
                rw [← c3]; exact this
              · simp [c1, c2, c3]
            · simp [c1, c2]
          · simp [c1]
        by_cases hz : nsum l = 0
        · have h1 := hne hz
          simp only [hz, ne_eq, not_true_eq_false, decide_false, Bool.not_false, if_true, h1, not_false_eq_true, decide_true, Bool.not_true, Bool.false_eq_true, if_false]
          have h2 := hm0 hz
          have h3 : (mv.2.2 == (0 : Int)) = false := by simpa using h2
          simp only [h3, Bool.false_eq_true, if_false]
          exact hend false rfl
        · simp only [hz, ne_eq, not_false_eq_true, decide_true, Bool.not_true, Bool.false_eq_true, if_false]
          rw [hchk]
          exact hend false rfl) (by
        unfold pk_PilesBouton_b2
        rw [if_neg (by simp; omega)]) n.toNat 1 1048576 (by omega) (by omega) (by omega)
      have hcount' : loopM (γ := Unit) (pk_PilesBouton_b2 n l i (decide (nsum l ≠ 0), 0) mv) 1048576 (1 : Int) = some (.nx ((n.toNat + 1 : Nat) : Int)) := hcount
      rw [hcount']
      rfl)
    exact e
  rcases move_ok hp with ⟨hz, hm⟩ | ⟨hz, i, y, hi, hlt, hm⟩
  · rw [hm]
    simp only [Option.bind_some, hz, ne_eq, not_true_eq_false, decide_false, bne_self_eq_false, Bool.false_eq_true, if_false]
    have := walk (0, 0, 4) (fun _ => by decide) (fun i n k _ _ _ h => by simp at h)
    simp only [hz, ne_eq, not_true_eq_false, decide_false] at this
    have e4 : ((4 : Int) == 0) = false := by decide
    simp only [e4, bindR, beq_self_eq_true, Bool.not_true, Bool.false_eq_true, if_false, this, Bool.not_false, if_true]
  · have hy := hp.2 y (List.mem_of_getElem? hi)
    rw [hm]
    have hset : nsum (l.set i (y - (y - ((y.toNat ^^^ nsum l : Nat) : Int)))) = 0 := by
      rw [nsum_set _ hi, show y - (y - ((y.toNat ^^^ nsum l : Nat) : Int)) = ((y.toNat ^^^ nsum l : Nat) : Int) by omega, Int.toNat_natCast]
      apply Nat.eq_of_testBit_eq
      intro j
      simp only [Nat.testBit_xor, Nat.zero_testBit]
      cases (nsum l).testBit j <;> cases y.toNat.testBit j <;> rfl
    have := walk ((i : Int), y - ((y.toNat ^^^ nsum l : Nat) : Int), 0) (fun h => absurd h hz) (fun i' n k h1 _ _ _ h2 h3 => by
      have hii : i' = i := Int.ofNat.inj h2
      subst hii
      rw [hi] at h1
      cases h1
      simp only at h3
      rw [h3]; exact hset)
    simp only [Option.bind_some, hz, ne_eq, not_false_eq_true, decide_true, bne_self_eq_false, Bool.false_eq_true, if_false, beq_self_eq_true, bindR, Bool.not_true] at this ⊢
    rw [this]
    have hil : i < l.length := (List.getElem?_eq_some_iff.1 hi).1
    have c1 : decide ((i : Int) ≥ 0) = true := by simp
    have c2 : decide ((i : Int) < (l.length : Int)) = true := by simpa using hil
    have c3 : decide (y - ((y.toNat ^^^ nsum l : Nat) : Int) ≥ 1) = true := by simp; omega
    simp only [c1, c2, c3, if_true, idx_nat, hi, Option.bind_some]
    congr 1
    simp
    omega
end Go.Pu
