/- The plain law: a game of two piles is won just if their Grundy numbers differ. -/
import Derived.Test.YtbkginapdldffaaWPilesSumModels
import Derived.Test.YtbkginapdldffaaPuTable
import Derived.Test.YtbkginapdldffaaPuNims
import Derived.Test.YtbkginapdldffaaPuWithin
set_option linter.all false
namespace Go.Pu
open Go.Fw Go.Mo
/-- a square of nine by nine that reads as f -/
def Is (W : List (List Bool)) (f : Nat → Nat → Bool) : Prop := W.length = 9 ∧ ∀ a, a < 9 → ∃ r, W[a]? = some r ∧ r.length = 9 ∧ ∀ b, b < 9 → r[b]? = some (f a b)
def fupd (f : Nat → Nat → Bool) (a b : Nat) (v : Bool) : Nat → Nat → Bool := fun x y => if x = a ∧ y = b then v else f x y
theorem Is.get {W : List (List Bool)} {f : Nat → Nat → Bool} (h : Is W f) {a b : Int} (ha : 0 ≤ a) (ha9 : a < 9) (hb : 0 ≤ b) (hb9 : b < 9) {ρ : Type} (K : Bool → Option ρ) : ((idx W a).bind fun r => (idx r b).bind K) = K (f a.toNat b.toNat) := by
  obtain ⟨r, h1, h2, h3⟩ := h.2 a.toNat (by omega)
  rw [idx_at ha, h1, Option.bind_some, idx_at hb, h3 _ (by omega)]; rfl
theorem Is.set {W : List (List Bool)} {f : Nat → Nat → Bool} (h : Is W f) {a b : Nat} (ha : a < 9) (hb : b < 9) {r : List Bool} (hr : W[a]? = some r) (v : Bool) : Is (W.set a (r.set b v)) (fupd f a b v) := by
  refine ⟨by simpa using h.1, fun x hx => ?_⟩
  obtain ⟨r', h1, h2, h3⟩ := h.2 x hx
  by_cases hxa : x = a
  · subst hxa
    rw [hr] at h1; cases h1
    refine ⟨_, List.getElem?_set_self (by rw [h.1]; omega), by simpa using h2, fun y hy => ?_⟩
    by_cases hyb : y = b
    · subst hyb; rw [List.getElem?_set_self (by omega)]; simp [fupd]
    · rw [List.getElem?_set_ne (Ne.symm hyb), h3 y hy]; simp [fupd, hyb]
  · exact ⟨r', by rw [List.getElem?_set_ne (Ne.symm hxa)]; exact h1, h2, fun y hy => by rw [h3 y hy]; simp [fupd, hxa]⟩
/-- can one move to a lost pair with k? -/
def cnd (f : Nat → Nat → Bool) (a b : Nat) (k : Int) : Bool := (decide (k ≤ (a : Int)) && !f ((a : Int) - k).toNat b) || (decide (k ≤ (b : Int)) && !f a ((b : Int) - k).toNat)
theorem step_loop (a b : Nat) (ha : a < 9) (hb : b < 9) : ∀ (s : List Int) (i : Nat) (W : List (List Bool)) (f : Nat → Nat → Bool), (∀ k ∈ s, 1 ≤ k ∧ k ≤ 8) → Is W f →
    ∃ W', rangeL (γ := List (List Bool) × Int) (pk_PilesSum_b4 (a : Int) (b : Int)) s i W = some (.nx W') ∧ Is W' (fupd f a b (f a b || s.any (cnd f a b)))
  | [], i, W, f, _, h => ⟨W, rfl, by
    have : fupd f a b (f a b || [].any (cnd f a b)) = f := by
      funext x y; unfold fupd; split
      · rename_i h; rw [h.1, h.2]; simp
      · rfl
    rw [this]; exact h⟩
  | k :: s, i, W, f, hs, h => by
    have hk := hs k (by simp)
    have hs' : ∀ k ∈ s, 1 ≤ k ∧ k ≤ 8 := fun k hk => hs k (by simp [hk])
    obtain ⟨r, hr1, hr2, hr3⟩ := h.2 a ha
    have hbody : pk_PilesSum_b4 (a : Int) (b : Int) i k W = some (.nx (if cnd f a b k then W.set a (r.set b true) else W)) := by
      unfold pk_PilesSum_b4
      simp only [Int.toNat_natCast]
      have fin : ∀ c : Bool, (bindF (ρ := Bool) (β := List (List Bool)) (some (Fl.nx c)) fun x2260 => if x2260 = true then (idx W (a : Int)).bind fun y2291 => (idx y2291 (b : Int)).bind fun y2293 => some (Fl.nx (List.set W a (List.set y2291 b true))) else some (Fl.nx W)) = some (Fl.nx (if c then W.set a (r.set b true) else W)) := by
        intro c
        cases c
        · rfl
        · simp only [bindF, if_true, idx_nat, hr1, Option.bind_some, hr3 b hb]
      by_cases h1 : k ≤ (a : Int)
      · have hd : decide (k ≤ (a : Int)) = true := by simpa using h1
        rw [if_pos hd, wsub_of (by omega) (by omega)]
        rw [h.get (a := (a : Int) - k) (b := (b : Int)) (by omega) (by omega) (by omega) (by omega)]
        simp only [Int.toNat_natCast]
        rcases Bool.eq_false_or_eq_true (f ((a : Int) - k).toNat b) with hv | hv
        rotate_left
        · simp only [hv, Bool.not_false, if_true]
          rw [fin]
          simp [cnd, h1, hv]
        · simp only [hv, Bool.not_true, Bool.false_eq_true, if_false]
          by_cases h2 : k ≤ (b : Int)
          · have hd2 : decide (k ≤ (b : Int)) = true := by simpa using h2
            rw [if_pos hd2, wsub_of (by omega) (by omega), h.get (a := (a : Int)) (b := (b : Int) - k) (by omega) (by omega) (by omega) (by omega)]
            simp only [Int.toNat_natCast]
            rw [fin]
            simp [cnd, h1, hv, h2]
          · have hd2 : ¬ decide (k ≤ (b : Int)) = true := by simpa using h2
            rw [if_neg hd2, fin]
            simp [cnd, h1, hv, h2]
      · have hd : ¬ decide (k ≤ (a : Int)) = true := by simpa using h1
        rw [if_neg hd]
        by_cases h2 : k ≤ (b : Int)
        · have hd2 : decide (k ≤ (b : Int)) = true := by simpa using h2
          rw [if_pos hd2, wsub_of (by omega) (by omega), h.get (a := (a : Int)) (b := (b : Int) - k) (by omega) (by omega) (by omega) (by omega)]
          simp only [Int.toNat_natCast]
          rw [fin]
          simp [cnd, h1, h2]
        · have hd2 : ¬ decide (k ≤ (b : Int)) = true := by simpa using h2
          rw [if_neg hd2, fin]
          simp [cnd, h1, h2]
    have hnew : Is (if cnd f a b k then W.set a (r.set b true) else W) (fupd f a b (f a b || cnd f a b k)) := by
      cases hc : cnd f a b k with
      | true => simp only [if_true, Bool.or_true]; exact h.set ha hb hr1 true
      | false =>
        simp only [Bool.false_eq_true, if_false, Bool.or_false]
        have : fupd f a b (f a b) = f := by
          funext x y; unfold fupd; split
          · rename_i h; rw [h.1, h.2]
          · rfl
        rw [this]; exact h
    obtain ⟨W', e, h'⟩ := step_loop a b ha hb s (i + 1) _ _ hs' hnew
    refine ⟨W', by unfold rangeL; rw [hbody]; exact e, ?_⟩
    have hcnd : ∀ q ∈ s, cnd (fupd f a b (f a b || cnd f a b k)) a b q = cnd f a b q := fun q hq => by
      have := hs' q hq
      unfold cnd fupd
      by_cases q1 : q ≤ (a : Int)
      · have n1 : ¬ (((a : Int) - q).toNat = a ∧ b = b) := fun h => by have := h.1; omega
        rw [if_neg n1]
        by_cases q2 : q ≤ (b : Int)
        · have n2 : ¬ (a = a ∧ ((b : Int) - q).toNat = b) := fun h => by have := h.2; omega
          rw [if_neg n2]
        · simp [q2]
      · by_cases q2 : q ≤ (b : Int)
        · have n2 : ¬ (a = a ∧ ((b : Int) - q).toNat = b) := fun h => by have := h.2; omega
          rw [if_neg n2]; simp [q1]
        · simp [q1, q2]
    have hany : s.any (cnd (fupd f a b (f a b || cnd f a b k)) a b) = s.any (cnd f a b) := by
      rw [Bool.eq_iff_iff, List.any_eq_true, List.any_eq_true]
      constructor
      · rintro ⟨q, hq, hc⟩; exact ⟨q, hq, by rw [← hcnd q hq]; exact hc⟩
      · rintro ⟨q, hq, hc⟩; exact ⟨q, hq, by rw [hcnd q hq]; exact hc⟩
    rw [hany] at h'
    have hfe : fupd (fupd f a b (f a b || cnd f a b k)) a b (fupd f a b (f a b || cnd f a b k) a b || s.any (cnd f a b)) = fupd f a b (f a b || (k :: s).any (cnd f a b)) := by
      funext x y
      unfold fupd
      by_cases hxy : x = a ∧ y = b
      · simp [hxy, Bool.or_assoc]
      · simp [hxy]
    rw [hfe] at h'
    exact h'
/-- what is filled in up to the pair (a, b) -/
def upto (G : Nat → Nat) (a b : Nat) : Nat → Nat → Bool := fun x y => if x < a ∨ (x = a ∧ y < b) then decide (G x ≠ G y) else false
theorem upto_step {t s : List Int} {G : Nat → Nat} (hG : ∀ x, x < 9 → t[x]? = some ((G x : Nat) : Int) ∧ ¬ Reach t s x (G x : Int) ∧ ∀ y : Nat, y < G x → Reach t s x (y : Int)) (hs : ∀ k ∈ s, 1 ≤ k ∧ k ≤ 8) {a b : Nat} (ha : a < 9) (hb : b < 9) :
    fupd (upto G a b) a b (upto G a b a b || s.any (cnd (upto G a b) a b)) = upto G a (b + 1) := by
  have h0 : upto G a b a b = false := by unfold upto; rw [if_neg (by omega)]
  have hrow : ∀ k ∈ s, k ≤ (a : Int) → (upto G a b ((a : Int) - k).toNat b = decide (G ((a : Int) - k).toNat ≠ G b)) := fun k hk h => by
    have := hs k hk
    unfold upto; rw [if_pos (by omega)]
  have hcol : ∀ k ∈ s, k ≤ (b : Int) → (upto G a b a ((b : Int) - k).toNat = decide (G a ≠ G ((b : Int) - k).toNat)) := fun k hk h => by
    have := hs k hk
    unfold upto; rw [if_pos (by omega)]
  have key : s.any (cnd (upto G a b) a b) = decide (G a ≠ G b) := by
    rw [Bool.eq_iff_iff, List.any_eq_true, decide_eq_true_eq]
    constructor
    · rintro ⟨k, hk, hc⟩ hab
      unfold cnd at hc
      rw [Bool.or_eq_true, Bool.and_eq_true, Bool.and_eq_true, decide_eq_true_eq, decide_eq_true_eq] at hc
      have hk' := hs k hk
      rcases hc with ⟨h1, h2⟩ | ⟨h1, h2⟩
      · rw [hrow k hk h1] at h2
        have h3 : G ((a : Int) - k).toNat = G b := by simpa using h2
        refine (hG a ha).2.1 ⟨k, hk, h1, ?_⟩
        rw [(hG _ (by omega)).1, h3, hab]
      · rw [hcol k hk h1] at h2
        have h3 : G a = G ((b : Int) - k).toNat := by simpa using h2
        refine (hG b hb).2.1 ⟨k, hk, h1, ?_⟩
        rw [(hG _ (by omega)).1, ← h3, hab]
    · intro hab
      rcases Nat.lt_or_gt_of_ne hab with h | h
      · obtain ⟨k, hk, h1, h2⟩ := (hG b hb).2.2 (G a) h
        have hk' := hs k hk
        refine ⟨k, hk, ?_⟩
        unfold cnd
        rw [hcol k hk h1]
        rw [(hG _ (by omega)).1] at h2
        have h3 : G ((b : Int) - k).toNat = G a := Int.ofNat.inj (Option.some.inj h2)
        simp [h1, h3]
      · obtain ⟨k, hk, h1, h2⟩ := (hG a ha).2.2 (G b) h
        have hk' := hs k hk
        refine ⟨k, hk, ?_⟩
        unfold cnd
        rw [hrow k hk h1]
        rw [(hG _ (by omega)).1] at h2
        have h3 : G ((a : Int) - k).toNat = G b := Int.ofNat.inj (Option.some.inj h2)
        simp [h1, h3]
  rw [h0, key, Bool.false_or]
  funext x y
  unfold fupd upto
  by_cases hxy : x = a ∧ y = b
  · rw [if_pos hxy, if_pos (by omega), hxy.1, hxy.2]
  · rw [if_neg hxy]
    by_cases h1 : x < a ∨ (x = a ∧ y < b)
    · rw [if_pos h1, if_pos (by omega)]
    · rw [if_neg h1, if_neg (by omega)]
theorem upto_row {G : Nat → Nat} {a : Nat} {W : List (List Bool)} (h : Is W (upto G a 9)) : Is W (upto G (a + 1) 0) := by
  refine ⟨h.1, fun x hx => ?_⟩
  obtain ⟨r, h1, h2, h3⟩ := h.2 x hx
  refine ⟨r, h1, h2, fun y hy => ?_⟩
  rw [h3 y hy]
  unfold upto
  by_cases hh : x < a + 1 ∨ (x = a + 1 ∧ y < 0)
  · rw [if_pos hh, if_pos (by omega)]
  · rw [if_neg hh, if_neg (by omega)]
theorem PilesSum (x0 : Int) (_ : (Lit.int .i64 x0).wf = true) (x1 : Int) (_ : (Lit.int .i64 x1).wf = true) (x2 : List Int) (h2 : (∀ x ∈ x2, (Lit.int .i64 x).wf = true) ∧ x2.length ≤ maxLen) : pk_PilesSum_m x0 x1 x2 = some true := by
  unfold pk_PilesSum_m
  rw [nims_t]
  simp only [Option.bind_some, Bool.not_true, Bool.false_eq_true, if_false]
  rw [within_at x0 9 (by decide) (by decide), within_at x1 9 (by decide) (by decide)]
  simp only [Option.bind_some]
  rw [chk_t (by split <;> constructor <;> omega)]
  simp only [Option.bind_some, List.drop_zero]
  have hlen : (List.take (if (6 : Int) < (x2.length : Int) then (6 : Int) else (x2.length : Int)).toNat x2).length ≤ 6 := by
    rw [List.length_take]; split <;> omega
  generalize List.take (if (6 : Int) < (x2.length : Int) then (6 : Int) else (x2.length : Int)).toNat x2 = q at *
  obtain ⟨s, e, hs1, hs2⟩ := rangeL_inv (γ := Unit) (body := pk_PilesSum_b1) (fun i (s : List Int) => s.length = i ∧ ∀ x ∈ s, 1 ≤ x ∧ x ≤ 8) q 0 [] ⟨rfl, by simp⟩ (fun k x s hk hI => by
    have hk' : k < q.length := (List.getElem?_eq_some_iff.1 hk).1
    have m0 := Int.emod_nonneg x (b := 8) (by decide)
    have m1 := Int.emod_lt_of_pos x (b := 8) (by decide)
    unfold pk_PilesSum_b1
    rw [within_at x 8 (by decide) (by decide)]
    simp only [Option.bind_some]
    rw [chk_t (by simp; omega), wadd_of (by omega) (by omega)]
    refine ⟨_, rfl, by simp [hI.1], ?_⟩
    intro y hy
    rcases List.mem_append.1 hy with hy | hy
    · exact hI.2 y hy
    · simp at hy; subst hy; omega)
  rw [e]
  simp only [bindR]
  obtain ⟨t, et, ht1, ht2⟩ := table_ok (n := 8) (s := s) (by decide) (by decide) ⟨by omega, fun x hx => by have := hs2 x hx; omega⟩
  rw [et]
  have hG0 : ∀ x : Nat, ∃ g : Nat, x < 9 → t[x]? = some (g : Int) ∧ ¬ Reach t s x (g : Int) ∧ ∀ y : Nat, y < g → Reach t s x (y : Int) := fun x => by
    by_cases hx : x < 9
    · obtain ⟨g, g1, _, g3, g4⟩ := ht2 x (by simpa using hx)
      exact ⟨g, fun _ => ⟨g1, g3, g4⟩⟩
    · exact ⟨0, fun h => absurd h hx⟩
  obtain ⟨G, hG⟩ := Classical.axiomOfChoice hG0
  have ht9 : (((t.length : Nat) : Int) != 9) = false := by simp; omega
  simp only [Option.bind_some, bne_self_eq_false, Bool.false_eq_true, if_false, ht9]
  obtain ⟨W, eW, hW⟩ := loopM_up (γ := Unit) (body := pk_PilesSum_b2 s) (fun k W => Is W (upto G k 0)) 9 (fun a W ha hI => by
    unfold pk_PilesSum_b2
    simp only
    rw [if_pos (by simp; omega)]
    obtain ⟨W', e', h'⟩ := loopM_up (γ := List (List Bool) × Int) (body := pk_PilesSum_b3 (a : Int) s) (fun b W => Is W (upto G a b)) 9 (fun b W hb hI => by
      unfold pk_PilesSum_b3
      simp only
      rw [if_pos (by simp; omega)]
      obtain ⟨W', e', h'⟩ := step_loop a b ha hb s 0 W _ hs2 hI
      rw [e']
      simp only [bindF]
      rw [wadd_of (by omega) (by omega)]
      refine ⟨W', rfl, ?_⟩
      rw [upto_step hG hs2 ha hb] at h'
      exact h') (fun W _ => by
      unfold pk_PilesSum_b3
      simp only
      rw [if_neg (by decide)]) 9 0 W 1048576 (by omega) (by omega) hI
    refine ⟨W', ?_, upto_row h'⟩
    have e2 : loopM (γ := List (List Bool) × Int) (pk_PilesSum_b3 (a : Int) s) 1048576 (W, (0 : Int)) = some (.nx (W', ((9 : Nat) : Int))) := e'
    rw [e2]
    simp only [bindF]
    rw [wadd_of (by omega) (by omega)]
    rfl) (fun W _ => by
    unfold pk_PilesSum_b2
    simp only
    rw [if_neg (by decide)]) 9 0 (List.replicate 9 (List.replicate 9 false)) 1048576 (by omega) (by omega) (by
    refine ⟨by simp, fun a ha => ⟨List.replicate 9 false, by rw [List.getElem?_replicate, if_pos ha], by simp, fun b hb => ?_⟩⟩
    rw [List.getElem?_replicate, if_pos hb]
    unfold upto
    rw [if_neg (by omega)])
  have eW2 : loopM (γ := Unit) (pk_PilesSum_b2 s) 1048576 (List.replicate 9 (List.replicate 9 false), (0 : Int)) = some (.nx (W, ((9 : Nat) : Int))) := eW
  rw [eW2]
  simp only
  have a0 := Int.emod_nonneg x0 (b := 9) (by decide)
  have a1 := Int.emod_lt_of_pos x0 (b := 9) (by decide)
  have b0 := Int.emod_nonneg x1 (b := 9) (by decide)
  have b1 := Int.emod_lt_of_pos x1 (b := 9) (by decide)
  generalize x0 % 9 = a at *
  generalize x1 % 9 = b at *
  rw [hW.get a0 a1 b0 b1, idx_at a0, idx_at b0, (hG a.toNat (by omega)).1, (hG b.toNat (by omega)).1]
  simp only [Option.bind_some]
  unfold upto
  rw [if_pos (by omega)]
  congr 1
  by_cases hg : G a.toNat = G b.toNat
  · simp [hg]
  · have : ((G a.toNat : Nat) : Int) ≠ (G b.toNat : Int) := by omega
    simp [hg, this]
end Go.Pu
