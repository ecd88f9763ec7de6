/- Round games: what is there of them, and that nobody leaves the whole. -/
import Derived.Test.YtlglnacpabmjnaaWWorthRoundModels
import Derived.Test.YtlglnacpabmjnaaPuRows
set_option linter.all false
namespace Go.Pu
open Go.Fw Go.Mo
theorem and_ok : ∀ s : Nat, s < 32 → ∀ a : Nat, a < 32 → bits .and .i64 (s : Int) (a : Int) = ((s &&& a : Nat) : Int) := by decide +kernel
theorem or2_ok : ∀ s : Nat, s < 32 → ∀ a : Nat, a < 32 → bits .or .i64 (s : Int) (a : Int) = ((s ||| a : Nat) : Int) := by decide +kernel
theorem and_lt : ∀ n : Nat, n < 6 → ∀ s : Nat, s < 2 ^ n → ∀ a : Nat, a < 2 ^ n → s &&& a < 2 ^ n := by decide +kernel
theorem or_lt : ∀ n : Nat, n < 6 → ∀ s : Nat, s < 2 ^ n → ∀ a : Nat, a < 2 ^ n → s ||| a < 2 ^ n := by decide +kernel
def Cvx (n : Nat) (v : Nat → Int) : Prop := ∀ s, s < 2 ^ n → ∀ t, t < 2 ^ n → v s + v t ≤ v (s ||| t) + v (s &&& t)
def un (a s : Nat) : Int := if s &&& a = a then 1 else 0
theorem un_cvx : ∀ a : Nat, a < 16 → ∀ s : Nat, s < 16 → ∀ t : Nat, t < 16 → un a s + un a t ≤ un a (s ||| t) + un a (s &&& t) := by decide +kernel
theorem un_zero : ∀ a : Nat, a < 16 → 1 ≤ a → un a 0 = 0 := by decide +kernel
theorem un_lo (a s : Nat) : 0 ≤ un a s ∧ un a s ≤ 1 := by unfold un; split <;> omega
def roundV (l : List Int) (n : Nat) (m : Nat) (s : Nat) : Int := sumN m (fun j => (1 + (j : Int) % 5) * un (1 + (nth l j % ((2 ^ n : Nat) - 1 : Int)).toNat) s)
theorem roundV_bound (l : List Int) (n s : Nat) : ∀ m : Nat, 0 ≤ roundV l n m s ∧ roundV l n m s ≤ 5 * m := by
  intro m
  induction m with
  | zero => simp [roundV, sumN]
  | succ m ih =>
    unfold roundV at ih ⊢
    simp only [sumN]
    have := un_lo (1 + (nth l m % ((2 ^ n : Nat) - 1 : Int)).toNat) s
    have hm : 0 ≤ (m : Int) % 5 ∧ (m : Int) % 5 ≤ 4 := by omega
    generalize un (1 + (nth l m % ((2 ^ n : Nat) - 1 : Int)).toNat) s = u at *
    rcases (show u = 0 ∨ u = 1 by omega) with e | e
    · subst e; simp only [Int.mul_zero]; omega
    · subst e; simp only [Int.mul_one]; omega
theorem roundOf_ok {n : Nat} (h1 : 1 ≤ n) (h4 : n ≤ 4) (l : List Int) (hl : l.length ≤ 30) : ∃ g, pk_roundOf_m (n : Int) l = some g ∧ Game n g (roundV l n l.length) ∧ Cvx n (roundV l n l.length) := by
  have hpl := pow_le n (by omega); have hp0 := pow_pos' n
  have hp2 : 2 ≤ 2 ^ n ∧ 2 ^ n ≤ 16 := ⟨Nat.pow_le_pow_right (n := 2) (by omega) h1, Nat.pow_le_pow_right (n := 2) (by omega) h4⟩
  have amod : ∀ j : Nat, 0 ≤ nth l j % ((2 ^ n : Nat) - 1 : Int) ∧ nth l j % ((2 ^ n : Nat) - 1 : Int) < ((2 ^ n : Nat) - 1 : Int) := fun j => ⟨Int.emod_nonneg _ (by omega), Int.emod_lt_of_pos _ (by omega)⟩
  have main : Ok (pk_roundOf_m (n : Int) l) (fun g => Vec (2 ^ n) g (roundV l n l.length)) := by
    unfold pk_roundOf_m
    rw [pow_ok n (by omega)]
    simp only [ok_bind, ok_chk, ok_bindR, ok_some, Int.toNat_natCast, List.length_replicate]
    refine ⟨by omega, by omega, ok_rangeN (fun s g => Vec (2 ^ n) g (fun t => if t < s then roundV l n l.length t else 0)) (Vec.zero.congr fun x _ => by simp) (fun s g hs hI => ?_) fun g hg => hg.congr fun t ht => by rw [if_pos ht]⟩
    unfold pk_roundOf_b1
    simp only [ok_bindF, ok_some]
    refine ok_rangeL (fun k g => Vec (2 ^ n) g (fun t => if t < s then roundV l n l.length t else if t = s then roundV l n k s else 0)) (hI.congr fun t ht => ?_) (fun k y g hk hI => ?_) fun g hg => flok_nx.2 (hg.congr fun t ht => ?_)
    · by_cases c : t < s
      · rw [if_pos c, if_pos c]
      · rw [if_neg c, if_neg c]; split <;> rfl
    · obtain ⟨hy, hkl⟩ := nth_of hk
      subst hy
      have am := amod k
      unfold pk_roundOf_b2
      rw [hI.len, wsub_of (by omega) (by omega), within_at _ _ (by omega) (by omega), Option.bind_some]
      have ha : wadd 1 (nth l k % ((2 ^ n : Nat) - 1 : Int)) = ((1 + (nth l k % ((2 ^ n : Nat) - 1 : Int)).toNat : Nat) : Int) := by rw [wadd_of (by omega) (by omega)]; omega
      rw [ha, and_ok s (by omega) _ (by omega)]
      have hrb := roundV_bound l n s k
      have hst : roundV l n (k + 1) s = roundV l n k s + (1 + (k : Int) % 5) * un (1 + (nth l k % ((2 ^ n : Nat) - 1 : Int)).toNat) s := rfl
      have hun : un (1 + (nth l k % ((2 ^ n : Nat) - 1 : Int)).toNat) s = if s &&& (1 + (nth l k % ((2 ^ n : Nat) - 1 : Int)).toNat) = 1 + (nth l k % ((2 ^ n : Nat) - 1 : Int)).toNat then 1 else 0 := rfl
      rw [hun] at hst
      generalize 1 + (nth l k % ((2 ^ n : Nat) - 1 : Int)).toNat = a at *
      have gs : g[s]? = some (roundV l n k s) := by rw [hI.at? hs, if_neg (by omega), if_pos rfl]
      have h5 : Int.tmod (k : Int) 5 = (k : Int) % 5 := Int.tmod_eq_emod_of_nonneg (by omega)
      simp only [ok_ite, beq_iff_eq, idx_nat, gs, Option.bind_some, h5, ok_bind, ok_chk, ok_some, flok_nx, Int.natCast_inj]
      have hm : 0 ≤ (k : Int) % 5 ∧ (k : Int) % 5 ≤ 4 := by omega
      refine ⟨fun hc => ⟨by omega, ?_⟩, fun hc => ?_⟩
      · rw [if_pos hc, Int.mul_one] at hst
        rw [wadd_of (x := (1 : Int)) (by omega) (by omega), wadd_of (by omega) (by omega), ← hst]
        refine (hI.set hs _).congr fun t ht => ?_
        by_cases e : t = s
        · subst e; rw [if_pos rfl, if_neg (by omega), if_pos rfl]
        · rw [if_neg e, if_neg e]; split <;> rfl
      · rw [if_neg hc, Int.mul_zero, Int.add_zero] at hst
        rw [hst]; exact hI
    · by_cases c : t < s
      · rw [if_pos c, if_pos (by omega)]
      · rw [if_neg c]
        by_cases e : t = s
        · subst e; rw [if_pos rfl, if_pos (by omega)]
        · rw [if_neg e, if_neg (by omega)]
  obtain ⟨g, e, hg⟩ := main
  refine ⟨g, e, ⟨h1, by omega, hg, fun s hs => ?_, ?_⟩, fun s hs t ht => ?_⟩
  · have := roundV_bound l n s l.length; omega
  · unfold roundV
    rw [sumN_congr (g := fun _ => 0) fun j hj => by
      have := amod j
      rw [un_zero _ (by omega) (by omega), Int.mul_zero], sumN_zero]
  · unfold roundV
    rw [← sumN_add, ← sumN_add]
    refine sumN_le fun j hj => ?_
    have := amod j
    have hc := un_cvx (1 + (nth l j % ((2 ^ n : Nat) - 1 : Int)).toNat) (by omega) s (by omega) t (by omega)
    have hm : 0 ≤ 1 + (j : Int) % 5 := by omega
    rw [← Int.mul_add, ← Int.mul_add]
    exact Int.mul_le_mul_of_nonneg_left hc hm
/-- what those in s bring -/
def inLC (n s : Nat) (p : List Int) : LC := LC.all (fun i => if has s i then rowLC p i else []) n
theorem inLC_ev (n s : Nat) (p : List Int) (v : Nat → Int) : LC.ev (inLC n s p) v = inSum n s (fun i => LC.ev (rowLC p i) v) := by
  unfold inLC inSum
  rw [LC.ev_all]
  exact sumN_congr fun i _ => by split <;> rfl
/-- the round steps of a row, within s -/
def stepLC (s : Nat) (p : List Int) (k : Nat) : LC := if has s (at_ p k) then [(1, setTo p (k + 1)), (1, s &&& setTo p k), (-1, s &&& setTo p (k + 1)), (-1, setTo p k)] else []
def coreGood (n : Nat) (p : List Int) : Bool := ((List.range (2 ^ n)).all fun s => LC.same (2 ^ n) (inLC n s p ++ [(-1, s)]) (LC.all (stepLC s p) n ++ [(-1, 0)]) && ((List.range n).all fun k => !has s (at_ p k) || (decide ((s &&& setTo p (k + 1)) ||| setTo p k = setTo p (k + 1)) && decide ((s &&& setTo p (k + 1)) &&& setTo p k = s &&& setTo p k)))) && LC.same (2 ^ n) (inLC n (2 ^ n - 1) p) [(1, 2 ^ n - 1), (-1, 0)]
theorem coresGood : ∀ n : Nat, n < 5 → (allRows n).all (coreGood n) = true := by decide +kernel
theorem row_core {n : Nat} (hn : n < 5) {p : List Int} (hp : p ∈ allRows n) {v : Nat → Int} (hc : Cvx n v) (h0 : v 0 = 0) : (∀ s, s < 2 ^ n → v s ≤ inSum n s (fun i => LC.ev (rowLC p i) v)) ∧ inSum n (2 ^ n - 1) (fun i => LC.ev (rowLC p i) v) = v (2 ^ n - 1) := by
  have hg := List.all_eq_true.1 (coresGood n hn) p hp
  have g := good_of (by omega) hp
  simp only [coreGood, Bool.and_eq_true, List.all_eq_true, List.mem_range, Bool.or_eq_true, Bool.not_eq_true', decide_eq_true_eq] at hg
  obtain ⟨h1, h2⟩ := hg
  refine ⟨fun s hs => ?_, ?_⟩
  · obtain ⟨e, hk⟩ := h1 s hs
    have := LC.same_ev e v
    rw [LC.ev_append, LC.ev_append, inLC_ev] at this
    have hpos : 0 ≤ LC.ev (LC.all (stepLC s p) n) v := by
      rw [LC.ev_all]
      have : sumN n (fun _ => 0) ≤ sumN n (fun k => LC.ev (stepLC s p k) v) := sumN_le fun k hkn => by
        unfold stepLC
        by_cases hh : has s (at_ p k) = true
        · rw [if_pos hh]
          rcases hk k hkn with h | ⟨e1, e2⟩
          · rw [h] at hh; cases hh
          · have := hc (s &&& setTo p (k + 1)) (and_lt n (by omega) s hs _ (g.lt' k hkn)) (setTo p k) (g.lt k hkn)
            rw [e1, e2] at this
            simp only [LC.ev]; omega
        · rw [if_neg hh]; simp [LC.ev]
      rwa [sumN_zero] at this
    simp only [LC.ev, h0] at this
    omega
  · have := LC.same_ev h2 v
    rw [inLC_ev] at this
    simp only [LC.ev, h0] at this
    omega
end Go.Pu
