/- What each should have of a game: the share. -/
import Derived.Test.YtfekdillbgblkaaWGamesOwnModels
import Derived.Test.YtfekdillbgblkaaPuLC
import Derived.Test.YtfekdillbgblkaaPuSets
import Derived.Test.YtfekdillbgblkaaPuWithin
set_option linter.all false
namespace Go.Pu
open Go.Fw Go.Mo
/-- a game of n, with bounds -/
structure Game (n : Nat) (l : List Int) (v : Nat → Int) : Prop where
  n1 : 1 ≤ n
  n6 : n ≤ 6
  vec : Vec (2 ^ n) l v
  val : ∀ s, s < 2 ^ n → -1000000 ≤ v s ∧ v s ≤ 1000000
  zero : v 0 = 0
theorem worth_check {n : Nat} {l : List Int} {v : Nat → Int} (h : Game n l v) : worth_Check_m (n : Int) l = some 0 := by
  apply Ok.eq
  have h1 := h.n1; have h6 := h.n6; have hl := h.vec.len; have hp := pow_le n (by omega); have hp0 := pow_pos' n
  unfold worth_Check_m
  rw [pow_ok n (by omega), hl]
  simp only [ok_bindR, ok_ite, ok_some, ok_bind, ok_chk, flok_nx, decide_eq_true_eq, bne_self_eq_false, Bool.false_eq_true, false_implies, true_and, not_false_eq_true, true_implies]
  refine ⟨fun _ => by omega, fun _ => ⟨fun _ => by omega, fun _ => ⟨by omega, ?_⟩⟩⟩
  refine ok_rangeL (fun _ _ => True) trivial (fun k x s hk _ => ?_) fun s _ => ?_
  · obtain ⟨hx, hkl⟩ := nth_of hk
    have := h.val k (by omega)
    rw [← h.vec.at_ k (by omega), hx] at this
    unfold worth_Check_b1
    simp only [ok_ite, ok_some, ok_bindF, flok_nx, flok_rt, decide_eq_true_eq]
    grind
  · have e0 : idx l (0 : Int) = some 0 := by rw [show (0 : Int) = ((0 : Nat) : Int) from rfl, idx_nat, h.vec.at? hp0, h.zero]; rfl
    simp [e0, ok_bind, ok_ite, ok_some, flok_nx]
theorem size_ok : ∀ s : Nat, s < 64 → worth_size_m (s : Int) = some (pc s : Int) := by decide +kernel
theorem fact_ok : ∀ k : Nat, k < 7 → worth_factorial_m (k : Int) = some (fct k) := by decide +kernel
theorem fct_bound : ∀ n : Nat, n < 7 → ∀ k : Nat, k < n → 0 ≤ fct k * fct (n - 1 - k) ∧ fct k * fct (n - 1 - k) ≤ 120 ∧ 0 ≤ fct k ∧ fct k ≤ 120 ∧ 0 ≤ fct (n - 1 - k) ∧ fct (n - 1 - k) ≤ 120 := by decide +kernel
/-- how much i brings to s, so often -/
def part (n : Nat) (i s : Nat) : LC := if has s i then [] else [(fct (pc s) * fct (n - 1 - pc s), s + 2 ^ i), (-(fct (pc s) * fct (n - 1 - pc s)), s)]
def shareLC (n : Nat) (i : Nat) : LC := LC.all (part n i) (2 ^ n)
theorem part_bound {n i s : Nat} {v : Nat → Int} (hn : n < 7) (hi : i < n) (hs : s < 2 ^ n) (hv : ∀ s, s < 2 ^ n → -1000000 ≤ v s ∧ v s ≤ 1000000) : -240000000 ≤ LC.ev (part n i s) v ∧ LC.ev (part n i s) v ≤ 240000000 := by
  unfold part
  cases hb : has s i with
  | true => simp [LC.ev]
  | false =>
    have hlt := with_lt n hn s hs i hi hb
    have hp := pc_lt n hn s hs i hi hb
    have fb := fct_bound n hn (pc s) hp
    have v1 := hv _ hlt
    have v2 := hv _ hs
    simp only [Bool.false_eq_true, if_false, LC.ev]
    generalize fct (pc s) * fct (n - 1 - pc s) = c at *
    have e : c * v (s + 2 ^ i) + (-c * v s + 0) = c * (v (s + 2 ^ i) - v s) := by grind
    rw [e]
    have hd : -2000000 ≤ v (s + 2 ^ i) - v s ∧ v (s + 2 ^ i) - v s ≤ 2000000 := by omega
    generalize v (s + 2 ^ i) - v s = d at *
    have u1 : c * d ≤ c * 2000000 := Int.mul_le_mul_of_nonneg_left hd.2 fb.1
    have u2 : c * (-2000000) ≤ c * d := Int.mul_le_mul_of_nonneg_left hd.1 fb.1
    omega
theorem parts_bound {n i : Nat} {v : Nat → Int} (hn : n < 7) (hi : i < n) (hv : ∀ s, s < 2 ^ n → -1000000 ≤ v s ∧ v s ≤ 1000000) : ∀ k : Nat, k ≤ 2 ^ n → -240000000 * (k : Int) ≤ sumN k (fun s => LC.ev (part n i s) v) ∧ sumN k (fun s => LC.ev (part n i s) v) ≤ 240000000 * k := by
  intro k
  induction k with
  | zero => simp [sumN]
  | succ k ih =>
    intro hk
    have := ih (by omega)
    have := part_bound hn hi (show k < 2 ^ n by omega) hv
    simp only [sumN]; omega
theorem worth_share {n : Nat} {l : List Int} {v : Nat → Int} (h : Game n l v) : ∃ a, worth_Share_m (n : Int) l = some (a, 0) ∧ Vec n a (fun i => LC.ev (shareLC n i) v) := by
  have : Ok (worth_Share_m (n : Int) l) (fun r => r.2 = 0 ∧ Vec n r.1 (fun i => LC.ev (shareLC n i) v)) := by
    have h1 := h.n1; have h6 := h.n6; have hl := h.vec.len; have hp := pow_le n (by omega); have hp0 := pow_pos' n
    unfold worth_Share_m
    rw [worth_check h]
    simp only [ok_bindR, ok_ite, ok_some, ok_bind, ok_chk, Int.toNat_natCast, bne_self_eq_false, Bool.false_eq_true, false_implies, true_and, not_false_eq_true, true_implies]
    refine ⟨by omega, ok_rangeL (fun s a => Vec n a (fun i => sumN s (fun t => LC.ev (part n i t) v))) (Vec.zero.congr fun x _ => rfl) (fun s y a hs hI => ?_) fun a ha => ?_⟩
    · obtain ⟨hy, hsl⟩ := nth_of hs
      rw [hl] at hsl
      rw [h.vec.at_ s hsl] at hy
      subst hy
      unfold worth_Share_b1
      simp only [ok_bind, ok_chk, ok_bindF, ok_some, Int.toNat_natCast]
      refine ⟨by omega, ok_rangeN (fun j a => Vec n a (fun i => sumN s (fun t => LC.ev (part n i t) v) + if i < j then LC.ev (part n i s) v else 0)) (hI.congr fun x _ => by simp) (fun i a hi hI => ?_) fun a ha => flok_nx.2 (ha.congr fun x hx => by simp [sumN, hx])⟩
      have hb := bit_ok s (by omega) i (by omega)
      have sb := parts_bound (by omega) hi h.val s (by omega)
      have pb := part_bound (by omega) hi hsl h.val
      have ai : a[i]? = some (sumN s (fun t => LC.ev (part n i t) v)) := by rw [hI.at? hi, if_neg (by omega), Int.add_zero]
      have next : ∀ x, x = sumN s (fun t => LC.ev (part n i t) v) + LC.ev (part n i s) v → Vec n (a.set i x) (fun q => sumN s (fun t => LC.ev (part n q t) v) + if q < i + 1 then LC.ev (part n q s) v else 0) := fun x hx => (hI.set hi x).congr fun q hq => by
        by_cases hqi : q = i
        · subst hqi; rw [if_pos rfl, if_pos (by omega), hx]
        · rw [if_neg hqi]
          by_cases hlt : q < i
          · rw [if_pos hlt, if_pos (by omega)]
          · rw [if_neg hlt, if_neg (by omega)]
      unfold worth_Share_b2
      rw [hb]
      cases hbb : has s i with
      | true =>
        simp only [ok_bind, ok_chk, ok_ite, ok_some, flok_nx, if_true]
        refine ⟨by omega, fun hh => by simp at hh, fun _ => hI.congr fun q hq => ?_⟩
        by_cases hqi : q = i
        · subst hqi
          have : LC.ev (part n q s) v = 0 := by unfold part; rw [hbb]; rfl
          rw [if_neg (by omega), if_pos (by omega), this]
        · by_cases hlt : q < i
          · rw [if_pos hlt, if_pos (by omega)]
          · rw [if_neg hlt, if_neg (by omega)]
      | false =>
        have hlt := with_lt n (by omega) s hsl i hi hbb
        have hpc := pc_lt n (by omega) s hsl i hi hbb
        have fb := fct_bound n (by omega) (pc s) hpc
        have v1 := h.val _ hlt
        have v2 := h.val _ hsl
        have hor := or_ok s (by omega) i (by omega) hbb
        have e1 : wsub (wsub (n : Int) 1) (pc s : Int) = ((n - 1 - pc s : Nat) : Int) := by rw [wsub_of (x := (n : Int)) (by omega) (by omega), wsub_of (by omega) (by omega)]; omega
        have hev : LC.ev (part n i s) v = fct (pc s) * fct (n - 1 - pc s) * (v (s + 2 ^ i) - v s) := by
          unfold part; rw [hbb]; simp only [Bool.false_eq_true, if_false, LC.ev]; grind
        rw [hev] at pb
        simp only [Bool.false_eq_true, if_false, beq_self_eq_true, if_true, idx_nat, ai, size_ok s (by omega), fact_ok (pc s) (by omega), e1, fact_ok (n - 1 - pc s) (by omega), hor, h.vec.at? hlt, Option.bind_some, ok_bind, ok_chk, ok_some, flok_nx]
        rw [wmul_of (x := fct (pc s)) (by omega) (by omega), wsub_of (by omega) (by omega), wmul_of (by omega) (by omega), wadd_of (by omega) (by omega)]
        exact ⟨by omega, by omega, next _ (by rw [hev])⟩
    · refine ha.congr fun i hi => ?_
      rw [hl]; unfold shareLC; rw [LC.ev_all]
  obtain ⟨⟨a, e⟩, h1, h2, h3⟩ := this
  simp only at h2 h3
  subst h2
  exact ⟨a, h1, h3⟩
theorem worths_t : pk_worths_m = some true := by decide +kernel
/-- a game of any numbers -/
theorem gameOf_ok {n : Nat} (h1 : 1 ≤ n) (h6 : n ≤ 6) (l : List Int) (hl : l.length ≤ maxLen) : ∃ g v, pk_GameOf_m (n : Int) l = some g ∧ Game n g v ∧ ∀ s, s < 2 ^ n → -10 ≤ v s ∧ v s ≤ 30 := by
  have : Ok (pk_GameOf_m (n : Int) l) (fun g => g.length = 2 ^ n ∧ nth g 0 = 0 ∧ ∀ s, s < 2 ^ n → -10 ≤ nth g s ∧ nth g s ≤ 30) := by
    have hp := pow_le n (by omega); have hp0 := pow_pos' n
    unfold pk_GameOf_m
    rw [pow_ok n (by omega)]
    simp only [ok_bindR, ok_some, ok_bind, ok_chk, Int.toNat_natCast]
    refine ⟨by omega, by omega, ?_⟩
    let I : List Int × Int → Prop := fun p => 1 ≤ p.2 ∧ p.2 ≤ ((2 ^ n : Nat) : Int) ∧ p.1.length = 2 ^ n ∧ nth p.1 0 = 0 ∧ ∀ s, s < 2 ^ n → -10 ≤ nth p.1 s ∧ nth p.1 s ≤ 30
    refine ok_loopM I (fun p => 2 ^ n - p.2.toNat) (fun p hp => ?_) _ _ (show I (List.replicate (2 ^ n) 0, 1) from ⟨by simp, by simp only; omega, by simp, nth_replicate hp0, fun s hs => by rw [nth_replicate hs]; omega⟩) (by simp only; omega)
    obtain ⟨g, i⟩ := p
    obtain ⟨i1, i2, i3, i4, i5⟩ := hp
    simp only at i1 i2 i3 i4 i5
    obtain ⟨j, rfl⟩ : ∃ j : Nat, i = j := ⟨i.toNat, by omega⟩
    unfold pk_GameOf_b1
    simp only [ok_ite, ok_some, flok_nx, flok_br, decide_eq_true_eq, i3]
    refine ⟨fun hlt => ?_, fun hge => ⟨trivial, i4, i5⟩⟩
    rw [wsub_of (by omega) (by omega), wadd_of (x := (j : Int)) (by omega) (by omega)]
    refine ⟨fun hin => ?_, fun _ => ⟨⟨by simp only; omega, by simp only; omega, i3, i4, i5⟩, by omega⟩⟩
    rw [show (j : Int) - 1 = ((j - 1 : Nat) : Int) by omega] at hin ⊢
    rw [idx_nat, nth_at (by omega), Option.bind_some, within_at _ 41 (by decide) (by decide), Option.bind_some, idx_nat, nth_at (by omega), Option.bind_some, ok_some, flok_nx]
    have a0 := Int.emod_nonneg (nth l (j - 1)) (b := 41) (by decide)
    have a1 := Int.emod_lt_of_pos (nth l (j - 1)) (b := 41) (by decide)
    rw [wsub_of (by omega) (by omega)]
    refine ⟨⟨by simp only; omega, by simp only; omega, by simpa using i3, ?_, fun s hs => ?_⟩, by simp only; omega⟩
    · simp only [Int.toNat_natCast]
      rw [nth_set (by omega), if_neg (by omega)]; exact i4
    · simp only [Int.toNat_natCast]
      rw [nth_set (by omega)]
      split
      · omega
      · exact i5 s hs
  obtain ⟨g, e, g1, g2, g3⟩ := this
  exact ⟨g, nth g, e, ⟨h1, h6, Vec.self g1, fun s hs => by have := g3 s hs; omega, g2⟩, g3⟩
end Go.Pu
