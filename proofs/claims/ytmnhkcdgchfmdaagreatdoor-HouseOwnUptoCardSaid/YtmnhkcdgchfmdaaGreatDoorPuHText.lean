/- The plain law: a record's text reads back as it was written. -/
import Derived.Test.YtmnhkcdgchfmdaaGreatDoorWHouseOwnModels
import Derived.Test.YtmnhkcdgchfmdaaGreatDoorPuLedger
set_option linter.all false
namespace Go.Pu
open Go.Fw Go.Mo
def joinW : List (List UInt8) → List UInt8
  | [] => []
  | [w] => w
  | w :: v :: r => w ++ 32 :: joinW (v :: r)
theorem index_w (j : List UInt8) : ∀ w : List UInt8, (32 : UInt8) ∉ w → Lib.index (w ++ 32 :: j) [32] = (w.length : Int)
  | [], _ => by simp [Lib.index, List.isPrefixOf]
  | b :: w, h => by
    have hb : b ≠ 32 := fun e => h (by simp [e])
    have ih := index_w j w (fun e => h (by simp [e]))
    have : ([32] : List UInt8).isPrefixOf (b :: (w ++ 32 :: j)) = false := by simp [List.isPrefixOf, Ne.symm hb]
    rw [List.cons_append, Lib.index, ih, this, if_neg (by simp), if_neg (by rw [beq_iff_eq]; omega), List.length_cons]
    omega
theorem splitK_join : ∀ ws : List (List UInt8), ws ≠ [] → (∀ w ∈ ws, (32 : UInt8) ∉ w) → Lib.splitK [32] 0 (Lib.count (joinW ws) [32]) (joinW ws) = ws
  | [], h, _ => absurd rfl h
  | [w], _, h => by
    rw [joinW, Lib.count_one, List.count_eq_zero.2 (h w (by simp))]; rfl
  | w :: v :: r, _, h => by
    have hw := h w (by simp)
    have ih := splitK_join (v :: r) (by simp) (fun x hx => h x (List.mem_cons_of_mem _ hx))
    rw [Lib.count_one] at ih
    rw [joinW, Lib.count_one, List.count_append, List.count_eq_zero.2 hw, List.count_cons_self, Nat.zero_add, Lib.splitK, index_w _ _ hw, if_neg (by rw [beq_iff_eq]; omega), Int.toNat_natCast]
    rw [show (w ++ 32 :: joinW (v :: r)).take (w.length + 0) = w by simp, show (w ++ 32 :: joinW (v :: r)).drop (w.length + [(32 : UInt8)].length) = joinW (v :: r) by simp, ih]
theorem splitL_join {ws : List (List UInt8)} (h0 : ws ≠ []) (h : ∀ w ∈ ws, (32 : UInt8) ∉ w) : splitL (joinW ws) [32] = ws := by
  unfold splitL
  rw [Lib.splitB_data]; exact splitK_join ws h0 h
/-! ### numerals -/
theorem dig_val : ∀ d, d < 10 → Lib.digitVal (UInt8.ofNat (48 + d)) = some d := by decide
theorem dig_rng : ∀ d, d < 10 → 48 ≤ (UInt8.ofNat (48 + d)).toNat ∧ (UInt8.ofNat (48 + d)).toNat ≤ 57 := by decide
theorem dec_append (m : List UInt8) : ∀ (l : List UInt8) (a : Nat), Lib.decFrom a (l ++ m) = (Lib.decFrom a l).bind fun x => Lib.decFrom x m
  | [], a => rfl
  | b :: l, a => by
    rw [List.cons_append, Lib.decFrom, Lib.decFrom]
    cases Lib.digitVal b with
    | none => rfl
    | some d => exact dec_append m l _
theorem dec_digits (u : Nat) : Lib.decFrom 0 (Lib.decDigits u) = some u := by
  induction u using Nat.strongRecOn with
  | _ u ih =>
    rw [Lib.decDigits]
    by_cases h : u < 10
    · rw [dif_pos h, Lib.decFrom, dig_val u h]; simp [Lib.decFrom]
    · rw [dif_neg h, dec_append, ih (u / 10) (by omega), Option.bind_some, Lib.decFrom, dig_val _ (by omega)]
      simp [Lib.decFrom]; omega
theorem dec_rng (u : Nat) : ∀ b ∈ Lib.decDigits u, 48 ≤ b.toNat ∧ b.toNat ≤ 57 := by
  induction u using Nat.strongRecOn with
  | _ u ih =>
    rw [Lib.decDigits]
    by_cases h : u < 10
    · rw [dif_pos h]; intro b hb; rw [List.mem_singleton] at hb; subst hb; exact dig_rng u h
    · rw [dif_neg h]; intro b hb
      rcases List.mem_append.1 hb with hb | hb
      · exact ih (u / 10) (by omega) b hb
      · rw [List.mem_singleton] at hb; subst hb; exact dig_rng _ (by omega)
theorem dec_len : ∀ (k u : Nat), u < 10 ^ (k + 1) → (Lib.decDigits u).length ≤ k + 1
  | 0, u, h => by rw [Lib.decDigits, dif_pos (by omega)]; simp
  | k + 1, u, h => by
    rw [Lib.decDigits]
    by_cases h' : u < 10
    · rw [dif_pos h']; simp
    · rw [dif_neg h', List.length_append]
      have : (10 : Nat) ^ (k + 1 + 1) = 10 ^ (k + 1) * 10 := Nat.pow_succ ..
      have := dec_len k (u / 10) (by omega)
      simp only [List.length_cons, List.length_nil]; omega
theorem dec_pos (u : Nat) : 1 ≤ (Lib.decDigits u).length := by
  rw [Lib.decDigits]
  by_cases h : u < 10
  · rw [dif_pos h]; simp
  · rw [dif_neg h]; simp
theorem itoa_at {n : Int} (h0 : 0 ≤ n) : Lib.itoa n = Lib.decDigits n.toNat := by unfold Lib.itoa; rw [if_neg (by omega)]
theorem itoa_len {n : Int} (h0 : 0 ≤ n) (h1 : n ≤ 1000000) : (Lib.itoa n).length ≤ 7 := by rw [itoa_at h0]; exact dec_len 6 _ (by omega)
theorem itoa_len3 {n : Int} (h0 : 0 ≤ n) (h1 : n ≤ 100) : (Lib.itoa n).length ≤ 3 := by rw [itoa_at h0]; exact dec_len 2 _ (by omega)
theorem itoa_no {n : Int} (h0 : 0 ≤ n) : (32 : UInt8) ∉ Lib.itoa n := by
  rw [itoa_at h0]; intro h
  have := (dec_rng _ _ h).1
  exact absurd this (by decide)
theorem atoi_itoa {n : Int} (h0 : 0 ≤ n) : Lib.atoi (Lib.itoa n) = some n := by
  rw [itoa_at h0]
  have h1 := dec_pos n.toNat; have h2 := dec_rng n.toNat; have h3 := dec_digits n.toNat
  cases hl : Lib.decDigits n.toNat with
  | nil => rw [hl] at h1; simp at h1
  | cons b r =>
    rw [hl] at h2 h3
    have hb := (h2 b (by simp)).1
    rw [Lib.atoi, if_neg, if_neg, Lib.decNat, if_neg (by simp), h3, Option.map_some, Int.toNat_of_nonneg h0]
    · intro e; rw [beq_iff_eq] at e; subst e; exact absurd hb (by decide)
    · intro e; rw [beq_iff_eq] at e; subst e; exact absurd hb (by decide)
theorem atoi_m {n : Int} (h0 : 0 ≤ n) (h1 : n ≤ 1000000) : strconv_Atoi_m (Lib.itoa n) = some n := by
  have := itoa_len h0 h1
  unfold strconv_Atoi_m
  rw [chk_t (by omega), Option.bind_some, atoi_itoa h0]
theorem itoa_m {n : Int} (h0 : 0 ≤ n) (h1 : n ≤ 1000000) : strconv_Itoa_m n = some (Lib.itoa n) := by
  unfold strconv_Itoa_m; rw [chk_t (by omega), Option.bind_some]
/-! ### names -/
theorem nm_facts {s : List UInt8} (hs : Short s) (h : nm s = true) : s.length ≤ 8 ∧ 1 ≤ s.length ∧ ∀ b ∈ s, 97 ≤ b.toNat ∧ b.toNat ≤ 122 := by
  have hn := named_ok hs
  rw [h] at hn
  have hl : (intsOf s).length = s.length := by unfold intsOf; simp
  have : Ok (ledger_named_m s) (fun r => r = true → s.length ≤ 8 ∧ 1 ≤ s.length ∧ ∀ i, i < s.length → 97 ≤ nth (intsOf s) i ∧ nth (intsOf s) i ≤ 122) := by
    unfold ledger_named_m
    rw [chk_t (show s.length ≤ 9223372036854775807 from hs), Option.bind_some, ok_bindR]
    refine ok_rangeL (fun k _ => ∀ i, i < k → 97 ≤ nth (intsOf s) i ∧ nth (intsOf s) i ≤ 122) (fun i hi => by omega) (fun k a t hk hI => ?_) fun t ht => ?_
    · obtain ⟨ha, hkl⟩ := nth_of hk
      unfold ledger_named_b1
      simp only [ok_bindF, ok_ite, ok_some, flok_nx, flok_rt, decide_eq_true_eq]
      refine ⟨fun h1 => ⟨fun _ => fun e => by simp at e, fun e => absurd trivial e⟩, fun h1 => ⟨fun _ e => by simp at e, fun h2 i hi => ?_⟩⟩
      by_cases e : i = k
      · subst e; rw [ha]; omega
      · exact hI i (by omega)
    · rw [hl] at ht
      simp only [ok_bindR, ok_ite, ok_some, flok_nx, flok_rt, decide_eq_true_eq]
      exact ⟨fun h1 h2 => ⟨by omega, by omega, ht⟩, fun h1 h2 => by simp at h2⟩
  obtain ⟨b, e, hb⟩ := this
  rw [hn] at e; cases e
  obtain ⟨h1, h2, h3⟩ := hb rfl
  refine ⟨h1, h2, fun b hb => ?_⟩
  obtain ⟨i, hi, rfl⟩ := mem_nth hb
  have := h3 i hi
  rw [show nth (intsOf s) i = ((nth s i).toNat : Int) by unfold intsOf; exact nth_map hi] at this
  omega
theorem nm_no {s : List UInt8} (hs : Short s) (h : nm s = true) : (32 : UInt8) ∉ s := fun hm => by
  have := ((nm_facts hs h).2.2 _ hm).1
  exact absurd this (by decide)
end Go.Pu
