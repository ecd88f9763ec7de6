/- The plain law: as many people as somebody later, or more, have as many seats at the least; so many times all people change nothing. -/
import Derived.Test.YtilgigahabjbaaaWSeatsMoreModels
import Derived.Test.YtilgigahabjbaaaPuParts
import Derived.Test.YtilgigahabjbaaaPuGood
import Derived.Test.YtilgigahabjbaaaPuEq
set_option linter.all false
namespace Go.Pu
open Go.Fw Go.Mo
theorem div_more {p a : List Int} {w : Int} {h : Nat} (hw : 0 ≤ w) (hp : ∀ k, k < p.length → 0 ≤ nth p k) (d : Div p w h a) : ∀ i k, i < p.length → k < i → nth p i ≤ nth p k → nth a i ≤ nth a k := by
  induction d with
  | nil => intro i k hi hk _; rw [nth_replicate hi, nth_replicate (by omega)]; exact Int.le_refl _
  | @seat h a b d1 hb ih =>
    intro i k hi hk hle
    have hbl : b < a.length := by rw [d1.len]; exact hb.lt
    have := ih i k hi hk hle
    rw [nth_set hbl, nth_set hbl]
    by_cases hkb : k = b
    · subst hkb; rw [if_neg (by omega), if_pos rfl]; omega
    · rw [if_neg hkb]
      by_cases hib : i = b
      · subst hib
        rw [if_pos rfl]
        refine Classical.byContradiction fun hn => ?_
        have e : nth a k = nth a i := by omega
        have := hb.fst k hk
        rw [e] at this
        have hq : 0 ≤ w * nth a i + 1 := by have := Int.mul_nonneg hw (d1.val i hi).1; omega
        have := Int.mul_le_mul_of_nonneg_right hle hq
        omega
      · rw [if_neg hib]; exact this
theorem ham_more {p a : List Int} {h : Nat} {P : Nat → Bool} (hp : People p) (H : Ham p h a P) : ∀ i k, i < p.length → k < i → nth p i ≤ nth p k → nth a i ≤ nth a k := by
  intro i k hi hk hle
  have hkl : k < p.length := by omega
  rw [H.at_ i hi, H.at_ k hkl]
  have m : nth p i * (h : Int) ≤ nth p k * h := Int.mul_le_mul_of_nonneg_right hle (by omega)
  have q : quo p h i ≤ quo p h k := Int.ediv_le_ediv hp.pos m
  have b1 : 0 ≤ bi (P k) := by unfold bi; split <;> omega
  have b2 : bi (P i) ≤ 1 := by unfold bi; split <;> omega
  rcases Int.lt_or_eq_of_le q with q | q
  · omega
  · cases hPi : P i with
    | false => simp [bi]; unfold bi at b1; omega
    | true =>
      cases hPk : P k with
      | true => rw [q]; exact Int.le_refl _
      | false =>
        have o := H.ord i k hi hkl hPi hPk
        have r1 := (quo_rst hp h i).1
        have r2 := (quo_rst hp h k).1
        rw [q] at r1
        omega
theorem times_sum {p q : List Int} {c : Int} (hl : q.length = p.length) (h : ∀ k, k < p.length → nth q k = nth p k * c) : q.sum = p.sum * c := by
  rw [sum_sumN q, sum_sumN p, hl, Int.mul_comm, ← sumN_mul]
  exact sumN_congr fun k hk => by rw [h k hk, Int.mul_comm]
theorem best_times {p q a : List Int} {w c : Int} {b : Nat} (hc : 0 < c) (hl : q.length = p.length) (h : ∀ k, k < p.length → nth q k = nth p k * c) (B : Best p a w b) : Best q a w b := by
  have e : ∀ i j, i < p.length → nth q i * (w * nth a j + 1) = nth p i * (w * nth a j + 1) * c := fun i j hi => by rw [h i hi]; grind
  refine ⟨by rw [hl]; exact B.lt, fun i hi => ?_, fun i hi => ?_⟩
  · rw [hl] at hi
    rw [e i b hi, e b i B.lt]
    exact Int.mul_le_mul_of_nonneg_right (B.le i hi) (by omega)
  · have := B.lt
    rw [e i b (by omega), e b i B.lt]
    exact Int.mul_lt_mul_of_pos_right (B.fst i hi) hc
theorem div_times {p q a : List Int} {w c : Int} {h : Nat} (hc : 0 < c) (hl : q.length = p.length) (hq : ∀ k, k < p.length → nth q k = nth p k * c) (d : Div p w h a) : Div q w h a := by
  induction d with
  | nil => rw [← hl]; exact .nil
  | seat d1 hb ih => exact .seat ih (best_times hc hl hq hb)
theorem ham_one {p a c : List Int} {h : Int} {P Q : Nat → Bool} (hp : People p) (H : Ham p h a P) (K : Ham p h c Q) : a = c := by
  have hcount : sumN p.length (fun i => bi (P i)) = sumN p.length (fun i => bi (Q i)) := by
    have h1 := H.sum; have h2 := K.sum
    rw [sumN_add] at h1 h2; omega
  have sub : (∀ i, i < p.length → P i = true → Q i = true) ∨ (∀ i, i < p.length → Q i = true → P i = true) := by
    refine Classical.byContradiction fun hn => ?_
    have hn1 : ∃ i, i < p.length ∧ P i = true ∧ Q i = false := Classical.byContradiction fun hno => hn (.inl fun i hi hP => by
      cases hQ : Q i with | true => rfl | false => exact absurd ⟨i, hi, hP, hQ⟩ hno)
    have hn2 : ∃ i, i < p.length ∧ Q i = true ∧ P i = false := Classical.byContradiction fun hno => hn (.inr fun i hi hP => by
      cases hQ : P i with | true => rfl | false => exact absurd ⟨i, hi, hP, hQ⟩ hno)
    obtain ⟨i, hi, i1, i2⟩ := hn1
    obtain ⟨j, hj, j1, j2⟩ := hn2
    have := H.ord i j hi hj i1 j2
    have := K.ord j i hj hi j1 i2
    omega
  have eq : ∀ k, k < p.length → bi (P k) = bi (Q k) := by
    have gen : ∀ (P Q : Nat → Bool), sumN p.length (fun i => bi (P i)) = sumN p.length (fun i => bi (Q i)) → (∀ i, i < p.length → P i = true → Q i = true) → ∀ k, k < p.length → bi (P k) = bi (Q k) := by
      intro P Q hc hs k hk
      refine Classical.byContradiction fun hne => ?_
      have le : ∀ x, x < p.length → bi (P x) ≤ bi (Q x) := fun x hx => by
        cases hx' : P x with
        | false => unfold bi; simp; split <;> omega
        | true => rw [hs x hx hx']; exact Int.le_refl _
      have key : ∀ x, x < p.length → bi (P x) + (if x = k then 1 else 0) ≤ bi (Q x) := fun x hx => by
        have := le x hx
        by_cases hxk : x = k
        · subst hxk; rw [if_pos rfl]; omega
        · rw [if_neg hxk]; omega
      have := sumN_le key
      rw [sumN_add, sumN_single hk] at this
      omega
    rcases sub with s | s
    · exact gen P Q hcount s
    · intro k hk; exact (gen Q P hcount.symm s k hk).symm
  refine nth_ext (by rw [H.len, K.len]) fun k hk => ?_
  rw [H.len] at hk
  rw [H.at_ k hk, K.at_ k hk, eq k hk]
theorem ham_times {p q a : List Int} {c h : Int} {P : Nat → Bool} (hp : People p) (hc : 0 < c) (hl : q.length = p.length) (hq : ∀ k, k < p.length → nth q k = nth p k * c) (H : Ham q h a P) : Ham p h a P := by
  have hs := times_sum hl hq
  have e : ∀ i, i < p.length → nth q i * h = c * (nth p i * h) := fun i hi => by rw [hq i hi]; grind
  have e1 : ∀ i, i < p.length → quo q h i = quo p h i := fun i hi => by
    unfold quo; rw [e i hi, hs, Int.mul_comm p.sum c]; exact Int.mul_ediv_mul_of_pos _ _ hc
  have e2 : ∀ i, i < p.length → rst q h i = c * rst p h i := fun i hi => by
    unfold rst; rw [e i hi, hs, Int.mul_comm p.sum c]; exact Int.mul_emod_mul_of_pos _ _ hc
  refine ⟨by rw [H.len, hl], fun i hi => by rw [H.at_ i (by omega), e1 i hi], ?_, fun i k hi hk h1 h2 => ?_⟩
  · have := H.sum
    rw [hl] at this
    exact (sumN_congr fun x hx => by simp only [e1 x hx]).trans this
  · have := H.ord i k (by omega) (by omega) h1 h2
    rw [e2 i hi, e2 k hk] at this
    rcases this with h | ⟨h, h'⟩
    · exact .inl (Int.lt_of_mul_lt_mul_left h (by omega))
    · exact .inr ⟨Int.eq_of_mul_eq_mul_left (by omega) h, h'⟩
theorem SeatsMore (x0 : Int) (_ : (Lit.int .i64 x0).wf = true) (x1 : List Int) (_ : (∀ x ∈ x1, (Lit.int .i64 x).wf = true) ∧ x1.length ≤ maxLen) (x2 : Int) (_ : (Lit.int .i64 x2).wf = true) (x3 : Int) (_ : (Lit.int .i64 x3).wf = true) : pk_SeatsMore_m x0 x1 x2 x3 = some true := by
  obtain ⟨p, ep, hp, hp1⟩ := peopleOf_ok x1
  have n8 := hp.n8; have n1 := hp.n1
  have a0 := Int.emod_nonneg x2 (b := 101) (by decide)
  have a1 := Int.emod_lt_of_pos x2 (b := 101) (by decide)
  obtain ⟨h, hh⟩ : ∃ h : Nat, x2 % 101 = (h : Int) := ⟨(x2 % 101).toNat, by omega⟩
  obtain ⟨w, hw0, hw2, hw⟩ := one_within x0 3 (by decide) (by decide)
  rw [show ((3 : Nat) : Int) = 3 from rfl] at hw
  obtain ⟨c, hc0, hc2, hc⟩ := one_within x3 900 (by decide) (by decide)
  rw [show ((900 : Nat) : Int) = 900 from rfl] at hc
  have m : ∀ k, k < p.length → wmul (nth p k) (c : Int) = nth p k * c ∧ 0 ≤ nth p k * c ∧ nth p k * c ≤ 900000 := fun k hk => by
    have v := hp.val k hk; have v1 := hp1 k hk
    have h1 : 0 ≤ nth p k * (c : Int) := Int.mul_nonneg v.1 (by omega)
    have h2 : nth p k * (c : Int) ≤ 1000 * 900 := Int.mul_le_mul v1 (by omega) (by omega) (by omega)
    exact ⟨wmul_of (by omega) (by omega), h1, by omega⟩
  have shares : ∀ q : List Int, q.length = p.length → (∀ k, k < p.length → nth q k = nth p k * c) → ∃ a, seats_Share_m (w : Int) p (h : Int) = some (a, 0) ∧ seats_Share_m (w : Int) q (h : Int) = some (a, 0) ∧ a.length = p.length ∧ ∀ i k, i < p.length → k < i → nth p i ≤ nth p k → nth a i ≤ nth a k := by
    intro q hl hq
    have hs := times_sum hl hq
    have hQ : People q := ⟨by omega, by omega, fun k hk => by rw [hl] at hk; rw [hq k hk]; have := m k hk; omega, by rw [hs]; exact Int.mul_pos hp.pos (by omega)⟩
    have : w = 3 ∨ (1 ≤ w ∧ w ≤ 2) := by omega
    rcases this with rfl | hw'
    · obtain ⟨a, P, ea, H⟩ := parts_ok hp (h := h) (by omega)
      obtain ⟨b, Q, eb, K⟩ := parts_ok hQ (h := h) (by omega)
      obtain rfl := ham_one hp H (ham_times hp (by omega) hl hq K)
      exact ⟨a, ea, eb, H.len, ham_more hp H⟩
    · obtain ⟨a, ea, da⟩ := share_div hp (h := h) (by omega) (w := (w : Int)) (by omega) (by omega)
      obtain ⟨b, eb, db⟩ := share_div hQ (h := h) (by omega) (w := (w : Int)) (by omega) (by omega)
      obtain rfl := (div_times (by omega) hl hq da).one db
      exact ⟨a, ea, eb, da.len, div_more (by omega) (fun k hk => (hp.val k hk).1) da⟩
  apply Ok.eq
  unfold pk_SeatsMore_m
  rw [shares_t]
  simp only [Option.bind_some, Bool.not_true, Bool.false_eq_true, if_false, within_at x0 3 (by decide) (by decide), within_at x2 101 (by decide) (by decide), hh, hw, ep]
  simp only [ok_bind, ok_bindR]
  obtain ⟨a, ea, _, ha, hmono⟩ := shares (p.map (· * (c : Int))) (by simp) (fun k hk => nth_map hk)
  rw [ea, ok_some]
  refine ok_rangeL (fun (k : Nat) (l : List Int) => l.length = k ∧ ∀ j, j < k → nth l j = nth p j * c) ⟨rfl, by intro j hj; omega⟩ (fun k x l hk hI => ?_) fun q hq => ?_
  · obtain ⟨hx, hkl⟩ := nth_of hk
    subst hx
    obtain ⟨i1, i2⟩ := hI
    unfold pk_SeatsMore_b1
    rw [within_at x3 900 (by decide) (by decide)]
    simp only [ok_bind, ok_chk, ok_some, flok_nx, hc, (m k hkl).1]
    refine ⟨by simp; omega, by simp [i1], fun j hj => ?_⟩
    rw [nth_append]
    split
    · exact i2 j (by omega)
    · have : j = k := by omega
      subst this
      rw [i1, Nat.sub_self, nth_cons_zero]
  · obtain ⟨b, eb, eq, _, _⟩ := shares q hq.1 hq.2
    rw [ea] at eb
    cases eb
    simp only [flok_nx, ok_bind, eq, ok_some, good_at, equal_ok, ok_ite, ok_bindR, ha, List.all_cons, List.all_nil, Bool.and_self, beq_self_eq_true, bne_self_eq_false, Bool.not_true, decide_true, Bool.false_eq_true, false_implies, true_and, not_false_eq_true, true_implies]
    refine ok_rangeL (fun _ _ => True) trivial (fun i x s hi _ => ?_) fun s _ => by trivial
    obtain ⟨hx, hil⟩ := nth_of hi
    subst hx
    unfold pk_SeatsMore_b2
    simp only [ok_bind, ok_chk, ok_bindF, ok_some, Int.toNat_natCast]
    refine ⟨by omega, ok_rangeN (fun _ _ => True) trivial (fun k s hk _ => ?_) fun s _ => by trivial⟩
    have key := hmono i k hil hk
    unfold pk_SeatsMore_b3
    simp only [idx_nat, nth_at (show k < p.length by omega), nth_at (show k < a.length by omega), nth_at (show i < a.length by omega), Option.bind_some, ok_bindF, ok_ite, ok_some, flok_nx, flok_rt, decide_eq_true_eq]
    grind
end Go.Pu
