/- Seats by parts, and what is left by the greatest rests. -/
import Derived.Test.YtilgigahabjbaaaWSeatsMoreModels
import Derived.Test.YtilgigahabjbaaaPuSeats
set_option linter.all false
namespace Go.Pu
open Go.Fw Go.Mo
theorem sum_sumN (l : List Int) : l.sum = sumN l.length (nth l) := by
  have : ∀ k, k ≤ l.length → (l.take k).sum = sumN k (nth l) := by
    intro k
    induction k with
    | zero => intro _; simp [sumN]
    | succ k ih => intro hk; rw [sum_take_succ (by omega), ih (by omega)]; rfl
  have := this l.length (Nat.le_refl _)
  rwa [List.take_length] at this
def bi (b : Bool) : Int := if b then 1 else 0
def quo (p : List Int) (h : Int) (i : Nat) : Int := nth p i * h / p.sum
def rst (p : List Int) (h : Int) (i : Nat) : Int := nth p i * h % p.sum
structure Ham (p : List Int) (h : Int) (a : List Int) (P : Nat → Bool) : Prop where
  len : a.length = p.length
  at_ : ∀ i, i < p.length → nth a i = quo p h i + bi (P i)
  sum : sumN p.length (fun i => quo p h i + bi (P i)) = h
  ord : ∀ i k, i < p.length → k < p.length → P i = true → P k = false → rst p h k < rst p h i ∨ (rst p h k = rst p h i ∧ i < k)
theorem quo_rst {p : List Int} (hp : People p) (h : Int) (i : Nat) : p.sum * quo p h i + rst p h i = nth p i * h ∧ 0 ≤ rst p h i ∧ rst p h i < p.sum := by
  have := hp.pos
  exact ⟨by have := Int.mul_ediv_add_emod (nth p i * h) p.sum; unfold quo rst; omega, Int.emod_nonneg _ (by omega), Int.emod_lt_of_pos _ this⟩
theorem quo_sum {p : List Int} (hp : People p) (h : Int) : p.sum * (h - sumN p.length (quo p h)) = sumN p.length (rst p h) := by
  have e1 : sumN p.length (fun i => nth p i * h) = p.sum * h := by
    rw [sum_sumN p, Int.mul_comm, ← sumN_mul]
    exact sumN_congr fun x _ => Int.mul_comm _ _
  have e2 : sumN p.length (fun i => nth p i * h) = p.sum * sumN p.length (quo p h) + sumN p.length (rst p h) := by
    rw [← sumN_mul, ← sumN_add]
    exact sumN_congr fun x _ => (quo_rst hp h x).1.symm
  rw [Int.mul_sub]; omega
theorem sumN_lt {n : Nat} {f g : Nat → Int} (hn : 0 < n) (h : ∀ x, x < n → f x < g x) : sumN n f < sumN n g := by
  induction n with
  | zero => omega
  | succ n ih =>
    simp only [sumN]
    have h1 := h n (by omega)
    by_cases h0 : n = 0
    · subst h0; simp [sumN]; omega
    · have := ih (by omega) fun x hx => h x (by omega); omega
theorem sumN_nn {n : Nat} {f : Nat → Int} (h : ∀ x, x < n → 0 ≤ f x) : 0 ≤ sumN n f := by
  have := sumN_le h; rw [sumN_zero] at this; exact this
theorem left_bound {p : List Int} (hp : People p) (h : Int) : 0 ≤ h - sumN p.length (quo p h) ∧ h - sumN p.length (quo p h) < p.length := by
  have e := quo_sum hp h
  have a := sumN_nn (n := p.length) (f := rst p h) fun x _ => (quo_rst hp h x).2.1
  have b := sumN_lt (n := p.length) (f := rst p h) (g := fun _ => p.sum) hp.n1 fun x _ => (quo_rst hp h x).2.2
  rw [sumN_const, Int.mul_comm] at b
  have hpos := hp.pos
  constructor
  · refine Classical.byContradiction fun hn => ?_
    have := Int.mul_neg_of_pos_of_neg hpos (show h - sumN p.length (quo p h) < 0 by omega)
    omega
  · refine Int.lt_of_mul_lt_mul_left (a := p.sum) ?_ (by omega)
    omega
theorem all_true {n : Nat} {P : Nat → Bool} (h : ∀ i, i < n → P i = true) : sumN n (fun i => bi (P i)) = n := by
  rw [sumN_congr (g := fun _ => 1) (fun i hi => by rw [h i hi]; rfl), sumN_const]; omega
theorem parts_ok {p : List Int} (hp : People p) {h : Nat} (hh : h ≤ 100) : ∃ a P, seats_Share_m 3 p (h : Int) = some (a, 0) ∧ Ham p h a P := by
  have : Ok (seats_Share_m 3 p (h : Int)) (fun r => r.2 = 0 ∧ ∃ P, Ham p h r.1 P) := by
    have n1 := hp.n1; have n8 := hp.n8; have hpos := hp.pos
    unfold seats_Share_m
    rw [seats_check hp (by omega) (by omega)]
    simp [ok_bindR, ok_ite, ok_some, ok_bind, ok_chk, flok_nx]
    have sb := psum_bound hp.val
    refine ok_rangeL (s := (0 : Int)) (fun (k : Nat) (s : Int) => s = (p.take k).sum) (by simp) (fun k x s hk hs => ?_) fun s hs => ?_
    · obtain ⟨hx, hkl⟩ := nth_of hk
      have b1 := sb k (by omega)
      have b2 := sb (k + 1) (by omega)
      rw [sum_take_succ hkl] at b2
      unfold seats_Share_b1
      simp only [ok_some, flok_nx]
      rw [hs, sum_take_succ hkl, ← hx, wadd_of (by omega) (by omega)]
    · rw [List.take_length] at hs
      subst hs
      have sb8 := sb p.length (Nat.le_refl _)
      rw [List.take_length] at sb8
      refine ⟨by omega, ?_⟩
      have qb : ∀ i, i < p.length → 0 ≤ quo p h i ∧ quo p h i ≤ 100 := fun i hi => by
        have v := hp.val i hi
        refine ⟨Int.ediv_nonneg (Int.mul_nonneg v.1 (by omega)) (by omega), ?_⟩
        have hle : nth p i ≤ p.sum := by
          have e1 := sum_sumN p
          have e2 : sumN p.length (fun x => if x = i then nth p i else 0) ≤ sumN p.length (nth p) := sumN_le fun x hx => by
            split
            · rename_i e; subst e; exact Int.le_refl _
            · exact (hp.val x hx).1
          rw [sumN_single hi] at e2; omega
        have : nth p i * (h : Int) ≤ p.sum * 100 := Int.mul_le_mul hle (by omega) (by omega) (by omega)
        have := Int.ediv_le_ediv hpos this
        rw [Int.mul_ediv_cancel_left _ (by omega)] at this
        exact this
      refine ok_rangeL (fun (k : Nat) (s : List Int × List Int × Int) => s.1.length = p.length ∧ s.2.1.length = p.length ∧ (∀ i, i < p.length → nth s.1 i = if i < k then quo p h i else 0) ∧ (∀ i, i < k → nth s.2.1 i = rst p h i) ∧ s.2.2 = h - sumN k (quo p h)) ⟨by simp, by simp, fun i hi => by rw [nth_replicate hi]; simp, by intro i hi; omega, by simp [sumN]⟩ (fun k x s hk hs => ?_) fun s hs => ?_
      · obtain ⟨hx, hkl⟩ := nth_of hk
        subst hx
        obtain ⟨a, r, left⟩ := s
        obtain ⟨s1, s2, s3, s4, s5⟩ := hs
        simp only at s1 s2 s3 s4 s5
        have v := hp.val k hkl
        have h1 : 0 ≤ nth p k * (h : Int) := Int.mul_nonneg v.1 (by omega)
        have h2 : nth p k * (h : Int) ≤ 1000000 * 100 := Int.mul_le_mul v.2 (by omega) (by omega) (by omega)
        have q1 := qb k hkl
        have sq : ∀ j, j ≤ p.length → 0 ≤ sumN j (quo p h) ∧ sumN j (quo p h) ≤ 100 * j := by
          intro j
          induction j with
          | zero => simp [sumN]
          | succ j ih => intro hj; have := ih (by omega); have := qb j (by omega); simp only [sumN]; omega
        have sqk := sq k (by omega)
        have e1 : IntKind.i64.wrap ((wmul (nth p k) (h : Int)).tdiv p.sum) = quo p h k := by
          rw [wmul_of (by omega) (by omega), Int.tdiv_eq_ediv_of_nonneg h1, IntKind.wrap_i64]
          show _ = quo p h k
          unfold quo at q1 ⊢
          omega
        have e2 : (wmul (nth p k) (h : Int)).tmod p.sum = rst p h k := by
          rw [wmul_of (by omega) (by omega), Int.tmod_eq_emod_of_nonneg h1]; rfl
        unfold seats_Share_b2
        simp only [idx_nat, nth_at (show k < a.length by omega), nth_at (show k < r.length by omega), Option.bind_some, ok_bind, ok_chk, ok_some, flok_nx, e1, e2]
        have e3 : (a.set k (quo p h k))[k]? = some (quo p h k) := List.getElem?_set_self (by omega)
        simp only [e3, ok_some, flok_nx]
        rw [s5, wsub_of (by omega) (by omega)]
        refine ⟨by omega, by omega, by simpa using s1, by simpa using s2, fun i hi => ?_, fun i hi => ?_, by simp only [sumN]; omega⟩
        · rw [nth_set (by omega)]
          by_cases hik : i = k
          · subst hik; rw [if_pos rfl, if_pos (by omega)]
          · rw [if_neg hik, s3 i hi]
            by_cases hlt : i < k
            · rw [if_pos hlt, if_pos (by omega)]
            · rw [if_neg hlt, if_neg (by omega)]
        · rw [nth_set (by omega)]
          by_cases hik : i = k
          · subst hik; rw [if_pos rfl]
          · rw [if_neg hik]; exact s4 i (by omega)
      · obtain ⟨a0, r0, left⟩ := s
        obtain ⟨s1, s2, s3, s4, s5⟩ := hs
        simp only at s1 s2 s3 s4 s5
        have lb := left_bound hp h
        subst s5
        simp only [flok_nx]
        refine ⟨by omega, ?_⟩
        let I : Nat → List Int × List Int → Prop := fun j s => s.1.length = p.length ∧ s.2.length = p.length ∧ ∃ P : Nat → Bool, (∀ i, i < p.length → nth s.1 i = quo p h i + bi (P i)) ∧ (∀ i, i < p.length → nth s.2 i = if P i then -1 else rst p h i) ∧ sumN p.length (fun i => bi (P i)) = j ∧ ∀ i k, i < p.length → k < p.length → P i = true → P k = false → rst p h k < rst p h i ∨ (rst p h k = rst p h i ∧ i < k)
        refine ok_rangeN I ⟨s1, s2, fun _ => false, fun i hi => by rw [s3 i hi, if_pos hi]; simp [bi], fun i hi => by rw [s4 i hi]; simp, by simp [bi, sumN_zero], by intro i k _ _ h; cases h⟩ (fun j s hj hs => ?_) fun s hs => ?_
        · obtain ⟨a, r⟩ := s
          obtain ⟨t1, t2, P, t3, t4, t5, t6⟩ := hs
          simp only at t1 t2 t3 t4
          unfold seats_Share_b3
          simp only [ok_bindF]
          refine ok_rangeN (s := (0 : Int)) (fun (k : Nat) (b : Int) => 0 ≤ b ∧ b < p.length ∧ (∀ i, i < k → nth r i ≤ nth r b.toNat) ∧ (∀ i : Nat, (i : Int) < b → nth r i < nth r b.toNat)) ⟨by omega, by omega, by intro i hi; omega, by intro i hi; omega⟩ (fun k b hk hb => ?_) fun b hb => ?_
          · obtain ⟨b0, b1, b2, b3⟩ := hb
            obtain ⟨b, rfl⟩ : ∃ c : Nat, b = c := ⟨b.toNat, by omega⟩
            rw [Int.toNat_natCast] at b2 b3
            unfold seats_Share_b4
            simp only [idx_nat, nth_at hk, nth_at (show b < r.length by omega), Option.bind_some, ok_ite, ok_some, flok_nx, decide_eq_true_eq, Int.toNat_natCast]
            refine ⟨fun hgt => ⟨by omega, by omega, fun i hi => ?_, fun i hi => ?_⟩, fun hle => ⟨by omega, by omega, fun i hi => ?_, fun i hi => b3 i hi⟩⟩
            · by_cases hik : i = k
              · subst hik; exact Int.le_refl _
              · have := b2 i (by omega); omega
            · have := b2 i (by omega); omega
            · by_cases hik : i = k
              · subst hik; omega
              · exact b2 i (by omega)
          · obtain ⟨b0, b1, b2, b3⟩ := hb
            obtain ⟨b, rfl⟩ : ∃ c : Nat, b = c := ⟨b.toNat, by omega⟩
            rw [Int.toNat_natCast] at b2 b3
            have hbl : b < p.length := by omega
            have hPb : P b = false := by
              cases hc : P b with
              | false => rfl
              | true =>
                exfalso
                have hall : ∀ i, i < p.length → P i = true := fun i hi => by
                  cases hi' : P i with
                  | true => rfl
                  | false =>
                    have g1 := b2 i (by omega)
                    rw [t4 i hi, t4 b hbl, hc, hi'] at g1
                    have := (quo_rst hp h i).2.1
                    simp at g1; omega
                have := all_true hall
                omega
            have rb := t4 b hbl
            rw [hPb] at rb
            simp only [Bool.false_eq_true, if_false] at rb
            have q1 := qb b hbl
            have ab := t3 b hbl
            rw [hPb] at ab
            simp only [bi, Bool.false_eq_true, if_false, Int.add_zero] at ab
            simp only [idx_nat, nth_at (show b < a.length by omega), nth_at (show b < r.length by omega), Option.bind_some, ok_some, flok_nx, Int.toNat_natCast]
            rw [wadd_of (by omega) (by omega)]
            refine ⟨by simpa using t1, by simpa using t2, fun i => if i = b then true else P i, fun i hi => ?_, fun i hi => ?_, ?_, fun i k hi hk h1 h2 => ?_⟩
            · rw [nth_set (by omega)]
              by_cases hib : i = b
              · subst hib; simp [bi, ab]
              · simp only [hib, if_false]; exact t3 i hi
            · rw [nth_set (by omega)]
              by_cases hib : i = b
              · subst hib; simp
              · simp only [hib, if_false]; exact t4 i hi
            · have : sumN p.length (fun i => bi (if i = b then true else P i)) = sumN p.length (fun i => bi (P i) + if i = b then 1 else 0) := sumN_congr fun i _ => by
                by_cases hib : i = b
                · subst hib; simp [bi, hPb]
                · simp [hib]
              rw [this, sumN_add, sumN_single hbl, t5]; omega
            · have hkb : k ≠ b := fun e => by subst e; simp at h2
              have hPk : P k = false := by simpa [hkb] using h2
              by_cases hib : i = b
              · subst hib
                have rk := t4 k hk
                rw [hPk] at rk
                simp only [Bool.false_eq_true, if_false] at rk
                rcases Nat.lt_or_ge k i with hlt | hge
                · have := b3 k (by omega); omega
                · have := b2 k (by omega)
                  rcases Int.lt_or_eq_of_le this with g | g
                  · left; omega
                  · right; omega
              · exact t6 i k hi hk (by simpa [hib] using h1) hPk
        · obtain ⟨t1, t2, P, t3, t4, t5, t6⟩ := hs
          refine ⟨P, t1, t3, ?_, t6⟩
          rw [sumN_add, t5]; omega
  obtain ⟨⟨a, e⟩, h1, h2, P, h3⟩ := this
  simp only at h2 h3
  subst h2
  exact ⟨a, P, h1, h3⟩
end Go.Pu
