/- Seats by parts, and what is left by the greatest rests. -/
import Derived.Test.YtfekdillbgblkaaWListsOwnModels
import Derived.Test.YtfekdillbgblkaaPuJListsOwn1
set_option linter.all false
namespace Go.Pu
open Go.Fw Go.Mo
theorem sum_sumN (l : List Int) : l.sum = sumN l.length (nth l) := by
  have : ∀ k, k ≤ l.length → (l.take k).sum = sumN k (nth l) := by
    intro k
    induction k with
    | zero => intro _; simp [sumN]
    | succ k ih => intro hk; rw [sum_take_succ (by omega), ih (by omega)]; rfl
  have := this l.length (Nat.le_refl _)
  rwa [List.take_length] at this
def bi (b : Bool) : Int := if b then 1 else 0
def quo (p : List Int) (h : Int) (i : Nat) : Int := nth p i * h / p.sum
def rst (p : List Int) (h : Int) (i : Nat) : Int := nth p i * h % p.sum
structure Ham (p : List Int) (h : Int) (a : List Int) (P : Nat → Bool) : Prop where
  len : a.length = p.length
  at_ : ∀ i, i < p.length → nth a i = quo p h i + bi (P i)
  sum : sumN p.length (fun i => quo p h i + bi (P i)) = h
  ord : ∀ i k, i < p.length → k < p.length → P i = true → P k = false → rst p h k < rst p h i ∨ (rst p h k = rst p h i ∧ i < k)
theorem quo_rst {p : List Int} (hp : People p) (h : Int) (i : Nat) : p.sum * quo p h i + rst p h i = nth p i * h ∧ 0 ≤ rst p h i ∧ rst p h i < p.sum := by
  have := hp.pos
  exact ⟨by have := Int.mul_ediv_add_emod (nth p i * h) p.sum; unfold quo rst; omega, Int.emod_nonneg _ (by omega), Int.emod_lt_of_pos _ this⟩
theorem quo_sum {p : List Int} (hp : People p) (h : Int) : p.sum * (h - sumN p.length (quo p h)) = sumN p.length (rst p h) := by
  have e1 : sumN p.length (fun i => nth p i * h) = p.sum * h := by
    rw [sum_sumN p, Int.mul_comm, ← sumN_mul]
    exact sumN_congr fun x _ => Int.mul_comm _ _
  have e2 : sumN p.length (fun i => nth p i * h) = p.sum * sumN p.length (quo p h) + sumN p.length (rst p h) := by
    rw [← sumN_mul, ← sumN_add]
    exact sumN_congr fun x _ => (quo_rst hp h x).1.symm
  rw [Int.mul_sub]; omega
theorem sumN_lt {n : Nat} {f g : Nat → Int} (hn : 0 < n) (h : ∀ x, x < n → f x < g x) : sumN n f < sumN n g := by
  induction n with
  | zero => omega
  | succ n ih =>
    simp only [sumN]
    have h1 := h n (by omega)
    by_cases h0 : n = 0
    · subst h0; simp [sumN]; omega
    · have := ih (by omega) fun x hx => h x (by omega); omega
theorem sumN_nn {n : Nat} {f : Nat → Int} (h : ∀ x, x < n → 0 ≤ f x) : 0 ≤ sumN n f := by
  have := sumN_le h; rw [sumN_zero] at this; exact this
theorem left_bound {p : List Int} (hp : People p) (h : Int) : 0 ≤ h - sumN p.length (quo p h) ∧ h - sumN p.length (quo p h) < p.length := by
  have e := quo_sum hp h
  have a := sumN_nn (n := p.length) (f := rst p h) fun x _ => (quo_rst hp h x).2.1
  have b := sumN_lt (n := p.length) (f := rst p h) (g := fun _ => p.sum) hp.n1 fun x _ => (quo_rst hp h x).2.2
  rw [sumN_const, Int.mul_comm] at b
  have hpos := hp.pos
  constructor
  · refine Classical.byContradiction fun hn => ?_
    have := Int.mul_neg_of_pos_of_neg hpos (show h - sumN p.length (quo p h) < 0 by omega)
    omega
  · refine Int.lt_of_mul_lt_mul_left (a := p.sum) ?_ (by omega)
    omega
theorem all_true {n : Nat} {P : Nat → Bool} (h : ∀ i, i < n → P i = true) : sumN n (fun i => bi (P i)) = n := by
  rw [sumN_congr (g := fun _ => 1) (fun i hi => by rw [h i hi]; rfl), sumN_const]; omega
theorem parts_ok {p : List Int} (hp : People p) {h : Nat} (hh : h ≤ 100) : ∃ a P, seats_Share_m 3 p (h : Int) = some (a, 0) ∧ Ham p h a P := by
  have : Ok (seats_Share_m 3 p (h : Int)) (fun r => r.2 = 0 ∧ ∃ P, Ham p h r.1 P) := by
    have n1 := hp.n1; have n8 := hp.n8; have hpos := hp.pos
    unfold seats_Share_m
    rw [seats_check hp (by omega) (by omega)]
    simp [ok_bindR, ok_ite, ok_some, ok_bind, ok_chk, flok_nx]
    have sb := psum_bound hp.val
    refine ok_rangeL (s := (0 : Int)) (fun (k : Nat) (s : Int) => s = (p.take k).sum) (by simp) (fun k x s hk hs => ?_) fun s hs => ?_
    · obtain ⟨hx, hkl⟩ := nth_of hk
      have b1 := sb k (by omega)
      have b2 := sb (k + 1) (by omega)
      rw [sum_take_succ hkl] at b2
      unfold seats_Share_b1
      simp only [ok_some, flok_nx]
      rw [hs, sum_take_succ hkl, ← hx, wadd_of (by omega) (by omega)]
    · rw [List.take_length] at hs
      subst hs
      have sb8 := sb p.length (Nat.le_refl _)
      rw [List.take_length] at sb8
      refine ⟨by omega, ?_⟩
      have qb : ∀ i, i < p.length → 0 ≤ quo p h i ∧ quo p h i ≤ 100 := fun i hi => by
        have v := hp.val i hi
        refine ⟨Int.ediv_nonneg (Int.mul_nonneg v.1 (by omega)) (by omega), ?_⟩
        have hle : nth p i ≤ p.sum := by
          have e1 := sum_sumN p
          have e2 : sumN p.length (fun x => if x = i then nth p i else 0) ≤ sumN p.length (nth p) := sumN_le fun x hx => by
            split
            · rename_i e; subst e; exact Int.le_refl _
            · exact (hp.val x hx).1
          rw [sumN_single hi] at e2; omega
        have : nth p i * (h : Int) ≤ p.sum * 100 := Int.mul_le_mul hle (by omega) (by omega) (by omega)
        have := Int.ediv_le_ediv hpos this
        rw [Int.mul_ediv_cancel_left _ (by omega)] at this
        exact this
      refine ok_rangeL (fun (k : Nat) (s : List Int × List Int × Int) => s.1.length = p.length ∧ s.2.1.length = p.length ∧ (∀ i, i < p.length → nth s.1 i = if i < k then quo p h i else 0) ∧ (∀ i, i < k → nth s.2.1 i = rst p h i) ∧ s.2.2 = h - sumN k (quo p h)) ⟨by simp, by simp, fun i hi => by rw [nth_replicate hi]; simp, by intro i hi; omega, by simp [sumN]⟩ (fun k x s hk hs => ?_) fun s hs => ?_
      · obtain ⟨hx, hkl⟩ := nth_of hk
        subst hx
        obtain ⟨a, r, left⟩ := s
        obtain ⟨s1, s2, s3, s4, s5⟩ := hs
        simp only at s1 s2 s3 s4 s5
        have v := hp.val k hkl
        have h1 : 0 ≤ nth p k * (h : Int) := Int.mul_nonneg v.1 (by omega)
        have h2 : nth p k * (h : Int) ≤ 1000000 * 100 := Int.mul_le_mul v.2 (by omega) (by omega) (by omega)
        have q1 := qb k hkl
        have sq : ∀ j, j ≤ p.length → 0 ≤ sumN j (quo p h) ∧ sumN j (quo p h) ≤ 100 * j := by
          intro j
          induction j with
          | zero => simp [sumN]
          | succ j ih => intro hj; have := ih (by omega); have := qb j (by omega); simp only [sumN]; omega
        have sqk := sq k (by omega)
        have e1 : IntKind.i64.wrap ((wmul (nth p k) (h : Int)).tdiv p.sum) = quo p h k := by
          rw [wmul_of (by omega) (by omega), Int.tdiv_eq_ediv_of_nonneg h1, IntKind.wrap_i64]
          show _ = quo p h k
          unfold quo at q1 ⊢
          omega
        have e2 : (wmul (nth p k) (h : Int)).tmod p.sum = rst p h k := by
          rw [wmul_of (by omega) (by omega), Int.tmod_eq_emod_of_nonneg h1]; rfl
        unfold seats_Share_b2
        simp only [idx_nat, nth_at (show k < a.length by omega), nth_at (show k < r.length by omega), Option.bind_some, ok_bind, ok_chk, ok_some, flok_nx, e1, e2]
        have e3 : (a.set k (quo p h k))[k]? = some (quo p h k) := List.getElem?_set_self (by omega)
        simp only [e3, ok_some, flok_nx]
        rw [s5, wsub_of (by omega) (by omega)]
        refine ⟨by omega, by omega, by simpa using s1, by simpa using s2, fun i hi => ?_, fun i hi => ?_, by simp only [sumN]; omega⟩
        · rw [nth_set (by omega)]
          by_cases hik : i = k
          · subst hik; rw [if_pos rfl, if_pos (by omega)]
          · rw [if_neg hik, s3 i hi]
            by_cases hlt : i < k
            · rw [if_pos hlt, if_pos (by omega)]
            · rw [if_neg hlt, if_neg (by omega)]
        · rw [nth_set (by omega)]
          by_cases hik : i = k
          · subst hik; rw [if_pos rfl]
          · rw [if_neg hik]; exact s4 i (by omega)
      · obtain ⟨a0, r0, left⟩ := s
        obtain ⟨s1, s2, s3, s4, s5⟩ := hs
        simp only at s1 s2 s3 s4 s5
        have lb := left_bound hp h
        subst s5
        simp only [flok_nx]
        refine ⟨by omega, ?_⟩
        let I : Nat → List Int × List Int → Prop := fun j s => s.1.length = p.length ∧ s.2.length = p.length ∧ ∃ P : Nat → Bool, (∀ i, i < p.length → nth s.1 i = quo p h i + bi (P i)) ∧ (∀ i, i < p.length → nth s.2 i = if P i then -1 else rst p h i) ∧ sumN p.length (fun i => bi (P i)) = j ∧ ∀ i k, i < p.length → k < p.length → P i = true → P k = false → rst p h k < rst p h i ∨ (rst p h k = rst p h i ∧ i < k)
        refine ok_rangeN I ⟨s1, s2, fun _ => false, fun i hi => by rw [s3 i hi, if_pos hi]; simp [bi], fun i hi => by rw [s4 i hi]; simp, by simp [bi, sumN_zero], by intro i k _ _ h; cases h⟩ (fun j s hj hs => ?_) fun s hs => ?_
        · obtain ⟨a, r⟩ := s
          obtain ⟨t1, t2, P, t3, t4, t5, t6⟩ := hs
          simp only at t1 t2 t3 t4
          unfold seats_Share_b3
          simp only [ok_bindF]
          refine ok_rangeN (s := (0 : Int)) (fun (k : Nat) (b : Int) => 0 ≤ b ∧ b < p.length ∧ (∀ i, i < k → nth r i ≤ nth r b.toNat) ∧ (∀ i : Nat, (i : Int) < b → nth r i < nth r b.toNat)) ⟨by omega, by omega, by intro i hi; omega, by intro i hi; omega⟩ (fun k b hk hb => ?_) fun b hb => ?_
          · obtain ⟨b0, b1, b2, b3⟩ := hb
            obtain ⟨b, rfl⟩ : ∃ c : Nat, b = c := ⟨b.toNat, by omega⟩
            rw [Int.toNat_natCast] at b2 b3
            unfold seats_Share_b4
            simp only [idx_nat, nth_at hk, nth_at (show b < r.length by omega), Option.bind_some, ok_ite, ok_some, flok_nx, decide_eq_true_eq, Int.toNat_natCast]
            refine ⟨fun hgt => ⟨by omega, by omega, fun i hi => ?_, fun i hi => ?_⟩, fun hle => ⟨by omega, by omega, fun i hi => ?_, fun i hi => b3 i hi⟩⟩
            · by_cases hik : i = k
              · subst hik; exact Int.le_refl _
              · have := b2 i (by omega); omega
            · have := b2 i (by omega); omega
            · by_cases hik : i = k
              · subst hik; omega
              · exact b2 i (by omega)
          · obtain ⟨b0, b1, b2, b3⟩ := hb
            obtain ⟨b, rfl⟩ : ∃ c : Nat, b = c := ⟨b.toNat, by omega⟩
            rw [Int.toNat_natCast] at b2 b3
            have hbl : b < p.length := by omega
            have hPb : P b = false := by
              cases hc : P b with
              | false => rfl
              | true =>
                exfalso
                have hall : ∀ i, i < p.length → P i = true := fun i hi => by
                  cases hi' : P i with
                  | true => rfl
                  | false =>
                    have g1 := b2 i (by omega)
                    rw [t4 i hi, t4 b hbl, hc, hi'] at g1
                    have := (quo_rst hp h i).2.1
                    simp at g1; omega
                have := all_true hall
                omega
            have rb := t4 b hbl
            rw [hPb] at rb
            simp only [Bool.false_eq_true, if_false] at rb
            have q1 := qb b hbl
            have ab := t3 b hbl
            rw [hPb] at ab
            simp only [bi, Bool.false_eq_true, if_false, Int.add_zero] at ab
            simp only [idx_nat, nth_at (show b < a.length by omega), nth_at (show b < r.length by omega), Option.bind_some, ok_some, flok_nx, Int.toNat_natCast]
            rw [wadd_of (by omega) (by omega)]
            refine ⟨by simpa using t1, by simpa using t2, fun i => if i = b then true else P i, fun i hi => ?_, fun i hi => ?_, ?_, fun i k hi hk h1 h2 => ?_⟩
            · rw [nth_set (by omega)]
              by_cases hib : i = b
              · subst hib; simp [bi, ab]
              · simp only [hib, if_false]; exact t3 i hi
            · rw [nth_set (by omega)]
              by_cases hib : i = b
              · subst hib; simp
              · simp only [hib, if_false]; exact t4 i hi
            · have : sumN p.length (fun i => bi (if i = b then true else P i)) = sumN p.length (fun i => bi (P i) + if i = b then 1 else 0) := sumN_congr fun i _ => by
                by_cases hib : i = b
                · subst hib; simp [bi, hPb]
                · simp [hib]
              rw [this, sumN_add, sumN_single hbl, t5]; omega
            · have hkb : k ≠ b := fun e => by subst e; simp at h2
              have hPk : P k = false := by simpa [hkb] using h2
              by_cases hib : i = b
              · subst hib
                have rk := t4 k hk
                rw [hPk] at rk
                simp only [Bool.false_eq_true, if_false] at rk
                rcases Nat.lt_or_ge k i with hlt | hge
                · have := b3 k (by omega); omega
                · have := b2 k (by omega)
                  rcases Int.lt_or_eq_of_le this with g | g
                  · left; omega
                  · right; omega
              · exact t6 i k hi hk (by simpa [hib] using h1) hPk
        · obtain ⟨t1, t2, P, t3, t4, t5, t6⟩ := hs
          refine ⟨P, t1, t3, ?_, t6⟩
          rw [sumN_add, t5]; omega
  obtain ⟨⟨a, e⟩, h1, h2, P, h3⟩ := this
  simp only at h2 h3
  subst h2
  exact ⟨a, P, h1, h3⟩
end Go.Pu
set_option linter.all false
namespace Go.Pu
open Go.Fw Go.Mo
def Steps (s : List Int) : Prop := s.length ≤ 6 ∧ ∀ x ∈ s, 1 ≤ x ∧ x ≤ 40
/-- y is come to from a pile of x in one move -/
def Reach (t : List Int) (s : List Int) (x : Nat) (y : Int) : Prop := ∃ k ∈ s, k ≤ (x : Int) ∧ t[((x : Int) - k).toNat]? = some y
/-- the first n entries of t are Grundy numbers -/
def Grundy (t : List Int) (s : List Int) (n : Nat) : Prop := ∀ x, x < n → ∃ g : Nat, t[x]? = some (g : Int) ∧ g ≤ 6 ∧ ¬ Reach t s x (g : Int) ∧ ∀ y : Nat, y < g → Reach t s x (y : Int)
theorem seen_loop (t : List Int) (x : Nat) (hx40 : x ≤ 40) : ∀ (s : List Int) (i : Nat) (b : List Bool), (∀ k ∈ s, 1 ≤ k ∧ k ≤ 40) → b.length = 7 → (∀ y, y < x → ∃ g : Nat, t[y]? = some (g : Int) ∧ g ≤ 6) →
    ∃ b' : List Bool, rangeL (γ := List Int) (piles_Table_b3 x t) s i b = some (.nx b') ∧ b'.length = 7 ∧ (∀ y : Nat, b'[y]? = some true ↔ b[y]? = some true ∨ Reach t s x (y : Int)) ∧ b'.countP (· == true) ≤ b.countP (· == true) + s.length
  | [], i, b, _, hb, _ => ⟨b, rfl, hb, fun y => by simp [Reach], by simp⟩
  | k :: s, i, b, hs, hb, ht => by
    have hk := hs k (by simp)
    have hs' : ∀ k ∈ s, 1 ≤ k ∧ k ≤ 40 := fun k hk => hs k (by simp [hk])
    by_cases hkx : k ≤ (x : Int)
    · obtain ⟨g, hg, hg6⟩ := ht ((x : Int) - k).toNat (by omega)
      have hbody : piles_Table_b3 x t i k b = some (.nx (b.set g true)) := by
        unfold piles_Table_b3
        rw [if_pos (by simpa using hkx), wsub_of (by omega) (by omega), idx_at (by omega), hg]
        simp only [Option.bind_some, idx_nat]
        rw [List.getElem?_eq_getElem (by omega : g < b.length)]
        simp
      obtain ⟨b', e, h1, h2, h3⟩ := seen_loop t x hx40 s (i + 1) (b.set g true) hs' (by simpa using hb) ht
      refine ⟨b', by unfold rangeL; rw [hbody]; exact e, h1, fun y => ?_, ?_⟩
      · rw [h2 y]
        constructor
        · rintro (h | ⟨q, hq, hq1, hq2⟩)
          · by_cases hy : g = y
            · subst hy; exact .inr ⟨k, by simp, hkx, hg⟩
            · rw [List.getElem?_set_ne hy] at h; exact .inl h
          · exact .inr ⟨q, by simp [hq], hq1, hq2⟩
        · rintro (h | ⟨q, hq, hq1, hq2⟩)
          · left
            by_cases hy : g = y
            · subst hy; rw [List.getElem?_set_self (by omega)]
            · rw [List.getElem?_set_ne hy]; exact h
          · rcases List.mem_cons.1 hq with rfl | hq
            · rw [hg] at hq2
              have : g = y := Int.ofNat.inj (Option.some.inj hq2)
              subst this
              left; rw [List.getElem?_set_self (by omega)]
            · exact .inr ⟨q, hq, hq1, hq2⟩
      · have : (b.set g true).countP (· == true) ≤ b.countP (· == true) + 1 := by
          rw [List.countP_set (by omega)]
          split <;> split <;> omega
        simp only [List.length_cons]; omega
    · have hbody : piles_Table_b3 x t i k b = some (.nx b) := by
        unfold piles_Table_b3
        rw [if_neg (by simpa using hkx)]
      obtain ⟨b', e, h1, h2, h3⟩ := seen_loop t x hx40 s (i + 1) b hs' hb ht
      refine ⟨b', by unfold rangeL; rw [hbody]; exact e, h1, fun y => ?_, by simp only [List.length_cons]; omega⟩
      rw [h2 y]
      constructor
      · rintro (h | ⟨q, hq, hq1, hq2⟩)
        · exact .inl h
        · exact .inr ⟨q, by simp [hq], hq1, hq2⟩
      · rintro (h | ⟨q, hq, hq1, hq2⟩)
        · exact .inl h
        · rcases List.mem_cons.1 hq with rfl | hq
          · exact absurd hq1 hkx
          · exact .inr ⟨q, hq, hq1, hq2⟩
/-- the least number that is not seen -/
theorem mex_loop (b : List Bool) (x : Nat) (m : Nat) (hm : b[m]? = some false) (hl : ∀ y, y < m → b[y]? = some true) (hm6 : m ≤ 6) :
    ∀ (d v : Nat) (t : List Int) (f : Nat), v + d = m → d < f → x < t.length → t[x]? = some (v : Int) → loopM (γ := List Int) (ρ := List Int × Int) (piles_Table_b4 x b) f t = some (.nx (t.set x (m : Int)))
  | 0, v, t, f, hv, hf, hx, ht => by
    obtain ⟨f, rfl⟩ : ∃ q, f = q + 1 := ⟨f - 1, by omega⟩
    have : v = m := by omega
    subst this
    unfold loopM piles_Table_b4
    simp only [idx_nat, ht, Option.bind_some, hm, Bool.false_eq_true, if_false]
    congr 2
    apply List.ext_getElem?
    intro q
    by_cases hq : x = q
    · subst hq; rw [List.getElem?_set_self hx, ht]
    · rw [List.getElem?_set_ne hq]
  | d + 1, v, t, f, hv, hf, hx, ht => by
    obtain ⟨f, rfl⟩ : ∃ q, f = q + 1 := ⟨f - 1, by omega⟩
    have hb := hl v (by omega)
    unfold loopM
    have hbody : piles_Table_b4 x b t = some (.nx (t.set x ((v + 1 : Nat) : Int))) := by
      unfold piles_Table_b4
      simp only [idx_nat, ht, Option.bind_some, hb, if_true]
      rw [wadd_of (by omega) (by omega)]
      rfl
    rw [hbody]
    have := mex_loop b x m hm hl hm6 d (v + 1) (t.set x ((v + 1 : Nat) : Int)) f (by omega) (by omega) (by simpa using hx) (by rw [List.getElem?_set_self hx])
    simp only
    rw [this, List.set_set]
theorem least_false (b : List Bool) (h7 : b.length = 7) (hc : b.countP (· == true) ≤ 6) : ∃ m : Nat, m ≤ 6 ∧ b[m]? = some false ∧ ∀ y, y < m → b[y]? = some true := by
  have hex : ∃ m : Nat, b[m]? = some false := by
    refine Classical.byContradiction fun hn => ?_
    have : b.countP (· == true) = b.length := by
      rw [List.countP_eq_length]
      intro x hx
      obtain ⟨i, hi, rfl⟩ := List.mem_iff_getElem.1 hx
      cases hbi : b[i] with
      | true => rfl
      | false => exact absurd ⟨i, by rw [List.getElem?_eq_getElem hi, hbi]⟩ hn
    omega
  obtain ⟨m, h1, h2⟩ := exists_least hex
  have hm : m < b.length := (List.getElem?_eq_some_iff.1 h1).1
  refine ⟨m, by omega, h1, fun y hy => ?_⟩
  have hy' : y < b.length := by omega
  rw [List.getElem?_eq_getElem hy']
  cases hb : b[y] with
  | true => rfl
  | false => have := h2 y (by rw [List.getElem?_eq_getElem hy', hb]); omega
theorem table_ok {n : Int} {s : List Int} (h0 : 0 ≤ n) (h1 : n ≤ 40) (hs : Steps s) : ∃ t, piles_Table_m n s = some (t, 0) ∧ t.length = n.toNat + 1 ∧ Grundy t s (n.toNat + 1) := by
  unfold piles_Table_m
  rw [if_neg (by simp; omega)]
  simp only [bindR]
  rw [if_neg (by simp; omega), if_neg (by simp; have := hs.1; omega)]
  obtain ⟨_, e, _⟩ := rangeL_inv (γ := Unit) (body := piles_Table_b1) (fun _ _ => True) s 0 () trivial (fun k x u hk _ => by
    have hx := hs.2 x (List.mem_of_getElem? hk)
    refine ⟨(), ?_, trivial⟩
    unfold piles_Table_b1
    rw [if_neg (by simp; omega)]
    simp only [bindF]
    rw [if_neg (by simp; omega)])
  rw [e]
  simp only
  rw [wadd_of (by omega) (by omega), chk_t (by constructor <;> omega)]
  simp only [Option.bind_some]
  have hlen : (List.replicate (n + 1).toNat (0 : Int)).length = n.toNat + 1 := by simp; omega
  obtain ⟨t, e, ht1, ht2, _⟩ := rangeN_inv (γ := Unit) (body := piles_Table_b2 s) (fun i (t : List Int) => t.length = n.toNat + 1 ∧ Grundy t s i ∧ ∀ j, i ≤ j → j < n.toNat + 1 → t[j]? = some 0) (List.replicate (n + 1).toNat (0 : Int)).length 0 (List.replicate (n + 1).toNat (0 : Int))
    ⟨hlen, fun x hx => by omega, fun j _ hj => by rw [List.getElem?_replicate, if_pos (by omega)]⟩ (fun k t hk hI => by
    rw [Nat.zero_add] at *
    rw [hlen] at hk
    obtain ⟨i1, i2, i3⟩ := hI
    unfold piles_Table_b2
    obtain ⟨b, eb, hb7, hbr, hbc⟩ := seen_loop t k (by omega) s 0 (List.replicate 7 false) hs.2 (by simp) (fun y hy => by obtain ⟨g, g1, g2, _⟩ := i2 y hy; exact ⟨g, g1, g2⟩)
    rw [eb]
    simp only [bindF]
    obtain ⟨m, hm6, hmf, hmt⟩ := least_false b hb7 (by
      have : (List.replicate 7 false).countP (· == true) = 0 := by decide
      have := hs.1; omega)
    rw [mex_loop b k m hmf hmt hm6 m 0 t 1048576 (by omega) (by omega) (by omega) (i3 k (Nat.le_refl _) hk)]
    have hreach : ∀ (x : Nat) (y : Int), x ≤ k → (Reach (t.set k (m : Int)) s x y ↔ Reach t s x y) := fun x y hx => by
      unfold Reach
      constructor
      · rintro ⟨q, q1, q2, q3⟩
        have := hs.2 q q1
        rw [List.getElem?_set_ne (by omega)] at q3
        exact ⟨q, q1, q2, q3⟩
      · rintro ⟨q, q1, q2, q3⟩
        have := hs.2 q q1
        refine ⟨q, q1, q2, ?_⟩
        rw [List.getElem?_set_ne (by omega)]
        exact q3
    refine ⟨_, rfl, by simpa using i1, ?_, ?_⟩
    · intro x hx
      by_cases hxk : x = k
      · subst hxk
        refine ⟨m, by rw [List.getElem?_set_self (by omega)], hm6, ?_, ?_⟩
        · rw [hreach x _ (Nat.le_refl _)]
          intro hr
          have := (hbr m).2 (.inr hr)
          rw [hmf] at this; cases this
        · intro y hy
          rw [hreach x _ (Nat.le_refl _)]
          rcases (hbr y).1 (hmt y hy) with h | h
          · rw [List.getElem?_replicate] at h; split at h <;> cases h
          · exact h
      · obtain ⟨g, g1, g2, g3, g4⟩ := i2 x (by omega)
        refine ⟨g, by rw [List.getElem?_set_ne (by omega)]; exact g1, g2, ?_, ?_⟩
        · rw [hreach x _ (by omega)]; exact g3
        · intro y hy; rw [hreach x _ (by omega)]; exact g4 y hy
    · intro j hj1 hj2
      rw [List.getElem?_set_ne (by omega)]
      exact i3 j (by omega) hj2)
  rw [e]
  rw [Nat.zero_add, hlen] at ht2
  exact ⟨t, rfl, ht1, ht2⟩
end Go.Pu
namespace Go.Pu
open Go.Fw Go.Mo
theorem nims_t : pk_nims_m = some true := by decide +kernel
end Go.Pu
set_option linter.all false
namespace Go.Pu
open Go.Fw Go.Mo
theorem contains_at (l : List Int) (x : Int) : slices_Contains_int_int_m l x = some (decide (x ∈ l)) := by
  unfold slices_Contains_int_int_m slices_Index_int_int_m
  rw [rangeL_first (γ := Unit) (body := slices_Index_int_int_b1 x) (fun y => x == y) l (fun i y _ => rfl)]
  by_cases hl : l.any (fun y => x == y) = true
  · rw [if_pos hl]
    simp only [bindR, Option.bind_some]
    have hx : x ∈ l := by
      rw [List.any_eq_true] at hl
      obtain ⟨y, hy, hy'⟩ := hl
      have : x = y := by simpa using hy'
      rw [this]; exact hy
    simp only [Nat.zero_add, hx, decide_true, Option.some.injEq, decide_eq_true_eq]
    omega
  · rw [if_neg hl]
    have hx : x ∉ l := fun h => hl (List.any_eq_true.2 ⟨x, h, by simp⟩)
    simp only [bindR, Option.bind_some, hx, decide_false]
    rfl
theorem equal_rfl (l : List Int) : slices_Equal_int_int_m l l = some true := by
  unfold slices_Equal_int_int_m
  rw [if_neg (by simp)]
  obtain ⟨_, e, _⟩ := rangeL_inv (γ := Unit) (body := slices_Equal_int_int_b1 l) (fun _ _ => True) l 0 () trivial (fun k x s hk _ => by
    refine ⟨(), ?_, trivial⟩
    unfold slices_Equal_int_int_b1
    rw [idx_nat, Nat.zero_add, hk]
    simp)
  rw [e]; rfl
/-- whatever Table answers -/
theorem table_any (n : Int) (s : List Int) : (∃ e : Int, e ≠ 0 ∧ piles_Table_m n s = some ([], e)) ∨ (0 ≤ n ∧ n ≤ 40 ∧ Steps s) := by
  by_cases hn : 0 ≤ n ∧ n ≤ 40
  · by_cases hl : s.length ≤ 6
    · by_cases hs : ∀ x ∈ s, 1 ≤ x ∧ x ≤ 40
      · exact .inr ⟨hn.1, hn.2, hl, hs⟩
      · left
        refine ⟨3, by decide, ?_⟩
        unfold piles_Table_m
        rw [if_neg (by simp; omega)]
        simp only [bindR]
        rw [if_neg (by simp; omega), if_neg (by simp; omega)]
        have key : ∀ (l : List Int) (i : Nat), (¬ ∀ x ∈ l, 1 ≤ x ∧ x ≤ 40) → rangeL (γ := Unit) piles_Table_b1 l i () = some (.rt ([], (3 : Int))) := by
          intro l
          induction l with
          | nil => intro i h; exact absurd (by simp) h
          | cons x l ih =>
            intro i h
            unfold rangeL
            by_cases hx : 1 ≤ x ∧ x ≤ 40
            · have hb : piles_Table_b1 i x () = some (.nx ()) := by
                unfold piles_Table_b1
                rw [if_neg (by simp; omega)]
                simp only [bindF]
                rw [if_neg (by simp; omega)]
              rw [hb]
              exact ih (i + 1) (fun h' => h (by intro y hy; rcases List.mem_cons.1 hy with rfl | hy; exact hx; exact h' y hy))
            · have hb : piles_Table_b1 i x () = some (.rt ([], (3 : Int))) := by
                unfold piles_Table_b1
                by_cases h1 : x < 1
                · rw [if_pos (by simpa using h1)]; rfl
                · rw [if_neg (by simpa using h1)]
                  simp only [bindF]
                  rw [if_pos (by simp; omega)]
              rw [hb]
        rw [key s 0 hs]
    · left
      refine ⟨2, by decide, ?_⟩
      unfold piles_Table_m
      rw [if_neg (by simp; omega)]
      simp only [bindR]
      rw [if_neg (by simp; omega), if_pos (by simp; omega)]
  · left
    refine ⟨1, by decide, ?_⟩
    unfold piles_Table_m
    by_cases h1 : n < 0
    · rw [if_pos (by simpa using h1)]; rfl
    · rw [if_neg (by simpa using h1)]
      simp only [bindR]
      rw [if_pos (by simp; omega)]
theorem seen_list (t : List Int) (e : Int) (x : Nat) (hx : x ≤ 40) : ∀ (s : List Int) (i : Nat) (b : List Int), (∀ k ∈ s, 1 ≤ k ∧ k ≤ 40) → x < t.length → b.length + s.length ≤ 12 →
    ∃ b' : List Int, rangeL (γ := Unit) (pk_PilesTable_b2 x (t, e)) s i b = some (.nx b') ∧ ∀ y, y ∈ b' ↔ y ∈ b ∨ Reach t s x y
  | [], i, b, _, _, _ => ⟨b, rfl, fun y => by simp [Reach]⟩
  | k :: s, i, b, hs, ht, hb => by
    have hk := hs k (by simp)
    have hs' : ∀ k ∈ s, 1 ≤ k ∧ k ≤ 40 := fun k hk => hs k (by simp [hk])
    simp only [List.length_cons] at hb
    by_cases hkx : k ≤ (x : Int)
    · have hi : ((x : Int) - k).toNat < t.length := by omega
      have hbody : pk_PilesTable_b2 x (t, e) i k b = some (.nx (b ++ [t[((x : Int) - k).toNat]])) := by
        unfold pk_PilesTable_b2
        rw [if_pos (by simpa using hkx), wsub_of (by omega) (by omega), idx_at (by omega), List.getElem?_eq_getElem hi]
        simp only [Option.bind_some]
        rw [chk_t (by simp; omega)]
        rfl
      obtain ⟨b', e', h⟩ := seen_list t e x hx s (i + 1) (b ++ [t[((x : Int) - k).toNat]]) hs' ht (by simp; omega)
      refine ⟨b', by unfold rangeL; rw [hbody]; exact e', fun y => ?_⟩
      rw [h y, List.mem_append, List.mem_singleton]
      constructor
      · rintro ((h | h) | ⟨q, hq, hq1, hq2⟩)
        · exact .inl h
        · exact .inr ⟨k, by simp, hkx, by rw [List.getElem?_eq_getElem hi, h]⟩
        · exact .inr ⟨q, by simp [hq], hq1, hq2⟩
      · rintro (h | ⟨q, hq, hq1, hq2⟩)
        · exact .inl (.inl h)
        · rcases List.mem_cons.1 hq with rfl | hq
          · rw [List.getElem?_eq_getElem hi] at hq2
            exact .inl (.inr (Option.some.inj hq2).symm)
          · exact .inr ⟨q, hq, hq1, hq2⟩
    · have hbody : pk_PilesTable_b2 x (t, e) i k b = some (.nx b) := by
        unfold pk_PilesTable_b2
        rw [if_neg (by simpa using hkx)]
      obtain ⟨b', e', h⟩ := seen_list t e x hx s (i + 1) b hs' ht (by omega)
      refine ⟨b', by unfold rangeL; rw [hbody]; exact e', fun y => ?_⟩
      rw [h y]
      constructor
      · rintro (h | ⟨q, hq, hq1, hq2⟩)
        · exact .inl h
        · exact .inr ⟨q, by simp [hq], hq1, hq2⟩
      · rintro (h | ⟨q, hq, hq1, hq2⟩)
        · exact .inl h
        · rcases List.mem_cons.1 hq with rfl | hq
          · exact absurd hq1 hkx
          · exact .inr ⟨q, hq, hq1, hq2⟩
theorem table5 : piles_Table_m 5 [1, 2] = some ([0, 1, 2, 0, 1, 2], 0) := by decide +kernel
theorem PilesTable (x0 : Int) (_ : (Lit.int .i64 x0).wf = true) (x1 : List Int) (_ : (∀ x ∈ x1, (Lit.int .i64 x).wf = true) ∧ x1.length ≤ maxLen) : pk_PilesTable_m x0 x1 = some true := by
  unfold pk_PilesTable_m
  rw [table5]
  simp only [Option.bind_some, bne_self_eq_false, Bool.false_eq_true, if_false, equal_rfl, nims_t, Bool.not_true, bindR]
  rcases table_any x0 x1 with ⟨e, he, ht⟩ | ⟨h0, h1, hs⟩
  · rw [ht]
    have he' : (e != 0) = true := by simpa using he
    simp only [Option.bind_some, he', if_true]
    rfl
  · obtain ⟨t, e, hl, hg⟩ := table_ok h0 h1 hs
    rw [e]
    simp only [Option.bind_some, bne_self_eq_false, Bool.false_eq_true, if_false]
    have hlen : (((t.length : Nat) : Int) != wadd x0 1) = false := by
      rw [wadd_of (by omega) (by omega)]
      simp; omega
    rw [hlen]
    simp only [Bool.false_eq_true, if_false]
    obtain ⟨_, e2, _⟩ := rangeN_inv (γ := Unit) (body := pk_PilesTable_b1 (t, 0) x1) (fun _ _ => True) t.length 0 () trivial (fun x u hx _ => by
      refine ⟨(), ?_, trivial⟩
      rw [Nat.zero_add]
      obtain ⟨g, g1, g2, g3, g4⟩ := hg x (by omega)
      unfold pk_PilesTable_b1
      simp only [idx_nat, g1, Option.bind_some]
      obtain ⟨b, eb, hb⟩ := seen_list t 0 x (by omega) x1 0 [] hs.2 hx (by have := hs.1; simp; omega)
      rw [eb]
      simp only [bindF, contains_at, Option.bind_some]
      have hn : (g : Int) ∉ b := fun h => by
        rcases (hb _).1 h with h | h
        · cases h
        · exact g3 h
      simp only [hn, decide_false, Bool.false_eq_true, if_false]
      rw [chk_t (by omega)]
      simp only [Option.bind_some, Int.toNat_natCast]
      obtain ⟨_, e3, _⟩ := rangeN_inv (γ := Unit) (body := pk_PilesTable_b3 b) (fun _ _ => True) g 0 () trivial (fun y u hy _ => by
        refine ⟨(), ?_, trivial⟩
        unfold pk_PilesTable_b3
        rw [Nat.zero_add, contains_at]
        have hm : (y : Int) ∈ b := (hb _).2 (.inr (g4 y hy))
        simp [hm])
      rw [e3])
    rw [e2]
end Go.Pu
set_option linter.all false
namespace Go.Pu
open Go.Fw
theorem Ok.fl {ρ σ β : Type} {x : Option (Fl ρ β σ)} {N N' : σ → Prop} {B B' : β → Prop} {R R' : ρ → Prop} (h : Ok x (FlOk N B R)) (hN : ∀ s, N s → N' s) (hB : ∀ s, B s → B' s) (hR : ∀ s, R s → R' s) : Ok x (FlOk N' B' R') := h.mono fun v hv => by
  cases v with
  | nx s => exact hN s hv
  | br b => exact hB b hv
  | rt r => exact hR r hv
end Go.Pu
set_option linter.all false
namespace Go.Pu
open Go.Fw Go.Mo
section
variable {α : Type} {ρ : Type}
structure Weak (lt : α → α → Bool) : Prop where
  asymm : ∀ a b, lt a b = true → lt b a = false
  ntrans : ∀ a b c, lt a b = false → lt b c = false → lt a c = false
/-- the same things, in order, and what is alike in the order in which it stood -/
structure Sorted (lt : α → α → Bool) (l m : List α) : Prop where
  perm : m.Perm l
  asc : m.Pairwise fun a b => lt b a = false
  stable : ∀ q : α → Bool, (∀ a b, q a = true → q b = true → lt a b = false) → m.filter q = l.filter q
theorem last_of {A : List α} (h : 0 < A.length) : ∃ A' y, A = A' ++ [y] := by
  refine ⟨A.dropLast, A.getLast (List.ne_nil_of_length_pos h), (List.dropLast_concat_getLast _).symm⟩
/-- one thing put into its place -/
theorem ins_in {M : α → Prop} {lt : α → α → Bool} (hw : Weak lt) {b2 : List α × Int → Option (Fl ρ (List α × Int) (List α × Int))} {n : Nat}
    (h2 : ∀ (A : List α) (y e : α) (r : List α), (A ++ y :: e :: r).length = n → (∀ x ∈ A ++ y :: e :: r, M x) → b2 (A ++ y :: e :: r, ((A.length + 1 : Nat) : Int)) = if lt e y = true then some (.nx (A ++ e :: y :: r, (A.length : Int))) else some (.br (A ++ y :: e :: r, ((A.length + 1 : Nat) : Int))))
    (h20 : ∀ (e : α) (r : List α), (e :: r).length = n → b2 (e :: r, 0) = some (.br (e :: r, 0))) (hn : n ≤ 1000)
    (A C D : List α) (e : α) (hl : (A ++ e :: (C ++ D)).length = n) (hM : ∀ x ∈ A ++ e :: (C ++ D), M x) (hs : (A ++ C).Pairwise fun a b => lt b a = false) (hC : ∀ c ∈ C, lt e c = true) (f : Nat) (hf : A.length < f) :
    ∃ A' C', loopM (γ := List α × Int) b2 f (A ++ e :: (C ++ D), (A.length : Int)) = some (.nx (A' ++ e :: (C' ++ D), (A'.length : Int))) ∧ A' ++ C' = A ++ C ∧ (∀ c ∈ C', lt e c = true) ∧ ∀ a ∈ A', lt e a = false := by
  induction f generalizing A C with
  | zero => omega
  | succ f ih =>
    unfold loopM
    by_cases h0 : A.length = 0
    · have hA : A = [] := List.eq_nil_of_length_eq_zero h0
      subst hA
      have := h20 e (C ++ D) hl
      refine ⟨[], C, ?_, rfl, hC, fun a ha => by cases ha⟩
      rw [show ((([] : List α).length : Nat) : Int) = 0 from rfl, List.nil_append, this]
    · obtain ⟨A', y, rfl⟩ := last_of (A := A) (by omega)
      have e1 : A' ++ [y] ++ e :: (C ++ D) = A' ++ y :: e :: (C ++ D) := by simp
      have e2 : (A' ++ [y]).length = A'.length + 1 := by simp
      rw [e1] at hl hM ⊢
      rw [e2] at hf ⊢
      rw [h2 A' y e (C ++ D) hl hM]
      by_cases hlt : lt e y = true
      · rw [if_pos hlt]
        have e3 : A' ++ e :: y :: (C ++ D) = A' ++ e :: ((y :: C) ++ D) := by simp
        have e4 : A' ++ (y :: C) = A' ++ [y] ++ C := by simp
        have hl' : (A' ++ e :: ((y :: C) ++ D)).length = n := by rw [← hl]; simp
        have hM' : ∀ x ∈ A' ++ e :: ((y :: C) ++ D), M x := fun x hx => hM x (by simp at hx ⊢; rcases hx with h | h | h | h | h <;> simp [h])
        obtain ⟨A2, C2, q1, q2, q3, q4⟩ := ih A' (y :: C) hl' hM' (by rw [e4]; exact hs) (fun c hc => by
          rcases List.mem_cons.1 hc with rfl | hc
          · exact hlt
          · exact hC c hc) (by omega)
        exact ⟨A2, C2, by rw [e3]; exact q1, by rw [q2, e4], q3, q4⟩
      · rw [if_neg hlt]
        have hlt' : lt e y = false := by simpa using hlt
        refine ⟨A' ++ [y], C, by rw [e1, e2], rfl, hC, fun a ha => ?_⟩
        rcases List.mem_append.1 ha with ha | ha
        · rw [List.append_assoc, List.pairwise_append] at hs
          exact hw.ntrans e y a hlt' (hs.2.2 a ha y (by simp))
        · rw [List.mem_singleton] at ha; subst ha; exact hlt'
theorem sorted_put {lt : α → α → Bool} (hw : Weak lt) {A C : List α} {e : α} (hs : (A ++ C).Pairwise fun a b => lt b a = false) (hC : ∀ c ∈ C, lt e c = true) (hA : ∀ a ∈ A, lt e a = false) : (A ++ e :: C).Pairwise fun a b => lt b a = false := by
  rw [List.pairwise_append] at hs ⊢
  refine ⟨hs.1, List.pairwise_cons.2 ⟨fun c hc => hw.asymm _ _ (hC c hc), hs.2.1⟩, fun a ha b hb => ?_⟩
  rcases List.mem_cons.1 hb with rfl | hb
  · exact hA a ha
  · exact hs.2.2 a ha b hb
theorem filter_put {lt : α → α → Bool} {A C : List α} {e : α} (hC : ∀ c ∈ C, lt e c = true) {q : α → Bool} (hq : ∀ a b, q a = true → q b = true → lt a b = false) : (A ++ e :: C).filter q = (A ++ C).filter q ++ [e].filter q := by
  rw [List.filter_append, List.filter_append, List.filter_cons]
  by_cases he : q e = true
  · have : C.filter q = [] := List.filter_eq_nil_iff.2 fun c hc hqc => by have := hq e c he hqc; rw [hC c hc] at this; cases this
    rw [if_pos he, this]; simp [he]
  · rw [if_neg he]; simp [he]
/-- the whole of it -/
theorem ins_all {γ : Type} {M : α → Prop} {lt : α → α → Bool} (hw : Weak lt) {b1 b2 : List α × Int → Option (Fl ρ (List α × Int) (List α × Int))} {n : Nat}
    (h2 : ∀ (A : List α) (y e : α) (r : List α), (A ++ y :: e :: r).length = n → (∀ x ∈ A ++ y :: e :: r, M x) → b2 (A ++ y :: e :: r, ((A.length + 1 : Nat) : Int)) = if lt e y = true then some (.nx (A ++ e :: y :: r, (A.length : Int))) else some (.br (A ++ y :: e :: r, ((A.length + 1 : Nat) : Int))))
    (h20 : ∀ (e : α) (r : List α), (e :: r).length = n → b2 (e :: r, 0) = some (.br (e :: r, 0)))
    (h1 : ∀ (l : List α) (k : Nat), k < n → b1 (l, (k : Int)) = bindF (loopM (γ := List α × Int) b2 1048576 (l, (k : Int))) fun s => some (.nx (s.1, ((k + 1 : Nat) : Int))))
    (h1e : ∀ l : List α, b1 (l, (n : Int)) = some (.br (l, (n : Int)))) (hn : n ≤ 1000) :
    ∀ (d k : Nat) (l0 p : List α) (f : Nat), k + d = n → l0.length = n → (∀ x ∈ l0, M x) → Sorted lt (l0.take k) p → d < f → ∃ m, loopM (γ := γ) b1 f (p ++ l0.drop k, (k : Int)) = some (.nx (m, (n : Int))) ∧ Sorted lt l0 m
  | 0, k, l0, p, f, hk, hl, hM, hS, hf => by
    obtain ⟨f, rfl⟩ : ∃ g, f = g + 1 := ⟨f - 1, by omega⟩
    have : k = n := by omega
    subst this
    have e1 : l0.take k = l0 := List.take_of_length_le (by omega)
    have e2 : l0.drop k = [] := List.drop_of_length_le (by omega)
    rw [e1] at hS
    rw [e2, List.append_nil]
    refine ⟨p, ?_, hS⟩
    unfold loopM
    rw [h1e p]
  | d + 1, k, l0, p, f, hk, hl, hM, hS, hf => by
    obtain ⟨f, rfl⟩ : ∃ g, f = g + 1 := ⟨f - 1, by omega⟩
    have hkl : k < l0.length := by omega
    have hpl : p.length = k := by rw [hS.perm.length_eq, List.length_take]; omega
    have hdr : l0.drop k = l0[k] :: l0.drop (k + 1) := List.drop_eq_getElem_cons hkl
    have htk : l0.take (k + 1) = l0.take k ++ [l0[k]] := by rw [List.take_succ, List.getElem?_eq_getElem hkl]; rfl
    unfold loopM
    rw [h1 _ k (by omega), hdr]
    have hlen : (p ++ l0[k] :: ([] ++ l0.drop (k + 1))).length = n := by simp [hpl]; omega
    have hM1 : ∀ x ∈ p ++ l0[k] :: ([] ++ l0.drop (k + 1)), M x := fun x hx => by
      rcases List.mem_append.1 hx with hx | hx
      · exact hM x (List.mem_of_mem_take (hS.perm.mem_iff.1 hx))
      · rw [List.nil_append, ← hdr] at hx; exact hM x (List.mem_of_mem_drop hx)
    obtain ⟨A, C, q1, q2, q3, q4⟩ := ins_in hw h2 h20 hn p [] (l0.drop (k + 1)) l0[k] hlen hM1 (by rw [List.append_nil]; exact hS.asc) (fun c hc => by cases hc) 1048576 (by omega)
    rw [List.append_nil] at q2
    rw [List.nil_append, hpl] at q1
    rw [q1]
    simp only [bindF]
    have hS' : Sorted lt (l0.take (k + 1)) (A ++ l0[k] :: C) := by
      refine ⟨?_, sorted_put hw (by rw [q2]; exact hS.asc) q3 q4, fun q hq => ?_⟩
      · rw [htk]
        have hp : (A ++ C).Perm (l0.take k) := by rw [q2]; exact hS.perm
        refine (List.perm_middle).trans ?_
        refine (List.Perm.cons _ hp).trans ?_
        exact (List.perm_append_singleton _ _).symm
      · rw [filter_put q3 hq, q2, hS.stable q hq, htk, List.filter_append]
    obtain ⟨m, e, hm⟩ := ins_all hw h2 h20 h1 h1e hn d (k + 1) l0 (A ++ l0[k] :: C) f (by omega) hl hM hS' (by omega)
    refine ⟨m, ?_, hm⟩
    rw [show A ++ l0[k] :: (C ++ l0.drop (k + 1)) = A ++ l0[k] :: C ++ l0.drop (k + 1) by simp]
    exact e
theorem idx_snd {A r : List α} {y e : α} : idx (A ++ y :: e :: r) ((A.length + 1 : Nat) : Int) = some e := by
  unfold idx; rw [if_pos (by omega), Int.toNat_natCast, List.getElem?_append_right (by omega), show A.length + 1 - A.length = 1 by omega]; rfl
theorem idx_fst {A r : List α} {y : α} : idx (A ++ y :: r) (A.length : Int) = some y := by
  unfold idx; rw [if_pos (by omega), Int.toNat_natCast, List.getElem?_append_right (by omega), Nat.sub_self]; rfl
theorem set_snd {A r : List α} {y e z : α} : (A ++ y :: e :: r).set (A.length + 1) z = A ++ y :: z :: r := by
  rw [List.set_append_right _ _ (by omega), show A.length + 1 - A.length = 1 by omega]; rfl
theorem set_fst {A r : List α} {y z : α} : (A ++ y :: r).set A.length z = A ++ z :: r := by
  rw [List.set_append_right _ _ (by omega), Nat.sub_self]; rfl
theorem sorted_one {lt : α → α → Bool} {l : List α} : Sorted lt (l.take 0) [] := ⟨by simp, List.Pairwise.nil, fun q _ => by simp⟩
theorem sorted_first {lt : α → α → Bool} {l : List α} (h : 1 ≤ l.length) : Sorted lt (l.take 1) (l.take 1) ∧ (l.take 1).length = 1 := by
  cases l with
  | nil => simp at h
  | cons a l => exact ⟨⟨List.Perm.refl _, by simp, fun q _ => rfl⟩, rfl⟩
end
/-! ### slices.Sort of numbers -/
theorem cmpLess_ok (a b : Int) : cmp_Less_int_m a b = some (decide (a < b)) := by
  unfold cmp_Less_int_m cmp_isNaN_int_m
  by_cases h : a < b
  · simp [h, bindR]
  · simp [h, bindR]
theorem intWeak : Weak (fun a b : Int => decide (a < b)) := ⟨fun a b h => by simp at h ⊢; omega, fun a b c h1 h2 => by simp at h1 h2 ⊢; omega⟩
theorem insOrd_ok {l : List Int} (hl : l.length ≤ 1000) : ∃ m, slices_insertionSortOrdered_int_m l 0 (l.length : Int) = some m ∧ Sorted (fun a b : Int => decide (a < b)) l m := by
  unfold slices_insertionSortOrdered_int_m
  rw [wadd_of (by omega) (by omega), show (0 : Int) + 1 = ((1 : Nat) : Int) by omega]
  by_cases h1 : 1 ≤ l.length
  · obtain ⟨s1, _⟩ := sorted_first (lt := fun a b : Int => decide (a < b)) h1
    obtain ⟨m, e, hm⟩ := ins_all (ρ := List Int) (γ := Unit) (M := fun _ => True) intWeak (b1 := slices_insertionSortOrdered_int_b1 (l.length : Int) 0) (b2 := slices_insertionSortOrdered_int_b2 0) (n := l.length)
      (fun A y e r _ _ => by
        unfold slices_insertionSortOrdered_int_b2
        dsimp only
        rw [if_pos (by rw [decide_eq_true_eq]; omega), idx_snd, Option.bind_some, wsub_of (by omega) (by simp at *; omega), show ((A.length + 1 : Nat) : Int) - 1 = (A.length : Int) by omega, idx_fst, Option.bind_some, cmpLess_ok, Option.bind_some]
        by_cases hlt : e < y
        · simp only [bindF]
          rw [if_pos (by simpa using hlt), if_pos (by simpa using hlt), Option.bind_some, Option.bind_some, Option.bind_some, Int.toNat_natCast, Int.toNat_natCast, set_snd, idx_fst, Option.bind_some, set_fst]
        · simp only [bindF]
          rw [if_neg (by simpa using hlt), if_neg (by simpa using hlt)])
      (fun e r _ => by unfold slices_insertionSortOrdered_int_b2; rfl)
      (fun l' k hk => by
        unfold slices_insertionSortOrdered_int_b1
        dsimp only
        rw [if_pos (by rw [decide_eq_true_eq]; omega), wadd_of (by omega) (by omega), show (k : Int) + 1 = ((k + 1 : Nat) : Int) by omega])
      (fun l' => by unfold slices_insertionSortOrdered_int_b1; dsimp only; rw [if_neg (by rw [decide_eq_true_eq]; omega)]) hl (l.length - 1) 1 l (l.take 1) 1048576 (by omega) rfl (fun _ _ => trivial) s1 (by omega)
    rw [List.take_append_drop] at e
    rw [e]
    exact ⟨m, rfl, hm⟩
  · have : l = [] := List.eq_nil_of_length_eq_zero (by omega)
    subst this
    refine ⟨[], ?_, ⟨List.Perm.refl _, List.Pairwise.nil, fun q _ => rfl⟩⟩
    unfold loopM slices_insertionSortOrdered_int_b1
    dsimp only
    rw [if_neg (by decide)]; rfl
theorem len_ok : ∀ n : Nat, n ≤ 12 → ∃ k, math_bits_Len_m (IntKind.wrap .u64 (n : Int)) = some k := by
  have h : ∀ n : Nat, n ≤ 12 → (math_bits_Len_m (IntKind.wrap .u64 (n : Int))).isSome = true := by decide +kernel
  intro n hn
  exact Option.isSome_iff_exists.1 (h n hn)
theorem sort_ok {l : List Int} (hl : l.length ≤ 12) : ∃ m, slices_Sort_int_int_m l = some m ∧ Sorted (fun a b : Int => decide (a < b)) l m := by
  obtain ⟨k, ek⟩ := len_ok l.length hl
  obtain ⟨m, e, hm⟩ := insOrd_ok (l := l) (by omega)
  refine ⟨m, ?_, hm⟩
  first
    | (unfold slices_Sort_int_int_m
       rw [if_pos hl]
       unfold slices_Sort_int_int_p slices_pdqsortOrdered_int_m
       rw [ek, Option.bind_some]
       unfold loopM slices_pdqsortOrdered_int_b1
       dsimp only
       rw [wsub_of (by omega) (by omega), if_pos (by rw [decide_eq_true_eq]; omega), e]
       rfl)
    | (unfold slices_Sort_int_int_m slices_pdqsortOrdered_int_m
       rw [ek, Option.bind_some]
       unfold loopM slices_pdqsortOrdered_int_b1
       dsimp only
       rw [wsub_of (by omega) (by omega), if_pos (by rw [decide_eq_true_eq]; omega), e]
       rfl)
/-! ### sorting by a function -/
theorem sortFunc_acct {l : List (List UInt8 × Int × Int)} {g : List UInt8 × Int × Int → List UInt8 × Int × Int → Option Int} {lt : List UInt8 × Int × Int → List UInt8 × Int × Int → Bool} (hw : Weak lt) (hg : ∀ a b, ∃ c, g a b = some c ∧ decide (c < 0) = lt a b) (hl : l.length ≤ 12) : ∃ m, slices_SortFunc_api_Account_api_Account_m l g = some m ∧ Sorted lt l m := by
  obtain ⟨k, ek⟩ := len_ok l.length hl
  have ins : ∃ m, slices_insertionSortCmpFunc_api_Account_m l 0 (l.length : Int) g = some m ∧ Sorted lt l m := by
    unfold slices_insertionSortCmpFunc_api_Account_m
    rw [wadd_of (by omega) (by omega), show (0 : Int) + 1 = ((1 : Nat) : Int) by omega]
    by_cases h1 : 1 ≤ l.length
    · obtain ⟨s1, _⟩ := sorted_first (lt := lt) h1
      obtain ⟨m, e, hm⟩ := ins_all (ρ := List (List UInt8 × Int × Int)) (γ := Unit) (M := fun _ => True) hw (b1 := slices_insertionSortCmpFunc_api_Account_b1 (l.length : Int) 0 g) (b2 := slices_insertionSortCmpFunc_api_Account_b2 0 g) (n := l.length)
        (fun A y e r _ _ => by
          obtain ⟨c, ec, hc⟩ := hg e y
          unfold slices_insertionSortCmpFunc_api_Account_b2
          dsimp only
          rw [if_pos (by rw [decide_eq_true_eq]; omega), idx_snd, Option.bind_some, wsub_of (by omega) (by simp at *; omega), show ((A.length + 1 : Nat) : Int) - 1 = (A.length : Int) by omega, idx_fst, Option.bind_some, ec, Option.bind_some, hc]
          by_cases hlt : lt e y = true
          · simp only [bindF]
            rw [if_pos hlt, if_pos hlt, Option.bind_some, Option.bind_some, Option.bind_some, Int.toNat_natCast, Int.toNat_natCast, set_snd, idx_fst, Option.bind_some, set_fst]
          · simp only [bindF]
            rw [if_neg hlt, if_neg hlt])
        (fun e r _ => by unfold slices_insertionSortCmpFunc_api_Account_b2; rfl)
        (fun l' k hk => by
          unfold slices_insertionSortCmpFunc_api_Account_b1
          dsimp only
          rw [if_pos (by rw [decide_eq_true_eq]; omega), wadd_of (by omega) (by omega), show (k : Int) + 1 = ((k + 1 : Nat) : Int) by omega])
        (fun l' => by unfold slices_insertionSortCmpFunc_api_Account_b1; dsimp only; rw [if_neg (by rw [decide_eq_true_eq]; omega)]) (by omega) (l.length - 1) 1 l (l.take 1) 1048576 (by omega) rfl (fun _ _ => trivial) s1 (by omega)
      rw [List.take_append_drop] at e
      rw [e]
      exact ⟨m, rfl, hm⟩
    · have : l = [] := List.eq_nil_of_length_eq_zero (by omega)
      subst this
      refine ⟨[], ?_, ⟨List.Perm.refl _, List.Pairwise.nil, fun q _ => rfl⟩⟩
      unfold loopM slices_insertionSortCmpFunc_api_Account_b1
      dsimp only
      rw [if_neg (by decide)]; rfl
  obtain ⟨m, e, hm⟩ := ins
  refine ⟨m, ?_, hm⟩
  unfold slices_SortFunc_api_Account_api_Account_m slices_pdqsortCmpFunc_api_Account_m
  rw [ek, Option.bind_some]
  unfold loopM slices_pdqsortCmpFunc_api_Account_b1
  dsimp only
  rw [wsub_of (by omega) (by omega), if_pos (by rw [decide_eq_true_eq]; omega), e]
  rfl
theorem sortStable_int {l : List Int} {g : Int → Int → Option Int} {lt : Int → Int → Bool} (hw : Weak lt) (hg : ∀ a ∈ l, ∀ b ∈ l, ∃ c, g a b = some c ∧ decide (c < 0) = lt a b) (hl : l.length ≤ 12) : ∃ m, slices_SortStableFunc_int_int_m l g = some m ∧ Sorted lt l m := by
  have ins : ∃ m, slices_insertionSortCmpFunc_int_m l 0 (l.length : Int) g = some m ∧ Sorted lt l m := by
    unfold slices_insertionSortCmpFunc_int_m
    rw [wadd_of (by omega) (by omega), show (0 : Int) + 1 = ((1 : Nat) : Int) by omega]
    by_cases h1 : 1 ≤ l.length
    · obtain ⟨s1, _⟩ := sorted_first (lt := lt) h1
      obtain ⟨m, e, hm⟩ := ins_all (ρ := List Int) (γ := Unit) (M := fun x => x ∈ l) hw (b1 := slices_insertionSortCmpFunc_int_b1 (l.length : Int) 0 g) (b2 := slices_insertionSortCmpFunc_int_b2 0 g) (n := l.length)
        (fun A y e r _ hM => by
          obtain ⟨c, ec, hc⟩ := hg e (hM e (by simp)) y (hM y (by simp))
          unfold slices_insertionSortCmpFunc_int_b2
          dsimp only
          rw [if_pos (by rw [decide_eq_true_eq]; omega), idx_snd, Option.bind_some, wsub_of (by omega) (by simp at *; omega), show ((A.length + 1 : Nat) : Int) - 1 = (A.length : Int) by omega, idx_fst, Option.bind_some, ec, Option.bind_some, hc]
          by_cases hlt : lt e y = true
          · simp only [bindF]
            rw [if_pos hlt, if_pos hlt, Option.bind_some, Option.bind_some, Option.bind_some, Int.toNat_natCast, Int.toNat_natCast, set_snd, idx_fst, Option.bind_some, set_fst]
          · simp only [bindF]
            rw [if_neg hlt, if_neg hlt])
        (fun e r _ => by unfold slices_insertionSortCmpFunc_int_b2; rfl)
        (fun l' k hk => by
          unfold slices_insertionSortCmpFunc_int_b1
          dsimp only
          rw [if_pos (by rw [decide_eq_true_eq]; omega), wadd_of (by omega) (by omega), show (k : Int) + 1 = ((k + 1 : Nat) : Int) by omega])
        (fun l' => by unfold slices_insertionSortCmpFunc_int_b1; dsimp only; rw [if_neg (by rw [decide_eq_true_eq]; omega)]) (by omega) (l.length - 1) 1 l (l.take 1) 1048576 (by omega) rfl (fun x hx => hx) s1 (by omega)
      rw [List.take_append_drop] at e
      rw [e]
      exact ⟨m, rfl, hm⟩
    · have : l = [] := List.eq_nil_of_length_eq_zero (by omega)
      subst this
      refine ⟨[], ?_, ⟨List.Perm.refl _, List.Pairwise.nil, fun q _ => rfl⟩⟩
      unfold loopM slices_insertionSortCmpFunc_int_b1
      dsimp only
      rw [if_neg (by decide)]; rfl
  obtain ⟨m, e, hm⟩ := ins
  refine ⟨m, ?_, hm⟩
  unfold slices_SortStableFunc_int_int_m slices_stableCmpFunc_int_m
  unfold loopM slices_stableCmpFunc_int_b1 slices_stableCmpFunc_int_b2
  dsimp only
  rw [if_neg (by rw [decide_eq_true_eq]; omega)]
  simp only [bindR]
  rw [e, Option.bind_some, if_neg (by rw [decide_eq_true_eq]; omega)]
  rfl
end Go.Pu
set_option linter.all false
namespace Go.Pu
open Go.Fw Go.Mo
theorem inOrd_ok {l : List Int} (hl : l.length ≤ 1000000) (h : l.Pairwise (· < ·)) : slices_IsSorted_int_int_m l = some true := by
  apply Ok.eq
  unfold slices_IsSorted_int_int_m
  rw [wsub_of (by omega) (by omega), ok_bindR]
  refine ok_loopM (fun (x : Int) => -1 ≤ x ∧ x < (l.length : Int)) (fun x => (x + 1).toNat) (fun x hx => ?_) _ _ ⟨by omega, by omega⟩ (by omega)
  unfold slices_IsSorted_int_int_b1
  by_cases h0 : x > 0
  · obtain ⟨k, rfl⟩ : ∃ k : Nat, x = ((k + 1 : Nat) : Int) := ⟨(x - 1).toNat, by omega⟩
    have hs := (List.pairwise_iff_getElem.1 h) k (k + 1) (by omega) (by omega) (by omega)
    rw [← nth_get (by omega : k + 1 < l.length), ← nth_get (by omega : k < l.length)] at hs
    rw [if_pos (by rw [decide_eq_true_eq]; exact h0), idx_nat, nth_at (by omega), Option.bind_some, wsub_of (by omega) (by omega), show ((k + 1 : Nat) : Int) - 1 = (k : Int) by omega, idx_nat, nth_at (by omega), Option.bind_some, cmpLess_ok, Option.bind_some, if_neg (by rw [decide_eq_true_eq]; omega), ok_some, flok_nx]
    exact ⟨⟨by omega, by omega⟩, by omega⟩
  · rw [if_neg (by rw [decide_eq_true_eq]; exact h0), ok_some, flok_br, ok_some]
end Go.Pu
set_option linter.all false
namespace Go.Pu
open Go.Fw Go.Mo
def Votes (n : Nat) (v : List (List Int)) : Prop := v.length ≤ 30 ∧ ∀ p ∈ v, Ord n p
theorem votesOf_ok (n : Nat) (l : List (List Int)) (h0 : 1 ≤ n) (h : n ≤ 6) : ∃ v, pk_VotesOf_m (n : Int) l = some v ∧ v.length = min 30 l.length ∧ Votes n v := by
  have : Ok (pk_VotesOf_m (n : Int) l) (fun v => v.length = min 30 l.length ∧ ∀ p ∈ v, Ord n p) := by
    unfold pk_VotesOf_m
    have e : (if (30 : Int) < (l.length : Int) then (30 : Int) else (l.length : Int)) = ((min 30 l.length : Nat) : Int) := by omega
    rw [e, List.drop_zero, Int.toNat_natCast]
    simp only [ok_bind, ok_chk, ok_bindR, ok_some]
    refine ⟨by omega, ok_rangeL (fun k v => v.length = k ∧ ∀ p ∈ v, Ord n p) (by simp) (fun k x v hk hI => ?_) fun v hv => ⟨by rw [hv.1, List.length_take]; omega, hv.2⟩⟩
    have hk' := (List.getElem?_eq_some_iff.1 hk).1
    rw [List.length_take] at hk'
    obtain ⟨p, e1, hp⟩ := orderOf_ok n x h0 (by omega)
    unfold pk_VotesOf_b1
    simp only [ok_bind, e1, ok_chk, ok_some, flok_nx]
    refine ⟨by simp; omega, by simp [hI.1], fun q hq => ?_⟩
    rcases List.mem_append.1 hq with hq | hq
    · exact hI.2 q hq
    · simp at hq; subst hq; exact hp
  obtain ⟨v, e, h1, h2⟩ := this
  exact ⟨v, e, h1, by omega, h2⟩
theorem tally_check {n : Nat} {v : List (List Int)} (h0 : 1 ≤ n) (h6 : n ≤ 6) (h : Votes n v) : tally_Check_m (n : Int) v = some 0 := by
  apply Ok.eq
  unfold tally_Check_m
  have hl := h.1
  simp only [ok_bindR, ok_ite, ok_some, flok_nx, decide_eq_true_eq]
  refine ⟨fun _ => by omega, fun _ => ⟨fun _ => by omega, fun _ => ⟨fun _ => by omega, fun _ => ?_⟩⟩⟩
  refine ok_rangeL (fun _ _ => True) trivial (fun k x s hk _ => ?_) fun s _ => by trivial
  unfold tally_Check_b1
  rw [order_check h0 h6 (h.2 x (List.mem_of_getElem? hk))]
  simp [ok_bind, ok_ite, ok_some, flok_nx]
/-- so many have a ahead of b -/
def duel : List (List Int) → Nat → Nat → Int
  | [], _, _ => 0
  | p :: v, a, b => duel v a b + if bf p a b then 1 else 0
theorem duel_append (v w : List (List Int)) (a b : Nat) : duel (v ++ w) a b = duel v a b + duel w a b := by
  induction v with
  | nil => simp [duel]
  | cons p v ih => simp only [List.cons_append, duel, ih]; omega
theorem duel_bound (v : List (List Int)) (a b : Nat) : 0 ≤ duel v a b ∧ duel v a b ≤ v.length := by
  induction v with
  | nil => simp [duel]
  | cons p v ih => simp only [duel, List.length_cons]; split <;> omega
theorem duel_self (v : List (List Int)) (a : Nat) : duel v a a = 0 := by
  induction v with
  | nil => rfl
  | cons p v ih => simp [duel, ih, bf_self]
theorem duel_sum {n : Nat} {v : List (List Int)} (h : ∀ p ∈ v, Ord n p) {a b : Nat} (ha : a < n) (hb : b < n) (hab : a ≠ b) : duel v a b + duel v b a = v.length := by
  induction v with
  | nil => simp [duel]
  | cons p v ih =>
    have := ih fun q hq => h q (by simp [hq])
    have h1 := bf_or (h p (by simp)) ha hb hab
    simp only [duel, List.length_cons]
    cases h2 : bf p b a <;> rw [h2] at h1 <;> simp [h1] <;> omega
theorem duels_ok {n : Nat} {v : List (List Int)} (h0 : 1 ≤ n) (h6 : n ≤ 6) (h : Votes n v) : ∃ m, tally_Duels_m (n : Int) v = some (m, 0) ∧ Mat n n m (duel v) := by
  have : Ok (tally_Duels_m (n : Int) v) (fun r => r.2 = 0 ∧ Mat n n r.1 (duel v)) := by
    unfold tally_Duels_m
    rw [tally_check h0 h6 h]
    simp only [ok_bind, ok_ite, ok_chk, ok_bindR, ok_some, Int.toNat_natCast, List.length_replicate, bne_self_eq_false, Bool.false_eq_true, false_implies, true_and, not_false_eq_true, true_implies]
    refine ⟨by omega, ?_⟩
    refine ok_rangeN (fun k W => W.length = n ∧ ∀ x, x < k → nth W x = List.replicate n 0) ⟨by simp, fun x hx => by omega⟩ (fun k W hk hI => ?_) fun W hW => ?_
    · obtain ⟨h1, h2⟩ := hI
      unfold tally_Duels_b1
      simp only [ok_bind, ok_chk, ok_idx, ok_some, flok_nx, Int.toNat_natCast]
      refine ⟨by omega, by omega, by omega, by simpa using h1, fun x hx => ?_⟩
      rw [nth_set (by omega)]
      split
      · rfl
      · exact h2 x (by omega)
    · obtain ⟨h1, h2⟩ := hW
      have hM : Mat n n W (fun _ _ => 0) := ⟨h1, fun x hx => by rw [h2 x hx]; simp, fun x y hx hy => by rw [h2 x hx]; exact nth_replicate hy⟩
      refine ok_rangeL (fun k W => Mat n n W (duel (v.take k))) (by simpa [duel] using hM) (fun k p W hk hW => ?_) fun W hW => by simpa using hW
      have hp := h.2 p (List.mem_of_getElem? hk)
      have hkl := (List.getElem?_eq_some_iff.1 hk).1
      have hlen := hp.len
      unfold tally_Duels_b2
      simp only [ok_bindF, ok_some]
      have hb0 := duel_bound (v.take k)
      have hkb : ((v.take k).length : Int) ≤ 30 := by rw [List.length_take]; have := h.1; omega
      generalize hbase : duel (v.take k) = base at *
      refine ok_rangeL (fun i W => Mat n n W (fun a b => base a b + if p.idxOf (a : Int) < i ∧ p.idxOf (a : Int) < p.idxOf (b : Int) then 1 else 0)) (hW.congr fun x y hx hy => by simp) (fun i x W hi hW => ?_) fun W hW => ?_
      · obtain ⟨hx1, hil⟩ := nth_of hi
        have hx := (hp.mem x).1 (List.mem_of_getElem? hi)
        obtain ⟨a, rfl⟩ : ∃ a : Nat, x = a := ⟨x.toNat, by omega⟩
        have han : a < n := by omega
        have hia : p.idxOf (a : Int) = i := by rw [← hx1]; exact hp.idx (by omega)
        unfold tally_Duels_b3
        simp only [ok_bind, ok_chk, ok_bindF, ok_some]
        rw [wadd_of (by omega) (by omega), List.take_length, show ((i : Int) + 1).toNat = i + 1 by omega]
        refine ⟨by omega, ?_⟩
        refine ok_rangeL (fun j W => Mat n n W (fun a b => base a b + if (p.idxOf (a : Int) < i ∧ p.idxOf (a : Int) < p.idxOf (b : Int)) ∨ (p.idxOf (a : Int) = i ∧ p.idxOf (a : Int) < p.idxOf (b : Int) ∧ p.idxOf (b : Int) < i + 1 + j) then 1 else 0)) (hW.congr fun x y hx hy => ?_) (fun j y W hj hW => ?_) fun W hW => ?_
        · congr 1
          by_cases hc : p.idxOf (x : Int) < i ∧ p.idxOf (x : Int) < p.idxOf (y : Int)
          · rw [if_pos hc, if_pos (.inl hc)]
          · rw [if_neg hc, if_neg (by omega)]
        · have hjl := (List.getElem?_eq_some_iff.1 hj).1
          rw [List.length_drop] at hjl
          rw [List.getElem?_drop] at hj
          obtain ⟨hy1, _⟩ := nth_of hj
          have hy := (hp.mem y).1 (List.mem_of_getElem? hj)
          obtain ⟨b, rfl⟩ : ∃ b : Nat, y = b := ⟨y.toNat, by omega⟩
          have hbn : b < n := by omega
          have hib : p.idxOf (b : Int) = i + 1 + j := by rw [← hy1]; exact hp.idx (by omega)
          unfold tally_Duels_b4
          simp only [idx_nat, hW.row? han, Option.bind_some, hW.cell? han hbn, Int.toNat_natCast, ok_some, flok_nx]
          have := hb0 a b
          have hv : (base a b + if (p.idxOf (a : Int) < i ∧ p.idxOf (a : Int) < p.idxOf (b : Int)) ∨ (p.idxOf (a : Int) = i ∧ p.idxOf (a : Int) < p.idxOf (b : Int) ∧ p.idxOf (b : Int) < i + 1 + j) then 1 else 0) = base a b := by
            rw [if_neg (by omega)]; omega
          rw [hv, wadd_of (by omega) (by omega)]
          refine (hW.set han hbn _).congr fun x y hx hy => ?_
          by_cases hxy : x = a ∧ y = b
          · obtain ⟨rfl, rfl⟩ := hxy
            rw [if_pos ⟨rfl, rfl⟩, if_pos (by omega)]
          · rw [if_neg hxy]
            congr 1
            have hne : ¬ (p.idxOf (x : Int) = i ∧ p.idxOf (y : Int) = i + 1 + j) := fun ⟨g1, g2⟩ => hxy ⟨hp.idx_inj hx han (by omega), hp.idx_inj hy hbn (by omega)⟩
            by_cases hc : (p.idxOf (x : Int) < i ∧ p.idxOf (x : Int) < p.idxOf (y : Int)) ∨ (p.idxOf (x : Int) = i ∧ p.idxOf (x : Int) < p.idxOf (y : Int) ∧ p.idxOf (y : Int) < i + 1 + j)
            · rw [if_pos hc, if_pos (by omega)]
            · rw [if_neg hc, if_neg (by omega)]
        · refine flok_nx.2 (hW.congr fun x y hx hy => ?_)
          congr 1
          have := hp.idx_lt hy
          rw [List.length_drop]
          by_cases hc : p.idxOf (x : Int) < i + 1 ∧ p.idxOf (x : Int) < p.idxOf (y : Int)
          · rw [if_pos hc, if_pos (by omega)]
          · rw [if_neg hc, if_neg (by omega)]
      · refine flok_nx.2 (hW.congr fun x y hx hy => ?_)
        rw [List.take_succ_eq_append_getElem hkl, duel_append, hbase]
        congr 1
        have := hp.idx_lt hx
        have e1 : v[k] = p := (List.getElem?_eq_some_iff.1 hk).2
        rw [e1]
        simp only [duel, bf, decide_eq_true_eq]
        by_cases hc : p.idxOf (x : Int) < p.idxOf (y : Int)
        · rw [if_pos hc, if_pos (by omega)]; omega
        · rw [if_neg hc, if_neg (by omega)]; omega
  obtain ⟨⟨m, e⟩, h1, h2, h3⟩ := this
  simp only at h2 h3
  subst h2
  exact ⟨m, h1, h3⟩
end Go.Pu
set_option linter.all false
namespace Go.Pu
open Go.Fw Go.Mo
def lsum (f : Int → Int) : List Int → Int
  | [] => 0
  | x :: l => f x + lsum f l
theorem lsum_perm {f : Int → Int} {l m : List Int} (h : l.Perm m) : lsum f l = lsum f m := by
  induction h with
  | nil => rfl
  | cons x _ ih => simp only [lsum, ih]
  | swap x y l => simp only [lsum]; omega
  | trans _ _ h1 h2 => exact h1.trans h2
theorem lsum_append {f : Int → Int} (l m : List Int) : lsum f (l ++ m) = lsum f l + lsum f m := by
  induction l with
  | nil => simp [lsum]
  | cons x l ih => simp only [List.cons_append, lsum, ih]; omega
theorem lsum_nth {f : Int → Int} (l : List Int) : lsum f l = sumN l.length (fun i => f (nth l i)) := by
  have : ∀ k, k ≤ l.length → lsum f (l.take k) = sumN k (fun i => f (nth l i)) := by
    intro k
    induction k with
    | zero => intro _; simp [sumN, lsum]
    | succ k ih =>
      intro hk
      rw [List.take_succ_eq_append_getElem (by omega), lsum_append, ih (by omega)]
      simp only [lsum, sumN, nth_get (show k < l.length by omega)]; omega
  have := this l.length (Nat.le_refl _)
  rwa [List.take_length] at this
theorem Ord.perm_sides {n : Nat} {p : List Int} (h : Ord n p) : p.Perm (sides n) :=
  (List.perm_ext_iff_of_nodup h.nd (sides_ord n).nd).2 fun x => by rw [h.mem, (sides_ord n).mem]
theorem sides_nth {n k : Nat} (h : k < n) : nth (sides n) k = k := by
  unfold sides
  rw [nth_get (by simpa using h)]; simp
/-- a sum over the places of an order is one over the sides -/
theorem ord_sum {n : Nat} {p : List Int} (h : Ord n p) (f : Nat → Int) : sumN n (fun i => f (nth p i).toNat) = sumN n f := by
  have h1 := lsum_nth (f := fun x => f x.toNat) p
  have h2 := lsum_nth (f := fun x => f x.toNat) (sides n)
  rw [lsum_perm h.perm_sides, h2, h.len, (sides_ord n).len] at h1
  rw [← h1]
  exact sumN_congr fun i hi => by rw [sides_nth hi, Int.toNat_natCast]
theorem bf_at {n : Nat} {p : List Int} (h : Ord n p) {i j : Nat} (hi : i < n) (hj : j < n) : bf p (nth p i).toNat (nth p j).toNat = decide (i < j) := by
  have vi := h.val hi; have vj := h.val hj
  unfold bf
  rw [Int.toNat_of_nonneg vi.1, Int.toNat_of_nonneg vj.1, h.idx hi, h.idx hj]
def b1 (b : Bool) : Int := if b then 1 else 0
theorem b1_val (b : Bool) : 0 ≤ b1 b ∧ b1 b ≤ 1 := by cases b <;> simp [b1]
/-- pairs that stand otherwise -/
def kt (n : Nat) (p q : List Int) : Int := sumN n (fun x => sumN n (fun y => b1 (bf p x y && bf q y x)))
theorem sumN_lt_one {n i : Nat} {f : Nat → Int} (hi : i ≤ n) : sumN n (fun j => if j < i then f j else 0) = sumN i f := by
  induction n with
  | zero => have : i = 0 := by omega
            subst this; rfl
  | succ n ih =>
    by_cases h : i = n + 1
    · subst h
      exact sumN_congr fun j hj => if_pos hj
    · simp only [sumN]
      rw [ih (by omega), if_neg (by omega)]; omega
theorem kt_pos {n : Nat} {p q : List Int} (hp : Ord n p) : kt n p q = sumN n (fun i => sumN n (fun j => b1 (decide (i < j) && bf q (nth p j).toNat (nth p i).toNat))) := by
  unfold kt
  rw [← ord_sum hp (fun x => sumN n (fun y => b1 (bf p x y && bf q y x)))]
  refine sumN_congr fun i hi => ?_
  rw [← ord_sum hp (fun y => b1 (bf p (nth p i).toNat y && bf q y (nth p i).toNat))]
  exact sumN_congr fun j hj => by rw [bf_at hp hi hj]
theorem sumN_b1 {n : Nat} {f : Nat → Bool} : 0 ≤ sumN n (fun i => b1 (f i)) ∧ sumN n (fun i => b1 (f i)) ≤ n := by
  induction n with
  | zero => simp [sumN]
  | succ n ih => simp only [sumN]; have := b1_val (f n); omega
theorem kt_bound {n : Nat} (h6 : n ≤ 6) (p q : List Int) : 0 ≤ kt n p q ∧ kt n p q ≤ 36 := by
  unfold kt
  have l := sumN_le (n := n) (f := fun _ => 0) (g := fun x => sumN n (fun y => b1 (bf p x y && bf q y x))) fun x _ => (sumN_b1 (f := fun y => bf p x y && bf q y x)).1
  have u := sumN_le (n := n) (g := fun _ => 6) (f := fun x => sumN n (fun y => b1 (bf p x y && bf q y x))) fun x _ => by have := (sumN_b1 (n := n) (f := fun y => bf p x y && bf q y x)).2; omega
  rw [sumN_zero] at l
  rw [sumN_const] at u
  omega
theorem far_ok {n : Nat} {p q : List Int} (h0 : 1 ≤ n) (h6 : n ≤ 6) (hp : Ord n p) (hq : Ord n q) : order_Far_m p q = some (kt n p q, 0) := by
  apply Ok.eq
  have hpl := hp.len
  unfold order_Far_m
  rw [hpl, order_check h0 h6 hp, order_check h0 h6 hq]
  simp only [ok_bind, ok_bindR, ok_ite, ok_some, bne_self_eq_false, Bool.false_eq_true, false_implies, true_and, not_false_eq_true, true_implies]
  have rb : ∀ i k : Nat, 0 ≤ sumN k (fun j => b1 (decide (i < j) && bf q (nth p j).toNat (nth p i).toNat)) ∧ sumN k (fun j => b1 (decide (i < j) && bf q (nth p j).toNat (nth p i).toNat)) ≤ k := fun i k => sumN_b1
  have tb : ∀ k : Nat, 0 ≤ sumN k (fun i => sumN n (fun j => b1 (decide (i < j) && bf q (nth p j).toNat (nth p i).toNat))) ∧ sumN k (fun i => sumN n (fun j => b1 (decide (i < j) && bf q (nth p j).toNat (nth p i).toNat))) ≤ 6 * k := by
    intro k
    induction k with
    | zero => simp [sumN]
    | succ k ih => simp only [sumN]; have := rb k n; omega
  refine ok_rangeL (s := (0 : Int)) (fun (i : Nat) (c : Int) => c = sumN i (fun i => sumN n (fun j => b1 (decide (i < j) && bf q (nth p j).toNat (nth p i).toNat)))) rfl (fun i x c hi hc => ?_) fun c hc => ?_
  · obtain ⟨hx, hil⟩ := nth_of hi
    rw [hpl] at hil
    unfold order_Far_b1
    rw [wadd_of (by omega) (by omega), List.take_length, show ((i : Int) + 1).toNat = i + 1 by omega]
    simp only [ok_bind, ok_chk, ok_bindF, ok_some]
    refine ⟨by omega, ?_⟩
    have vi := hp.val hil
    refine ok_rangeL (fun (j : Nat) (c' : Int) => c' = c + sumN (i + 1 + j) (fun j => b1 (decide (i < j) && bf q (nth p j).toNat (nth p i).toNat))) ?_ (fun j y c' hj hc' => ?_) fun c' hc' => ?_
    · rw [Nat.add_zero, sumN_congr (g := fun _ => 0) (fun j hj => by rw [decide_eq_false (by omega)]; rfl), sumN_zero]; omega
    · have hjl := (List.getElem?_eq_some_iff.1 hj).1
      rw [List.length_drop] at hjl
      rw [List.getElem?_drop] at hj
      obtain ⟨hy, hjn⟩ := nth_of hj
      rw [hpl] at hjn
      have vj := hp.val hjn
      have r1 := rb i (i + 1 + j)
      have t1 := tb i
      subst hc' hc hx hy
      unfold order_Far_b2
      rw [index_ok, index_ok, if_pos ((hq.mem _).2 vi), if_pos ((hq.mem _).2 vj)]
      simp only [Option.bind_some, ok_ite, ok_some, flok_nx, decide_eq_true_eq]
      rw [show i + 1 + (j + 1) = (i + 1 + j) + 1 by omega]
      have e : sumN (i + 1 + j + 1) (fun j => b1 (decide (i < j) && bf q (nth p j).toNat (nth p i).toNat)) = sumN (i + 1 + j) (fun j => b1 (decide (i < j) && bf q (nth p j).toNat (nth p i).toNat)) + b1 (bf q (nth p (i + 1 + j)).toNat (nth p i).toNat) := by
        simp only [sumN]; rw [decide_eq_true (show i < i + 1 + j by omega), Bool.true_and]
      have eb : bf q (nth p (i + 1 + j)).toNat (nth p i).toNat = decide (q.idxOf (nth p (i + 1 + j)) < q.idxOf (nth p i)) := by
        unfold bf; rw [Int.toNat_of_nonneg vi.1, Int.toNat_of_nonneg vj.1]
      rw [e, eb]
      refine ⟨fun hgt => ?_, fun hle => ?_⟩
      · rw [wadd_of (by omega) (by omega), decide_eq_true (by omega)]; simp only [b1, if_true]; omega
      · rw [decide_eq_false (by omega)]; simp [b1]
    · rw [List.length_drop, hpl, show i + 1 + (n - (i + 1)) = n by omega] at hc'
      rw [hc', hc]; rfl
  · rw [hpl, ← kt_pos hp] at hc
    rw [hc]
theorem kt_comm (n : Nat) (p q : List Int) : kt n p q = kt n q p := by
  unfold kt
  rw [sumN_comm]
  exact sumN_congr fun x _ => sumN_congr fun y _ => by rw [Bool.and_comm]
theorem kt_third {n : Nat} {p q r : List Int} (hq : Ord n q) : kt n p r ≤ kt n p q + kt n q r := by
  unfold kt
  rw [← sumN_add]
  refine sumN_le fun x hx => ?_
  rw [← sumN_add]
  refine sumN_le fun y hy => ?_
  by_cases hxy : x = y
  · subst hxy; simp [bf_self, b1]
  · have := bf_or hq hx hy hxy
    cases h1 : bf p x y <;> cases h2 : bf r y x <;> cases h3 : bf q y x <;> rw [h3] at this <;> simp [b1, this]
theorem sumN_pos_ex {n : Nat} {f : Nat → Int} (h : ∀ x, x < n → 0 ≤ f x) (h0 : sumN n f = 0) : ∀ x, x < n → f x = 0 := by
  induction n with
  | zero => intro x hx; omega
  | succ n ih =>
    simp only [sumN] at h0
    have a := sumN_le (f := fun _ => 0) (g := f) (n := n) fun x hx => h x (by omega)
    rw [sumN_zero] at a
    have b := h n (by omega)
    intro x hx
    by_cases hxn : x = n
    · subst hxn; omega
    · exact ih (fun x hx => h x (by omega)) (by omega) x (by omega)
/-- how many stand ahead -/
theorem ahead_count {n : Nat} {p : List Int} (h : Ord n p) {x : Nat} (hx : x < n) : sumN n (fun y => b1 (bf p y x)) = p.idxOf (x : Int) := by
  rw [← ord_sum h]
  have hi := h.idx_lt hx
  have hat := h.at_idx hx
  have : sumN n (fun i => b1 (bf p (nth p i).toNat x)) = sumN n (fun i => if i < p.idxOf (x : Int) then (1 : Int) else 0) := sumN_congr fun i hi' => by
    have := bf_at h hi' hi
    rw [hat, Int.toNat_natCast] at this
    rw [this]; unfold b1; simp
  rw [this, sumN_lt_one (f := fun _ => 1) (by omega), sumN_const]; omega
theorem behind_count {n : Nat} {p : List Int} (h : Ord n p) {x : Nat} (hx : x < n) : sumN n (fun y => b1 (bf p x y)) = n - 1 - p.idxOf (x : Int) := by
  have e1 := ahead_count h hx
  have e2 : sumN n (fun y => b1 (bf p x y) + b1 (bf p y x)) = sumN n (fun y => 1 - if y = x then 1 else 0) := sumN_congr fun y hy => by
    by_cases hyx : y = x
    · subst hyx; simp [bf_self, b1]
    · have := bf_or h hx hy (Ne.symm hyx)
      cases h3 : bf p y x <;> rw [h3] at this <;> simp [b1, this, hyx]
  rw [sumN_add, sumN_sub, sumN_const, sumN_single hx] at e2
  omega
theorem ord_ext {n : Nat} {p q : List Int} (hp : Ord n p) (hq : Ord n q) (h : ∀ x y, x < n → y < n → bf p x y = bf q x y) : p = q := by
  refine nth_ext (by rw [hp.len, hq.len]) fun k hk => ?_
  rw [hp.len] at hk
  have v := hp.val hk
  obtain ⟨x, hx⟩ : ∃ x : Nat, nth p k = x := ⟨(nth p k).toNat, by omega⟩
  have hxn : x < n := by omega
  have e1 := ahead_count hp hxn
  have e2 := ahead_count hq hxn
  have e3 : sumN n (fun y => b1 (bf p y x)) = sumN n (fun y => b1 (bf q y x)) := sumN_congr fun y hy => by rw [h y x hy hxn]
  have hi := hp.idx hk
  rw [hx] at hi
  have hj : q.idxOf (x : Int) = k := by omega
  have := hq.at_idx hxn
  rw [hj] at this
  rw [hx, this]
theorem kt_zero {n : Nat} {p q : List Int} (hp : Ord n p) (hq : Ord n q) : kt n p q = 0 ↔ p = q := by
  constructor
  · intro h0
    unfold kt at h0
    have h1 := sumN_pos_ex (fun x _ => (sumN_b1 (f := fun y => bf p x y && bf q y x)).1) h0
    refine ord_ext hp hq fun x y hx hy => ?_
    by_cases hxy : x = y
    · subst hxy; simp [bf_self]
    · have a := sumN_pos_ex (fun y _ => (b1_val _).1) (h1 x hx) y hy
      have b := sumN_pos_ex (fun y _ => (b1_val _).1) (h1 y hy) x hx
      have c := bf_or hp hx hy hxy
      have d := bf_or hq hx hy hxy
      cases h3 : bf p y x <;> cases h4 : bf q y x <;> rw [h3] at c b <;> rw [h4] at d a <;> rw [c] at a <;> rw [d] at b <;> simp [b1] at a b <;> rw [c, d]
  · rintro rfl
    unfold kt
    rw [sumN_congr (g := fun _ => 0) (fun x hx => ?_), sumN_zero]
    rw [sumN_congr (g := fun _ => 0) (fun y hy => ?_), sumN_zero]
    by_cases hxy : x = y
    · subst hxy; simp [bf_self, b1]
    · have c := bf_or hp hx hy hxy
      cases h3 : bf p y x <;> rw [h3] at c <;> simp [b1, c]
theorem orders_t : pk_orders_m = some true := by decide +kernel
end Go.Pu
set_option linter.all false
namespace Go.Pu
open Go.Fw Go.Mo
def pts (n : Nat) : List (List Int) → Nat → Int
  | [], _ => 0
  | p :: v, x => pts n v x + (n - 1 - p.idxOf (x : Int))
def fst1 : List (List Int) → Nat → Int
  | [], _ => 0
  | p :: v, x => fst1 v x + if p.idxOf (x : Int) = 0 then 1 else 0
theorem pts_append (n : Nat) (v w : List (List Int)) (x : Nat) : pts n (v ++ w) x = pts n v x + pts n w x := by
  induction v with
  | nil => simp [pts]
  | cons p v ih => simp only [List.cons_append, pts, ih]; omega
theorem fst1_append (v w : List (List Int)) (x : Nat) : fst1 (v ++ w) x = fst1 v x + fst1 w x := by
  induction v with
  | nil => simp [fst1]
  | cons p v ih => simp only [List.cons_append, fst1, ih]; omega
theorem pts_bound {n : Nat} (h0 : 1 ≤ n) (h6 : n ≤ 6) {v : List (List Int)} (h : ∀ p ∈ v, Ord n p) {x : Nat} (hx : x < n) : 0 ≤ pts n v x ∧ pts n v x ≤ 6 * v.length := by
  induction v with
  | nil => simp [pts]
  | cons p v ih =>
    have := ih fun q hq => h q (by simp [hq])
    have := (h p (by simp)).idx_lt hx
    simp only [pts, List.length_cons]; omega
theorem fst1_bound (v : List (List Int)) (x : Nat) : 0 ≤ fst1 v x ∧ fst1 v x ≤ v.length := by
  induction v with
  | nil => simp [fst1]
  | cons p v ih => simp only [fst1, List.length_cons]; split <;> omega
theorem points_ok {n : Nat} {v : List (List Int)} (h0 : 1 ≤ n) (h6 : n ≤ 6) (h : Votes n v) : ∃ a, tally_Points_m (n : Int) v = some (a, 0) ∧ Vec n a (pts n v) := by
  have : Ok (tally_Points_m (n : Int) v) (fun r => r.2 = 0 ∧ Vec n r.1 (pts n v)) := by
    unfold tally_Points_m
    rw [tally_check h0 h6 h]
    simp only [ok_bind, ok_ite, ok_chk, ok_bindR, ok_some, Int.toNat_natCast, bne_self_eq_false, Bool.false_eq_true, false_implies, true_and, not_false_eq_true, true_implies]
    refine ⟨by omega, ok_rangeL (fun k a => Vec n a (pts n (v.take k))) (Vec.zero.congr fun x _ => by simp [pts]) (fun k p a hk hI => ?_) fun a ha => by rw [List.take_length] at ha; exact ha⟩
    have hp := h.2 p (List.mem_of_getElem? hk)
    have hkl := (List.getElem?_eq_some_iff.1 hk).1
    have pb : ∀ x, x < n → 0 ≤ pts n (v.take k) x ∧ pts n (v.take k) x ≤ 200 := fun x hx => by
      have := pts_bound h0 h6 (v := v.take k) (fun q hq => h.2 q (List.mem_of_mem_take hq)) hx
      have := h.1
      rw [List.length_take] at *; omega
    unfold tally_Points_b1
    simp only [ok_bindF, ok_some]
    refine ok_rangeL (fun i a => Vec n a (fun x => pts n (v.take k) x + if p.idxOf (x : Int) < i then ((n : Int) - 1 - p.idxOf (x : Int)) else 0)) (hI.congr fun x _ => by simp) (fun i y a hi hI => ?_) fun a ha => flok_nx.2 (ha.congr fun x hx => ?_)
    · obtain ⟨hy, hil⟩ := nth_of hi
      rw [hp.len] at hil
      have vy := hp.val hil
      obtain ⟨x, hx⟩ : ∃ x : Nat, y = x := ⟨y.toNat, by omega⟩
      have hxn : x < n := by omega
      have hidx : p.idxOf (x : Int) = i := by rw [← hx, ← hy]; exact hp.idx hil
      have b := pb x hxn
      subst hx
      unfold tally_Points_b2
      simp only [idx_nat, hI.at? hxn, Option.bind_some, ok_some, flok_nx, Int.toNat_natCast, hidx, Nat.lt_irrefl, if_false]
      rw [wsub_of (x := (n : Int)) (by omega) (by omega), wsub_of (by omega) (by omega), wadd_of (by omega) (by omega)]
      refine (hI.set hxn _).congr fun z hz => ?_
      by_cases hzx : z = x
      · subst hzx; rw [if_pos rfl, if_pos (by omega), hidx]; omega
      · rw [if_neg hzx]
        have hne : p.idxOf (z : Int) ≠ i := fun e => hzx (hp.idx_inj hz hxn (by omega))
        by_cases hlt : p.idxOf (z : Int) < i
        · rw [if_pos hlt, if_pos (by omega)]
        · rw [if_neg hlt, if_neg (by omega)]
    · have := hp.idx_lt hx
      rw [hp.len, if_pos this, List.take_succ_eq_append_getElem hkl, pts_append]
      have e1 : v[k] = p := (List.getElem?_eq_some_iff.1 hk).2
      rw [e1]; simp only [pts]; omega
  obtain ⟨⟨a, e⟩, h1, h2, h3⟩ := this
  simp only at h2 h3
  subst h2
  exact ⟨a, h1, h3⟩
theorem firsts_ok {n : Nat} {v : List (List Int)} (h0 : 1 ≤ n) (h6 : n ≤ 6) (h : Votes n v) : ∃ a, tally_Firsts_m (n : Int) v = some (a, 0) ∧ Vec n a (fst1 v) := by
  have : Ok (tally_Firsts_m (n : Int) v) (fun r => r.2 = 0 ∧ Vec n r.1 (fst1 v)) := by
    unfold tally_Firsts_m
    rw [tally_check h0 h6 h]
    simp only [ok_bind, ok_ite, ok_chk, ok_bindR, ok_some, Int.toNat_natCast, bne_self_eq_false, Bool.false_eq_true, false_implies, true_and, not_false_eq_true, true_implies]
    refine ⟨by omega, ok_rangeL (fun k a => Vec n a (fst1 (v.take k))) (Vec.zero.congr fun x _ => by simp [fst1]) (fun k p a hk hI => ?_) fun a ha => by rw [List.take_length] at ha; exact ha⟩
    have hp := h.2 p (List.mem_of_getElem? hk)
    have hkl := (List.getElem?_eq_some_iff.1 hk).1
    have hn0 : 0 < n := by omega
    have vy := hp.val hn0
    obtain ⟨x, hx⟩ : ∃ x : Nat, nth p 0 = x := ⟨(nth p 0).toNat, by omega⟩
    have hxn : x < n := by omega
    have hidx : p.idxOf (x : Int) = 0 := by rw [← hx]; exact hp.idx hn0
    have b := fst1_bound (v.take k) x
    have hb : ((v.take k).length : Int) ≤ 30 := by rw [List.length_take]; have := h.1; omega
    unfold tally_Firsts_b1
    rw [show idx p (0 : Int) = some (x : Int) by rw [show (0 : Int) = ((0 : Nat) : Int) from rfl, idx_nat, nth_at (by rw [hp.len]; exact hn0), hx]]
    simp only [idx_nat, hI.at? hxn, Option.bind_some, ok_some, flok_nx, Int.toNat_natCast]
    rw [wadd_of (by omega) (by omega)]
    refine (hI.set hxn _).congr fun z hz => ?_
    rw [List.take_succ_eq_append_getElem hkl, fst1_append]
    have e1 : v[k] = p := (List.getElem?_eq_some_iff.1 hk).2
    rw [e1]; simp only [fst1]
    by_cases hzx : z = x
    · subst hzx; rw [if_pos rfl, if_pos hidx]; omega
    · rw [if_neg hzx, if_neg fun e => hzx (hp.idx_inj hz hxn (by omega))]; omega
  obtain ⟨⟨a, e⟩, h1, h2, h3⟩ := this
  simp only at h2 h3
  subst h2
  exact ⟨a, h1, h3⟩
theorem duel_pts {n : Nat} {v : List (List Int)} (h : ∀ p ∈ v, Ord n p) {x : Nat} (hx : x < n) : sumN n (fun y => duel v x y) = pts n v x := by
  induction v with
  | nil => simp only [duel, pts, sumN_zero]
  | cons p v ih =>
    have := ih fun q hq => h q (by simp [hq])
    simp only [duel, pts]
    rw [sumN_add, this]
    have := behind_count (h p (by simp)) hx
    unfold b1 at this
    rw [this]
theorem fst1_sum {n : Nat} (h0 : 1 ≤ n) {v : List (List Int)} (h : ∀ p ∈ v, Ord n p) : sumN n (fst1 v) = v.length := by
  induction v with
  | nil => simp only [fst1, sumN_zero, List.length_nil]; rfl
  | cons p v ih =>
    have e := ih fun q hq => h q (by simp [hq])
    have hp := h p (by simp)
    have : sumN n (fst1 (p :: v)) = sumN n (fst1 v) + sumN n (fun x => if x = (nth p 0).toNat then 1 else 0) := by
      rw [← sumN_add]
      refine sumN_congr fun x hx => ?_
      simp only [fst1]
      congr 1
      have v0 := hp.val (show 0 < n by omega)
      by_cases hxz : x = (nth p 0).toNat
      · rw [if_pos hxz, if_pos]
        rw [hxz, Int.toNat_of_nonneg v0.1]; exact hp.idx (by omega)
      · rw [if_neg hxz, if_neg]
        intro e; apply hxz
        have := hp.at_idx hx
        rw [e] at this; omega
    have v0 := hp.val (show 0 < n by omega)
    rw [this, e, sumN_single (by omega), List.length_cons]; omega
theorem tallies_t' : pk_tallies_m = some true := by decide +kernel
theorem TallySums (x0 : Int) (_ : (Lit.int .i64 x0).wf = true) (x1 : List (List Int)) (_ : (∀ r ∈ x1, (∀ x ∈ r, (Lit.int .i64 x).wf = true) ∧ r.length ≤ maxLen) ∧ x1.length ≤ maxLen) : pk_TallySums_m x0 x1 = some true := by
  obtain ⟨n, n1, n6, hn⟩ := one_within x0 6 (by decide) (by decide)
  rw [show ((6 : Nat) : Int) = 6 from rfl] at hn
  obtain ⟨v, ev, _, hv⟩ := votesOf_ok n x1 n1 n6
  obtain ⟨m, em, hM⟩ := duels_ok n1 n6 hv
  obtain ⟨a, ea, ha⟩ := points_ok n1 n6 hv
  obtain ⟨f, ef, hf⟩ := firsts_ok n1 n6 hv
  have hvl := hv.1
  apply Ok.eq
  unfold pk_TallySums_m
  rw [tallies_t']
  simp only [Option.bind_some, Bool.not_true, Bool.false_eq_true, if_false, within_at x0 6 (by decide) (by decide), hn, ev, em, ea, ef, good_at]
  simp only [ok_bind, ok_bindR, ok_ite, ok_chk, ok_some, flok_nx, hM.len, ha.len, hf.len, List.all_cons, List.all_nil, Bool.and_self, beq_self_eq_true, bne_self_eq_false, Bool.not_true, Bool.false_eq_true, false_implies, true_and, not_false_eq_true, true_implies, Int.toNat_natCast]
  refine ⟨by omega, ok_rangeN (s := (0 : Int)) (fun (x : Nat) (c : Int) => c = sumN x (fst1 v)) rfl (fun x c hx hc => ?_) fun c hc => ?_⟩
  · have fb : ∀ k : Nat, 0 ≤ sumN k (fst1 v) ∧ sumN k (fst1 v) ≤ 30 * k := by
      intro k
      induction k with
      | zero => simp [sumN]
      | succ k ih => simp only [sumN]; have := fst1_bound v k; omega
    have fx := fb x
    have f1 := fst1_bound v x
    have dp := duel_pts hv.2 hx
    unfold pk_TallySums_b1
    simp only [idx_nat, hM.row? hx, Option.bind_some, ok_bind, ok_chk, ok_ite, ok_bindF, ok_some, flok_nx, flok_rt, hM.row x hx, hn, bne_self_eq_false, Bool.false_eq_true, false_implies, true_and, not_false_eq_true, true_implies, Int.toNat_natCast]
    refine ⟨by omega, ok_rangeN (s := (0 : Int)) (fun (y : Nat) (c : Int) => c = sumN y (fun y => duel v x y)) rfl (fun y c hy hc => ?_) fun d hd => ?_⟩
    · have db : ∀ k : Nat, 0 ≤ sumN k (fun y => duel v x y) ∧ sumN k (fun y => duel v x y) ≤ 30 * k := by
        intro k
        induction k with
        | zero => simp [sumN]
        | succ k ih => simp only [sumN]; have := duel_bound v x k; omega
      have d1 := db y
      have d2 := duel_bound v x y
      have d3 := duel_bound v y x
      have ds : x ≠ y → duel v x y + duel v y x = v.length := fun h => duel_sum hv.2 hx hy h
      unfold pk_TallySums_b2
      simp only [idx_nat, hM.row? hx, hM.row? hy, hM.cell? hx hy, hM.cell? hy hx, Option.bind_some, ok_bindF, ok_ite, ok_some, flok_nx, flok_rt, hM.row y hy, hn, bne_self_eq_false, Bool.false_eq_true, false_implies, true_and, not_false_eq_true, true_implies, bne_iff_ne]
      subst hc
      rw [wadd_of (x := duel v x y) (by omega) (by omega), wadd_of (by omega) (by omega)]
      simp only [sumN]
      grind
    · rw [dp] at hd
      subst hd hc
      simp only [flok_nx, idx_nat, hf.at? hx, ha.at? hx, Option.bind_some, ok_bindF, ok_ite, ok_some, flok_rt, bne_self_eq_false, decide_eq_true_eq, Bool.false_eq_true, false_implies, true_and, not_false_eq_true, true_implies]
      rw [wadd_of (by omega) (by omega)]
      simp only [sumN]
      grind
  · rw [fst1_sum n1 hv.2] at hc
    simp [flok_nx, ok_some, hc]
end Go.Pu
set_option linter.all false
namespace Go.Pu
open Go.Fw Go.Mo
theorem reverse_gen {α ρ : Type} [Inhabited α] {body : List α × Int × Int → Option (Fl ρ (List α × Int × Int) (List α × Int × Int))}
    (hb : ∀ l x y, body (l, x, y) = if decide (x < y) then (idx l y).bind fun a => (idx l x).bind fun b => (idx l x).bind fun _ => (idx (List.set l x.toNat a) y).bind fun _ => some (.nx ((List.set (List.set l x.toNat a) y.toNat b), wadd x 1, wsub y 1)) else some (.br (l, x, y)))
    (l : List α) (h : l.length ≤ 1000000) : Ok (loopM (γ := Unit) body 1048576 (l, (0 : Int), wsub (l.length : Int) 1)) (FlOk (fun s => s.1 = l.reverse) (fun _ => False) (fun _ => False)) := by
  rw [wsub_of (by omega) (by omega)]
  refine ok_loopM (fun s => s.1.length = l.length ∧ 0 ≤ s.2.1 ∧ s.2.1 ≤ s.2.2 + 1 ∧ s.2.1 + s.2.2 = (l.length : Int) - 1 ∧ ∀ k : Nat, k < l.length → nth s.1 k = if (k : Int) < s.2.1 ∨ s.2.2 < (k : Int) then nth l (l.length - 1 - k) else nth l k) (fun s => (s.2.2 - s.2.1 + 1).toNat) (fun s hs => ?_) 1048576 _ ⟨rfl, by simp, by simp, by simp, fun k hk => ?_⟩ ?_
  · obtain ⟨m, x, y⟩ := s
    obtain ⟨h1, h2, h3, h4, h5⟩ := hs
    simp only at h1 h2 h3 h4 h5
    rw [hb]
    simp only [decide_eq_true_eq]
    rw [ok_ite]
    refine ⟨fun hlt => ?_, fun hge => ?_⟩
    · simp only [ok_bind, ok_idx, ok_some, flok_nx, List.length_set, h1]
      rw [wadd_of (by omega) (by omega), wsub_of (by omega) (by omega)]
      refine ⟨by omega, by omega, by omega, by omega, by omega, by omega, by omega, by omega, ⟨trivial, by omega, by omega, by omega, fun k hk => ?_⟩, by omega⟩
      have e1 := h5 x.toNat (by omega)
      have e2 := h5 y.toNat (by omega)
      rw [if_neg (by omega)] at e1 e2
      rw [nth_set (by rw [List.length_set]; omega), nth_set (by omega), e1, e2]
      have hx : l.length - 1 - x.toNat = y.toNat := by omega
      have hy : l.length - 1 - y.toNat = x.toNat := by omega
      by_cases c1 : k = y.toNat
      · subst c1; rw [if_pos rfl, if_pos (by omega), hy]
      · rw [if_neg c1]
        by_cases c2 : k = x.toNat
        · subst c2; rw [if_pos rfl, if_pos (by omega), hx]
        · rw [if_neg c2, h5 k hk]
          by_cases c3 : (k : Int) < x ∨ y < (k : Int)
          · rw [if_pos c3, if_pos (by omega)]
          · rw [if_neg c3, if_neg (by omega)]
    · rw [ok_some, flok_br]
      refine nth_ext (by rw [h1, List.length_reverse]) fun k hk => ?_
      rw [h1] at hk
      have hr : nth l.reverse k = nth l (l.length - 1 - k) := by
        rw [nth_get (by rw [List.length_reverse]; exact hk), nth_get (by omega), List.getElem_reverse]
      rw [h5 k hk, hr]
      split
      · rfl
      · rw [show l.length - 1 - k = k by omega]
  · simp only
    rw [if_neg (by omega)]
  · simp only; omega
theorem reverse_ok (l : List Int) (h : l.length ≤ 1000000) : slices_Reverse_int_int_m l = some l.reverse := by
  apply Ok.eq
  unfold slices_Reverse_int_int_m
  rw [ok_bindR]
  refine (reverse_gen (fun l x y => rfl) l h).mono ?_
  rintro (⟨m, x, y⟩ | _ | _) hs
  · exact ok_some.2 hs
  · exact hs.elim
  · exact hs.elim
theorem reverse_rows_ok (l : List (List Int)) (h : l.length ≤ 1000000) : slices_Reverse_rows_m l = some l.reverse := by
  apply Ok.eq
  unfold slices_Reverse_rows_m
  rw [ok_bindR]
  refine (reverse_gen (fun l x y => rfl) l h).mono ?_
  rintro (⟨m, x, y⟩ | _ | _) hs
  · exact ok_some.2 hs
  · exact hs.elim
  · exact hs.elim
theorem clone_ok (l : List Int) (h : l.length ≤ 1000000) : slices_Clone_int_int_m l = some l := by
  unfold slices_Clone_int_int_m; rw [chk_t (by omega)]; rfl
theorem nth_rev {α : Type} [Inhabited α] {l : List α} {k : Nat} (h : k < l.length) : nth l.reverse k = nth l (l.length - 1 - k) := by
  rw [nth_get (by rw [List.length_reverse]; exact h), nth_get (by omega), List.getElem_reverse]
theorem Ord.rev {n : Nat} {p : List Int} (h : Ord n p) : Ord n p.reverse := h.perm (List.reverse_perm p)
theorem rev_idx {n : Nat} {p : List Int} (h : Ord n p) {x : Nat} (hx : x < n) : p.reverse.idxOf (x : Int) = n - 1 - p.idxOf (x : Int) := by
  have hi := h.idx_lt hx
  have e : nth p.reverse (n - 1 - p.idxOf (x : Int)) = x := by
    rw [nth_rev (by rw [h.len]; omega), h.len, show n - 1 - (n - 1 - p.idxOf (x : Int)) = p.idxOf (x : Int) by omega]
    exact h.at_idx hx
  have := h.rev.idx (k := n - 1 - p.idxOf (x : Int)) (by omega)
  rw [e] at this
  exact this
theorem rev_bf {n : Nat} {p : List Int} (h : Ord n p) {x y : Nat} (hx : x < n) (hy : y < n) : bf p.reverse x y = bf p y x := by
  unfold bf
  rw [rev_idx h hx, rev_idx h hy]
  have := h.idx_lt hx
  have := h.idx_lt hy
  congr 1
  apply propext; omega
def turnV (v : List (List Int)) : List (List Int) := v.map List.reverse
theorem turn_votes {n : Nat} {v : List (List Int)} (hv : Votes n v) : Votes n (turnV v) := ⟨by unfold turnV; rw [List.length_map]; exact hv.1, fun q hq => by
  obtain ⟨p, hp, rfl⟩ := List.mem_map.1 hq
  exact (hv.2 p hp).rev⟩
theorem turn_duel {n : Nat} {v : List (List Int)} (hv : ∀ p ∈ v, Ord n p) {x y : Nat} (hx : x < n) (hy : y < n) : duel (turnV v) x y = duel v y x := by
  induction v with
  | nil => rfl
  | cons p v ih =>
    have := ih fun q hq => hv q (by simp [hq])
    unfold turnV at this ⊢
    simp only [List.map_cons, duel, this, rev_bf (hv p (by simp)) hx hy]
theorem turn_pts {n : Nat} {v : List (List Int)} (hv : ∀ p ∈ v, Ord n p) {x : Nat} (hx : x < n) : pts n v x + pts n (turnV v) x = ((n : Int) - 1) * v.length := by
  induction v with
  | nil => simp [pts, turnV]
  | cons p v ih =>
    have := ih fun q hq => hv q (by simp [hq])
    have h1 := rev_idx (hv p (by simp)) hx
    have h2 := (hv p (by simp)).idx_lt hx
    unfold turnV at this ⊢
    simp only [List.map_cons, pts, List.length_cons, h1]
    rw [Int.natCast_add, Int.mul_add]
    omega
theorem turned_ok {n : Nat} (h6 : n ≤ 6) {v : List (List Int)} (hv : Votes n v) : pk_turned_m v = some (turnV v) := by
  apply Ok.eq
  unfold pk_turned_m
  have h30 := hv.1
  rw [ok_bindR]
  refine ok_rangeL (fun k (s : List (List Int)) => s = turnV (v.take k)) rfl (fun k r s hk hI => ?_) fun s hs => by rw [ok_some, hs, List.take_length]
  have et : v.take (k + 1) = v.take k ++ [r] := by rw [List.take_succ, hk]; rfl
  have hr : Ord n r := hv.2 r (List.mem_of_getElem? hk)
  have hrl := hr.len
  have sl : s.length ≤ 30 := by rw [hI]; unfold turnV; rw [List.length_map, List.length_take]; omega
  unfold pk_turned_b1
  rw [clone_ok r (by omega), Option.bind_some, reverse_ok r (by omega), Option.bind_some, chk_t (by simp; omega), Option.bind_some, ok_some, flok_nx, et, hI]
  unfold turnV
  rw [List.map_append]; rfl
end Go.Pu
set_option linter.all false
namespace Go.Pu
open Go.Fw Go.Mo
theorem nodup_sub {α : Type} [BEq α] [LawfulBEq α] : ∀ {l m : List α}, l.Nodup → (∀ x ∈ l, x ∈ m) → l.length ≤ m.length
  | [], m, _, _ => Nat.zero_le _
  | a :: l, m, hn, hs => by
    have ha := hs a (by simp)
    rw [List.nodup_cons] at hn
    have := nodup_sub (l := l) (m := m.erase a) hn.2 fun x hx => by
      have hxa : x ≠ a := fun e => by subst e; exact hn.1 hx
      exact (List.mem_erase_of_ne hxa).2 (hs x (List.mem_cons_of_mem _ hx))
    rw [List.length_erase_of_mem ha] at this
    have := List.length_pos_of_mem ha
    simp only [List.length_cons]; omega
def inds (n : Nat) : List Int := (List.range n).map fun (i : Nat) => (i : Int)
theorem inds_len {n : Nat} : (inds n).length = n := by simp [inds]
theorem inds_mem {n : Nat} {x : Int} : x ∈ inds n ↔ 0 ≤ x ∧ x < n := by
  unfold inds
  rw [List.mem_map]
  constructor
  · rintro ⟨i, hi, rfl⟩; rw [List.mem_range] at hi; omega
  · intro h; exact ⟨x.toNat, by rw [List.mem_range]; omega, by omega⟩
theorem inds_asc {n : Nat} : (inds n).Pairwise (· < ·) := by
  unfold inds
  rw [List.pairwise_map]
  exact List.pairwise_lt_range.imp fun h => by omega
theorem inds_nodup {n : Nat} : (inds n).Nodup := inds_asc.imp fun h e => by omega
theorem nth_inds {n k : Nat} (h : k < n) : nth (inds n) k = (k : Int) := by
  unfold inds; rw [nth_get (by simpa using h)]; simp
theorem fill_ok {ρ : Type} {b : Nat → List Int → Option (Fl ρ (List Int) (List Int))} {n : Nat} (hb : ∀ i l, i < n → l.length = n → b i l = some (.nx (l.set i (i : Int)))) (s : List Int) (hs : s.length = n) : rangeN (γ := Unit) b n 0 s = some (.nx (inds n)) := by
  obtain ⟨v, e, h⟩ := ok_rangeN (γ := Unit) (body := b) (n := n) (s := s) (B := fun _ => False) (R := fun _ => False) (N := fun l => l = inds n) (fun k l => l.length = n ∧ ∀ i, i < k → nth l i = (i : Int)) ⟨hs, fun i hi => by omega⟩ (fun k l hk hI => by
    rw [hb k l hk hI.1, ok_some, flok_nx]
    refine ⟨by rw [List.length_set, hI.1], fun i hi => ?_⟩
    rw [nth_set (by rw [hI.1]; exact hk)]
    by_cases h : i = k
    · rw [if_pos h, h]
    · rw [if_neg h]; exact hI.2 i (by omega)) (fun l hl => nth_ext (by rw [hl.1, inds_len]) fun k hk => by
    rw [hl.1] at hk
    rw [hl.2 k hk, nth_inds hk])
  cases v with
  | nx s => rw [e]; rw [flok_nx] at h; rw [h]
  | br _ => exact h.elim
  | rt _ => exact h.elim
/-- those who have one, and the price -/
structure Sold (l : List Int) (n : Int) (w : List Int) (p : Int) : Prop where
  len : (w.length : Int) = if n < (l.length : Int) then n else (l.length : Int)
  asc : w.Pairwise (· < ·)
  rng : ∀ x ∈ w, 0 ≤ x ∧ x < (l.length : Int)
  ge : ∀ x ∈ w, p ≤ nth l x.toNat
  le : ∀ i, i < l.length → (i : Int) ∉ w → nth l i ≤ p
  all : (l.length : Int) ≤ n → p = 0
  one : n < (l.length : Int) → ∃ j, j < l.length ∧ (j : Int) ∉ w ∧ nth l j = p
  tie : ∀ x ∈ w, ∀ j : Nat, j < l.length → (j : Int) ∉ w → nth l j < nth l x.toNat ∨ (nth l j = nth l x.toNat ∧ x < (j : Int))
  fst : n = 1 → ∀ x ∈ w, ∀ j : Nat, (j : Int) < x → nth l j < nth l x.toNat
theorem sortedAsc {l m : List Int} (h : Sorted (fun a b : Int => decide (a < b)) l m) (hn : l.Nodup) : m.Pairwise (· < ·) := by
  have hn' : m.Nodup := h.perm.nodup_iff.2 hn
  exact (List.pairwise_and_iff.2 ⟨h.asc, hn'⟩).imp fun ⟨a, b⟩ => by simp at a; omega
theorem sell_ok {l : List Int} {n : Int} (h : Bids l) (h0 : 0 ≤ n ∧ n ≤ 10) : ∃ w p, units_Sell_m l n = some (w, p, 0) ∧ Sold l n w p := by
  have hl := h.1
  have hw : Weak (fun a b : Int => decide (nth l b.toNat < nth l a.toNat)) := ⟨fun a b h => by simp at h ⊢; omega, fun a b c h1 h2 => by simp at h1 h2 ⊢; omega⟩
  obtain ⟨m, em, hm⟩ := sortStable_int (l := inds l.length) (g := fun a0 a1 => units_Sell_1_m a0 a1 l) hw (fun a ha b hb => by
    rw [inds_mem] at ha hb
    have va := h.at (k := a.toNat) (by omega)
    have vb := h.at (k := b.toNat) (by omega)
    refine ⟨nth l b.toNat - nth l a.toNat, ?_, ?_⟩
    · unfold units_Sell_1_m
      rw [idx_at hb.1, nth_at (by omega), Option.bind_some, idx_at ha.1, nth_at (by omega), Option.bind_some, wsub_of (by omega) (by omega)]
    · rw [decide_eq_decide]; omega) (by rw [inds_len]; omega)
  have hml : m.length = l.length := by rw [hm.perm.length_eq, inds_len]
  have hmm : ∀ x, x ∈ m ↔ 0 ≤ x ∧ x < (l.length : Int) := fun x => by rw [hm.perm.mem_iff, inds_mem]
  have hmn : m.Nodup := hm.perm.nodup_iff.2 inds_nodup
  have hle : ∀ {i j : Nat}, i < j → j < m.length → nth l (nth m j).toNat ≤ nth l (nth m i).toNat := fun {i j} hij hj => by
    have := (List.pairwise_iff_getElem.1 hm.asc) i j (by omega) hj hij
    rw [← nth_get hj, ← nth_get (by omega : i < m.length)] at this
    simpa using this
  have hne : ∀ {i j : Nat}, i < j → j < m.length → nth m i ≠ nth m j := fun {i j} hij hj => by
    have := (List.pairwise_iff_getElem.1 hmn) i j (by omega) hj hij
    rwa [← nth_get hj, ← nth_get (by omega : i < m.length)] at this
  unfold units_Sell_m
  rw [bids_check h (by decide) (by decide), Option.bind_some, if_neg (by decide), if_neg (by rw [decide_eq_true_eq]; omega)]
  simp only [bindR]
  rw [if_neg (by rw [decide_eq_true_eq]; omega), chk_t ⟨by omega, by omega⟩, Option.bind_some, Int.toNat_natCast, List.length_replicate, fill_ok (fun i s hi hs => by
    unfold units_Sell_b1
    rw [idx_nat, nth_at (by omega), Option.bind_some]) _ (List.length_replicate ..)]
  dsimp only
  rw [em, Option.bind_some]
  have hcol : ∀ q, q ≤ m.length → (m.take q).Nodup := fun q _ => hmn.sublist (List.take_sublist _ _)
  by_cases hn : n < (l.length : Int)
  · have nn : (n.toNat : Int) = n := by omega
    have hnm : n.toNat < m.length := by omega
    have hmem := (hmm (nth m n.toNat)).1 (nth_mem hnm)
    rw [if_pos (by rw [decide_eq_true_eq, hml]; exact hn), idx_at h0.1, nth_at hnm, Option.bind_some, idx_at hmem.1, nth_at (by omega), Option.bind_some, chk_t ⟨h0.1, by omega⟩, Option.bind_some]
    dsimp only
    obtain ⟨w, ew, hw'⟩ := sort_ok (l := m.take n.toNat) (by rw [List.length_take]; omega)
    rw [ew, Option.bind_some]
    refine ⟨w, nth l (nth m n.toNat).toNat, rfl, ?_⟩
    have hin : ∀ x, x ∈ w ↔ ∃ k, k < n.toNat ∧ nth m k = x := fun x => by
      rw [hw'.perm.mem_iff]
      constructor
      · intro hx
        obtain ⟨k, hk, e⟩ := mem_nth hx
        rw [List.length_take] at hk
        rw [nth_take (by omega)] at e
        exact ⟨k, by omega, e⟩
      · rintro ⟨k, hk, rfl⟩
        rw [← nth_take hk]; exact nth_mem (by rw [List.length_take]; omega)
    refine ⟨?_, sortedAsc hw' (hcol _ (by omega)), fun x hx => ?_, fun x hx => ?_, fun i hi hx => ?_, fun hh => by omega, fun _ => ?_, fun x hx j hj hjw => ?_, fun h1 x hx j hj => ?_⟩
    · rw [if_pos hn, hw'.perm.length_eq, List.length_take]; omega
    · obtain ⟨k, hk, rfl⟩ := (hin x).1 hx
      exact (hmm _).1 (nth_mem (by omega))
    · obtain ⟨k, hk, rfl⟩ := (hin x).1 hx
      exact hle hk hnm
    · obtain ⟨k, hk, e⟩ := mem_nth ((hmm (i : Int)).2 ⟨by omega, by omega⟩)
      have hkn : ¬ k < n.toNat := fun hh => hx ((hin _).2 ⟨k, hh, e⟩)
      by_cases e2 : k = n.toNat
      · rw [← e2, e, Int.toNat_natCast]; exact Int.le_refl _
      · have := hle (show n.toNat < k by omega) hk
        rwa [e, Int.toNat_natCast] at this
    · refine ⟨(nth m n.toNat).toNat, by omega, fun hx => ?_, rfl⟩
      obtain ⟨k, hk, e⟩ := (hin _).1 hx
      exact hne hk hnm (by omega)
    · obtain ⟨k, hk, rfl⟩ := (hin x).1 hx
      obtain ⟨i, hi, e⟩ := mem_nth ((hmm (j : Int)).2 ⟨by omega, by omega⟩)
      have hki : k < i := by
        apply Decidable.byContradiction; intro hno
        exact hjw ((hin _).2 ⟨i, by omega, e⟩)
      have h1 := hle hki hi
      rw [e, Int.toNat_natCast] at h1
      by_cases he : nth l j = nth l (nth m k).toNat
      · right
        refine ⟨he, ?_⟩
        have hst := hm.stable (fun y => nth l y.toNat == nth l j) (fun a b ha hb => by
          rw [beq_iff_eq] at ha hb; rw [ha, hb, decide_eq_false_iff_not]; omega)
        have hasc : (m.filter (fun y => nth l y.toNat == nth l j)).Pairwise (· < ·) := by
          rw [hst]; exact inds_asc.sublist List.filter_sublist
        rw [List.pairwise_filter] at hasc
        have := (List.pairwise_iff_getElem.1 hasc) k i (by omega) hi hki
        rw [← nth_get hi, ← nth_get (by omega : k < m.length), e] at this
        exact this (by rw [beq_iff_eq, he]) (by rw [beq_iff_eq, Int.toNat_natCast])
      · left; omega
    · obtain ⟨k, hk, rfl⟩ := (hin x).1 hx
      have k0 : k = 0 := by omega
      subst k0
      have hx0 := (hmm (nth m 0)).1 (nth_mem (by omega))
      have hst := hm.stable (fun y => nth l y.toNat == nth l (nth m 0).toNat) (fun a b ha hb => by
        rw [beq_iff_eq] at ha hb; rw [ha, hb, decide_eq_false_iff_not]; omega)
      have hjl : nth l j ≤ nth l (nth m 0).toNat := by
        obtain ⟨k, hk, e⟩ := mem_nth ((hmm (j : Int)).2 ⟨by omega, by omega⟩)
        by_cases k0 : k = 0
        · subst k0; omega
        · have := hle (show 0 < k by omega) hk
          rwa [e, Int.toNat_natCast] at this
      by_cases he : nth l j = nth l (nth m 0).toNat
      · exfalso
        have hasc : (m.filter (fun y => nth l y.toNat == nth l (nth m 0).toNat)).Pairwise (· < ·) := by
          rw [hst]; exact inds_asc.sublist List.filter_sublist
        have hms : m = nth m 0 :: m.drop 1 := by
          cases m with
          | nil => simp at hml; omega
          | cons a m => rfl
        have hj2 : (j : Int) ∈ m.filter (fun y => nth l y.toNat == nth l (nth m 0).toNat) := by
          rw [List.mem_filter]; exact ⟨(hmm _).2 ⟨by omega, by omega⟩, by rw [beq_iff_eq, Int.toNat_natCast]; exact he⟩
        generalize nth m 0 = x at hms hasc hj2 hj
        rw [hms, List.filter_cons, if_pos (by rw [beq_iff_eq])] at hasc hj2
        rw [List.pairwise_cons] at hasc
        rcases List.mem_cons.1 hj2 with hj2 | hj2
        · omega
        · have := hasc.1 _ hj2; omega
      · omega
  · rw [if_neg (by rw [decide_eq_true_eq, hml]; exact hn)]
    dsimp only
    obtain ⟨w, ew, hw'⟩ := sort_ok (l := m) (by omega)
    rw [ew, Option.bind_some]
    have hin : ∀ x, x ∈ w ↔ 0 ≤ x ∧ x < (l.length : Int) := fun x => by rw [hw'.perm.mem_iff, hmm]
    refine ⟨w, 0, rfl, ?_, sortedAsc hw' hmn, fun x hx => (hin x).1 hx, fun x hx => (h.at (k := x.toNat) (by have := (hin x).1 hx; omega)).1, fun i hi hx => ?_, fun _ => rfl, fun hh => by omega, fun x hx j hj hjw => absurd ((hin _).2 ⟨by omega, by omega⟩) hjw, fun h1 x hx j hj => ?_⟩
    · rw [if_neg hn, hw'.perm.length_eq, hml]
    · exact absurd ((hin _).2 ⟨by omega, by omega⟩) hx
    · have := (hin x).1 hx; omega
theorem Sold.nodup {l w : List Int} {n p : Int} (h : Sold l n w p) : w.Nodup := h.asc.imp fun a b => by omega
theorem sells_t : pk_sells_m = some true := by decide +kernel
end Go.Pu
set_option linter.all false
namespace Go.Pu
def itN (f : Nat → Nat) : Nat → Nat → Nat
  | 0, x => x
  | k + 1, x => f (itN f k x)
theorem itN_succ (f : Nat → Nat) : ∀ k x, itN f (k + 1) x = itN f k (f x)
  | 0, x => rfl
  | k + 1, x => by show f (itN f (k + 1) x) = f (itN f k (f x)); rw [itN_succ f k x]
theorem itN_add (f : Nat → Nat) : ∀ a b x, itN f (a + b) x = itN f a (itN f b x)
  | 0, b, x => by rw [Nat.zero_add]; rfl
  | a + 1, b, x => by rw [show a + 1 + b = (a + b) + 1 by omega]; show f (itN f (a + b) x) = f (itN f a (itN f b x)); rw [itN_add f a b x]
theorem itN_mul {f : Nat → Nat} {k x : Nat} (h : itN f k x = x) : ∀ m, itN f (m * k) x = x
  | 0 => by rw [Nat.zero_mul]; rfl
  | m + 1 => by rw [Nat.add_mul, Nat.one_mul, itN_add, h, itN_mul h m]
theorem itN_inv {f : Nat → Nat} {I : Nat → Prop} (h : ∀ x, I x → I (f x)) {x : Nat} (hx : I x) : ∀ k, I (itN f k x)
  | 0 => hx
  | k + 1 => h _ (itN_inv h hx k)
theorem itN_congr {f g : Nat → Nat} {I : Nat → Prop} (h : ∀ x, I x → I (f x)) (e : ∀ x, I x → g x = f x) {x : Nat} (hx : I x) : ∀ k, itN g k x = itN f k x
  | 0 => rfl
  | k + 1 => by show g (itN g k x) = f (itN f k x); rw [itN_congr h e hx k, e _ (itN_inv h hx k)]
/-- more places than numbers: two are alike -/
theorem php : ∀ (n : Nat) (f : Nat → Nat), (∀ k, k ≤ n → f k < n) → ∃ a c, a < c ∧ c ≤ n ∧ f a = f c
  | 0, f, h => by have := h 0 (Nat.le_refl _); omega
  | n + 1, f, h => by
    by_cases hx : ∃ a, a < n + 1 ∧ f a = f (n + 1)
    · obtain ⟨a, ha, e⟩ := hx; exact ⟨a, n + 1, ha, Nat.le_refl _, e⟩
    · have hno : ∀ a, a < n + 1 → f a ≠ f (n + 1) := fun a ha e => hx ⟨a, ha, e⟩
      obtain ⟨a, c, hac, hcn, e⟩ := php n (fun k => if f k = n then f (n + 1) else f k) (fun k hk => by
        have h1 := h k (by omega)
        have h2 := h (n + 1) (Nat.le_refl _)
        have h3 := hno k (by omega)
        (try dsimp only)
        split <;> omega)
      (try dsimp only at e)
      have h1 := hno a (by omega); have h2 := hno c (by omega)
      refine ⟨a, c, hac, by omega, ?_⟩
      split at e <;> split at e <;> omega
theorem least {p : Nat → Prop} (h : ∃ n, p n) : ∃ n, p n ∧ ∀ m, p m → n ≤ m := Go.Fw.exists_least h
theorem iter_inj {f : Nat → Nat} {x y k m : Nat} (hk : 1 ≤ k) (hm : 1 ≤ m) (hx : itN f k x = x) (hy : itN f m y = y) (e : f x = f y) : x = y := by
  have h1 : itN f (m * k) x = x := itN_mul hx m
  have h2 : itN f (k * m) y = y := itN_mul hy k
  rw [Nat.mul_comm k m] at h2
  obtain ⟨q, hq⟩ : ∃ q, m * k = q + 1 := ⟨m * k - 1, by have : 1 ≤ m * k := Nat.mul_le_mul hm hk; omega⟩
  rw [hq, itN_succ, e, ← itN_succ, ← hq, h2] at h1
  exact h1.symm
/-! ### who gets what by rings of the best that is left -/
structure Ttc (n : Nat) (rk : Nat → Nat → Nat) (G ρ : Nat → Nat) (K : Nat) : Prop where
  lt : ∀ i, i < n → G i < n
  le : ∀ i, i < n → ρ i < K
  same : ∀ i, i < n → ρ (G i) = ρ i
  best : ∀ i x, i < n → x < n → ρ i ≤ ρ x → rk i (G i) ≤ rk i x
  cyc : ∀ i, i < n → ∃ k, 1 ≤ k ∧ itN G k i = i
  hit : ∀ s, s < K → ∃ i, i < n ∧ ρ i = s
  self : ∀ i s, i < n → s < ρ i → ∃ x, x < n ∧ s ≤ ρ x ∧ rk i x < rk i i
section
variable {n K : Nat} {rk : Nat → Nat → Nat} {G ρ : Nat → Nat}
theorem Ttc.inj (h : Ttc n rk G ρ K) {i j : Nat} (hi : i < n) (hj : j < n) (e : G i = G j) : i = j := by
  obtain ⟨k, hk, hx⟩ := h.cyc i hi
  obtain ⟨m, hm, hy⟩ := h.cyc j hj
  exact iter_inj hk hm hx hy e
theorem Ttc.onto (h : Ttc n rk G ρ K) {i : Nat} (hi : i < n) : ∃ j, j < n ∧ G j = i ∧ ρ j = ρ i := by
  obtain ⟨k, hk, hx⟩ := h.cyc i hi
  obtain ⟨q, rfl⟩ : ∃ q, k = q + 1 := ⟨k - 1, by omega⟩
  have hI := itN_inv (f := G) (I := fun x => x < n ∧ ρ x = ρ i) (fun x hx => ⟨h.lt x hx.1, by rw [h.same x hx.1]; exact hx.2⟩) (x := i) ⟨hi, rfl⟩ q
  exact ⟨itN G q i, hI.1, hx, hI.2⟩
/-- ROTH: who tells otherwise gets nothing that he likes better -/
theorem Ttc.truth {rk' : Nat → Nat → Nat} {G' ρ' : Nat → Nat} {K' : Nat} (h : Ttc n rk G ρ K) (h' : Ttc n rk' G' ρ' K') {i : Nat} (hi : i < n)
    (hrk : ∀ j, j < n → j ≠ i → ∀ x, rk' j x = rk j x) (inj : ∀ j x y, j < n → x < n → y < n → rk j x = rk j y → x = y) : rk i (G i) ≤ rk i (G' i) := by
  -- who leaves ahead of him gets the same
  have key : ∀ t, t ≤ ρ i → ∀ j, j < n → ρ j < t → G' j = G j := by
    intro t
    induction t with
    | zero => intro _ j _ hj; omega
    | succ t ih =>
      intro ht j hj hjt
      by_cases hlt : ρ j < t
      · exact ih (by omega) j hj hlt
      · have hjt : ρ j = t := by omega
        -- each of that round likes his own at least as much
        have worse : ∀ q, q < n → ρ q = t → rk q (G q) ≤ rk q (G' q) := fun q hq hqt => by
          refine h.best q _ hq (h'.lt q hq) ?_
          by_cases hl : ρ (G' q) < t
          · obtain ⟨z, hz, e1, e2⟩ := h.onto (h'.lt q hq)
            have e3 := ih (by omega) z hz (by omega)
            rw [← e3] at e1
            have := h'.inj hz hq e1
            subst this
            omega
          · omega
        -- the first of his ring to leave there
        obtain ⟨k, hk, hcy⟩ := h.cyc j hj
        obtain ⟨s, ⟨m0, hs⟩, hmin⟩ := least (p := fun s => ∃ m, ρ' (itN G m j) = s) ⟨_, 0, rfl⟩
        have inv : ∀ m, itN G m j < n ∧ ρ (itN G m j) = t := itN_inv (f := G) (I := fun x => x < n ∧ ρ x = t) (fun x hx => ⟨h.lt x hx.1, by rw [h.same x hx.1]; exact hx.2⟩) (x := j) ⟨hj, hjt⟩
        have eq1 : ∀ q, q < n → ρ q = t → ρ' q ≤ ρ' (G q) → G' q = G q := fun q hq hqt hle => by
          have h1 := h'.best q (G q) hq (h.lt q hq) hle
          have hqi : q ≠ i := fun e => by subst e; omega
          rw [hrk q hq hqi, hrk q hq hqi] at h1
          have h2 := worse q hq hqt
          exact inj q _ _ hq (h'.lt q hq) (h.lt q hq) (by omega)
        have step : ∀ m, ρ' (itN G (m0 + m) j) = s := by
          intro m
          induction m with
          | zero => exact hs
          | succ m ihm =>
            have hq := inv (m0 + m)
            have e := eq1 _ hq.1 hq.2 (by rw [ihm]; exact hmin _ ⟨m0 + m + 1, rfl⟩)
            have := h'.same _ hq.1
            rw [e, ihm] at this
            exact this
        have hall : ∀ m, ρ' (itN G m j) = s := fun m => by
          have e : itN G (m + (m0 + 1) * k) j = itN G m j := by rw [itN_add, itN_mul hcy]
          have hb : m0 ≤ m + (m0 + 1) * k := by
            have : (m0 + 1) * 1 ≤ (m0 + 1) * k := Nat.mul_le_mul (Nat.le_refl _) hk
            omega
          have := step (m + (m0 + 1) * k - m0)
          rw [show m0 + (m + (m0 + 1) * k - m0) = m + (m0 + 1) * k by omega, e] at this
          exact this
        exact eq1 j hj hjt (by have a := hall 0; have b := hall 1; exact Nat.le_of_eq (a.trans b.symm))
  refine h.best i _ hi (h'.lt i hi) ?_
  by_cases hl : ρ (G' i) < ρ i
  · obtain ⟨z, hz, e1, e2⟩ := h.onto (h'.lt i hi)
    have e3 := key (ρ i) (Nat.le_refl _) z hz (by omega)
    rw [← e3] at e1
    have := h'.inj hz hi e1
    subst this
    omega
  · omega
end
end Go.Pu
