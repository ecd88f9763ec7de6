/- The plain law: the other one has a column, or two that he mixes, by which the first one never has more. -/
import Derived.Test.YtocimbokgngofaaWMixedOtherModels
import Derived.Test.YtocimbokgngofaaPuMixL
import Derived.Test.YtocimbokgngofaaPuFl
set_option linter.all false
namespace Go.Pu
open Go.Fw Go.Mo
/-- a column, or two mixed, as the law tries them -/
def Held (c : Nat) (f : Nat → Nat → Int) (v : Int × Int) (i k : Nat) (s t : Int) : Prop := 0 ≤ s ∧ s ≤ t ∧ (f 0 i * s + f 0 k * (t - s)) * v.2 ≤ v.1 * t ∧ (f 1 i * s + f 1 k * (t - s)) * v.2 ≤ v.1 * t
def upM (f : Nat → Nat → Int) (i k : Nat) : Int := f 1 k - f 0 k
def dnM (f : Nat → Nat → Int) (i k : Nat) : Int := f 0 i - f 0 k - f 1 i + f 1 k
theorem held {c : Nat} {m : List (List Int)} {f : Nat → Nat → Int} (h : Tbl 2 c m f) {x v : Int × Int} {P Q g k : Int} (hS : solS (lst c f) f c = (P, Q)) (s : Sol c f x v P Q g k) :
    ∃ i j, i < c ∧ j < c ∧ (Held c f v i j 1 1 ∨ (0 < dnM f i j ∧ Held c f v i j (upM f i j) (dnM f i j))) := by
  have hf := h.okf
  have k1 := s.h1; have q1 := s.q1; have p0 := s.p0; have pq := s.pq; have ev := s.ev; have ew := s.ew
  have pure : ∀ i, i < c → f 0 i * Q ≤ lst c f P Q → f 1 i * Q ≤ lst c f P Q → ∃ i j, i < c ∧ j < c ∧ (Held c f v i j 1 1 ∨ (0 < dnM f i j ∧ Held c f v i j (upM f i j) (dnM f i j))) := fun i hi h0 h1 => by
    refine ⟨i, i, hi, hi, .inl ⟨by decide, by decide, ?_, ?_⟩⟩
    · rw [ev, ew] at h0
      refine cancel_le (c := k) (by omega) ?_
      have e1 : (f 0 i * 1 + f 0 i * (1 - 1)) * v.2 * k = f 0 i * (k * v.2) := by rw [Int.mul_one, Int.sub_self, Int.mul_zero, Int.add_zero, Int.mul_assoc, Int.mul_comm v.2]
      have e2 : v.1 * 1 * k = k * v.1 := by rw [Int.mul_one, Int.mul_comm]
      rw [e1, e2]; exact h0
    · rw [ev, ew] at h1
      refine cancel_le (c := k) (by omega) ?_
      have e1 : (f 1 i * 1 + f 1 i * (1 - 1)) * v.2 * k = f 1 i * (k * v.2) := by rw [Int.mul_one, Int.sub_self, Int.mul_zero, Int.add_zero, Int.mul_assoc, Int.mul_comm v.2]
      have e2 : v.1 * 1 * k = k * v.1 := by rw [Int.mul_one, Int.mul_comm]
      rw [e1, e2]; exact h1
  rcases sol_right hf h.c1 hS with e | ⟨j, hj, ej, sj⟩
  · rcases sol_left hf h.c1 hS with e0 | ⟨i, hi, ei, si⟩
    · omega
    · have e3 : f 0 i * Q = lst c f P Q := by rw [← ei]; unfold lin; rw [e, Int.sub_self, Int.mul_zero, Int.add_zero]
      exact pure i hi (by omega) (by have := mul_le (show 0 ≤ Q by omega) si; omega)
  · rcases sol_left hf h.c1 hS with e0 | ⟨i, hi, ei, si⟩
    · have e3 : f 1 j * Q = lst c f P Q := by rw [← ej]; unfold lin; rw [e0, Int.mul_zero, Int.zero_add, Int.sub_zero]
      exact pure j hj (by have := mul_le (show 0 ≤ Q by omega) sj; omega) (by omega)
    · -- the two lines cross there
      have li : f 0 i * P + f 1 i * (Q - P) = lst c f P Q := ei
      have lj : f 0 j * P + f 1 j * (Q - P) = lst c f P Q := ej
      by_cases zi : f 0 i = f 1 i
      · have e3 : f 0 i * Q = lst c f P Q := by rw [← li, ← zi, ← Int.mul_add]; congr 1; omega
        exact pure i hi (by omega) (by rw [← zi]; omega)
      · by_cases zj : f 0 j = f 1 j
        · have e3 : f 0 j * Q = lst c f P Q := by rw [← lj, ← zj, ← Int.mul_add]; congr 1; omega
          exact pure j hj (by omega) (by rw [← zj]; omega)
        · refine ⟨i, j, hi, hj, .inr ⟨by unfold dnM; omega, ?_⟩⟩
          have ht : 0 < dnM f i j := by unfold dnM; omega
          have hs : 0 ≤ upM f i j := by unfold upM; omega
          have hst : upM f i j ≤ dnM f i j := by unfold upM dnM; omega
          have hd : dnM f i j - upM f i j = f 0 i - f 1 i := by unfold upM dnM; omega
          have eu : upM f i j = f 1 j - f 0 j := rfl
          have eD : dnM f i j = (f 0 i - f 1 i) + (f 1 j - f 0 j) := by unfold dnM; omega
          have r0 : f 0 i * upM f i j + f 0 j * (dnM f i j - upM f i j) = f 0 i * f 1 j - f 0 j * f 1 i := by rw [hd, eu, Int.mul_sub, Int.mul_sub]; have := Int.mul_comm (f 0 i) (f 0 j); omega
          have r1 : f 1 i * upM f i j + f 1 j * (dnM f i j - upM f i j) = f 0 i * f 1 j - f 0 j * f 1 i := by rw [hd, eu, Int.mul_sub, Int.mul_sub]; have := Int.mul_comm (f 1 i) (f 1 j); have := Int.mul_comm (f 1 i) (f 0 j); have := Int.mul_comm (f 1 j) (f 0 i); omega
          have key : (f 0 i * f 1 j - f 0 j * f 1 i) * Q = lst c f P Q * dnM f i j := by
            rw [eD, Int.mul_add]
            have a1 : lst c f P Q * (f 0 i - f 1 i) = (f 0 j * P + f 1 j * (Q - P)) * (f 0 i - f 1 i) := by rw [lj]
            have a2 : lst c f P Q * (f 1 j - f 0 j) = (f 0 i * P + f 1 i * (Q - P)) * (f 1 j - f 0 j) := by rw [li]
            rw [a1, a2]
            generalize f 0 i = A; generalize f 0 j = B; generalize f 1 i = C; generalize f 1 j = D
            simp only [Int.add_mul, Int.sub_mul, Int.mul_sub, Int.mul_add]
            have t1 : A * P * D = A * D * P := by rw [Int.mul_assoc, Int.mul_comm P, ← Int.mul_assoc]
            have t2 : A * P * B = B * P * A := by rw [Int.mul_comm, ← Int.mul_assoc, Int.mul_comm B, Int.mul_comm, ← Int.mul_assoc, Int.mul_comm P A, Int.mul_assoc, Int.mul_comm B, ← Int.mul_assoc, Int.mul_comm A P, Int.mul_assoc, Int.mul_comm A, ← Int.mul_assoc, Int.mul_comm P B]
            grind
          have fin : (f 0 i * f 1 j - f 0 j * f 1 i) * v.2 ≤ v.1 * dnM f i j := by
            rw [ev] at key
            rw (occs := .pos [1]) [ew] at key
            refine cancel_le (c := k) (by omega) ?_
            have e1 : (f 0 i * f 1 j - f 0 j * f 1 i) * v.2 * k = (f 0 i * f 1 j - f 0 j * f 1 i) * (k * v.2) := by rw [Int.mul_assoc, Int.mul_comm v.2]
            have e2 : v.1 * dnM f i j * k = k * v.1 * dnM f i j := by rw [Int.mul_comm, Int.mul_assoc]
            rw [e1, e2]; exact Int.le_of_eq key
          exact ⟨hs, hst, by rw [r0]; exact fin, by rw [r1]; exact fin⟩
theorem MixedOther (x0 : List (List Int)) (_ : (∀ r ∈ x0, (∀ x ∈ r, (Lit.int .i64 x).wf = true) ∧ r.length ≤ maxLen) ∧ x0.length ≤ maxLen) : pk_MixedOther_m x0 = some true := by
  apply Ok.eq
  unfold pk_MixedOther_m
  rw [mixes_t, Option.bind_some, if_neg (by decide), two_at, Option.bind_some]
  have i0 : ∀ l : List (List Int), idx l (0 : Int) = l[0]? := fun l => idx_nat (i := 0)
  have i1 : ∀ l : List (List Int), idx l (1 : Int) = l[1]? := fun l => idx_nat (i := 1)
  have j0 : ∀ l : List Int, idx l (0 : Int) = l[0]? := fun l => idx_nat (i := 0)
  have j1 : ∀ l : List Int, idx l (1 : Int) = l[1]? := fun l => idx_nat (i := 1)
  rcases mix_split (x0.take 2) (by rw [List.length_take]; omega) with ⟨c, f, h⟩ | ⟨e, he, hc⟩
  · obtain ⟨x, v, P, Q, g, k, es, hS, s⟩ := solve_mix h
    have hf := h.okf
    have c1 := h.c1; have c6 := h.c6
    obtain ⟨_, v20, v21, v10, v11⟩ := s.bounds hf c1
    obtain ⟨i, j, hi, hj, hH⟩ := held h hS s
    rw [es, Option.bind_some]
    dsimp only
    rw [if_neg (by decide), i0, h.mat.row? (by omega), Option.bind_some, ok_bindR]
    have hr0 := h.mat.row 0 (by omega)
    refine ok_rangeL (fun q _ => q ≤ i) (Nat.zero_le _) (fun q y t hq hI => ?_) fun t ht => by omega
    obtain ⟨_, hql⟩ := nth_of hq
    rw [hr0] at hql
    unfold pk_MixedOther_b1
    rw [chk_t (by omega), Option.bind_some, ok_bindF, hr0, Int.toNat_natCast]
    refine ok_rangeN (fun z _ => q = i → z ≤ j) (fun _ => Nat.zero_le _) (fun z t hz hJ => ?_) fun t ht => by
      rw [ok_some, flok_nx]
      by_cases e : q = i
      · have := ht e; omega
      · omega
    unfold pk_MixedOther_b2
    simp only [i0, i1, idx_nat, h.mat.row? (show 0 < 2 by omega), h.mat.row? (show 1 < 2 by omega), h.mat.cell? (x := 0) (show 0 < 2 by omega) hql, h.mat.cell? (x := 1) (show 1 < 2 by omega) hql, h.mat.cell? (x := 0) (show 0 < 2 by omega) hz, h.mat.cell? (x := 1) (show 1 < 2 by omega) hz, Option.bind_some]
    have b1 := hf q hql; have b2 := hf z hz
    rw [wsub_of (x := f 0 q) (y := f 0 z) (by omega) (by omega), wsub_of (x := f 0 q - f 0 z) (by omega) (by omega), wadd_of (by omega) (by omega), wsub_of (x := f 1 z) (by omega) (by omega)]
    have eD : f 0 q - f 0 z - f 1 q + f 1 z = dnM f q z := rfl
    have eU : f 1 z - f 0 z = upM f q z := rfl
    rw [eD, eU]
    have bD : -4000 ≤ dnM f q z ∧ dnM f q z ≤ 4000 := by unfold dnM; omega
    have bU : -4000 ≤ upM f q z ∧ upM f q z ≤ 4000 := by unfold upM; omega
    -- the tries, one behind the other
    have tries : ∀ (l : List (List Int)), (∀ y ∈ l, y.length = 2 ∧ -4000 ≤ nth y 0 ∧ nth y 0 ≤ 4000 ∧ nth y 1 ≤ 4000) → (q = i → z = j → ∃ y ∈ l, Held c f v q z (nth y 0) (nth y 1)) →
        Ok (rangeN (ρ := Bool) (γ := Unit) (pk_MixedOther_b3 l (f 0 q) (f 0 z) (x, v, 0) (f 1 q) (f 1 z)) l.length 0 ()) (FlOk (fun _ => q = i → z ≠ j) (fun _ => False) (fun r => r = true)) := fun l hl hex => by
      refine ok_rangeN (fun u _ => ∀ u', u' < u → ¬ Held c f v q z (nth (nth l u') 0) (nth (nth l u') 1)) (fun u' h => by omega) (fun u t hu hU => ?_) fun t ht hqi hzj => ?_
      · have hy := hl _ (nth_mem hu)
        generalize hY : nth l u = Y at hy
        have e0 : Y[0]? = some (nth Y 0) := nth_at (by omega)
        have e1 : Y[1]? = some (nth Y 1) := nth_at (by omega)
        unfold pk_MixedOther_b3
        dsimp only
        rw [idx_nat, nth_at hu, Option.bind_some, hY, j0, e0, Option.bind_some, j1, e1, Option.bind_some, ok_bindF]
        generalize hs_ : nth Y 0 = S at *
        generalize ht_ : nth Y 1 = T at *
        have no : ¬ Held c f v q z S T → Ok (some (Fl.nx (ρ := Bool) (β := Unit) (σ := Unit) ())) (FlOk (fun _ => ∀ u', u' < u + 1 → ¬ Held c f v q z (nth (nth l u') 0) (nth (nth l u') 1)) (fun _ => q = i → z ≠ j) (fun r => r = true)) := fun hn => by
          rw [ok_some, flok_nx]
          intro u' hu'
          by_cases e : u' = u
          · subst e; rw [hY, hs_, ht_]; exact hn
          · exact hU u' (by omega)
        by_cases h0 : 0 ≤ S
        · rw [if_pos (by rw [decide_eq_true_eq]; exact h0)]
          by_cases h1 : S ≤ T
          · have m1 : ∀ a : Int, -1000 ≤ a ∧ a ≤ 1000 → -4000000 ≤ a * S ∧ a * S ≤ 4000000 := fun a ha => by have := mulb (a := a) (b := S) (A := 1000) (B := 4000) ⟨by omega, by omega⟩ ⟨h0, by omega⟩; omega
            have m2 : ∀ a : Int, -1000 ≤ a ∧ a ≤ 1000 → -4000000 ≤ a * (T - S) ∧ a * (T - S) ≤ 4000000 := fun a ha => by have := mulb (a := a) (b := T - S) (A := 1000) (B := 4000) ⟨by omega, by omega⟩ ⟨by omega, by omega⟩; omega
            have a1 := m1 _ b1.1; have a2 := m1 _ b1.2; have a3 := m2 _ b2.1; have a4 := m2 _ b2.2
            have m3 : ∀ a : Int, -8000000 ≤ a ∧ a ≤ 8000000 → wmul a v.2 = a * v.2 := fun a ha => by have := mulb (a := a) (b := v.2) (A := 8000000) (B := 4000) ⟨by omega, by omega⟩ ⟨by omega, v21⟩; rw [wmul_of (by omega) (by omega)]
            have m4 : wmul v.1 T = v.1 * T := by have := mulb (a := v.1) (b := T) (A := 4000000) (B := 4000) ⟨by omega, by omega⟩ ⟨by omega, by omega⟩; rw [wmul_of (by omega) (by omega)]
            rw [if_pos (by rw [decide_eq_true_eq]; exact h1), wsub_of (x := T) (by omega) (by omega), wmul_of (x := f 0 q) (by omega) (by omega), wmul_of (x := f 0 z) (by omega) (by omega), wmul_of (x := f 1 q) (by omega) (by omega), wmul_of (x := f 1 z) (by omega) (by omega), wadd_of (by omega) (by omega), wadd_of (by omega) (by omega), m3 _ (by omega), m3 _ (by omega), m4]
            by_cases h2 : (f 0 q * S + f 0 z * (T - S)) * v.2 ≤ v.1 * T
            · rw [if_pos (by rw [decide_eq_true_eq]; exact h2), ok_some, flok_nx]
              by_cases h3 : (f 1 q * S + f 1 z * (T - S)) * v.2 ≤ v.1 * T
              · rw [if_pos (by rw [decide_eq_true_eq]; exact h3), ok_some, flok_rt]
              · rw [if_neg (by rw [decide_eq_true_eq]; exact h3)]; exact no fun hh => h3 hh.2.2.2
            · rw [if_neg (by rw [decide_eq_true_eq]; exact h2), ok_some, flok_nx, if_neg (by decide)]; exact no fun hh => h2 hh.2.2.1
          · rw [if_neg (by rw [decide_eq_true_eq]; exact h1), ok_some, flok_nx, if_neg (by decide)]; exact no fun hh => h1 hh.2.1
        · rw [if_neg (by rw [decide_eq_true_eq]; exact h0), ok_some, flok_nx, if_neg (by decide)]; exact no fun hh => h0 hh.1
      · obtain ⟨y, hy, hH⟩ := hex hqi hzj
        obtain ⟨u, hu, rfl⟩ := mem_nth hy
        exact ht u hu hH
    have fin : ∀ (l : List (List Int)), (∀ y ∈ l, y.length = 2 ∧ -4000 ≤ nth y 0 ∧ nth y 0 ≤ 4000 ∧ nth y 1 ≤ 4000) → (q = i → z = j → ∃ y ∈ l, Held c f v q z (nth y 0) (nth y 1)) →
        Ok (bindF (ρ := Bool) (β := Unit) (σ := Unit) (rangeN (γ := Unit) (pk_MixedOther_b3 l (f 0 q) (f 0 z) (x, v, 0) (f 1 q) (f 1 z)) l.length 0 ()) fun _ => some (.nx ())) (FlOk (fun _ => q = i → z + 1 ≤ j) (fun _ => False) (fun r => r = true)) := fun l hl hex => by
      rw [ok_bindF]
      refine (tries l hl hex).mono fun w hw => ?_
      cases w with
      | br b => exact hw.elim
      | rt b => exact hw
      | nx t =>
        rw [flok_nx] at hw ⊢
        rw [ok_some, flok_nx]
        intro e
        have := hw e; have := hJ e
        omega
    have base : ∀ y ∈ ([[1, 1], [0, 1]] : List (List Int)), y.length = 2 ∧ -4000 ≤ nth y 0 ∧ nth y 0 ≤ 4000 ∧ nth y 1 ≤ 4000 := by decide
    rw [ok_bindF]
    by_cases hd : dnM f q z = 0
    · rw [if_neg (by rw [bne_iff_ne]; exact fun h => h hd), ok_some, flok_nx]
      refine (fin _ base fun e1 e2 => ?_).fl (fun _ h => h) (fun _ h => h.elim) (fun _ h => h)
      subst e1 e2
      rcases hH with hH | ⟨h0, _⟩
      · exact ⟨[1, 1], by simp, hH⟩
      · omega
    · rw [if_pos (by rw [bne_iff_ne]; exact hd), wsub_of (by omega) (by omega), wsub_of (by omega) (by omega), ok_bindF]
      have last : ∀ a b : Int, -4000 ≤ a → a ≤ 4000 → b ≤ 4000 → (0 < dnM f q z → a = upM f q z ∧ b = dnM f q z) → Ok ((chk ((([([(1 : Int), (1 : Int)] : (List Int)), ([(0 : Int), (1 : Int)] : (List Int))] : (List (List Int)))).length + (([([a, b] : (List Int))] : (List (List Int)))).length ≤ 68719476736)).bind fun _ => some (Fl.nx (ρ := Bool) (β := Unit) (([([(1 : Int), (1 : Int)] : (List Int)), ([(0 : Int), (1 : Int)] : (List Int))] : (List (List Int))) ++ ([([a, b] : (List Int))] : (List (List Int))))))
          (FlOk (fun l => Ok (bindF (ρ := Bool) (β := Unit) (σ := Unit) (rangeN (γ := Unit) (pk_MixedOther_b3 l (f 0 q) (f 0 z) (x, v, 0) (f 1 q) (f 1 z)) l.length 0 ()) fun _ => some (.nx ())) (FlOk (fun _ => q = i → z + 1 ≤ j) (fun _ => False) (fun r => r = true))) (fun _ => False) (fun r => r = true)) := fun a b a0 a1 b1 hab => by
        rw [chk_t (by simp), Option.bind_some, ok_some, flok_nx]
        refine fin _ (fun y hy => ?_) fun e1 e2 => ?_
        · rcases List.mem_append.1 hy with hy | hy
          · exact base y hy
          · rw [List.mem_singleton] at hy; subst hy; exact ⟨rfl, a0, a1, b1⟩
        · subst e1 e2
          rcases hH with hH | ⟨h0, hH⟩
          · exact ⟨[1, 1], by simp, hH⟩
          · obtain ⟨rfl, rfl⟩ := hab h0
            exact ⟨[upM f q z, dnM f q z], by simp, hH⟩
      by_cases hn : dnM f q z < 0
      · rw [if_pos (by rw [decide_eq_true_eq]; exact hn), ok_some, flok_nx]
        exact (last _ _ (by omega) (by omega) (by omega) (fun h => by omega)).fl (fun _ h => h.fl (fun _ h => h) (fun _ h => h.elim) (fun _ h => h)) (fun _ h => h.elim) (fun _ h => h)
      · rw [if_neg (by rw [decide_eq_true_eq]; exact hn), ok_some, flok_nx]
        exact (last _ _ (by omega) (by omega) (by omega) (fun h => ⟨rfl, rfl⟩)).fl (fun _ h => h.fl (fun _ h => h) (fun _ h => h.elim) (fun _ h => h)) (fun _ h => h.elim) (fun _ h => h)
  · rw [hc, Option.bind_some]
    dsimp only
    rw [if_pos (by simpa using he)]
    exact ⟨true, rfl, rfl⟩
end Go.Pu
