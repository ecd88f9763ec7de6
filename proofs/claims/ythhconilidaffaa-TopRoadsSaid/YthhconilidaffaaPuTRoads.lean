/- The plain law: two on some roads come to rest where, of the tables of what it costs them, neither would go. -/
import Derived.Test.YthhconilidaffaaWTopRoadsModels
import Derived.Test.YthhconilidaffaaPuRRest
import Derived.Test.YthhconilidaffaaPuEqu
import Derived.Test.YthhconilidaffaaPuFl
set_option linter.all false
namespace Go.Pu
open Go.Fw Go.Mo
theorem better_still {x0 : List (List Int)} {x1 : List Int} (h : Roads x0 x1) {i : Nat} (hi : i < x1.length) (he : roads_Better_m x0 x1 (i : Int) = some (nth x1 i, 0)) : ∀ q : Nat, q < x0.length → pay x0 x1 i ≤ pay x0 (x1.set i (q : Int)) i := by
  obtain ⟨l, el, hl⟩ := load_ok h
  have h4 := h.m4; have h6 := h.n6
  have ha := h.at_ i hi
  obtain ⟨a, hai⟩ : ∃ a : Nat, nth x1 i = (a : Int) := ⟨(nth x1 i).toNat, by omega⟩
  rw [hai] at ha
  have hal : a < x0.length := by omega
  have hb := cnt_bound x1 a x1.length
  have hc := cnt_pos x1 a x1.length i hi hai
  have hp : pay x0 x1 i = nth (nth x0 a) ((cnt x1 a x1.length).toNat - 1) := by unfold pay; rw [hai]; rfl
  have hpn : ∀ r : Nat, r ≠ a → pay x0 (x1.set i (r : Int)) i = nth (nth x0 r) (cnt x1 r x1.length).toNat := fun r hr => by
    have b1 := cnt_bound x1 r x1.length
    unfold pay
    rw [nth_set hi, if_pos rfl, Int.toNat_natCast, List.length_set, cnt_set hi rfl r, hai, if_neg (by omega), if_pos rfl]
    have : (cnt x1 r x1.length - 0 + 1).toNat - 1 = (cnt x1 r x1.length).toNat := by omega
    rw [this]
  have : Ok (roads_Better_m x0 x1 (i : Int)) (fun p => p.1 = (a : Int) → ∀ q : Nat, q < x0.length → q ≠ a → pay x0 x1 i ≤ pay x0 (x1.set i (q : Int)) i) := by
    have hcheck : (if decide ((i : Int) < (0 : Int)) then some (Fl.nx true) else some (Fl.nx (decide ((i : Int) ≥ ((x1).length : Int))))) = (some (Fl.nx false) : Option (Fl (Int × Int) Unit Bool)) := by
      rw [if_neg (by simp)]; simp; omega
    unfold roads_Better_m
    rw [h.check, Option.bind_some, if_neg (by decide), hcheck, ok_bindR, ok_some, flok_nx, if_neg (by decide), el, Option.bind_some, idx_nat, nth_at hi, Option.bind_some, hai, idx_nat, nth_at hal, Option.bind_some, idx_nat, hl.at? hal, Option.bind_some, wsub_of (by omega) (by omega), show cnt x1 a x1.length - 1 = (((cnt x1 a x1.length).toNat - 1 : Nat) : Int) by omega, idx_nat, nth_at (by have := (h.row a hal).1; omega), Option.bind_some, ← hp, ok_bindR]
    refine ok_rangeL (fun k (s : Int × Int) => (s.1 = (a : Int) ∧ s.2 = pay x0 x1 i ∧ ∀ q : Nat, q < k → q ≠ a → pay x0 x1 i ≤ pay x0 (x1.set i (q : Int)) i) ∨ (s.1 ≠ (a : Int) ∧ s.2 < pay x0 x1 i)) (.inl ⟨rfl, rfl, fun q hq => by omega⟩) (fun k row s hk hI => ?_) fun s hs => ?_
    · obtain ⟨hx, hkl⟩ := nth_of hk
      obtain ⟨b, c⟩ := s
      simp only at hI
      have bk := cnt_bound x1 k x1.length
      unfold roads_Better_b1
      simp only [idx_nat, nth_at hi, hai, Option.bind_some, hl.at? hkl, ok_bindF]
      by_cases hka : k = a
      · subst hka
        rw [if_neg (by simp), ok_some, flok_nx, if_neg (by decide), ok_some, flok_nx]
        rcases hI with ⟨i1, i2, i3⟩ | hI
        · refine .inl ⟨i1, i2, fun q hq hqa => i3 q (by omega) hqa⟩
        · exact .inr hI
      · rw [if_pos (by rw [bne_iff_ne]; omega)]
        have hlt : (cnt x1 k x1.length).toNat < row.length := by
          have := (h.row k hkl).1
          rw [hx] at this
          have hca := cnt_set (x := (k : Int)) hi rfl k
          have hbb := cnt_bound (x1.set i (k : Int)) k x1.length
          rw [hca, hai, if_neg (by omega), if_pos rfl] at hbb
          omega
        have hci : cnt x1 k x1.length = (((cnt x1 k x1.length).toNat : Nat) : Int) := by omega
        rw [hci, idx_nat, nth_at hlt]
        simp only [Option.bind_some, ok_some, flok_nx, ok_ite, decide_eq_true_eq]
        have hpk := hpn k hka
        rw [hx] at hpk
        refine ⟨fun hless => .inr ⟨by (try dsimp only); omega, ?_⟩, fun hno => ?_⟩
        · rcases hI with ⟨i1, i2, i3⟩ | ⟨i1, i2⟩ <;> (try dsimp only at *) <;> omega
        · rcases hI with ⟨i1, i2, i3⟩ | hI
          · refine .inl ⟨i1, i2, fun q hq hqa => ?_⟩
            by_cases hqk : q = k
            · subst hqk; (try dsimp only at *); omega
            · exact i3 q (by omega) hqa
          · exact .inr hI
    · rw [ok_some]
      intro e
      rcases hs with ⟨_, _, i3⟩ | ⟨i1, _⟩
      · exact i3
      · exact absurd e i1
  obtain ⟨p, e1, hq⟩ := this
  rw [he] at e1
  cases e1
  intro q hq'
  by_cases e : q = a
  · subst e
    have : x1.set i (q : Int) = x1 := by
      refine nth_ext (by simp) fun k hk => ?_
      rw [nth_set hi]
      split
      · rename_i ek; rw [ek, hai]
      · rfl
    rw [this]; exact Int.le_refl _
  · exact hq hai q hq' e
theorem works_r : top_works_m = some true := by decide +kernel
/-- what both pay -/
def payA (x0 : List (List Int)) (i k : Nat) : Int := - pay x0 [(i : Int), (k : Int)] 0
def payB (x0 : List (List Int)) (i k : Nat) : Int := - pay x0 [(i : Int), (k : Int)] 1
theorem Roads.two {x0 : List (List Int)} {x1 : List Int} (h : Roads x0 x1) (hl : x1.length = 2) {i k : Nat} (hi : i < x0.length) (hk : k < x0.length) : Roads x0 [(i : Int), (k : Int)] := by
  refine ⟨h.m1, h.m4, by simp, fun r hr => by have := h.row r hr; rw [hl] at this; exact this, fun j hj => ?_⟩
  have : j = 0 ∨ j = 1 := by simp at hj; omega
  rcases this with rfl | rfl
  · exact show 0 ≤ (i : Int) ∧ (i : Int) < x0.length by omega
  · exact show 0 ≤ (k : Int) ∧ (k : Int) < x0.length by omega
/-- rows that are being filled -/
structure Part (n i k : Nat) (A : List (List Int)) (f : Nat → Nat → Int) : Prop where
  len : A.length = n
  done : ∀ x, x < i → (nth A x).length = n ∧ ∀ y, y < n → nth (nth A x) y = f x y
  now : i < n → (nth A i).length = k ∧ ∀ y, y < k → nth (nth A i) y = f i y
  rest : ∀ x, i < x → x < n → nth A x = []
theorem Part.add {n i k : Nat} {A : List (List Int)} {f : Nat → Nat → Int} (h : Part n i k A f) (hi : i < n) : Part n i (k + 1) (A.set i (nth A i ++ [f i k])) f := by
  have hA : i < A.length := by rw [h.len]; exact hi
  obtain ⟨n1, n2⟩ := h.now hi
  refine ⟨by rw [List.length_set, h.len], fun x hx => ?_, fun _ => ?_, fun x hx hxn => ?_⟩
  · rw [nth_set hA, if_neg (by omega)]; exact h.done x hx
  · rw [nth_set hA, if_pos rfl]
    refine ⟨by simp [n1], fun y hy => ?_⟩
    rw [nth_append]
    by_cases e : y < k
    · rw [if_pos (by omega)]; exact n2 y e
    · rw [if_neg (by omega), show y - (nth A i).length = 0 by omega, nth_cons_zero, show y = k by omega]
  · rw [nth_set hA, if_neg (by omega)]; exact h.rest x hx hxn
theorem Part.next {n i : Nat} {A : List (List Int)} {f : Nat → Nat → Int} (h : Part n i n A f) (hi : i < n) : Part n (i + 1) 0 A f := by
  refine ⟨h.len, fun x hx => ?_, fun hn => ?_, fun x hx hxn => h.rest x (by omega) hxn⟩
  · by_cases e : x = i
    · subst e; exact h.now hi
    · exact h.done x (by omega)
  · rw [h.rest (i + 1) (by omega) hn]; exact ⟨rfl, fun y hy => by omega⟩
theorem Part.mat {n k : Nat} {A : List (List Int)} {f : Nat → Nat → Int} (h : Part n n k A f) : Mat n n A f := ⟨h.len, fun x hx => (h.done x hx).1, fun x y hx hy => (h.done x hx).2 y hy⟩
theorem Part.zero {n : Nat} {f : Nat → Nat → Int} : Part n 0 0 (List.replicate n ([] : List Int)) f := by
  refine ⟨by simp, fun x hx => by omega, fun hn => ?_, fun x hx hxn => by rw [nth_replicate hxn]⟩
  rw [nth_replicate hn]; exact ⟨rfl, fun y hy => by omega⟩
theorem TopRoads (x0 : List (List Int)) (h0 : (∀ r ∈ x0, (∀ x ∈ r, (Lit.int .i64 x).wf = true) ∧ r.length ≤ maxLen) ∧ x0.length ≤ maxLen) (x1 : List Int) (h1 : x1.length = 2 ∧ ∀ x ∈ x1, (Lit.int .i64 x).wf = true) : top_TopRoads_m x0 x1 = some true := by
  have hm0 : x0.length ≤ 9223372036854775807 := h0.2
  apply Ok.eq
  unfold top_TopRoads_m
  rw [ok_bindR]
  by_cases hb : x0.length < 1 ∨ 4 < x0.length
  · have : (if decide ((x0.length : Int) < (1 : Int)) then some (Fl.nx (ρ := Bool) (β := Unit) true) else some (.nx (decide ((x0.length : Int) > (4 : Int))))) = some (.nx true) := by
      by_cases h : (x0.length : Int) < 1
      · rw [if_pos (by rw [decide_eq_true_eq]; exact h)]
      · rw [if_neg (by rw [decide_eq_true_eq]; exact h), decide_eq_true (by omega)]
    rw [this, ok_some, flok_nx, if_pos rfl, works_r, Option.bind_some, ok_some]
  · have hx1 := h1.1
    rw [if_neg (by rw [decide_eq_true_eq]; omega), ok_some, flok_nx, if_neg (by rw [decide_eq_true_eq]; omega), show (0 : Int) = ((0 : Nat) : Int) from rfl, show (1 : Int) = ((1 : Nat) : Int) from rfl, idx_nat, nth_at (by omega), Option.bind_some, within_at _ _ (by omega) (by omega), Option.bind_some, idx_nat, nth_at (by omega), Option.bind_some, within_at _ _ (by omega) (by omega), Option.bind_some]
    have a0 := Int.emod_nonneg (nth x1 0) (b := (x0.length : Int)) (by omega)
    have a1 := Int.emod_lt_of_pos (nth x1 0) (b := (x0.length : Int)) (by omega)
    have b0 := Int.emod_nonneg (nth x1 1) (b := (x0.length : Int)) (by omega)
    have b1 := Int.emod_lt_of_pos (nth x1 1) (b := (x0.length : Int)) (by omega)
    generalize nth x1 0 % (x0.length : Int) = S0 at a0 a1
    generalize nth x1 1 % (x0.length : Int) = S1 at b0 b1
    obtain ⟨c, ec, hc⟩ := rchk_ok x0 [S0, S1] hm0 (by simp)
    by_cases c0 : c = 0
    · have h := hc.1 c0
      obtain ⟨l, s, es, hr, hst⟩ := settle_ok h
      have hll : l.length = 2 := hr.len
      obtain ⟨W0, W1, rfl⟩ : ∃ a b, l = [a, b] := by
        match l, hll with
        | [a, b], _ => exact ⟨a, b, rfl⟩
      have v0 := hr.ok.at_ 0 (by simp)
      have v1 := hr.ok.at_ 1 (by simp)
      obtain ⟨w0, rfl⟩ : ∃ w : Nat, W0 = w := ⟨W0.toNat, by have : nth [W0, W1] 0 = W0 := rfl; omega⟩
      obtain ⟨w1, rfl⟩ : ∃ w : Nat, W1 = w := ⟨W1.toNat, by have : nth [(w0 : Int), W1] 1 = W1 := rfl; omega⟩
      have u0 : w0 < x0.length := by have : nth [(w0 : Int), (w1 : Int)] 0 = w0 := rfl; omega
      have u1 : w1 < x0.length := by have : nth [(w0 : Int), (w1 : Int)] 1 = w1 := rfl; omega
      have p0 := better_still hr.ok (i := 0) (by simp) (hst 0 (by simp))
      have p1 := better_still hr.ok (i := 1) (by simp) (hst 1 (by simp))
      have hx4 : x0.length ≤ 4 := h.m4
      rw [es, Option.bind_some]
      dsimp only
      rw [if_neg (by decide), ok_bindR, ok_some, flok_nx, if_neg (by simp), chk_t ⟨by omega, by omega⟩, Option.bind_some, Option.bind_some, ok_bindR, Int.toNat_natCast]
      refine Ok.fl (N := fun s : List (List Int) × List (List Int) => Mat x0.length x0.length s.1 (payA x0) ∧ Mat x0.length x0.length s.2 (payB x0)) (B := fun _ => False) (R := fun _ => False) (ok_rangeL (fun i (s : List (List Int) × List (List Int)) => Part x0.length i 0 s.1 (payA x0) ∧ Part x0.length i 0 s.2 (payB x0)) ⟨.zero, .zero⟩ (fun i row s hi hI => ?_) fun s hs => ⟨hs.1.mat, hs.2.mat⟩) (fun s hs => ?_) (fun _ h => h.elim) (fun _ h => h.elim)
      · have hil := (nth_of hi).2
        obtain ⟨A, B⟩ := s
        obtain ⟨hA, hB⟩ := hI
        unfold top_TopRoads_b1
        dsimp only at hA hB ⊢
        rw [ok_bindF]
        refine ok_rangeL (fun k (s : List (List Int) × List (List Int)) => Part x0.length i k s.1 (payA x0) ∧ Part x0.length i k s.2 (payB x0)) ⟨hA, hB⟩ (fun k row2 s hk hI => ?_) fun s hs => ?_
        · have hkl := (nth_of hk).2
          obtain ⟨A, B⟩ := s
          obtain ⟨hA, hB⟩ := hI
          dsimp only at hA hB
          have hR := h.two rfl hil hkl
          obtain ⟨co, eco, hco⟩ := costs_ok hR
          have q0 := pay_le hR (i := 0) (by simp)
          have q1 := pay_le hR (i := 1) (by simp)
          have l1 := (hA.now hil).1; have l2 := (hB.now hil).1
          unfold top_TopRoads_b2
          dsimp only
          rw [eco, Option.bind_some]
          dsimp only
          have hcl : co.length = 2 := hco.len
          rw [if_neg (by decide), ok_bindF, ok_some, flok_nx, hcl, if_neg (by decide), idx_nat, nth_at (by rw [hA.len]; exact hil), Option.bind_some, idx_nat, nth_at (by rw [hB.len]; exact hil), show (0 : Int) = ((0 : Nat) : Int) from rfl, show (1 : Int) = ((1 : Nat) : Int) from rfl, idx_nat, nth_at (by omega), Option.bind_some, Option.bind_some, idx_nat, nth_at (by omega), Option.bind_some, hco.at_ 0 (by simp), hco.at_ 1 (by simp), wsub_of (by omega) (by omega), wsub_of (by omega) (by omega), chk_t (by simp; omega), Option.bind_some, chk_t (by simp; omega), Option.bind_some, Option.bind_some, Option.bind_some, ok_some, flok_nx]
          have e0 : ((0 : Nat) : Int) - pay x0 [(i : Int), (k : Int)] 0 = payA x0 i k := by unfold payA; omega
          have e1 : ((0 : Nat) : Int) - pay x0 [(i : Int), (k : Int)] 1 = payB x0 i k := by unfold payB; omega
          rw [e0, e1]
          exact ⟨hA.add hil, hB.add hil⟩
        · rw [ok_some, flok_nx]
          exact ⟨hs.1.next hil, hs.2.next hil⟩
      · obtain ⟨A, B⟩ := s
        dsimp only at hs ⊢
        have hval : ∀ x y, x < x0.length → y < x0.length → (-1000 ≤ payA x0 x y ∧ payA x0 x y ≤ 1000) ∧ -1000 ≤ payB x0 x y ∧ payB x0 x y ≤ 1000 := fun x y hx hy => by
          have hR := h.two rfl hx hy
          have q0 := pay_le hR (i := 0) (by simp)
          have q1 := pay_le hR (i := 1) (by simp)
          unfold payA payB; omega
        have tA : Tbl x0.length x0.length A (payA x0) := ⟨hs.1, h.m1, by omega, h.m1, by omega, fun x y hx hy => (hval x y hx hy).1⟩
        have tB : Tbl x0.length x0.length B (payB x0) := ⟨hs.2, h.m1, by omega, h.m1, by omega, fun x y hx hy => (hval x y hx hy).2⟩
        rw [rest_ok tA tB, Option.bind_some]
        dsimp only
        rw [works_r, Option.bind_some, ok_bindR, if_pos rfl, if_pos (by decide), show idx [(w0 : Int), (w1 : Int)] ((0 : Nat) : Int) = some (w0 : Int) from rfl, show idx [(w0 : Int), (w1 : Int)] ((1 : Nat) : Int) = some (w1 : Int) from rfl, Option.bind_some, Option.bind_some, contains_pairs_ok, Option.bind_some, ok_some, flok_nx, ok_some, decide_eq_true_eq, mem_ptsL]
        refine ⟨w0, w1, u0, u1, isEq_iff.2 ⟨fun k hk => ?_, fun k hk => ?_⟩, rfl⟩
        · have := p0 k hk
          rw [show [(w0 : Int), (w1 : Int)].set 0 (k : Int) = [(k : Int), (w1 : Int)] from rfl] at this
          unfold payA; omega
        · have := p1 k hk
          rw [show [(w0 : Int), (w1 : Int)].set 1 (k : Int) = [(w0 : Int), (k : Int)] from rfl] at this
          unfold payB; omega
    · have es : roads_Settle_m x0 [S0, S1] = some ([], 0, c) := by
        unfold roads_Settle_m; rw [ec, Option.bind_some, if_pos (by rw [bne_iff_ne]; exact c0)]
      rw [es, Option.bind_some]
      dsimp only
      rw [if_pos (by rw [bne_iff_ne]; exact c0), ok_bindR, ok_some, flok_nx, if_pos rfl, works_r, Option.bind_some, ok_bindR, if_pos rfl, if_pos (by rw [bne_iff_ne]; exact c0), ok_some, flok_nx, ok_some]; rfl
end Go.Pu
