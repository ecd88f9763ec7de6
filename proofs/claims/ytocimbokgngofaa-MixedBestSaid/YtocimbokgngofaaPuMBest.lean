/- The plain law: what is told is sure; and no other way to choose is surer. -/
import Derived.Test.YtocimbokgngofaaWMixedBestModels
import Derived.Test.YtocimbokgngofaaPuMixL
set_option linter.all false
namespace Go.Pu
open Go.Fw Go.Mo
theorem gives_ok {c : Nat} {m : List (List Int)} {f : Nat → Nat → Int} (h : Tbl 2 c m f) {p q : Int} {v : Int × Int} (hp : 0 ≤ p) (hq : p ≤ q) (hq' : q ≤ 10000) (hv : 0 ≤ v.2 ∧ v.2 ≤ 4000) (hm : wmul v.1 q = v.1 * q)
    (hall : ∀ k, k < c → v.1 * q ≤ lin f p q k * v.2) : pk_gives_m m p q v = some true := by
  apply Ok.eq
  have i0 : ∀ l : List (List Int), idx l (0 : Int) = l[0]? := fun l => idx_nat (i := 0)
  have i1 : ∀ l : List (List Int), idx l (1 : Int) = l[1]? := fun l => idx_nat (i := 1)
  have c1 := h.c1
  unfold pk_gives_m
  rw [i0, h.mat.row? (by omega), Option.bind_some, ok_bindR]
  refine ok_rangeL (fun _ _ => True) trivial (fun j y s hj _ => ?_) fun _ _ => by rw [ok_some]
  obtain ⟨_, hjl⟩ := nth_of hj
  rw [h.mat.row 0 (by omega)] at hjl
  unfold pk_gives_b1
  simp only [i0, i1, idx_nat, h.mat.row? (show 0 < 2 by omega), h.mat.row? (show 1 < 2 by omega), h.mat.cell? (x := 0) (show 0 < 2 by omega) hjl, h.mat.cell? (x := 1) (show 1 < 2 by omega) hjl, Option.bind_some]
  rw [lin_code h hjl hp hq hq' hv, hm, if_neg (by rw [decide_eq_true_eq]; have := hall j hjl; omega), ok_some, flok_nx]; trivial
theorem MixedBest (x0 : List (List Int)) (_ : (∀ r ∈ x0, (∀ x ∈ r, (Lit.int .i64 x).wf = true) ∧ r.length ≤ maxLen) ∧ x0.length ≤ maxLen) (x1 : Int) (_ : (Lit.int .i64 x1).wf = true) (x2 : Int) (_ : (Lit.int .i64 x2).wf = true) : pk_MixedBest_m x0 x1 x2 = some true := by
  apply Ok.eq
  unfold pk_MixedBest_m
  rw [mixes_t, Option.bind_some, if_neg (by decide), two_at, Option.bind_some]
  have i0 : ∀ l : List (List Int), idx l (0 : Int) = l[0]? := fun l => idx_nat (i := 0)
  have i1 : ∀ l : List (List Int), idx l (1 : Int) = l[1]? := fun l => idx_nat (i := 1)
  rcases mix_split (x0.take 2) (by rw [List.length_take]; omega) with ⟨c, f, h⟩ | ⟨e, he, hc⟩
  · obtain ⟨x, v, P, Q, g, k, es, hS, s⟩ := solve_mix h
    have hf := h.okf
    have c1 := h.c1
    obtain ⟨⟨x10, x11, x20, x21⟩, v20, v21, v10, v11⟩ := s.bounds hf c1
    rw [es, Option.bind_some]
    have mv : ∀ q : Int, 0 ≤ q → q ≤ 10000 → wmul v.1 q = v.1 * q := fun q h0 h1 => by
      have := mulb (a := v.1) (b := q) (A := 4000000) (B := 10000) ⟨by omega, by omega⟩ ⟨h0, h1⟩
      rw [wmul_of (by omega) (by omega)]
    dsimp only
    rw [if_neg (by decide), if_neg (by rw [decide_eq_true_eq]; omega), if_neg (by rw [decide_eq_true_eq]; omega), if_neg (by rw [decide_eq_true_eq]; omega), if_neg (by rw [decide_eq_true_eq]; omega),
      gives_ok h x10 x11 (by omega) ⟨by omega, v21⟩ (mv x.2 (by omega) (by omega)) (fun j hj => s.sure hj), Option.bind_some, ok_bindR, ok_some, flok_nx, if_neg (by decide)]
    obtain ⟨q, q1, q5, hq⟩ := one_within x2 5000 (by decide) (by decide)
    rw [show ((5000 : Nat) : Int) = 5000 from rfl] at hq
    rw [within_at x2 5000 (by decide) (by decide), Option.bind_some, hq]
    have hq1 : wadd (q : Int) 1 = (q : Int) + 1 := wadd_of (by omega) (by omega)
    rw [hq1, within_at x1 ((q : Int) + 1) (by omega) (by omega), Option.bind_some]
    have p0 := Int.emod_nonneg x1 (b := (q : Int) + 1) (by omega)
    have p1 := Int.emod_lt_of_pos x1 (b := (q : Int) + 1) (by omega)
    generalize x1 % ((q : Int) + 1) = p at *
    rw [i0, h.mat.row? (by omega), Option.bind_some, ok_bindR]
    obtain ⟨j, hj, ej⟩ := lst_at (g := lin f p q) c1
    have hmost := s.most p0 (show p ≤ (q : Int) by omega) (by omega)
    unfold lst at hmost
    rw [ej] at hmost
    refine ok_rangeL (fun k _ => k ≤ j) (Nat.zero_le _) (fun k y t hk hI => ?_) fun t ht => by rw [h.mat.row 0 (by omega)] at ht; omega
    obtain ⟨_, hkl⟩ := nth_of hk
    rw [h.mat.row 0 (by omega)] at hkl
    unfold pk_MixedBest_b1
    dsimp only
    simp only [i0, i1, idx_nat, h.mat.row? (show 0 < 2 by omega), h.mat.row? (show 1 < 2 by omega), h.mat.cell? (x := 0) (show 0 < 2 by omega) hkl, h.mat.cell? (x := 1) (show 1 < 2 by omega) hkl, Option.bind_some]
    rw [hq, lin_code h hkl p0 (by omega) (by omega) ⟨by omega, v21⟩, mv q (by omega) (by omega)]
    by_cases hc : lin f p q k * v.2 ≤ v.1 * q
    · rw [if_pos (by rw [decide_eq_true_eq]; exact hc), ok_some, flok_rt]
    · rw [if_neg (by rw [decide_eq_true_eq]; exact hc), ok_some, flok_nx]
      by_cases e : k = j
      · subst e; exact absurd hmost hc
      · omega
  · rw [hc, Option.bind_some]
    dsimp only
    rw [if_pos (by simpa using he)]
    exact ⟨true, rfl, rfl⟩
end Go.Pu
