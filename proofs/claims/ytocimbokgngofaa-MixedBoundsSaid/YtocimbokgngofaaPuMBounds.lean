/- The plain law: what mixing gives lies between what each can be sure of without it. -/
import Derived.Test.YtocimbokgngofaaWMixedBoundsModels
import Derived.Test.YtocimbokgngofaaPuMixL
set_option linter.all false
namespace Go.Pu
open Go.Fw Go.Mo
theorem MixedBounds (x0 : List (List Int)) (_ : (∀ r ∈ x0, (∀ x ∈ r, (Lit.int .i64 x).wf = true) ∧ r.length ≤ maxLen) ∧ x0.length ≤ maxLen) : pk_MixedBounds_m x0 = some true := by
  apply Ok.eq
  unfold pk_MixedBounds_m
  rw [mixes_t, Option.bind_some, if_neg (by decide), saddles_t, Option.bind_some, ok_bindR, ok_some, flok_nx, if_neg (by decide), two_at, Option.bind_some]
  rcases mix_split (x0.take 2) (by rw [List.length_take]; omega) with ⟨c, f, h⟩ | ⟨e, he, hc⟩
  · obtain ⟨x, v, P, Q, g, k, es, hS, s⟩ := solve_mix h
    have hf := h.okf
    have c1 := h.c1
    obtain ⟨⟨x10, x11, x20, x21⟩, v20, v21, v10, v11⟩ := s.bounds hf c1
    rw [es, Option.bind_some, bounds_ok h, Option.bind_some]
    dsimp only
    rw [if_neg (by decide), if_pos (by decide), ok_bindR]
    obtain ⟨a, b, ha, hb, l1, l2, hl, hh⟩ := low_high h
    have fb := h.val a b ha hb
    have lo : -1000 ≤ lowS 2 c f ∧ lowS 2 c f ≤ 1000 ∧ -1000 ≤ highS 2 c f ∧ highS 2 c f ≤ 1000 := by
      have h1 := mx_at (g := fun x => mnN (f x) c) (n := 2) (by decide) (fun y hy => by
        obtain ⟨z, hz, e⟩ := mn_at (g := f y) c1 (fun z hz => (h.val y z hy hz).2)
        rw [e]; exact (h.val y z hy hz).1)
      obtain ⟨y, hy, e⟩ := h1
      obtain ⟨z, hz, e'⟩ := mn_at (g := f y) c1 (fun z hz => (h.val y z hy hz).2)
      have h2 := mn_at (g := fun y => mxN (fun x => f x y) 2) (n := c) c1 (fun y hy => by
        obtain ⟨z, hz, e⟩ := mx_at (g := fun x => f x y) (n := 2) (by decide) (fun z hz => (h.val z y hz hy).1)
        rw [e]; exact (h.val z y hz hy).2)
      obtain ⟨y2, hy2, e2⟩ := h2
      obtain ⟨z2, hz2, e2'⟩ := mx_at (g := fun x => f x y2) (n := 2) (by decide) (fun z hz => (h.val z y2 hz hy2).1)
      have b1 := h.val y z hy hz; have b2 := h.val z2 y2 hz2 hy2
      unfold lowS highS
      rw [e, e', e2, e2']
      omega
    have ml := mulb (a := lowS 2 c f) (b := v.2) (A := 1000) (B := 4000) ⟨by omega, by omega⟩ ⟨by omega, v21⟩
    have mh := mulb (a := highS 2 c f) (b := v.2) (A := 1000) (B := 4000) ⟨by omega, by omega⟩ ⟨by omega, v21⟩
    rw [wmul_of (by omega) (by omega), wmul_of (by omega) (by omega)]
    -- the better row alone
    have low : lowS 2 c f * v.2 ≤ v.1 := by
      have : a = 0 ∨ a = 1 := by omega
      rcases this with e | e
      · have m := s.most (p := 1) (q := 1) (by decide) (by decide) (by decide)
        obtain ⟨z, hz, ez⟩ := lst_at (g := lin f 1 1) c1
        unfold lst at m; rw [ez] at m
        have e1 : lin f 1 1 z = f 0 z := by unfold lin; omega
        have := hl z hz
        rw [e] at this
        rw [e1] at m
        have := mul_le (show 0 ≤ v.2 by omega) this
        omega
      · have m := s.most (p := 0) (q := 1) (by decide) (by decide) (by decide)
        obtain ⟨z, hz, ez⟩ := lst_at (g := lin f 0 1) c1
        unfold lst at m; rw [ez] at m
        have e1 : lin f 0 1 z = f 1 z := by unfold lin; omega
        have := hl z hz
        rw [e] at this
        rw [e1] at m
        have := mul_le (show 0 ≤ v.2 by omega) this
        omega
    have high : v.1 ≤ highS 2 c f * v.2 := by
      have h1 := s.sure hb
      have h2 : lin f x.1 x.2 b ≤ highS 2 c f * x.2 := by
        have t0 := mul_le x10 (hh 0 (by decide))
        have t1 := mul_le (show 0 ≤ x.2 - x.1 by omega) (hh 1 (by decide))
        have t2 : highS 2 c f * x.1 + highS 2 c f * (x.2 - x.1) = highS 2 c f * x.2 := by rw [← Int.mul_add]; congr 1; omega
        unfold lin
        omega
      have h3 := mul_le (show 0 ≤ v.2 by omega) h2
      refine cancel_le (c := x.2) (by omega) ?_
      have e3 : highS 2 c f * v.2 * x.2 = highS 2 c f * x.2 * v.2 := by rw [Int.mul_assoc, Int.mul_comm v.2, ← Int.mul_assoc]
      rw [e3]; omega
    rw [if_pos (by rw [decide_eq_true_eq]; exact low), if_pos (by rw [decide_eq_true_eq]; exact high)]
    by_cases e : lowS 2 c f = highS 2 c f
    · rw [if_neg (by rw [bne_iff_ne]; exact fun h => h e), ok_some, flok_nx, ok_some, beq_iff_eq]
      rw [e] at low ⊢
      omega
    · rw [if_pos (by rw [bne_iff_ne]; exact e), ok_some, flok_nx, ok_some]
  · rw [hc, Option.bind_some]
    have hb : Ok (saddle_Bounds_m (x0.take 2)) (fun _ => True) := by
      rcases sad_split (x0.take 2) with ⟨r, c, f, h⟩ | ⟨e', he', hc'⟩
      · rw [bounds_ok h, ok_some]; trivial
      · rw [bounds_no he' hc', ok_some]; trivial
    obtain ⟨b, eb, _⟩ := hb
    rw [eb, Option.bind_some]
    dsimp only
    rw [if_pos (by simpa using he)]
    exact ⟨true, rfl, rfl⟩
end Go.Pu
