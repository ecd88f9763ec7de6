/- The plain law: where all is so much more, so is that; a column more never makes it more. -/
import Derived.Test.YtocimbokgngofaaWMixedMoreModels
import Derived.Test.YtocimbokgngofaaPuMixL
import Derived.Test.YtocimbokgngofaaPuReverse
set_option linter.all false
namespace Go.Pu
open Go.Fw Go.Mo
theorem shape_split {c : Nat} {M : List (List Int)} {F : Nat → Nat → Int} (h : Mat 2 c M F) (c1 : 1 ≤ c) (c6 : c ≤ 6) : Tbl 2 c M F ∨ saddle_Check_m M = some 1 := by
  have hl := h.len
  have r0 := h.row 0 (by omega)
  have this : Ok (saddle_Check_m M) (fun e => e = 0 ∨ e = 1) := by
    unfold saddle_Check_m
    simp only [ok_bindR, ok_ite, ok_some, flok_nx, decide_eq_true_eq]
    refine ⟨fun h => by omega, fun hlt => ⟨fun _ => by omega, fun hgt => ?_⟩⟩
    refine ok_rangeL (fun _ _ => True) trivial (fun k row s hk _ => ?_) fun _ _ => .inl trivial
    obtain ⟨hr, hkl⟩ := nth_of hk
    have hrow := h.row k (by omega)
    rw [hr] at hrow
    unfold saddle_Check_b1
    rw [show (0 : Int) = ((0 : Nat) : Int) from rfl, idx_nat, nth_at (show 0 < M.length by omega)]
    simp only [Option.bind_some, ok_ite, ok_some, ok_bindF, bne_iff_ne, flok_rt, flok_nx, decide_eq_true_eq]
    refine ⟨fun _ => by omega, fun hlen => ⟨fun h => by omega, fun hl1 => ⟨fun _ => by omega, fun hl6 => ?_⟩⟩⟩
    refine ok_rangeL (fun _ _ => True) trivial (fun j v s hj hJ => ?_) fun _ _ => by trivial
    unfold saddle_Check_b2
    simp only [ok_ite, ok_some, ok_bindF, decide_eq_true_eq, flok_rt, flok_nx]
    grind
  obtain ⟨e, he, h2⟩ := sad_check M
  obtain ⟨e', he', h3⟩ := this
  rw [he] at he'; cases he'
  rcases h3 with rfl | rfl
  · left
    obtain ⟨r, c', t⟩ := h2 rfl
    have e1 : r = 2 := by have := t.mat.len; omega
    subst e1
    have e2 : c' = c := by have := t.mat.row 0 (by omega); omega
    subst e2
    exact ⟨h, by decide, by decide, c1, c6, fun x y hx hy => by have := t.val x y hx hy; rw [h.at_ x y hx hy] at this; exact this⟩
  · exact .inr he
theorem lstN_shift {g h : Nat → Int} {d : Int} (e : ∀ k, h k = g k + d) : ∀ n, lstN h n = lstN g n + d
  | 0 => e 0
  | n + 1 => by
    simp only [lstN]
    rw [lstN_shift e n, e n]
    by_cases hc : g n < lstN g n
    · rw [if_pos hc, if_pos (by omega)]
    · rw [if_neg hc, if_neg (by omega)]
theorem lst_shift {c : Nat} {f : Nat → Nat → Int} {b : Int} (p q : Int) : lst c (fun x y => f x y + b) p q = lst c f p q + b * q := by
  unfold lst
  refine lstN_shift (fun k => ?_) c
  unfold lin
  have : b * q = b * p + b * (q - p) := by rw [← Int.mul_add]; congr 1; omega
  rw [Int.add_mul, Int.add_mul, this]
  omega
theorem solS_shift {c : Nat} {f : Nat → Nat → Int} {b : Int} : solS (lst c fun x y => f x y + b) (fun x y => f x y + b) c = solS (lst c f) f c := by
  have e : ∀ i k s, stepS (lst c fun x y => f x y + b) (fun x y => f x y + b) i k s = stepS (lst c f) f i k s := fun i k s => by
    have e1 : dnN (fun x y => f x y + b) i k = dnN f i k := by unfold dnN; dsimp only; omega
    have e2 : upN (fun x y => f x y + b) i k = upN f i k := by unfold upN; dsimp only; omega
    by_cases h : dnN f i k = 0
    · rw [stepS_no h, stepS_no (by rw [e1]; exact h)]
    · rw [stepS_do h, stepS_do (by rw [e1]; exact h), e1, e2]
      exact tryS_shift _ _ fun p q => lst_shift p q
  unfold solS
  rw [tryS_shift (L := lst c f) (b := b) 1 1 fun p q => lst_shift p q]
  have e' : (fun i s => foldN (stepS (lst c fun x y => f x y + b) (fun x y => f x y + b) i) i s) = fun i s => foldN (stepS (lst c f) f i) i s := by
    funext i s
    rw [show stepS (lst c fun x y => f x y + b) (fun x y => f x y + b) i = stepS (lst c f) f i from funext fun k => funext fun s => e i k s]
  rw [e']
def without (q : Nat) (row : List Int) : List Int := row.take q ++ row.drop (q + 1)
theorem without_nth {row : List Int} {q k : Nat} (hq : q < row.length) (hk : k < row.length - 1) : nth (without q row) k = if k < q then nth row k else nth row (k + 1) := by
  unfold without
  rw [nth_append, List.length_take]
  by_cases h : k < q
  · rw [if_pos (by omega), if_pos h, nth_take h]
  · rw [if_neg (by omega), if_neg h, nth_drop]; congr 1; omega
theorem MixedMore (x0 : List (List Int)) (_ : (∀ r ∈ x0, (∀ x ∈ r, (Lit.int .i64 x).wf = true) ∧ r.length ≤ maxLen) ∧ x0.length ≤ maxLen) (x1 : Int) (_ : (Lit.int .i64 x1).wf = true) (x2 : Int) (_ : (Lit.int .i64 x2).wf = true) : pk_MixedMore_m x0 x1 x2 = some true := by
  apply Ok.eq
  unfold pk_MixedMore_m
  rw [mixes_t, Option.bind_some, if_neg (by decide), two_at, Option.bind_some]
  have i0 : ∀ l : List (List Int), idx l (0 : Int) = l[0]? := fun l => idx_nat (i := 0)
  generalize hm : x0.take 2 = m
  have hml : m.length ≤ 2 := by rw [← hm, List.length_take]; omega
  rcases mix_split m hml with ⟨c, f, h⟩ | ⟨e, he, hc⟩
  · obtain ⟨x, v, P, Q, g, k, es, hS, s⟩ := solve_mix h
    have hf := h.okf
    have c1 := h.c1; have c6 := h.c6
    have hlen := h.mat.len
    have hr0 := h.mat.row 0 (by omega)
    obtain ⟨⟨x10, x11, x20, x21⟩, v20, v21, v10, v11⟩ := s.bounds hf c1
    have es0 := solve_sad h
    rw [es, hS] at es0
    have ex : x = lowP P Q := congrArg (fun (o : Option ((Int × Int) × (Int × Int) × Int)) => (o.getD ((0, 0), (0, 0), 0)).1) es0
    have evv : v = lowP (lst c f P Q) Q := congrArg (fun (o : Option ((Int × Int) × (Int × Int) × Int)) => (o.getD ((0, 0), (0, 0), 0)).2.1) es0
    rw [es, Option.bind_some]
    dsimp only
    rw [if_neg (by decide), within_at x1 50 (by decide) (by decide), Option.bind_some, i0, h.mat.row? (by omega), Option.bind_some, within_at x2 _ (by omega) (by omega), Option.bind_some]
    have a0 := Int.emod_nonneg x1 (b := 50) (by decide)
    have a1 := Int.emod_lt_of_pos x1 (b := 50) (by decide)
    have d0 := Int.emod_nonneg x2 (b := ((nth m 0).length : Int)) (by omega)
    have d1 := Int.emod_lt_of_pos x2 (b := ((nth m 0).length : Int)) (by omega)
    have hw : wsub (x1 % 50) 25 = x1 % 50 - 25 := wsub_of (by omega) (by omega)
    obtain ⟨b, hb⟩ : ∃ b : Int, x1 % 50 - 25 = b := ⟨_, rfl⟩
    have hb' : -25 ≤ b ∧ b ≤ 24 := by omega
    obtain ⟨q, hq⟩ : ∃ q : Nat, x2 % ((nth m 0).length : Int) = (q : Int) := ⟨(x2 % ((nth m 0).length : Int)).toNat, by omega⟩
    rw [hq] at d1
    rw [hq, hw, hb, ok_bindR]
    have hqc : q < c := by omega
    refine ok_rangeL (fun i (t : List (List Int) × List (List Int)) => t = ((m.map (fun r => r.map (fun y => wadd y b))).take i, (m.map (without q)).take i)) rfl (fun i row t hi hI => ?_) fun t ht => ?_
    · obtain ⟨hv, hil⟩ := nth_of hi
      have hrow := h.mat.row i (by omega)
      rw [hv] at hrow
      obtain ⟨t1, t2⟩ := t
      cases hI
      unfold pk_MixedMore_b1
      dsimp only
      rw [ok_bindF]
      refine ok_rangeL (fun j (l : List Int) => l = (row.map (fun y => wadd y b)).take j) rfl (fun j y l hj hJ => ?_) fun l hl => ?_
      · obtain ⟨hv2, hjl⟩ := nth_of hj
        unfold pk_MixedMore_b2
        have hll : l.length ≤ row.length := by rw [hJ, List.length_take, List.length_map]; omega
        rw [hw, hb, chk_t (by simp only [List.length_cons, List.length_nil]; omega), Option.bind_some, ok_some, flok_nx, hJ, List.take_succ, List.getElem?_map, hj]; rfl
      · have e : l = row.map (fun y => wadd y b) := by rw [hl, List.take_of_length_le (by simp)]
        rw [chk_t (by simp only [List.length_cons, List.length_nil, List.length_take, List.length_map]; omega), Option.bind_some, clone_ok row (by omega), Option.bind_some]
        unfold slices_Delete_int_int_m
        rw [wadd_of (by omega) (by omega), chk_t (by omega), Option.bind_some, Option.bind_some, chk_t (by simp only [List.length_cons, List.length_nil, List.length_take, List.length_map]; omega), Option.bind_some, ok_some, flok_nx, e]
        rw [List.take_succ, List.getElem?_map, hi, List.take_succ, List.getElem?_map, hi, Int.toNat_natCast, show ((q : Int) + 1).toNat = q + 1 by omega]
        rfl
    · subst ht
      dsimp only
      rw [List.take_of_length_le (by simp), List.take_of_length_le (by simp)]
      have mMore : Mat 2 c (m.map (fun r => r.map (fun y => wadd y b))) (fun x y => f x y + b) := by
        have row : ∀ x, x < 2 → nth (m.map (fun r => r.map (fun y => wadd y b))) x = (nth m x).map (fun y => wadd y b) := fun x hx => nth_map (by omega)
        refine ⟨by simpa using hlen, fun x hx => by rw [row x hx, List.length_map]; exact h.mat.row x hx, fun x y hx hy => ?_⟩
        have hb2 := h.val x y hx hy
        rw [row x hx, nth_map (by rw [h.mat.row x hx]; exact hy), h.mat.at_ x y hx hy, wadd_of (by omega) (by omega)]
      have last : Ok (mixed_Solve_m (m.map (without q))) (fun (z : (Int × Int) × (Int × Int) × Int) => z.2.2 ≠ 0 ∨ (wmul z.2.1.1 v.2 ≥ wmul v.1 z.2.1.2)) := by
        have hrow : ∀ x, x < 2 → nth (m.map (without q)) x = without q (nth m x) := fun x hx => nth_map (by omega)
        have hrl : ∀ x, x < 2 → (nth (m.map (without q)) x).length = c - 1 := fun x hx => by
          rw [hrow x hx]; unfold without; rw [List.length_append, List.length_take, List.length_drop, h.mat.row x hx]; omega
        rcases mix_split (m.map (without q)) (by rw [List.length_map]; omega) with ⟨c', f', h'⟩ | ⟨e, he, hc⟩
        · obtain ⟨x', v', P', Q', g', k', es', hS', s'⟩ := solve_mix h'
          obtain ⟨_, w20, w21, w10, w11⟩ := s'.bounds h'.okf h'.c1
          have ec : c' = c - 1 := by rw [← h'.mat.row 0 (by omega), hrl 0 (by omega)]
          rw [es', ok_some]
          dsimp only
          right
          have b1 := mulb (a := v'.1) (b := v.2) (A := 4000000) (B := 4000) ⟨by omega, by omega⟩ ⟨by omega, v21⟩
          have b2 := mulb (a := v.1) (b := v'.2) (A := 4000000) (B := 4000) ⟨by omega, by omega⟩ ⟨by omega, w21⟩
          rw [wmul_of (by omega) (by omega), wmul_of (by omega) (by omega)]
          have fe : ∀ x y, x < 2 → y < c' → f' x y = if y < q then f x y else f x (y + 1) := fun x y hx hy => by
            rw [← h'.mat.at_ x y hx hy, hrow x hx, without_nth (by rw [h.mat.row x hx]; exact hqc) (by rw [h.mat.row x hx]; omega)]
            split
            · exact h.mat.at_ x y hx (by omega)
            · exact h.mat.at_ x (y + 1) hx (by omega)
          have hle : lst c f P Q ≤ lst c' f' P Q := by
            obtain ⟨j, hj, ej⟩ := lst_at (g := lin f' P Q) h'.c1
            unfold lst
            rw [ej]
            unfold lin
            rw [fe 0 j (by decide) hj, fe 1 j (by decide) hj]
            by_cases e : j < q
            · rw [if_pos e, if_pos e]; exact lst_le (g := lin f P Q) j (by omega)
            · rw [if_neg e, if_neg e]; exact lst_le (g := lin f P Q) (j + 1) (by omega)
          have hmost := s'.most s.p0 s.pq s.q1
          have h3 := mul_le (show 0 ≤ v'.2 by omega) hle
          have k1 := s.h1
          have h4 : lst c f P Q * v'.2 ≤ v'.1 * Q := by omega
          rw [s.ev] at h4
          rw (occs := .pos [1]) [s.ew] at h4
          refine cancel_le (c := k) (by omega) ?_
          have e1 : v.1 * v'.2 * k = k * v.1 * v'.2 := by rw [Int.mul_comm, Int.mul_assoc]
          have e2 : v'.1 * v.2 * k = v'.1 * (k * v.2) := by rw [Int.mul_assoc, Int.mul_comm v.2]
          rw [e1, e2]; exact h4
        · rw [hc, ok_some]; exact .inl he
      have bb := mulb (a := b) (b := v.2) (A := 25) (B := 4000) ⟨by omega, by omega⟩ ⟨by omega, v21⟩
      rcases shape_split mMore c1 c6 with hT | hE
      · have es2 := solve_sad hT
        rw [solS_shift, hS] at es2
        dsimp only at es2
        rw [lst_shift, lowP_shift _ _ _ s.q1, ← ex, ← evv] at es2
        rw [es2, Option.bind_some]
        dsimp only
        rw [if_pos (by decide), if_neg (by simp), if_neg (by simp), wmul_of (by omega) (by omega), wadd_of (by omega) (by omega), ok_bindR, ok_some, flok_nx, if_neg (by simp), ok_bind]
        refine last.mono fun z hz => ?_
        rw [ok_bindR, if_pos (by decide)]
        by_cases hz0 : z.2.2 = 0
        · rw [if_neg (by rw [bne_iff_ne]; exact fun h => h hz0), ok_some, flok_nx, ok_some, decide_eq_true_eq]
          rcases hz with hz | hz
          · exact absurd hz0 hz
          · exact hz
        · rw [if_pos (by rw [bne_iff_ne]; exact hz0), ok_some, flok_nx, ok_some]
      · have es2 : mixed_Solve_m (m.map (fun r => r.map (fun y => wadd y b))) = some ((0, 0), (0, 0), 1) := by
          unfold mixed_Solve_m
          rw [hE, Option.bind_some, if_pos (by decide)]
        rw [es2, Option.bind_some]
        dsimp only
        rw [if_neg (by decide), ok_bindR, ok_some, flok_nx, if_neg (by decide), ok_bind]
        refine last.mono fun z hz => ?_
        rw [ok_bindR, if_neg (by decide), if_pos (by decide)]
        by_cases hz0 : z.2.2 = 0
        · rw [if_neg (by rw [bne_iff_ne]; exact fun h => h hz0), ok_some, flok_nx, ok_some, decide_eq_true_eq]
          rcases hz with hz | hz
          · exact absurd hz0 hz
          · exact hz
        · rw [if_pos (by rw [bne_iff_ne]; exact hz0), ok_some, flok_nx, ok_some]
  · rw [hc, Option.bind_some]
    dsimp only
    rw [if_pos (by simpa using he)]
    exact ⟨true, rfl, rfl⟩
end Go.Pu
