/- The plain law: the other one sees the same, the other way round; seen twice it is as it was. -/
import Derived.Test.YtfekdillbgblkaaWVotesOwnModels
import Derived.Test.YtfekdillbgblkaaPuSad
set_option linter.all false
namespace Go.Pu
open Go.Fw Go.Mo
/-- the first k rows, from a table of rows that grow -/
structure Grow (c k i : Nat) (f : Nat → Nat → Int) (l : List (List Int)) : Prop where
  len : l.length = c
  full : ∀ y, y < k → Vec i (nth l y) (f y)
theorem turned_sad {r c : Nat} {m : List (List Int)} {f : Nat → Nat → Int} (h : Tbl r c m f) : ∃ t, saddle_Turned_m m = some (t, 0) ∧ Tbl c r t (fun y x => - f x y) := by
  have : Ok (saddle_Turned_m m) (fun z => z.2 = 0 ∧ Tbl c r z.1 (fun y x => - f x y)) := by
    have hl := h.mat.len; have h1 := h.r1; have h6 := h.r6; have c6 := h.c6
    unfold saddle_Turned_m
    rw [sad_ok h, Option.bind_some, if_neg (by simp), show (0 : Int) = ((0 : Nat) : Int) from rfl, idx_nat, h.mat.row? h1, Option.bind_some, h.mat.row 0 h1, chk_t (by omega), Option.bind_some, ok_bindR, Int.toNat_natCast, List.length_replicate]
    refine ok_rangeN (fun k (l : List (List Int)) => l.length = c ∧ (∀ y, y < k → Vec r (nth l y) (fun x => - f x y)) ∧ ∀ y, k ≤ y → y < c → nth l y = []) ⟨by simp, fun y hy => by omega, fun y _ hy => nth_replicate hy⟩ (fun k l hk hI => ?_) fun l hl' => ?_
    · obtain ⟨i1, i2, i3⟩ := hI
      unfold saddle_Turned_b1
      rw [ok_bindF]
      refine ok_rangeL (fun i (l : List (List Int)) => l.length = c ∧ (∀ y, y < k → Vec r (nth l y) (fun x => - f x y)) ∧ Vec i (nth l k) (fun x => - f x k) ∧ ∀ y, k + 1 ≤ y → y < c → nth l y = []) ⟨i1, i2, by rw [i3 k (by omega) hk]; exact Vec.nil, fun y hy hyc => i3 y (by omega) hyc⟩ (fun i row l hi hJ => ?_) fun l hl' => ?_
      · obtain ⟨hr, hil⟩ := nth_of hi
        obtain ⟨j1, j2, j3, j4⟩ := hJ
        have hc := h.mat.cell? (x := i) (y := k) (by omega) hk
        rw [hr] at hc
        have hb := h.val i k (by omega) hk
        have hvl := j3.len
        unfold saddle_Turned_b2
        rw [idx_nat, nth_at (by omega), Option.bind_some, idx_nat, hc, Option.bind_some, chk_t (by simp; omega), Option.bind_some, Option.bind_some, ok_some, flok_nx, wsub_of (by omega) (by omega)]
        refine ⟨by simpa using j1, fun y hy => ?_, ?_, fun y hy hyc => ?_⟩
        · rw [nth_set (by omega), if_neg (by omega)]; exact j2 y hy
        · rw [nth_set (by omega), if_pos rfl]; exact j3.snoc (by omega)
        · rw [nth_set (by omega), if_neg (by omega)]; exact j4 y hy hyc
      · rw [hl] at hl'
        obtain ⟨j1, j2, j3, j4⟩ := hl'
        rw [ok_some, flok_nx]
        refine ⟨j1, fun y hy => ?_, fun y hy hyc => j4 y (by omega) hyc⟩
        by_cases e : y = k
        · rw [e]; exact j3
        · exact j2 y (by omega)
    · obtain ⟨i1, i2, i3⟩ := hl'
      rw [ok_some]
      exact ⟨rfl, ⟨⟨i1, fun y hy => (i2 y hy).len, fun y x hy hx => (i2 y hy).at_ x hx⟩, h.c1, h.c6, h.r1, h.r6, fun y x hy hx => by have := h.val x y hx hy; omega⟩⟩
  obtain ⟨⟨t, e⟩, h1, h2, h3⟩ := this
  simp only at h2 h3
  subst h2
  exact ⟨t, h1, h3⟩
theorem low_turn (r c : Nat) (f : Nat → Nat → Int) : lowS c r (fun y x => - f x y) = - highS r c f ∧ highS c r (fun y x => - f x y) = - lowS r c f := by
  constructor
  · unfold lowS highS
    rw [← mx_neg]
    exact mx_congr fun y _ => mn_neg
  · unfold lowS highS
    rw [← mn_neg]
    exact mn_congr fun y _ => mx_neg
theorem pt_turn {r c : Nat} {f : Nat → Nat → Int} {x y : Nat} : isPt c r (fun y x => - f x y) y x = isPt r c f x y := by
  rw [Bool.eq_iff_iff, isPt_iff, isPt_iff]
  constructor
  · rintro ⟨h1, h2⟩
    exact ⟨fun k hk => by have := h2 k hk; omega, fun k hk => by have := h1 k hk; omega⟩
  · rintro ⟨h1, h2⟩
    exact ⟨fun k hk => by have := h2 k hk; omega, fun k hk => by have := h1 k hk; omega⟩
theorem pts_turn (r c : Nat) (f : Nat → Nat → Int) : (ptsL r (isPt c r (fun y x => - f x y)) c).length = (ptsL c (isPt r c f) r).length := by
  have h1 := @len_ptsL c r (isPt c r (fun y x => - f x y))
  have h2 := @len_ptsL r c (isPt r c f)
  rw [sumN_comm] at h1
  simp only [pt_turn] at h1
  omega
theorem equalRows_ok (a : List (List Int)) : slices_EqualFunc_int_int_int_int_m a a (fun a0 a1 => slices_Equal_int_int_m a0 a1) = some true := by
  apply Ok.eq
  unfold slices_EqualFunc_int_int_int_int_m
  rw [bne_self_eq_false, if_neg (by decide), ok_bindR]
  refine ok_rangeL (fun _ _ => True) trivial (fun i x u hi _ => ?_) fun _ _ => by rw [ok_some]
  unfold slices_EqualFunc_int_int_int_int_b1
  rw [idx_nat, hi, Option.bind_some]
  show Ok ((slices_Equal_int_int_m x x).bind _) _
  rw [equal_ok, Option.bind_some, decide_eq_true rfl, if_neg (by decide), ok_some, flok_nx]
  trivial
theorem SaddleTurned (x0 : List (List Int)) (_ : (∀ r ∈ x0, (∀ x ∈ r, (Lit.int .i64 x).wf = true) ∧ r.length ≤ maxLen) ∧ x0.length ≤ maxLen) : pk_SaddleTurned_m x0 = some true := by
  apply Ok.eq
  unfold pk_SaddleTurned_m
  rw [saddles_t, Option.bind_some, if_neg (by decide)]
  rcases sad_split x0 with ⟨r, c, f, h⟩ | ⟨e, he, hc⟩
  · obtain ⟨t, et, hT⟩ := turned_sad h
    obtain ⟨u, eu, hU⟩ := turned_sad hT
    have hu : u = x0 := (hU.mat.congr fun x y _ _ => by omega).ext h.mat
    subst hu
    obtain ⟨q1, q2⟩ := low_turn r c f
    have b1 : -1000 ≤ highS r c f ∧ highS r c f ≤ 1000 ∧ -1000 ≤ lowS r c f ∧ lowS r c f ≤ 1000 := by
      obtain ⟨x, y, hx, hy, l1, l2, l3, l4⟩ := low_high h
      have := h.val x y hx hy
      have g1 : highS r c f ≤ 1000 := by
        obtain ⟨k, hk, e⟩ := mx_at (g := fun x => f x 0) h.r1 fun q hq => (h.val q 0 hq h.c1).1
        have := mn_le (g := fun y => mxN (fun x => f x y) r) 0 h.c1
        have := h.val k 0 hk h.c1
        unfold highS; (try simp only at *); omega
      have g2 : -1000 ≤ lowS r c f := by
        obtain ⟨k, hk, e⟩ := mn_at (g := fun y => f 0 y) h.c1 fun q hq => (h.val 0 q h.r1 hq).2
        have := mx_ge (g := fun x => mnN (f x) c) 0 h.r1
        have := h.val 0 k h.r1 hk
        unfold lowS
        have e' : mnN (f 0) c = f 0 k := e
        (try simp only at *); omega
      omega
    rw [et, Option.bind_some, if_neg (by simp), eu, Option.bind_some, bounds_ok h, Option.bind_some, bounds_ok hT, Option.bind_some, points_sad h, Option.bind_some, points_sad hT, Option.bind_some]
    have g5 : pk_good_m [0, 0, 0, 0, 0] = some true := by rw [good_at]; rfl
    simp only [g5, Option.bind_some, Bool.not_true, Bool.false_eq_true, if_false, equalRows_ok, q1, q2]
    rw [wsub_of (by omega) (by omega), Int.zero_sub, bne_self_eq_false, if_neg (by decide), wsub_of (by omega) (by omega), Int.zero_sub, bne_self_eq_false, if_neg (by decide), pts_turn, bne_self_eq_false, ok_bindR, ok_some, flok_nx, if_neg (by decide), ok_bindR]
    refine ok_rangeN (fun _ _ => True) trivial (fun i v hi _ => ?_) fun _ _ => by rw [ok_some]
    obtain ⟨x, y, hx, hy, hp, e⟩ := mem_ptsL.1 (nth_mem hi)
    have m1 : [(y : Int), (x : Int)] ∈ ptsL r (isPt c r (fun y x => - f x y)) c := mem_ptsL.2 ⟨y, x, hy, hx, by rw [pt_turn]; exact hp, rfl⟩
    have i0 : idx [(x : Int), (y : Int)] (0 : Int) = some (x : Int) := rfl
    have i1 : idx [(x : Int), (y : Int)] (1 : Int) = some (y : Int) := rfl
    unfold pk_SaddleTurned_b1
    simp only
    rw [idx_nat, nth_at hi, Option.bind_some, e]
    simp only [i0, i1, Option.bind_some, contains_pairs_ok, decide_eq_true m1, Bool.not_true, Bool.false_eq_true, if_false]
    rw [ok_some, flok_nx]; trivial
  · have et : saddle_Turned_m x0 = some ([], e) := by
      unfold saddle_Turned_m; rw [hc, Option.bind_some, if_pos (by simpa using he)]
    rw [et, Option.bind_some, if_pos (by simpa using he), ok_some]; rfl
end Go.Pu
