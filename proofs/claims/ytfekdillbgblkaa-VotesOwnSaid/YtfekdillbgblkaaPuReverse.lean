/- What slices.Reverse comes to; orders and votes the other way round. -/
import Derived.Test.YtfekdillbgblkaaWVotesOwnModels
import Derived.Test.YtfekdillbgblkaaPuSums
set_option linter.all false
namespace Go.Pu
open Go.Fw Go.Mo
theorem reverse_gen {α ρ : Type} [Inhabited α] {body : List α × Int × Int → Option (Fl ρ (List α × Int × Int) (List α × Int × Int))}
    (hb : ∀ l x y, body (l, x, y) = if decide (x < y) then (idx l y).bind fun a => (idx l x).bind fun b => (idx l x).bind fun _ => (idx (List.set l x.toNat a) y).bind fun _ => some (.nx ((List.set (List.set l x.toNat a) y.toNat b), wadd x 1, wsub y 1)) else some (.br (l, x, y)))
    (l : List α) (h : l.length ≤ 1000000) : Ok (loopM (γ := Unit) body 1048576 (l, (0 : Int), wsub (l.length : Int) 1)) (FlOk (fun s => s.1 = l.reverse) (fun _ => False) (fun _ => False)) := by
  rw [wsub_of (by omega) (by omega)]
  refine ok_loopM (fun s => s.1.length = l.length ∧ 0 ≤ s.2.1 ∧ s.2.1 ≤ s.2.2 + 1 ∧ s.2.1 + s.2.2 = (l.length : Int) - 1 ∧ ∀ k : Nat, k < l.length → nth s.1 k = if (k : Int) < s.2.1 ∨ s.2.2 < (k : Int) then nth l (l.length - 1 - k) else nth l k) (fun s => (s.2.2 - s.2.1 + 1).toNat) (fun s hs => ?_) 1048576 _ ⟨rfl, by simp, by simp, by simp, fun k hk => ?_⟩ ?_
  · obtain ⟨m, x, y⟩ := s
    obtain ⟨h1, h2, h3, h4, h5⟩ := hs
    simp only at h1 h2 h3 h4 h5
    rw [hb]
    simp only [decide_eq_true_eq]
    rw [ok_ite]
    refine ⟨fun hlt => ?_, fun hge => ?_⟩
    · simp only [ok_bind, ok_idx, ok_some, flok_nx, List.length_set, h1]
      rw [wadd_of (by omega) (by omega), wsub_of (by omega) (by omega)]
      refine ⟨by omega, by omega, by omega, by omega, by omega, by omega, by omega, by omega, ⟨trivial, by omega, by omega, by omega, fun k hk => ?_⟩, by omega⟩
      have e1 := h5 x.toNat (by omega)
      have e2 := h5 y.toNat (by omega)
      rw [if_neg (by omega)] at e1 e2
      rw [nth_set (by rw [List.length_set]; omega), nth_set (by omega), e1, e2]
      have hx : l.length - 1 - x.toNat = y.toNat := by omega
      have hy : l.length - 1 - y.toNat = x.toNat := by omega
      by_cases c1 : k = y.toNat
      · subst c1; rw [if_pos rfl, if_pos (by omega), hy]
      · rw [if_neg c1]
        by_cases c2 : k = x.toNat
        · subst c2; rw [if_pos rfl, if_pos (by omega), hx]
        · rw [if_neg c2, h5 k hk]
          by_cases c3 : (k : Int) < x ∨ y < (k : Int)
          · rw [if_pos c3, if_pos (by omega)]
          · rw [if_neg c3, if_neg (by omega)]
    · rw [ok_some, flok_br]
      refine nth_ext (by rw [h1, List.length_reverse]) fun k hk => ?_
      rw [h1] at hk
      have hr : nth l.reverse k = nth l (l.length - 1 - k) := by
        rw [nth_get (by rw [List.length_reverse]; exact hk), nth_get (by omega), List.getElem_reverse]
      rw [h5 k hk, hr]
      split
      · rfl
      · rw [show l.length - 1 - k = k by omega]
  · simp only
    rw [if_neg (by omega)]
  · simp only; omega
theorem reverse_ok (l : List Int) (h : l.length ≤ 1000000) : slices_Reverse_int_int_m l = some l.reverse := by
  apply Ok.eq
  unfold slices_Reverse_int_int_m
  rw [ok_bindR]
  refine (reverse_gen (fun l x y => rfl) l h).mono ?_
  rintro (⟨m, x, y⟩ | _ | _) hs
  · exact ok_some.2 hs
  · exact hs.elim
  · exact hs.elim
theorem reverse_rows_ok (l : List (List Int)) (h : l.length ≤ 1000000) : slices_Reverse_rows_m l = some l.reverse := by
  apply Ok.eq
  unfold slices_Reverse_rows_m
  rw [ok_bindR]
  refine (reverse_gen (fun l x y => rfl) l h).mono ?_
  rintro (⟨m, x, y⟩ | _ | _) hs
  · exact ok_some.2 hs
  · exact hs.elim
  · exact hs.elim
theorem clone_ok (l : List Int) (h : l.length ≤ 1000000) : slices_Clone_int_int_m l = some l := by
  unfold slices_Clone_int_int_m; rw [chk_t (by omega)]; rfl
theorem nth_rev {α : Type} [Inhabited α] {l : List α} {k : Nat} (h : k < l.length) : nth l.reverse k = nth l (l.length - 1 - k) := by
  rw [nth_get (by rw [List.length_reverse]; exact h), nth_get (by omega), List.getElem_reverse]
theorem Ord.rev {n : Nat} {p : List Int} (h : Ord n p) : Ord n p.reverse := h.perm (List.reverse_perm p)
theorem rev_idx {n : Nat} {p : List Int} (h : Ord n p) {x : Nat} (hx : x < n) : p.reverse.idxOf (x : Int) = n - 1 - p.idxOf (x : Int) := by
  have hi := h.idx_lt hx
  have e : nth p.reverse (n - 1 - p.idxOf (x : Int)) = x := by
    rw [nth_rev (by rw [h.len]; omega), h.len, show n - 1 - (n - 1 - p.idxOf (x : Int)) = p.idxOf (x : Int) by omega]
    exact h.at_idx hx
  have := h.rev.idx (k := n - 1 - p.idxOf (x : Int)) (by omega)
  rw [e] at this
  exact this
theorem rev_bf {n : Nat} {p : List Int} (h : Ord n p) {x y : Nat} (hx : x < n) (hy : y < n) : bf p.reverse x y = bf p y x := by
  unfold bf
  rw [rev_idx h hx, rev_idx h hy]
  have := h.idx_lt hx
  have := h.idx_lt hy
  congr 1
  apply propext; omega
def turnV (v : List (List Int)) : List (List Int) := v.map List.reverse
theorem turn_votes {n : Nat} {v : List (List Int)} (hv : Votes n v) : Votes n (turnV v) := ⟨by unfold turnV; rw [List.length_map]; exact hv.1, fun q hq => by
  obtain ⟨p, hp, rfl⟩ := List.mem_map.1 hq
  exact (hv.2 p hp).rev⟩
theorem turn_duel {n : Nat} {v : List (List Int)} (hv : ∀ p ∈ v, Ord n p) {x y : Nat} (hx : x < n) (hy : y < n) : duel (turnV v) x y = duel v y x := by
  induction v with
  | nil => rfl
  | cons p v ih =>
    have := ih fun q hq => hv q (by simp [hq])
    unfold turnV at this ⊢
    simp only [List.map_cons, duel, this, rev_bf (hv p (by simp)) hx hy]
theorem turn_pts {n : Nat} {v : List (List Int)} (hv : ∀ p ∈ v, Ord n p) {x : Nat} (hx : x < n) : pts n v x + pts n (turnV v) x = ((n : Int) - 1) * v.length := by
  induction v with
  | nil => simp [pts, turnV]
  | cons p v ih =>
    have := ih fun q hq => hv q (by simp [hq])
    have h1 := rev_idx (hv p (by simp)) hx
    have h2 := (hv p (by simp)).idx_lt hx
    unfold turnV at this ⊢
    simp only [List.map_cons, pts, List.length_cons, h1]
    rw [Int.natCast_add, Int.mul_add]
    omega
theorem turned_ok {n : Nat} (h6 : n ≤ 6) {v : List (List Int)} (hv : Votes n v) : pk_turned_m v = some (turnV v) := by
  apply Ok.eq
  unfold pk_turned_m
  have h30 := hv.1
  rw [ok_bindR]
  refine ok_rangeL (fun k (s : List (List Int)) => s = turnV (v.take k)) rfl (fun k r s hk hI => ?_) fun s hs => by rw [ok_some, hs, List.take_length]
  have et : v.take (k + 1) = v.take k ++ [r] := by rw [List.take_succ, hk]; rfl
  have hr : Ord n r := hv.2 r (List.mem_of_getElem? hk)
  have hrl := hr.len
  have sl : s.length ≤ 30 := by rw [hI]; unfold turnV; rw [List.length_map, List.length_take]; omega
  unfold pk_turned_b1
  rw [clone_ok r (by omega), Option.bind_some, reverse_ok r (by omega), Option.bind_some, chk_t (by simp; omega), Option.bind_some, ok_some, flok_nx, et, hI]
  unfold turnV
  rw [List.map_append]; rfl
end Go.Pu
