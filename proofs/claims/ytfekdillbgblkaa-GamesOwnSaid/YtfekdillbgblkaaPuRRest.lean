/- The plain law: all settle, each move cheaper for the mover and lower for all. -/
import Derived.Test.YtfekdillbgblkaaWGamesOwnModels
import Derived.Test.YtfekdillbgblkaaPuRoads
import Derived.Test.YtfekdillbgblkaaPuRHeight
set_option linter.all false
namespace Go.Pu
open Go.Fw Go.Mo
theorem better_ok {x0 : List (List Int)} {x1 : List Int} (h : Roads x0 x1) {i : Nat} (hi : i < x1.length) : ∃ b : Nat, roads_Better_m x0 x1 (i : Int) = some ((b : Int), 0) ∧ b < x0.length ∧ ((b : Int) = nth x1 i ∨ pay x0 (x1.set i (b : Int)) i < pay x0 x1 i) := by
  obtain ⟨l, el, hl⟩ := load_ok h
  have h4 := h.m4; have h6 := h.n6
  have ha := h.at_ i hi
  obtain ⟨a, hai⟩ : ∃ a : Nat, nth x1 i = (a : Int) := ⟨(nth x1 i).toNat, by omega⟩
  rw [hai] at ha ⊢
  have hal : a < x0.length := by omega
  have hb := cnt_bound x1 a x1.length
  have hc := cnt_pos x1 a x1.length i hi hai
  have hp : pay x0 x1 i = nth (nth x0 a) ((cnt x1 a x1.length).toNat - 1) := by unfold pay; rw [hai]; rfl
  have hpn : ∀ r : Nat, r ≠ a → pay x0 (x1.set i (r : Int)) i = nth (nth x0 r) (cnt x1 r x1.length).toNat := fun r hr => by
    have b1 := cnt_bound x1 r x1.length
    unfold pay
    rw [nth_set hi, if_pos rfl, Int.toNat_natCast, List.length_set, cnt_set hi rfl r, hai, if_neg (by omega), if_pos rfl]
    have : (cnt x1 r x1.length - 0 + 1).toNat - 1 = (cnt x1 r x1.length).toNat := by omega
    rw [this]
  have : Ok (roads_Better_m x0 x1 (i : Int)) (fun p => p.2 = 0 ∧ ∃ b : Nat, p.1 = (b : Int) ∧ b < x0.length ∧ ((b : Int) = (a : Int) ∨ pay x0 (x1.set i (b : Int)) i < pay x0 x1 i)) := by
    have hcheck : (if decide ((i : Int) < (0 : Int)) then some (Fl.nx true) else some (Fl.nx (decide ((i : Int) ≥ ((x1).length : Int))))) = (some (Fl.nx false) : Option (Fl (Int × Int) Unit Bool)) := by
      rw [if_neg (by simp)]; simp; omega
    unfold roads_Better_m
    rw [h.check, Option.bind_some, if_neg (by decide), hcheck, ok_bindR, ok_some, flok_nx, if_neg (by decide), el, Option.bind_some, idx_nat, nth_at hi, Option.bind_some, hai, idx_nat, nth_at hal, Option.bind_some, idx_nat, hl.at? hal, Option.bind_some, wsub_of (by omega) (by omega), show cnt x1 a x1.length - 1 = (((cnt x1 a x1.length).toNat - 1 : Nat) : Int) by omega, idx_nat, nth_at (by have := (h.row a hal).1; omega), Option.bind_some, ← hp, ok_bindR]
    refine ok_rangeL (fun k (s : Int × Int) => ∃ b : Nat, s.1 = (b : Int) ∧ b < x0.length ∧ s.2 ≤ pay x0 x1 i ∧ ((b : Int) = (a : Int) ∨ (s.2 < pay x0 x1 i ∧ pay x0 (x1.set i (b : Int)) i = s.2))) ⟨a, rfl, hal, Int.le_refl _, .inl rfl⟩ (fun k row s hk hI => ?_) fun s hs => ?_
    · obtain ⟨hx, hkl⟩ := nth_of hk
      obtain ⟨b, c⟩ := s
      obtain ⟨b', e, hb', hcp, hor⟩ := hI
      simp only at e hcp hor
      subst e
      have bk := cnt_bound x1 k x1.length
      unfold roads_Better_b1
      simp only [idx_nat, nth_at hi, hai, Option.bind_some, hl.at? hkl, ok_bindF]
      by_cases hka : k = a
      · subst hka
        rw [if_neg (by simp), ok_some, flok_nx, if_neg (by decide), ok_some, flok_nx]
        exact ⟨b', rfl, hb', hcp, hor⟩
      · rw [if_pos (by rw [bne_iff_ne]; omega)]
        have hlt : (cnt x1 k x1.length).toNat < row.length := by
          have := (h.row k hkl).1
          rw [hx] at this
          have hca := cnt_set (x := (k : Int)) hi rfl k
          have hbb := cnt_bound (x1.set i (k : Int)) k x1.length
          rw [hca, hai, if_neg (by omega), if_pos rfl] at hbb
          omega
        have hci : cnt x1 k x1.length = (((cnt x1 k x1.length).toNat : Nat) : Int) := by omega
        rw [hci, idx_nat, nth_at hlt]
        simp only [Option.bind_some, ok_some, flok_nx, ok_ite, decide_eq_true_eq]
        refine ⟨fun hless => ⟨k, rfl, hkl, by omega, .inr ⟨by omega, ?_⟩⟩, fun _ => ⟨b', rfl, hb', hcp, hor⟩⟩
        rw [hpn k hka, hx]
    · obtain ⟨b, e, hb', hcp, hor⟩ := hs
      rw [ok_some]
      refine ⟨rfl, b, e, hb', ?_⟩
      rcases hor with h | ⟨h, h'⟩
      · exact .inl h
      · exact .inr (by omega)
  obtain ⟨⟨p, e⟩, h1, h2, b, h3, h4, h5⟩ := this
  simp only at h2 h3
  subst h2 h3
  exact ⟨b, h1, h4, h5⟩
structure Rest (x0 : List (List Int)) (x1 l : List Int) (s : Int) : Prop where
  ok : Roads x0 l
  len : l.length = x1.length
  lo : 0 ≤ s
  down : s ≤ Hgt x0 x1 - Hgt x0 l
  same : s = 0 → l = x1
def Still (x0 : List (List Int)) (l : List Int) (k : Int) : Prop := ∀ j : Nat, (j : Int) < k → roads_Better_m x0 l (j : Int) = some (nth l j, 0)
theorem settle_ok {x0 : List (List Int)} {x1 : List Int} (h : Roads x0 x1) : ∃ l s, roads_Settle_m x0 x1 = some (l, s, 0) ∧ Rest x0 x1 l s ∧ Still x0 l l.length := by
  have h6 := h.n6
  have b0 := Hgt_le h
  have : Ok (roads_Settle_m x0 x1) (fun p => p.2.2 = 0 ∧ Rest x0 x1 p.1 p.2.1 ∧ Still x0 p.1 p.1.length) := by
    unfold roads_Settle_m
    rw [h.check, Option.bind_some, if_neg (by decide), clone_int (by omega), Option.bind_some, ok_bindR]
    refine ok_loopM (fun s : List Int × Int × Int => Rest x0 x1 s.1 s.2.1 ∧ 0 ≤ s.2.2 ∧ s.2.2 ≤ s.1.length ∧ Still x0 s.1 s.2.2) (fun s => (Hgt x0 s.1 * 7 + (6 - s.2.2)).toNat) (fun s hI => ?_) _ _ (⟨⟨h, rfl, Int.le_refl _, by simp, fun _ => rfl⟩, by simp, by simp, fun j hj => by simp only at hj; omega⟩ : _ ∧ _) (by simp only; omega)
    obtain ⟨l, s, k⟩ := s
    obtain ⟨hr, k0, kl, hs⟩ := hI
    simp only at hr k0 kl hs
    have hl := hr.len
    have bl := Hgt_le hr.ok
    have hd := hr.down
    have hlo := hr.lo
    unfold roads_Settle_b1
    simp only
    obtain ⟨i, rfl⟩ : ∃ i : Nat, k = i := ⟨k.toNat, by omega⟩
    by_cases hlt : (i : Int) < (l.length : Int)
    · rw [if_pos (by simpa using hlt)]
      have hil : i < l.length := by omega
      obtain ⟨b, eb, hbl, hor⟩ := better_ok hr.ok hil
      rw [eb, Option.bind_some, idx_nat, nth_at hil, Option.bind_some]
      by_cases hne : (b : Int) = nth l i
      · rw [if_neg (by simp [hne]), ok_some, flok_nx, wadd_of (by omega) (by omega)]
        refine ⟨⟨hr, by simp only; omega, by simp only; omega, fun j hj => ?_⟩, by simp only; omega⟩
        simp only at hj ⊢
        by_cases e : j = i
        · subst e; rw [eb, hne]
        · exact hs j (by omega)
      · rw [if_pos (by simpa using hne)]
        have hp : pay x0 (l.set i (b : Int)) i < pay x0 l i := by
          rcases hor with h | h
          · exact (hne h).elim
          · exact h
        have hm := move_ok hr.ok hil hbl
        have hset := hr.ok.set hil hbl
        have bl' := Hgt_le hset
        rw [Option.bind_some, ok_some, flok_nx, Int.toNat_natCast, wadd_of (x := s) (by omega) (by omega), wadd_of (x := (-1 : Int)) (by decide) (by decide)]
        refine ⟨⟨⟨hset, by simpa using hl, by simp only; omega, by simp only; omega, fun hz => by simp only at hz; omega⟩, by simp, by simp only; omega, fun j hj => by simp only at hj; omega⟩, by simp only; omega⟩
    · rw [if_neg (by simpa using hlt), ok_some, flok_br, ok_some]
      have : (i : Int) = (l.length : Int) := by omega
      refine ⟨rfl, hr, ?_⟩
      simp only
      rw [← this]; exact hs
  obtain ⟨⟨l, s, e⟩, h1, h2, h3, h4⟩ := this
  simp only at h2 h3 h4
  subst h2
  exact ⟨l, s, h1, h3, h4⟩
theorem RoadsRest (x0 : List (List Int)) (h0 : (∀ r ∈ x0, (∀ x ∈ r, (Lit.int .i64 x).wf = true) ∧ r.length ≤ maxLen) ∧ x0.length ≤ maxLen) (x1 : List Int) (h1 : (∀ x ∈ x1, (Lit.int .i64 x).wf = true) ∧ x1.length ≤ maxLen) : pk_RoadsRest_m x0 x1 = some true := by
  have hml : maxLen = 9223372036854775807 := by decide
  have hm0 : x0.length ≤ 9223372036854775807 := hml ▸ h0.2
  have hm1 : x1.length ≤ 9223372036854775807 := hml ▸ h1.2
  obtain ⟨c, ec, hc⟩ := rchk_ok x0 x1 hm0 hm1
  unfold pk_RoadsRest_m
  rw [crowds_t, Option.bind_some, if_neg (by decide)]
  by_cases c0 : c = 0
  · have h := hc.1 c0
    obtain ⟨l, s, es, hr, hst⟩ := settle_ok h
    have b1 := Hgt_le h; have b2 := Hgt_le hr.ok; have hd := hr.down; have hlo := hr.lo
    rw [es, Option.bind_some]
    simp only [bne_self_eq_false, Bool.false_eq_true, if_false, hr.len, ok_bindR, ok_some, flok_nx]
    apply Ok.eq
    rw [ok_bindR, ok_some, flok_nx, if_neg (by decide), height_ok h, Option.bind_some, height_ok hr.ok, Option.bind_some, ok_bindR]
    refine ok_rangeN (fun _ _ => True) trivial (fun k u hk _ => ?_) fun _ _ => ?_
    · have hkl : k < l.length := by rw [hr.len]; exact hk
      unfold pk_RoadsRest_b1
      simp only
      rw [hst k (by omega), Option.bind_some, idx_nat, nth_at hkl]
      simp [ok_bindF, ok_some, flok_nx, ok_ite]
    · rw [rgood00, Option.bind_some, if_pos rfl, if_pos (by simpa using hlo), wsub_of (by omega) (by omega), if_pos (by simpa using hd), equal_ok, Option.bind_some, ok_bindR, ok_some, flok_nx, ok_some]
      by_cases hz : s = 0
      · rw [hr.same hz, hz]; simp
      · have : l ≠ x1 := fun e => by rw [e] at hd; omega
        simp [hz, this]
  · have : roads_Settle_m x0 x1 = some ([], 0, c) := by
      unfold roads_Settle_m; rw [ec, Option.bind_some, if_pos (by simpa using c0)]
    rw [this, Option.bind_some]
    have : (c != 0) = true := by simpa using c0
    simp [this, bindR]
end Go.Pu
