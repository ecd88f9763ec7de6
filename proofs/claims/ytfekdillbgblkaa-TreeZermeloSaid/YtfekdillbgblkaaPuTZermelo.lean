/- The plain law: in a tree of two where one gains what the other loses, the solved pay is the least that each can hold. -/
import Derived.Test.YtfekdillbgblkaaWTreeZermeloModels
import Derived.Test.YtfekdillbgblkaaPuTree
import Derived.Test.YtfekdillbgblkaaPuTKuhn
import Derived.Test.YtfekdillbgblkaaPuGood
set_option linter.all false
namespace Go.Pu
open Go.Fw Go.Mo
def Zs (y : Nd) : Prop := y.1 < 0 → 0 < y.2.2.length → ∃ a : Int, y.2.2 = [a, wsub 0 a]
theorem zsum {x1 : List Nd} {s : List Int} (t : Tree 2 x1) (z : ∀ i, i < x1.length → Zs (nth x1 i)) (p : Plan x1 s) {i : Nat} {v : List Int} (e : End x1 s i v) : i < x1.length → nth v 0 = - nth v 1 := by
  induction e with
  | @leaf i h =>
    intro hi
    rcases t.node i hi with ⟨n1, n2, n3, n4⟩ | hn
    · obtain ⟨a, ha⟩ := z i hi h (by omega)
      have b := n4 0 (by omega)
      rw [ha] at b ⊢
      have b' : -1000 ≤ a ∧ a ≤ 1000 := b
      show a = - wsub 0 a
      rw [wsub_of (by omega) (by omega)]; omega
    · omega
  | @go i c v h hc e ih =>
    intro hi
    have := p.2 i hi h
    rcases t.node i hi with hn | hn
    · omega
    · have := hn.2.2.2.2.2 c (by omega)
      exact ih (by omega)
def Dev (x1 : List Nd) (ch l : List Int) (p : Int) : Prop := l.length = x1.length ∧ ∀ i, i < x1.length → 0 ≤ (nth x1 i).1 → (0 ≤ nth l i ∧ nth l i < (nth x1 i).2.1.length) ∧ ((nth x1 i).1 ≠ p → nth l i = nth ch i)
theorem Dev.set {x1 : List Nd} {ch l : List Int} {p u : Int} {k : Nat} (h : Dev x1 ch l p) (hk : k < x1.length) (hp : (nth x1 k).1 = p) (h0 : 0 ≤ u) (h1 : u < (nth x1 k).2.1.length) : Dev x1 ch (l.set k u) p := by
  refine ⟨by simpa using h.1, fun i hi hq => ?_⟩
  rw [nth_set (by rw [h.1]; exact hk)]
  by_cases e : i = k
  · subst e
    rw [if_pos rfl]
    exact ⟨⟨h0, h1⟩, fun hne => (hne hp).elim⟩
  · rw [if_neg e]; exact h.2 i hi hq
theorem zgood : pk_good_m [0, 0] = some true := by rw [good_at]; rfl
theorem TreeZermelo (x0 : List Nd) {P : Prop} (_ : P) (h : x0.length ≤ 2513169434843) (x1 : List Int) (h1 : (∀ x ∈ x1, (Lit.int .i64 x).wf = true) ∧ x1.length ≤ maxLen) (_ : x1.length ≤ 17592186043904) (x2 : List Int) (h2 : (∀ x ∈ x2, (Lit.int .i64 x).wf = true) ∧ x2.length ≤ maxLen) (_ : x2.length ≤ 17592186043904) : pk_TreeZermelo_m x0 x1 x2 = some true := by
  apply Ok.eq
  unfold pk_TreeZermelo_m slices_Clone_api_Node_api_Node_m
  rw [trees_t, Option.bind_some, if_neg (by decide), chk_t (by omega), Option.bind_some, Option.bind_some, ok_bindR]
  refine ok_rangeN (fun k (l : List Nd) => l.length = x0.length ∧ ∀ i, i < k → Zs (nth l i)) ⟨rfl, fun i hi => by omega⟩ (fun k l hk hI => ?_) fun l hl => ?_
  · obtain ⟨i1, i2⟩ := hI
    have hkl : k < l.length := by omega
    unfold pk_TreeZermelo_b1
    rw [idx_nat, nth_at hkl, Option.bind_some, ok_bindF]
    have next : ∀ y : Nd, Zs y → (l.set k y).length = x0.length ∧ ∀ i, i < k + 1 → Zs (nth (l.set k y) i) := fun y hy => ⟨by simpa using i1, fun i hi => by
      rw [nth_set hkl]
      split
      · exact hy
      · exact i2 i (by omega)⟩
    have stay : Zs (nth l k) → l.length = x0.length ∧ ∀ i, i < k + 1 → Zs (nth l i) := fun hz => ⟨i1, fun i hi => by
      by_cases e : i = k
      · rw [e]; exact hz
      · exact i2 i (by omega)⟩
    by_cases hp : (nth l k).1 < 0
    · rw [if_pos (by simpa using hp), ok_some, flok_nx]
      by_cases hlen : 0 < (nth l k).2.2.length
      · rw [if_pos (by simpa using hlen), show (0 : Int) = ((0 : Nat) : Int) from rfl, idx_nat, nth_at hlen, Option.bind_some, Option.bind_some, Option.bind_some, ok_some, flok_nx]
        exact next _ fun _ _ => ⟨_, rfl⟩
      · rw [if_neg (by simpa using hlen), ok_some, flok_nx]
        exact stay fun _ hh => (hlen hh).elim
    · rw [if_neg (by simpa using hp), ok_some, flok_nx, if_neg (by decide), ok_some, flok_nx]
      exact stay fun hh => (hp hh).elim
  · obtain ⟨l1, l2⟩ := hl
    have hz : ∀ i, i < l.length → Zs (nth l i) := fun i hi => l2 i (by omega)
    obtain ⟨c, ec, hc⟩ := tchk 2 l
    by_cases c0 : c = 0
    · subst c0
      have t : Tree 2 l := by
        rcases hc with h | h
        · exact (h rfl).elim
        · exact h
      obtain ⟨ch, vals, es, hs⟩ := solve_ok t ec
      have hm := t.m1; have hm30 := t.m30
      have e0 := hs.end t _ 0 (by omega) (Nat.le_refl _)
      have lv := hs.len 0 (by omega) (by omega)
      have z0 := zsum t hz hs.plan e0 (by omega)
      rw [es, Option.bind_some]
      simp only [bne_self_eq_false, Bool.false_eq_true, if_false, hs.l1, hs.l2]
      rw [ok_bindR, ok_some, flok_nx, if_neg (by decide), clone_int (by rw [hs.l1]; omega), Option.bind_some, Option.bind_some, ok_bindR]
      have start : ∀ p, Dev l ch ch p := fun p => ⟨hs.l1, fun i hi hq => ⟨hs.plan.2 i hi hq, fun _ => rfl⟩⟩
      refine ok_rangeL (fun k (q : List Int × List Int) => Dev l ch q.1 1 ∧ Dev l ch q.2 0) ⟨start 1, start 0⟩ (fun k y q hk hI => ?_) fun q hq => ?_
      · obtain ⟨hy, hkl⟩ := nth_of hk
        obtain ⟨q1, q2⟩ := q
        obtain ⟨d1, d2⟩ := hI
        simp only at d1 d2
        have kids : 0 ≤ y.1 → 1 ≤ y.2.1.length ∧ y.2.1.length ≤ 6 := fun hp => by
          rcases t.node k hkl with hn | hn
          · rw [hy] at hn; omega
          · rw [hy] at hn; exact ⟨hn.2.2.1, hn.2.2.2.1⟩
        unfold pk_TreeZermelo_b2
        simp only
        rw [ok_bindF]
        have one : Ok (if (y.1 == (1 : Int)) = true then some (Fl.nx (decide ((k : Int) < ((x1).length : Int)))) else some (Fl.nx false) : Option (Fl Bool (List Int × List Int) Bool)) (FlOk (fun b => Ok (if b = true then (idx x1 (k : Int)).bind fun y469 => (pk_Within_m y469 ((y.2.1).length : Int)).bind fun y472 => (idx q1 (k : Int)).bind fun y474 => some (.nx (List.set q1 k y472)) else some (.nx q1) : Option (Fl Bool (List Int × List Int) (List Int))) (FlOk (fun r => Dev l ch r 1) (fun _ => False) (fun _ => False))) (fun _ => False) (fun _ => False)) := by
          by_cases hy1 : y.1 = 1
          · rw [if_pos (by simpa using hy1), ok_some, flok_nx]
            by_cases hlt : (k : Int) < (x1.length : Int)
            · have hkk := kids (by omega)
              have a0 := Int.emod_nonneg (nth x1 k) (b := (y.2.1.length : Int)) (by omega)
              have a1 := Int.emod_lt_of_pos (nth x1 k) (b := (y.2.1.length : Int)) (by omega)
              rw [if_pos (by simpa using hlt), idx_nat, nth_at (by omega), Option.bind_some, within_at _ _ (by omega) (by omega), Option.bind_some, idx_nat, nth_at (by rw [d1.1]; exact hkl), Option.bind_some, ok_some, flok_nx]
              exact d1.set hkl (by rw [hy]; exact hy1) a0 (by rw [hy]; exact a1)
            · rw [if_neg (by simpa using hlt), ok_some, flok_nx]; exact d1
          · rw [if_neg (by simpa using hy1), ok_some, flok_nx, if_neg (by decide), ok_some, flok_nx]; exact d1
        refine one.mono fun b hb => ?_
        cases b with
        | br _ => exact hb.elim
        | rt _ => exact hb.elim
        | nx b =>
          rw [flok_nx] at hb ⊢
          rw [ok_bindF]
          refine hb.mono fun r hr => ?_
          cases r with
          | br _ => exact hr.elim
          | rt _ => exact hr.elim
          | nx r =>
            rw [flok_nx] at hr ⊢
            rw [ok_bindF]
            by_cases hy0 : y.1 = 0
            · rw [if_pos (by simpa using hy0), ok_some, flok_nx]
              by_cases hlt : (k : Int) < (x2.length : Int)
              · have hkk := kids (by omega)
                have a0 := Int.emod_nonneg (nth x2 k) (b := (y.2.1.length : Int)) (by omega)
                have a1 := Int.emod_lt_of_pos (nth x2 k) (b := (y.2.1.length : Int)) (by omega)
                rw [if_pos (by simpa using hlt), idx_nat, nth_at (by omega), Option.bind_some, within_at _ _ (by omega) (by omega), Option.bind_some, idx_nat, nth_at (by rw [d2.1]; exact hkl), Option.bind_some, ok_some, flok_nx]
                exact ⟨hr, d2.set hkl (by rw [hy]; exact hy0) a0 (by rw [hy]; exact a1)⟩
              · rw [if_neg (by simpa using hlt), ok_some, flok_nx]; exact ⟨hr, d2⟩
            · rw [if_neg (by simpa using hy0), ok_some, flok_nx, if_neg (by decide), ok_some, flok_nx]; exact ⟨hr, d2⟩
      · obtain ⟨q1, q2⟩ := q
        obtain ⟨d1, d2⟩ := hq
        simp only at d1 d2
        have p1 : Plan l q1 := ⟨d1.1, fun i hi hq => (d1.2 i hi hq).1⟩
        have p2 : Plan l q2 := ⟨d2.1, fun i hi hq => (d2.2 i hi hq).1⟩
        obtain ⟨w1, v1, ep1, ev1⟩ := play_ok t ec p1
        obtain ⟨w2, v2, ep2, ev2⟩ := play_ok t ec p2
        have k1 := kuhn (p := 1) t hs p1 (fun i hi hq hne => (d1.2 i hi hq).2 (by simpa using hne)) ev1 (by omega)
        have k2 := kuhn (p := 0) t hs p2 (fun i hi hq hne => (d2.2 i hi hq).2 (by simpa using hne)) ev2 (by omega)
        have s1 := zsum t hz p1 ev1 (by omega)
        have n1 := End.len t p1 ev1 (by omega)
        have n2 := End.len t p2 ev2 (by omega)
        simp only
        rw [ep1, Option.bind_some, ep2, Option.bind_some, zgood, Option.bind_some]
        simp only [if_true, n1, n2, beq_self_eq_true]
        rw [show (0 : Int) = ((0 : Nat) : Int) from rfl, idx_nat, nth_at (show 0 < vals.length by rw [hs.l2]; omega)]
        simp only [Option.bind_some, lv, beq_self_eq_true, if_true, idx_nat, nth_at (show 0 < v1.length by omega), nth_at (show 0 < v2.length by omega), nth_at (show 0 < (nth vals 0).length by omega)]
        rw [if_pos (by rw [decide_eq_true_eq]; omega), ok_bindR, ok_some, flok_nx, ok_some, decide_eq_true_eq]
        exact k2
    · rw [solve_bad ec c0, Option.bind_some]
      have : (c != 0) = true := by simpa using c0
      simp [this, bindR, ok_some]
      decide
end Go.Pu
