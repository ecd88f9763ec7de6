/- The plain law: all votes the other way round, or by other names, come as near; two of each twice as far, by the same order. -/
import Derived.Test.YtlglnacpabmjnaaWWorthAlikeModels
import Derived.Test.YtlglnacpabmjnaaPuReverse
import Derived.Test.YtlglnacpabmjnaaPuRNames
import Derived.Test.YtlglnacpabmjnaaPuBest
set_option linter.all false
namespace Go.Pu
open Go.Fw Go.Mo
theorem best_first {n : Nat} {v : List (List Int)} (h1 : 1 ≤ n) (h6 : n ≤ 6) (hv : Votes n v) {l : List (List Int)} (el : order_All_m (n : Int) = some (l, 0)) (hR : Rows_ n n l) :
    ∃ i, i < l.length ∧ middle_Best_m (n : Int) v = some (nth l i, cost n (duel v) (nth l i), 0) ∧ (∀ j, j < i → cost n (duel v) (nth l i) < cost n (duel v) (nth l j)) ∧ ∀ q, Ord n q → cost n (duel v) (nth l i) ≤ cost n (duel v) q := by
  obtain ⟨m, em, hM⟩ := duels_ok h1 h6 hv
  have hd : ∀ x y, x < n → y < n → 0 ≤ duel v x y ∧ duel v x y ≤ 30 := fun x y _ _ => by have := duel_bound v x y; have := hv.1; omega
  have : Ok (middle_Best_m (n : Int) v) (fun r => r.2.2 = 0 ∧ ∃ i, i < l.length ∧ r.1 = nth l i ∧ r.2.1 = cost n (duel v) (nth l i) ∧ (∀ j, j < i → cost n (duel v) (nth l i) < cost n (duel v) (nth l j)) ∧ ∀ j, j < l.length → cost n (duel v) (nth l i) ≤ cost n (duel v) (nth l j)) := by
    unfold middle_Best_m
    rw [em, el]
    simp only [ok_bind, ok_bindR, ok_ite, ok_some, bne_self_eq_false, Bool.false_eq_true, false_implies, true_and, not_false_eq_true, true_implies]
    refine ok_rangeN (s := (([] : List Int), (-1 : Int))) (fun (k : Nat) (s : List Int × Int) => (k = 0 → s.2 = -1) ∧ (0 < k → ∃ i, i < k ∧ s.1 = nth l i ∧ s.2 = cost n (duel v) (nth l i) ∧ (∀ j, j < i → cost n (duel v) (nth l i) < cost n (duel v) (nth l j)) ∧ ∀ j, j < k → cost n (duel v) (nth l i) ≤ cost n (duel v) (nth l j))) ⟨fun _ => rfl, fun h => by omega⟩ (fun k s hk hs => ?_) fun s hs => ?_
    · obtain ⟨b, c⟩ := s
      obtain ⟨s1, s2⟩ := hs
      simp only at s1 s2
      have hrow := rows_ord (hR.row _ (nth_mem hk))
      have cb := cost_bound h6 hd (nth l k)
      unfold middle_Best_b1
      rw [idx_nat, nth_at hk]
      simp only [Option.bind_some, ok_bindF]
      refine (cost_one h6 hM hd hrow 0).mono fun r hr => ?_
      cases r with
      | br _ => exact hr.elim
      | rt _ => exact hr.elim
      | nx c' =>
        have hc' : c' = cost n (duel v) (nth l k) := hr
        subst hc'
        simp only [flok_nx, ok_ite, ok_some, decide_eq_true_eq]
        have new : (k = 0 ∨ (0 < k ∧ cost n (duel v) (nth l k) < c)) → (k + 1 = 0 → cost n (duel v) (nth l k) = -1) ∧ (0 < k + 1 → ∃ i, i < k + 1 ∧ nth l k = nth l i ∧ cost n (duel v) (nth l k) = cost n (duel v) (nth l i) ∧ (∀ j, j < i → cost n (duel v) (nth l i) < cost n (duel v) (nth l j)) ∧ ∀ j, j < k + 1 → cost n (duel v) (nth l i) ≤ cost n (duel v) (nth l j)) := fun hh => by
          refine ⟨fun h => by omega, fun _ => ⟨k, by omega, rfl, rfl, fun j hj => ?_, fun j hj => ?_⟩⟩
          · rcases hh with h | ⟨h, h'⟩
            · omega
            · obtain ⟨i, i1, i2, i3, i4, i5⟩ := s2 h
              have := i5 j hj; omega
          · by_cases e : j = k
            · subst e; exact Int.le_refl _
            · rcases hh with h | ⟨h, h'⟩
              · omega
              · obtain ⟨i, i1, i2, i3, i4, i5⟩ := s2 h
                have := i5 j (by omega); omega
        have old : 0 < k → ¬ cost n (duel v) (nth l k) < c → (k + 1 = 0 → c = -1) ∧ (0 < k + 1 → ∃ i, i < k + 1 ∧ b = nth l i ∧ c = cost n (duel v) (nth l i) ∧ (∀ j, j < i → cost n (duel v) (nth l i) < cost n (duel v) (nth l j)) ∧ ∀ j, j < k + 1 → cost n (duel v) (nth l i) ≤ cost n (duel v) (nth l j)) := fun h0 hh => by
          obtain ⟨i, i1, i2, i3, i4, i5⟩ := s2 h0
          refine ⟨fun h => by omega, fun _ => ⟨i, by omega, i2, i3, i4, fun j hj => ?_⟩⟩
          by_cases hik : j = k
          · subst hik; omega
          · exact i5 j (by omega)
        refine ⟨fun hneg => ⟨fun _ => new ?_, fun hh => absurd trivial hh⟩, fun hnn => ⟨fun hlt => new (.inr ⟨?_, hlt⟩), fun hge => old ?_ hge⟩⟩
        · refine Classical.byContradiction fun hh => ?_
          obtain ⟨i, i1, i2, i3, i4, i5⟩ := s2 (by omega)
          have := cost_bound h6 hd (nth l i)
          omega
        · refine Nat.pos_of_ne_zero fun h0 => ?_
          have := s1 h0; omega
        · refine Nat.pos_of_ne_zero fun h0 => ?_
          have := s1 h0; omega
    · have hpos : 0 < l.length := by
        have := hR.all (sides n) (ord_row (sides_ord n))
        exact List.length_pos_of_mem this
      obtain ⟨i, i1, i2, i3, i4, i5⟩ := hs.2 hpos
      exact ⟨i, i1, i2, i3, i4, i5⟩
  obtain ⟨⟨p, c, e⟩, g1, g2, i, g3, g4, g5, g6, g7⟩ := this
  simp only at g2 g4 g5
  subst g2 g4 g5
  refine ⟨i, g3, g1, g6, fun q hq => ?_⟩
  obtain ⟨j, hj, e⟩ := mem_nth (hR.all q (ord_row hq))
  have := g7 j hj
  rwa [e] at this
/-- the least cost, by whatever order -/
theorem best_least {n : Nat} {d d' : Nat → Nat → Int} {p q : List Int} (f g : List Int → List Int) (hp : Ord n p) (hq : Ord n q) (hf : ∀ r, Ord n r → Ord n (f r) ∧ cost n d' (f r) = cost n d r) (hg : ∀ r, Ord n r → Ord n (g r) ∧ cost n d (g r) = cost n d' r)
    (h1 : ∀ r, Ord n r → cost n d p ≤ cost n d r) (h2 : ∀ r, Ord n r → cost n d' q ≤ cost n d' r) : cost n d p = cost n d' q := by
  have a1 := h1 _ (hg q hq).1
  rw [(hg q hq).2] at a1
  have a2 := h2 _ (hf p hp).1
  rw [(hf p hp).2] at a2
  omega
theorem turn_cost {n : Nat} {v : List (List Int)} (hv : ∀ p ∈ v, Ord n p) {r : List Int} (hr : Ord n r) : cost n (duel (turnV v)) r.reverse = cost n (duel v) r := by
  unfold cost
  rw [sumN_comm]
  refine sumN_congr fun x hx => sumN_congr fun y hy => ?_
  rw [rev_bf hr hy hx, turn_duel hv hx hy]
theorem pi_sum {n : Nat} {p : List Int} (hp : Ord n p) (f : Nat → Int) : sumN n (fun x => f (pi_ p x)) = sumN n f := ord_sum hp f
theorem ren_cost {n : Nat} {p : List Int} (hp : Ord n p) {v : List (List Int)} (hv : ∀ p ∈ v, Ord n p) {r : List Int} (hr : Ord n r) : cost n (duel (ren p v)) (r.map (nm p)) = cost n (duel v) r := by
  unfold cost
  rw [← pi_sum hp]
  refine sumN_congr fun x hx => ?_
  rw [← pi_sum hp]
  refine sumN_congr fun y hy => ?_
  rw [(ren_sums hp v hv).2 y x hy hx]
  unfold bf
  rw [ren_idx hp hr hx, ren_idx hp hr hy]
theorem map_nm_sur {n : Nat} {p : List Int} (hp : Ord n p) {q : List Int} (hq : Ord n q) : ∃ r, Ord n r ∧ r.map (nm p) = q := by
  refine ⟨q.map fun y => (p.idxOf y : Int), ⟨by rw [List.length_map, hq.len], fun x => ?_, ?_⟩, ?_⟩
  · rw [List.mem_map]
    constructor
    · rintro ⟨y, hy, rfl⟩
      have := (hq.mem y).1 hy
      obtain ⟨k, rfl⟩ : ∃ k : Nat, y = k := ⟨y.toNat, by omega⟩
      have := hp.idx_lt (x := k) (by omega)
      omega
    · rintro ⟨h0, h1⟩
      obtain ⟨k, rfl⟩ : ∃ k : Nat, x = k := ⟨x.toNat, by omega⟩
      exact ⟨nth p k, (hq.mem _).2 (hp.val (by omega)), by rw [hp.idx (by omega)]⟩
  · refine (List.pairwise_map.2 (hq.nd.imp_of_mem fun {a b} ha hb hab e => hab ?_))
    have h1 := (hq.mem a).1 ha
    have h2 := (hq.mem b).1 hb
    obtain ⟨x, rfl⟩ : ∃ k : Nat, a = k := ⟨a.toNat, by omega⟩
    obtain ⟨y, rfl⟩ : ∃ k : Nat, b = k := ⟨b.toNat, by omega⟩
    have := hp.idx_inj (x := x) (y := y) (by omega) (by omega) (by omega)
    rw [this]
  · rw [List.map_map]
    refine (List.map_congr_left fun y hy => ?_).trans (List.map_id q)
    have h1 := (hq.mem y).1 hy
    obtain ⟨x, rfl⟩ : ∃ k : Nat, y = k := ⟨y.toNat, by omega⟩
    simp only [Function.comp, nm, Int.toNat_natCast, id]
    exact hp.at_idx (by omega)
theorem two_cost {n : Nat} {v : List (List Int)} (r : List Int) : cost n (duel (v ++ v)) r = 2 * cost n (duel v) r := by
  unfold cost
  rw [← sumN_mul]
  refine sumN_congr fun x hx => ?_
  rw [← sumN_mul]
  refine sumN_congr fun y hy => ?_
  rw [duel_append]
  split <;> omega
theorem middles_t' : pk_middles_m = some true := by decide +kernel
theorem MiddleTurned (x0 : Int) (_ : (Lit.int .i64 x0).wf = true) (x1 : List (List Int)) (_ : (∀ r ∈ x1, (∀ x ∈ r, (Lit.int .i64 x).wf = true) ∧ r.length ≤ maxLen) ∧ x1.length ≤ maxLen) (x2 : List Int) (_ : (∀ x ∈ x2, (Lit.int .i64 x).wf = true) ∧ x2.length ≤ maxLen) : pk_MiddleTurned_m x0 x1 x2 = some true := by
  obtain ⟨n, n1, n6, hn⟩ := one_within x0 6 (by decide) (by decide)
  rw [show ((6 : Nat) : Int) = 6 from rfl] at hn
  obtain ⟨v0, ev, hl0, hv0⟩ := votesOf_ok n x1 n1 n6
  obtain ⟨p, ep, hp⟩ := orderOf_ok n x2 n1 (by omega)
  obtain ⟨l, el, hR, hlen⟩ := all_ok n1 n6
  have h30 := hv0.1
  have e15 : (if (15 : Int) < ((v0).length : Int) then (15 : Int) else ((v0).length : Int)) = ((min 15 v0.length : Nat) : Int) := by omega
  unfold pk_MiddleTurned_m
  rw [middles_t', Option.bind_some, if_neg (by decide), within_at x0 6 (by decide) (by decide), Option.bind_some, hn, ev, Option.bind_some, e15, chk_t (by omega), Option.bind_some]
  simp only [Int.toNat_natCast, List.drop_zero]
  have hvl : (v0.take (min 15 v0.length)).length ≤ 15 := by rw [List.length_take]; omega
  have hv : Votes n (v0.take (min 15 v0.length)) := ⟨by omega, fun q hq => hv0.2 q (List.mem_of_mem_take hq)⟩
  generalize v0.take (min 15 v0.length) = v at *
  have hvv : Votes n (v ++ v) := ⟨by rw [List.length_append]; omega, fun q hq => by
    rcases List.mem_append.1 hq with h | h <;> exact hv.2 q h⟩
  have ht := turn_votes hv
  have hr := ren_votes hp hv
  have ecl : slices_Clone_rows_m v = some v := by unfold slices_Clone_rows_m; rw [chk_t (by omega)]; rfl
  have g4 : pk_good_m [0, 0, 0, 0] = some true := by rw [good_at]; rfl
  obtain ⟨i, hi, ei, fi, mi⟩ := best_first n1 n6 hv el hR
  obtain ⟨j, hj, ej, fj, mj⟩ := best_first n1 n6 ht el hR
  obtain ⟨k, hk, ek, fk, mk⟩ := best_first n1 n6 hr el hR
  obtain ⟨m, hm, em, fm, mm⟩ := best_first n1 n6 hvv el hR
  have o : ∀ q, q < l.length → Ord n (nth l q) := fun q hq => rows_ord (hR.row _ (nth_mem hq))
  have c1 : cost n (duel v) (nth l i) = cost n (duel (turnV v)) (nth l j) :=
    best_least List.reverse List.reverse (o i hi) (o j hj) (fun r hr => ⟨hr.rev, turn_cost hv.2 hr⟩) (fun r hr => ⟨hr.rev, by rw [← turn_cost hv.2 hr.rev, List.reverse_reverse]⟩) mi mj
  have c2 : cost n (duel v) (nth l i) = cost n (duel (ren p v)) (nth l k) := by
    refine best_least (fun r => r.map (nm p)) (fun r => @dite _ (Ord n r) (Classical.propDecidable _) (fun h => Classical.choose (map_nm_sur hp h)) (fun _ => [])) (o i hi) (o k hk) (fun r hr => ⟨ren_ord hp hr, ren_cost hp hv.2 hr⟩) (fun r hr => ?_) mi mk
    rw [dif_pos hr]
    obtain ⟨q1, q2⟩ := Classical.choose_spec (map_nm_sur hp hr)
    refine ⟨q1, ?_⟩
    rw [← ren_cost hp hv.2 q1, q2]
  have c3 : i = m := by
    rcases Nat.lt_trichotomy i m with h | h | h
    · have a1 := fm i h
      rw [two_cost, two_cost] at a1
      have a2 := mi _ (o m hm)
      omega
    · exact h
    · have a1 := fi m h
      have a2 := mm _ (o i hi)
      rw [two_cost, two_cost] at a2
      omega
  subst c3
  rw [ei, Option.bind_some, turned_ok n6 hv, Option.bind_some, ej, Option.bind_some, ep, Option.bind_some, ren_ok n6 hp hv, Option.bind_some, ek, Option.bind_some, ecl, Option.bind_some, chk_t (by omega), Option.bind_some, em, Option.bind_some]
  have cb := cost_bound (n := n) (d := duel v) n6 (fun x y _ _ => by have := duel_bound v x y; have := hv.1; omega) (nth l i)
  simp only [g4, Option.bind_some, if_true, ← c1, ← c2, beq_self_eq_true, two_cost, equal_ok, decide_true]
  rw [wmul_of (by omega) (by omega), if_pos (by simp)]
  rfl
end Go.Pu
