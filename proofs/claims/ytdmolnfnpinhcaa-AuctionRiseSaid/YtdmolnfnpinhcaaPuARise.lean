/- The plain law: the rising auction ends near the second price, with one who bid that much. -/
import Derived.Test.YtdmolnfnpinhcaaWAuctionRiseModels
import Derived.Test.YtdmolnfnpinhcaaPuAuction
import Derived.Test.YtdmolnfnpinhcaaPuAPays
import Derived.Test.YtdmolnfnpinhcaaPuMax
set_option linter.all false
namespace Go.Pu
open Go.Fw Go.Mo
theorem wrap_of {x : Int} (h0 : -9223372036854775808 ≤ x) (h1 : x ≤ 9223372036854775807) : IntKind.wrap .i64 x = x := by
  rw [IntKind.wrap_i64]; omega
structure Cnt (l : List Int) (p : Int) (k : Nat) (c f : Int) : Prop where
  lo : 0 ≤ c ∧ c ≤ k
  no : c = 0 → f = -1 ∧ ∀ j : Nat, j < k → nth l j < p
  some : c ≠ 0 → 0 ≤ f ∧ f < k ∧ p ≤ nth l f.toNat
  one : c = 1 → ∀ j : Nat, j < k → (j : Int) ≠ f → nth l j < p
  two : 2 ≤ c → ∃ i j : Nat, i < k ∧ j < k ∧ i ≠ j ∧ p ≤ nth l i ∧ p ≤ nth l j
theorem Cnt.up {l : List Int} {p : Int} {k : Nat} {c f : Int} (h : Cnt l p k c f) (hk : p ≤ nth l k) : Cnt l p (k + 1) (c + 1) (if f < 0 then (k : Int) else f) := by
  have h1 := h.lo; have h2 := h.no; have h3 := h.some
  by_cases hc : c = 0
  · obtain ⟨hf, hall⟩ := h2 hc
    subst hf
    refine ⟨by omega, by omega, fun _ => ⟨by simp, by simp; omega, by simpa using hk⟩, fun _ j hj hjf => ?_, by omega⟩
    simp at hjf
    exact hall j (by omega)
  · obtain ⟨g1, g2, g3⟩ := h3 hc
    refine ⟨by omega, by omega, fun _ => ⟨by rw [if_neg (by omega)]; omega, by rw [if_neg (by omega)]; omega, by rw [if_neg (by omega)]; exact g3⟩, by omega, fun _ => ⟨f.toNat, k, by omega, by omega, by omega, g3, hk⟩⟩
theorem Cnt.pass {l : List Int} {p : Int} {k : Nat} {c f : Int} (h : Cnt l p k c f) (hk : nth l k < p) : Cnt l p (k + 1) c f := by
  have h1 := h.lo
  refine ⟨by omega, fun hc => ⟨(h.no hc).1, fun j hj => ?_⟩, fun hc => ⟨(h.some hc).1, by have := (h.some hc).2.1; omega, (h.some hc).2.2⟩, fun hc j hj hjf => ?_, fun hc => ?_⟩
  · by_cases hjk : j = k
    · rw [hjk]; exact hk
    · exact (h.no hc).2 j (by omega)
  · by_cases hjk : j = k
    · rw [hjk]; exact hk
    · exact h.one hc j (by omega) hjf
  · obtain ⟨i, j, h1, h2, h3⟩ := h.two hc
    exact ⟨i, j, by omega, by omega, h3⟩
theorem count_ok (l : List Int) (r x step p : Int) (hp : wadd r (wmul x step) = p) (hl : l.length ≤ 10) : Ok (rangeL (ρ := Int × Int × Int) (γ := Int) (auction_Rise_b2 r x step) l 0 ((0 : Int), (-1 : Int))) (FlOk (fun q : Int × Int => Cnt l p l.length q.1 q.2) (fun _ => False) (fun _ => False)) := by
  refine ok_rangeL (fun k (q : Int × Int) => Cnt l p k q.1 q.2) ⟨by simp, by simp, by simp, by simp, by simp⟩ (fun k y q hk hI => ?_) fun q hq => hq
  obtain ⟨hy, hkl⟩ := nth_of hk
  obtain ⟨c, f⟩ := q
  simp only at hI
  have h1 := hI.lo
  unfold auction_Rise_b2
  rw [hp]
  have hup : wadd c 1 = c + 1 := wadd_of (by omega) (by omega)
  simp only [ok_ite, ok_some, flok_nx, decide_eq_true_eq, hup]
  subst hy
  refine ⟨fun h => ⟨fun hf => ?_, fun hf => ?_⟩, fun h => hI.pass (by omega)⟩
  · have := hI.up h; rwa [if_pos hf] at this
  · have := hI.up h; rwa [if_neg hf] at this
theorem firstAt_ok {l : List Int} {p : Int} (h : ∃ k : Nat, k < l.length ∧ p ≤ nth l k) : Ok (auction_first_m l p) (fun f => 0 ≤ f ∧ f < l.length ∧ p ≤ nth l f.toNat) := by
  unfold auction_first_m
  simp only [ok_bindR, ok_some]
  refine ok_rangeL (fun k _ => ∀ j : Nat, j < k → nth l j < p) (by simp) (fun k y s hk hI => ?_) fun s hs => ?_
  · obtain ⟨hy, hkl⟩ := nth_of hk
    subst hy
    unfold auction_first_b1
    simp only [ok_ite, ok_some, flok_nx, flok_rt, decide_eq_true_eq]
    refine ⟨fun hc => ⟨by omega, by omega, by simpa using hc⟩, fun hc j hj => ?_⟩
    by_cases hjk : j = k
    · rw [hjk]; omega
    · exact hI j (by omega)
  · obtain ⟨k, hk, hp⟩ := h
    have := hs k hk
    omega
structure Won (l : List Int) (r step b o w p e : Int) : Prop where
  ok : e = 0
  is : 0 ≤ w ∧ w < l.length
  pay : p ≤ nth l w.toNat
  ge : r ≤ p
  lo : o - step ≤ p
  hi : p ≤ o + step
  one : step = 1 → nth l w.toNat = nth l b.toNat
theorem rise_ok {l : List Int} {r b o step : Int} (h : Bids l) (h0 : 0 ≤ r) (h1 : r ≤ 1000) (s1 : 1 ≤ step) (s2 : step ≤ 1000) (e : auction_two_m l r = some (b, o)) (t : Two l r b o) :
    Ok (auction_Rise_m l r step) (fun v => if b < 0 then v = (0, 0, 4) else Won l r step b o v.1 v.2.1 v.2.2) := by
  unfold auction_Rise_m
  have hO : r ≤ o ∧ o ≤ 1000000 := by
    have := t.ge
    rcases t.is with h3 | ⟨k, k1, k2, k3⟩
    · omega
    · have := h.at k1; omega
  rw [bids_check h h0 (by omega), Option.bind_some, if_neg (by decide)]
  rw [show (if decide (step < (1 : Int)) then some (Fl.nx true) else some (Fl.nx (decide (step > (1000000 : Int))))) = (some (Fl.nx false) : Option (Fl (Int × Int × Int) Unit Bool)) by rw [if_neg (by simp; omega)]; simp; omega]
  rw [ok_bindR, ok_some, flok_nx, if_neg (by decide), e, Option.bind_some]
  by_cases hneg : b < 0
  · simp only [hneg, decide_true, if_true, ok_some]
  simp only [hneg, decide_false, Bool.false_eq_true, if_false]
  have hone := t.one (by omega)
  obtain ⟨i, rfl⟩ : ∃ i : Nat, b = i := ⟨b.toNat, by omega⟩
  simp only [Int.toNat_natCast] at hone
  have hil : i < l.length := by omega
  have ho : o ≤ nth l i := by
    rcases t.is with h5 | ⟨k, k1, k2, k3⟩
    · omega
    · have := hone.2.2.1 k k1; omega
  have hwi := h.at hil
  have start : ∃ x : Int, 0 ≤ x ∧ r + x * step ≤ o ∧ (if decide (o > r) then (chk (step ≠ 0)).bind fun _ => some (.nx (IntKind.wrap .i64 (Int.tdiv (wsub o r) step))) else some (.nx (0 : Int))) = (some (.nx x) : Option (Fl (Int × Int × Int) Unit Int)) ∧ o < r + x * step + step := by
    by_cases hor : o > r
    · have hd0 : 0 ≤ (o - r) / step := Int.ediv_nonneg (by omega) (by omega)
      have hm := Int.emod_nonneg (o - r) (b := step) (by omega)
      have hm2 := Int.emod_lt_of_pos (o - r) (b := step) (by omega)
      have hdm : (o - r) / step * step + (o - r) % step = o - r := by rw [Int.mul_comm]; exact Int.mul_ediv_add_emod _ _
      have hdle : (o - r) / step ≤ o - r := Int.ediv_le_self _ (by omega)
      refine ⟨(o - r) / step, hd0, by omega, ?_, by omega⟩
      rw [if_pos (by simpa using hor), chk_t (by omega), Option.bind_some, wsub_of (by omega) (by omega), Int.tdiv_eq_ediv_of_nonneg (by omega), wrap_of (by omega) (by omega)]
    · exact ⟨0, by omega, by omega, by rw [if_neg (by simpa using hor)], by omega⟩
  obtain ⟨x, x1, x2, ex, x3⟩ := start
  rw [ok_bindR, ex, ok_some, flok_nx, ok_bindR]
  refine ok_loopM (fun x : Int => 0 ≤ x ∧ r + x * step ≤ o + step ∧ o < r + x * step + step) (fun x => (o + step - (r + x * step)).toNat) (fun x hI => ?_) _ _ ⟨x1, by omega, x3⟩ (by show (o + step - (r + x * step)).toNat < 1048576; omega)
  obtain ⟨x1, x2, x3⟩ := hI
  have hxs : x ≤ x * step := by
    have := Int.mul_le_mul_of_nonneg_left s1 x1; omega
  have hm : wmul x step = x * step := wmul_of (by omega) (by omega)
  have hp : wadd r (wmul x step) = r + x * step := by rw [hm]; exact wadd_of (by omega) (by omega)
  have hsub : wsub (r + x * step) step = r + x * step - step := wsub_of (by omega) (by omega)
  have hnext : (x + 1) * step = x * step + step := by rw [Int.add_mul, Int.one_mul]
  have hpos : x ≠ 0 → step ≤ x * step := fun hx => by
    have := Int.mul_le_mul_of_nonneg_right (show 1 ≤ x by omega) (show 0 ≤ step by omega); omega
  have hz : x = 0 → x * step = 0 := fun hx => by rw [hx, Int.zero_mul]
  unfold auction_Rise_b1
  rw [ok_bindF]
  refine (count_ok l r x step _ hp h.1).mono fun v hv => ?_
  cases v with
  | br _ => exact hv.elim
  | rt _ => exact hv.elim
  | nx q =>
    obtain ⟨c, f⟩ := q
    simp only [flok_nx] at hv
    simp only [flok_nx, hp, hsub]
    generalize x * step = q at *
    simp only [ok_ite, ok_bind, ok_some, flok_rt, flok_nx, beq_iff_eq]
    rw [wadd_of (by omega) (by omega), hnext]
    refine ⟨fun hc => ?_, fun hc => ⟨fun hc0 => ?_, fun hc0 => ?_⟩⟩
    · obtain ⟨g1, g2, g3⟩ := hv.some (by omega)
      have hu := hv.one hc
      refine ⟨rfl, ⟨g1, g2⟩, g3, by omega, by omega, by omega, fun hs => ?_⟩
      by_cases hfi : (i : Int) = f
      · rw [← hfi]
      · have := hu i hil hfi
        have := hone.2.2.1 f.toNat (by omega)
        omega
    · have hall := (hv.no hc0).2
      have hi2 := hall i hil
      have hx0 : x ≠ 0 := fun hx => by have := hz hx; omega
      have := hpos hx0
      refine (firstAt_ok (l := l) (p := r + q - step) ⟨i, hil, by omega⟩).mono fun w hw => ?_
      refine ⟨rfl, ⟨hw.1, hw.2.1⟩, hw.2.2, by omega, by omega, by omega, fun hs => ?_⟩
      have := hone.2.2.1 w.toNat (by omega)
      simp only [Int.toNat_natCast]
      omega
    · have hlo := hv.lo
      obtain ⟨j, k, hj, hk, hjk, pj, pk⟩ := hv.two (by omega)
      have hpo : r + q ≤ o := by
        by_cases hji : j = i
        · have := t.all k hk (by omega); omega
        · have := t.all j hj (by omega); omega
      refine ⟨⟨by omega, by omega, by omega⟩, by omega⟩
theorem AuctionRise (x0 : List Int) (h0 : (∀ x ∈ x0, (Lit.int .i64 x).wf = true) ∧ x0.length ≤ maxLen) (x1 : Int) (_ : (Lit.int .i64 x1).wf = true) (x2 : Int) (_ : (Lit.int .i64 x2).wf = true) : pk_AuctionRise_m x0 x1 x2 = some true := by
  obtain ⟨l, el, hl, hb⟩ := bidsOf_ok x0 h0.2
  have hbl : Bids l := ⟨by omega, fun x hx => by have := hb x hx; omega⟩
  unfold pk_AuctionRise_m
  rw [auctions_t]
  simp only [Option.bind_some, Bool.not_true, Bool.false_eq_true, if_false, el]
  rw [within_at x1 60 (by decide) (by decide), within_at x2 20 (by decide) (by decide)]
  have a0 := Int.emod_nonneg x1 (b := 60) (by decide)
  have a1 := Int.emod_lt_of_pos x1 (b := 60) (by decide)
  have b0 := Int.emod_nonneg x2 (b := 20) (by decide)
  have b1 := Int.emod_lt_of_pos x2 (b := 20) (by decide)
  generalize x1 % 60 = r at *
  generalize x2 % 20 = s at *
  have hs : wadd 1 s = 1 + s := wadd_of (by omega) (by omega)
  obtain ⟨⟨b, o⟩, e, t⟩ := two_ok l r
  simp only at t
  obtain ⟨⟨w, p, er⟩, ew, hw⟩ := rise_ok (step := 1 + s) hbl a0 (by omega) (by omega) (by omega) e t
  rw [Option.bind_some, Option.bind_some, hs, ew, Option.bind_some, second_of hbl a0 (by omega) e, Option.bind_some]
  by_cases hneg : b < 0
  · simp only [if_pos hneg] at hw ⊢
    cases hw
    rfl
  · simp only [if_neg hneg] at hw ⊢
    obtain ⟨q1, q2, q3, q4, q5, q6, q7⟩ := hw
    subst q1
    have hone := t.one (by omega)
    have hO : o ≤ 1000000 := by
      rcases t.is with h3 | ⟨k, k1, k2, k3⟩
      · omega
      · have := hbl.at k1; omega
    have hr := t.ge
    obtain ⟨i, rfl⟩ : ∃ i : Nat, w = i := ⟨w.toNat, by omega⟩
    simp only [Int.toNat_natCast] at q3 q7
    have hil : i < l.length := by omega
    rw [wsub_of (by omega) (by omega), wadd_of (by omega) (by omega)]
    obtain ⟨v, ev, hv1, hv2⟩ := max_ok (l := l) (by omega) (by omega)
    simp only [idx_nat, nth_at hil, Option.bind_some, ev]
    apply Ok.eq
    simp only [ok_bindR, ok_bind, ok_ite, ok_some, ok_idx, flok_nx, flok_rt, decide_eq_true_eq, bne_iff_ne, Int.toNat_natCast]
    refine ⟨fun hc => absurd rfl hc, fun _ => ⟨fun hc => absurd rfl hc, fun _ => ⟨fun hc => by omega, fun _ => ⟨fun hc => by omega, fun _ => ⟨fun hc => by omega, fun _ => ⟨fun hc => by omega, fun _ => ⟨fun hc => by omega, fun _ => ?_⟩⟩⟩⟩⟩⟩⟩
    refine ⟨fun hc => by omega, fun _ => ⟨fun _ => trivial, fun hs1 => ?_⟩⟩
    rw [beq_iff_eq, q7 (by omega)]
    have h2 := hv2 _ (nth_mem (show b.toNat < l.length by omega))
    obtain ⟨k, hk, hkv⟩ := mem_nth hv1
    have h3 := hone.2.2.1 k hk
    omega
end Go.Pu
