/- The plain law: who stands in the middle is beaten by nobody; of an odd number of votes it beats all others. -/
import Derived.Test.YtfhfoechannphaaWPeakBlackModels
import Derived.Test.YtfhfoechannphaaPuPkO
import Derived.Test.YtfhfoechannphaaPuSortAny
import Derived.Test.YtfhfoechannphaaPuMeet
import Derived.Test.YtfhfoechannphaaPuList
set_option linter.all false
namespace Go.Pu
open Go.Fw Go.Mo
theorem duel_count (v : List (List Int)) (a b : Nat) : duel v a b = (v.countP (fun p => bf p a b) : Int) := by
  induction v with
  | nil => rfl
  | cons p v ih =>
    simp only [duel, ih, List.countP_cons]
    split <;> omega
/-- where on the line the first of a vote stands -/
def topOf (line p : List Int) : Int := (line.idxOf (nth p 0) : Int)
/-- the one in the middle -/
structure Mid (n : Nat) (v : List (List Int)) (K : Nat) : Prop where
  lt : K < n
  ge : ∀ y, y < n → y ≠ K → (v.length : Int) ≤ 2 * duel v K y
  odd : v.length % 2 = 1 → ∀ y, y < n → y ≠ K → (v.length : Int) < 2 * duel v K y
theorem idx_of_int {n : Nat} {line : List Int} (hl : Ord n line) {x : Int} (h0 : 0 ≤ x) (h1 : x < n) : line.idxOf x < n ∧ nth line (line.idxOf x) = x := by
  obtain ⟨a, rfl⟩ : ∃ a : Nat, x = a := ⟨x.toNat, by omega⟩
  exact ⟨hl.idx_lt (by omega), hl.at_idx (by omega)⟩
theorem middle_ok {n : Nat} {line : List Int} {v : List (List Int)} (h0 : 1 ≤ n) (h6 : n ≤ 6) (hl : Ord n line) (h : AlongV n line v) (hv : v ≠ []) : ∃ K : Nat, peak_Middle_m line v = some ((K : Int), 0) ∧ Mid n v K := by
  have hvl : 0 < v.length := List.length_pos_iff.2 hv
  have h30 := h.len
  have top : ∀ p ∈ v, 0 ≤ nth p 0 ∧ nth p 0 < n := fun p hp => (h.ok p hp).1.val (by omega)
  have loop : rangeL (γ := Unit) (peak_Middle_b1 line) v 0 ([] : List Int) = some (.nx (v.map (topOf line)) : Fl (Int × Int) Unit (List Int)) := by
    have key : Ok (rangeL (γ := Unit) (peak_Middle_b1 line) v 0 ([] : List Int)) (FlOk (fun w => w = v.map (topOf line)) (fun _ => False) (fun _ => False)) := by
      refine ok_rangeL (fun k w => w = (v.take k).map (topOf line)) rfl (fun k p w hk hI => ?_) fun w hw => by rw [hw, List.take_length]
      subst hI
      have hp := List.mem_of_getElem? hk
      have hkl := (List.getElem?_eq_some_iff.1 hk).1
      have ht := top p hp
      unfold peak_Middle_b1
      rw [show (0 : Int) = ((0 : Nat) : Int) from rfl, idx_nat, nth_at (by rw [(h.ok p hp).1.len]; omega), Option.bind_some, index_ok, if_pos ((hl.mem _).2 ht), Option.bind_some, chk_t (by rw [List.length_map, List.length_take]; simp; omega), Option.bind_some, ok_some, flok_nx, List.take_succ, hk]
      simp [topOf]
    obtain ⟨x, e, hx⟩ := key
    cases x with
    | nx s => rw [flok_nx] at hx; rw [e, hx]
    | br _ => exact hx.elim
    | rt _ => exact hx.elim
  have hml : (v.map (topOf line)).length = v.length := List.length_map _
  obtain ⟨s, es, hp, ha⟩ := sort_any (l := v.map (topOf line)) (by rw [hml]; omega)
  have U : Up (v.map (topOf line)) s := ⟨hp, ha⟩
  have hsl : s.length = v.length := by rw [U.len, hml]
  obtain ⟨q, hq⟩ : ∃ q, q = (v.length - 1) / 2 := ⟨_, rfl⟩
  have hqs : q < s.length := by omega
  have hmem := U.mem hqs
  obtain ⟨p0, hp0, e0⟩ := List.mem_map.1 hmem
  have t0 := top p0 hp0
  have i0 := idx_of_int hl t0.1 t0.2
  obtain ⟨M, hM⟩ : ∃ M : Nat, nth s q = M := ⟨line.idxOf (nth p0 0), by rw [← e0]; rfl⟩
  have hMn : M < n := by unfold topOf at e0; omega
  have vM := hl.val hMn
  obtain ⟨K, hK⟩ : ∃ K : Nat, nth line M = K := ⟨(nth line M).toNat, by omega⟩
  have hKn : K < n := by omega
  have hKi : line.idxOf (K : Int) = M := by rw [← hK]; exact hl.idx hMn
  refine ⟨K, ?_, ?_⟩
  · unfold peak_Middle_m
    rw [all_al h0 h6 hl h, Option.bind_some]
    dsimp only
    rw [if_neg (by decide), if_neg (by decide), if_neg (by rw [beq_iff_eq]; omega), loop]
    simp only [bindR]
    rw [es, Option.bind_some, chk_t (by decide), Option.bind_some, wsub_of (by omega) (by omega), Int.tdiv_eq_ediv_of_nonneg (by omega), show IntKind.wrap .i64 (((s.length : Int) - 1) / 2) = ((q : Nat) : Int) by rw [IntKind.wrap_i64]; omega, idx_nat, nth_at hqs, Option.bind_some, hM, idx_nat, nth_at (by rw [hl.len]; exact hMn), Option.bind_some, hK]
  · -- so many have their first there or below, so many there or above
    have c1 : q < (v.map (topOf line)).countP (fun x => decide (x ≤ (M : Int))) := (U.le (M : Int) hqs).1 (by omega)
    have c2 : (v.map (topOf line)).countP (fun x => decide (x < (M : Int))) ≤ q := by
      apply Nat.le_of_not_lt; intro hc
      have := (U.lt (M : Int) hqs).2 hc
      omega
    rw [List.countP_map] at c1 c2
    have c3 := List.length_eq_countP_add_countP ((fun x => decide (x < (M : Int))) ∘ topOf line) (l := v)
    have tops : ∀ p ∈ v, ∃ a : Nat, a < n ∧ nth p 0 = (a : Int) ∧ topOf line p = (line.idxOf (a : Int) : Int) ∧ ∀ y, y < n → y ≠ a → bf p a y = true := fun p hp => by
      have ht := top p hp
      obtain ⟨a, ea⟩ : ∃ a : Nat, nth p 0 = (a : Int) := ⟨(nth p 0).toNat, by omega⟩
      refine ⟨a, by omega, ea, by unfold topOf; rw [ea], fun y hy hne => ?_⟩
      have hpo := (h.ok p hp).1
      have ia : p.idxOf (a : Int) = 0 := by rw [← ea]; exact hpo.idx (by omega)
      have : p.idxOf (y : Int) ≠ 0 := fun e => hne (hpo.idx_inj hy (by omega) (by omega))
      unfold bf; rw [decide_eq_true_eq]; omega
    -- who has his first on this side puts K ahead of those beyond
    have side : ∀ p ∈ v, ∀ y, y < n → y ≠ K → ((topOf line p ≤ (M : Int) ∧ M < line.idxOf (y : Int)) ∨ ((M : Int) ≤ topOf line p ∧ line.idxOf (y : Int) < M)) → bf p K y = true := by
      intro p hp y hy hne hs
      obtain ⟨a, ha, ea, et, hb⟩ := tops p hp
      by_cases haK : a = K
      · subst haK; exact hb y hy hne
      · have hne2 : line.idxOf (a : Int) ≠ M := fun e => haK (hl.idx_inj ha hKn (by omega))
        have hm : btw line a K y := by
          unfold btw; rw [hKi]; omega
        have hay : y ≠ a := fun e => by subst e; omega
        rcases btw_bf h0 hl (h.ok p hp).1 (h.ok p hp).2 ha hKn hy hm with hh | hh
        · have := hb K hKn (Ne.symm haK)
          have := bf_or (h.ok p hp).1 ha hKn haK
          rw [hh] at this; simp_all
        · exact hh
    have all : ∀ y, y < n → y ≠ K → (q : Int) + 1 ≤ duel v K y := by
      intro y hy hne
      have hyM : line.idxOf (y : Int) ≠ M := fun e => hne (hl.idx_inj hy hKn (by omega))
      rw [duel_count]
      rcases Nat.lt_or_gt_of_ne hyM with hlt | hgt
      · have : v.countP (fun p => decide ¬((fun x => decide (x < (M : Int))) ∘ topOf line) p = true) ≤ v.countP (fun p => bf p K y) := List.countP_mono_left fun p hp hh => by
          rw [decide_eq_true_eq, Function.comp, decide_eq_true_eq] at hh
          exact side p hp y hy hne (.inr ⟨by omega, hlt⟩)
        omega
      · have : v.countP ((fun x => decide (x ≤ (M : Int))) ∘ topOf line) ≤ v.countP (fun p => bf p K y) := List.countP_mono_left fun p hp hh => by
          rw [Function.comp, decide_eq_true_eq] at hh
          exact side p hp y hy hne (.inl ⟨hh, hgt⟩)
        omega
    exact ⟨hKn, fun y hy hne => by have := all y hy hne; omega, fun hodd y hy hne => by have := all y hy hne; omega⟩
theorem Mid.beats {n : Nat} {v : List (List Int)} {K : Nat} (hv : ∀ p ∈ v, Ord n p) (h : Mid n v K) (hodd : v.length % 2 = 1) : Beats n (duel v) K := fun y hy hne => by
  have := h.odd hodd y hy hne
  have := duel_sum hv h.lt hy (Ne.symm hne)
  omega
theorem PeakBlack (x0 : Int) (_ : (Lit.int .i64 x0).wf = true) (x1 : List Int) (h1 : (∀ x ∈ x1, (Lit.int .i64 x).wf = true) ∧ x1.length ≤ maxLen) (x2 : List (List Int)) (h2 : (∀ r ∈ x2, (∀ x ∈ r, (Lit.int .i64 x).wf = true) ∧ r.length ≤ maxLen) ∧ x2.length ≤ maxLen) : pk_PeakBlack_m x0 x1 x2 = some true := by
  obtain ⟨n, n1, n6, hn⟩ := one_within x0 6 (by decide) (by decide)
  rw [show ((6 : Nat) : Int) = 6 from rfl] at hn
  obtain ⟨line, el, hl⟩ := orderOf_ok n x1 n1 (by omega)
  apply Ok.eq
  unfold pk_PeakBlack_m
  have hm : (if (30 : Int) < (x2.length : Int) then (30 : Int) else (x2.length : Int)) = ((min 30 x2.length : Nat) : Int) := by omega
  rw [peaks_y, tallies_t, Option.bind_some, if_neg (by decide), Option.bind_some, ok_bindR, ok_some, flok_nx, if_neg (by decide), within_at x0 6 (by decide) (by decide), Option.bind_some, hn, el, Option.bind_some, hm, chk_t ⟨by omega, by omega⟩, Option.bind_some, Int.toNat_natCast, List.drop_zero]
  obtain ⟨v, ev, hv, hvl⟩ := alongs_ok (ρ := Bool) (β := Unit) n1 n6 hl (b := pk_PeakBlack_b1 line) (fun i x w => rfl) x2 (fun r hr => (h2.1 r hr).2)
  rw [ev]
  simp only [bindR]
  have hV := hv.votes
  have h30 := hv.len
  rw [all_al n1 n6 hl hv, Option.bind_some]
  by_cases hz : v = []
  · subst hz
    have em : peak_Middle_m line [] = some (0, 4) := by
      unfold peak_Middle_m
      rw [all_al n1 n6 hl hv, Option.bind_some]; rfl
    rw [em, Option.bind_some]
    dsimp only
    rw [if_neg (by decide)]
    dsimp only
    rw [if_neg (by decide), if_pos (by decide), ok_some]; rfl
  · obtain ⟨K, em, hK⟩ := middle_ok n1 n6 hl hv hz
    obtain ⟨T, eT, hT⟩ := duels_ok n1 n6 hV
    obtain ⟨bx, be, eB, hB⟩ := beater_ok n1 n6 hV
    have hlen : 0 < v.length := List.length_pos_iff.2 hz
    have hKn := hK.lt
    rw [em, Option.bind_some]
    dsimp only
    rw [if_neg (by decide)]
    dsimp only
    rw [if_neg (by decide), if_neg (by rw [beq_iff_eq]; omega), eT, Option.bind_some, eB, Option.bind_some, good_at]
    dsimp only
    rw [Option.bind_some, if_neg (by decide), if_neg (by rw [decide_eq_true_eq]; omega), if_neg (by rw [decide_eq_true_eq]; omega), tableOf_ok hT, Option.bind_some]
    dsimp only
    rw [if_neg (by decide), chk_t (by omega), Option.bind_some, Int.toNat_natCast]
    have fin : Ok (rangeN (γ := Unit) (pk_PeakBlack_b2 (T, (0 : Int)) ((K : Int), (0 : Int))) n 0 ()) (FlOk (fun _ => True) (fun _ => False) (fun _ => False)) := by
      refine ok_rangeN (fun _ _ => True) trivial (fun y _ hy _ => ?_) fun _ _ => trivial
      unfold pk_PeakBlack_b2
      dsimp only
      simp only [idx_nat, hT.row? hKn, hT.row? hy, Option.bind_some, hT.cell? hKn hy, hT.cell? hy hKn]
      have : ¬ duel v K y < duel v y K := by
        by_cases e : y = K
        · subst e; omega
        · have := hK.ge y hy e
          have := duel_sum hV.2 hKn hy (Ne.symm e)
          omega
      rw [if_neg (by rw [decide_eq_true_eq]; exact this), ok_some, flok_nx]; trivial
    obtain ⟨z, ez, hz'⟩ := fin
    cases z with
    | br _ => exact hz'.elim
    | rt _ => exact hz'.elim
    | nx z =>
      rw [ez]
      dsimp only
      rw [chk_t (show (2 : Int) ≠ 0 by decide), Option.bind_some, Int.tmod_eq_emod_of_nonneg (by omega)]
      by_cases ho : v.length % 2 = 1
      · rw [if_neg (by rw [beq_iff_eq]; omega)]
        have hb := hK.beats hV.2 ho
        rcases hB with ⟨a, ha, rfl, rfl, hba⟩ | ⟨_, _, hno⟩
        · have := Beats.one ha hKn hba hb
          subst this
          rw [if_pos (by decide)]
          simp [ok_some]
        · exact absurd hb (hno K hKn)
      · rw [if_pos (by rw [beq_iff_eq]; omega)]
        simp [ok_some]
end Go.Pu
