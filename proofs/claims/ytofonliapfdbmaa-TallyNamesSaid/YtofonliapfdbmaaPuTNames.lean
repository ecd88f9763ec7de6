/- The plain law: by whatever names, and in whatever order, the counts are the same. -/
import Derived.Test.YtofonliapfdbmaaWTallyNamesModels
import Derived.Test.YtofonliapfdbmaaPuReverse
import Derived.Test.YtofonliapfdbmaaPuRNames
import Derived.Test.YtofonliapfdbmaaPuBeater
set_option linter.all false
namespace Go.Pu
open Go.Fw Go.Mo
theorem rev_sums (n : Nat) (v : List (List Int)) : (∀ x, fst1 v.reverse x = fst1 v x) ∧ (∀ x, pts n v.reverse x = pts n v x) ∧ ∀ x y, duel v.reverse x y = duel v x y := by
  induction v with
  | nil => exact ⟨fun _ => rfl, fun _ => rfl, fun _ _ => rfl⟩
  | cons p v ih =>
    obtain ⟨h1, h2, h3⟩ := ih
    refine ⟨fun x => ?_, fun x => ?_, fun x y => ?_⟩
    · rw [List.reverse_cons, fst1_append, h1]; simp [fst1]
    · rw [List.reverse_cons, pts_append, h2]; simp [pts]
    · rw [List.reverse_cons, duel_append, h3]; simp [duel]
theorem rev_votes {n : Nat} {v : List (List Int)} (hv : Votes n v) : Votes n v.reverse := ⟨by rw [List.length_reverse]; exact hv.1, fun p hp => hv.2 p (List.mem_reverse.1 hp)⟩
theorem TallyNames (x0 : Int) (_ : (Lit.int .i64 x0).wf = true) (x1 : List (List Int)) (_ : (∀ r ∈ x1, (∀ x ∈ r, (Lit.int .i64 x).wf = true) ∧ r.length ≤ maxLen) ∧ x1.length ≤ maxLen) (x2 : List Int) (_ : (∀ x ∈ x2, (Lit.int .i64 x).wf = true) ∧ x2.length ≤ maxLen) : pk_TallyNames_m x0 x1 x2 = some true := by
  obtain ⟨n, n1, n6, hn⟩ := one_within x0 6 (by decide) (by decide)
  rw [show ((6 : Nat) : Int) = 6 from rfl] at hn
  obtain ⟨v, ev, _, hv⟩ := votesOf_ok n x1 n1 n6
  obtain ⟨p, ep, hp⟩ := orderOf_ok n x2 n1 (by omega)
  have hr := ren_votes hp hv
  have hw := rev_votes hr
  obtain ⟨a, ea, hA⟩ := points_ok n1 n6 hv
  obtain ⟨b, eb, hB⟩ := points_ok n1 n6 hw
  obtain ⟨c, ec, hC⟩ := firsts_ok n1 n6 hv
  obtain ⟨d, ed, hD⟩ := firsts_ok n1 n6 hw
  obtain ⟨x, e, ex, hX⟩ := beater_ok n1 n6 hv
  obtain ⟨y, f, ey, hY⟩ := beater_ok n1 n6 hw
  obtain ⟨s1, s2⟩ := ren_sums hp v hv.2
  obtain ⟨r1, r2, r3⟩ := rev_sums n (ren p v)
  have hrl := hr.1
  have g4 : pk_good_m [0, 0, 0, 0] = some true := by rw [good_at]; rfl
  have hbeat : ∀ z, z < n → (Beats n (duel v) z ↔ Beats n (duel (ren p v).reverse) (pi_ p z)) := fun z hz => by
    constructor
    · intro h y hy hyz
      obtain ⟨q, hq, rfl⟩ := pi_sur hp hy
      rw [r3, r3, s2 _ _ hq hz, s2 _ _ hz hq]
      exact h q hq fun e => hyz (by rw [e])
    · intro h y hy hyz
      have := h (pi_ p y) (pi_lt hp hy) fun e => hyz (pi_inj hp hy hz e)
      rwa [r3, r3, s2 _ _ hy hz, s2 _ _ hz hy] at this
  have hpz : ∀ z, z < n → p[z]? = some (pi_ p z : Int) := fun z hz => by
    have h := nm_pi hp hz
    unfold nm at h
    rw [Int.toNat_natCast] at h
    rw [nth_at (by rw [hp.len]; exact hz), h]
  apply Ok.eq
  unfold pk_TallyNames_m
  rw [tallies_t, Option.bind_some, if_neg (by decide), within_at x0 6 (by decide) (by decide), Option.bind_some, hn, ev, Option.bind_some, ep, Option.bind_some, ren_ok n6 hp hv, Option.bind_some, reverse_rows_ok _ (by omega), Option.bind_some, ea, Option.bind_some, eb, Option.bind_some, ec, Option.bind_some, ed, Option.bind_some, ex, Option.bind_some, ey, Option.bind_some]
  have htest : ∃ z : Bool, z = false ∧ (pk_good_m [0, 0, 0, 0]).bind (fun y104 => (if !y104 then some (.nx true) else (if ((a).length : Int) != (n : Int) then some (.nx true) else (if ((b).length : Int) != (n : Int) then some (.nx true) else (if ((c).length : Int) != (n : Int) then some (.nx true) else (if ((d).length : Int) != (n : Int) then some (.nx true) else (if e != f then some (.nx true) else (if e == (0 : Int) then (if decide (x < (0 : Int)) then some (.nx true) else (if decide (x ≥ (n : Int)) then some (.nx true) else (idx p x).bind fun y115 => some (.nx (y115 != y)))) else some (.nx false))))))))) = (some (.nx z) : Option (Fl Bool Unit Bool)) := by
    refine ⟨false, rfl, ?_⟩
    rw [g4, Option.bind_some]
    simp only [hA.len, hB.len, hC.len, hD.len, bne_self_eq_false, Bool.false_eq_true, if_false, Bool.not_true]
    rcases hX with ⟨z, hz, rfl, rfl, hb⟩ | ⟨rfl, rfl, hb⟩
    · have hz' := (hbeat z hz).1 hb
      rcases hY with ⟨q, hq, rfl, rfl, hb'⟩ | ⟨rfl, rfl, hb'⟩
      · have : pi_ p z = q := Beats.one (pi_lt hp hz) hq hz' hb'
        subst this
        simp only [bne_self_eq_false, Bool.false_eq_true, if_false, beq_self_eq_true, if_true, idx_nat, hpz z hz, Option.bind_some]
        rw [if_neg (by simp), if_neg (by simp; omega)]
      · exact absurd hz' (hb' _ (pi_lt hp hz))
    · rcases hY with ⟨q, hq, rfl, rfl, hb'⟩ | ⟨rfl, rfl, hb'⟩
      · obtain ⟨z, hz, rfl⟩ := pi_sur hp hq
        exact absurd ((hbeat z hz).2 hb') (hb z hz)
      · rfl
  obtain ⟨z, rfl, ht⟩ := htest
  simp only at ht ⊢
  rw [ht, ok_bindR, ok_some, flok_nx, if_neg (by decide), chk_t (by omega), Option.bind_some, ok_bindR]
  refine ok_rangeN (fun _ _ => True) trivial (fun i u hi _ => ?_) fun _ _ => by rw [ok_some]
  rw [Int.toNat_natCast] at hi
  obtain ⟨q1, q2⟩ := s1 i hi
  unfold pk_TallyNames_b1
  simp only [idx_nat, hpz i hi, hA.at? hi, hC.at? hi, Option.bind_some, hB.at? (pi_lt hp hi), hD.at? (pi_lt hp hi), r1, r2, q1, q2, bne_self_eq_false, Bool.false_eq_true, if_false]
  rw [ok_bindF, ok_some, flok_nx, if_neg (by decide), ok_some, flok_nx]
  trivial
end Go.Pu
