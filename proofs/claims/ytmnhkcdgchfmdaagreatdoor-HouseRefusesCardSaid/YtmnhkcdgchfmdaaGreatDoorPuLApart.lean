/- The plain law: two deals of unlike accounts come to the same, whichever is taken first, if both can be either way. -/
import Derived.Test.YtmnhkcdgchfmdaaGreatDoorWHouseRefusesModels
import Derived.Test.YtmnhkcdgchfmdaaGreatDoorPuLOnce
set_option linter.all false
namespace Go.Pu
open Go.Fw Go.Mo
theorem tk_no {l : List Acct} {d : Deal} {t : List UInt8} (hs : ShortA l) (hd : ShortD d) (h : (tk l d t).2 ≠ 0) : (tk l d t).1 = [] := by
  have := (tk_ok (t := t) hs hd).2
  generalize tk l d t = p at *
  cases this with
  | no e he => rfl
  | yes => exact absurd rfl h
theorem LedgerApart (x0 : List Acct) (h0 : (∀ a ∈ x0, WfA a) ∧ x0.length ≤ maxLen) (x1 : Deal) (h1 : WfD x1) (x2 : Deal) (h2 : WfD x2) (x3 : List UInt8) {P : Prop} (_ : P) : pk_LedgerApart_m x0 x1 x2 x3 = some true := by
  have hs : ShortA x0 := fun a ha => (h0.1 a ha).1
  have hd := h1.short; have hd2 := h2.short
  apply Ok.eq
  unfold pk_LedgerApart_m
  have ht := tk_ok (t := x3) hs hd
  have ht2 := tk_ok (t := x3) hs hd2
  rw [ledgers_t, Option.bind_some, if_neg (by decide), ht.1, Option.bind_some, ht2.1, Option.bind_some, ok_bindR]
  have quit : Ok (bindR (ρ := Bool) (β := Unit) (σ := Bool) (if (tk x0 x1 x3).2 == (0 : Int) then (if (tk x0 x2 x3).2 == (0 : Int) then some (.nx true) else some (.nx ((((tk x0 x2 x3).1).length : Int) == (0 : Int)))) else (if (((tk x0 x1 x3).1).length : Int) == (0 : Int) then (if (tk x0 x2 x3).2 == (0 : Int) then some (.nx true) else some (.nx ((((tk x0 x2 x3).1).length : Int) == (0 : Int)))) else some (.nx false))) fun x55 => some x55) (fun r => r = true) := by
    have q2 : Ok (if (tk x0 x2 x3).2 == (0 : Int) then some (Fl.nx (ρ := Bool) (β := Unit) true) else some (.nx ((((tk x0 x2 x3).1).length : Int) == (0 : Int)))) (FlOk (fun b => Ok (some b) (fun r => r = true)) (fun _ => False) (fun r => r = true)) := by
      by_cases e : (tk x0 x2 x3).2 = 0
      · rw [if_pos (by rw [beq_iff_eq]; exact e), ok_some, flok_nx, ok_some]
      · rw [if_neg (by rw [beq_iff_eq]; exact e), tk_no hs hd2 e, ok_some, flok_nx, ok_some]; rfl
    rw [ok_bindR]
    by_cases e : (tk x0 x1 x3).2 = 0
    · rw [if_pos (by rw [beq_iff_eq]; exact e)]; exact q2
    · rw [if_neg (by rw [beq_iff_eq]; exact e), tk_no hs hd e, if_pos (by decide)]; exact q2
  by_cases e1 : (tk x0 x1 x3).2 = 0
  · by_cases e2 : (tk x0 x2 x3).2 = 0
    · rw [if_neg (by rw [bne_iff_ne]; exact fun h => h e1), if_neg (by rw [bne_iff_ne]; exact fun h => h e2), ok_some, flok_nx]
      by_cases e3 : x1.1 = x2.1
      · rw [if_pos (by simpa using e3)]; exact quit
      · rw [if_neg (by simpa using e3)]
        obtain ⟨i, j, k, hA, hr, hi, hj, hk, ei, ej, ek, hn, hp, hm, hA'⟩ := tk_yes hs hd e1
        obtain ⟨i2, j2, k2, _, hr2, hi2, hj2, hk2, ei2, ej2, ek2, hn2, hp2, hm2, hA2'⟩ := tk_yes hs hd2 e2
        have hsm := hm.short hs; have hsm2 := hm2.short hs
        have t3 := tk_ok (t := x3) hsm hd2
        have t4 := tk_ok (t := x3) hsm2 hd
        rw [t3.1, Option.bind_some, t4.1, Option.bind_some, ok_bindR]
        by_cases f1 : (tk (tk x0 x1 x3).1 x2 x3).2 = 0
        · by_cases f2 : (tk (tk x0 x2 x3).1 x1 x3).2 = 0
          · rw [if_neg (by rw [bne_iff_ne]; exact fun h => h f1), if_neg (by rw [bne_iff_ne]; exact fun h => h f2), equal_acct, Option.bind_some, ok_some, flok_nx, ok_some, decide_eq_true_eq]
            obtain ⟨i3, j3, k3, hA3, _, hi3, hj3, hk3, ei3, ej3, ek3, _, _, hm3, _⟩ := tk_yes hsm hd2 f1
            obtain ⟨i4, j4, k4, hA4, _, hi4, hj4, hk4, ei4, ej4, ek4, _, _, hm4, _⟩ := tk_yes hsm2 hd f2
            have l1 := hm.len; have l2 := hm2.len; have l3 := hm3.len; have l4 := hm4.len
            have nm1 : ∀ q, q < x0.length → (nth (tk x0 x1 x3).1 q).1 = (nth x0 q).1 := fun q hq => by rw [hm.at_ q hq]
            have nm2 : ∀ q, q < x0.length → (nth (tk x0 x2 x3).1 q).1 = (nth x0 q).1 := fun q hq => by rw [hm2.at_ q hq]
            have a1 : i3 = i2 := hA.inj (by omega) hi2 (by rw [← nm1 i3 (by omega), ei3, ei2])
            have a2 : j3 = j2 := hA.inj (by omega) hj2 (by rw [← nm1 j3 (by omega), ej3, ej2])
            have a3 : k3 = k2 := hA.inj (by omega) hk2 (by rw [← nm1 k3 (by omega), ek3, ek2])
            have a4 : i4 = i := hA.inj (by omega) hi (by rw [← nm2 i4 (by omega), ei4, ei])
            have a5 : j4 = j := hA.inj (by omega) hj (by rw [← nm2 j4 (by omega), ej4, ej])
            have a6 : k4 = k := hA.inj (by omega) hk (by rw [← nm2 k4 (by omega), ek4, ek])
            subst a1 a2 a3 a4 a5 a6
            refine nth_ext (by omega) fun q hq => ?_
            rw [hm3.at_ q (by omega), hm4.at_ q (by omega), hm.at_ q (by omega), hm2.at_ q (by omega)]
            refine Prod.ext rfl (Prod.ext ?_ ?_) <;> dsimp only <;> omega
          · rw [if_neg (by rw [bne_iff_ne]; exact fun h => h f1), if_pos (by rw [bne_iff_ne]; exact f2), ok_some, flok_nx, ok_some]
        · rw [if_pos (by rw [bne_iff_ne]; exact f1), ok_some, flok_nx, ok_some]
    · rw [if_neg (by rw [bne_iff_ne]; exact fun h => h e1), if_pos (by rw [bne_iff_ne]; exact e2), ok_some, flok_nx, if_pos rfl]; exact quit
  · rw [if_pos (by rw [bne_iff_ne]; exact e1), ok_some, flok_nx, if_pos rfl]; exact quit
end Go.Pu
