/- The plain law: none that fits and can be taken pays more for its room. -/
import Derived.Test.YtflbneojjnpegaaWPickNextModels
import Derived.Test.YtflbneojjnpegaaPuPick
set_option linter.all false
namespace Go.Pu
open Go.Fw Go.Mo
theorem PickNext (x0 : List Deal) (h0 : (∀ d ∈ x0, WfD d) ∧ x0.length ≤ maxLen) (x1 : List Acct) (h1 : (∀ a ∈ x1, WfA a) ∧ x1.length ≤ maxLen) (x2 : List UInt8) {P : Prop} (_ : P) (x3 : Int) (_ : (Lit.int .i64 x3).wf = true) : pk_PickNext_m x0 x1 x2 x3 = some true := by
  have hs : ∀ d ∈ x0, ShortD d := fun d hd => (h0.1 d hd).short
  have ha : ShortA x1 := fun a ha => (h1.1 a ha).1
  apply Ok.eq
  unfold pk_PickNext_m
  rw [picks_t, Option.bind_some, if_neg (by decide), ok_bind]
  refine (next_ok hs ha).mono fun p hp => ?_
  cases hp with
  | no e he _ _ => dsimp only; rw [if_pos (by rw [bne_iff_ne]; exact he), ok_some]; rfl
  | none => dsimp only; rw [if_pos (by decide), ok_some]; rfl
  | some k hQ hA r0 r1 hk hg hb =>
    dsimp only
    have htk := tk_ok (t := x2) ha (hs _ (nth_mem hk))
    have hz : (nth x0 k).2.2.2.2.2 ≤ x3 := hg.1
    rw [if_neg (by decide), if_neg (by rw [decide_eq_true_eq]; omega), if_neg (by rw [decide_eq_true_eq]; omega), idx_nat, nth_at hk, Option.bind_some, ok_bindR, ok_some, flok_nx, if_neg (by rw [decide_eq_true_eq]; omega), Option.bind_some, htk.1, Option.bind_some, ok_bindR]
    refine ok_rangeL (fun _ _ => True) trivial (fun i d _ hi _ => ?_) fun _ _ => by rw [ok_some, beq_iff_eq]; exact hg.2
    obtain ⟨hd, hil⟩ := nth_of hi
    have hsd := hs d (List.mem_of_getElem? hi)
    have htd := tk_ok (t := x2) ha hsd
    have sd := rt_facts hsd (hQ.right _ (List.mem_of_getElem? hi))
    have sk := rt_facts (hs _ (nth_mem hk)) (hQ.right _ (nth_mem hk))
    unfold pk_PickNext_b1
    dsimp only
    rw [htd.1, Option.bind_some, ok_bindF]
    have pass : Ok (some (Fl.nx (ρ := Bool) (β := Unit) false)) (FlOk (fun x : Bool => Ok (if x then some (.rt false) else some (.nx ())) (FlOk (fun (_ : Unit) => True) (fun (_ : Unit) => True) (fun r : Bool => r = true))) (fun _ => True) (fun _ => True)) := by rw [ok_some, flok_nx, if_neg (by decide), ok_some, flok_nx]; trivial
    by_cases ht : (tk x1 d x2).2 = 0
    · rw [if_pos (by rw [beq_iff_eq]; exact ht)]
      by_cases hf : d.2.2.2.2.2 ≤ x3
      · have hbi := hb i hil ⟨by rw [hd]; exact hf, by rw [hd]; exact ht⟩
        unfold fee size at hbi
        rw [hd] at hbi
        have m1 := mul_le (c := (nth x0 k).2.2.2.2.2) (by omega) sd.2.2.1.2
        have m2 := mul_le (c := (nth x0 k).2.2.2.2.2) (by omega) sd.2.2.1.1
        have m3 := mul_le (c := d.2.2.2.2.2) (by omega) sk.2.2.1.2
        have m4 := mul_le (c := d.2.2.2.2.2) (by omega) sk.2.2.1.1
        rw [if_pos (by rw [decide_eq_true_eq]; exact hf), idx_nat, nth_at hk, Option.bind_some, Option.bind_some, Option.bind_some, Option.bind_some, wmul_of (by omega) (by omega), wmul_of (by omega) (by omega), if_neg (by rw [decide_eq_true_eq]; omega)]
        by_cases hik : i < k
        · rw [if_pos (by rw [decide_eq_true_eq]; omega), ok_some, flok_nx, if_neg (by rw [beq_iff_eq]; have := hbi.2 hik; omega), ok_some, flok_nx]; trivial
        · rw [if_neg (by rw [decide_eq_true_eq]; omega), ok_some, flok_nx, if_neg (by decide), ok_some, flok_nx]; trivial
      · rw [if_neg (by rw [decide_eq_true_eq]; exact hf), ok_some, flok_nx, if_neg (by decide), ok_some, flok_nx]; trivial
    · rw [if_neg (by rw [beq_iff_eq]; exact ht), ok_some, flok_nx, if_neg (by decide), ok_some, flok_nx]; trivial
end Go.Pu
