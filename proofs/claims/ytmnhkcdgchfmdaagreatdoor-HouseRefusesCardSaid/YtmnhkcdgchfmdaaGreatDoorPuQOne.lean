/- The plain law: of one account and one number there is never more than one, whatever is added. -/
import Derived.Test.YtmnhkcdgchfmdaaGreatDoorWHouseRefusesModels
import Derived.Test.YtmnhkcdgchfmdaaGreatDoorPuQueue
set_option linter.all false
namespace Go.Pu
open Go.Fw Go.Mo
def WfD (d : Deal) : Prop := d.1.length ≤ maxLen ∧ d.2.1.length ≤ maxLen ∧ (Lit.int .i64 d.2.2.1).wf = true ∧ (Lit.int .i64 d.2.2.2.1).wf = true ∧ (Lit.int .i64 d.2.2.2.2.1).wf = true ∧ (Lit.int .i64 d.2.2.2.2.2).wf = true
theorem WfD.short {d : Deal} (h : WfD d) : ShortD d := ⟨h.1, h.2.1⟩
theorem QueueOne (x0 : List Deal) (h0 : (∀ d ∈ x0, WfD d) ∧ x0.length ≤ maxLen) : pk_QueueOne_m x0 = some true := by
  apply Ok.eq
  unfold pk_QueueOne_m
  rw [queues_t, Option.bind_some, if_neg (by decide), ok_bindR]
  refine ok_rangeL (fun k (m : List Deal) => Queue m ∧ ∀ d ∈ m, ShortD d) ⟨⟨by decide, fun d hd => by (cases hd), fun i j _ hj => by (simp at hj)⟩, fun d hd => by (cases hd)⟩ (fun k d m hk hI => ?_) fun m hm => ?_
  · have hd := (h0.1 d (List.mem_of_getElem? hk)).short
    unfold pk_QueueOne_b1
    rw [ok_bind]
    refine (add_ok hI.2 hd).mono fun p hp => ?_
    by_cases h : p.2 = 0
    · rw [if_neg (by rw [bne_iff_ne]; exact fun h' => h' h), ok_some, flok_nx]
      refine ⟨hp.queue h, fun x hx => ?_⟩
      cases hp with
      | no e he => exact absurd h he
      | «at» i hQ hr hi hk hf =>
        rcases List.mem_or_eq_of_mem_set hx with hx | hx
        · exact hI.2 x hx
        · subst hx; exact hd
      | end_ hQ hr hk hl =>
        rcases List.mem_append.1 hx with hx | hx
        · exact hI.2 x hx
        · rw [List.mem_singleton] at hx; subst hx; exact hd
    · rw [if_pos (by rw [bne_iff_ne]; exact h), ok_some, flok_nx]; exact hI
  · obtain ⟨hQ, hS⟩ := hm
    have h20 := hQ.len
    rw [ok_bindR]
    refine ok_rangeL (fun _ _ => True) trivial (fun k d _ hk _ => ?_) fun _ _ => ?_
    · obtain ⟨hd, hkl⟩ := nth_of hk
      unfold pk_QueueOne_b2
      rw [chk_t (by omega), Option.bind_some, ok_bindF, Int.toNat_natCast, List.drop_zero]
      refine ok_rangeL (fun _ _ => True) trivial (fun j x _ hj _ => ?_) fun _ _ => by rw [ok_some, flok_nx]; trivial
      obtain ⟨hx, hjl⟩ := nth_of hj
      rw [List.length_take] at hjl
      rw [nth_take (by omega)] at hx
      have hne := hQ.once j k (by omega) hkl
      rw [hx, hd] at hne
      unfold pk_QueueOne_b3
      rw [ok_bindF]
      by_cases e : x.1 = d.1
      · have : ¬ x.2.2.1 = d.2.2.1 := fun e2 => hne (by unfold key; rw [e, e2])
        rw [if_pos (by simpa using e), ok_some, flok_nx, if_neg (by simpa using this), ok_some, flok_nx]; trivial
      · rw [if_neg (by simpa using e), ok_some, flok_nx, if_neg (by decide), ok_some, flok_nx]; trivial
    · obtain ⟨e, he, hq⟩ := checkQ_ok hS
      rw [he, Option.bind_some, ok_some, beq_iff_eq]
      exact hq.2 hQ
end Go.Pu
