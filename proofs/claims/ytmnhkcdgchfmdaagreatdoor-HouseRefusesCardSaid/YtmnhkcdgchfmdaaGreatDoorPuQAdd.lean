/- The plain law: what is added is there, and all others as they were; taken away again it is as before. -/
import Derived.Test.YtmnhkcdgchfmdaaGreatDoorWHouseRefusesModels
import Derived.Test.YtmnhkcdgchfmdaaGreatDoorPuQOne
set_option linter.all false
namespace Go.Pu
open Go.Fw Go.Mo
theorem drop_ok {m : List Deal} (hs : ∀ d ∈ m, ShortD d) (hQ : Queue m) {i : Nat} (hi : i < m.length) : queue_Drop_m m (nth m i).1 (nth m i).2.2.1 = some (m.take i ++ m.drop (i + 1), 0) := by
  obtain ⟨e, he, hq⟩ := checkQ_ok hs
  have h0 := hq.2 hQ
  subst h0
  have hlen := hQ.len
  have hx := hQ.idx hi
  unfold queue_Drop_m
  rw [he, Option.bind_some, if_neg (by decide), findQ_ok, Option.bind_some]
  have e1 : ((nth m i).1, (nth m i).2.2.1) = key (nth m i) := rfl
  rw [e1, if_pos hx.1, hx.2, if_neg (by rw [decide_eq_true_eq]; omega), cloneQ m (by omega), Option.bind_some, wadd_of (by omega) (by omega)]
  unfold slices_Delete_api_Deal_api_Deal_m
  rw [chk_t (by omega), Option.bind_some, Option.bind_some, Int.toNat_natCast, show ((i : Int) + 1).toNat = i + 1 by omega]
/-- how many of the first k are as they were -/
theorem QueueAdd (x0 : List Deal) (h0 : (∀ d ∈ x0, WfD d) ∧ x0.length ≤ maxLen) (x1 : Deal) (h1 : WfD x1) : pk_QueueAdd_m x0 x1 = some true := by
  apply Ok.eq
  unfold pk_QueueAdd_m
  have hs : ∀ d ∈ x0, ShortD d := fun d hd => (h0.1 d hd).short
  rw [queues_t, Option.bind_some, if_neg (by decide), ok_bind]
  refine (add_ok hs h1.short).mono fun p hp => ?_
  cases hp with
  | no e he =>
    dsimp only
    rw [if_pos (by rw [bne_iff_ne]; exact he), ok_some]; rfl
  | «at» i hQ hr hi hk hf =>
    have hQ' := hQ.set hi hr hk
    have hs' : ∀ d ∈ x0.set i x1, ShortD d := fun d hd => by
      rcases List.mem_or_eq_of_mem_set hd with hd | hd
      · exact hs d hd
      · subst hd; exact h1.short
    have hi' : i < (x0.set i x1).length := by rw [List.length_set]; exact hi
    have hn : nth (x0.set i x1) i = x1 := by rw [nth_set hi, if_pos rfl]
    have hd := drop_ok hs' hQ' hi'
    rw [hn] at hd
    obtain ⟨e, he, hq⟩ := checkQ_ok hs'
    have e0 := hq.2 hQ'
    subst e0
    have h20 := hQ.len
    have hmem : x1 ∈ x0.set i x1 := by have := nth_mem hi'; rw [hn] at this; exact this
    dsimp only
    rw [if_neg (by decide), hd, Option.bind_some]
    dsimp only
    rw [if_neg (by decide), he, Option.bind_some, if_neg (by decide), contains_deal, Option.bind_some, ok_bindR, ok_some, flok_nx, if_neg (by simp [hmem]), List.length_set, if_neg (by rw [beq_iff_eq, wadd_of (by omega) (by omega)]; omega), ok_bindR]
    refine ok_rangeL (fun k (n : Int) => n = if k ≤ i then (k : Int) else (k : Int) - 1) (by simp) (fun k d n hk hI => ?_) fun n hn' => ?_
    · obtain ⟨hdk, hkl⟩ := nth_of hk
      subst hI
      unfold pk_QueueAdd_b1
      dsimp only
      rw [List.length_set, if_pos (by rw [decide_eq_true_eq]; omega), idx_nat, nth_at (by rw [List.length_set]; exact hkl), Option.bind_some, ok_bindF, ok_some, flok_nx, nth_set hi]
      by_cases e : k = i
      · subst e
        have hne : ¬ d = x1 := fun e => by rw [hdk, e] at hf; omega
        rw [if_pos rfl, if_neg (by rw [decide_eq_true_eq]; exact hne), ok_some, flok_nx, if_pos (Nat.le_refl _), if_neg (by omega)]; omega
      · rw [if_neg e, if_pos (by rw [decide_eq_true_eq]; exact hdk.symm), ok_some, flok_nx]
        by_cases hlt : k ≤ i
        · rw [if_pos hlt, if_pos (by omega), wadd_of (by omega) (by omega)]; omega
        · rw [if_neg hlt, if_neg (by omega), wadd_of (by omega) (by omega)]; omega
    · rw [if_neg (by omega)] at hn'
      subst hn'
      rw [ok_bindR, if_pos (by rw [beq_iff_eq]), wsub_of (by omega) (by omega), if_pos (by rw [beq_iff_eq]), ok_some, flok_nx, ok_some, beq_iff_eq, List.length_append, List.length_take, List.length_drop, List.length_set]
      omega
  | end_ hQ hr hk hl =>
    have hQ' := hQ.snoc hr hk hl
    have hs' : ∀ d ∈ x0 ++ [x1], ShortD d := fun d hd => by
      rcases List.mem_append.1 hd with hd | hd
      · exact hs d hd
      · rw [List.mem_singleton] at hd; subst hd; exact h1.short
    have hi' : x0.length < (x0 ++ [x1]).length := by simp
    have hn : nth (x0 ++ [x1]) x0.length = x1 := by rw [nth_append, if_neg (by omega), Nat.sub_self]; rfl
    have hd := drop_ok hs' hQ' hi'
    rw [hn] at hd
    obtain ⟨e, he, hq⟩ := checkQ_ok hs'
    have e0 := hq.2 hQ'
    subst e0
    have ed : (x0 ++ [x1]).take x0.length ++ (x0 ++ [x1]).drop (x0.length + 1) = x0 := by
      rw [List.take_left, List.drop_of_length_le (by simp), List.append_nil]
    rw [ed] at hd
    dsimp only
    rw [if_neg (by decide), hd, Option.bind_some]
    dsimp only
    rw [if_neg (by decide), he, Option.bind_some, if_neg (by decide), contains_deal, Option.bind_some, ok_bindR, ok_some, flok_nx, if_neg (by simp), List.length_append, List.length_singleton, wadd_of (by omega) (by omega), if_pos (by rw [beq_iff_eq]; omega), ok_bindR, equal_deal, Option.bind_some, if_pos (by simp), chk_t (by omega), Option.bind_some, Int.toNat_natCast, List.drop_zero, List.take_left, equal_deal, Option.bind_some, ok_some, flok_nx, ok_some]
    simp
end Go.Pu
