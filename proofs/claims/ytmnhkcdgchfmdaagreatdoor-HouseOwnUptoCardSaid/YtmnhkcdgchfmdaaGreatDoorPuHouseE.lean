/- The plain law: each deed keeps the house in order. -/
import Derived.Test.YtmnhkcdgchfmdaaGreatDoorWHouseOwnModels
import Derived.Test.YtmnhkcdgchfmdaaGreatDoorPuHouseD
set_option linter.all false
namespace Go.Pu
open Go.Fw Go.Mo
def ShortDd (d : Dd) : Prop := Short d.2.2.1 ∧ ShortD d.2.2.2
theorem drop_any {l : List Deal} {s : Bs} {n : Int} (hs : ∀ d ∈ l, ShortD d) (hQ : Queue l) : ∃ p, queue_Drop_m l s n = some p ∧ (p.2 ≠ 0 ∨ (p.2 = 0 ∧ Queue p.1 ∧ ∀ d ∈ p.1, ShortD d)) := by
  obtain ⟨e, he, hq⟩ := checkQ_ok hs
  have h0 := hq.2 hQ
  subst h0
  have hlen := hQ.len
  unfold queue_Drop_m
  rw [he, Option.bind_some, if_neg (by decide), findQ_ok, Option.bind_some]
  by_cases ha : l.any (fun d => key d == (s, n)) = true
  · rw [if_pos ha]
    have hi : l.findIdx (fun d => key d == (s, n)) < l.length := by
      obtain ⟨i, hi, ei⟩ := any_key.1 ha
      exact List.findIdx_lt_length_of_exists ⟨nth l i, nth_mem hi, by rw [beq_iff_eq]; exact ei⟩
    generalize l.findIdx (fun d => key d == (s, n)) = i at hi
    rw [if_neg (by rw [decide_eq_true_eq]; omega), cloneQ l (by omega), Option.bind_some, wadd_of (by omega) (by omega)]
    unfold slices_Delete_api_Deal_api_Deal_m
    rw [chk_t (by omega), Option.bind_some, Option.bind_some, Int.toNat_natCast, show ((i : Int) + 1).toNat = i + 1 by omega]
    have hmem : ∀ d ∈ l.take i ++ l.drop (i + 1), d ∈ l := fun d hd => by
      rcases List.mem_append.1 hd with h | h
      · exact List.mem_of_mem_take h
      · exact List.mem_of_mem_drop h
    refine ⟨_, rfl, .inr ⟨rfl, ⟨?_, fun d hd => hQ.right d (hmem d hd), fun a b hab hb => ?_⟩, fun d hd => hs d (hmem d hd)⟩⟩
    · simp only [List.length_append, List.length_take, List.length_drop]; omega
    · have hnth : ∀ a, a < (l.take i ++ l.drop (i + 1)).length → nth (l.take i ++ l.drop (i + 1)) a = nth l (if a < i then a else a + 1) := fun a ha => by
        rw [nth_append, List.length_take]
        by_cases h : a < i
        · rw [if_pos (by omega), if_pos h, nth_take h]
        · rw [if_neg (by omega), if_neg h, nth_drop]; congr 1; omega
      have hb' := hb
      simp only [List.length_append, List.length_take, List.length_drop] at hb'
      dsimp only at hb ⊢
      rw [hnth a (by omega), hnth b hb]
      refine hQ.once _ _ ?_ ?_
      · split <;> split <;> omega
      · split <;> omega
  · rw [if_neg ha, if_pos (by decide)]
    exact ⟨_, rfl, .inl (by simp)⟩
theorem do_ok {h : Hs} {ps : List Op} {s : Nat} {d : Dd} (hI : Inv h ps s) (hd : ShortDd d) : ∃ r, house_House_Do_m h d = some r ∧ Did h ps s d r := by
  have hI0 := hI
  obtain ⟨ac, of, dk, sf⟩ := h
  obtain ⟨hrun, hdk, hsf, hsl, hlen, hq, hso⟩ := hI
  dsimp only at hrun hdk hsf hq hso
  obtain ⟨hA, hsA⟩ := hrun.accts0
  unfold house_House_Do_m
  dsimp only
  by_cases k1 : d.1 = 1
  · rw [if_pos (by rw [beq_iff_eq]; exact k1)]
    obtain ⟨e, h', e1, hh⟩ := open_did hI0 hd.1
    rw [e1, Option.bind_some]
    rcases hh with ⟨he, rfl⟩ | ⟨he, hh⟩
    · exact ⟨_, rfl, .no e he⟩
    · subst he; exact ⟨_, rfl, .opened h' k1 hh⟩
  rw [if_neg (by rw [beq_iff_eq]; exact k1)]
  by_cases k2 : d.1 = 2
  · rw [if_pos (by rw [beq_iff_eq]; exact k2)]
    obtain ⟨p, e1, hp⟩ := add_ok hso hd.2
    rw [e1, Option.bind_some]
    by_cases he : p.2 = 0
    · rw [if_neg (by rw [bne_iff_ne]; exact fun h => h he)]
      refine ⟨_, rfl, .kept (0, 0) (ac, p.1, dk, sf) [] s (by omega) (by omega) (Nat.le_refl _) (fun q hq => by simp at hq) ?_ (by omega)⟩
      rw [List.append_nil]
      refine ⟨hrun, hdk, hsf, hsl, hlen, hp.queue he, ?_⟩
      dsimp only
      cases hp with
      | no e h => exact absurd he h
      | «at» i _ _ hi _ _ =>
        intro x hx
        rcases List.mem_or_eq_of_mem_set hx with h | rfl
        · exact hso x h
        · exact hd.2
      | end_ _ _ _ _ =>
        intro x hx
        rcases List.mem_append.1 hx with h | h
        · exact hso x h
        · rw [List.mem_singleton] at h; subst h; exact hd.2
    · rw [if_pos (by rw [bne_iff_ne]; exact he)]
      exact ⟨_, rfl, .no p.2 he⟩
  rw [if_neg (by rw [beq_iff_eq]; exact k2)]
  by_cases k3 : d.1 = 3
  · rw [if_pos (by rw [beq_iff_eq]; exact k3)]
    obtain ⟨t, e, h', e1, hh⟩ := build_did hI0 hd.1
    rw [e1, Option.bind_some]
    rcases hh with ⟨he, rfl, rfl⟩ | ⟨he, qs, hqs, hh⟩
    · exact ⟨_, rfl, .no e he⟩
    · subst he; exact ⟨_, rfl, .kept t h' qs s (by omega) (by omega) (Nat.le_refl _) hqs hh (by omega)⟩
  rw [if_neg (by rw [beq_iff_eq]; exact k3)]
  by_cases k4 : d.1 = 4
  · rw [if_pos (by rw [beq_iff_eq]; exact k4)]
    refine ⟨_, rfl, .kept (0, 0) (ac, of, dk, (dk.length : Int)) [] ps.length (by omega) (by omega) hsl (fun q hq => by simp at hq) ?_ (fun _ => ⟨rfl, rfl⟩)⟩
    rw [List.append_nil]
    refine ⟨hrun, hdk, ?_, Nat.le_refl _, hlen, hq, hso⟩
    dsimp only
    rw [← List.length_map (f := recO), List.take_length, ← hdk]
  rw [if_neg (by rw [beq_iff_eq]; exact k4)]
  by_cases k5 : d.1 = 5
  · rw [if_pos (by rw [beq_iff_eq]; exact k5)]
    have hc := crash_ok (ps.map recO) s d.2.1 (right_recs hrun) hlen (by rw [List.length_map]; exact hsl)
    rw [← hsf, ← hdk] at hc
    rcases hc with hc | ⟨w, hw1, hw2, hc⟩
    · rw [hc, Option.bind_some, if_pos (by simp)]
      exact ⟨_, rfl, .no 1 (by decide)⟩
    · rw [List.length_map] at hw2
      have hpw : ps = ps.take w ++ ps.drop w := (List.take_append_drop w ps).symm
      have hr2 := hrun
      rw [hpw] at hr2
      obtain ⟨m, hm, _⟩ := hr2.split
      have hlen2 : (cat ((ps.take w).map recO)).length ≤ 4000 := by
        rw [List.map_take]; have := cat_take_le (ps.map recO) w; omega
      rw [hc, Option.bind_some, if_neg (by simp), read_ok (ps := ps.take w) (fin := m) (by dsimp only; rw [List.map_take]) hlen2 hm, Option.bind_some]
      refine ⟨_, rfl, .crashed (m, [], cat ((ps.map recO).take w), _) w k5 hw1 hw2 ⟨hm, ?_, ?_, ?_, hlen2, ⟨by simp, fun d h => by simp at h, fun i j _ h => by simp at h⟩, fun d h => by simp at h⟩ rfl⟩
      · dsimp only; rw [List.map_take]
      · dsimp only; rw [List.map_take, List.take_take, Nat.min_self]
      · rw [List.length_take]; omega
  rw [if_neg (by rw [beq_iff_eq]; exact k5)]
  by_cases k6 : d.1 = 6
  · rw [if_pos (by rw [beq_iff_eq]; exact k6), find_acct, Option.bind_some]
    dsimp only
    by_cases hany : ac.any (fun a => a.1 == d.2.2.1) = true
    · have hi : ac.findIdx (fun a => a.1 == d.2.2.1) < ac.length := by
        obtain ⟨a, ha, e⟩ := List.any_eq_true.1 hany
        exact List.findIdx_lt_length_of_exists ⟨a, ha, e⟩
      rw [if_pos hany, if_neg (by rw [decide_eq_true_eq]; omega), idx_nat, nth_at hi, Option.bind_some, Option.bind_some]
      exact ⟨_, rfl, .kept _ (ac, of, dk, sf) [] s (by omega) (by omega) (Nat.le_refl _) (fun q hq => by simp at hq) (by rw [List.append_nil]; exact hI0) (by omega)⟩
    · rw [if_neg hany, if_pos (by decide)]
      exact ⟨_, rfl, .no 4 (by decide)⟩
  rw [if_neg (by rw [beq_iff_eq]; exact k6)]
  by_cases k7 : d.1 = 7
  · rw [if_pos (by rw [beq_iff_eq]; exact k7)]
    obtain ⟨p, e1, hp⟩ := drop_any (s := d.2.2.1) (n := d.2.1) hso hq
    rw [e1, Option.bind_some]
    rcases hp with he | ⟨he, hQ, hS⟩
    · rw [if_pos (by rw [bne_iff_ne]; exact he)]
      exact ⟨_, rfl, .no p.2 he⟩
    · rw [if_neg (by rw [bne_iff_ne]; exact fun h => h he)]
      refine ⟨_, rfl, .kept (0, 0) (ac, p.1, dk, sf) [] s (by omega) (by omega) (Nat.le_refl _) (fun q hq => by simp at hq) ?_ (by omega)⟩
      rw [List.append_nil]
      exact ⟨hrun, hdk, hsf, hsl, hlen, hQ, hS⟩
  rw [if_neg (by rw [beq_iff_eq]; exact k7)]
  exact ⟨_, rfl, .no 1 (by decide)⟩
/-- whatever is asked, the house is in order -/
theorem Did.inv {h : Hs} {ps : List Op} {s : Nat} {d : Dd} {r : (Int × Int) × Int × Hs} (hI : Inv h ps s) (hD : Did h ps s d r) : ∃ ps' s', Inv r.2.2 ps' s' := by
  cases hD with
  | no e he => exact ⟨_, _, hI⟩
  | opened h' k h => exact ⟨_, _, h⟩
  | kept t h' qs s' _ _ _ _ h _ => exact ⟨_, _, h⟩
  | crashed h' w _ _ _ h _ => exact ⟨_, _, h⟩
theorem worked_ok (l : List Dd) (hl : ∀ d ∈ l, ShortDd d) : ∃ h ps s, pk_worked_m l = some h ∧ Inv h ps s := by
  have : Ok (pk_worked_m l) (fun h => ∃ ps s, Inv h ps s) := by
    unfold pk_worked_m
    rw [show house_New_m = some (([], [], [], 0) : Hs) from rfl, Option.bind_some, ok_bindR]
    refine ok_rangeL (fun _ (h : Hs) => ∃ ps s, Inv h ps s) ?_ (fun k d h hk hI => ?_) fun h hI => ?_
    · obtain ⟨h, e, hI⟩ := inv_new
      cases e; exact ⟨_, _, hI⟩
    · obtain ⟨ps, s, hI⟩ := hI
      unfold pk_worked_b1
      obtain ⟨r, e, hD⟩ := do_ok (d := d) hI (hl d (List.mem_of_getElem? hk))
      show Ok ((house_House_Do_m h d).bind _) _
      rw [e, Option.bind_some, ok_some, flok_nx]
      exact hD.inv hI
    · rw [ok_some]; exact hI
  obtain ⟨h, e, ps, s, hI⟩ := this
  exact ⟨h, ps, s, e, hI⟩
end Go.Pu
