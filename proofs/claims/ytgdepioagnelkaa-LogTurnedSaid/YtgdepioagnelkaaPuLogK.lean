/- The plain law: whatever a crash keeps, the first records are there, whole, among them all that were safe. -/
import Derived.Test.YtgdepioagnelkaaWLogTurnedModels
import Derived.Test.YtgdepioagnelkaaPuLog
set_option linter.all false
namespace Go.Pu
open Go.Fw Go.Mo
theorem whole_ge : ∀ (l : List Bs) (s k : Nat), s ≤ l.length → (cat (l.take s)).length ≤ k → s ≤ whole_ l k
  | [], s, k, hs, _ => by simp at hs; omega
  | r :: l, 0, k, _, _ => Nat.zero_le _
  | r :: l, s + 1, k, hs, hk => by
    rw [List.take_succ_cons, cat, List.length_append, fr_len] at hk
    have := whole_ge l s (k - (r.length + 3)) (by simpa using hs) (by omega)
    rw [whole_, if_pos (by omega)]; omega
theorem cat_take_le : ∀ (l : List Bs) (s : Nat), (cat (l.take s)).length ≤ (cat l).length
  | [], s => by simp
  | r :: l, 0 => by simp [cat]
  | r :: l, s + 1 => by
    have := cat_take_le l s
    rw [List.take_succ_cons, cat, cat, List.length_append, List.length_append]; omega
theorem cat_take : ∀ (l : List Bs) (k : Nat), k ≤ (cat l).length → (cat (l.take (whole_ l k))).length ≤ k ∧ ((cat l).take k).take (cat (l.take (whole_ l k))).length = cat (l.take (whole_ l k))
  | [], k, _ => by simp [cat, whole_]
  | r :: l, k, hk => by
    have hfl := fr_len r
    by_cases hw : r.length + 3 ≤ k
    · have hk' : k - (r.length + 3) ≤ (cat l).length := by rw [cat, List.length_append, fr_len] at hk; omega
      obtain ⟨h1, h2⟩ := cat_take l (k - (r.length + 3)) hk'
      rw [whole_, if_pos hw, List.take_succ_cons, cat, List.length_append, fr_len]
      refine ⟨by omega, ?_⟩
      have e1 : (fr r ++ cat l).take k = fr r ++ (cat l).take (k - (r.length + 3)) := by
        rw [List.take_append, List.take_of_length_le (l := fr r) (by omega), fr_len]
      rw [cat, e1, List.take_append, List.take_of_length_le (l := fr r) (by omega), fr_len, show r.length + 3 + (cat (l.take (whole_ l (k - (r.length + 3))))).length - (r.length + 3) = (cat (l.take (whole_ l (k - (r.length + 3))))).length by omega, h2]
    · rw [whole_, if_neg hw]; simp [cat]
theorem all_ok (l : List Bs) (safe : Int) (hr : ∀ r ∈ l, r.length ≤ 64) (hd : (cat l).length ≤ 4000) : log_Log_All_m (cat l, safe) = some l := by
  have h3 := cat_len l
  have := scan_ok (k := (cat l).length) hr (Nat.le_refl _) (by omega)
  rw [List.take_length, whole_all, List.take_length] at this
  unfold log_Log_All_m
  dsimp only
  rw [this]; rfl
theorem crash_ok (l : List Bs) (s : Nat) (k : Int) (hr : ∀ r ∈ l, r.length ≤ 64) (hd : (cat l).length ≤ 4000) (hs : s ≤ l.length) : log_Log_Crash_m (cat l, ((cat (l.take s)).length : Int)) k = some (1, (cat l, ((cat (l.take s)).length : Int))) ∨ ∃ w, s ≤ w ∧ w ≤ l.length ∧ log_Log_Crash_m (cat l, ((cat (l.take s)).length : Int)) k = some (0, (cat (l.take w), ((cat (l.take w)).length : Int))) := by
  have hle := cat_take_le l s
  have h3 := cat_len l
  unfold log_Log_Crash_m
  dsimp only
  by_cases h0 : k < 0
  · left; rw [if_pos (by rw [decide_eq_true_eq]; exact h0)]; simp [bindR]
  · rw [if_neg (by rw [decide_eq_true_eq]; exact h0), wsub_of (by omega) (by omega)]
    by_cases h1 : k > ((cat l).length : Int) - ((cat (l.take s)).length : Int)
    · left; rw [decide_eq_true h1]; simp [bindR]
    · right
      rw [decide_eq_false h1]
      simp only [bindR, Bool.false_eq_true, if_false]
      rw [wadd_of (by omega) (by omega), chk_t ⟨by omega, by omega⟩, Option.bind_some, List.drop_zero]
      obtain ⟨K, hK⟩ : ∃ K : Nat, ((cat (l.take s)).length : Int) + k = K := ⟨(((cat (l.take s)).length : Int) + k).toNat, by omega⟩
      rw [hK, Int.toNat_natCast, scan_ok hr (by omega) (by omega), Option.bind_some]
      dsimp only
      obtain ⟨q1, q2⟩ := cat_take l K (by omega)
      refine ⟨whole_ l K, whole_ge l s K hs (by omega), whole_le l K, ?_⟩
      rw [chk_t ⟨by rw [List.length_take]; omega, by omega⟩, Option.bind_some, List.drop_zero, Int.toNat_natCast, q2]
theorem LogKeeps (x0 : List Bs) (h0 : (∀ s ∈ x0, s.length ≤ maxLen) ∧ x0.length ≤ maxLen) (x1 : Int) (_ : (Lit.int .i64 x1).wf = true) (x2 : Int) (_ : (Lit.int .i64 x2).wf = true) (x3 : Bs) {P : Prop} (_ : P) : pk_LogKeeps_m x0 x1 x2 x3 = some true := by
  apply Ok.eq
  unfold pk_LogKeeps_m log_New_m
  rw [logs_t, Option.bind_some, if_neg (by decide), Option.bind_some, if_neg (by decide), ok_bindR]
  refine ok_rangeL (fun _ (st : (Bs × Int) × List Bs × Int) => ∃ (l : List Bs) (s : Nat), st = ((cat l, ((cat (l.take s)).length : Int)), l, (s : Int)) ∧ (cat l).length ≤ 4000 ∧ (∀ r ∈ l, r.length ≤ 64) ∧ s ≤ l.length) ⟨[], 0, rfl, by decide, by simp, by simp⟩ (fun k r st hk hI => ?_) fun st hst => ?_
  · obtain ⟨l, s, rfl, hl, hr, hs⟩ := hI
    have h3 := cat_len l
    unfold pk_LogKeeps_b1
    dsimp only
    have next : ∀ (m : List Bs), (cat m).length ≤ 4000 → (∀ r ∈ m, r.length ≤ 64) → s ≤ m.length → m.take s = l.take s → Ok (if (k : Int) == x1 then (log_Log_Sync_m (cat m, ((cat (l.take s)).length : Int))).bind fun y166 => some (Fl.nx (y166, m, ((m.length : Nat) : Int)) : Fl Bool ((Bs × Int) × List Bs × Int) ((Bs × Int) × List Bs × Int)) else some (.nx ((cat m, ((cat (l.take s)).length : Int)), m, (s : Int)))) (FlOk (fun st => ∃ (l : List Bs) (s : Nat), st = ((cat l, ((cat (l.take s)).length : Int)), l, (s : Int)) ∧ (cat l).length ≤ 4000 ∧ (∀ r ∈ l, r.length ≤ 64) ∧ s ≤ l.length) (fun _ => False) (fun _ => False)) := by
      intro m hm hmr hsm e
      by_cases hx : (k : Int) = x1
      · rw [if_pos (by rw [beq_iff_eq]; exact hx)]
        unfold log_Log_Sync_m
        rw [Option.bind_some, ok_some, flok_nx]
        exact ⟨m, m.length, by rw [List.take_length], hm, hmr, Nat.le_refl _⟩
      · rw [if_neg (by rw [beq_iff_eq]; exact hx), ok_some, flok_nx]
        exact ⟨m, s, by rw [e], hm, hmr, hsm⟩
    rw [append_ok l _ r hl, Option.bind_some]
    by_cases h64 : r.length ≤ 64
    · rw [if_pos h64]
      by_cases hb : (cat l).length + (r.length + 3) ≤ 4000
      · have hm : (cat (l ++ [r])).length ≤ 4000 := by rw [cat_snoc, List.length_append, fr_len]; omega
        rw [if_pos hb]
        dsimp only
        rw [if_pos (by decide), chk_t (by simp; omega), Option.bind_some]
        simp only [bindF]
        exact (next (l ++ [r]) hm (fun x h => by
          rcases List.mem_append.1 h with h | h
          · exact hr x h
          · rw [List.mem_singleton] at h; subst h; exact h64) (by simp; omega) (List.take_append_of_le_length hs)).fl (fun _ h => h) (fun _ h => h.elim) (fun _ h => h.elim)
      · rw [if_neg hb]
        dsimp only
        rw [if_neg (by decide)]
        simp only [bindF]
        exact (next l hl hr hs rfl).fl (fun _ h => h) (fun _ h => h.elim) (fun _ h => h.elim)
    · rw [if_neg h64]
      dsimp only
      rw [if_neg (by decide)]
      simp only [bindF]
      exact (next l hl hr hs rfl).fl (fun _ h => h) (fun _ h => h.elim) (fun _ h => h.elim)
  · obtain ⟨l, s, rfl, hl, hr, hs⟩ := hst
    have h3 := cat_len l
    dsimp only
    rcases crash_ok l s x2 hr hl hs with e | ⟨w, w1, w2, e⟩
    · rw [e, Option.bind_some]
      dsimp only
      rw [if_pos (by decide), all_ok l _ hr hl, Option.bind_some, equalS_ok, Option.bind_some, ok_some]; simp
    · have hr' : ∀ r ∈ l.take w, r.length ≤ 64 := fun r h => hr r (List.mem_of_mem_take h)
      have hl' : (cat (l.take w)).length ≤ 4000 := by have := cat_take_le l w; omega
      have hwl : (l.take w).length = w := by rw [List.length_take]; omega
      rw [e, Option.bind_some]
      dsimp only
      rw [if_neg (by decide), all_ok _ _ hr' hl', Option.bind_some]
      unfold log_Log_Size_m
      rw [Option.bind_some, ok_bindR, hwl, if_neg (by rw [decide_eq_true_eq]; omega), if_neg (by rw [decide_eq_true_eq]; omega), chk_t ⟨by omega, by omega⟩, Option.bind_some, Int.toNat_natCast, List.drop_zero, equalS_ok, Option.bind_some, if_neg (by simp), ok_some, flok_nx]
      dsimp only
      rw [if_neg (by simp), append_ok _ _ _ hl', Option.bind_some]
      by_cases h64 : x3.length ≤ 64
      · rw [if_pos h64]
        by_cases hb : (cat (l.take w)).length + (x3.length + 3) ≤ 4000
        · rw [if_pos hb]
          dsimp only
          have hr2 : ∀ r ∈ l.take w ++ [x3], r.length ≤ 64 := fun r h => by
            rcases List.mem_append.1 h with h | h
            · exact hr' r h
            · rw [List.mem_singleton] at h; subst h; exact h64
          have hl2 : (cat (l.take w ++ [x3])).length ≤ 4000 := by rw [cat_snoc, List.length_append, fr_len]; omega
          rw [if_neg (by decide), all_ok _ _ hr2 hl2, Option.bind_some]
          unfold slices_Clone_string_string_m
          rw [chk_t (by rw [hwl]; omega), Option.bind_some, Option.bind_some, chk_t (by rw [hwl]; simp; omega), Option.bind_some, equalS_ok, Option.bind_some, ok_some]; simp
        · rw [if_neg hb]
          dsimp only
          rw [if_pos (by decide), all_ok _ _ hr' hl', Option.bind_some, equalS_ok, Option.bind_some, ok_some]; simp
      · rw [if_neg h64]
        dsimp only
        rw [if_pos (by decide), all_ok _ _ hr' hl', Option.bind_some, equalS_ok, Option.bind_some, ok_some]; simp
end Go.Pu
