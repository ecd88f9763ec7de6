/- (a part) The plain law: whatever a crash keeps, the first records are there, whole, among them all that were safe. -/
import Derived.Test.YtfekdillbgblkaaWLogBackModels
import Derived.Test.YtfekdillbgblkaaPuLog
set_option linter.all false
namespace Go.Pu
open Go.Fw Go.Mo
theorem whole_ge : ∀ (l : List Bs) (s k : Nat), s ≤ l.length → (cat (l.take s)).length ≤ k → s ≤ whole_ l k
  | [], s, k, hs, _ => by simp at hs; omega
  | r :: l, 0, k, _, _ => Nat.zero_le _
  | r :: l, s + 1, k, hs, hk => by
    rw [List.take_succ_cons, cat, List.length_append, fr_len] at hk
    have := whole_ge l s (k - (r.length + 3)) (by simpa using hs) (by omega)
    rw [whole_, if_pos (by omega)]; omega
theorem cat_take_le : ∀ (l : List Bs) (s : Nat), (cat (l.take s)).length ≤ (cat l).length
  | [], s => by simp
  | r :: l, 0 => by simp [cat]
  | r :: l, s + 1 => by
    have := cat_take_le l s
    rw [List.take_succ_cons, cat, cat, List.length_append, List.length_append]; omega
theorem cat_take : ∀ (l : List Bs) (k : Nat), k ≤ (cat l).length → (cat (l.take (whole_ l k))).length ≤ k ∧ ((cat l).take k).take (cat (l.take (whole_ l k))).length = cat (l.take (whole_ l k))
  | [], k, _ => by simp [cat, whole_]
  | r :: l, k, hk => by
    have hfl := fr_len r
    by_cases hw : r.length + 3 ≤ k
    · have hk' : k - (r.length + 3) ≤ (cat l).length := by rw [cat, List.length_append, fr_len] at hk; omega
      obtain ⟨h1, h2⟩ := cat_take l (k - (r.length + 3)) hk'
      rw [whole_, if_pos hw, List.take_succ_cons, cat, List.length_append, fr_len]
      refine ⟨by omega, ?_⟩
      have e1 : (fr r ++ cat l).take k = fr r ++ (cat l).take (k - (r.length + 3)) := by
        rw [List.take_append, List.take_of_length_le (l := fr r) (by omega), fr_len]
      rw [cat, e1, List.take_append, List.take_of_length_le (l := fr r) (by omega), fr_len, show r.length + 3 + (cat (l.take (whole_ l (k - (r.length + 3))))).length - (r.length + 3) = (cat (l.take (whole_ l (k - (r.length + 3))))).length by omega, h2]
    · rw [whole_, if_neg hw]; simp [cat]
theorem all_ok (l : List Bs) (safe : Int) (hr : ∀ r ∈ l, r.length ≤ 64) (hd : (cat l).length ≤ 4000) : log_Log_All_m (cat l, safe) = some l := by
  have h3 := cat_len l
  have := scan_ok (k := (cat l).length) hr (Nat.le_refl _) (by omega)
  rw [List.take_length, whole_all, List.take_length] at this
  unfold log_Log_All_m
  dsimp only
  rw [this]; rfl
theorem crash_ok (l : List Bs) (s : Nat) (k : Int) (hr : ∀ r ∈ l, r.length ≤ 64) (hd : (cat l).length ≤ 4000) (hs : s ≤ l.length) : log_Log_Crash_m (cat l, ((cat (l.take s)).length : Int)) k = some (1, (cat l, ((cat (l.take s)).length : Int))) ∨ ∃ w, s ≤ w ∧ w ≤ l.length ∧ log_Log_Crash_m (cat l, ((cat (l.take s)).length : Int)) k = some (0, (cat (l.take w), ((cat (l.take w)).length : Int))) := by
  have hle := cat_take_le l s
  have h3 := cat_len l
  unfold log_Log_Crash_m
  dsimp only
  by_cases h0 : k < 0
  · left; rw [if_pos (by rw [decide_eq_true_eq]; exact h0)]; simp [bindR]
  · rw [if_neg (by rw [decide_eq_true_eq]; exact h0), wsub_of (by omega) (by omega)]
    by_cases h1 : k > ((cat l).length : Int) - ((cat (l.take s)).length : Int)
    · left; rw [decide_eq_true h1]; simp [bindR]
    · right
      rw [decide_eq_false h1]
      simp only [bindR, Bool.false_eq_true, if_false]
      rw [wadd_of (by omega) (by omega), chk_t ⟨by omega, by omega⟩, Option.bind_some, List.drop_zero]
      obtain ⟨K, hK⟩ : ∃ K : Nat, ((cat (l.take s)).length : Int) + k = K := ⟨(((cat (l.take s)).length : Int) + k).toNat, by omega⟩
      rw [hK, Int.toNat_natCast, scan_ok hr (by omega) (by omega), Option.bind_some]
      dsimp only
      obtain ⟨q1, q2⟩ := cat_take l K (by omega)
      refine ⟨whole_ l K, whole_ge l s K hs (by omega), whole_le l K, ?_⟩
      rw [chk_t ⟨by rw [List.length_take]; omega, by omega⟩, Option.bind_some, List.drop_zero, Int.toNat_natCast, q2]
end Go.Pu
