/- The plain law: a record takes its bytes and three; it is refused just if there is no room for these. -/
import Derived.Test.YtdmolnfnpinhcaaWLogFullModels
import Derived.Test.YtdmolnfnpinhcaaPuLog
set_option linter.all false
namespace Go.Pu
open Go.Fw Go.Mo
theorem LogFull (x0 : List Bs) (h0 : (∀ s ∈ x0, s.length ≤ maxLen) ∧ x0.length ≤ maxLen) : pk_LogFull_m x0 = some true := by
  apply Ok.eq
  unfold pk_LogFull_m log_New_m
  rw [logs_t, Option.bind_some, if_neg (by decide), Option.bind_some, if_neg (by decide), ok_bindR]
  refine ok_rangeL (fun _ st => ∃ l, st = (cat l, (0 : Int)) ∧ (cat l).length ≤ 4000) ⟨[], rfl, by decide⟩ (fun k r st hk hI => ?_) fun _ _ => by rw [ok_some]
  obtain ⟨l, rfl, hl⟩ := hI
  have hr : r.length ≤ 9223372036854775807 := h0.1 r (List.mem_of_getElem? hk)
  unfold pk_LogFull_b1 log_Log_Size_m
  rw [Option.bind_some, append_ok l 0 r hl]
  simp only [Option.bind_some]
  by_cases h64 : r.length ≤ 64
  · rw [if_pos h64, if_neg (by rw [decide_eq_true_eq]; omega), wadd_of (x := ((cat l).length : Int)) (by omega) (by omega), wadd_of (by omega) (by omega), wadd_of (x := (r.length : Int)) (by omega) (by omega), wadd_of (by omega) (by omega)]
    by_cases hb : (cat l).length + (r.length + 3) ≤ 4000
    · have hc : (cat (l ++ [r])).length = (cat l).length + (r.length + 3) := by rw [cat_snoc, List.length_append, fr_len]
      rw [if_pos hb, if_neg (by rw [decide_eq_true_eq]; omega)]
      dsimp only
      rw [if_neg (by decide), if_neg (by rw [bne_iff_ne]; omega), ok_bindF, ok_some, flok_nx, if_neg (by simp), ok_some, flok_nx]
      exact ⟨l ++ [r], rfl, by omega⟩
    · rw [if_neg hb, if_pos (by rw [decide_eq_true_eq]; omega)]
      dsimp only
      rw [if_neg (by decide), if_neg (by simp), ok_bindF, ok_some, flok_nx, if_neg (by simp), ok_some, flok_nx]
      exact ⟨l, rfl, hl⟩
  · rw [if_neg h64, if_pos (by rw [decide_eq_true_eq]; omega)]
    dsimp only
    rw [if_neg (by decide), if_neg (by simp), ok_bindF, ok_some, flok_nx, if_neg (by simp), ok_some, flok_nx]
    exact ⟨l, rfl, hl⟩
end Go.Pu
