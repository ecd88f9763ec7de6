/- The plain law: a scan of as many records as may be. -/
import Derived.Test.YtfekdillbgblkaaWLogBackModels
import Derived.Test.YtfekdillbgblkaaPuLog
set_option linter.all false
namespace Go.Pu
open Go.Fw Go.Mo
/-- a whole record is told -/
theorem scan_stepB {A B : Bs} {r : Bs} (hr : r.length ≤ 64) (l2 : List Bs) (hl : (A ++ (fr r ++ B)).length ≤ 9223372036854775807) (h2 : l2.length < 8796093022208) : log_Scan_b1 (A ++ (fr r ++ B)) (l2, (A.length : Int)) = some (.nx (l2 ++ [r], ((A.length + (r.length + 3) : Nat) : Int))) := by
  have hB : (fr r ++ B).length = r.length + 3 + B.length := by rw [List.length_append, fr_len]
  rw [List.length_append, hB] at hl
  have eb : fr r ++ B = byt r.length :: (r ++ ([hi_ r, lo_ r] ++ B)) := by simp [fr, head_]
  have hb0 : nth (fr r ++ B) 0 = byt r.length := by rw [eb]; rfl
  have hn : ((byt (r.length : Int)).toNat : Int) = r.length := byt_nat (by omega) (by omega)
  have hAl : ((A ++ (fr r ++ B)).length : Int) = A.length + (r.length + 3 + B.length) := by rw [List.length_append, hB]; omega
  have hc := sum_crc (s := head_ r) (by simp [head_]; omega)
  have g1 : nth (fr r ++ B) (r.length + 1) = hi_ r := by rw [eb, nth_cons_succ, nth_append, if_neg (by omega), Nat.sub_self]; rfl
  have g2 : nth (fr r ++ B) (r.length + 2) = lo_ r := by rw [eb, nth_cons_succ, nth_append, if_neg (by omega), show r.length + 1 - r.length = 1 by omega]; rfl
  have c1 : ((A ++ (fr r ++ B)).take (A.length + (r.length + 1))).drop (A.length + 0) = head_ r := by
    rw [cut_mid (by omega), eb]
    simp [head_]
  have c2 : ((A ++ (fr r ++ B)).take (A.length + (r.length + 1))).drop (A.length + 1) = r := by
    rw [cut_mid (by omega), eb]
    simp
  unfold log_Scan_b1
  dsimp only
  rw [if_pos (by rw [decide_eq_true_eq]; omega), show (A.length : Int) = (A.length : Int) + 0 by omega, idx_mid (by decide) (by rw [hB]; exact Nat.lt_of_lt_of_le (by decide : (0:Int).toNat < 1) (by omega)), Option.bind_some, show nth (fr r ++ B) (0 : Int).toNat = byt r.length from hb0, wrap_i64, hn, Int.add_zero]
  rw [if_neg (by rw [decide_eq_true_eq]; omega), wsub_of (by omega) (by omega), wadd_of (by omega : -9223372036854775808 ≤ (r.length : Int) + 3) (by omega), wadd_of (by omega : -9223372036854775808 ≤ (A.length : Int) + r.length) (by omega), wadd_of (by omega : -9223372036854775808 ≤ (A.length : Int) + r.length + 1) (by omega), wadd_of (by omega : -9223372036854775808 ≤ (A.length : Int) + r.length + 2) (by omega), wadd_of (by omega : -9223372036854775808 ≤ (A.length : Int) + 1) (by omega), wadd_of (by omega : -9223372036854775808 ≤ (A.length : Int) + 1 + r.length) (by omega), wadd_of (by omega : -9223372036854775808 ≤ (A.length : Int) + (r.length + 3)) (by omega)]
  rw [decide_eq_false (by omega)]
  simp only [bindF, Bool.false_eq_true, if_false]
  rw [chk_t (by omega), Option.bind_some, show ((A.length : Int) + r.length + 1).toNat = A.length + (r.length + 1) by omega, show (A.length : Int).toNat = A.length + 0 by omega, c1, hc.1, Option.bind_some]
  rw [show (A.length : Int) + r.length + 1 = (A.length : Int) + ((r.length + 1 : Nat) : Int) by omega, idx_mid (by omega) (by omega), Option.bind_some, chk_t (by decide), Option.bind_some, Int.toNat_natCast, g1, fdiv_shift, wrap_u8, wrap_u8]
  have d1 := Int.emod_nonneg (crc (head_ r) / 256) (b := 256) (by decide)
  have d2 := Int.emod_lt_of_pos (crc (head_ r) / 256) (b := 256) (by decide)
  have d3 := Int.emod_nonneg (crc (head_ r)) (b := 256) (by decide)
  have d4 := Int.emod_lt_of_pos (crc (head_ r)) (b := 256) (by decide)
  have k1 : ((hi_ r).toNat : Int) = crc (head_ r) / 256 % 256 := byt_nat d1 d2
  have k2 : ((lo_ r).toNat : Int) = crc (head_ r) % 256 := byt_nat d3 d4
  rw [k1, if_neg (by simp), show (A.length : Int) + r.length + 2 = (A.length : Int) + ((r.length + 2 : Nat) : Int) by omega, idx_mid (by omega) (by omega), Option.bind_some, Int.toNat_natCast, g2, k2]
  simp only [bne_self_eq_false, Bool.false_eq_true, if_false]
  rw [chk_t (by omega), Option.bind_some, chk_t (by simp; omega), Option.bind_some, show ((A.length : Int) + 1 + r.length).toNat = A.length + (r.length + 1) by omega, show ((A.length : Int) + 1).toNat = A.length + 1 by omega, c2]
  congr 3
theorem scan_loopB : ∀ (l : List Bs) (k : Nat) (A : Bs) (l2 : List Bs) (f : Nat), (∀ r ∈ l, r.length ≤ 64) → k ≤ (cat l).length → A.length + k ≤ 9223372036854775807 → l2.length + l.length ≤ 8796093022208 → l.length < f →
    loopM (γ := Unit) (log_Scan_b1 (A ++ (cat l).take k)) f (l2, (A.length : Int)) = some (.nx (l2 ++ l.take (whole_ l k), ((A.length + (cat (l.take (whole_ l k))).length : Nat) : Int)))
  | [], k, A, l2, f, hr, hk, hA, h2, hf => by
    obtain ⟨f, rfl⟩ : ∃ g, f = g + 1 := ⟨f - 1, by simp at hf; omega⟩
    unfold loopM
    have : log_Scan_b1 (A ++ (cat []).take k) (l2, (A.length : Int)) = some (.br (l2, (A.length : Int))) := by
      unfold log_Scan_b1
      dsimp only
      rw [if_neg (by rw [decide_eq_true_eq]; simp [cat])]
    rw [this]
    simp [cat, whole_]
  | r :: l, k, A, l2, f, hr, hk, hA, h2, hf => by
    obtain ⟨f, rfl⟩ : ∃ g, f = g + 1 := ⟨f - 1, by simp at hf; omega⟩
    have hrl := hr r (by simp)
    have hfl := fr_len r
    have hk' : k ≤ r.length + 3 + (cat l).length := by simpa [cat, fr_len] using hk
    have h2' : l2.length + (l.length + 1) ≤ 8796093022208 := by simpa using h2
    have hf' : l.length < f := by simpa using hf
    unfold loopM
    by_cases hw : r.length + 3 ≤ k
    · have e1 : (cat (r :: l)).take k = fr r ++ (cat l).take (k - (r.length + 3)) := by
        rw [cat, List.take_append, List.take_of_length_le (by omega), fr_len]
      rw [e1, scan_stepB hrl l2 (by simp only [List.length_append, List.length_take]; omega) (by omega)]
      dsimp only
      have ih := scan_loopB l (k - (r.length + 3)) (A ++ fr r) (l2 ++ [r]) f (fun x hx => hr x (by simp [hx])) (by omega) (by rw [List.length_append]; omega) (by simp; omega) hf'
      rw [List.length_append, fr_len, List.append_assoc] at ih
      rw [ih]
      have e2 : whole_ (r :: l) k = whole_ l (k - (r.length + 3)) + 1 := by rw [whole_, if_pos hw]
      rw [e2, List.take_succ_cons, cat, List.length_append, fr_len, Nat.add_assoc, List.append_assoc]; rfl
    · have e1 : (cat (r :: l)).take k = (fr r).take k := by
        rw [cat, List.take_append_of_le_length (by omega)]
      rw [e1, scan_stop hrl l2 (by omega) (by omega)]
      have e2 : whole_ (r :: l) k = 0 := by rw [whole_, if_neg hw]
      rw [e2]; simp [cat]
theorem scan_okB {l : List Bs} {k : Nat} (hr : ∀ r ∈ l, r.length ≤ 64) (hk : k ≤ (cat l).length) (hl : l.length < 8796093022208) : log_Scan_m ((cat l).take k) = some (l.take (whole_ l k), ((cat (l.take (whole_ l k))).length : Int)) := by
  have hc : ∀ l : List Bs, (∀ r ∈ l, r.length ≤ 64) → (cat l).length ≤ 67 * l.length := by
    intro l
    induction l with
    | nil => intro _; simp [cat]
    | cons r l ih =>
      intro h
      have := ih fun x hx => h x (by simp [hx])
      have := h r (by simp)
      simp only [cat, List.length_append, fr_len, List.length_cons]; omega
  have := hc l hr
  have hloop : ∀ f, l.length < f → loopM (γ := Unit) (log_Scan_b1 ((cat l).take k)) f ([], ((0 : Nat) : Int)) = some (.nx (l.take (whole_ l k), ((cat (l.take (whole_ l k))).length : Int))) := fun f hf => by
    have := scan_loopB l k [] [] f hr hk (by simp only [List.length_nil]; omega) (by simp only [List.length_nil]; omega) hf
    rw [List.nil_append, List.length_nil, List.nil_append, Nat.zero_add] at this
    exact this
  unfold log_Scan_m
  rw [show (0 : Int) = ((0 : Nat) : Int) from rfl, hloop _ (by omega)]; rfl
end Go.Pu
