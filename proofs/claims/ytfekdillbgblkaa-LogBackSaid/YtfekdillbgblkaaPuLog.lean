/- Records one behind the other: what is framed is told again. -/
import Derived.Test.YtfekdillbgblkaaWLogBackModels
import Derived.Test.YtfekdillbgblkaaPuFl
set_option linter.all false
namespace Go.Pu
open Go.Fw Go.Mo
abbrev Bs := List UInt8
theorem wrap_u16 (n : Int) : 0 ≤ IntKind.wrap .u16 n ∧ IntKind.wrap .u16 n < 65536 := by
  unfold IntKind.wrap
  have a0 := Int.emod_nonneg n (b := 65536) (by decide)
  have a1 := Int.emod_lt_of_pos n (b := 65536) (by decide)
  exact ⟨a0, a1⟩
theorem wrap_u8 (n : Int) : IntKind.wrap .u8 n = n % 256 := rfl
theorem xor_u16 (a b : Int) : 0 ≤ bits .xor .u16 a b ∧ bits .xor .u16 a b < 65536 := by
  unfold bits; exact wrap_u16 _
theorem sum_ok (s : Bs) (h : s.length ≤ 9223372036854775807) : Ok (log_Sum_m s) (fun v => 0 ≤ v ∧ v < 65536) := by
  unfold log_Sum_m
  rw [chk_t h, Option.bind_some, ok_bindR]
  refine ok_rangeL (fun _ v => 0 ≤ v ∧ v < 65536) (by decide) (fun k a t hk hI => ?_) fun v hv => by rw [ok_some]; exact hv
  unfold log_Sum_b1
  rw [chk_t (by decide), Option.bind_some, ok_bindF]
  refine Ok.fl (N := fun s : Int × Int => 0 ≤ s.1 ∧ s.1 < 65536) (B := fun _ => False) (R := fun _ => False) (ok_loopM (fun s : Int × Int => (0 ≤ s.1 ∧ s.1 < 65536) ∧ 0 ≤ s.2 ∧ s.2 ≤ 8) (fun s => (8 - s.2).toNat) (fun s hs => ?_) _ _ ⟨xor_u16 _ _, Int.le_refl _, by dsimp only; omega⟩ (by dsimp only; omega)) (fun s hs => by rw [ok_some, flok_nx]; exact hs) (fun _ h => h.elim) (fun _ h => h.elim)
  obtain ⟨x, y⟩ := s
  obtain ⟨⟨h1, h2⟩, h3, h4⟩ := hs
  dsimp only at h1 h2 h3 h4
  unfold log_Sum_b2
  dsimp only
  by_cases h8 : y < 8
  · rw [if_pos (by rw [decide_eq_true_eq]; exact h8), chk_t (by decide), Option.bind_some]
    split
    · rw [chk_t (by decide), Option.bind_some, wadd_of (by omega) (by omega), ok_some, flok_nx]
      exact ⟨⟨xor_u16 _ _, by dsimp only; omega, by dsimp only; omega⟩, by dsimp only; omega⟩
    · rw [chk_t (by decide), Option.bind_some, wadd_of (by omega) (by omega), ok_some, flok_nx]
      exact ⟨⟨wrap_u16 _, by dsimp only; omega, by dsimp only; omega⟩, by dsimp only; omega⟩
  · rw [if_neg (by rw [decide_eq_true_eq]; exact h8), ok_some, flok_br]
    exact ⟨h1, h2⟩
/-- the sum over some bytes -/
def crc (s : Bs) : Int := (log_Sum_m s).getD 0
theorem sum_crc {s : Bs} (h : s.length ≤ 9223372036854775807) : log_Sum_m s = some (crc s) ∧ 0 ≤ crc s ∧ crc s < 65536 := by
  obtain ⟨v, e, hv⟩ := sum_ok s h
  have : crc s = v := by unfold crc; rw [e]; rfl
  rw [this]; exact ⟨e, hv⟩
def byt (n : Int) : UInt8 := UInt8.ofNat n.toNat
def head_ (r : Bs) : Bs := byt r.length :: r
def hi_ (r : Bs) : UInt8 := byt (crc (head_ r) / 256 % 256)
def lo_ (r : Bs) : UInt8 := byt (crc (head_ r) % 256)
/-- a record with its frame -/
def fr (r : Bs) : Bs := head_ r ++ [hi_ r, lo_ r]
theorem fr_len (r : Bs) : (fr r).length = r.length + 3 := by simp [fr, head_]
theorem fdiv_shift (v : Int) : Int.fdiv v (2 ^ (min (8 : Int).toNat (IntKind.bits .u16))) = v / 256 := by
  show Int.fdiv v 256 = v / 256
  rw [Int.fdiv_eq_ediv_of_nonneg _ (by decide)]
theorem byt_nat {n : Int} (h0 : 0 ≤ n) (h1 : n < 256) : ((byt n).toNat : Int) = n := by
  unfold byt
  rw [UInt8.toNat_ofNat', Nat.mod_eq_of_lt (by omega)]; omega
theorem frame_ok (r : Bs) : log_Frame_m r = some (if r.length ≤ 64 then (fr r, 0) else ([], 2)) := by
  unfold log_Frame_m
  by_cases h : r.length ≤ 64
  · rw [if_neg (by rw [decide_eq_true_eq]; omega), if_pos h]
    have e1 : bytesOf [IntKind.wrap .u8 (r.length : Int)] ++ r = head_ r := by
      show byt (IntKind.wrap .u8 (r.length : Int)) :: r = _
      rw [wrap_u8, Int.emod_eq_of_lt (by omega) (by omega)]; rfl
    have hl : (head_ r).length ≤ 9223372036854775807 := by simp [head_]; omega
    rw [e1, (sum_crc hl).1]
    have e2 : bytesOf [IntKind.wrap .u8 (Int.fdiv (crc (head_ r)) (2 ^ (min (8 : Int).toNat (IntKind.bits .u16)))), IntKind.wrap .u8 (crc (head_ r))] = [hi_ r, lo_ r] := by
      rw [fdiv_shift, wrap_u8, wrap_u8]; rfl
    rw [chk_t (by show 1 + r.length ≤ _; omega), Option.bind_some, Option.bind_some, chk_t (by decide), Option.bind_some, e2, chk_t (by simp [head_]; omega), Option.bind_some]
    rfl
  · rw [if_pos (by rw [decide_eq_true_eq]; omega), if_neg h]
/-- frames one behind the other -/
def cat : List Bs → Bs
  | [] => []
  | r :: l => fr r ++ cat l
theorem cat_append (l m : List Bs) : cat (l ++ m) = cat l ++ cat m := by
  induction l with
  | nil => rfl
  | cons r l ih => simp [cat, ih]
theorem cat_snoc (l : List Bs) (r : Bs) : cat (l ++ [r]) = cat l ++ fr r := by rw [cat_append]; simp [cat]
theorem cat_len (l : List Bs) : 3 * l.length ≤ (cat l).length := by
  induction l with
  | nil => simp [cat]
  | cons r l ih => simp only [cat, List.length_append, fr_len, List.length_cons]; omega
/-- so many of them are whole among the first bytes -/
def whole_ : List Bs → Nat → Nat
  | [], _ => 0
  | r :: l, k => if r.length + 3 ≤ k then whole_ l (k - (r.length + 3)) + 1 else 0
theorem whole_le : ∀ (l : List Bs) (k : Nat), whole_ l k ≤ l.length
  | [], _ => Nat.le_refl _
  | r :: l, k => by
    unfold whole_
    split
    · have := whole_le l (k - (r.length + 3)); simp only [List.length_cons]; omega
    · omega
theorem idx_mid {α : Type} [Inhabited α] {A B : List α} {j : Int} (h0 : 0 ≤ j) (h : j.toNat < B.length) : idx (A ++ B) ((A.length : Int) + j) = some (nth B j.toNat) := by
  rw [idx_at (by omega), List.getElem?_append_right (by omega), show ((A.length : Int) + j).toNat - A.length = j.toNat by omega, nth_at h]
theorem cut_mid {α : Type} {A B : List α} {a b : Nat} (hb : a ≤ b) : ((A ++ B).take (A.length + b)).drop (A.length + a) = (B.take b).drop a := by
  rw [List.take_append, List.take_of_length_le (by omega), show A.length + b - A.length = b by omega, List.drop_append, List.drop_of_length_le (by omega), show A.length + a - A.length = a by omega]; rfl
theorem wrap_i64 (b : UInt8) : IntKind.wrap .i64 (b.toNat : Int) = (b.toNat : Int) := by
  have := b.toNat_lt
  rw [IntKind.wrap_i64]; omega
/-- a whole record is told -/
theorem scan_step {A B : Bs} {r : Bs} (hr : r.length ≤ 64) (l2 : List Bs) (hl : (A ++ (fr r ++ B)).length ≤ 9223372036854775807) (h2 : l2.length < 68719476736) : log_Scan_b1 (A ++ (fr r ++ B)) (l2, (A.length : Int)) = some (.nx (l2 ++ [r], ((A.length + (r.length + 3) : Nat) : Int))) := by
  have hB : (fr r ++ B).length = r.length + 3 + B.length := by rw [List.length_append, fr_len]
  rw [List.length_append, hB] at hl
  have eb : fr r ++ B = byt r.length :: (r ++ ([hi_ r, lo_ r] ++ B)) := by simp [fr, head_]
  have hb0 : nth (fr r ++ B) 0 = byt r.length := by rw [eb]; rfl
  have hn : ((byt (r.length : Int)).toNat : Int) = r.length := byt_nat (by omega) (by omega)
  have hAl : ((A ++ (fr r ++ B)).length : Int) = A.length + (r.length + 3 + B.length) := by rw [List.length_append, hB]; omega
  have hc := sum_crc (s := head_ r) (by simp [head_]; omega)
  have g1 : nth (fr r ++ B) (r.length + 1) = hi_ r := by rw [eb, nth_cons_succ, nth_append, if_neg (by omega), Nat.sub_self]; rfl
  have g2 : nth (fr r ++ B) (r.length + 2) = lo_ r := by rw [eb, nth_cons_succ, nth_append, if_neg (by omega), show r.length + 1 - r.length = 1 by omega]; rfl
  have c1 : ((A ++ (fr r ++ B)).take (A.length + (r.length + 1))).drop (A.length + 0) = head_ r := by
    rw [cut_mid (by omega), eb]
    simp [head_]
  have c2 : ((A ++ (fr r ++ B)).take (A.length + (r.length + 1))).drop (A.length + 1) = r := by
    rw [cut_mid (by omega), eb]
    simp
  unfold log_Scan_b1
  dsimp only
  rw [if_pos (by rw [decide_eq_true_eq]; omega), show (A.length : Int) = (A.length : Int) + 0 by omega, idx_mid (by decide) (by rw [hB]; exact Nat.lt_of_lt_of_le (by decide : (0:Int).toNat < 1) (by omega)), Option.bind_some, show nth (fr r ++ B) (0 : Int).toNat = byt r.length from hb0, wrap_i64, hn, Int.add_zero]
  rw [if_neg (by rw [decide_eq_true_eq]; omega), wsub_of (by omega) (by omega), wadd_of (by omega : -9223372036854775808 ≤ (r.length : Int) + 3) (by omega), wadd_of (by omega : -9223372036854775808 ≤ (A.length : Int) + r.length) (by omega), wadd_of (by omega : -9223372036854775808 ≤ (A.length : Int) + r.length + 1) (by omega), wadd_of (by omega : -9223372036854775808 ≤ (A.length : Int) + r.length + 2) (by omega), wadd_of (by omega : -9223372036854775808 ≤ (A.length : Int) + 1) (by omega), wadd_of (by omega : -9223372036854775808 ≤ (A.length : Int) + 1 + r.length) (by omega), wadd_of (by omega : -9223372036854775808 ≤ (A.length : Int) + (r.length + 3)) (by omega)]
  rw [decide_eq_false (by omega)]
  simp only [bindF, Bool.false_eq_true, if_false]
  rw [chk_t (by omega), Option.bind_some, show ((A.length : Int) + r.length + 1).toNat = A.length + (r.length + 1) by omega, show (A.length : Int).toNat = A.length + 0 by omega, c1, hc.1, Option.bind_some]
  rw [show (A.length : Int) + r.length + 1 = (A.length : Int) + ((r.length + 1 : Nat) : Int) by omega, idx_mid (by omega) (by omega), Option.bind_some, chk_t (by decide), Option.bind_some, Int.toNat_natCast, g1, fdiv_shift, wrap_u8, wrap_u8]
  have d1 := Int.emod_nonneg (crc (head_ r) / 256) (b := 256) (by decide)
  have d2 := Int.emod_lt_of_pos (crc (head_ r) / 256) (b := 256) (by decide)
  have d3 := Int.emod_nonneg (crc (head_ r)) (b := 256) (by decide)
  have d4 := Int.emod_lt_of_pos (crc (head_ r)) (b := 256) (by decide)
  have k1 : ((hi_ r).toNat : Int) = crc (head_ r) / 256 % 256 := byt_nat d1 d2
  have k2 : ((lo_ r).toNat : Int) = crc (head_ r) % 256 := byt_nat d3 d4
  rw [k1, if_neg (by simp), show (A.length : Int) + r.length + 2 = (A.length : Int) + ((r.length + 2 : Nat) : Int) by omega, idx_mid (by omega) (by omega), Option.bind_some, Int.toNat_natCast, g2, k2]
  simp only [bne_self_eq_false, Bool.false_eq_true, if_false]
  rw [chk_t (by omega), Option.bind_some, chk_t (by simp; omega), Option.bind_some, show ((A.length : Int) + 1 + r.length).toNat = A.length + (r.length + 1) by omega, show ((A.length : Int) + 1).toNat = A.length + 1 by omega, c2]
  congr 3
/-- a piece of a record is not -/
theorem scan_stop {A : Bs} {r : Bs} (hr : r.length ≤ 64) (l2 : List Bs) {k : Nat} (hk : k < r.length + 3) (hl : A.length + k ≤ 9223372036854775807) : log_Scan_b1 (A ++ (fr r).take k) (l2, (A.length : Int)) = some (.br (l2, (A.length : Int))) := by
  have hT : ((fr r).take k).length = k := by rw [List.length_take, fr_len]; omega
  have hAl : ((A ++ (fr r).take k).length : Int) = A.length + k := by rw [List.length_append, hT]; omega
  unfold log_Scan_b1
  dsimp only
  by_cases h0 : k = 0
  · rw [if_neg (by rw [decide_eq_true_eq]; omega)]
  · have hn : ((byt (r.length : Int)).toNat : Int) = r.length := byt_nat (by omega) (by omega)
    rw [if_pos (by rw [decide_eq_true_eq]; omega), show (A.length : Int) = (A.length : Int) + 0 by omega, idx_mid (by decide) (by rw [hT]; exact Nat.pos_of_ne_zero h0), Option.bind_some, show nth ((fr r).take k) (0 : Int).toNat = byt r.length by rw [show (0 : Int).toNat = 0 from rfl, nth_take (by omega)]; rfl, wrap_i64, hn, Int.add_zero]
    rw [if_neg (by rw [decide_eq_true_eq]; omega), wsub_of (by omega) (by omega), wadd_of (by omega : -9223372036854775808 ≤ (r.length : Int) + 3) (by omega), decide_eq_true (by omega)]
    simp only [bindF, if_true]
theorem scan_loop : ∀ (l : List Bs) (k : Nat) (A : Bs) (l2 : List Bs) (f : Nat), (∀ r ∈ l, r.length ≤ 64) → k ≤ (cat l).length → A.length + k ≤ 9223372036854775807 → l2.length + l.length ≤ 68719476736 → l.length < f →
    loopM (γ := Unit) (log_Scan_b1 (A ++ (cat l).take k)) f (l2, (A.length : Int)) = some (.nx (l2 ++ l.take (whole_ l k), ((A.length + (cat (l.take (whole_ l k))).length : Nat) : Int)))
  | [], k, A, l2, f, hr, hk, hA, h2, hf => by
    obtain ⟨f, rfl⟩ : ∃ g, f = g + 1 := ⟨f - 1, by simp at hf; omega⟩
    unfold loopM
    have : log_Scan_b1 (A ++ (cat []).take k) (l2, (A.length : Int)) = some (.br (l2, (A.length : Int))) := by
      unfold log_Scan_b1
      dsimp only
      rw [if_neg (by rw [decide_eq_true_eq]; simp [cat])]
    rw [this]
    simp [cat, whole_]
  | r :: l, k, A, l2, f, hr, hk, hA, h2, hf => by
    obtain ⟨f, rfl⟩ : ∃ g, f = g + 1 := ⟨f - 1, by simp at hf; omega⟩
    have hrl := hr r (by simp)
    have hfl := fr_len r
    have hk' : k ≤ r.length + 3 + (cat l).length := by simpa [cat, fr_len] using hk
    have h2' : l2.length + (l.length + 1) ≤ 68719476736 := by simpa using h2
    have hf' : l.length < f := by simpa using hf
    unfold loopM
    by_cases hw : r.length + 3 ≤ k
    · have e1 : (cat (r :: l)).take k = fr r ++ (cat l).take (k - (r.length + 3)) := by
        rw [cat, List.take_append, List.take_of_length_le (by omega), fr_len]
      rw [e1, scan_step hrl l2 (by simp only [List.length_append, List.length_take]; omega) (by omega)]
      dsimp only
      have ih := scan_loop l (k - (r.length + 3)) (A ++ fr r) (l2 ++ [r]) f (fun x hx => hr x (by simp [hx])) (by omega) (by rw [List.length_append]; omega) (by simp; omega) hf'
      rw [List.length_append, fr_len, List.append_assoc] at ih
      rw [ih]
      have e2 : whole_ (r :: l) k = whole_ l (k - (r.length + 3)) + 1 := by rw [whole_, if_pos hw]
      rw [e2, List.take_succ_cons, cat, List.length_append, fr_len, Nat.add_assoc, List.append_assoc]; rfl
    · have e1 : (cat (r :: l)).take k = (fr r).take k := by
        rw [cat, List.take_append_of_le_length (by omega)]
      rw [e1, scan_stop hrl l2 (by omega) (by omega)]
      have e2 : whole_ (r :: l) k = 0 := by rw [whole_, if_neg hw]
      rw [e2]; simp [cat]
theorem scan_ok {l : List Bs} {k : Nat} (hr : ∀ r ∈ l, r.length ≤ 64) (hk : k ≤ (cat l).length) (hl : l.length < 4194304) : log_Scan_m ((cat l).take k) = some (l.take (whole_ l k), ((cat (l.take (whole_ l k))).length : Int)) := by
  have hc : ∀ l : List Bs, (∀ r ∈ l, r.length ≤ 64) → (cat l).length ≤ 67 * l.length := by
    intro l
    induction l with
    | nil => intro _; simp [cat]
    | cons r l ih =>
      intro h
      have := ih fun x hx => h x (by simp [hx])
      have := h r (by simp)
      simp only [cat, List.length_append, fr_len, List.length_cons]; omega
  have := hc l hr
  have hloop : ∀ f, l.length < f → loopM (γ := Unit) (log_Scan_b1 ((cat l).take k)) f ([], ((0 : Nat) : Int)) = some (.nx (l.take (whole_ l k), ((cat (l.take (whole_ l k))).length : Int))) := fun f hf => by
    have := scan_loop l k [] [] f hr hk (by simp only [List.length_nil]; omega) (by simp only [List.length_nil]; omega) hf
    rw [List.nil_append, List.length_nil, List.nil_append, Nat.zero_add] at this
    exact this
  unfold log_Scan_m
  rw [show (0 : Int) = ((0 : Nat) : Int) from rfl, hloop _ (by omega)]; rfl
theorem whole_all : ∀ (l : List Bs), whole_ l (cat l).length = l.length
  | [] => rfl
  | r :: l => by
    rw [whole_, cat, List.length_append, fr_len, if_pos (by omega), show r.length + 3 + (cat l).length - (r.length + 3) = (cat l).length by omega, whole_all l]; rfl
theorem equalS_ok (a b : List Bs) : slices_Equal_string_string_m a b = some (decide (a = b)) := by
  apply Ok.eq
  unfold slices_Equal_string_string_m
  by_cases hl : a.length = b.length
  · rw [if_neg (by rw [bne_iff_ne]; omega), ok_bindR]
    refine ok_rangeL (fun k _ => ∀ i, i < k → nth a i = nth b i) (fun i hi => by omega) (fun k x _ hk hI => ?_) fun _ h => ?_
    · obtain ⟨hx, hkl⟩ := nth_of hk
      unfold slices_Equal_string_string_b1
      rw [idx_nat, nth_at (by omega), Option.bind_some]
      by_cases e : x = nth b k
      · rw [if_neg (by simp [e]), ok_some, flok_nx]
        intro i hi
        by_cases h : i = k
        · subst h; rw [hx, e]
        · exact hI i (by omega)
      · rw [if_pos (by simp [e]), ok_some, flok_rt]
        symm; rw [decide_eq_false_iff_not]
        intro h; subst h; exact e hx.symm
    · rw [ok_some]; symm; rw [decide_eq_true_eq]
      exact nth_ext hl h
  · rw [if_pos (by rw [bne_iff_ne]; omega), ok_some]
    symm; rw [decide_eq_false_iff_not]
    intro h; exact hl (by rw [h])
theorem logs_t : pk_logs_m = some true := by decide +kernel
/-- a log that holds these records -/
theorem append_ok (l : List Bs) (safe : Int) (r : Bs) (hd : (cat l).length ≤ 4000) : log_Log_Append_m (cat l, safe) r = some (if r.length ≤ 64 then (if (cat l).length + (r.length + 3) ≤ 4000 then (0, (cat (l ++ [r]), safe)) else (8, (cat l, safe))) else (2, (cat l, safe))) := by
  unfold log_Log_Append_m
  rw [frame_ok, Option.bind_some]
  by_cases h : r.length ≤ 64
  · rw [if_pos h, if_pos h]
    dsimp only
    have hfl := fr_len r
    rw [if_neg (by decide), wadd_of (by omega) (by omega)]
    by_cases hb : (cat l).length + (r.length + 3) ≤ 4000
    · rw [if_neg (by rw [decide_eq_true_eq]; omega), if_pos hb, chk_t (by omega), Option.bind_some, cat_snoc]
    · rw [if_pos (by rw [decide_eq_true_eq]; omega), if_neg hb]
  · rw [if_neg h, if_neg h]; rfl
end Go.Pu
