/- The plain law: bits that are turned in a record, all within sixteen in a row, are told. -/
import Derived.Test.YtgdepioagnelkaaWLogTurnedModels
import Derived.Test.YtgdepioagnelkaaPuLogT
import Derived.Test.YtgdepioagnelkaaPuLogB
set_option linter.all false
namespace Go.Pu
open Go.Fw Go.Mo
theorem ofInt_nat (w a : Nat) : BitVec.ofInt w ((a : Nat) : Int) = BitVec.ofNat w a := by
  apply BitVec.eq_of_toNat_eq
  simp [BitVec.toNat_ofInt]
theorem bits_xor16 {a b : Nat} (ha : a < 65536) (hb : b < 65536) : bits .xor .u16 (a : Int) (b : Int) = ((a ^^^ b : Nat) : Int) := by
  have hx : a ^^^ b < 65536 := Nat.xor_lt_two_pow (n := 16) ha hb
  have e : bits .xor .u16 (a : Int) (b : Int) = IntKind.wrap .u16 ((BitVec.ofInt 16 (a : Int) ^^^ BitVec.ofInt 16 (b : Int)).toNat : Int) := rfl
  rw [e, ofInt_nat, ofInt_nat, BitVec.toNat_xor, BitVec.toNat_ofNat, BitVec.toNat_ofNat, Nat.mod_eq_of_lt ha, Nat.mod_eq_of_lt hb]
  show ((a ^^^ b : Nat) : Int) % 65536 = _
  omega
theorem bits_xor8 {a b : Nat} (ha : a < 256) (hb : b < 256) : bits .xor .u8 (a : Int) (b : Int) = ((a ^^^ b : Nat) : Int) := by
  have hx : a ^^^ b < 256 := Nat.xor_lt_two_pow (n := 8) ha hb
  have e : bits .xor .u8 (a : Int) (b : Int) = IntKind.wrap .u8 ((BitVec.ofInt 8 (a : Int) ^^^ BitVec.ofInt 8 (b : Int)).toNat : Int) := rfl
  rw [e, ofInt_nat, ofInt_nat, BitVec.toNat_xor, BitVec.toNat_ofNat, BitVec.toNat_ofNat, Nat.mod_eq_of_lt ha, Nat.mod_eq_of_lt hb]
  show ((a ^^^ b : Nat) : Int) % 256 = _
  omega
theorem bits_and1 {a : Nat} (ha : a < 65536) : bits .and .u16 (a : Int) (1 : Int) = ((a % 2 : Nat) : Int) := by
  have e : bits .and .u16 (a : Int) (1 : Int) = IntKind.wrap .u16 ((BitVec.ofInt 16 (a : Int) &&& BitVec.ofInt 16 ((1 : Nat) : Int)).toNat : Int) := rfl
  rw [e, ofInt_nat, ofInt_nat, BitVec.toNat_and, BitVec.toNat_ofNat, BitVec.toNat_ofNat, Nat.mod_eq_of_lt ha, Nat.mod_eq_of_lt (by decide : 1 < 2 ^ 16), Nat.and_one_is_mod]
  show ((a % 2 : Nat) : Int) % 65536 = _
  omega
/-! ### the sum is the register's -/
theorem b2_step {x : Nat} (hx : x < 65536) {k : Nat} (hk : k < 8) : log_Sum_b2 ((x : Int), (k : Int)) = some (.nx (((stp x : Nat) : Int), ((k + 1 : Nat) : Int))) := by
  unfold log_Sum_b2
  dsimp only
  rw [if_pos (by simp; omega), chk_t (by decide), Option.bind_some, wadd_of (by omega) (by omega)]
  have e1 : Int.fdiv (x : Int) (2 ^ (min (15 : Int).toNat (IntKind.bits .u16))) = ((x / 32768 : Nat) : Int) := by
    show Int.fdiv (x : Int) 32768 = _
    rw [Int.fdiv_eq_ediv_of_nonneg _ (by decide)]; omega
  have e2 : IntKind.wrap .u16 ((x : Int) * 2 ^ (min (1 : Int).toNat (IntKind.bits .u16))) = ((2 * x % 65536 : Nat) : Int) := by
    show ((x : Int) * 2) % 65536 = _
    omega
  rw [e1, e2]
  have h2 : 2 * x % 65536 < 65536 := Nat.mod_lt _ (by decide)
  unfold stp
  by_cases c : x < 32768
  · rw [if_neg (by simp; omega), chk_t (by decide), Option.bind_some, if_pos c, Nat.xor_zero]; rfl
  · have : x / 32768 = 1 := by omega
    rw [this, if_pos (by decide), chk_t (by decide), Option.bind_some, if_neg c, show (4129 : Int) = ((4129 : Nat) : Int) from rfl, bits_xor16 h2 (by decide)]; rfl
theorem b1_step {x c : Nat} (hx : x < 65536) (hc : c < 256) (i : Nat) : log_Sum_b1 i (c : Int) (x : Int) = some (.nx ((byte8 x c : Nat) : Int)) := by
  unfold log_Sum_b1
  have e : IntKind.wrap .u16 ((IntKind.wrap .u16 (c : Int)) * 2 ^ (min (8 : Int).toNat (IntKind.bits .u16))) = ((c * 256 : Nat) : Int) := by
    show ((c : Int) % 65536 * 256) % 65536 = _
    omega
  rw [chk_t (by decide), Option.bind_some, e, bits_xor16 hx (by omega)]
  have hy : x ^^^ c * 256 < 65536 := Nat.xor_lt_two_pow (n := 16) hx (by omega)
  obtain ⟨s, h1, h2⟩ := loopM_up (γ := Int) (body := log_Sum_b2) (fun k s => s = ((stk k (x ^^^ c * 256) : Nat) : Int)) 8 (fun k s hk hs => by
    subst hs
    exact ⟨_, b2_step (stk_lt k hy) hk, rfl⟩) (fun s hs => by unfold log_Sum_b2; rfl) 8 0 _ 1048576 rfl (by decide) rfl
  rw [show (0 : Int) = ((0 : Nat) : Int) from rfl]
  have h1' : loopM (γ := Int) log_Sum_b2 1048576 (((x ^^^ c * 256 : Nat) : Int), ((0 : Nat) : Int)) = some (.nx (s, ((8 : Nat) : Int))) := h1
  rw [h1', h2]
  rfl
def nats (s : Bs) : List Nat := s.map UInt8.toNat
theorem nats_lt (s : Bs) : ∀ c ∈ nats s, c < 256 := fun c hc => by
  obtain ⟨b, _, rfl⟩ := List.mem_map.1 hc
  exact b.toNat_lt
theorem reg_append (x : Nat) (l m : List Nat) : reg x (l ++ m) = reg (reg x l) m := by unfold reg; rw [List.foldl_append]
theorem crc_reg {s : Bs} (h : s.length ≤ 9223372036854775807) : log_Sum_m s = some ((reg 65535 (nats s) : Nat) : Int) := by
  unfold log_Sum_m
  rw [chk_t h, Option.bind_some]
  obtain ⟨v, h1, h2⟩ := rangeL_inv (γ := Unit) (body := log_Sum_b1) (fun i v => v = ((reg 65535 ((nats s).take i) : Nat) : Int)) (intsOf s) 0 65535 rfl (fun k x v hk hv => by
    rw [Nat.zero_add] at hv ⊢
    subst hv
    have hkl := (List.getElem?_eq_some_iff.1 hk).1
    simp only [intsOf, List.length_map] at hkl
    have hx : x = ((s[k].toNat : Nat) : Int) := by
      simp only [intsOf, List.getElem?_map, List.getElem?_eq_getElem hkl] at hk
      exact (Option.some.inj hk).symm
    subst hx
    refine ⟨_, b1_step (reg_lt _ (by decide) fun c hc => nats_lt s c (List.mem_of_mem_take hc)) s[k].toNat_lt _, ?_⟩
    have e : (nats s).take (k + 1) = (nats s).take k ++ [s[k].toNat] := by
      rw [List.take_succ]
      have : (nats s)[k]? = some s[k].toNat := by simp [nats, hkl]
      rw [this]; rfl
    rw [e, reg_append]; rfl)
  have e1 : rangeL (γ := Unit) log_Sum_b1 (intsOf s) 0 (65535 : Int) = some (.nx v) := h1
  rw [e1, h2]
  have : ((nats s).take (0 + (intsOf s).length)) = nats s := by
    rw [Nat.zero_add, List.take_of_length_le]
    simp [nats, intsOf]
  rw [this]; rfl
theorem reg_regs (e : Nat → Nat) : ∀ n, reg 0 ((List.range n).map e) = regs e n
  | 0 => rfl
  | n + 1 => by
    rw [List.range_succ, List.map_append, reg_append, reg_regs e n, regs_succ]; rfl
/-! ### bits turned, one by one -/
/-- the errors, of the first k bits from 'at' on -/
def Inv (at_ B k : Nat) (e : Nat → Nat) : Prop := ∀ i, e i < 256 ∧ ∀ b, b < 8 → (e i).testBit (7 - b) = (decide (at_ ≤ 8 * i + b ∧ 8 * i + b < at_ + k) && B.testBit (8 * i + b - at_))
theorem Inv.zero (at_ B : Nat) : Inv at_ B 0 (fun _ => 0) := fun i => ⟨show (0 : Nat) < 256 by decide, fun b hb => by
  rw [Nat.zero_testBit, decide_eq_false (by omega)]; rfl⟩
def flip (e : Nat → Nat) (p : Nat) : Nat → Nat := fun i => if i = p / 8 then e i ^^^ 2 ^ (7 - p % 8) else e i
theorem mask_lt (p : Nat) : 2 ^ (7 - p % 8) < 256 := by
  have : 2 ^ (7 - p % 8) ≤ 2 ^ 7 := Nat.pow_le_pow_right (by decide) (by omega)
  omega
theorem Inv.on {at_ B k : Nat} {e : Nat → Nat} (h : Inv at_ B k e) (hb : B.testBit k = true) : Inv at_ B (k + 1) (flip e (at_ + k)) := fun i => by
  have hp := Nat.div_add_mod (at_ + k) 8
  obtain ⟨h1, h2⟩ := h i
  have hm : (at_ + k) % 8 < 8 := Nat.mod_lt _ (by decide)
  unfold flip
  by_cases c : i = (at_ + k) / 8
  · rw [if_pos c]
    refine ⟨Nat.xor_lt_two_pow (n := 8) h1 (mask_lt _), fun b hb8 => ?_⟩
    rw [Nat.testBit_xor, h2 b hb8, Nat.testBit_two_pow]
    by_cases e1 : b = (at_ + k) % 8
    · rw [decide_eq_false (by omega), decide_eq_true (by omega), decide_eq_true (by omega), show 8 * i + b - at_ = k by omega, hb]; rfl
    · rw [decide_eq_false (p := 7 - (at_ + k) % 8 = 7 - b) (by omega), Bool.xor_false]
      congr 1
      rw [decide_eq_decide]; omega
  · rw [if_neg c]
    refine ⟨h1, fun b hb8 => ?_⟩
    rw [h2 b hb8]
    congr 1
    rw [decide_eq_decide]; omega
theorem Inv.off {at_ B k : Nat} {e : Nat → Nat} (h : Inv at_ B k e) (hb : B.testBit k = false) : Inv at_ B (k + 1) e := fun i => by
  obtain ⟨h1, h2⟩ := h i
  refine ⟨h1, fun b hb8 => ?_⟩
  rw [h2 b hb8]
  by_cases c : 8 * i + b = at_ + k
  · rw [show 8 * i + b - at_ = k by omega, hb, Bool.and_false, Bool.and_false]
  · congr 1
    rw [decide_eq_decide]; omega
theorem Inv.at_bit {at_ B k : Nat} {e : Nat → Nat} (h : Inv at_ B k e) (i j : Nat) : (e i).testBit j = (decide (j < 8) && (decide (at_ ≤ 8 * i + (7 - j) ∧ 8 * i + (7 - j) < at_ + k) && B.testBit (8 * i + (7 - j) - at_))) := by
  obtain ⟨h1, h2⟩ := h i
  by_cases c : j < 8
  · have := h2 (7 - j) (by omega)
    rw [show 7 - (7 - j) = j by omega] at this
    rw [this, decide_eq_true c]; rfl
  · rw [decide_eq_false c, Nat.testBit_lt_two_pow (Nat.lt_of_lt_of_le h1 (Nat.pow_le_pow_right (n := 2) (i := 8) (by decide) (by omega)))]; rfl
theorem Inv.none {at_ B k : Nat} {e : Nat → Nat} (h : Inv at_ B k e) {i : Nat} (hi : 8 * i + 7 < at_ ∨ at_ + k ≤ 8 * i) : e i = 0 := by
  apply Nat.eq_of_testBit_eq
  intro j
  rw [h.at_bit, Nat.zero_testBit]
  by_cases c : j < 8
  · rw [decide_eq_false (p := at_ ≤ 8 * i + (7 - j) ∧ 8 * i + (7 - j) < at_ + k) (by omega)]; simp
  · rw [decide_eq_false c]; rfl
/-- not one of them is told as right -/
theorem Inv.told {at_ B n : Nat} {e : Nat → Nat} (h : Inv at_ B 16 e) (hB : B < 65536) (hB0 : B ≠ 0) (hat : at_ ≤ 8 * n) : regs e n ≠ e n * 256 + e (n + 1) := by
  intro hv
  have hp := Nat.div_add_mod at_ 8
  have hm : at_ % 8 < 8 := Nat.mod_lt _ (by decide)
  have hz := burst (e := e) (n := n) (q := at_ / 8) (r := at_ % 8) (fun i => (h i).1) hm (by omega) (fun i hi => h.none (by omega)) (fun i hi => h.none (by omega))
    (Nat.lt_pow_two_of_testBit _ fun j hj => by
      rw [h.at_bit]
      by_cases c : j < 8
      · rw [decide_eq_false (p := at_ ≤ 8 * (at_ / 8) + (7 - j) ∧ 8 * (at_ / 8) + (7 - j) < at_ + 16) (by omega)]; simp
      · rw [decide_eq_false c]; rfl)
    (by
      apply Nat.eq_of_testBit_eq
      intro j
      rw [Nat.testBit_mod_two_pow, h.at_bit, Nat.zero_testBit]
      by_cases c : j < 8 - at_ % 8
      · rw [decide_eq_false (p := at_ ≤ 8 * (at_ / 8 + 2) + (7 - j) ∧ 8 * (at_ / 8 + 2) + (7 - j) < at_ + 16) (by omega)]; simp
      · rw [decide_eq_false c]; rfl)
    (h.none (by omega)) hv
  apply hB0
  apply Nat.eq_of_testBit_eq
  intro k
  rw [Nat.zero_testBit]
  by_cases c : k < 16
  · have hp := Nat.div_add_mod (at_ + k) 8
    have h1 := h.at_bit ((at_ + k) / 8) (7 - (at_ + k) % 8)
    rw [hz, Nat.zero_testBit, decide_eq_true (by omega), decide_eq_true (by omega), show 8 * ((at_ + k) / 8) + (7 - (7 - (at_ + k) % 8)) - at_ = k by omega] at h1
    simpa using h1.symm
  · exact Nat.testBit_lt_two_pow (Nat.lt_of_lt_of_le hB (Nat.pow_le_pow_right (n := 2) (i := 16) (by decide) (by omega)))
/-! ### the record with its bits turned -/
/-- byte i of a text -/
def nb (s : Bs) (i : Nat) : Nat := (nth s i).toNat
structure TurnI (F : Bs) (e : Nat → Nat) (s : List Int) : Prop where
  len : s.length = F.length
  zero : nth s 0 = ((nb F 0 : Nat) : Int)
  at_ : ∀ i, i + 1 < F.length → nth s (i + 1) = ((nb F (i + 1) ^^^ e i : Nat) : Int)
theorem nb_lt (F : Bs) (i : Nat) : nb F i < 256 := (nth F i).toNat_lt
theorem fdiv_mask : ∀ b, b < 8 → Int.fdiv (128 : Int) (2 ^ (min ((b : Nat) : Int).toNat (IntKind.bits .u8))) = ((2 ^ (7 - b) : Nat) : Int) := by decide +kernel
theorem turn_step {F : Bs} {at_ B k : Nat} {e : Nat → Nat} {s : List Int} (hF : 3 ≤ F.length ∧ F.length ≤ 67) (hat : at_ + 16 ≤ 8 * (F.length - 1)) (hB : B < 65536) (hk : k < 16) (h : Inv at_ B k e) (hs : TurnI F e s) :
    ∃ e' s', pk_LogTurned_b1 (B : Int) (at_ : Int) (s, (k : Int)) = some (.nx (s', ((k + 1 : Nat) : Int))) ∧ Inv at_ B (k + 1) e' ∧ TurnI F e' s' := by
  have hp := Nat.div_add_mod (at_ + k) 8
  have hm : (at_ + k) % 8 < 8 := Nat.mod_lt _ (by decide)
  have e1 : Int.fdiv (B : Int) (2 ^ (min ((k : Nat) : Int).toNat (IntKind.bits .u16))) = ((B / 2 ^ k : Nat) : Int) := by
    have : min ((k : Nat) : Int).toNat (IntKind.bits .u16) = k := by
      show min ((k : Nat) : Int).toNat 16 = k
      omega
    rw [this, Int.fdiv_eq_ediv_of_nonneg _ (Int.le_of_lt (Int.pow_pos (by decide)))]
    norm_cast
  have hlt : B / 2 ^ k < 65536 := Nat.lt_of_le_of_lt (Nat.div_le_self _ _) hB
  unfold pk_LogTurned_b1
  dsimp only
  rw [if_pos (by simp; omega), chk_t (by omega), Option.bind_some, e1, bits_and1 hlt, wadd_of (x := (k : Int)) (by omega) (by omega), wadd_of (x := (at_ : Int)) (by omega) (by omega)]
  by_cases hb : B.testBit k = true
  · have hb' : B / 2 ^ k % 2 = 1 := by rw [Nat.testBit_eq_decide_div_mod_eq] at hb; simpa using hb
    rw [hb', if_pos (by decide), chk_t (show (8 : Int) ≠ 0 by decide)]
    simp only [Option.bind_some]
    have hq : IntKind.wrap .i64 (Int.tdiv ((at_ : Int) + k) 8) = (((at_ + k) / 8 : Nat) : Int) := by
      rw [Int.tdiv_eq_ediv_of_nonneg (by omega), IntKind.wrap_i64]; omega
    have hr : Int.tmod ((at_ : Int) + k) 8 = (((at_ + k) % 8 : Nat) : Int) := by
      rw [Int.tmod_eq_emod_of_nonneg (by omega)]; omega
    have hx : wadd 1 (((at_ + k) / 8 : Nat) : Int) = (((at_ + k) / 8 + 1 : Nat) : Int) := by rw [wadd_of (by omega) (by omega)]; omega
    have hil : (at_ + k) / 8 + 1 < F.length := by omega
    rw [hq, hr, hx, idx_nat, nth_at (by rw [hs.len]; exact hil), chk_t (show 0 ≤ (((at_ + k) % 8 : Nat) : Int) by omega)]
    simp only [Option.bind_some]
    rw [fdiv_mask _ hm, hs.at_ _ hil, Int.toNat_natCast,
      bits_xor8 (Nat.xor_lt_two_pow (n := 8) (nb_lt _ _) (h _).1) (mask_lt _), Nat.xor_assoc]
    refine ⟨flip e (at_ + k), _, rfl, h.on hb, by rw [List.length_set]; exact hs.len, ?_, fun i hi => ?_⟩
    · rw [nth_set (by rw [hs.len]; exact hil), if_neg (by omega)]; exact hs.zero
    · rw [nth_set (by rw [hs.len]; exact hil)]
      unfold flip
      by_cases c : i = (at_ + k) / 8
      · subst c; rw [if_pos rfl, if_pos rfl]
      · rw [if_neg (by omega), if_neg c]; exact hs.at_ i hi
  · have hb' : B / 2 ^ k % 2 = 0 := by
      rw [Nat.testBit_eq_decide_div_mod_eq] at hb
      have : ¬ B / 2 ^ k % 2 = 1 := by simpa using hb
      omega
    rw [hb', if_neg (by decide)]
    exact ⟨e, s, rfl, h.off (by simpa using hb), hs⟩
theorem turn_ok {F : Bs} {at_ B : Nat} (hF : 3 ≤ F.length ∧ F.length ≤ 67) (hat : at_ + 16 ≤ 8 * (F.length - 1)) (hB : B < 65536) :
    ∃ e s, loopM (γ := Unit) (pk_LogTurned_b1 (B : Int) (at_ : Int)) 1048576 (intsOf F, (0 : Int)) = some (.nx (s, (16 : Int))) ∧ Inv at_ B 16 e ∧ TurnI F e s := by
  obtain ⟨s, h1, e, h2, h3⟩ := loopM_up (γ := Unit) (body := pk_LogTurned_b1 (B : Int) (at_ : Int)) (fun k s => ∃ e, Inv at_ B k e ∧ TurnI F e s) 16 (fun k s hk ⟨e, h, hs⟩ => by
    obtain ⟨e', s', h1, h2, h3⟩ := turn_step hF hat hB hk h hs
    exact ⟨s', h1, e', h2, h3⟩) (fun s _ => by unfold pk_LogTurned_b1; rfl) 16 0 (intsOf F) 1048576 rfl (by decide) ⟨_, Inv.zero at_ B, by simp [intsOf], by
      unfold nb intsOf; rw [nth_map (by omega)], fun i hi => by
      unfold nb intsOf; rw [nth_map hi, Nat.xor_zero]⟩
  exact ⟨e, s, h1, h2, h3⟩
theorem nth_nats {s : Bs} {i : Nat} (h : i < s.length) : nth (nats s) i = nb s i := by unfold nats nb; rw [nth_map h]
theorem bytes_nb {F : Bs} {e : Nat → Nat} {s : List Int} (he : ∀ i, e i < 256) (h : TurnI F e s) : (bytesOf s).length = F.length ∧ (0 < F.length → nth (bytesOf s) 0 = nth F 0) ∧ ∀ i, i + 1 < F.length → nb (bytesOf s) (i + 1) = nb F (i + 1) ^^^ e i := by
  have hl : (bytesOf s).length = F.length := by simp [bytesOf, h.len]
  refine ⟨hl, fun h0 => ?_, fun i hi => ?_⟩
  · unfold bytesOf
    rw [nth_map (by rw [h.len]; exact h0), h.zero, Int.toNat_natCast]
    unfold nb
    exact UInt8.ofNat_toNat
  · unfold nb bytesOf
    rw [nth_map (by rw [h.len]; exact hi), h.at_ i hi, Int.toNat_natCast, UInt8.toNat_ofNat', Nat.mod_eq_of_lt]
    · rfl
    · exact Nat.xor_lt_two_pow (n := 8) (nb_lt _ _) (he i)
theorem word_diff {a b c d : Nat} (hb : b < 256) (hd : d < 256) (hbd : b ^^^ d < 256) : (a * 256 + b) ^^^ (c * 256 + d) = (a ^^^ c) * 256 + (b ^^^ d) := by
  rw [← word_xor hb, ← word_xor hd, ← word_xor hbd]
  have e : (a ^^^ c) * 256 = (a * 256) ^^^ (c * 256) := by
    have := Nat.shiftLeft_xor_distrib (a := a) (b := c) (i := 8)
    simpa [Nat.shiftLeft_eq] using this
  rw [e, Nat.xor_assoc, ← Nat.xor_assoc (a * 256) d, Nat.xor_comm (a * 256) d, Nat.xor_assoc, Nat.xor_assoc]
/-- what is said of a record that is right: its sum stands behind it -/
theorem fr_sum (r : Bs) (hr : r.length ≤ 64) : reg 65535 (nats (head_ r)) = nb (fr r) (r.length + 1) * 256 + nb (fr r) (r.length + 2) := by
  have hl : (head_ r).length ≤ 9223372036854775807 := by simp [head_]; omega
  have h1 := crc_reg hl
  obtain ⟨h2, h3, h4⟩ := sum_crc hl
  rw [h2] at h1
  have h5 : crc (head_ r) = ((reg 65535 (nats (head_ r)) : Nat) : Int) := Option.some.inj h1
  have g1 : nb (fr r) (r.length + 1) = (hi_ r).toNat := by
    unfold nb fr
    rw [nth_append, if_neg (by simp [head_]), show r.length + 1 - (head_ r).length = 0 by simp [head_]]; rfl
  have g2 : nb (fr r) (r.length + 2) = (lo_ r).toNat := by
    unfold nb fr
    rw [nth_append, if_neg (by simp [head_]), show r.length + 2 - (head_ r).length = 1 by simp [head_]]; rfl
  have d1 : ((hi_ r).toNat : Int) = crc (head_ r) / 256 % 256 := byt_nat (Int.emod_nonneg _ (by decide)) (Int.emod_lt_of_pos _ (by decide))
  have d2 : ((lo_ r).toNat : Int) = crc (head_ r) % 256 := byt_nat (Int.emod_nonneg _ (by decide)) (Int.emod_lt_of_pos _ (by decide))
  rw [g1, g2]
  rw [h5] at d1 d2 h4
  omega
theorem fr_tail (r : Bs) (h : r.length ≤ 64) : (fr r).take (r.length + 1) = head_ r := by
  unfold fr
  rw [List.take_append_of_le_length (by simp [head_]), List.take_of_length_le (by simp [head_])]
/-- the turned record's sum isn't what stands behind it -/
theorem turned_sum {r : Bs} (hr : r.length ≤ 64) {b : Bs} {e : Nat → Nat} (hl : b.length = (fr r).length) (h0 : nth b 0 = nth (fr r) 0) (hb : ∀ i, i + 1 < (fr r).length → nb b (i + 1) = nb (fr r) (i + 1) ^^^ e i) (he : ∀ i, e i < 256)
    (ht : regs e r.length ≠ e r.length * 256 + e (r.length + 1)) : reg 65535 (nats (b.take (r.length + 1))) ≠ nb b (r.length + 1) * 256 + nb b (r.length + 2) := by
  intro hv
  have hfl := fr_len r
  apply ht
  have hF := fr_sum r hr
  rw [← fr_tail r hr] at hF
  -- both begin alike
  have split : ∀ s : Bs, s.length = r.length + 3 → nats (s.take (r.length + 1)) = nb s 0 :: (List.range r.length).map fun i => nb s (i + 1) := by
    intro s hs
    apply nth_ext
    · simp [nats]; omega
    · intro k hk
      have hk' : k < r.length + 1 := by simp [nats] at hk; omega
      rw [nth_nats (by rw [List.length_take]; omega)]
      unfold nb
      rw [nth_take hk']
      cases k with
      | zero => rfl
      | succ k => rw [nth_cons_succ, nth_map (by simp; omega)]; congr 2; rw [nth_get (by simp; omega)]; simp
  rw [split b (by omega)] at hv
  rw [split (fr r) hfl] at hF
  have hx0 : byte8 65535 (nb (fr r) 0) < 65536 := byte8_lt (by decide) (nb_lt _ _)
  have hn0 : nb b 0 = nb (fr r) 0 := by unfold nb; rw [h0]
  rw [hn0] at hv
  have hd := reg_diff ((List.range r.length).map fun i => nb (fr r) (i + 1)) ((List.range r.length).map fun i => nb b (i + 1)) ((List.range r.length).map e) (byte8 65535 (nb (fr r) 0)) (byte8 65535 (nb (fr r) 0)) hx0 hx0 (by simp) (by simp)
    (fun c hc => by obtain ⟨i, _, rfl⟩ := List.mem_map.1 hc; exact nb_lt _ _) (fun c hc => by obtain ⟨i, _, rfl⟩ := List.mem_map.1 hc; exact nb_lt _ _) (fun i hi => by
      have hi' : i < r.length := by simpa using hi
      have hn : nth (List.range r.length) i = i := by rw [nth_get (by simpa using hi')]; simp
      rw [nth_map (by simpa using hi'), nth_map (by simpa using hi'), nth_map (by simpa using hi'), hn, hb i (by omega), ← Nat.xor_assoc, Nat.xor_self, Nat.zero_xor])
  rw [Nat.xor_self, reg_regs] at hd
  have u1 : reg (byte8 65535 (nb (fr r) 0)) ((List.range r.length).map fun i => nb (fr r) (i + 1)) = nb (fr r) (r.length + 1) * 256 + nb (fr r) (r.length + 2) := hF
  have u2 : reg (byte8 65535 (nb (fr r) 0)) ((List.range r.length).map fun i => nb b (i + 1)) = nb b (r.length + 1) * 256 + nb b (r.length + 2) := hv
  rw [u1, u2, hb r.length (by omega), hb (r.length + 1) (by omega)] at hd
  rw [← hd]
  have k1 : nb (fr r) (r.length + 2) ^^^ (nb (fr r) (r.length + 1 + 1) ^^^ e (r.length + 1)) = e (r.length + 1) := by
    rw [← Nat.xor_assoc, Nat.xor_self, Nat.zero_xor]
  have k2 : nb (fr r) (r.length + 1) ^^^ (nb (fr r) (r.length + 1) ^^^ e r.length) = e r.length := by
    rw [← Nat.xor_assoc, Nat.xor_self, Nat.zero_xor]
  rw [word_diff (nb_lt _ _) (Nat.xor_lt_two_pow (n := 8) (nb_lt _ _) (he _)) (by rw [k1]; exact he _), k1, k2]
/-- so it isn't told -/
theorem scan_none {b : Bs} {n : Nat} (hn : n ≤ 64) (hl : b.length = n + 3) (h0 : nb b 0 = n) (ht : reg 65535 (nats (b.take (n + 1))) ≠ nb b (n + 1) * 256 + nb b (n + 2)) : log_Scan_m b = some ([], 0) := by
  have hi0 : idx b (0 : Int) = some (nth b 0) := by
    have := nth_at (l := b) (k := 0) (by omega)
    exact this
  have key : log_Scan_b1 b ([], (0 : Int)) = some (.br ([], (0 : Int))) := by
    unfold log_Scan_b1
    dsimp only
    have hc := crc_reg (s := b.take (n + 1)) (by rw [List.length_take]; omega)
    have hlt := reg_lt (nats (b.take (n + 1))) (x := 65535) (by decide) (nats_lt _)
    generalize reg 65535 (nats (b.take (n + 1))) = R at *
    have h0' : ((nth b 0).toNat : Int) = n := by
      have : (nth b 0).toNat = n := h0
      omega
    rw [if_pos (by rw [decide_eq_true_eq]; omega), hi0, Option.bind_some, wrap_i64, h0', if_neg (by rw [decide_eq_true_eq]; omega), wsub_of (by omega) (by omega), wadd_of (x := (n : Int)) (y := 3) (by omega) (by omega), wadd_of (x := (0 : Int)) (y := (n : Int)) (by omega) (by omega), wadd_of (x := (0 : Int) + n) (y := 1) (by omega) (by omega), wadd_of (x := (0 : Int) + n) (y := 2) (by omega) (by omega), decide_eq_false (by omega)]
    simp only [bindF, Bool.false_eq_true, if_false]
    rw [chk_t (by omega), Option.bind_some, show ((0 : Int) + n + 1).toNat = n + 1 by omega, Int.toNat_zero, List.drop_zero, hc, Option.bind_some, show (0 : Int) + n + 1 = ((n + 1 : Nat) : Int) by omega, idx_nat, nth_at (by omega), Option.bind_some, chk_t (by decide), Option.bind_some, fdiv_shift, wrap_u8, wrap_u8]
    by_cases c1 : ((nth b (n + 1)).toNat : Int) = (R : Int) / 256 % 256
    · rw [c1, if_neg (by simp), show (0 : Int) + n + 2 = ((n + 2 : Nat) : Int) by omega, idx_nat, nth_at (by omega), Option.bind_some]
      have c2 : ((nth b (n + 2)).toNat : Int) ≠ (R : Int) % 256 := fun c2 => by
        apply ht
        unfold nb
        omega
      have : (((nth b (n + 2)).toNat : Int) != (R : Int) % 256) = true := by simpa using c2
      rw [this]; rfl
    · rw [if_pos (by simpa using c1)]; rfl
  unfold log_Scan_m loopM
  rw [key]; rfl
theorem LogTurned (x0 : Bs) {P : Prop} (_ : P) (x1 : Int) (_ : (Lit.int .i64 x1).wf = true) (x2 : Int) (h2 : (Lit.int .u16 x2).wf = true) : pk_LogTurned_m x0 x1 x2 = some true := by
  have hx2 : 0 ≤ x2 ∧ x2 < 65536 := by
    have hmin : IntKind.u16.min = 0 := by decide
    have hmax : IntKind.u16.max = 65535 := by decide
    have := h2
    simp [Lit.wf, IntKind.wrap, hmin, hmax] at this
    omega
  unfold pk_LogTurned_m
  have hm : (if (64 : Int) < (x0.length : Int) then (64 : Int) else (x0.length : Int)) = ((min 64 x0.length : Nat) : Int) := by omega
  rw [logs_t, Option.bind_some, if_neg (by decide), hm, chk_t (by omega), Option.bind_some, Int.toNat_natCast, List.drop_zero]
  generalize hr0 : x0.take (min 64 x0.length) = r
  have hr : r.length ≤ 64 := by rw [← hr0, List.length_take]; omega
  have hfl := fr_len r
  rw [frame_ok, if_pos hr, Option.bind_some]
  dsimp only
  rw [if_neg (by decide), wadd_of (by omega) (by omega)]
  simp only [bindR]
  have hz : (((fr r).length : Int) != (r.length : Int) + 3) = false := by
    rw [bne_eq_false_iff_eq]; omega
  rw [hz]
  simp only [Bool.false_eq_true, if_false]
  by_cases hb : x2 = 0
  · rw [if_pos (by simpa using hb)]
    have hs := scan_ok (l := [r]) (k := (cat [r]).length) (by simpa using hr) (Nat.le_refl _) (by simp)
    rw [whole_all, List.take_length, List.take_length, show cat [r] = fr r by simp [cat]] at hs
    rw [hs, Option.bind_some]
    simp only [beq_self_eq_true, if_true, equalS_ok, Option.bind_some, decide_true]
  · rw [if_neg (by simpa using hb), chk_t (by omega), Option.bind_some]
    have hil : (intsOf (fr r)).length = r.length + 3 := by simp [intsOf, hfl]
    rw [hil, wsub_of (x := ((r.length + 3 : Nat) : Int)) (y := 1) (by omega) (by omega), wmul_of (by omega) (by omega), wsub_of (by omega) (by omega), within_big x1 _ (by omega) (by omega), Option.bind_some]
    have a0 := Int.emod_nonneg x1 (b := 8 * (((r.length + 3 : Nat) : Int) - 1) - 15) (by omega)
    have a1 := Int.emod_lt_of_pos x1 (b := 8 * (((r.length + 3 : Nat) : Int) - 1) - 15) (by omega)
    generalize x1 % (8 * (((r.length + 3 : Nat) : Int) - 1) - 15) = A at a0 a1
    obtain ⟨at_, rfl⟩ : ∃ a : Nat, A = (a : Int) := ⟨A.toNat, by omega⟩
    obtain ⟨B, rfl⟩ : ∃ B : Nat, x2 = (B : Int) := ⟨x2.toNat, by omega⟩
    obtain ⟨e, s, h1, hi, ht⟩ := turn_ok (F := fr r) (at_ := at_) (B := B) (by omega) (by omega) (by omega)
    rw [h1]
    simp only
    obtain ⟨q1, q2, q3⟩ := bytes_nb (fun i => (hi i).1) ht
    have q2' := q2 (by omega)
    have hsum := turned_sum hr q1 q2' q3 (fun i => (hi i).1) (hi.told (by omega) (by omega) (by omega))
    have hn0 : nb (bytesOf s) 0 = r.length := by
      unfold nb
      rw [q2']
      have : nth (fr r) 0 = byt r.length := rfl
      rw [this]
      have := byt_nat (n := (r.length : Int)) (by omega) (by omega)
      omega
    rw [scan_none hr (by omega) hn0 hsum, Option.bind_some]
    rfl
end Go.Pu
