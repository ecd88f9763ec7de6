/- The sum of bytes, bit by bit; what sixteen bits in a row, turned, make of it. -/
import Derived.Test.YtgdepioagnelkaaWLogTurnedModels
import Derived.Test.YtgdepioagnelkaaPuLog
set_option linter.all false
namespace Go.Pu
open Go.Fw Go.Mo
/-! ### the register -/
def stp (x : Nat) : Nat := (2 * x) % 65536 ^^^ (if x < 32768 then 0 else 4129)
def stk : Nat → Nat → Nat
  | 0, x => x
  | k + 1, x => stp (stk k x)
theorem stp_lt (x : Nat) : stp x < 65536 := by
  unfold stp
  refine Nat.xor_lt_two_pow (n := 16) (Nat.mod_lt _ (by decide)) ?_
  split <;> decide
theorem stk_lt : ∀ k {x : Nat}, x < 65536 → stk k x < 65536
  | 0, _, h => h
  | k + 1, _, _ => stp_lt _
theorem top_bit {x : Nat} (h : x < 65536) : (if x < 32768 then 0 else 4129) = if x.testBit 15 then 4129 else 0 := by
  rw [Nat.testBit_eq_decide_div_mod_eq]
  by_cases c : x < 32768
  · rw [if_pos c, if_neg (by simp; omega)]
  · rw [if_neg c, if_pos (by simp; omega)]
theorem stp_xor {a b : Nat} (ha : a < 65536) (hb : b < 65536) : stp (a ^^^ b) = stp a ^^^ stp b := by
  have hx : a ^^^ b < 65536 := Nat.xor_lt_two_pow (n := 16) ha hb
  unfold stp
  rw [top_bit ha, top_bit hb, top_bit hx, Nat.testBit_xor]
  have e : 2 * (a ^^^ b) % 65536 = (2 * a % 65536) ^^^ (2 * b % 65536) := by
    have h1 : 2 * (a ^^^ b) = (2 * a) ^^^ (2 * b) := by
      have := Nat.shiftLeft_xor_distrib (a := a) (b := b) (i := 1)
      simpa [Nat.shiftLeft_eq, Nat.mul_comm] using this
    rw [h1]
    exact Nat.xor_mod_two_pow (n := 16)
  rw [e]
  generalize 2 * a % 65536 = p
  generalize 2 * b % 65536 = q
  cases a.testBit 15 <;> cases b.testBit 15 <;> simp
  · rw [Nat.xor_assoc]
  · rw [Nat.xor_assoc, Nat.xor_assoc, Nat.xor_comm q 4129]
  · have : ∀ z : Nat, p ^^^ z ^^^ (q ^^^ z) = p ^^^ q := fun z => by
      rw [Nat.xor_assoc, ← Nat.xor_assoc z q z, Nat.xor_comm z q, Nat.xor_assoc q z z, Nat.xor_self, Nat.xor_zero]
    rw [this]
theorem stk_xor : ∀ k {a b : Nat}, a < 65536 → b < 65536 → stk k (a ^^^ b) = stk k a ^^^ stk k b
  | 0, _, _, _, _ => rfl
  | k + 1, a, b, ha, hb => by
    unfold stk
    rw [stk_xor k ha hb, stp_xor (stk_lt k ha) (stk_lt k hb)]
/-- what comes out even was small -/
theorem stp_even {x : Nat} (hx : x < 65536) (h : stp x % 2 = 0) : x < 32768 ∧ stp x = 2 * x := by
  by_cases c : x < 32768
  · refine ⟨c, ?_⟩
    unfold stp; rw [if_pos c, Nat.xor_zero, Nat.mod_eq_of_lt (by omega)]
  · exfalso
    have h1 : stp x % 2 = 1 := by
      unfold stp
      rw [if_neg c, Nat.xor_mod_two_eq_one]
      omega
    omega
theorem stk_back : ∀ (k : Nat) {x : Nat}, x < 65536 → stk k x % 2 ^ k = 0 → stk k x = x * 2 ^ k ∧ x * 2 ^ k < 65536
  | 0, x, hx, _ => by simp [stk, hx]
  | k + 1, x, hx, h => by
    have hy := stk_lt k hx
    have e : stk (k + 1) x = stp (stk k x) := rfl
    rw [e] at h ⊢
    have h2 : stp (stk k x) % 2 = 0 := by
      have : (2 : Nat) ∣ 2 ^ (k + 1) := ⟨2 ^ k, by rw [Nat.pow_succ, Nat.mul_comm]⟩
      exact Nat.mod_eq_zero_of_dvd (Nat.dvd_trans this (Nat.dvd_of_mod_eq_zero h))
    obtain ⟨c, e2⟩ := stp_even hy h2
    rw [e2] at h ⊢
    have h3 : stk k x % 2 ^ k = 0 := by
      have := Nat.dvd_of_mod_eq_zero h
      rw [Nat.pow_succ, Nat.mul_comm] at this
      exact Nat.mod_eq_zero_of_dvd (Nat.dvd_of_mul_dvd_mul_left (by decide) this)
    obtain ⟨e3, e4⟩ := stk_back k hx h3
    rw [e3, Nat.pow_succ, ← Nat.mul_assoc x]
    rw [e3] at c
    generalize x * 2 ^ k = m at *
    omega
/-- a byte more -/
def byte8 (x c : Nat) : Nat := stk 8 (x ^^^ (c * 256))
theorem byte8_lt {x c : Nat} (hx : x < 65536) (hc : c < 256) : byte8 x c < 65536 := stk_lt 8 (Nat.xor_lt_two_pow (n := 16) hx (by omega))
theorem byte8_xor {x y c d : Nat} (hx : x < 65536) (hy : y < 65536) (hc : c < 256) (hd : d < 256) : byte8 x c ^^^ byte8 y d = byte8 (x ^^^ y) (c ^^^ d) := by
  unfold byte8
  have h1 : x ^^^ c * 256 < 65536 := Nat.xor_lt_two_pow (n := 16) hx (by omega)
  have h2 : y ^^^ d * 256 < 65536 := Nat.xor_lt_two_pow (n := 16) hy (by omega)
  rw [← stk_xor 8 h1 h2]
  have e : (c ^^^ d) * 256 = (c * 256) ^^^ (d * 256) := by
    have := Nat.shiftLeft_xor_distrib (a := c) (b := d) (i := 8)
    simpa [Nat.shiftLeft_eq] using this
  rw [e]
  congr 1
  rw [Nat.xor_assoc, ← Nat.xor_assoc (c * 256), Nat.xor_comm (c * 256) y, Nat.xor_assoc, Nat.xor_assoc]
def reg (x : Nat) (l : List Nat) : Nat := l.foldl byte8 x
theorem reg_lt : ∀ (l : List Nat) {x : Nat}, x < 65536 → (∀ c ∈ l, c < 256) → reg x l < 65536
  | [], _, h, _ => h
  | c :: l, x, h, hl => reg_lt l (byte8_lt h (hl c (by simp))) fun d hd => hl d (by simp [hd])
/-! ### sixteen bits in a row -/
/-- the difference of two registers -/
theorem reg_diff : ∀ (l m e : List Nat) (x y : Nat), x < 65536 → y < 65536 → l.length = m.length → e.length = l.length → (∀ c ∈ l, c < 256) → (∀ c ∈ m, c < 256) → (∀ i, i < l.length → nth l i ^^^ nth m i = nth e i) → reg x l ^^^ reg y m = reg (x ^^^ y) e
  | [], [], [], x, y, _, _, _, _, _, _, _ => rfl
  | c :: l, d :: m, z :: e, x, y, hx, hy, h1, h2, hl, hm, he => by
    have hc := hl c (by simp)
    have hd := hm d (by simp)
    have h0 : c ^^^ d = z := he 0 (by simp)
    have := reg_diff l m e (byte8 x c) (byte8 y d) (byte8_lt hx hc) (byte8_lt hy hd) (by simpa using h1) (by simpa using h2) (fun c hc => hl c (by simp [hc])) (fun c hc => hm c (by simp [hc])) (fun i hi => he (i + 1) (by simpa using hi))
    rw [byte8_xor hx hy hc hd, h0] at this
    exact this
  | [], _ :: _, _, _, _, _, _, h, _, _, _, _ => by simp at h
  | _ :: _, [], _, _, _, _, _, h, _, _, _, _ => by simp at h
  | _ :: _, _ :: _, [], _, _, _, _, _, h, _, _, _ => by simp at h
  | [], [], _ :: _, _, _, _, _, _, h, _, _, _ => by simp at h
def regs (e : Nat → Nat) : Nat → Nat
  | 0 => 0
  | i + 1 => byte8 (regs e i) (e i)
theorem regs_succ (e : Nat → Nat) (i : Nat) : regs e (i + 1) = byte8 (regs e i) (e i) := by rw [regs]
theorem regs_lt {e : Nat → Nat} (he : ∀ i, e i < 256) : ∀ i, regs e i < 65536
  | 0 => show (0 : Nat) < 65536 by decide
  | i + 1 => byte8_lt (regs_lt he i) (he i)
theorem word_xor {a b : Nat} (hb : b < 256) : b ^^^ a * 256 = a * 256 + b := by
  have hb' : b < 2 ^ 8 := by rw [show (2 : Nat) ^ 8 = 256 by decide]; exact hb
  have e1 : a * 256 = 2 ^ 8 * a := by rw [show (2 : Nat) ^ 8 = 256 by decide, Nat.mul_comm]
  apply Nat.eq_of_testBit_eq
  intro j
  rw [e1, Nat.testBit_two_pow_mul_add a hb' j, Nat.testBit_xor, Nat.testBit_two_pow_mul]
  by_cases hj : j < 8
  · rw [if_pos hj, decide_eq_false (by omega)]; simp
  · rw [if_neg hj, decide_eq_true (by omega), Nat.testBit_lt_two_pow (Nat.lt_of_lt_of_le hb' (Nat.pow_le_pow_right (by decide) (by omega)))]; simp
theorem pow8 : (2 : Nat) ^ 8 = 256 := by decide
theorem mod8 (m : Nat) : m * 256 % 2 ^ 8 = 0 := by rw [pow8]; exact Nat.mul_mod_left _ _
theorem byte8_zero : byte8 0 0 = 0 := by decide
theorem last8 : ∀ r, r < 8 → ∀ c, c < 256 → c < 2 ^ (8 - r) → byte8 0 c % 2 ^ (8 - r) = 0 → c = 0 := by decide +kernel
/-- where the errors lie within sixteen bits in a row, and nobody is told, there are none -/
theorem burst {e : Nat → Nat} {n q r : Nat} (he : ∀ i, e i < 256) (hr : r < 8) (hq : q ≤ n) (h0 : ∀ i, i < q → e i = 0) (h3 : ∀ i, q + 3 ≤ i → e i = 0) (h1 : e q < 2 ^ (8 - r)) (h2 : e (q + 2) % 2 ^ (8 - r) = 0) (hn : e (n + 2) = 0) (hv : regs e n = e n * 256 + e (n + 1)) : ∀ i, e i = 0 := by
  have z0 : ∀ i, i ≤ q → regs e i = 0 := by
    intro i
    induction i with
    | zero => intro _; rfl
    | succ i ih => intro hi; show byte8 _ _ = 0; rw [ih (by omega), h0 i (by omega), byte8_zero]
  have back : ∀ d i, i + d = n → q + 1 ≤ i → regs e i = e i * 256 + e (i + 1) := by
    intro d
    induction d with
    | zero => intro i hi _; have : i = n := by omega
              subst this; exact hv
    | succ d ih =>
      intro i hi hqi
      have h := ih (i + 1) (by omega) (by omega)
      have hz : e (i + 2) = 0 := h3 _ (by omega)
      rw [show i + 1 + 1 = i + 2 by omega, hz] at h
      replace h := h.trans (Nat.add_zero (e (i + 1) * 256))
      have hx := regs_lt he i
      have hci := he i
      have hlt : regs e i ^^^ e i * 256 < 65536 := Nat.xor_lt_two_pow (n := 16) hx (by omega)
      rw [regs_succ e i] at h
      have h' := h
      unfold byte8 at h'
      have hz8 := mod8 (e (i + 1))
      rw [← h'] at hz8
      obtain ⟨h4, _⟩ := stk_back 8 hlt hz8
      rw [h'] at h4
      have h5 : regs e i ^^^ e i * 256 = e (i + 1) := by omega
      have h6 : regs e i = e (i + 1) ^^^ e i * 256 := by
        rw [← h5, Nat.xor_assoc, Nat.xor_self, Nat.xor_zero]
      rw [h6]
      have hx2 := word_xor (a := e i) (he (i + 1))
      exact hx2
  have fin : e q = 0 ∧ e (q + 1) = 0 ∧ e (q + 2) = 0 := by
    have hp : (2 : Nat) ^ (8 - r) ∣ 256 := by
      rw [show (256 : Nat) = 2 ^ 8 by decide]; exact Nat.pow_dvd_pow 2 (by omega)
    by_cases c : q = n
    · subst c
      rw [z0 q (Nat.le_refl _)] at hv
      exact ⟨by omega, by omega, hn⟩
    · have h := back (n - (q + 1)) (q + 1) (by omega) (Nat.le_refl _)
      rw [show q + 1 + 1 = q + 2 by omega] at h
      have h' : byte8 0 (e q) = e (q + 1) * 256 + e (q + 2) := by
        rw [regs_succ e q, z0 q (Nat.le_refl _)] at h
        exact h
      have hz := last8 r hr (e q) (he q) h1 (by
        rw [h']
        refine Nat.mod_eq_zero_of_dvd (Nat.dvd_add (Nat.dvd_trans hp (Nat.dvd_mul_left _ _)) (Nat.dvd_of_mod_eq_zero h2)))
      rw [hz, byte8_zero] at h'
      exact ⟨hz, by omega, by omega⟩
  intro i
  by_cases c1 : i < q
  · exact h0 i c1
  · by_cases c2 : q + 3 ≤ i
    · exact h3 i c2
    · have : i = q ∨ i = q + 1 ∨ i = q + 2 := by omega
      rcases this with rfl | rfl | rfl
      · exact fin.1
      · exact fin.2.1
      · exact fin.2.2
end Go.Pu
