/- What each brings, if all come in one after the other. -/
import Derived.Test.YtlglnacpabmjnaaWWorthRowsModels
import Derived.Test.YtlglnacpabmjnaaPuWorth
import Derived.Test.YtlglnacpabmjnaaPuAllOrd
set_option linter.all false
namespace Go.Pu
open Go.Fw Go.Mo
def allRows (n : Nat) : List (List Int) := match order_All_m (n : Int) with | some p => p.1 | none => []
theorem all_eq {n : Nat} (h1 : 1 ≤ n) (h6 : n ≤ 6) : order_All_m (n : Int) = some (allRows n, 0) := by
  obtain ⟨l, e, -, -⟩ := all_ok h1 h6
  unfold allRows; rw [e]
theorem all_mem {n : Nat} (h1 : 1 ≤ n) (h6 : n ≤ 6) {p : List Int} (h : p ∈ allRows n) : Ord n p := by
  obtain ⟨l, e, hr, -⟩ := all_ok h1 h6
  unfold allRows at h; rw [e] at h
  exact rows_ord (hr.row p h)
def at_ (p : List Int) (k : Nat) : Nat := (nth p k).toNat
/-- who came before the k-th -/
def setTo (p : List Int) : Nat → Nat | 0 => 0 | k + 1 => setTo p k + 2 ^ at_ p k
def place (p : List Int) (i : Nat) : Nat := p.idxOf (i : Int)
def rowLC (p : List Int) (i : Nat) : LC := [(1, setTo p (place p i + 1)), (-1, setTo p (place p i))]
def rowGood (n : Nat) (p : List Int) : Bool := decide (p.length = n) && ((List.range n).all fun k => !has (setTo p k) (at_ p k) && decide (setTo p k < 2 ^ n) && decide (setTo p (k + 1) < 2 ^ n) && decide (at_ p k < n) && decide (nth p k = (at_ p k : Int)) && decide (place p (at_ p k) = k)) && ((List.range n).all fun i => decide (place p i < n) && decide (at_ p (place p i) = i))
theorem rowsGood : ∀ n : Nat, n < 6 → (allRows n).all (rowGood n) = true := by decide +kernel
structure RowG (n : Nat) (p : List Int) : Prop where
  len : p.length = n
  free : ∀ k, k < n → has (setTo p k) (at_ p k) = false
  lt : ∀ k, k < n → setTo p k < 2 ^ n
  lt' : ∀ k, k < n → setTo p (k + 1) < 2 ^ n
  is : ∀ k, k < n → at_ p k < n
  val : ∀ k, k < n → nth p k = (at_ p k : Int)
  back : ∀ k, k < n → place p (at_ p k) = k
  pl : ∀ i, i < n → place p i < n
  pa : ∀ i, i < n → at_ p (place p i) = i
theorem good_of {n : Nat} (hn : n < 6) {p : List Int} (h : p ∈ allRows n) : RowG n p := by
  have := List.all_eq_true.1 (rowsGood n hn) p h
  simp only [rowGood, Bool.and_eq_true, List.all_eq_true, List.mem_range, decide_eq_true_eq, Bool.not_eq_true'] at this
  obtain ⟨⟨h1, h2⟩, h3⟩ := this
  exact ⟨h1, fun k hk => (h2 k hk).1.1.1.1.1, fun k hk => (h2 k hk).1.1.1.1.2, fun k hk => (h2 k hk).1.1.1.2, fun k hk => (h2 k hk).1.1.2, fun k hk => (h2 k hk).1.2, fun k hk => (h2 k hk).2, fun i hi => (h3 i hi).1, fun i hi => (h3 i hi).2⟩
theorem row_ok {n : Nat} {l : List Int} {v : Nat → Int} (h : Game n l v) (hn : n < 6) {p : List Int} (hp : p ∈ allRows n) : ∃ a, worth_Row_m (n : Int) l p = some (a, 0) ∧ Vec n a (fun i => LC.ev (rowLC p i) v) := by
  have g := good_of hn hp
  have : Ok (worth_Row_m (n : Int) l p) (fun r => r.2 = 0 ∧ Vec n r.1 (fun i => LC.ev (rowLC p i) v)) := by
    have h1 := h.n1; have h6 := h.n6; have hl := h.vec.len; have hpl := pow_le n (by omega); have hp0 := pow_pos' n
    unfold worth_Row_m
    rw [worth_check h, Option.bind_some, if_neg (by decide), if_neg (by simp [g.len])]
    simp only [ok_bindR, ok_bind, ok_chk, ok_some, Int.toNat_natCast]
    refine ⟨by omega, ok_rangeL (fun k (q : List Int × Int) => q.2 = (setTo p k : Int) ∧ Vec n q.1 (fun i => if place p i < k then LC.ev (rowLC p i) v else 0)) ⟨rfl, Vec.zero.congr fun x _ => by simp⟩ (fun k y q hk hI => ?_) fun q hq => ⟨trivial, hq.2.congr fun i hi => by rw [if_pos (by rw [g.len]; exact g.pl i hi)]⟩⟩
    obtain ⟨hy, hkl⟩ := nth_of hk
    rw [g.len] at hkl
    obtain ⟨a, x⟩ := q
    obtain ⟨hx, hv⟩ := hI
    simp only at hx hv
    rw [g.val k hkl] at hy
    subst hx hy
    have hj := g.is k hkl
    have hf := g.free k hkl
    have hs := g.lt k hkl
    have hs' := g.lt' k hkl
    have hb := bit_ok (setTo p k) (by omega) (at_ p k) (by omega)
    have ho := or_ok (setTo p k) (by omega) (at_ p k) (by omega) hf
    rw [hf] at hb
    have v1 := h.val _ hs
    have v2 := h.val _ hs'
    have aj : a[at_ p k]? = some 0 := by rw [hv.at? hj, g.back k hkl, if_neg (by omega)]
    unfold worth_Row_b1
    rw [ok_bindF, if_neg (by simp), if_neg (by simpa using hj), hb]
    simp only [ho, ok_bind, ok_chk, ok_some, flok_nx, Bool.false_eq_true, if_false, idx_nat, h.vec.at? hs, h.vec.at? (show setTo p k + 2 ^ at_ p k < 2 ^ n from hs'), aj, show ((0 : Int) == 1) = false from rfl]
    refine ⟨by omega, by omega, by omega, rfl, ?_⟩
    rw [wsub_of (show -9223372036854775808 ≤ v (setTo p k + 2 ^ at_ p k) - v (setTo p k) by have : setTo p (k + 1) = setTo p k + 2 ^ at_ p k := rfl; rw [this] at v2; omega) (by have : setTo p (k + 1) = setTo p k + 2 ^ at_ p k := rfl; rw [this] at v2; omega)]
    refine (hv.set hj _).congr fun i hi => ?_
    by_cases hij : i = at_ p k
    · rw [if_pos hij, if_pos (by rw [hij, g.back k hkl]; omega), hij]
      simp only [rowLC, LC.ev, g.back k hkl, setTo]
      omega
    · rw [if_neg hij]
      have : place p i ≠ k := fun hh => by have := g.pa i hi; rw [hh] at this; omega
      by_cases hlt : place p i < k
      · rw [if_pos hlt, if_pos (by omega)]
      · rw [if_neg hlt, if_neg (by omega)]
  obtain ⟨⟨a, e⟩, h1, h2, h3⟩ := this
  simp only at h2 h3
  subst h2
  exact ⟨a, h1, h3⟩
theorem row_any {n : Nat} {l : List Int} {v : Nat → Int} (h : Game n l v) (p : List Int) : Ok (worth_Row_m (n : Int) l p) (fun r => r.2 = 0 ∨ r.2 = 3 ∧ r.1 = []) := by
  have h1 := h.n1; have h6 := h.n6; have hl := h.vec.len; have hpl := pow_le n (by omega); have hp0 := pow_pos' n
  unfold worth_Row_m
  rw [worth_check h, Option.bind_some, if_neg (by decide)]
  simp only [ok_bindR, ok_bind, ok_ite, ok_chk, ok_some, Int.toNat_natCast]
  refine ⟨fun _ => Or.inr (by simp), fun _ => ⟨by omega, ok_rangeL (fun k (q : List Int × Int) => (∃ s : Nat, q.2 = (s : Int) ∧ s < 2 ^ n) ∧ q.1.length = n) ⟨⟨0, rfl, hp0⟩, by simp⟩ (fun k y q hk hI => ?_) fun q hq => Or.inl (by simp)⟩⟩
  obtain ⟨a, x⟩ := q
  obtain ⟨⟨s, hx, hs⟩, ha⟩ := hI
  simp only at hx ha
  subst hx
  unfold worth_Row_b1
  rw [ok_bindF]
  by_cases hy : y < 0
  · rw [if_pos (by simpa using hy)]
    simp only [ok_some, flok_nx, if_true, flok_rt]
    exact Or.inr ⟨trivial, trivial⟩
  rw [if_neg (by simpa using hy)]
  by_cases hy' : y ≥ (n : Int)
  · rw [if_pos (by simpa using hy')]
    simp only [ok_some, flok_nx, if_true, flok_rt]
    exact Or.inr ⟨trivial, trivial⟩
  rw [if_neg (by simpa using hy')]
  obtain ⟨j, rfl⟩ : ∃ j : Nat, y = j := ⟨y.toNat, by omega⟩
  have hj : j < n := by omega
  have hb := bit_ok s (by omega) j (by omega)
  rw [hb]
  cases hh : has s j with
  | true =>
    simp only [ok_bind, ok_chk, ok_some, flok_nx, if_true, beq_self_eq_true, flok_rt]
    exact ⟨by omega, Or.inr ⟨trivial, trivial⟩⟩
  | false =>
    have ho := or_ok s (by omega) j (by omega) hh
    have hlt := with_lt n (by omega) s hs j hj hh
    simp only [ho, ok_bind, ok_chk, ok_some, flok_nx, Bool.false_eq_true, if_false, idx_nat, h.vec.at? hs, h.vec.at? hlt, nth_at (show j < a.length by omega), show ((0 : Int) == 1) = false from rfl]
    exact ⟨by omega, by omega, by omega, ⟨_, rfl, hlt⟩, by simpa using ha⟩
/-- what those in s have together -/
def inSum (n s : Nat) (g : Nat → Int) : Int := sumN n (fun i => if has s i then g i else 0)
theorem in_bound {s : Nat} {g : Nat → Int} (n : Nat) (hg : ∀ i, i < n → -1000000000 ≤ g i ∧ g i ≤ 1000000000) : -1000000000 * (n : Int) ≤ inSum n s g ∧ inSum n s g ≤ 1000000000 * n := by
  unfold inSum
  induction n with
  | zero => simp [sumN]
  | succ n ih =>
    have := ih fun i hi => hg i (by omega)
    have := hg n (by omega)
    simp only [sumN]
    split <;> omega
theorem holds_ok {n : Nat} {l m : List Int} {v g : Nat → Int} (h : Game n l v) (hm : Vec n m g) (hg : ∀ i, i < n → -1000000000 ≤ g i ∧ g i ≤ 1000000000) : ∃ b, worth_Holds_m (n : Int) l m = some (b, 0) ∧ (b = true ↔ (∀ s, s < 2 ^ n → v s ≤ inSum n s g) ∧ inSum n (2 ^ n - 1) g = v (2 ^ n - 1)) := by
  have : Ok (worth_Holds_m (n : Int) l m) (fun r => r.2 = 0 ∧ (r.1 = true ↔ (∀ s, s < 2 ^ n → v s ≤ inSum n s g) ∧ inSum n (2 ^ n - 1) g = v (2 ^ n - 1))) := by
    have h1 := h.n1; have h6 := h.n6; have hl := h.vec.len; have hpl := pow_le n (by omega); have hp0 := pow_pos' n
    unfold worth_Holds_m
    rw [worth_check h, Option.bind_some, if_neg (by decide), if_neg (by simp [hm.len])]
    simp only [ok_bindR]
    refine ok_rangeL (fun _ _ => True) trivial (fun k x s hk _ => ?_) fun _ _ => ?_
    · obtain ⟨hx, hkl⟩ := nth_of hk
      rw [hm.len] at hkl
      have := hg k hkl
      rw [hm.at_ k hkl] at hx
      subst hx
      unfold worth_Holds_b1
      rw [if_neg (by simp; omega)]
      simp only [ok_bindF, ok_some, flok_nx, ok_ite, decide_eq_true_eq]
      exact ⟨fun _ => by omega, fun _ => trivial⟩
    refine ok_rangeL (fun k _ => ∀ s, s < k → v s ≤ inSum n s g ∧ (s = 2 ^ n - 1 → inSum n s g = v s)) (by simp) (fun s x u hk hI => ?_) fun _ hI => ?_
    · obtain ⟨hx, hsl⟩ := nth_of hk
      rw [hl] at hsl
      rw [h.vec.at_ s hsl] at hx
      subst hx
      unfold worth_Holds_b2
      rw [ok_bindF]
      refine ok_rangeL (fun k (x : Int) => x = inSum k s g) rfl (fun k y x hk hI => ?_) fun x hx => ?_
      · obtain ⟨hy, hkl⟩ := nth_of hk
        rw [hm.len] at hkl
        rw [hm.at_ k hkl] at hy
        subst hy
        have hb := bit_ok s (by omega) k (by omega)
        have b1 := in_bound (s := s) (g := g) k fun i hi => hg i (by omega)
        have b2 := hg k hkl
        rw [← hI] at b1
        unfold worth_Holds_b3
        rw [hb, wadd_of (by omega) (by omega)]
        have hnext : inSum (k + 1) s g = x + if has s k then g k else 0 := by rw [hI]; rfl
        simp only [ok_bind, ok_chk, ok_ite, ok_some, flok_nx, beq_iff_eq]
        refine ⟨by omega, fun hh => ?_, fun hh => ?_⟩
        · cases hc : has s k with
          | true => rw [hnext, hc]; simp
          | false => rw [hc] at hh; simp at hh
        · cases hc : has s k with
          | true => rw [hc] at hh; simp at hh
          | false => rw [hnext, hc]; simp
      · rw [hm.len] at hx
        subst hx
        rw [hl, wsub_of (by omega) (by omega)]
        simp only [ok_bindF, ok_ite, ok_some, flok_nx, flok_rt, decide_eq_true_eq, bne_iff_ne, beq_iff_eq, Bool.false_eq_true, false_implies, not_false_eq_true, true_implies, not_true_eq_false, and_true, true_and]
        have bad : ¬ (v s ≤ inSum n s g ∧ (s = 2 ^ n - 1 → inSum n s g = v s)) → (False ↔ (∀ s, s < 2 ^ n → v s ≤ inSum n s g) ∧ inSum n (2 ^ n - 1) g = v (2 ^ n - 1)) := fun hn => ⟨fun hh => hh.elim, fun hh => (hn ⟨hh.1 s hsl, fun e => by rw [e]; exact hh.2⟩).elim⟩
        have good : (v s ≤ inSum n s g ∧ (s = 2 ^ n - 1 → inSum n s g = v s)) → ∀ t, t < s + 1 → v t ≤ inSum n t g ∧ (t = 2 ^ n - 1 → inSum n t g = v t) := fun hs t ht => by
          by_cases e : t = s
          · rw [e]; exact hs
          · exact hI t (by omega)
        by_cases c1 : inSum n s g < v s
        · simp only [c1, true_implies, not_true_eq_false, false_implies, and_true]
          exact bad (by omega)
        · simp only [c1, false_implies, not_false_eq_true, true_implies, true_and]
          by_cases c2 : s = 2 ^ n - 1
          · have c3 : (s : Int) = ((2 ^ n : Nat) : Int) - 1 := by omega
            simp only [c3, true_implies, not_true_eq_false, false_implies, and_true]
            refine ⟨fun c4 => bad fun hh => c4 (hh.2 c2), fun c4 => good ⟨by omega, fun _ => ?_⟩⟩
            exact Decidable.not_not.1 c4
          · have c3 : ¬ (s : Int) = ((2 ^ n : Nat) : Int) - 1 := by omega
            simp only [c3, false_implies, not_false_eq_true, true_implies, true_and]
            exact good ⟨by omega, fun e => (c2 e).elim⟩
    · simp only [ok_some]
      refine ⟨trivial, by simp; exact ⟨fun s hs => (hI s (by omega)).1, (hI (2 ^ n - 1) (by omega)).2 rfl⟩⟩
  obtain ⟨⟨b, e⟩, h1, h2, h3⟩ := this
  simp only at h2 h3
  subst h2
  exact ⟨b, h1, h3⟩
end Go.Pu
