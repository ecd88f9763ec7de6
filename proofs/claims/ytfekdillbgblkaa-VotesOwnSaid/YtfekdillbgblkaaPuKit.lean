/- Plain lemmas about the small language of the models: loops that keep an invariant, loops that fold. -/
import Derived.Test.YtfekdillbgblkaaFwF
set_option linter.all false
namespace Go.Pu
open Go.Fw
section
variable {ρ σ α β γ : Type}
theorem rangeL_inv {body : Nat → α → σ → Option (Fl ρ σ σ)} (I : Nat → σ → Prop) : ∀ (l : List α) (i : Nat) (s : σ), I i s →
    (∀ k x s, l[k]? = some x → I (i + k) s → ∃ s', body (i + k) x s = some (.nx s') ∧ I (i + k + 1) s') → ∃ s', rangeL (γ := γ) body l i s = some (.nx s') ∧ I (i + l.length) s'
  | [], i, s, h, _ => ⟨s, rfl, h⟩
  | x :: l, i, s, h, hs => by
    obtain ⟨s1, e1, h1⟩ := hs 0 x s rfl h
    obtain ⟨s2, e2, h2⟩ := rangeL_inv I l (i + 1) s1 h1 (fun k y s hk hI => by
      have := hs (k + 1) y s (by simpa using hk) (by rw [show i + (k + 1) = i + 1 + k by omega]; exact hI)
      rw [show i + (k + 1) = i + 1 + k by omega] at this; exact this)
    refine ⟨s2, ?_, by rw [List.length_cons, show i + (l.length + 1) = i + 1 + l.length by omega]; exact h2⟩
    unfold rangeL
    rw [Nat.add_zero] at e1
    rw [e1]; exact e2
theorem rangeN_inv {body : Nat → σ → Option (Fl ρ σ σ)} (I : Nat → σ → Prop) : ∀ (n : Nat) (i : Nat) (s : σ), I i s →
    (∀ k s, k < n → I (i + k) s → ∃ s', body (i + k) s = some (.nx s') ∧ I (i + k + 1) s') → ∃ s', rangeN (γ := γ) body n i s = some (.nx s') ∧ I (i + n) s'
  | 0, i, s, h, _ => ⟨s, rfl, h⟩
  | n + 1, i, s, h, hs => by
    obtain ⟨s1, e1, h1⟩ := hs 0 s (by omega) h
    obtain ⟨s2, e2, h2⟩ := rangeN_inv I n (i + 1) s1 h1 (fun k s hk hI => by
      have := hs (k + 1) s (by omega) (by rw [show i + (k + 1) = i + 1 + k by omega]; exact hI)
      rw [show i + (k + 1) = i + 1 + k by omega] at this; exact this)
    refine ⟨s2, ?_, by rw [show i + (n + 1) = i + 1 + n by omega]; exact h2⟩
    unfold rangeN
    rw [Nat.add_zero] at e1
    rw [e1]; exact e2
theorem rangeL_fold {body : Nat → α → σ → Option (Fl ρ σ σ)} (f : σ → α → σ) (l : List α) : ∀ (i : Nat) (s : σ), (∀ i x s, x ∈ l → body i x s = some (.nx (f s x))) → rangeL (γ := γ) body l i s = some (.nx (l.foldl f s)) := by
  induction l with
  | nil => intro i s _; rfl
  | cons x l ih =>
    intro i s h
    unfold rangeL
    rw [h i x s (by simp)]
    exact ih (i + 1) _ (fun i y s hy => h i y s (by simp [hy]))
def lk {β : Type} : Option ρ → Option (Fl ρ β Unit)
  | some r => some (.rt r)
  | none => some (.nx ())
/-- a loop that only looks: it goes through, or it returns at the first place where it must -/
theorem rangeL_look {body : Nat → α → Unit → Option (Fl ρ Unit Unit)} (c : Nat → α → Option ρ) (l : List α) (h : ∀ i x, x ∈ l → body i x () = lk (c i x)) :
    ∀ i, rangeL (γ := γ) body l i () = lk ((l.zipIdx i).findSome? (fun p => c p.2 p.1)) := by
  induction l with
  | nil => intro i; rfl
  | cons x l ih =>
    intro i
    unfold rangeL
    rw [h i x (by simp), List.zipIdx_cons, List.findSome?_cons]
    dsimp only
    cases c i x with
    | some r => rfl
    | none => exact ih (fun i y hy => h i y (by simp [hy])) (i + 1)
/-- the first place where the test holds -/
theorem rangeL_first {body : Nat → α → Unit → Option (Fl Int Unit Unit)} (q : α → Bool) (l : List α) (h : ∀ i x, x ∈ l → body i x () = if q x then some (.rt (i : Int)) else some (.nx ())) :
    ∀ i, rangeL (γ := γ) body l i () = if l.any q then some (.rt ((i + l.findIdx q : Nat) : Int)) else some (.nx ()) := by
  induction l with
  | nil => intro i; rfl
  | cons x l ih =>
    intro i
    unfold rangeL
    rw [h i x (by simp)]
    by_cases hx : q x = true
    · simp [hx, List.findIdx_cons]
    · have hx' : q x = false := by simpa using hx
      rw [hx']
      simp only [Bool.false_eq_true, if_false]
      rw [ih (fun i y hy => h i y (by simp [hy])) (i + 1)]
      simp only [List.any_cons, hx', Bool.false_or, List.findIdx_cons, cond_false]
      split
      · congr 3; omega
      · rfl
/-- a loop that counts up to n -/
theorem loopM_up {body : σ × Int → Option (Fl ρ (σ × Int) (σ × Int))} (I : Nat → σ → Prop) (n : Nat) (hb : ∀ (k : Nat) s, k < n → I k s → ∃ s', body (s, (k : Int)) = some (.nx (s', ((k + 1 : Nat) : Int))) ∧ I (k + 1) s')
    (he : ∀ s, I n s → body (s, (n : Int)) = some (.br (s, (n : Int)))) : ∀ (d k : Nat) (s : σ) (f : Nat), k + d = n → d < f → I k s → ∃ s', loopM (γ := γ) body f (s, (k : Int)) = some (.nx (s', (n : Int))) ∧ I n s'
  | 0, k, s, f, hk, hf, h => by
    obtain ⟨f, rfl⟩ : ∃ q, f = q + 1 := ⟨f - 1, by omega⟩
    have : k = n := by omega
    subst this
    refine ⟨s, ?_, h⟩
    unfold loopM
    rw [he s h]
  | d + 1, k, s, f, hk, hf, h => by
    obtain ⟨f, rfl⟩ : ∃ q, f = q + 1 := ⟨f - 1, by omega⟩
    obtain ⟨s1, e1, h1⟩ := hb k s (by omega) h
    obtain ⟨s2, e2, h2⟩ := loopM_up I n hb he d (k + 1) s1 f (by omega) (by omega) h1
    refine ⟨s2, ?_, h2⟩
    unfold loopM
    rw [e1]; exact e2
theorem loopM_cnt {body : Int → Option (Fl ρ Int Int)} (n : Nat) (hb : ∀ k : Nat, k < n → 1 ≤ k → body (k : Int) = some (.nx ((k + 1 : Nat) : Int))) (he : body (n : Int) = some (.br (n : Int))) :
    ∀ (d k : Nat) (f : Nat), k + d = n → 1 ≤ k → d < f → loopM (γ := γ) body f (k : Int) = some (.nx (n : Int))
  | 0, k, f, hk, _, hf => by
    obtain ⟨f, rfl⟩ : ∃ q, f = q + 1 := ⟨f - 1, by omega⟩
    have : k = n := by omega
    subst this
    unfold loopM
    rw [he]
  | d + 1, k, f, hk, h1, hf => by
    obtain ⟨f, rfl⟩ : ∃ q, f = q + 1 := ⟨f - 1, by omega⟩
    unfold loopM
    rw [hb k (by omega) h1]
    exact loopM_cnt n hb he d (k + 1) f (by omega) (by omega) (by omega)
/-- a search that comes to an end -/
theorem rangeL_pick {body : Nat → α → Unit → Option (Fl ρ Unit Unit)} (q : α → Bool) (r : Nat → α → ρ) : ∀ (l : List α) (i : Nat), (∀ i x, x ∈ l → body i x () = if q x then some (.rt (r i x)) else some (.nx ())) → (∃ x ∈ l, q x = true) →
    ∃ k x, l[k]? = some x ∧ q x = true ∧ rangeL (γ := γ) body l i () = some (.rt (r (i + k) x))
  | [], i, _, ⟨x, hx, _⟩ => by cases hx
  | y :: l, i, h, hex => by
    by_cases hy : q y = true
    · refine ⟨0, y, rfl, hy, ?_⟩
      unfold rangeL
      rw [h i y (by simp), if_pos hy]
      rfl
    · obtain ⟨x, hx, hqx⟩ := hex
      have hx' : x ∈ l := by
        rcases List.mem_cons.1 hx with rfl | hx
        · exact absurd hqx hy
        · exact hx
      obtain ⟨k, z, h1, h2, h3⟩ := rangeL_pick q r l (i + 1) (fun i x hx => h i x (by simp [hx])) ⟨x, hx', hqx⟩
      refine ⟨k + 1, z, by simpa using h1, h2, ?_⟩
      unfold rangeL
      rw [h i y (by simp), if_neg hy]
      rw [show i + (k + 1) = i + 1 + k by omega]
      exact h3
/-- a loop that counts down to nothing -/
theorem loopM_down {body : σ × Int → Option (Fl ρ (σ × Int) (σ × Int))} (I : Nat → σ → Prop) (hb : ∀ (k : Nat) s, I (k + 1) s → ∃ s', body (s, (k : Int)) = some (.nx (s', (k : Int) - 1)) ∧ I k s')
    (he : ∀ s, I 0 s → body (s, -1) = some (.br (s, -1))) : ∀ (k : Nat) (s : σ) (f : Nat), k < f → I k s → ∃ s', loopM (γ := γ) body f (s, (k : Int) - 1) = some (.nx (s', -1)) ∧ I 0 s'
  | 0, s, f, hf, h => by
    obtain ⟨f, rfl⟩ : ∃ q, f = q + 1 := ⟨f - 1, by omega⟩
    refine ⟨s, ?_, h⟩
    unfold loopM
    rw [show ((0 : Nat) : Int) - 1 = -1 by omega, he s h]
  | k + 1, s, f, hf, h => by
    obtain ⟨f, rfl⟩ : ∃ q, f = q + 1 := ⟨f - 1, by omega⟩
    obtain ⟨s1, e1, h1⟩ := hb k s h
    obtain ⟨s2, e2, h2⟩ := loopM_down I hb he k s1 f (by omega) h1
    refine ⟨s2, ?_, h2⟩
    unfold loopM
    rw [show ((k + 1 : Nat) : Int) - 1 = (k : Int) by omega, e1]; exact e2
theorem idx_nat {l : List α} {i : Nat} : idx l (i : Int) = l[i]? := by
  unfold idx
  rw [if_pos (by omega)]
  simp
theorem idx_at {l : List α} {i : Int} (h0 : 0 ≤ i) : idx l i = l[i.toNat]? := by unfold idx; rw [if_pos h0]
theorem wadd_of {x y : Int} (h0 : -9223372036854775808 ≤ x + y) (h1 : x + y ≤ 9223372036854775807) : wadd x y = x + y := by
  unfold wadd; rw [IntKind.wrap_i64]; omega
theorem wsub_of {x y : Int} (h0 : -9223372036854775808 ≤ x - y) (h1 : x - y ≤ 9223372036854775807) : wsub x y = x - y := by
  unfold wsub; rw [IntKind.wrap_i64]; omega
theorem wmul_of {x y : Int} (h0 : -9223372036854775808 ≤ x * y) (h1 : x * y ≤ 9223372036854775807) : wmul x y = x * y := by
  unfold wmul; rw [IntKind.wrap_i64]; omega
theorem chk_t {p : Prop} [Decidable p] (h : p) : chk p = some () := if_pos h
end
end Go.Pu
