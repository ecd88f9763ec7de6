/- Going on and on from one to the next: rings. -/
import Derived.Test.YtnkhelpadbickaaPuWp
set_option linter.all false
namespace Go.Pu
def itN (f : Nat → Nat) : Nat → Nat → Nat
  | 0, x => x
  | k + 1, x => f (itN f k x)
theorem itN_succ (f : Nat → Nat) : ∀ k x, itN f (k + 1) x = itN f k (f x)
  | 0, x => rfl
  | k + 1, x => by show f (itN f (k + 1) x) = f (itN f k (f x)); rw [itN_succ f k x]
theorem itN_add (f : Nat → Nat) : ∀ a b x, itN f (a + b) x = itN f a (itN f b x)
  | 0, b, x => by rw [Nat.zero_add]; rfl
  | a + 1, b, x => by rw [show a + 1 + b = (a + b) + 1 by omega]; show f (itN f (a + b) x) = f (itN f a (itN f b x)); rw [itN_add f a b x]
theorem itN_mul {f : Nat → Nat} {k x : Nat} (h : itN f k x = x) : ∀ m, itN f (m * k) x = x
  | 0 => by rw [Nat.zero_mul]; rfl
  | m + 1 => by rw [Nat.add_mul, Nat.one_mul, itN_add, h, itN_mul h m]
theorem itN_inv {f : Nat → Nat} {I : Nat → Prop} (h : ∀ x, I x → I (f x)) {x : Nat} (hx : I x) : ∀ k, I (itN f k x)
  | 0 => hx
  | k + 1 => h _ (itN_inv h hx k)
theorem itN_congr {f g : Nat → Nat} {I : Nat → Prop} (h : ∀ x, I x → I (f x)) (e : ∀ x, I x → g x = f x) {x : Nat} (hx : I x) : ∀ k, itN g k x = itN f k x
  | 0 => rfl
  | k + 1 => by show g (itN g k x) = f (itN f k x); rw [itN_congr h e hx k, e _ (itN_inv h hx k)]
/-- more places than numbers: two are alike -/
theorem php : ∀ (n : Nat) (f : Nat → Nat), (∀ k, k ≤ n → f k < n) → ∃ a c, a < c ∧ c ≤ n ∧ f a = f c
  | 0, f, h => by have := h 0 (Nat.le_refl _); omega
  | n + 1, f, h => by
    by_cases hx : ∃ a, a < n + 1 ∧ f a = f (n + 1)
    · obtain ⟨a, ha, e⟩ := hx; exact ⟨a, n + 1, ha, Nat.le_refl _, e⟩
    · have hno : ∀ a, a < n + 1 → f a ≠ f (n + 1) := fun a ha e => hx ⟨a, ha, e⟩
      obtain ⟨a, c, hac, hcn, e⟩ := php n (fun k => if f k = n then f (n + 1) else f k) (fun k hk => by
        have h1 := h k (by omega)
        have h2 := h (n + 1) (Nat.le_refl _)
        have h3 := hno k (by omega)
        (try dsimp only)
        split <;> omega)
      (try dsimp only at e)
      have h1 := hno a (by omega); have h2 := hno c (by omega)
      refine ⟨a, c, hac, by omega, ?_⟩
      split at e <;> split at e <;> omega
theorem least {p : Nat → Prop} (h : ∃ n, p n) : ∃ n, p n ∧ ∀ m, p m → n ≤ m := Go.Fw.exists_least h
theorem iter_inj {f : Nat → Nat} {x y k m : Nat} (hk : 1 ≤ k) (hm : 1 ≤ m) (hx : itN f k x = x) (hy : itN f m y = y) (e : f x = f y) : x = y := by
  have h1 : itN f (m * k) x = x := itN_mul hx m
  have h2 : itN f (k * m) y = y := itN_mul hy k
  rw [Nat.mul_comm k m] at h2
  obtain ⟨q, hq⟩ : ∃ q, m * k = q + 1 := ⟨m * k - 1, by have : 1 ≤ m * k := Nat.mul_le_mul hm hk; omega⟩
  rw [hq, itN_succ, e, ← itN_succ, ← hq, h2] at h1
  exact h1.symm
/-! ### who gets what by rings of the best that is left -/
structure Ttc (n : Nat) (rk : Nat → Nat → Nat) (G ρ : Nat → Nat) (K : Nat) : Prop where
  lt : ∀ i, i < n → G i < n
  le : ∀ i, i < n → ρ i < K
  same : ∀ i, i < n → ρ (G i) = ρ i
  best : ∀ i x, i < n → x < n → ρ i ≤ ρ x → rk i (G i) ≤ rk i x
  cyc : ∀ i, i < n → ∃ k, 1 ≤ k ∧ itN G k i = i
  hit : ∀ s, s < K → ∃ i, i < n ∧ ρ i = s
  self : ∀ i s, i < n → s < ρ i → ∃ x, x < n ∧ s ≤ ρ x ∧ rk i x < rk i i
section
variable {n K : Nat} {rk : Nat → Nat → Nat} {G ρ : Nat → Nat}
theorem Ttc.inj (h : Ttc n rk G ρ K) {i j : Nat} (hi : i < n) (hj : j < n) (e : G i = G j) : i = j := by
  obtain ⟨k, hk, hx⟩ := h.cyc i hi
  obtain ⟨m, hm, hy⟩ := h.cyc j hj
  exact iter_inj hk hm hx hy e
theorem Ttc.onto (h : Ttc n rk G ρ K) {i : Nat} (hi : i < n) : ∃ j, j < n ∧ G j = i ∧ ρ j = ρ i := by
  obtain ⟨k, hk, hx⟩ := h.cyc i hi
  obtain ⟨q, rfl⟩ : ∃ q, k = q + 1 := ⟨k - 1, by omega⟩
  have hI := itN_inv (f := G) (I := fun x => x < n ∧ ρ x = ρ i) (fun x hx => ⟨h.lt x hx.1, by rw [h.same x hx.1]; exact hx.2⟩) (x := i) ⟨hi, rfl⟩ q
  exact ⟨itN G q i, hI.1, hx, hI.2⟩
/-- ROTH: who tells otherwise gets nothing that he likes better -/
theorem Ttc.truth {rk' : Nat → Nat → Nat} {G' ρ' : Nat → Nat} {K' : Nat} (h : Ttc n rk G ρ K) (h' : Ttc n rk' G' ρ' K') {i : Nat} (hi : i < n)
    (hrk : ∀ j, j < n → j ≠ i → ∀ x, rk' j x = rk j x) (inj : ∀ j x y, j < n → x < n → y < n → rk j x = rk j y → x = y) : rk i (G i) ≤ rk i (G' i) := by
  -- who leaves ahead of him gets the same
  have key : ∀ t, t ≤ ρ i → ∀ j, j < n → ρ j < t → G' j = G j := by
    intro t
    induction t with
    | zero => intro _ j _ hj; omega
    | succ t ih =>
      intro ht j hj hjt
      by_cases hlt : ρ j < t
      · exact ih (by omega) j hj hlt
      · have hjt : ρ j = t := by omega
        -- each of that round likes his own at least as much
        have worse : ∀ q, q < n → ρ q = t → rk q (G q) ≤ rk q (G' q) := fun q hq hqt => by
          refine h.best q _ hq (h'.lt q hq) ?_
          by_cases hl : ρ (G' q) < t
          · obtain ⟨z, hz, e1, e2⟩ := h.onto (h'.lt q hq)
            have e3 := ih (by omega) z hz (by omega)
            rw [← e3] at e1
            have := h'.inj hz hq e1
            subst this
            omega
          · omega
        -- the first of his ring to leave there
        obtain ⟨k, hk, hcy⟩ := h.cyc j hj
        obtain ⟨s, ⟨m0, hs⟩, hmin⟩ := least (p := fun s => ∃ m, ρ' (itN G m j) = s) ⟨_, 0, rfl⟩
        have inv : ∀ m, itN G m j < n ∧ ρ (itN G m j) = t := itN_inv (f := G) (I := fun x => x < n ∧ ρ x = t) (fun x hx => ⟨h.lt x hx.1, by rw [h.same x hx.1]; exact hx.2⟩) (x := j) ⟨hj, hjt⟩
        have eq1 : ∀ q, q < n → ρ q = t → ρ' q ≤ ρ' (G q) → G' q = G q := fun q hq hqt hle => by
          have h1 := h'.best q (G q) hq (h.lt q hq) hle
          have hqi : q ≠ i := fun e => by subst e; omega
          rw [hrk q hq hqi, hrk q hq hqi] at h1
          have h2 := worse q hq hqt
          exact inj q _ _ hq (h'.lt q hq) (h.lt q hq) (by omega)
        have step : ∀ m, ρ' (itN G (m0 + m) j) = s := by
          intro m
          induction m with
          | zero => exact hs
          | succ m ihm =>
            have hq := inv (m0 + m)
            have e := eq1 _ hq.1 hq.2 (by rw [ihm]; exact hmin _ ⟨m0 + m + 1, rfl⟩)
            have := h'.same _ hq.1
            rw [e, ihm] at this
            exact this
        have hall : ∀ m, ρ' (itN G m j) = s := fun m => by
          have e : itN G (m + (m0 + 1) * k) j = itN G m j := by rw [itN_add, itN_mul hcy]
          have hb : m0 ≤ m + (m0 + 1) * k := by
            have : (m0 + 1) * 1 ≤ (m0 + 1) * k := Nat.mul_le_mul (Nat.le_refl _) hk
            omega
          have := step (m + (m0 + 1) * k - m0)
          rw [show m0 + (m + (m0 + 1) * k - m0) = m + (m0 + 1) * k by omega, e] at this
          exact this
        exact eq1 j hj hjt (by have a := hall 0; have b := hall 1; exact Nat.le_of_eq (a.trans b.symm))
  refine h.best i _ hi (h'.lt i hi) ?_
  by_cases hl : ρ (G' i) < ρ i
  · obtain ⟨z, hz, e1, e2⟩ := h.onto (h'.lt i hi)
    have e3 := key (ρ i) (Nat.le_refl _) z hz (by omega)
    rw [← e3] at e1
    have := h'.inj hz hi e1
    subst this
    omega
  · omega
end
end Go.Pu
