/- Rounds over all votes twice: the same. -/
import Derived.Test.YtfekdillbgblkaaWVotesOwnModels
import Derived.Test.YtfekdillbgblkaaPuRounds
set_option linter.all false
namespace Go.Pu
open Go.Fw Go.Mo
def fin1 (f : List Bool) (p : List Int) : Option Int := p.find? fun y => !nth f y.toNat
def rc (f : List Bool) : List (List Int) → Nat → Int
  | [], _ => 0
  | p :: v, x => rc f v x + if fin1 f p = some (x : Int) then 1 else 0
theorem rc_append (f : List Bool) (v w : List (List Int)) (x : Nat) : rc f (v ++ w) x = rc f v x + rc f w x := by
  induction v with
  | nil => simp [rc]
  | cons p v ih => simp only [List.cons_append, rc, ih]; omega
theorem rc_bound (f : List Bool) (v : List (List Int)) (x : Nat) : 0 ≤ rc f v x ∧ rc f v x ≤ v.length := by
  induction v with
  | nil => simp [rc]
  | cons p v ih => simp only [rc, List.length_cons]; split <;> omega
theorem exact_ok {n : Nat} (h6 : n ≤ 6) {v : List (List Int)} (hlen : v.length ≤ 1000) (hv : ∀ p ∈ v, Ord n p) {f : List Bool} (hf : f.length = 6) : Ok (rangeL (ρ := List Int) (γ := (List Bool) × Int) (rules_rounds_b2 f) v 0 (List.replicate 6 (0 : Int))) (FlOk (fun l => l.length = 6 ∧ ∀ x, x < 6 → nth l x = rc f v x) (fun _ => False) (fun _ => False)) := by
  refine ok_rangeL (fun k l => l.length = 6 ∧ ∀ x, x < 6 → nth l x = rc f (v.take k) x) ⟨by simp, fun x hx => by rw [nth_replicate hx]; rfl⟩ (fun k p l hk hI => ?_) fun l hl => by rw [List.take_length] at hl; exact hl
  obtain ⟨l6, hx⟩ := hI
  have et : v.take (k + 1) = v.take k ++ [p] := by rw [List.take_succ, hk]; rfl
  have hp : Ord n p := hv p (List.mem_of_getElem? hk)
  have bl : (v.take k).length ≤ 1000 := by rw [List.length_take]; omega
  have fp : ∀ x : Nat, rc f [p] x = if fin1 f p = some (x : Int) then 1 else 0 := fun x => by
    show (0 : Int) + _ = _; omega
  unfold rules_rounds_b2
  rw [ok_bindF, et]
  refine ok_rangeL (fun j (l' : List Int) => l' = l ∧ ∀ t, t < j → nth f (nth p t).toNat = true) ⟨rfl, fun t ht => by omega⟩ (fun j y l' hj hJ => ?_) fun l' hl' => ?_
  · obtain ⟨hy, hjl⟩ := nth_of hj
    have hjp := hjl
    rw [hp.len] at hjl
    obtain ⟨e, hout⟩ := hJ
    subst e
    have hval := hp.val hjl
    rw [hy] at hval
    obtain ⟨q, rfl⟩ : ∃ q : Nat, y = q := ⟨y.toNat, by omega⟩
    have hq : q < n := by omega
    have lq := hx q (by omega)
    have rb := rc_bound f (v.take k) q
    unfold rules_rounds_b3
    rw [idx_nat, nth_at (by omega), Option.bind_some, idx_nat, nth_at (by omega), Option.bind_some, Option.bind_some, wadd_of (by omega) (by omega), Int.toNat_natCast, ok_ite]
    refine ⟨fun hnot => ?_, fun hyes => ?_⟩
    · rw [ok_some, flok_br, ok_some, flok_nx]
      have hfq : nth f q = false := by simpa using hnot
      have hfin : fin1 f p = some (q : Int) := by
        unfold fin1
        rw [List.find?_eq_some_iff_getElem]
        refine ⟨by rw [Int.toNat_natCast, hfq]; rfl, j, hjp, ?_, fun t ht => ?_⟩
        · rw [← nth_get hjp]; exact hy
        · have := hout t ht
          rw [nth_get (show t < p.length by omega)] at this
          rw [this]; rfl
      refine ⟨by simpa using l6, fun x hx6 => ?_⟩
      rw [nth_set (by omega), rc_append, fp, hfin]
      by_cases e : x = q
      · subst e; rw [if_pos rfl, if_pos rfl, lq]
      · rw [if_neg e, if_neg (by intro h; have := Option.some.inj h; omega), hx x hx6]; omega
    · rw [ok_some, flok_nx]
      refine ⟨rfl, fun t ht => ?_⟩
      by_cases e : t = j
      · rw [e, hy, Int.toNat_natCast]
        simpa using hyes
      · exact hout t (by omega)
  · rw [ok_some, flok_nx]
    obtain ⟨e, hout⟩ := hl'
    subst e
    have hfin : fin1 f p = none := by
      unfold fin1
      rw [List.find?_eq_none]
      intro y hy
      obtain ⟨t, ht, rfl⟩ := mem_nth hy
      rw [hout t ht]; simp
    refine ⟨l6, fun x hx6 => ?_⟩
    rw [rc_append, fp, hfin, if_neg (by simp), hx x hx6]; omega
def Lose (n : Nat) (f : List Bool) (l : List Int) (m : Nat) : Prop := m < n ∧ nth f m = false ∧ ∀ j, j < n → nth f j = false → nth l m ≤ nth l j ∧ (m < j → nth l m < nth l j)
theorem lose2 {n : Nat} (h6 : n ≤ 6) {f : List Bool} (hf : f.length = 6) {l : List Int} (hl : l.length = 6) (hin : 1 ≤ inN n f) : Ok (rangeN (ρ := List Int) (γ := (List Bool) × Int) (rules_rounds_b4 f l) n 0 (-1 : Int)) (FlOk (fun x => ∃ m : Nat, x = (m : Int) ∧ Lose n f l m) (fun _ => False) (fun _ => False)) := by
  refine ok_rangeN (fun k (x : Int) => (x = -1 ∧ ∀ j, j < k → nth f j = true) ∨ ∃ m : Nat, x = (m : Int) ∧ Lose k f l m) (.inl ⟨rfl, fun j hj => by omega⟩) (fun k x hk hI => ?_) fun x hx => ?_
  · unfold rules_rounds_b4
    rw [ok_bindF, idx_nat, nth_at (show k < f.length by omega), Option.bind_some]
    cases hfk : nth f k with
    | true =>
      rw [if_neg (by decide), ok_some, flok_nx, if_neg (by decide), ok_some, flok_nx]
      rcases hI with ⟨e, h⟩ | ⟨m, e, hm, fm, h⟩
      · exact .inl ⟨e, fun j hj => by
          by_cases ej : j = k
          · rw [ej]; exact hfk
          · exact h j (by omega)⟩
      · exact .inr ⟨m, e, by omega, fm, fun j hj fj => by
          by_cases ej : j = k
          · rw [ej, hfk] at fj; cases fj
          · exact h j (by omega) fj⟩
    | false =>
      rw [if_pos (by decide)]
      rcases hI with ⟨e, h⟩ | ⟨m, e, hm, fm, h⟩
      · subst e
        rw [if_pos (by decide), ok_some, flok_nx, if_pos rfl, ok_some, flok_nx]
        exact .inr ⟨k, rfl, by omega, hfk, fun j hj fj => by
          by_cases ej : j = k
          · rw [ej]; exact ⟨Int.le_refl _, fun h => by omega⟩
          · have := h j (by omega); rw [this] at fj; cases fj⟩
      · subst e
        rw [if_neg (by simp), idx_nat, nth_at (show k < l.length by omega), Option.bind_some, idx_nat, nth_at (show m < l.length by omega), Option.bind_some, ok_some, flok_nx, ok_ite]
        refine ⟨fun hle => ?_, fun hgt => ?_⟩
        · rw [ok_some, flok_nx]
          have hle : nth l k ≤ nth l m := by simpa using hle
          exact .inr ⟨k, rfl, by omega, hfk, fun j hj fj => by
            by_cases ej : j = k
            · rw [ej]; exact ⟨Int.le_refl _, fun h => by omega⟩
            · have := (h j (by omega) fj).1; exact ⟨by omega, fun h => by omega⟩⟩
        · rw [ok_some, flok_nx]
          have hgt : ¬ nth l k ≤ nth l m := by simpa using hgt
          exact .inr ⟨m, rfl, by omega, fm, fun j hj fj => by
            by_cases ej : j = k
            · rw [ej]; exact ⟨by omega, fun _ => by omega⟩
            · exact h j (by omega) fj⟩
  · rcases hx with ⟨e, h⟩ | h
    · have : inN n f = 0 := by
        unfold inN
        rw [sumN_congr (g := fun _ => 0) fun j hj => by rw [if_pos (h j hj)], sumN_zero]
      omega
    · exact h
theorem step_val {n : Nat} (h6 : n ≤ 6) {v : List (List Int)} (hlen : v.length ≤ 1000) (hv : ∀ p ∈ v, Ord n p) {f : List Bool} (hf : f.length = 6) {c : Int} (hc : c = inN n f) (c1 : 1 ≤ c) (cn : c ≤ n) : ∃ (l : List Int) (m : Nat), (∀ x, x < 6 → nth l x = rc f v x) ∧ Lose n f l m ∧ rules_rounds_b1 v (n : Int) (f, c) = some (if c = 1 then .rt [(m : Int)] else .nx (f.set m true, c - 1)) := by
  obtain ⟨a, ea, ha⟩ := exact_ok h6 hlen hv hf
  cases a with
  | br _ => exact ha.elim
  | rt _ => exact ha.elim
  | nx l =>
    have ha' : l.length = 6 ∧ ∀ x, x < 6 → nth l x = rc f v x := ha
    obtain ⟨b, eb, hb⟩ := lose2 h6 hf ha'.1 (show 1 ≤ inN n f by omega)
    cases b with
    | br _ => exact hb.elim
    | rt _ => exact hb.elim
    | nx x =>
      have hb' : ∃ m : Nat, x = (m : Int) ∧ Lose n f l m := hb
      obtain ⟨m, rfl, hm⟩ := hb'
      refine ⟨l, m, ha'.2, hm, ?_⟩
      have h1 := hm.1
      unfold rules_rounds_b1
      simp only
      rw [ea]
      show (chk ((n : Int) ≤ 9223372036854775807)).bind _ = _
      rw [chk_t (by omega), Option.bind_some, Int.toNat_natCast, eb]
      show (if c == (1 : Int) then some (Fl.rt ([(m : Int)] : (List Int))) else (idx f (m : Int)).bind fun y1096 => some (Fl.nx ((List.set f (((m : Int)).toNat) true), wsub c (1 : Int)))) = _
      by_cases e : c = 1
      · rw [if_pos (by simpa using e), if_pos e]
      · rw [if_neg (by simpa using e), if_neg e, idx_nat, nth_at (by omega), Option.bind_some, Int.toNat_natCast, wsub_of (by omega) (by omega)]
theorem loopM_eq {ρ β σ γ : Type} {body body' : σ → Option (Fl ρ β σ)} (I : σ → Prop) (h : ∀ s, I s → body s = body' s ∧ ∀ s', body s = some (.nx s') → I s') : ∀ (n : Nat) (s : σ), I s → loopM (γ := γ) body n s = loopM (γ := γ) body' n s := by
  intro n
  induction n with
  | zero => intro s _; rfl
  | succ n ih =>
    intro s hs
    obtain ⟨e, hn⟩ := h s hs
    unfold loopM
    rw [← e]
    cases hb : body s with
    | none => rfl
    | some z =>
      cases z with
      | nx s' => exact ih s' (hn s' hb)
      | br _ => rfl
      | rt _ => rfl
theorem rounds_two {n : Nat} (h1 : 1 ≤ n) (h6 : n ≤ 6) {v : List (List Int)} (hlen : v.length ≤ 30) (hv : ∀ p ∈ v, Ord n p) : rules_rounds_m (n : Int) (v ++ v) = rules_rounds_m (n : Int) v := by
  unfold rules_rounds_m
  have hvv : ∀ p ∈ v ++ v, Ord n p := fun p hp => by
    rcases List.mem_append.1 hp with h | h <;> exact hv p h
  rw [loopM_eq (body := rules_rounds_b1 (v ++ v) (n : Int)) (body' := rules_rounds_b1 v (n : Int)) (fun s : List Bool × Int => s.1.length = 6 ∧ s.2 = inN n s.1 ∧ 1 ≤ s.2 ∧ s.2 ≤ n) ?key 1048576 _ ⟨by simp, ?start, by simp only; omega, by simp only; omega⟩]
  case key =>
    rintro ⟨f, c⟩ hI
    obtain ⟨hf, hc, c1, cn⟩ := hI
    simp only at hf hc c1 cn
    obtain ⟨l, m, hl, hm, e⟩ := step_val h6 (v := v) (by omega) hv hf hc c1 cn
    obtain ⟨l', m', hl', hm', e'⟩ := step_val h6 (v := v ++ v) (by rw [List.length_append]; omega) hvv hf hc c1 cn
    have two : ∀ x, x < 6 → nth l' x = 2 * nth l x := fun x hx => by rw [hl' x hx, hl x hx, rc_append]; omega
    have a1 := hm.1
    have a2 := hm'.1
    have same : m' = m := by
      have p1 := hm.2.2 m' hm'.1 hm'.2.1
      have p2 := hm'.2.2 m hm.1 hm.2.1
      rw [two m' (by omega), two m (by omega)] at p2
      rcases Nat.lt_trichotomy m m' with h | h | h
      · have := p1.2 h; omega
      · exact h.symm
      · have := p2.2 h; omega
    subst same
    refine ⟨by rw [e, e'], fun s' hs' => ?_⟩
    rw [e'] at hs'
    by_cases hc1 : c = 1
    · rw [if_pos hc1] at hs'; cases hs'
    · rw [if_neg hc1] at hs'
      cases hs'
      have ns : ∀ y, nth (f.set m' true) y = if y = m' then true else nth f y := fun y => nth_set (by omega)
      have hnew : inN n (f.set m' true) = c - 1 := by
        unfold inN
        rw [sumN_but (i := m') (f := fun y => if nth f y = true then (0 : Int) else 1) hm.1 fun j _ hj => by rw [ns, if_neg hj]]
        rw [ns, if_pos rfl, hm.2.1]
        unfold inN at hc
        rw [← hc]; simp
      exact ⟨by simpa using hf, by simp only; omega, by simp only; omega, by simp only; omega⟩
  case start =>
    show (n : Int) = inN n (List.replicate 6 false)
    unfold inN
    rw [sumN_congr (g := fun _ => 1) fun y hy => by rw [nth_replicate (by omega)]; rfl, sumN_const]; omega
end Go.Pu
