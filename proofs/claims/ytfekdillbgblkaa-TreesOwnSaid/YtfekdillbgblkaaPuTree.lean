/- Trees of moves: what the solver answers, what a play comes to, and that nobody does better alone. -/
import Derived.Test.YtfekdillbgblkaaWTreesOwnModels
import Derived.Test.YtfekdillbgblkaaPuWp
import Derived.Test.YtfekdillbgblkaaPuWithin
import Derived.Test.YtfekdillbgblkaaPuEq
set_option linter.all false
namespace Go.Pu
open Go.Fw Go.Mo
abbrev Nd := Int × (List Int × List Int)
def NodeOk (n : Int) (m i : Nat) (y : Nd) : Prop := (y.1 = -1 ∧ y.2.1.length = 0 ∧ (y.2.2.length : Int) = n ∧ ∀ k : Nat, k < y.2.2.length → -1000 ≤ nth y.2.2 k ∧ nth y.2.2 k ≤ 1000) ∨ (0 ≤ y.1 ∧ y.1 < n ∧ 1 ≤ y.2.1.length ∧ y.2.1.length ≤ 6 ∧ y.2.2.length = 0 ∧ ∀ k : Nat, k < y.2.1.length → (i : Int) < nth y.2.1 k ∧ nth y.2.1 k < m)
structure Tree (n : Int) (x1 : List Nd) : Prop where
  n1 : 1 ≤ n
  n6 : n ≤ 6
  m1 : 1 ≤ x1.length
  m30 : x1.length ≤ 30
  node : ∀ i, i < x1.length → NodeOk n x1.length i (nth x1 i)
theorem tchk1 {n : Int} {x1 : List Nd} {i : Nat} {y : Nd} : Ok (tree_Check_b1 n x1 i y ()) (FlOk (fun _ => NodeOk n x1.length i y) (fun _ => False) (fun c => c ≠ 0)) := by
  unfold tree_Check_b1
  rw [ok_bindF]
  by_cases c1 : y.1 < -1
  · rw [if_pos (by simpa using c1), ok_some, flok_nx, if_pos rfl, ok_some, flok_rt]; decide
  rw [if_neg (by simpa using c1), ok_some, flok_nx]
  by_cases c2 : y.1 ≥ n
  · rw [if_pos (by simpa using c2), ok_some, flok_rt]; decide
  rw [if_neg (by simpa using c2)]
  by_cases c3 : y.1 < 0
  · rw [if_pos (by simpa using c3), ok_bindF]
    by_cases c4 : (y.2.1.length : Int) > 0
    · rw [if_pos (by simpa using c4), ok_some, flok_nx, if_pos rfl, ok_some, flok_rt]; decide
    rw [if_neg (by simpa using c4), ok_some, flok_nx]
    by_cases c5 : (y.2.2.length : Int) = n
    · rw [if_neg (by simpa using c5), ok_bindF]
      refine ok_rangeL (fun k _ => ∀ j : Nat, j < k → -1000 ≤ nth y.2.2 j ∧ nth y.2.2 j ≤ 1000) (fun j hj => by omega) (fun k z u hk hI => ?_) fun _ hI => ?_
      · obtain ⟨hz, hkl⟩ := nth_of hk
        subst hz
        unfold tree_Check_b2
        simp only [ok_bindF, ok_ite, ok_some, flok_nx, flok_rt, decide_eq_true_eq]
        grind
      · rw [ok_some, flok_nx]
        exact .inl ⟨by omega, by omega, c5, hI⟩
    · rw [if_pos (by simpa using c5), ok_some, flok_rt]; decide
  · rw [if_neg (by simpa using c3), ok_bindF]
    by_cases c4 : (y.2.1.length : Int) < 1
    · rw [if_pos (by simpa using c4), ok_some, flok_nx, if_pos rfl, ok_some, flok_rt]; decide
    rw [if_neg (by simpa using c4)]
    by_cases c5 : (y.2.1.length : Int) > 6
    · rw [if_pos (by simpa using c5), ok_some, flok_nx, if_pos rfl, ok_some, flok_rt]; decide
    rw [if_neg (by simpa using c5), ok_some, flok_nx]
    by_cases c6 : (y.2.2.length : Int) > 0
    · rw [if_pos (by simpa using c6), ok_some, flok_rt]; decide
    rw [if_neg (by simpa using c6), ok_bindF]
    refine ok_rangeL (fun k _ => ∀ j : Nat, j < k → (i : Int) < nth y.2.1 j ∧ nth y.2.1 j < x1.length) (fun j hj => by omega) (fun k z u hk hI => ?_) fun _ hI => ?_
    · obtain ⟨hz, hkl⟩ := nth_of hk
      subst hz
      unfold tree_Check_b3
      simp only [ok_bindF, ok_ite, ok_some, flok_nx, flok_rt, decide_eq_true_eq]
      grind
    · rw [ok_some, flok_nx]
      exact .inr ⟨by omega, by omega, by omega, by omega, by omega, hI⟩
theorem tchk (n : Int) (x1 : List Nd) : Ok (tree_Check_m n x1) (fun c => c ≠ 0 ∨ Tree n x1) := by
  unfold tree_Check_m
  rw [ok_bindR]
  by_cases c1 : n < 1
  · rw [if_pos (by simpa using c1), ok_some, flok_nx, if_pos rfl, ok_some]; exact .inl (by decide)
  rw [if_neg (by simpa using c1), ok_some, flok_nx]
  by_cases c2 : n > 6
  · rw [if_pos (by simpa using c2), ok_some]; exact .inl (by decide)
  rw [if_neg (by simpa using c2), ok_bindR]
  by_cases c3 : (x1.length : Int) < 1
  · rw [if_pos (by simpa using c3), ok_some, flok_nx, if_pos rfl, ok_some]; exact .inl (by decide)
  rw [if_neg (by simpa using c3), ok_some, flok_nx]
  by_cases c4 : (x1.length : Int) > 30
  · rw [if_pos (by simpa using c4), ok_some]; exact .inl (by decide)
  rw [if_neg (by simpa using c4), ok_bindR]
  refine ok_rangeL (fun k _ => ∀ i, i < k → NodeOk n x1.length i (nth x1 i)) (fun j hj => by omega) (fun k y u hk hI => ?_) fun _ hI => ?_
  · obtain ⟨hy, hkl⟩ := nth_of hk
    refine tchk1.mono fun v hv => ?_
    cases v with
    | br _ => exact hv.elim
    | rt c => exact .inl hv
    | nx _ =>
      rw [flok_nx] at hv ⊢
      intro i hi
      by_cases e : i = k
      · rw [e, hy]; exact hv
      · exact hI i (by omega)
  · rw [ok_some]
    exact .inr ⟨by omega, by omega, by omega, by omega, hI⟩
/-- node j is solved -/
def At (x1 : List Nd) (ch : List Int) (vals : List (List Int)) (j : Nat) : Prop :=
  ((nth x1 j).1 < 0 ∧ nth vals j = (nth x1 j).2.2) ∨
  (0 ≤ (nth x1 j).1 ∧ ∃ c : Nat, nth ch j = (c : Int) ∧ c < (nth x1 j).2.1.length ∧ nth vals j = nth vals (nth (nth x1 j).2.1 c).toNat ∧
    ∀ k, k < (nth x1 j).2.1.length → nth (nth vals (nth (nth x1 j).2.1 k).toNat) (nth x1 j).1.toNat ≤ nth (nth vals (nth (nth x1 j).2.1 c).toNat) (nth x1 j).1.toNat)
theorem At.set {n : Int} {x1 : List Nd} {ch : List Int} {vals : List (List Int)} {i j : Nat} {c : Int} {v : List Int} (t : Tree n x1) (h : At x1 ch vals j) (hij : i < j) (hj : j < x1.length) (h1 : ch.length = x1.length) (h2 : vals.length = x1.length) : At x1 (ch.set i c) (vals.set i v) j := by
  have key : ∀ q : Nat, i < q → nth (vals.set i v) q = nth vals q := fun q hq => by rw [nth_set (by omega), if_neg (by omega)]
  have kc : nth (ch.set i c) j = nth ch j := by rw [nth_set (by omega), if_neg (by omega)]
  rcases t.node j hj with hn | hn
  · rcases h with ⟨a, b⟩ | ⟨a, -⟩
    · exact .inl ⟨a, by rw [key j hij]; exact b⟩
    · omega
  · rcases h with ⟨a, b⟩ | ⟨a, d, b1, b2, b3, b4⟩
    · omega
    · have hk : ∀ k, k < (nth x1 j).2.1.length → i < (nth (nth x1 j).2.1 k).toNat := fun k hk => by have := hn.2.2.2.2.2 k hk; omega
      refine .inr ⟨a, d, by rw [kc]; exact b1, b2, by rw [key j hij, key _ (hk d b2)]; exact b3, fun k hkl => ?_⟩
      rw [key _ (hk k hkl), key _ (hk d b2)]; exact b4 k hkl
structure Solved (n : Int) (x1 : List Nd) (ch : List Int) (vals : List (List Int)) (i : Int) : Prop where
  l1 : ch.length = x1.length
  l2 : vals.length = x1.length
  at_ : ∀ j : Nat, j < x1.length → i < j → At x1 ch vals j
  len : ∀ j : Nat, j < x1.length → i < j → ((nth vals j).length : Int) = n
theorem pick_ok {n : Int} {x1 : List Nd} {vals : List (List Int)} {y : Nd} {i : Nat} (h2 : vals.length = x1.length) (hn : NodeOk n x1.length i y) (hp : 0 ≤ y.1) (hl : ∀ j : Nat, j < x1.length → (i : Int) < j → ((nth vals j).length : Int) = n) :
    Ok (rangeL (ρ := (List Int) × (List (List Int)) × Int) (γ := ((List Int) × (List (List Int)) × Int)) (tree_Solve_b2 vals y) y.2.1 0 (0 : Int)) (FlOk (fun d => ∃ c : Nat, d = (c : Int) ∧ c < y.2.1.length ∧ ∀ k, k < y.2.1.length → nth (nth vals (nth y.2.1 k).toNat) y.1.toNat ≤ nth (nth vals (nth y.2.1 c).toNat) y.1.toNat) (fun _ => False) (fun _ => False)) := by
  rcases hn with hn | ⟨n1, n2, n3, n4, n5, n6⟩
  · omega
  refine ok_rangeL (fun k (d : Int) => ∃ c : Nat, d = (c : Int) ∧ c < y.2.1.length ∧ ∀ j, j < k → nth (nth vals (nth y.2.1 j).toNat) y.1.toNat ≤ nth (nth vals (nth y.2.1 c).toNat) y.1.toNat) ⟨0, rfl, by omega, fun j hj => by omega⟩ (fun k z d hk hI => ?_) fun d hd => hd
  obtain ⟨hz, hkl⟩ := nth_of hk
  obtain ⟨c, rfl, hc, hI⟩ := hI
  have k1 := n6 k hkl
  have k2 := n6 c hc
  obtain ⟨a, ha⟩ : ∃ a : Nat, nth y.2.1 k = (a : Int) := ⟨(nth y.2.1 k).toNat, by omega⟩
  obtain ⟨b, hb⟩ : ∃ b : Nat, nth y.2.1 c = (b : Int) := ⟨(nth y.2.1 c).toNat, by omega⟩
  obtain ⟨p, hp'⟩ : ∃ p : Nat, y.1 = (p : Int) := ⟨y.1.toNat, by omega⟩
  rw [hz] at ha
  rw [hb] at hI
  have la := hl a (by omega) (by omega)
  have lb := hl b (by omega) (by omega)
  have hka : nth y.2.1 k = (a : Int) := by rw [hz]; exact ha
  unfold tree_Solve_b2
  rw [ha, idx_nat, nth_at (by omega), Option.bind_some, hp', idx_nat, nth_at (by omega), Option.bind_some, idx_nat, nth_at hc, Option.bind_some, hb, idx_nat, nth_at (by omega), Option.bind_some, idx_nat, nth_at (by omega), Option.bind_some]
  rw [hp'] at hI
  simp only [Int.toNat_natCast, ok_ite, ok_some, flok_nx, decide_eq_true_eq] at hI ⊢
  refine ⟨fun hgt => ⟨k, rfl, hkl, fun j hj => ?_⟩, fun hle => ⟨c, rfl, hc, fun j hj => ?_⟩⟩
  · rw [hka, Int.toNat_natCast]
    by_cases e : j = k
    · rw [e, hka, Int.toNat_natCast]; omega
    · have := hI j (by omega); omega
  · rw [hb, Int.toNat_natCast]
    by_cases e : j = k
    · rw [e, hka, Int.toNat_natCast]; omega
    · exact hI j (by omega)
theorem solve_ok {n : Int} {x1 : List Nd} (t : Tree n x1) (e : tree_Check_m n x1 = some 0) : ∃ ch vals, tree_Solve_m n x1 = some (ch, vals, 0) ∧ Solved n x1 ch vals (-1) := by
  have : Ok (tree_Solve_m n x1) (fun p => p.2.2 = 0 ∧ Solved n x1 p.1 p.2.1 (-1)) := by
    have m1 := t.m1; have m30 := t.m30
    unfold tree_Solve_m
    rw [e, Option.bind_some, if_neg (by decide), chk_t (by omega), Option.bind_some, Option.bind_some, ok_bindR, wsub_of (by omega) (by omega), Int.toNat_natCast]
    refine ok_loopM (fun s : List Int × List (List Int) × Int => -1 ≤ s.2.2 ∧ s.2.2 < x1.length ∧ Solved n x1 s.1 s.2.1 s.2.2) (fun s => (s.2.2 + 1).toNat) (fun s hI => ?_) _ _ ⟨by simp only; omega, by simp only; omega, ⟨by simp, by simp, fun j hj hlt => by simp only at hlt; omega, fun j hj hlt => by simp only at hlt; omega⟩⟩ (by simp only; omega)
    obtain ⟨ch, vals, i⟩ := s
    obtain ⟨i1, i2, hs⟩ := hI
    simp only at i1 i2 hs
    unfold tree_Solve_b1
    simp only
    by_cases hneg : i < 0
    · have hi : i = -1 := by omega
      rw [if_neg (by simpa using hneg), ok_some, flok_br, ok_some]
      rw [hi] at hs
      exact ⟨rfl, hs⟩
    · obtain ⟨i, rfl⟩ : ∃ k : Nat, i = (k : Int) := ⟨i.toNat, by omega⟩
      have hil : i < x1.length := by omega
      have hn := t.node i hil
      have l1 := hs.l1; have l2 := hs.l2
      rw [if_pos (by simp), idx_nat, nth_at hil, Option.bind_some, wsub_of (by omega) (by omega)]
      have next : ∀ (c : Int) (v : List Int), At x1 (ch.set i c) (vals.set i v) i → (v.length : Int) = n → Solved n x1 (ch.set i c) (vals.set i v) ((i : Int) - 1) := fun c v hat hv => ⟨by simpa using l1, by simpa using l2, fun j hj hlt => by
        by_cases e : j = i
        · rw [e]; exact hat
        · exact (hs.at_ j hj (by omega)).set t (by omega) hj l1 l2, fun j hj hlt => by
        rw [nth_set (by omega)]
        by_cases e : j = i
        · rw [if_pos e]; exact hv
        · rw [if_neg e]; exact hs.len j hj (by omega)⟩
      by_cases hp : (nth x1 i).1 < 0
      · have hlf : (nth x1 i).1 = -1 ∧ (nth x1 i).2.1.length = 0 ∧ ((nth x1 i).2.2.length : Int) = n := by
          rcases hn with hn | hn
          · exact ⟨hn.1, hn.2.1, hn.2.2.1⟩
          · omega
        have n6 := t.n6
        rw [if_pos (by simpa using hp), chk_t (by simp; omega), Option.bind_some, idx_nat, nth_at (by omega), Option.bind_some, idx_nat, nth_at (by omega), Option.bind_some, ok_some, flok_nx, Int.toNat_natCast, List.nil_append]
        refine ⟨⟨by simp only; omega, by simp only; omega, next _ _ (.inl ⟨hp, by rw [nth_set (by omega), if_pos rfl]⟩) hlf.2.2⟩, by simp only; omega⟩
      · rw [if_neg (by simpa using hp), ok_bindF]
        refine (pick_ok l2 hn (by omega) hs.len).mono fun d hd => ?_
        cases d with
        | br _ => exact hd.elim
        | rt _ => exact hd.elim
        | nx d =>
          obtain ⟨c, rfl, hc, hmax⟩ := (flok_nx.1 hd)
          have hkid : ∀ k, k < (nth x1 i).2.1.length → (i : Int) < nth (nth x1 i).2.1 k ∧ nth (nth x1 i).2.1 k < x1.length := by
            rcases hn with hn | hn
            · omega
            · exact hn.2.2.2.2.2
          have kc := hkid c hc
          obtain ⟨b, hb⟩ : ∃ b : Nat, nth (nth x1 i).2.1 c = (b : Int) := ⟨(nth (nth x1 i).2.1 c).toNat, by omega⟩
          have lb := hs.len b (by omega) (by omega)
          have n6 := t.n6
          rw [flok_nx, idx_nat, nth_at (by omega), Option.bind_some, idx_nat, nth_at hc, Option.bind_some, hb, idx_nat, nth_at (by omega), Option.bind_some, chk_t (by simp; omega), Option.bind_some, idx_nat, nth_at (by omega), Option.bind_some, ok_some, flok_nx, Int.toNat_natCast, List.nil_append]
          refine ⟨⟨by simp only; omega, by simp only; omega, next _ _ (.inr ⟨by omega, c, by rw [nth_set (by omega), if_pos rfl], hc, ?_, fun k hk => ?_⟩) lb⟩, by simp only; omega⟩
          · rw [nth_set (by omega), if_pos rfl, nth_set (by omega), hb, Int.toNat_natCast, if_neg (by omega)]
          · have := hmax k hk
            have kk := hkid k hk
            rw [nth_set (by omega), if_neg (by omega), nth_set (by omega), if_neg (by omega)]
            exact this
  obtain ⟨⟨ch, vals, c⟩, h1, h2, h3⟩ := this
  simp only at h2 h3
  subst h2
  exact ⟨ch, vals, h1, h3⟩
/-- from node i, by the plan s, all come to v -/
inductive End (x1 : List Nd) (s : List Int) : Nat → List Int → Prop
  | leaf {i : Nat} (h : (nth x1 i).1 < 0) : End x1 s i (nth x1 i).2.2
  | go {i c : Nat} {v : List Int} (h : 0 ≤ (nth x1 i).1) (hc : nth s i = (c : Int)) (e : End x1 s (nth (nth x1 i).2.1 c).toNat v) : End x1 s i v
theorem End.uniq {x1 : List Nd} {s : List Int} {i : Nat} {v w : List Int} (h : End x1 s i v) : End x1 s i w → v = w := by
  induction h with
  | leaf h =>
    intro h'
    cases h' with
    | leaf _ => rfl
    | go h1 _ _ => omega
  | go h hc e ih =>
    intro h'
    cases h' with
    | leaf h1 => omega
    | go h1 hc' e' =>
      rw [hc] at hc'
      have := Int.ofNat.inj hc'
      subst this
      exact ih e'
theorem Solved.end {n : Int} {x1 : List Nd} {ch : List Int} {vals : List (List Int)} (t : Tree n x1) (h : Solved n x1 ch vals (-1)) : ∀ d i : Nat, i < x1.length → x1.length - i ≤ d → End x1 ch i (nth vals i) := by
  intro d
  induction d with
  | zero => intro i hi hd; omega
  | succ d ih =>
    intro i hi hd
    rcases h.at_ i hi (by omega) with ⟨a, b⟩ | ⟨a, c, b1, b2, b3, -⟩
    · rw [b]; exact .leaf a
    · refine .go a b1 ?_
      rw [b3]
      rcases t.node i hi with hn | hn
      · omega
      · have := hn.2.2.2.2.2 c b2
        exact ih _ (by omega) (by omega)
def Plan (x1 : List Nd) (s : List Int) : Prop := s.length = x1.length ∧ ∀ i, i < x1.length → 0 ≤ (nth x1 i).1 → 0 ≤ nth s i ∧ nth s i < (nth x1 i).2.1.length
theorem End.len {n : Int} {x1 : List Nd} {s : List Int} {i : Nat} {v : List Int} (t : Tree n x1) (p : Plan x1 s) (h : End x1 s i v) : i < x1.length → (v.length : Int) = n := by
  induction h with
  | @leaf i h =>
    intro hi
    rcases t.node i hi with hn | hn
    · exact hn.2.2.1
    · omega
  | @go i c v h hc e ih =>
    intro hi
    have := p.2 i hi h
    rcases t.node i hi with hn | hn
    · omega
    · have := hn.2.2.2.2.2 c (by omega)
      exact ih (by omega)
theorem play_ok {n : Int} {x1 : List Nd} {s : List Int} (t : Tree n x1) (e : tree_Check_m n x1 = some 0) (p : Plan x1 s) : ∃ path v, tree_Play_m n x1 s = some (path, v, 0) ∧ End x1 s 0 v := by
  have : Ok (tree_Play_m n x1 s) (fun r => r.2.2 = 0 ∧ End x1 s 0 r.2.1) := by
    have m1 := t.m1; have m30 := t.m30; have n6 := t.n6
    unfold tree_Play_m
    rw [e, Option.bind_some, if_neg (by decide), if_neg (by simp [p.1]), ok_bindR]
    refine ok_loopM (fun q : Int × List Int => ∃ i : Nat, q.1 = (i : Int) ∧ i < x1.length ∧ q.2.length ≤ i + 1 ∧ ∀ v, End x1 s i v → End x1 s 0 v) (fun q => x1.length - q.1.toNat) (fun q hI => ?_) _ _ ⟨0, rfl, by omega, by simp, fun v h => h⟩ (by simp only; omega)
    obtain ⟨x, l⟩ := q
    obtain ⟨i, hx, hil, hll, hend⟩ := hI
    simp only at hx hll
    subst hx
    unfold tree_Play_b1
    simp only
    rw [idx_nat, nth_at hil, Option.bind_some]
    by_cases hp : (nth x1 i).1 ≥ 0
    · have hv := p.2 i hil hp
      obtain ⟨c, hc⟩ : ∃ c : Nat, nth s i = (c : Int) := ⟨(nth s i).toNat, by omega⟩
      rw [hc] at hv
      have hkid : ∀ k, k < (nth x1 i).2.1.length → (i : Int) < nth (nth x1 i).2.1 k ∧ nth (nth x1 i).2.1 k < x1.length := by
        rcases t.node i hil with hn | hn
        · omega
        · exact hn.2.2.2.2.2
      have kc := hkid c (by omega)
      obtain ⟨b, hb⟩ : ∃ b : Nat, nth (nth x1 i).2.1 c = (b : Int) := ⟨(nth (nth x1 i).2.1 c).toNat, by omega⟩
      rw [if_pos (by simpa using hp), idx_nat, nth_at (by rw [p.1]; exact hil), Option.bind_some, hc, if_neg (by simp), Option.bind_some, ok_bindF, ok_some, flok_nx, if_neg (by simp; omega), Option.bind_some, idx_nat, nth_at (by omega), Option.bind_some, hb, chk_t (by simp; omega), Option.bind_some, ok_some, flok_nx]
      refine ⟨⟨b, rfl, by omega, by simp; omega, fun v h => hend v (.go hp hc (by rw [hb, Int.toNat_natCast]; exact h))⟩, by simp only; omega⟩
    · rw [if_neg (by simpa using hp), ok_some, flok_br]
      have hlf : ((nth x1 i).2.2.length : Int) = n := by
        rcases t.node i hil with hn | hn
        · exact hn.2.2.1
        · omega
      rw [idx_nat, nth_at hil, Option.bind_some, chk_t (by simp; omega), Option.bind_some, ok_some]
      refine ⟨rfl, ?_⟩
      simp only [List.nil_append]
      exact hend _ (.leaf (by omega))
  obtain ⟨⟨path, v, c⟩, h1, h2, h3⟩ := this
  simp only at h2 h3
  subst h2
  exact ⟨path, v, h1, h3⟩
theorem Solved.plan {n : Int} {x1 : List Nd} {ch : List Int} {vals : List (List Int)} (h : Solved n x1 ch vals (-1)) : Plan x1 ch := ⟨h.l1, fun i hi hp => by
  rcases h.at_ i hi (by omega) with ⟨a, -⟩ | ⟨a, c, b1, b2, -⟩
  · omega
  · omega⟩
/-- nobody does better alone -/
theorem kuhn {n : Int} {x1 : List Nd} {ch s : List Int} {vals : List (List Int)} {p : Nat} (t : Tree n x1) (h : Solved n x1 ch vals (-1)) (hs : Plan x1 s) (dev : ∀ i, i < x1.length → 0 ≤ (nth x1 i).1 → (nth x1 i).1 ≠ p → nth s i = nth ch i) {i : Nat} {v : List Int} (e : End x1 s i v) : i < x1.length → nth v p ≤ nth (nth vals i) p := by
  induction e with
  | @leaf i hl =>
    intro hi
    rcases h.at_ i hi (by omega) with ⟨a, b⟩ | ⟨a, -⟩
    · rw [b]; exact Int.le_refl _
    · omega
  | @go i c v hp hc e ih =>
    intro hi
    have hv := hs.2 i hi hp
    have hkid : ∀ k, k < (nth x1 i).2.1.length → (i : Int) < nth (nth x1 i).2.1 k ∧ nth (nth x1 i).2.1 k < x1.length := by
      rcases t.node i hi with hn | hn
      · omega
      · exact hn.2.2.2.2.2
    have hcl : c < (nth x1 i).2.1.length := by omega
    have hk := hkid c hcl
    have hv' := ih (by omega)
    rcases h.at_ i hi (by omega) with ⟨a, b⟩ | ⟨a, d, b1, b2, b3, b4⟩
    · omega
    · rw [b3]
      by_cases hpp : (nth x1 i).1 = p
      · have := b4 c hcl
        rw [hpp, Int.toNat_natCast] at this
        omega
      · have := dev i hi hp hpp
        rw [hc, b1] at this
        have := Int.ofNat.inj this
        subst this
        exact hv'
end Go.Pu
