/- Backward through the tree: the first of the best moves. -/
import Derived.Test.YtfekdillbgblkaaWTreesOwnModels
import Derived.Test.YtfekdillbgblkaaPuTree
set_option linter.all false
namespace Go.Pu
open Go.Fw Go.Mo
/-- node j is solved -/
def AtF (x1 : List Nd) (ch : List Int) (vals : List (List Int)) (j : Nat) : Prop :=
  ((nth x1 j).1 < 0 ∧ nth vals j = (nth x1 j).2.2 ∧ nth ch j = -1) ∨
  (0 ≤ (nth x1 j).1 ∧ ∃ c : Nat, nth ch j = (c : Int) ∧ c < (nth x1 j).2.1.length ∧ nth vals j = nth vals (nth (nth x1 j).2.1 c).toNat ∧
    (∀ k, k < (nth x1 j).2.1.length → nth (nth vals (nth (nth x1 j).2.1 k).toNat) (nth x1 j).1.toNat ≤ nth (nth vals (nth (nth x1 j).2.1 c).toNat) (nth x1 j).1.toNat) ∧
    ∀ k, k < c → nth (nth vals (nth (nth x1 j).2.1 k).toNat) (nth x1 j).1.toNat < nth (nth vals (nth (nth x1 j).2.1 c).toNat) (nth x1 j).1.toNat)
theorem AtF.set {n : Int} {x1 : List Nd} {ch : List Int} {vals : List (List Int)} {i j : Nat} {c : Int} {v : List Int} (t : Tree n x1) (h : AtF x1 ch vals j) (hij : i < j) (hj : j < x1.length) (h1 : ch.length = x1.length) (h2 : vals.length = x1.length) : AtF x1 (ch.set i c) (vals.set i v) j := by
  have key : ∀ q : Nat, i < q → nth (vals.set i v) q = nth vals q := fun q hq => by rw [nth_set (by omega), if_neg (by omega)]
  have kc : nth (ch.set i c) j = nth ch j := by rw [nth_set (by omega), if_neg (by omega)]
  rcases t.node j hj with hn | hn
  · rcases h with ⟨a, b⟩ | ⟨a, -⟩
    · exact .inl ⟨a, by rw [key j hij]; exact b.1, by rw [kc]; exact b.2⟩
    · omega
  · rcases h with ⟨a, b⟩ | ⟨a, d, b1, b2, b3, b4, b5⟩
    · omega
    · have hk : ∀ k, k < (nth x1 j).2.1.length → i < (nth (nth x1 j).2.1 k).toNat := fun k hk => by have := hn.2.2.2.2.2 k hk; omega
      refine .inr ⟨a, d, by rw [kc]; exact b1, b2, by rw [key j hij, key _ (hk d b2)]; exact b3, fun k hkl => ?_, fun k hkl => ?_⟩
      · rw [key _ (hk k hkl), key _ (hk d b2)]; exact b4 k hkl
      · rw [key _ (hk k (by omega)), key _ (hk d b2)]; exact b5 k hkl
structure SolvedF (n : Int) (x1 : List Nd) (ch : List Int) (vals : List (List Int)) (i : Int) : Prop where
  l1 : ch.length = x1.length
  l2 : vals.length = x1.length
  at_ : ∀ j : Nat, j < x1.length → i < j → AtF x1 ch vals j
  len : ∀ j : Nat, j < x1.length → i < j → ((nth vals j).length : Int) = n
theorem pickF_ok {n : Int} {x1 : List Nd} {vals : List (List Int)} {y : Nd} {i : Nat} (h2 : vals.length = x1.length) (hn : NodeOk n x1.length i y) (hp : 0 ≤ y.1) (hl : ∀ j : Nat, j < x1.length → (i : Int) < j → ((nth vals j).length : Int) = n) :
    Ok (rangeL (ρ := (List Int) × (List (List Int)) × Int) (γ := ((List Int) × (List (List Int)) × Int)) (tree_Solve_b2 vals y) y.2.1 0 (0 : Int)) (FlOk (fun d => ∃ c : Nat, d = (c : Int) ∧ c < y.2.1.length ∧ (∀ k, k < y.2.1.length → nth (nth vals (nth y.2.1 k).toNat) y.1.toNat ≤ nth (nth vals (nth y.2.1 c).toNat) y.1.toNat) ∧ ∀ k, k < c → nth (nth vals (nth y.2.1 k).toNat) y.1.toNat < nth (nth vals (nth y.2.1 c).toNat) y.1.toNat) (fun _ => False) (fun _ => False)) := by
  rcases hn with hn | ⟨n1, n2, n3, n4, n5, n6⟩
  · omega
  refine ok_rangeL (fun k (d : Int) => ∃ c : Nat, d = (c : Int) ∧ c < y.2.1.length ∧ (∀ j, j < k → nth (nth vals (nth y.2.1 j).toNat) y.1.toNat ≤ nth (nth vals (nth y.2.1 c).toNat) y.1.toNat) ∧ (∀ j, j < c → nth (nth vals (nth y.2.1 j).toNat) y.1.toNat < nth (nth vals (nth y.2.1 c).toNat) y.1.toNat) ∧ (0 < k → c < k) ∧ (k = 0 → c = 0)) ⟨0, rfl, by omega, fun j hj => by omega, fun j hj => by omega, fun h => by omega, fun _ => rfl⟩ (fun k z d hk hI => ?_) fun d ⟨c, h1, h2, h3, h4, _⟩ => ⟨c, h1, h2, h3, h4⟩
  obtain ⟨hz, hkl⟩ := nth_of hk
  obtain ⟨c, rfl, hc, hI, hF, hck, hc0⟩ := hI
  have k1 := n6 k hkl
  have k2 := n6 c hc
  obtain ⟨a, ha⟩ : ∃ a : Nat, nth y.2.1 k = (a : Int) := ⟨(nth y.2.1 k).toNat, by omega⟩
  obtain ⟨b, hb⟩ : ∃ b : Nat, nth y.2.1 c = (b : Int) := ⟨(nth y.2.1 c).toNat, by omega⟩
  obtain ⟨p, hp'⟩ : ∃ p : Nat, y.1 = (p : Int) := ⟨y.1.toNat, by omega⟩
  rw [hz] at ha
  rw [hb] at hI hF
  have la := hl a (by omega) (by omega)
  have lb := hl b (by omega) (by omega)
  have hka : nth y.2.1 k = (a : Int) := by rw [hz]; exact ha
  unfold tree_Solve_b2
  rw [ha, idx_nat, nth_at (by omega), Option.bind_some, hp', idx_nat, nth_at (by omega), Option.bind_some, idx_nat, nth_at hc, Option.bind_some, hb, idx_nat, nth_at (by omega), Option.bind_some, idx_nat, nth_at (by omega), Option.bind_some]
  rw [hp'] at hI hF
  simp only [Int.toNat_natCast, ok_ite, ok_some, flok_nx, decide_eq_true_eq] at hI hF ⊢
  refine ⟨fun hgt => ⟨k, rfl, hkl, fun j hj => ?_, fun j hj => ?_, fun _ => by omega, fun h => by omega⟩, fun hle => ⟨c, rfl, hc, fun j hj => ?_, fun j hj => ?_, fun _ => by by_cases h : k = 0 <;> omega, fun h => by omega⟩⟩
  · rw [hka, Int.toNat_natCast]
    by_cases e : j = k
    · rw [e, hka, Int.toNat_natCast]; omega
    · have := hI j (by omega); omega
  · rw [hka, Int.toNat_natCast]
    have := hI j hj; omega
  · rw [hb, Int.toNat_natCast]
    by_cases e : j = k
    · rw [e, hka, Int.toNat_natCast]; omega
    · exact hI j (by omega)
  · rw [hb, Int.toNat_natCast]
    exact hF j hj
theorem solveF_ok {n : Int} {x1 : List Nd} (t : Tree n x1) (e : tree_Check_m n x1 = some 0) : ∃ ch vals, tree_Solve_m n x1 = some (ch, vals, 0) ∧ SolvedF n x1 ch vals (-1) := by
  have : Ok (tree_Solve_m n x1) (fun p => p.2.2 = 0 ∧ SolvedF n x1 p.1 p.2.1 (-1)) := by
    have m1 := t.m1; have m30 := t.m30
    unfold tree_Solve_m
    rw [e, Option.bind_some, if_neg (by decide), chk_t (by omega), Option.bind_some, Option.bind_some, ok_bindR, wsub_of (by omega) (by omega), Int.toNat_natCast]
    refine ok_loopM (fun s : List Int × List (List Int) × Int => -1 ≤ s.2.2 ∧ s.2.2 < x1.length ∧ SolvedF n x1 s.1 s.2.1 s.2.2) (fun s => (s.2.2 + 1).toNat) (fun s hI => ?_) _ _ ⟨by simp only; omega, by simp only; omega, ⟨by simp, by simp, fun j hj hlt => by simp only at hlt; omega, fun j hj hlt => by simp only at hlt; omega⟩⟩ (by simp only; omega)
    obtain ⟨ch, vals, i⟩ := s
    obtain ⟨i1, i2, hs⟩ := hI
    simp only at i1 i2 hs
    unfold tree_Solve_b1
    simp only
    by_cases hneg : i < 0
    · have hi : i = -1 := by omega
      rw [if_neg (by simpa using hneg), ok_some, flok_br, ok_some]
      rw [hi] at hs
      exact ⟨rfl, hs⟩
    · obtain ⟨i, rfl⟩ : ∃ k : Nat, i = (k : Int) := ⟨i.toNat, by omega⟩
      have hil : i < x1.length := by omega
      have hn := t.node i hil
      have l1 := hs.l1; have l2 := hs.l2
      rw [if_pos (by simp), idx_nat, nth_at hil, Option.bind_some, wsub_of (by omega) (by omega)]
      have next : ∀ (c : Int) (v : List Int), AtF x1 (ch.set i c) (vals.set i v) i → (v.length : Int) = n → SolvedF n x1 (ch.set i c) (vals.set i v) ((i : Int) - 1) := fun c v hat hv => ⟨by simpa using l1, by simpa using l2, fun j hj hlt => by
        by_cases e : j = i
        · rw [e]; exact hat
        · exact (hs.at_ j hj (by omega)).set t (by omega) hj l1 l2, fun j hj hlt => by
        rw [nth_set (by omega)]
        by_cases e : j = i
        · rw [if_pos e]; exact hv
        · rw [if_neg e]; exact hs.len j hj (by omega)⟩
      by_cases hp : (nth x1 i).1 < 0
      · have hlf : (nth x1 i).1 = -1 ∧ (nth x1 i).2.1.length = 0 ∧ ((nth x1 i).2.2.length : Int) = n := by
          rcases hn with hn | hn
          · exact ⟨hn.1, hn.2.1, hn.2.2.1⟩
          · omega
        have n6 := t.n6
        rw [if_pos (by simpa using hp), chk_t (by simp; omega), Option.bind_some, idx_nat, nth_at (by omega), Option.bind_some, idx_nat, nth_at (by omega), Option.bind_some, ok_some, flok_nx, Int.toNat_natCast, List.nil_append]
        refine ⟨⟨by simp only; omega, by simp only; omega, next _ _ (.inl ⟨hp, by rw [nth_set (by omega), if_pos rfl], by rw [nth_set (by omega), if_pos rfl]⟩) hlf.2.2⟩, by simp only; omega⟩
      · rw [if_neg (by simpa using hp), ok_bindF]
        refine (pickF_ok l2 hn (by omega) hs.len).mono fun d hd => ?_
        cases d with
        | br _ => exact hd.elim
        | rt _ => exact hd.elim
        | nx d =>
          obtain ⟨c, rfl, hc, hmax, hfst⟩ := (flok_nx.1 hd)
          have hkid : ∀ k, k < (nth x1 i).2.1.length → (i : Int) < nth (nth x1 i).2.1 k ∧ nth (nth x1 i).2.1 k < x1.length := by
            rcases hn with hn | hn
            · omega
            · exact hn.2.2.2.2.2
          have kc := hkid c hc
          obtain ⟨b, hb⟩ : ∃ b : Nat, nth (nth x1 i).2.1 c = (b : Int) := ⟨(nth (nth x1 i).2.1 c).toNat, by omega⟩
          have lb := hs.len b (by omega) (by omega)
          have n6 := t.n6
          rw [flok_nx, idx_nat, nth_at (by omega), Option.bind_some, idx_nat, nth_at hc, Option.bind_some, hb, idx_nat, nth_at (by omega), Option.bind_some, chk_t (by simp; omega), Option.bind_some, idx_nat, nth_at (by omega), Option.bind_some, ok_some, flok_nx, Int.toNat_natCast, List.nil_append]
          refine ⟨⟨by simp only; omega, by simp only; omega, next _ _ (.inr ⟨by omega, c, by rw [nth_set (by omega), if_pos rfl], hc, ?_, fun k hk => ?_, fun k hk => ?_⟩) lb⟩, by simp only; omega⟩
          · rw [nth_set (by omega), if_pos rfl, nth_set (by omega), hb, Int.toNat_natCast, if_neg (by omega)]
          · have := hmax k hk
            have kk := hkid k hk
            rw [nth_set (by omega), if_neg (by omega), nth_set (by omega), if_neg (by omega)]
            exact this
          · have := hfst k hk
            have kk := hkid k (by omega)
            rw [nth_set (by omega), if_neg (by omega), nth_set (by omega), if_neg (by omega)]
            exact this
  obtain ⟨⟨ch, vals, c⟩, h1, h2, h3⟩ := this
  simp only at h2 h3
  subst h2
  exact ⟨ch, vals, h1, h3⟩
end Go.Pu
