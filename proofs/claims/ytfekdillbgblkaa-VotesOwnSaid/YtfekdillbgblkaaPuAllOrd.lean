/- The enumeration of all orders. -/
import Derived.Test.YtfekdillbgblkaaWVotesOwnModels
import Derived.Test.YtfekdillbgblkaaPuFar
set_option linter.all false
namespace Go.Pu
open Go.Fw Go.Mo
/-- k of n sides in a row, none twice -/
def Row_ (n k : Nat) (p : List Int) : Prop := p.length = k ∧ p.Nodup ∧ ∀ x ∈ p, 0 ≤ x ∧ x < n
/-- in the dictionary's order -/
def lexLt : List Int → List Int → Prop
  | [], _ => False
  | _ :: _, [] => False
  | x :: p, y :: q => x < y ∨ (x = y ∧ lexLt p q)
theorem lex_append {p q : List Int} (h : p.length = q.length) (x y : Int) (hl : lexLt p q) : lexLt (p ++ [x]) (q ++ [y]) := by
  induction p generalizing q with
  | nil => exact hl.elim
  | cons a p ih =>
    cases q with
    | nil => exact hl.elim
    | cons b q =>
      rcases hl with hl | ⟨rfl, hl⟩
      · exact .inl hl
      · exact .inr ⟨rfl, ih (by simpa using h) hl⟩
theorem lex_last (p : List Int) {x y : Int} (h : x < y) : lexLt (p ++ [x]) (p ++ [y]) := by
  induction p with
  | nil => exact .inl h
  | cons a p ih => exact .inr ⟨rfl, ih⟩
/-- all rows of k, each once, rising -/
structure Rows_ (n k : Nat) (l : List (List Int)) : Prop where
  row : ∀ p ∈ l, Row_ n k p
  all : ∀ p, Row_ n k p → p ∈ l
  lex : l.Pairwise lexLt
def desc : Nat → Nat → Nat | _, 0 => 1 | n, k + 1 => desc n k * (n - k)
theorem free_count {n k : Nat} {p : List Int} (h : Row_ n k p) (hk : k ≤ n) : sumN n (fun x => b1 (!decide ((x : Int) ∈ p))) = n - k := by
  have e : sumN n (fun x => b1 (decide ((x : Int) ∈ p))) = k := by
    obtain ⟨h1, h2, h3⟩ := h
    subst h1
    have key : ∀ (p : List Int), p.Nodup → (∀ x ∈ p, 0 ≤ x ∧ x < (n : Int)) → sumN n (fun x => b1 (decide ((x : Int) ∈ p))) = p.length := by
      intro p
      induction p with
      | nil => intro _ _; simp [b1, sumN_zero]
      | cons a p ih =>
        intro hnd hb
        have ha := hb a (by simp)
        have hnd' := List.nodup_cons.1 hnd
        rw [List.length_cons, sumN_congr (g := fun x => b1 (decide ((x : Int) ∈ p)) + if x = a.toNat then 1 else 0) (fun x hx => ?_), sumN_add, ih hnd'.2 fun x hx => hb x (by simp [hx]), sumN_single (by omega)]
        · omega
        · by_cases hxa : x = a.toNat
          · subst hxa
            have : ((a.toNat : Nat) : Int) = a := by omega
            rw [this]
            simp [b1, hnd'.1]
          · have : (x : Int) ≠ a := by omega
            simp [b1, hxa, this]
    exact key p h2 h3
  have : sumN n (fun x => b1 (!decide ((x : Int) ∈ p)) + b1 (decide ((x : Int) ∈ p))) = sumN n (fun _ => 1) := sumN_congr fun x _ => by cases decide ((x : Int) ∈ p) <;> simp [b1]
  rw [sumN_add, sumN_const, e] at this
  omega
theorem rows_ord {n : Nat} {p : List Int} (h : Row_ n n p) : Ord n p := by
  obtain ⟨h1, h2, h3⟩ := h
  refine ⟨h1, fun x => ⟨fun hx => h3 x hx, fun hx => ?_⟩, h2⟩
  refine Classical.byContradiction fun hno => ?_
  have hnd : ((x :: p).map Int.toNat).Nodup := by
    unfold List.Nodup
    rw [List.pairwise_map]
    have : (x :: p).Nodup := List.nodup_cons.2 ⟨hno, h2⟩
    refine this.imp_of_mem fun ha hb hne => ?_
    have b : ∀ z ∈ (x :: p), 0 ≤ z := fun z hz => by
      rcases List.mem_cons.1 hz with rfl | hz
      · exact hx.1
      · exact (h3 z hz).1
    have := b _ ha; have := b _ hb
    omega
  have := List.Nodup.length_le_of_subset hnd (l₂ := List.range n) (fun z hz => by
    obtain ⟨y, hy, rfl⟩ := List.mem_map.1 hz
    rcases List.mem_cons.1 hy with rfl | hy
    · exact List.mem_range.2 (by omega)
    · have := h3 y hy; exact List.mem_range.2 (by omega))
  simp at this; omega
theorem ord_row {n : Nat} {p : List Int} (h : Ord n p) : Row_ n n p := ⟨h.len, h.nd, fun x hx => (h.mem x).1 hx⟩
theorem desc_bound : ∀ n : Nat, n < 7 → ∀ k : Nat, k ≤ n → desc n k ≤ 720 := by decide
theorem all_ok {n : Nat} (h1 : 1 ≤ n) (h6 : n ≤ 6) : ∃ l, order_All_m (n : Int) = some (l, 0) ∧ Rows_ n n l ∧ l.length = desc n n := by
  have : Ok (order_All_m (n : Int)) (fun r => r.2 = 0 ∧ Rows_ n n r.1 ∧ r.1.length = desc n n) := by
    unfold order_All_m
    simp only [ok_bind, ok_bindR, ok_ite, ok_chk, ok_some, flok_nx, decide_eq_true_eq, Int.toNat_natCast]
    refine ⟨fun _ => by omega, fun _ => ⟨fun _ => by omega, fun _ => ⟨by omega, ?_⟩⟩⟩
    refine ok_rangeN (fun k l => Rows_ n k l ∧ l.length = desc n k) ⟨⟨fun p hp => by simp at hp; subst hp; exact ⟨rfl, by simp, by simp⟩, fun p hp => by simp [List.eq_nil_of_length_eq_zero hp.1], by simp⟩, rfl⟩ (fun k l hk hI => ?_) fun l hl => ?_
    · obtain ⟨hR, hlen⟩ := hI
      have hd := desc_bound n (by omega) k (by omega)
      unfold order_All_b1
      simp only [ok_bindF, ok_some]
      -- of the first i rows, each with each other side
      let J : Nat → Nat → List (List Int) → Prop := fun i x m => (∀ q ∈ m, ∃ j y, q = nth l j ++ [y] ∧ (j < i ∨ (j = i ∧ y < (x : Int))) ∧ j < l.length ∧ 0 ≤ y ∧ y < n ∧ y ∉ nth l j) ∧
        (∀ j y, (j < i ∨ (j = i ∧ y < (x : Int))) → j < l.length → 0 ≤ y → y < (n : Int) → y ∉ nth l j → nth l j ++ [y] ∈ m) ∧ m.Pairwise lexLt ∧ (m.length : Int) = i * (n - k) + (if i < l.length then sumN x (fun z => b1 (!decide ((z : Int) ∈ nth l i))) else 0)
      refine ok_rangeN (fun i m => J i 0 m) ⟨by simp, fun j y hj _ h0 _ _ => by omega, by simp, by simp [sumN]⟩ (fun i m hi hm => ?_) fun m hm => ?_
      · have hrow := hR.row _ (nth_mem hi)
        unfold order_All_b2
        simp only [idx_nat, nth_at hi, Option.bind_some, ok_bind, ok_chk, ok_bindF, ok_some, Int.toNat_natCast]
        refine ⟨by omega, ok_rangeN (fun x m => J i x m) hm (fun x m hx hm => ?_) fun m hm => ?_⟩
        · obtain ⟨m1, m2, m3, m4⟩ := hm
          rw [if_pos hi] at m4
          have sb := sumN_b1 (n := x) (f := fun z => !decide ((z : Int) ∈ nth l i))
          have hml : m.length ≤ 720 * 6 + 6 := by
            have : (i : Int) * (n - k) ≤ 720 * 6 := Int.mul_le_mul (by omega) (by omega) (by omega) (by omega)
            omega
          have hrl := hrow.1
          unfold order_All_b3
          rw [contains_ok, Option.bind_some]
          by_cases hin : (x : Int) ∈ nth l i
          · rw [decide_eq_true hin]
            simp only [Bool.not_true, Bool.false_eq_true, if_false, ok_some, flok_nx]
            refine ⟨fun q hq => ?_, fun j y hj hjl h0 hy hny => ?_, m3, ?_⟩
            · obtain ⟨j, y, e, h, g⟩ := m1 q hq
              exact ⟨j, y, e, by omega, g⟩
            · refine m2 j y ?_ hjl h0 hy hny
              rcases hj with hj | ⟨rfl, hj⟩
              · exact .inl hj
              · have : y ≠ x := fun e => by subst e; exact hny hin
                omega
            · rw [if_pos hi, m4]; simp only [sumN]; rw [decide_eq_true hin]; simp [b1]
          · rw [decide_eq_false hin]
            have hcl : slices_Clone_int_int_m (nth l i) = some (nth l i) := by unfold slices_Clone_int_int_m; rw [chk_t (by omega)]; rfl
            simp only [Bool.not_false, if_true, hcl, Option.bind_some, ok_bind, ok_chk, ok_some, flok_nx]
            refine ⟨by simp; omega, by simp; omega, fun q hq => ?_, fun j y hj hjl h0 hy hny => ?_, ?_, ?_⟩
            · rcases List.mem_append.1 hq with hq | hq
              · obtain ⟨j, y, e, h, g⟩ := m1 q hq
                exact ⟨j, y, e, by omega, g⟩
              · simp at hq
                exact ⟨i, x, hq, by omega, hi, by omega, by omega, hin⟩
            · by_cases hjx : j = i ∧ y = x
              · obtain ⟨rfl, rfl⟩ := hjx; simp
              · refine List.mem_append_left _ (m2 j y ?_ hjl h0 hy hny)
                omega
            · rw [List.pairwise_append]
              refine ⟨m3, by simp, fun q hq r hr => ?_⟩
              simp at hr
              subst hr
              obtain ⟨j, y, rfl, h, hjl, g⟩ := m1 q hq
              rcases h with h | ⟨rfl, h⟩
              · refine lex_append ?_ _ _ ?_
                · rw [(hR.row _ (nth_mem hjl)).1, hrow.1]
                · rw [nth_get hjl, nth_get hi]
                  exact List.pairwise_iff_getElem.1 hR.lex j i hjl hi h
              · exact lex_last _ h
            · rw [if_pos hi, List.length_append, Int.natCast_add, m4]; simp only [sumN]; rw [decide_eq_false hin]; simp [b1]; omega
        · obtain ⟨m1, m2, m3, m4⟩ := hm
          rw [if_pos hi, free_count hrow (by omega)] at m4
          refine flok_nx.2 ⟨fun q hq => ?_, fun j y hj hjl h0 hy hny => m2 j y (by omega) hjl h0 hy hny, m3, ?_⟩
          · obtain ⟨j, y, e, h, g⟩ := m1 q hq
            exact ⟨j, y, e, by omega, g⟩
          · rw [m4]
            have : (if i + 1 < l.length then sumN 0 (fun z => b1 (!decide ((z : Int) ∈ nth l (i + 1)))) else 0) = 0 := by split <;> rfl
            rw [this, Int.natCast_add, Int.add_mul]; simp
      · obtain ⟨m1, m2, m3, m4⟩ := hm
        rw [if_neg (by omega)] at m4
        refine flok_nx.2 ⟨⟨fun q hq => ?_, fun q hq => ?_, m3⟩, ?_⟩
        · obtain ⟨j, y, rfl, _, hjl, h0, hy, hny⟩ := m1 q hq
          obtain ⟨r1, r2, r3⟩ := hR.row _ (nth_mem hjl)
          refine ⟨by simp [r1], List.nodup_append.2 ⟨r2, by simp, fun a ha b hb => by simp at hb; subst hb; intro e; subst e; exact hny ha⟩, fun x hx => ?_⟩
          rcases List.mem_append.1 hx with hx | hx
          · exact r3 x hx
          · simp at hx; subst hx; exact ⟨h0, hy⟩
        · obtain ⟨q1, q2, q3⟩ := hq
          have hne : q ≠ [] := fun e => by subst e; simp at q1
          obtain ⟨p, y, rfl⟩ : ∃ p y, q = p ++ [y] := ⟨q.dropLast, q.getLast hne, (List.dropLast_concat_getLast hne).symm⟩
          rw [List.nodup_append] at q2
          have hp : Row_ n k p := ⟨by simpa using q1, q2.1, fun x hx => q3 x (by simp [hx])⟩
          obtain ⟨j, hj, hjp⟩ := mem_nth (hR.all p hp)
          have hy := q3 y (by simp)
          have hny : y ∉ nth l j := fun hh => by rw [hjp] at hh; exact q2.2.2 y hh y (by simp) rfl
          have := m2 j y (.inl hj) hj hy.1 hy.2 hny
          rwa [hjp] at this
        · have : ((desc n (k + 1) : Nat) : Int) = desc n k * (n - k) := by simp only [desc]; rw [Int.natCast_mul, Int.natCast_sub (by omega)]
          rw [← Int.natCast_inj, this, m4, hlen]; omega
    · exact ⟨trivial, hl⟩
  obtain ⟨⟨l, e⟩, g1, g2, g3⟩ := this
  simp only at g2 g3
  subst g2
  exact ⟨l, g1, g3⟩
end Go.Pu
