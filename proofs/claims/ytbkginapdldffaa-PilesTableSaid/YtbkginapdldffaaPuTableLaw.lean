/- The plain law: each Grundy number is the least that is not come to in one move. -/
import Derived.Test.YtbkginapdldffaaWPilesTableModels
import Derived.Test.YtbkginapdldffaaPuTable
import Derived.Test.YtbkginapdldffaaPuNims
set_option linter.all false
namespace Go.Pu
open Go.Fw Go.Mo
theorem contains_at (l : List Int) (x : Int) : slices_Contains_int_int_m l x = some (decide (x ∈ l)) := by
  unfold slices_Contains_int_int_m slices_Index_int_int_m
  rw [rangeL_first (γ := Unit) (body := slices_Index_int_int_b1 x) (fun y => x == y) l (fun i y _ => rfl)]
  by_cases hl : l.any (fun y => x == y) = true
  · rw [if_pos hl]
    simp only [bindR, Option.bind_some]
    have hx : x ∈ l := by
      rw [List.any_eq_true] at hl
      obtain ⟨y, hy, hy'⟩ := hl
      have : x = y := by simpa using hy'
      rw [this]; exact hy
    simp only [Nat.zero_add, hx, decide_true, Option.some.injEq, decide_eq_true_eq]
    omega
  · rw [if_neg hl]
    have hx : x ∉ l := fun h => hl (List.any_eq_true.2 ⟨x, h, by simp⟩)
    simp only [bindR, Option.bind_some, hx, decide_false]
    rfl
theorem equal_rfl (l : List Int) : slices_Equal_int_int_m l l = some true := by
  unfold slices_Equal_int_int_m
  rw [if_neg (by simp)]
  obtain ⟨_, e, _⟩ := rangeL_inv (γ := Unit) (body := slices_Equal_int_int_b1 l) (fun _ _ => True) l 0 () trivial (fun k x s hk _ => by
    refine ⟨(), ?_, trivial⟩
    unfold slices_Equal_int_int_b1
    rw [idx_nat, Nat.zero_add, hk]
    simp)
  rw [e]; rfl
/-- whatever Table answers -/
theorem table_any (n : Int) (s : List Int) : (∃ e : Int, e ≠ 0 ∧ piles_Table_m n s = some ([], e)) ∨ (0 ≤ n ∧ n ≤ 40 ∧ Steps s) := by
  by_cases hn : 0 ≤ n ∧ n ≤ 40
  · by_cases hl : s.length ≤ 6
    · by_cases hs : ∀ x ∈ s, 1 ≤ x ∧ x ≤ 40
      · exact .inr ⟨hn.1, hn.2, hl, hs⟩
      · left
        refine ⟨3, by decide, ?_⟩
        unfold piles_Table_m
        rw [if_neg (by simp; omega)]
        simp only [bindR]
        rw [if_neg (by simp; omega), if_neg (by simp; omega)]
        have key : ∀ (l : List Int) (i : Nat), (¬ ∀ x ∈ l, 1 ≤ x ∧ x ≤ 40) → rangeL (γ := Unit) piles_Table_b1 l i () = some (.rt ([], (3 : Int))) := by
          intro l
          induction l with
          | nil => intro i h; exact absurd (by simp) h
          | cons x l ih =>
            intro i h
            unfold rangeL
            by_cases hx : 1 ≤ x ∧ x ≤ 40
            · have hb : piles_Table_b1 i x () = some (.nx ()) := by
                unfold piles_Table_b1
                rw [if_neg (by simp; omega)]
                simp only [bindF]
                rw [if_neg (by simp; omega)]
              rw [hb]
              exact ih (i + 1) (fun h' => h (by intro y hy; rcases List.mem_cons.1 hy with rfl | hy; exact hx; exact h' y hy))
            · have hb : piles_Table_b1 i x () = some (.rt ([], (3 : Int))) := by
                unfold piles_Table_b1
                by_cases h1 : x < 1
                · rw [if_pos (by simpa using h1)]; rfl
                · rw [if_neg (by simpa using h1)]
                  simp only [bindF]
                  rw [if_pos (by simp; omega)]
              rw [hb]
        rw [key s 0 hs]
    · left
      refine ⟨2, by decide, ?_⟩
      unfold piles_Table_m
      rw [if_neg (by simp; omega)]
      simp only [bindR]
      rw [if_neg (by simp; omega), if_pos (by simp; omega)]
  · left
    refine ⟨1, by decide, ?_⟩
    unfold piles_Table_m
    by_cases h1 : n < 0
    · rw [if_pos (by simpa using h1)]; rfl
    · rw [if_neg (by simpa using h1)]
      simp only [bindR]
      rw [if_pos (by simp; omega)]
theorem seen_list (t : List Int) (e : Int) (x : Nat) (hx : x ≤ 40) : ∀ (s : List Int) (i : Nat) (b : List Int), (∀ k ∈ s, 1 ≤ k ∧ k ≤ 40) → x < t.length → b.length + s.length ≤ 12 →
    ∃ b' : List Int, rangeL (γ := Unit) (pk_PilesTable_b2 x (t, e)) s i b = some (.nx b') ∧ ∀ y, y ∈ b' ↔ y ∈ b ∨ Reach t s x y
  | [], i, b, _, _, _ => ⟨b, rfl, fun y => by simp [Reach]⟩
  | k :: s, i, b, hs, ht, hb => by
    have hk := hs k (by simp)
    have hs' : ∀ k ∈ s, 1 ≤ k ∧ k ≤ 40 := fun k hk => hs k (by simp [hk])
    simp only [List.length_cons] at hb
    by_cases hkx : k ≤ (x : Int)
    · have hi : ((x : Int) - k).toNat < t.length := by omega
      have hbody : pk_PilesTable_b2 x (t, e) i k b = some (.nx (b ++ [t[((x : Int) - k).toNat]])) := by
        unfold pk_PilesTable_b2
        rw [if_pos (by simpa using hkx), wsub_of (by omega) (by omega), idx_at (by omega), List.getElem?_eq_getElem hi]
        simp only [Option.bind_some]
        rw [chk_t (by simp; omega)]
        rfl
      obtain ⟨b', e', h⟩ := seen_list t e x hx s (i + 1) (b ++ [t[((x : Int) - k).toNat]]) hs' ht (by simp; omega)
      refine ⟨b', by unfold rangeL; rw [hbody]; exact e', fun y => ?_⟩
      rw [h y, List.mem_append, List.mem_singleton]
      constructor
      · rintro ((h | h) | ⟨q, hq, hq1, hq2⟩)
        · exact .inl h
        · exact .inr ⟨k, by simp, hkx, by rw [List.getElem?_eq_getElem hi, h]⟩
        · exact .inr ⟨q, by simp [hq], hq1, hq2⟩
      · rintro (h | ⟨q, hq, hq1, hq2⟩)
        · exact .inl (.inl h)
        · rcases List.mem_cons.1 hq with rfl | hq
          · rw [List.getElem?_eq_getElem hi] at hq2
            exact .inl (.inr (Option.some.inj hq2).symm)
          · exact .inr ⟨q, hq, hq1, hq2⟩
    · have hbody : pk_PilesTable_b2 x (t, e) i k b = some (.nx b) := by
        unfold pk_PilesTable_b2
        rw [if_neg (by simpa using hkx)]
      obtain ⟨b', e', h⟩ := seen_list t e x hx s (i + 1) b hs' ht (by omega)
      refine ⟨b', by unfold rangeL; rw [hbody]; exact e', fun y => ?_⟩
      rw [h y]
      constructor
      · rintro (h | ⟨q, hq, hq1, hq2⟩)
        · exact .inl h
        · exact .inr ⟨q, by simp [hq], hq1, hq2⟩
      · rintro (h | ⟨q, hq, hq1, hq2⟩)
        · exact .inl h
        · rcases List.mem_cons.1 hq with rfl | hq
          · exact absurd hq1 hkx
          · exact .inr ⟨q, hq, hq1, hq2⟩
theorem table5 : piles_Table_m 5 [1, 2] = some ([0, 1, 2, 0, 1, 2], 0) := by decide +kernel
theorem PilesTable (x0 : Int) (_ : (Lit.int .i64 x0).wf = true) (x1 : List Int) (_ : (∀ x ∈ x1, (Lit.int .i64 x).wf = true) ∧ x1.length ≤ maxLen) : pk_PilesTable_m x0 x1 = some true := by
  unfold pk_PilesTable_m
  rw [table5]
  simp only [Option.bind_some, bne_self_eq_false, Bool.false_eq_true, if_false, equal_rfl, nims_t, Bool.not_true, bindR]
  rcases table_any x0 x1 with ⟨e, he, ht⟩ | ⟨h0, h1, hs⟩
  · rw [ht]
    have he' : (e != 0) = true := by simpa using he
    simp only [Option.bind_some, he', if_true]
    rfl
  · obtain ⟨t, e, hl, hg⟩ := table_ok h0 h1 hs
    rw [e]
    simp only [Option.bind_some, bne_self_eq_false, Bool.false_eq_true, if_false]
    have hlen : (((t.length : Nat) : Int) != wadd x0 1) = false := by
      rw [wadd_of (by omega) (by omega)]
      simp; omega
    rw [hlen]
    simp only [Bool.false_eq_true, if_false]
    obtain ⟨_, e2, _⟩ := rangeN_inv (γ := Unit) (body := pk_PilesTable_b1 (t, 0) x1) (fun _ _ => True) t.length 0 () trivial (fun x u hx _ => by
      refine ⟨(), ?_, trivial⟩
      rw [Nat.zero_add]
      obtain ⟨g, g1, g2, g3, g4⟩ := hg x (by omega)
      unfold pk_PilesTable_b1
      simp only [idx_nat, g1, Option.bind_some]
      obtain ⟨b, eb, hb⟩ := seen_list t 0 x (by omega) x1 0 [] hs.2 hx (by have := hs.1; simp; omega)
      rw [eb]
      simp only [bindF, contains_at, Option.bind_some]
      have hn : (g : Int) ∉ b := fun h => by
        rcases (hb _).1 h with h | h
        · cases h
        · exact g3 h
      simp only [hn, decide_false, Bool.false_eq_true, if_false]
      rw [chk_t (by omega)]
      simp only [Option.bind_some, Int.toNat_natCast]
      obtain ⟨_, e3, _⟩ := rangeN_inv (γ := Unit) (body := pk_PilesTable_b3 b) (fun _ _ => True) g 0 () trivial (fun y u hy _ => by
        refine ⟨(), ?_, trivial⟩
        unfold pk_PilesTable_b3
        rw [Nat.zero_add, contains_at]
        have hm : (y : Int) ∈ b := (hb _).2 (.inr (g4 y hy))
        simp [hm])
      rw [e3])
    rw [e2]
end Go.Pu
