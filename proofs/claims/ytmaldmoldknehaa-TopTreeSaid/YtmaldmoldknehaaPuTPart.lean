/- The plain law: what is told of a node is told of it as if all began there. -/
import Derived.Test.YtmaldmoldknehaaWTopTreeModels
import Derived.Test.YtmaldmoldknehaaPuTreeF
import Derived.Test.YtmaldmoldknehaaPuEq
import Derived.Test.YtmaldmoldknehaaPuWithin
import Derived.Test.YtmaldmoldknehaaPuAuction
set_option linter.all false
namespace Go.Pu
open Go.Fw Go.Mo
theorem trees_y : pk_trees_m = some true := by decide +kernel
theorem tchk1_of {n : Int} {x1 : List Nd} {i : Nat} {y : Nd} (h : NodeOk n x1.length i y) (h6 : n ≤ 6) : tree_Check_b1 n x1 i y () = some (.nx ()) := by
  have key : Ok (tree_Check_b1 n x1 i y ()) (fun v => v = .nx ()) := by
    unfold tree_Check_b1
    rcases h with ⟨a1, a2, a3, a4⟩ | ⟨a1, a2, a3, a4, a5, a6⟩
    · rw [ok_bindF, if_neg (by rw [decide_eq_true_eq]; omega), ok_some, flok_nx, if_neg (by rw [decide_eq_true_eq]; omega), if_pos (by rw [decide_eq_true_eq]; omega), ok_bindF, if_neg (by rw [decide_eq_true_eq]; omega), ok_some, flok_nx, if_neg (by rw [bne_iff_ne]; omega), ok_bindF]
      refine ok_rangeL (fun _ _ => True) trivial (fun k x _ hk _ => ?_) fun _ _ => by rw [ok_some]
      obtain ⟨hx, hkl⟩ := nth_of hk
      have := a4 k hkl
      unfold tree_Check_b2
      rw [ok_bindF, if_neg (by rw [decide_eq_true_eq]; omega), ok_some, flok_nx, if_neg (by rw [decide_eq_true_eq]; omega), ok_some, flok_nx]; trivial
    · rw [ok_bindF, if_neg (by rw [decide_eq_true_eq]; omega), ok_some, flok_nx, if_neg (by rw [decide_eq_true_eq]; omega), if_neg (by rw [decide_eq_true_eq]; omega), ok_bindF, if_neg (by rw [decide_eq_true_eq]; omega), if_neg (by rw [decide_eq_true_eq]; omega), ok_some, flok_nx, if_neg (by rw [decide_eq_true_eq]; omega), ok_bindF]
      refine ok_rangeL (fun _ _ => True) trivial (fun k x _ hk _ => ?_) fun _ _ => by rw [ok_some]
      obtain ⟨hx, hkl⟩ := nth_of hk
      have := a6 k hkl
      unfold tree_Check_b3
      rw [ok_bindF, if_neg (by rw [decide_eq_true_eq]; omega), ok_some, flok_nx, if_neg (by rw [decide_eq_true_eq]; omega), ok_some, flok_nx]; trivial
  exact key.eq
theorem Tree.check {n : Int} {x1 : List Nd} (t : Tree n x1) : tree_Check_m n x1 = some 0 := by
  apply Ok.eq
  have h1 := t.n1; have h6 := t.n6; have m1 := t.m1; have m30 := t.m30
  unfold tree_Check_m
  rw [ok_bindR, if_neg (by rw [decide_eq_true_eq]; omega), ok_some, flok_nx, if_neg (by rw [decide_eq_true_eq]; omega), ok_bindR, if_neg (by rw [decide_eq_true_eq]; omega), ok_some, flok_nx, if_neg (by rw [decide_eq_true_eq]; omega), ok_bindR]
  refine ok_rangeL (fun _ _ => True) trivial (fun k y _ hk _ => ?_) fun _ _ => by rw [ok_some]
  obtain ⟨hy, hkl⟩ := nth_of hk
  have := t.node k hkl
  rw [hy] at this
  rw [tchk1_of this h6, ok_some, flok_nx]; trivial
/-- a node as it stands in the part that begins at a -/
def shf (a : Nat) (y : Nd) : Nd := (y.1, (y.2.1.map fun k => k - (a : Int), y.2.2))
def part_ (x1 : List Nd) (a : Nat) : List Nd := (x1.drop a).map (shf a)
theorem part_len (x1 : List Nd) (a : Nat) : (part_ x1 a).length = x1.length - a := by simp [part_]
theorem part_at {x1 : List Nd} {a j : Nat} (h : a + j < x1.length) : nth (part_ x1 a) j = shf a (nth x1 (a + j)) := by
  unfold part_; rw [nth_map (by rw [List.length_drop]; omega), nth_drop]
theorem Tree.part {n : Int} {x1 : List Nd} {a : Nat} (t : Tree n x1) (ha : a < x1.length) : Tree n (part_ x1 a) := by
  have m30 := t.m30
  refine ⟨t.n1, t.n6, by rw [part_len]; omega, by rw [part_len]; omega, fun i hi => ?_⟩
  rw [part_len] at hi ⊢
  rw [part_at (by omega)]
  rcases t.node (a + i) (by omega) with ⟨a1, a2, a3, a4⟩ | ⟨a1, a2, a3, a4, a5, a6⟩
  · exact .inl ⟨a1, by simp [shf, a2], a3, a4⟩
  · refine .inr ⟨a1, a2, by simp [shf]; omega, by simp [shf]; omega, a5, fun k hk => ?_⟩
    have hk' : k < (nth x1 (a + i)).2.1.length := by simpa [shf] using hk
    have := a6 k hk'
    have e : nth (shf a (nth x1 (a + i))).2.1 k = nth (nth x1 (a + i)).2.1 k - (a : Int) := nth_map hk'
    rw [e]; omega
theorem part_same {n : Int} {x1 : List Nd} {a : Nat} {ch ch' : List Int} {vals vals' : List (List Int)} (t : Tree n x1) (ha : a < x1.length) (h : SolvedF n x1 ch vals (-1)) (h' : SolvedF n (part_ x1 a) ch' vals' (-1)) :
    ∀ d j : Nat, a + j < x1.length → x1.length - (a + j) ≤ d → nth ch' j = nth ch (a + j) ∧ nth vals' j = nth vals (a + j)
  | 0, j, h1, h2 => by omega
  | d + 1, j, h1, h2 => by
    have A := h.at_ (a + j) h1 (by omega)
    have B := h'.at_ j (by rw [part_len]; omega) (by omega)
    unfold AtF at A B
    rw [part_at h1] at B
    have e1 : (shf a (nth x1 (a + j))).1 = (nth x1 (a + j)).1 := rfl
    have e2 : (shf a (nth x1 (a + j))).2.1 = (nth x1 (a + j)).2.1.map fun k => k - (a : Int) := rfl
    have e3 : (shf a (nth x1 (a + j))).2.2 = (nth x1 (a + j)).2.2 := rfl
    rw [e1, e2, e3, List.length_map] at B
    rcases A with ⟨a1, a2, a3⟩ | ⟨a1, c, a2, a3, a4, a5, a6⟩
    · rcases B with ⟨b1, b2, b3⟩ | ⟨b1, _⟩
      · exact ⟨by rw [b3, a3], by rw [b2, a2]⟩
      · omega
    · rcases B with ⟨b1, _⟩ | ⟨b1, c', b2, b3, b4, b5, b6⟩
      · omega
      · have hn : ∀ k, k < (nth x1 (a + j)).2.1.length → ((a + j : Nat) : Int) < nth (nth x1 (a + j)).2.1 k ∧ nth (nth x1 (a + j)).2.1 k < x1.length := by
          rcases t.node (a + j) h1 with hn | hn
          · omega
          · exact hn.2.2.2.2.2
        have key : ∀ k, k < (nth x1 (a + j)).2.1.length → nth vals' (nth ((nth x1 (a + j)).2.1.map fun k => k - (a : Int)) k).toNat = nth vals (nth (nth x1 (a + j)).2.1 k).toNat := fun k hk => by
          have kk := hn k hk
          rw [nth_map hk]
          have ih := (part_same t ha h h' d (nth (nth x1 (a + j)).2.1 k - (a : Int)).toNat (by omega) (by omega)).2
          rw [ih]; congr 1; omega
        have hcc : c' = c := by
          rcases Nat.lt_trichotomy c' c with hlt | he | hgt
          · have u1 := a6 c' hlt
            have u2 := b5 c a3
            rw [key c a3, key c' b3] at u2
            omega
          · exact he
          · have u1 := b6 c hgt
            have u2 := a5 c' b3
            rw [key c a3, key c' b3] at u1
            omega
        subst hcc
        exact ⟨by rw [b2, a2], by rw [b4, key c' b3, ← a4]⟩
theorem equalF_rows (a : List (List Int)) : slices_EqualFunc_int_int_int_int_m a a (fun a0 a1 => slices_Equal_int_int_m a0 a1) = some true := by
  apply Ok.eq
  unfold slices_EqualFunc_int_int_int_int_m
  rw [if_neg (by simp), ok_bindR]
  refine ok_rangeL (fun _ _ => True) trivial (fun k x _ hk _ => ?_) fun _ _ => by rw [ok_some]
  obtain ⟨hx, hkl⟩ := nth_of hk
  unfold slices_EqualFunc_int_int_int_int_b1
  rw [idx_nat, hk, Option.bind_some]
  dsimp only
  rw [equal_ok, Option.bind_some, if_neg (by simp), ok_some, flok_nx]; trivial
theorem TreePart (x0 : Int) (_ : (Lit.int .i64 x0).wf = true) (x1 : List Nd) {P : Prop} (_ : P) (x2 : Int) (_ : (Lit.int .i64 x2).wf = true) : pk_TreePart_m x0 x1 x2 = some true := by
  apply Ok.eq
  unfold pk_TreePart_m
  rw [trees_y, Option.bind_some, if_neg (by decide)]
  obtain ⟨c, ec, hc⟩ := tchk x0 x1
  by_cases c0 : c = 0
  · subst c0
    have t : Tree x0 x1 := by rcases hc with h | h; exact absurd rfl h; exact h
    obtain ⟨ch, vals, es, hs⟩ := solveF_ok t ec
    have m1 := t.m1; have m30 := t.m30
    have l1 := hs.l1; have l2 := hs.l2
    rw [es, Option.bind_some, ok_bindR]
    dsimp only
    rw [if_neg (by decide), if_neg (by rw [bne_iff_ne]; omega), ok_some, flok_nx, if_neg (by rw [bne_iff_ne]; omega), within_at x2 _ (by omega) (by omega), Option.bind_some]
    have a0 := Int.emod_nonneg x2 (b := (x1.length : Int)) (by omega)
    have a1 := Int.emod_lt_of_pos x2 (b := (x1.length : Int)) (by omega)
    generalize x2 % (x1.length : Int) = A at a0 a1
    obtain ⟨a, rfl⟩ : ∃ a : Nat, A = a := ⟨A.toNat, by omega⟩
    have hal : a < x1.length := by omega
    rw [chk_t ⟨by omega, by omega⟩, Option.bind_some, ok_bindR, List.take_length, Int.toNat_natCast]
    refine ok_rangeL (fun k (l : List Nd) => l = (part_ x1 a).take k) rfl (fun k y l hk hI => ?_) fun l hl => ?_
    · subst hI
      obtain ⟨hy, hkl⟩ := nth_of hk
      rw [List.length_drop] at hkl
      rw [nth_drop] at hy
      have hny := t.node (a + k) (by omega)
      rw [hy] at hny
      have hto : y.2.1.length ≤ 6 ∧ ∀ q, q < y.2.1.length → 0 ≤ nth y.2.1 q ∧ nth y.2.1 q ≤ 30 := by
        rcases hny with ⟨b1, b2, b3, b4⟩ | ⟨b1, b2, b3, b4, b5, b6⟩
        · exact ⟨by omega, fun q hq => by omega⟩
        · exact ⟨b4, fun q hq => by have := b6 q hq; omega⟩
      unfold pk_TreePart_b1
      rw [clone_int (by omega), Option.bind_some, ok_bindF]
      refine ok_rangeN (fun q (m : List Int) => m.length = y.2.1.length ∧ ∀ i, i < y.2.1.length → nth m i = if i < q then nth y.2.1 i - (a : Int) else nth y.2.1 i) ⟨rfl, fun i hi => by rw [if_neg (by omega)]⟩ (fun q m hq hm => ?_) fun m hm => ?_
      · obtain ⟨e1, e2⟩ := hm
        unfold pk_TreePart_b2
        have hv := hto.2 q hq
        have hq' := e2 q hq
        rw [if_neg (by omega)] at hq'
        rw [idx_nat, nth_at (by omega), Option.bind_some, Option.bind_some, hq', wsub_of (by omega) (by omega), ok_some, flok_nx]
        refine ⟨by rw [List.length_set, e1], fun i hi => ?_⟩
        rw [nth_set (by omega)]
        by_cases e : i = q
        · subst e; rw [if_pos rfl, if_pos (by omega)]
        · rw [if_neg e, e2 i hi]
          by_cases c : i < q
          · rw [if_pos c, if_pos (by omega)]
          · rw [if_neg c, if_neg (by omega)]
      · obtain ⟨e1, e2⟩ := hm
        have hm : m = y.2.1.map fun k => k - (a : Int) := nth_ext (by rw [e1, List.length_map]) fun i hi => by
          rw [e1] at hi
          rw [e2 i hi, if_pos hi, nth_map hi]
        have pl := part_len x1 a
        rw [chk_t (by rw [List.length_take]; simp; omega), Option.bind_some, ok_some, flok_nx, List.take_succ, nth_at (show k < (part_ x1 a).length by omega), part_at (by omega), hy, hm]
        simp [shf]
    · have pl := part_len x1 a
      rw [List.length_drop, ← pl, List.take_length] at hl
      subst hl
      have t' := t.part hal
      obtain ⟨ch', vals', es', hs'⟩ := solveF_ok t' t'.check
      have l1' := hs'.l1; have l2' := hs'.l2
      have same := part_same t hal hs hs' x1.length
      have q1 : ch' = ch.drop a := nth_ext (by rw [List.length_drop]; omega) fun j hj => by rw [nth_drop]; exact (same j (by omega) (by omega)).1
      have q2 : vals' = vals.drop a := nth_ext (by rw [List.length_drop]; omega) fun j hj => by rw [nth_drop]; exact (same j (by omega) (by omega)).2
      rw [es', Option.bind_some, ok_bindR]
      dsimp only
      rw [if_pos (by decide), chk_t ⟨by omega, by omega⟩, Option.bind_some, List.take_length, q1, equal_ok, Option.bind_some, if_pos (by simp), chk_t ⟨by omega, by omega⟩, Option.bind_some, List.take_length, q2, equalF_rows, Option.bind_some, ok_some, flok_nx, ok_some]
  · have es : tree_Solve_m x0 x1 = some ([], [], c) := by
      unfold tree_Solve_m; rw [ec, Option.bind_some, if_pos (by rw [bne_iff_ne]; exact c0)]
    rw [es, Option.bind_some, ok_bindR]
    dsimp only
    rw [if_pos (by rw [bne_iff_ne]; exact c0), ok_some, flok_nx, if_pos rfl, ok_bindR, if_pos (by rw [bne_iff_ne]; exact c0), ok_some, flok_nx, ok_some]; rfl
end Go.Pu
