/- The plain law: a pile, played through as a tree of moves of two, is won by who is to move just if its number isn't 0. -/
import Derived.Test.YtmaldmoldknehaaWTopTreeModels
import Derived.Test.YtmaldmoldknehaaPuTree
import Derived.Test.YtmaldmoldknehaaPuTreeF
import Derived.Test.YtmaldmoldknehaaPuTable
import Derived.Test.YtmaldmoldknehaaPuTPart
set_option linter.all false
namespace Go.Pu
open Go.Fw Go.Mo
/-- where can be gone from node 2k + w -/
def mvs (n k : Nat) (w : Int) (s : List Int) : List Int := (s.filter fun x => decide (x ≤ (n : Int) - k)).map fun x => 2 * ((k : Int) + x) + 1 - w
def nd_ (n : Nat) (s : List Int) (k : Nat) (w : Int) : Nd := if (mvs n k w s).length = 0 then (-1, ([], [2 * w - 1, 1 - 2 * w])) else (w, (mvs n k w s, []))
def tl_ (n : Nat) (s : List Int) : Nat → List Nd
  | 0 => []
  | K + 1 => tl_ n s K ++ [nd_ n s K 0, nd_ n s K 1]
theorem tl_len (n : Nat) (s : List Int) : ∀ K, (tl_ n s K).length = 2 * K
  | 0 => rfl
  | K + 1 => by simp [tl_, tl_len n s K]; omega
theorem tl_at (n : Nat) (s : List Int) : ∀ K k, k < K → nth (tl_ n s K) (2 * k) = nd_ n s k 0 ∧ nth (tl_ n s K) (2 * k + 1) = nd_ n s k 1
  | 0, k, h => by omega
  | K + 1, k, h => by
    have hl := tl_len n s K
    simp only [tl_]
    rw [nth_append, nth_append]
    by_cases e : k = K
    · subst e
      rw [if_neg (by omega), if_neg (by omega), hl, Nat.sub_self, show 2 * k + 1 - 2 * k = 1 by omega]
      exact ⟨rfl, rfl⟩
    · rw [if_pos (by omega), if_pos (by omega)]
      exact tl_at n s K k (by omega)
def Six (s : List Int) : Prop := s.length ≤ 6 ∧ ∀ x ∈ s, 1 ≤ x ∧ x ≤ 6
theorem mvs_len {n k : Nat} {w : Int} {s : List Int} (hs : Six s) : (mvs n k w s).length ≤ 6 := by
  unfold mvs; rw [List.length_map]
  exact Nat.le_trans (List.length_filter_le _ _) hs.1
theorem mvs_mem {n k : Nat} {w : Int} {s : List Int} {y : Int} : y ∈ mvs n k w s ↔ ∃ x ∈ s, x ≤ (n : Int) - k ∧ y = 2 * ((k : Int) + x) + 1 - w := by
  unfold mvs
  rw [List.mem_map]
  constructor
  · rintro ⟨x, hx, rfl⟩
    rw [List.mem_filter, decide_eq_true_eq] at hx
    exact ⟨x, hx.1, hx.2, rfl⟩
  · rintro ⟨x, h1, h2, rfl⟩
    exact ⟨x, by rw [List.mem_filter, decide_eq_true_eq]; exact ⟨h1, h2⟩, rfl⟩
theorem moves_ok {γ : Type} {n k : Nat} {w : Int} {s : List Int} (hs : Six s) (hn : n ≤ 13) (hk : k ≤ n) (hw : w = 0 ∨ w = 1) : rangeN (γ := γ) (top_TopTree_b4 s (n : Int) k w) s.length 0 ([] : List Int) = some (.nx (mvs n k w s) : Fl Bool γ (List Int)) := by
  have key : Ok (rangeN (γ := γ) (top_TopTree_b4 s (n : Int) k w) s.length 0 ([] : List Int)) (FlOk (fun l => l = mvs n k w s) (fun _ => False) (fun _ : Bool => False)) := by
    refine ok_rangeN (fun i l => l = mvs n k w (s.take i)) rfl (fun i l hi hI => ?_) fun l hl => by rw [hl, List.take_length]
    subst hI
    have v := hs.2 _ (nth_mem hi)
    have hl6 : (mvs n k w (s.take i)).length ≤ 6 := mvs_len ⟨by rw [List.length_take]; have := hs.1; omega, fun x hx => hs.2 x (List.mem_of_mem_take hx)⟩
    have htk : s.take (i + 1) = s.take i ++ [nth s i] := by rw [List.take_succ, nth_at hi]; rfl
    unfold top_TopTree_b4
    rw [idx_nat, nth_at hi, Option.bind_some, wsub_of (by omega) (by omega), wadd_of (x := (k : Int)) (y := nth s i) (by omega) (by omega), wmul_of (by omega) (by omega), wadd_of (by omega) (by omega), wsub_of (by omega) (by omega), htk]
    by_cases c : nth s i ≤ (n : Int) - k
    · rw [if_pos (by rw [decide_eq_true_eq]; exact c), chk_t (by simp; omega), Option.bind_some, ok_some, flok_nx]
      simp [mvs, List.filter_append, c]
    · rw [if_neg (by rw [decide_eq_true_eq]; exact c), ok_some, flok_nx]
      simp [mvs, List.filter_append, c]
  obtain ⟨v, e, hv⟩ := key
  cases v with
  | br _ => exact hv.elim
  | rt _ => exact hv.elim
  | nx x => rw [flok_nx] at hv; rw [e, hv]
theorem level_ok {n k : Nat} {s : List Int} (hs : Six s) (hn : n ≤ 13) (hk : k ≤ n) (l : List Nd) (hl : l.length ≤ 100) : top_TopTree_b2 s (n : Int) k l = some (.nx (l ++ [nd_ n s k 0, nd_ n s k 1])) := by
  have one : ∀ (m : List Nd) (w : Int), m.length ≤ 200 → (w = 0 ∨ w = 1) → top_TopTree_b3 s (n : Int) k (m, w) = some (.nx (m ++ [nd_ n s k w], w + 1)) := by
    intro m w hm hw
    unfold top_TopTree_b3
    dsimp only
    rw [if_pos (by rw [decide_eq_true_eq]; omega), moves_ok hs hn hk hw]
    simp only [bindF]
    by_cases c : (mvs n k w s).length = 0
    · rw [if_pos (by rw [beq_iff_eq]; omega)]
      dsimp only
      rw [chk_t (by simp; omega), Option.bind_some, wmul_of (by omega) (by omega), wsub_of (by omega) (by omega), wsub_of (by omega) (by omega), wadd_of (by omega) (by omega)]
      unfold nd_; rw [if_pos c]
    · rw [if_neg (by rw [beq_iff_eq]; omega)]
      dsimp only
      rw [chk_t (by simp; omega), Option.bind_some, wadd_of (by omega) (by omega)]
      unfold nd_; rw [if_neg c]
  have two : ∀ m : List Nd, top_TopTree_b3 s (n : Int) k (m, 2) = some (.br (m, 2)) := fun m => by
    unfold top_TopTree_b3; rfl
  unfold top_TopTree_b2
  unfold loopM; rw [one l 0 (by omega) (.inl rfl)]; dsimp only
  unfold loopM; rw [show (0 : Int) + 1 = 1 from rfl, one _ 1 (by simp; omega) (.inr rfl)]; dsimp only
  unfold loopM; rw [show (1 : Int) + 1 = 2 from rfl, two]
  simp [bindF]
theorem tl_tree {n : Nat} {s : List Int} (hs : Six s) (hn : n ≤ 13) : Tree 2 (tl_ n s (n + 1)) := by
  have hl := tl_len n s (n + 1)
  have node : ∀ k w, k ≤ n → (w = 0 ∨ w = 1) → ∀ i : Nat, (i : Int) = 2 * k + w → NodeOk 2 (2 * (n + 1)) i (nd_ n s k w) := by
    intro k w hk hw i hi
    unfold nd_
    by_cases c : (mvs n k w s).length = 0
    · rw [if_pos c]
      refine .inl ⟨rfl, rfl, rfl, fun q hq => ?_⟩
      have : q = 0 ∨ q = 1 := by simp at hq; omega
      rcases this with rfl | rfl
      · exact show -1000 ≤ 2 * w - 1 ∧ 2 * w - 1 ≤ 1000 by omega
      · exact show -1000 ≤ 1 - 2 * w ∧ 1 - 2 * w ≤ 1000 by omega
    · rw [if_neg c]
      refine .inr ⟨by dsimp only; omega, by dsimp only; omega, by dsimp only; omega, mvs_len hs, rfl, fun q hq => ?_⟩
      obtain ⟨x, hx, hx2, e⟩ := mvs_mem.1 (nth_mem (l := mvs n k w s) hq)
      have := hs.2 x hx
      dsimp only
      rw [e]; omega
  refine ⟨by decide, by decide, by omega, by omega, fun i hi => ?_⟩
  rw [hl] at hi ⊢
  obtain ⟨k, hk⟩ : ∃ k, k = i / 2 := ⟨_, rfl⟩
  have ha := tl_at n s (n + 1) k (by omega)
  by_cases e : i % 2 = 0
  · rw [show i = 2 * k by omega, ha.1]; exact node k 0 (by omega) (.inl rfl) _ (by omega)
  · rw [show i = 2 * k + 1 by omega, ha.2]; exact node k 1 (by omega) (.inr rfl) _ (by omega)
/-- what both have where it is won, or not, by w who is to move -/
def won (w : Int) (win : Bool) : List Int := if (w == 0) = win then [1, -1] else [-1, 1]
theorem won_at (w : Int) (win : Bool) (hw : w = 0 ∨ w = 1) : nth (won w win) w.toNat = (if win then 1 else -1) ∧ nth (won w win) (1 - w).toNat = if win then -1 else 1 := by
  rcases hw with rfl | rfl <;> cases win <;> decide
theorem value {n : Nat} {s t ch : List Int} {vals : List (List Int)} (hs : Six s) (hn : n ≤ 13) (hG : Grundy t s (n + 1)) (h : Solved 2 (tl_ n s (n + 1)) ch vals (-1)) :
    ∀ d k : Nat, k ≤ n → n - k ≤ d → ∀ w : Int, (w = 0 ∨ w = 1) → ∀ i : Nat, (i : Int) = 2 * k + w → ∃ g : Nat, t[n - k]? = some (g : Int) ∧ nth vals i = won w (decide (g ≠ 0)) := by
  have hl := tl_len n s (n + 1)
  intro d
  induction d with
  | zero => 
    intro k hk hd w hw i hi
    have hA := h.at_ i (by omega) (by omega)
    have hnode : nth (tl_ n s (n + 1)) i = nd_ n s k w := by
      have ha := tl_at n s (n + 1) k (by omega)
      rcases hw with rfl | rfl
      · rw [show i = 2 * k by omega, ha.1]
      · rw [show i = 2 * k + 1 by omega, ha.2]
    obtain ⟨g, g1, g2, g3, g4⟩ := hG (n - k) (by omega)
    refine ⟨g, g1, ?_⟩
    have hmv : (mvs n k w s).length = 0 := by
      apply Nat.eq_zero_of_not_pos; intro hp
      obtain ⟨x, hx, hx2, _⟩ := mvs_mem.1 (nth_mem (l := mvs n k w s) hp)
      have := hs.2 x hx; omega
    have hg0 : g = 0 := by
      apply Decidable.byContradiction; intro hne
      obtain ⟨x, hx, hx2, _⟩ := g4 0 (by omega)
      have := hs.2 x hx; omega
    subst hg0
    unfold At at hA
    rw [hnode] at hA
    unfold nd_ at hA
    rw [if_pos hmv] at hA
    rcases hA with ⟨_, hv⟩ | ⟨h0, _⟩
    · rw [hv]; rcases hw with rfl | rfl <;> decide
    · exact absurd (show (0 : Int) ≤ -1 from h0) (by decide)
  | succ d ih =>
    intro k hk hd w hw i hi
    have hA := h.at_ i (by omega) (by omega)
    have hnode : nth (tl_ n s (n + 1)) i = nd_ n s k w := by
      have ha := tl_at n s (n + 1) k (by omega)
      rcases hw with rfl | rfl
      · rw [show i = 2 * k by omega, ha.1]
      · rw [show i = 2 * k + 1 by omega, ha.2]
    obtain ⟨g, g1, g2, g3, g4⟩ := hG (n - k) (by omega)
    refine ⟨g, g1, ?_⟩
    unfold At at hA
    rw [hnode] at hA
    unfold nd_ at hA
    by_cases hmv : (mvs n k w s).length = 0
    · have hg0 : g = 0 := by
        apply Decidable.byContradiction; intro hne
        obtain ⟨x, hx, hx2, _⟩ := g4 0 (by omega)
        have : 2 * ((k : Int) + x) + 1 - w ∈ mvs n k w s := mvs_mem.2 ⟨x, hx, by omega, rfl⟩
        have := List.length_pos_of_mem this; omega
      subst hg0
      rw [if_pos hmv] at hA
      rcases hA with ⟨_, hv⟩ | ⟨h0, _⟩
      · rw [hv]; rcases hw with rfl | rfl <;> decide
      · exact absurd (show (0 : Int) ≤ -1 from h0) (by decide)
    · rw [if_neg hmv] at hA
      dsimp only at hA
      rcases hA with ⟨h0, _⟩ | ⟨_, c, hc, hcl, hv, hbest⟩
      · omega
      · -- what stands behind a move
        have kid : ∀ y ∈ mvs n k w s, ∃ (x : Int) (g' : Nat), x ∈ s ∧ x ≤ (n : Int) - k ∧ t[((n - k : Nat) : Int).toNat - x.toNat]? = some (g' : Int) ∧ nth vals y.toNat = won (1 - w) (decide (g' ≠ 0)) ∧ y = 2 * ((k : Int) + x) + 1 - w := by
          intro y hy
          obtain ⟨x, hx, hx2, rfl⟩ := mvs_mem.1 hy
          have vx := hs.2 x hx
          obtain ⟨g', e1, e2⟩ := ih (k + x.toNat) (by omega) (by omega) (1 - w) (by omega) (2 * ((k : Int) + x) + 1 - w).toNat (by omega)
          exact ⟨x, g', hx, hx2, by rw [← e1]; congr 1; omega, e2, rfl⟩
        obtain ⟨x, g', hx, hx2, e1, e2, e3⟩ := kid _ (nth_mem hcl)
        have vx := hs.2 x hx
        rw [hv, e2]
        by_cases hg : g = 0
        · have hg' : g' ≠ 0 := fun e => by
            subst e; subst hg
            exact g3 ⟨x, hx, by omega, by rw [← e1]; congr 1; omega⟩
          subst hg
          rw [decide_eq_true hg']
          rcases hw with rfl | rfl <;> decide
        · have hg' : g' = 0 := by
            apply Decidable.byContradiction; intro hne
            obtain ⟨z, hz, hz2, hz3⟩ := g4 0 (by omega)
            have hzm : 2 * ((k : Int) + z) + 1 - w ∈ mvs n k w s := mvs_mem.2 ⟨z, hz, by omega, rfl⟩
            obtain ⟨q, hq, eq⟩ := mem_nth hzm
            have hb := hbest q hq
            obtain ⟨z', gz, hz', hz2', f1, f2, f3⟩ := kid _ (nth_mem hq)
            have hzz : z' = z := by rw [eq] at f3; omega
            subst hzz
            have hgz : gz = 0 := by
              have : t[((n - k : Nat) : Int).toNat - z'.toNat]? = some (0 : Int) := by
                rw [← Int.natCast_zero, ← hz3]; congr 1
                have := hs.2 z' hz; omega
              rw [f1] at this
              have := Option.some.inj this; omega
            rw [f2, e2, hgz, decide_eq_true hne] at hb
            have w1 := (won_at (1 - w) true (by omega)).2
            have w2 := (won_at (1 - w) (decide ((0 : Nat) ≠ 0)) (by omega)).2
            rw [show (1 : Int) - (1 - w) = w by omega] at w1 w2
            rw [w1, w2] at hb
            exact absurd hb (by decide)
          subst hg'
          rw [decide_eq_true hg]
          rcases hw with rfl | rfl <;> decide
theorem works_tt : top_works_m = some true := by decide +kernel
theorem tgood_tt : top_good_m [0, 0] = some true := by decide +kernel
theorem TopTree (x0 : Int) (_ : (Lit.int .i64 x0).wf = true) (x1 : List Int) (h1 : (∀ x ∈ x1, (Lit.int .i64 x).wf = true) ∧ x1.length ≤ maxLen) : top_TopTree_m x0 x1 = some true := by
  have a0 := Int.emod_nonneg x0 (b := 14) (by decide)
  have a1 := Int.emod_lt_of_pos x0 (b := 14) (by decide)
  apply Ok.eq
  unfold top_TopTree_m
  have hm : (if (6 : Int) < (x1.length : Int) then (6 : Int) else (x1.length : Int)) = ((min 6 x1.length : Nat) : Int) := by omega
  rw [within_at x0 14 (by decide) (by decide), Option.bind_some, hm, chk_t ⟨by omega, by omega⟩, Option.bind_some, Int.toNat_natCast, List.drop_zero, ok_bindR]
  generalize x0 % 14 = N at a0 a1
  obtain ⟨n, rfl⟩ : ∃ n : Nat, N = n := ⟨N.toNat, by omega⟩
  refine ok_rangeL (fun k (s : List Int) => s.length = k ∧ ∀ x ∈ s, 1 ≤ x ∧ x ≤ 6) ⟨rfl, by simp⟩ (fun k x s hk hI => ?_) fun s hI => ?_
  · have hkl := (List.getElem?_eq_some_iff.1 hk).1
    rw [List.length_take] at hkl
    unfold top_TopTree_b1
    have b0 := Int.emod_nonneg x (b := 6) (by decide)
    have b1 := Int.emod_lt_of_pos x (b := 6) (by decide)
    rw [within_at x 6 (by decide) (by decide), Option.bind_some, chk_t (by simp; omega), Option.bind_some, wadd_of (by omega) (by omega), ok_some, flok_nx]
    refine ⟨by simp [hI.1], fun y hy => ?_⟩
    rcases List.mem_append.1 hy with hy | hy
    · exact hI.2 y hy
    · rw [List.mem_singleton] at hy; subst hy; omega
  · have hs : Six s := ⟨by rw [hI.1, List.length_take]; omega, hI.2⟩
    have hn : n ≤ 13 := by omega
    rw [wadd_of (by omega) (by omega), chk_t (by omega), Option.bind_some, ok_bindR, show ((n : Int) + 1).toNat = n + 1 by omega]
    refine ok_rangeN (fun k l => l = tl_ n s k) rfl (fun k l hk hI => ?_) fun l hl => ?_
    · subst hI
      have hl := tl_len n s k
      rw [level_ok hs hn (by omega) _ (by omega), ok_some, flok_nx]; rfl
    · subst hl
      have tr := tl_tree hs hn
      obtain ⟨ch, vals, es, hS⟩ := solve_ok tr tr.check
      obtain ⟨t, et, htl, hG⟩ := table_ok (n := (n : Int)) (s := s) (by omega) (by omega) ⟨hs.1, fun x hx => by have := hs.2 x hx; omega⟩
      rw [show ((n : Int)).toNat + 1 = n + 1 by omega] at htl hG
      obtain ⟨g, hg, hv⟩ := value hs hn hG hS n 0 (by omega) (by omega) 0 (.inl rfl) 0 (by omega)
      have hl := tl_len n s (n + 1)
      have hvl : vals.length = 2 * (n + 1) := by rw [hS.l2, hl]
      have i0 : idx vals (0 : Int) = some (won 0 (decide (g ≠ 0))) := by
        have := nth_at (l := vals) (k := 0) (by omega)
        rw [hv] at this
        exact this
      rw [es, Option.bind_some, et, Option.bind_some]
      dsimp only
      rw [ok_bindR, works_tt, Option.bind_some, if_neg (by decide), tgood_tt, Option.bind_some, if_neg (by decide), if_neg (by rw [bne_iff_ne]; omega), i0, Option.bind_some]
      have hw2 : (won 0 (decide (g ≠ 0))).length = 2 := by unfold won; split <;> rfl
      rw [if_neg (by rw [bne_iff_ne]; omega), ok_some, flok_nx, if_neg (by rw [bne_iff_ne]; omega), ok_bindR]
      have it : idx t (n : Int) = some (g : Int) := by rw [idx_nat, ← hg]; rfl
      rw [Option.bind_some, it]
      simp only [Option.bind_some]
      by_cases hg0 : g = 0
      · subst hg0
        rw [show won 0 (decide ((0 : Nat) ≠ 0)) = [-1, 1] from rfl, show idx [(-1 : Int), 1] 0 = some (-1) from rfl, show idx [(-1 : Int), 1] 1 = some 1 from rfl]
        simp only [Option.bind_some]
        rw [if_pos (by decide), ok_some, flok_nx, ok_some]; decide
      · have hgi : ((g : Int) != 0) = true := by rw [bne_iff_ne]; omega
        rw [decide_eq_true hg0, show won 0 true = [1, -1] from rfl, show idx [(1 : Int), -1] 0 = some 1 from rfl, show idx [(1 : Int), -1] 1 = some (-1) from rfl]
        simp only [Option.bind_some]
        rw [hgi, if_pos (by decide), ok_some, flok_nx, ok_some]; decide
end Go.Pu
