/- The plain law: what is made of a tree is nobody else's. -/
import Derived.Test.YtfekdillbgblkaaWTreesOwnModels
import Derived.Test.YtfekdillbgblkaaPuOwn
import Derived.Test.YtfekdillbgblkaaPuTree
import Derived.Test.YtfekdillbgblkaaPuTreeF
import Derived.Test.YtfekdillbgblkaaPuTKuhn
import Derived.Test.YtfekdillbgblkaaPuMono
set_option linter.all false
namespace Go.Pu
open Go.Fw Go.Mo
theorem play_bad {n : Int} {x1 : List Nd} {s : List Int} {c : Int} (e : tree_Check_m n x1 = some c) (h : c ≠ 0) : tree_Play_m n x1 s = some ([], [], c) := by
  unfold tree_Play_m; rw [e, Option.bind_some, if_pos (by simpa using h)]
theorem solve_any (n : Int) (x1 : List Nd) : ∃ ch vals c, tree_Solve_m n x1 = some (ch, vals, c) ∧ (∃ w v e, tree_Play_m n x1 ch = some (w, v, e)) ∧ (-7 : Int) ∉ ch := by
  obtain ⟨c, ec, hc⟩ := tchk n x1
  by_cases c0 : c = 0
  · subst c0
    have t : Tree n x1 := by
      rcases hc with h | h
      · exact (h rfl).elim
      · exact h
    obtain ⟨ch, vals, es, hs⟩ := solveF_ok t ec
    obtain ⟨ch', vals', es', hs'⟩ := solve_ok t ec
    rw [es] at es'
    cases es'
    obtain ⟨path, v, ep, -⟩ := play_ok t ec hs'.plan
    refine ⟨ch, vals, 0, es, ⟨path, v, 0, ep⟩, fun hm => ?_⟩
    obtain ⟨k, hk, e⟩ := mem_nth hm
    rcases hs.at_ k (by rw [← hs.l1]; exact hk) (by omega) with ⟨_, _, h⟩ | ⟨_, c, h, _⟩ <;> omega
  · exact ⟨[], [], c, solve_bad ec c0, ⟨[], [], c, play_bad ec c0⟩, by simp⟩
theorem TreesOwn (x0 : Int) (_ : (Lit.int .i64 x0).wf = true) (x1 : List Nd) {P : Prop} (_ : P) (b1 : x1.length ≤ 2513169434843 ∧ ∀ x ∈ x1, x.2.1.length ≤ 17592186043904 ∧ x.2.2.length ≤ 17592186043904) : pk_TreesOwn_m x0 x1 = some true := by
  obtain ⟨ch, vals, c, es, ⟨w, v, e, ep⟩, hch⟩ := solve_any x0 x1
  apply Ok.eq
  unfold pk_TreesOwn_m
  rw [trees_t, Option.bind_some, if_neg (by decide), ok_bindR]
  refine ok_rangeL (fun k (s : List (List Int) × List (List Int)) => s = ((x1.take k).map (·.2.1), (x1.take k).map (·.2.2))) rfl (fun k x s hk hI => ?_) fun s hs => ?_
  · subst hI
    have hkl := (List.getElem?_eq_some_iff.1 hk).1
    have hx := b1.2 x (List.mem_of_getElem? hk)
    unfold pk_TreesOwn_b1
    dsimp only
    rw [clone_intB (by omega), Option.bind_some, chk_t (by simp only [List.length_map, List.length_take, List.length_cons, List.length_nil]; omega), Option.bind_some, clone_intB (by omega), Option.bind_some, chk_t (by simp only [List.length_map, List.length_take, List.length_cons, List.length_nil]; omega), Option.bind_some, ok_some, flok_nx, List.take_succ, hk]
    simp
  · rw [List.take_length] at hs
    subst hs
    dsimp only
    rw [es, Option.bind_some, ep, Option.bind_some, spoil_ok, Option.bind_some, spoil_rows (b := pk_TreesOwn_b2) (fun i => wsub (-7) (i : Int)) (fun i l => rfl) vals, ok_bindR, ok_some, flok_nx, spoil_ok, Option.bind_some, ok_bindR]
    refine ok_rangeL (fun _ _ => True) trivial (fun k x s hk _ => ?_) fun s _ => ?_
    · unfold pk_TreesOwn_b3
      have h1 : (x1.map (·.2.1))[k]? = some x.2.1 := by rw [List.getElem?_map, hk]; rfl
      have h2 : (x1.map (·.2.2))[k]? = some x.2.2 := by rw [List.getElem?_map, hk]; rfl
      rw [idx_nat, h1, Option.bind_some, equal_ok, Option.bind_some, if_neg (by simp), idx_nat, h2, Option.bind_some, equal_ok, Option.bind_some, ok_bindF, ok_some, flok_nx, if_neg (by simp), ok_some, flok_nx]
      trivial
    · rw [Option.bind_some, ok_bindR]
      refine ok_rangeN (fun _ _ => True) trivial (fun k s hk _ => ?_) fun s _ => ?_
      · unfold pk_TreesOwn_b4
        have hk' : k < vals.length := by simpa [spoiled] using hk
        have h1 : (spoiled (fun i => wsub (-7) (i : Int)) vals)[k]? = some (List.replicate vals[k].length (wsub (-7) (k : Int))) := by
          unfold spoiled; rw [List.getElem?_mapIdx, List.getElem?_eq_getElem hk']; rfl
        rw [idx_nat, h1, Option.bind_some, contains_none (fun x hx => by
          rw [List.eq_of_mem_replicate hx]; unfold pk_TreesOwn_1_m; simp), Option.bind_some, if_neg (by simp), ok_some, flok_nx]
        trivial
      · rw [if_pos (by simp), contains_ok, Option.bind_some, ok_bindR, ok_some, flok_nx, ok_some]
        simpa using hch
end Go.Pu
