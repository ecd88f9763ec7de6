/- The plain law: along a line there are twice as many orders with each side more; from its other end the same ones. -/
import Derived.Test.YtpnibpjhiofplaaWPeakManyModels
import Derived.Test.YtpnibpjhiofplaaPuAlong
import Derived.Test.YtpnibpjhiofplaaPuMTurned
set_option linter.all false
namespace Go.Pu
open Go.Fw Go.Mo
/-- the rows, once more, in a way that is quickly counted -/
def rows (n : Nat) : Nat → List (List Int)
  | 0 => [[]]
  | k + 1 => (rows n k).flatMap fun p => ((List.range n).filter fun x => !p.contains (x : Int)).map fun (x : Nat) => p ++ [(x : Int)]
theorem rows_mem {n : Nat} : ∀ (k : Nat) (p : List Int), p ∈ rows n k ↔ Row_ n k p
  | 0, p => by
    unfold rows Row_
    rw [List.mem_singleton]
    constructor
    · rintro rfl; exact ⟨rfl, by simp, by simp⟩
    · rintro ⟨h, _⟩; exact List.eq_nil_of_length_eq_zero h
  | k + 1, p => by
    unfold rows
    rw [List.mem_flatMap]
    constructor
    · rintro ⟨q, hq, hp⟩
      obtain ⟨x, hx, rfl⟩ := List.mem_map.1 hp
      obtain ⟨hx1, hx2⟩ := List.mem_filter.1 hx
      obtain ⟨h1, h2, h3⟩ := (rows_mem k q).1 hq
      have hxn := List.mem_range.1 hx1
      have hxq : (x : Int) ∉ q := by simpa using hx2
      refine ⟨by simp [h1], ?_, fun y hy => ?_⟩
      · rw [List.nodup_append]
        refine ⟨h2, by simp, fun a ha b hb e => ?_⟩
        simp at hb; subst hb; subst e; exact hxq ha
      · rcases List.mem_append.1 hy with h | h
        · exact h3 y h
        · simp at h; omega
    · rintro ⟨h1, h2, h3⟩
      have hne : p ≠ [] := fun e => by subst e; simp at h1
      have e := List.dropLast_concat_getLast hne
      have hl := h3 _ (List.getLast_mem hne)
      refine ⟨p.dropLast, (rows_mem k _).2 ⟨by simp [h1], ?_, fun y hy => h3 y (List.mem_of_mem_take (by rw [List.dropLast_eq_take] at hy; exact hy))⟩, List.mem_map.2 ⟨(p.getLast hne).toNat, List.mem_filter.2 ⟨List.mem_range.2 (by omega), ?_⟩, ?_⟩⟩
      · rw [← e, List.nodup_append] at h2; exact h2.1
      · rw [Int.toNat_of_nonneg hl.1]
        rw [← e, List.nodup_append] at h2
        have : p.getLast hne ∉ p.dropLast := fun hm => h2.2.2 _ hm _ (by simp) rfl
        simpa using this
      · rw [Int.toNat_of_nonneg hl.1]; exact e
theorem rows_nodup {n : Nat} : ∀ k, (rows n k).Nodup
  | 0 => by simp [rows]
  | k + 1 => by
    unfold rows
    refine List.pairwise_flatMap.2 ⟨fun p _ => List.pairwise_map.2 ((List.nodup_range.filter _).imp fun {a b} hab e => hab ?_), (rows_nodup k).imp fun {p q} hpq x hx y hy e => hpq ?_⟩
    · have := List.append_cancel_left e
      simp at this; omega
    · obtain ⟨a, _, rfl⟩ := List.mem_map.1 hx
      obtain ⟨b, _, rfl⟩ := List.mem_map.1 hy
      exact (List.append_inj' e rfl).1
theorem many_rows : ∀ n ∈ [1, 2, 3, 4, 5, 6], (rows n n).countP (fun q => along n (sides n) q) = 2 ^ (n - 1) := by decide +kernel
theorem lex_irr : ∀ p : List Int, ¬ lexLt p p
  | [], h => h
  | x :: p, h => by
    rcases h with h | ⟨_, h⟩
    · omega
    · exact lex_irr p h
theorem rows_nd {n : Nat} {l : List (List Int)} (h : Rows_ n n l) : l.Nodup := h.lex.imp fun {a b} hab e => by subst e; exact lex_irr _ hab
theorem sides_map {n : Nat} {p : List Int} (hp : Ord n p) : (sides n).map (nm p) = p := by
  refine nth_ext (by rw [List.length_map, (sides_ord n).len, hp.len]) fun k hk => ?_
  rw [List.length_map, (sides_ord n).len] at hk
  rw [nth_map (by rw [(sides_ord n).len]; exact hk), sides_nth hk]
  unfold nm
  rw [Int.toNat_natCast]
theorem count_any {n : Nat} (h1 : 1 ≤ n) {l : List (List Int)} (hR : Rows_ n n l) {line : List Int} (hl : Ord n line) : l.countP (fun q => along n line q) = l.countP (fun q => along n (sides n) q) := by
  have hperm : (l.map fun r => r.map (nm line)).Perm l := by
    refine (List.perm_ext_iff_of_nodup ?_ (rows_nd hR)).2 fun q => ?_
    · refine List.pairwise_map.2 ((rows_nd hR).imp_of_mem fun {a b} ha hb hab e => hab ?_)
      have oa := rows_ord (hR.row _ ha)
      have ob := rows_ord (hR.row _ hb)
      refine nth_ext (by rw [oa.len, ob.len]) fun k hk => ?_
      rw [oa.len] at hk
      have e1 : nth (a.map (nm line)) k = nth (b.map (nm line)) k := by rw [e]
      rw [nth_map (by rw [oa.len]; exact hk), nth_map (by rw [ob.len]; exact hk)] at e1
      have va := oa.val hk
      have vb := ob.val hk
      obtain ⟨x, hx⟩ : ∃ x : Nat, nth a k = x := ⟨(nth a k).toNat, by omega⟩
      obtain ⟨y, hy⟩ : ∃ x : Nat, nth b k = x := ⟨(nth b k).toNat, by omega⟩
      rw [hx, hy, nm_pi hl (by omega), nm_pi hl (by omega)] at e1
      have := pi_inj hl (x := x) (y := y) (by omega) (by omega) (by omega)
      omega
    · rw [List.mem_map]
      constructor
      · rintro ⟨r, hr, rfl⟩
        exact hR.all _ (ord_row (ren_ord hl (rows_ord (hR.row _ hr))))
      · intro hq
        obtain ⟨r, hr, e⟩ := map_nm_sur hl (rows_ord (hR.row _ hq))
        exact ⟨r, hR.all _ (ord_row hr), e⟩
  rw [← hperm.countP_eq, List.countP_map]
  refine List.countP_congr fun r hr => ?_
  have hro := rows_ord (hR.row _ hr)
  have := al_ren (sides_ord n) hro hl (n - 1) 0 (by omega)
  rw [sides_map hl] at this
  show along n line (r.map (nm line)) = true ↔ _
  unfold along
  rw [this]
theorem peaks_t : pk_peaks_m = some true := by decide +kernel
theorem PeakMany (x0 : Int) (_ : (Lit.int .i64 x0).wf = true) (x1 : List Int) (_ : (∀ x ∈ x1, (Lit.int .i64 x).wf = true) ∧ x1.length ≤ maxLen) (x2 : List Int) (_ : (∀ x ∈ x2, (Lit.int .i64 x).wf = true) ∧ x2.length ≤ maxLen) : pk_PeakMany_m x0 x1 x2 = some true := by
  obtain ⟨n, n1, n6, hn⟩ := one_within x0 6 (by decide) (by decide)
  rw [show ((6 : Nat) : Int) = 6 from rfl] at hn
  obtain ⟨p, ep, hp⟩ := orderOf_ok n x1 n1 (by omega)
  obtain ⟨q, eq, hq⟩ := orderOf_ok n x2 n1 (by omega)
  obtain ⟨l, el, hR, hlen⟩ := all_ok n1 n6
  have hpl := hp.len
  have hmany : l.countP (fun r => along n p r) = 2 ^ (n - 1) := by
    have h := many_rows n (by have : n = 1 ∨ n = 2 ∨ n = 3 ∨ n = 4 ∨ n = 5 ∨ n = 6 := by omega
                              rcases this with rfl | rfl | rfl | rfl | rfl | rfl <;> simp)
    rw [count_any n1 hR hp, ← h]
    exact ((List.perm_ext_iff_of_nodup (rows_nd hR) (rows_nodup n)).2 fun q => ⟨fun hq => (rows_mem n q).2 (hR.row q hq), fun hq => hR.all q ((rows_mem n q).1 hq)⟩).countP_eq _
  have hl720 : l.length ≤ 720 := by rw [hlen]; exact desc_bound n (by omega) n (by omega)
  have hrev : along n p.reverse q = along n p q := by
    have := al_rev (p := q) hp (n - 1) 0 (by omega)
    unfold along
    rw [← this]; congr 1; omega
  apply Ok.eq
  unfold pk_PeakMany_m
  rw [peaks_t, Option.bind_some, if_neg (by decide), within_at x0 6 (by decide) (by decide), Option.bind_some, hn, ep, Option.bind_some, eq, Option.bind_some, clone_ok p (by omega), Option.bind_some, reverse_ok p (by omega), Option.bind_some, el, Option.bind_some, if_neg (by simp), ok_bindR]
  refine ok_rangeN (s := (0 : Int)) (fun (k : Nat) (c : Int) => c = (l.take k).countP (fun r => along n p r)) (by simp) (fun k c hk hc => ?_) fun c hc => ?_
  · have hro := rows_ord (hR.row _ (nth_mem hk))
    have hck : (l.take k).countP (fun r => along n p r) ≤ 720 := Nat.le_trans List.countP_le_length (by rw [List.length_take]; omega)
    unfold pk_PeakMany_b1
    rw [idx_nat, nth_at hk, Option.bind_some, along_ok n1 n6 hp hro, Option.bind_some, if_neg (by simp)]
    have et : l.take (k + 1) = l.take k ++ [nth l k] := by rw [List.take_succ, nth_at hk]; rfl
    rw [et, List.countP_append, List.countP_singleton]
    simp only
    cases h : along n p (nth l k)
    · rw [if_neg (by decide), ok_some, flok_nx]; simpa using hc
    · rw [if_pos rfl, ok_some, flok_nx, wadd_of (by omega) (by omega)]; simp; omega
  · have g2 : pk_good_m [0, 0] = some true := by rw [good_at]; rfl
    rw [List.take_length, hmany] at hc
    rw [along_ok n1 n6 hp hq, Option.bind_some, along_ok n1 n6 hp.rev hq, Option.bind_some]
    simp only [g2, Option.bind_some, if_true, hrev, beq_self_eq_true]
    rw [wsub_of (by omega) (by omega), chk_t (by omega), Option.bind_some, hc]
    have : n = 1 ∨ n = 2 ∨ n = 3 ∨ n = 4 ∨ n = 5 ∨ n = 6 := by omega
    rw [ok_bindR, ok_some, flok_nx, ok_some]
    rcases this with rfl | rfl | rfl | rfl | rfl | rfl <;> decide +kernel
end Go.Pu
