/- The plain law: of what is left no row is worse than another one everywhere, and no place; and what is left of that is all of it. -/
import Derived.Test.YtocimbokgngofaaWEquilLeftModels
import Derived.Test.YtocimbokgngofaaPuEQRest
set_option linter.all false
namespace Go.Pu
open Go.Fw Go.Mo
theorem pick_nth {p : Nat → Bool} {n i : Nat} (hi : i < (pickB p n).length) : ∃ x, x < n ∧ p x = true ∧ nth (pickB p n) i = (x : Int) := by
  obtain ⟨x, hx, hp, e⟩ := mem_pickB.1 (nth_mem hi)
  exact ⟨x, hx, hp, e⟩
theorem part_ok {r c : Nat} {m : List (List Int)} {f : Nat → Nat → Int} (h : Tbl r c m f) {p q : Nat → Bool} (hp : 0 < (pickB p r).length) (hq : 0 < (pickB q c).length) :
    ∃ m', pk_EquilLeft_1_m m (pickB p r) (pickB q c) = some m' ∧ Tbl (pickB p r).length (pickB q c).length m' (fun i j => f (nth (pickB p r) i).toNat (nth (pickB q c) j).toNat) := by
  have r6 := h.r6; have c6 := h.c6
  have pl := @pickB_len p r; have ql := @pickB_len q c
  have : Ok (pk_EquilLeft_1_m m (pickB p r) (pickB q c)) (fun m' => Mat (pickB p r).length (pickB q c).length m' (fun i j => f (nth (pickB p r) i).toNat (nth (pickB q c) j).toNat)) := by
    unfold pk_EquilLeft_1_m
    rw [ok_bindR]
    refine ok_rangeL (fun i (l : List (List Int)) => l.length = i ∧ ∀ k, k < i → Vec (pickB q c).length (nth l k) (fun j => f (nth (pickB p r) k).toNat (nth (pickB q c) j).toNat)) ⟨rfl, fun k hk => by omega⟩ (fun i v l hi hI => ?_) fun l hl' => ?_
    · obtain ⟨hv, hil⟩ := nth_of hi
      obtain ⟨x, hx, hpx, ex⟩ := pick_nth hil
      rw [hv] at ex
      obtain ⟨i1, i2⟩ := hI
      unfold pk_EquilLeft_1_b1
      rw [ok_bindF]
      refine ok_rangeL (fun j (l : List Int) => Vec j l (fun j => f x (nth (pickB q c) j).toNat)) Vec.nil (fun j w l hj hJ => ?_) fun l' hl' => ?_
      · obtain ⟨hw, hjl⟩ := nth_of hj
        obtain ⟨y, hy, hqy, ey⟩ := pick_nth hjl
        rw [hw] at ey
        have hlen := hJ.len
        subst ex ey
        unfold pk_EquilLeft_1_b2
        rw [idx_nat, h.mat.row? hx, Option.bind_some, idx_nat, h.mat.cell? hx hy, Option.bind_some, chk_t (by simp; omega), Option.bind_some, ok_some, flok_nx]
        exact hJ.snoc (by rw [hw, Int.toNat_natCast])
      · rw [chk_t (by simp; omega), Option.bind_some, ok_some, flok_nx]
        refine ⟨by simp [i1], fun k hk => ?_⟩
        rw [nth_append, i1]
        split
        · rename_i hk'; exact i2 k hk'
        · have : k = i := by omega
          subst this
          rw [Nat.sub_self, nth_cons_zero, hv, ex]
          simpa using hl'
    · rw [ok_some]
      exact ⟨hl'.1, fun k hk => (hl'.2 k hk).len, fun k j hk hj => (hl'.2 k hk).at_ j hj⟩
  obtain ⟨m', e, hM⟩ := this
  refine ⟨m', e, hM, hp, by omega, hq, by omega, fun i j hi hj => ?_⟩
  obtain ⟨x, hx, _, ex⟩ := pick_nth hi
  obtain ⟨y, hy, _, ey⟩ := pick_nth hj
  rw [ex, ey]
  exact h.val x y hx hy
theorem pick_full {n : Nat} (h : n ≤ 6) : (pickB (nth (full n)) n).length = n := by
  have : ∀ k, k ≤ n → (pickB (nth (full n)) k).length = k := by
    intro k
    induction k with
    | zero => intro _; rfl
    | succ k ih =>
      intro hk
      simp only [pickB]
      rw [full_nth (by omega), if_pos (by simp; omega), List.length_append, ih (by omega)]; rfl
  exact this n (Nat.le_refl _)
theorem no_dom {r c : Nat} {f : Nat → Nat → Int} {R C : List Bool} (c6 : c ≤ 6) (hn : ∀ i k, i < r → k < r → nth R i = true → nth R k = true → ¬ Dom c f C i k) : ∀ i k, i < (pickB (nth R) r).length → k < (pickB (nth R) r).length → ¬ Dom (pickB (nth C) c).length (fun i j => f (nth (pickB (nth R) r) i).toNat (nth (pickB (nth C) c) j).toNat) (full (pickB (nth C) c).length) i k := by
  intro i k hi hk hD
  obtain ⟨x, hx, hpx, ex⟩ := pick_nth hi
  obtain ⟨z, hz, hpz, ez⟩ := pick_nth hk
  refine hn x z hx hz hpx hpz fun y hy hyC => ?_
  obtain ⟨j, hj, ej⟩ := mem_nth (mem_pickB.2 ⟨y, hy, hyC, rfl⟩)
  have ql := @pickB_len (nth C) c
  have := hD j hj (by rw [full_nth (by omega)]; exact decide_eq_true hj)
  simp only [ex, ez, ej, Int.toNat_natCast] at this
  exact this
theorem EquilLeft (x0 : List (List Int)) (_ : (∀ r ∈ x0, (∀ x ∈ r, (Lit.int .i64 x).wf = true) ∧ r.length ≤ maxLen) ∧ x0.length ≤ maxLen) (x1 : List (List Int)) (_ : (∀ r ∈ x1, (∀ x ∈ r, (Lit.int .i64 x).wf = true) ∧ r.length ≤ maxLen) ∧ x1.length ≤ maxLen) : pk_EquilLeft_m x0 x1 = some true := by
  apply Ok.eq
  unfold pk_EquilLeft_m
  rw [equils_t, Option.bind_some, if_neg (by decide)]
  rcases eq_split x0 x1 with ⟨r, c, f, g, ha, hb⟩ | ⟨e, he, hc⟩
  · obtain ⟨R, C, el, hI, n1, n2⟩ := left_ok ha hb
    obtain ⟨x, hx, hxR⟩ := hI.rn
    obtain ⟨y, hy, hyC⟩ := hI.cn
    have p1 := pick_pos hx hxR
    have p2 := pick_pos hy hyC
    obtain ⟨a', ea, hA⟩ := part_ok ha p1 p2
    obtain ⟨b', eb, hB⟩ := part_ok hb p1 p2
    obtain ⟨R', C', el', hI', _, _⟩ := left_ok hA hB
    have n2' : ∀ i k, i < (pickB (nth C) c).length → k < (pickB (nth C) c).length → ¬ Dom (pickB (nth R) r).length (fun y x => (fun i j => g (nth (pickB (nth R) r) i).toNat (nth (pickB (nth C) c) j).toNat) x y) (full (pickB (nth R) r).length) i k :=
      no_dom (f := fun y x => g x y) ha.r6 n2
    obtain ⟨e1, e2⟩ := hI'.no (no_dom ha.c6 n1) n2'
    have ql1 := @pickB_len (nth R) r; have ql2 := @pickB_len (nth C) c
    have hr6 := ha.r6; have hc6 := ha.c6
    rw [el, Option.bind_some, if_neg (by simp), ok_bindR]
    refine ok_rangeN (fun _ _ => True) trivial (fun i u hi _ => ?_) fun _ _ => ?_
    · obtain ⟨z, hz, _, ez⟩ := pick_nth hi
      unfold pk_EquilLeft_b1
      simp only
      rw [idx_nat, nth_at hi, Option.bind_some, ez, if_neg (by simp), ok_bindF, ok_some, flok_nx, ha.mat.len, if_neg (by simp; omega), ok_some, flok_nx]; trivial
    · rw [ok_bindR]
      refine ok_rangeN (fun _ _ => True) trivial (fun i u hi _ => ?_) fun _ _ => ?_
      · obtain ⟨z, hz, _, ez⟩ := pick_nth hi
        unfold pk_EquilLeft_b2
        simp only
        rw [idx_nat, nth_at hi, Option.bind_some, ez, if_neg (by simp), show (0 : Int) = ((0 : Nat) : Int) from rfl, idx_nat, ha.mat.row? ha.r1, Option.bind_some, ok_bindF, ok_some, flok_nx, ha.mat.row 0 ha.r1, if_neg (by simp; omega), ok_some, flok_nx]; trivial
      · simp only
        rw [ea, Option.bind_some, eb, Option.bind_some, el', Option.bind_some, e1, e2]
        simp only [beq_self_eq_true, if_true, pick_full (show (pickB (nth R) r).length ≤ 6 by omega), pick_full (show (pickB (nth C) c).length ≤ 6 by omega)]
        simp [ok_bindR, ok_some, flok_nx]
  · rw [left_no he hc, Option.bind_some, if_pos (by simpa using he), ok_some]
    rfl
end Go.Pu
