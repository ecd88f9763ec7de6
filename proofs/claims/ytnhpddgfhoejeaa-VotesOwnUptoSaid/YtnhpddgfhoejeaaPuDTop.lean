/- The plain law: each top side beats each other one, and from each top side all are come to. -/
import Derived.Test.YtnhpddgfhoejeaaWVotesOwnModels
import Derived.Test.YtnhpddgfhoejeaaPuTop
set_option linter.all false
namespace Go.Pu
open Go.Fw Go.Mo
theorem nodup_len {n : Nat} {l : List Int} (hn : l.Nodup) (hb : ∀ x ∈ l, 0 ≤ x ∧ x < n) : l.length ≤ n := by
  have h : (l.map Int.toNat).Nodup := by
    unfold List.Nodup
    rw [List.pairwise_map]
    exact hn.imp_of_mem fun ha hb' hne => by have := hb _ ha; have := hb _ hb'; omega
  have := List.Nodup.length_le_of_subset h (l₂ := List.range n) (fun x hx => by
    obtain ⟨y, hy, rfl⟩ := List.mem_map.1 hx
    have := hb y hy
    exact List.mem_range.2 (by omega))
  simpa using this
theorem DuelTop (x0 : List (List Int)) (_ : (∀ r ∈ x0, (∀ x ∈ r, (Lit.int .i64 x).wf = true) ∧ r.length ≤ maxLen) ∧ x0.length ≤ maxLen) : pk_DuelTop_m x0 = some true := by
  apply Ok.eq
  unfold pk_DuelTop_m
  have e1 : pk_duels_m = some true := by decide +kernel
  rw [e1]
  simp only [Option.bind_some, Bool.not_true, Bool.false_eq_true, if_false]
  rcases tab_split x0 with ⟨d, h, ec⟩ | ⟨e, he, ec⟩
  · have et := top_ok h
    have hn := h.n1; have hn6 := h.n6; have hM := h.mat
    generalize hN : x0.length = n at *
    obtain ⟨t, ht, hT⟩ := tops_ex (d := d) hn
    have hmem : ∀ k : Nat, k < n → ((k : Int) ∈ pickB (topB n d) n ↔ Tops n d k) := fun k hk => by
      rw [mem_pickB]
      constructor
      · rintro ⟨j, _, h2, h3⟩
        have : j = k := by omega
        subst this; exact topB_iff.1 h2
      · intro hk'; exact ⟨k, hk, topB_iff.2 hk', rfl⟩
    have hne : ((pickB (topB n d) n).length : Int) ≠ 0 := fun e0 => by
      have := (hmem t ht).2 hT
      rw [List.eq_nil_of_length_eq_zero (l := pickB (topB n d) n) (by omega)] at this; cases this
    simp only [et, ok_bind, ok_ite, ok_bindR, ok_some, flok_nx, bne_self_eq_false, Bool.false_eq_true, false_implies, true_and, not_false_eq_true, true_implies, beq_iff_eq, hne]
    refine ok_rangeL (fun _ _ => True) trivial (fun k r s hk _ => ?_) fun s _ => ?_
    · obtain ⟨hr, hkl⟩ := nth_of hk
      rw [hN] at hkl
      subst hr
      unfold pk_DuelTop_b1
      simp only [ok_bindF, ok_some]
      refine ok_rangeL (fun _ _ => True) trivial (fun j q s hj _ => ?_) fun s _ => by trivial
      obtain ⟨hq, hjl⟩ := nth_of hj
      rw [hN] at hjl
      subst hq
      unfold pk_DuelTop_b2
      simp only [idx_nat, hM.cell? hkl hjl, hM.cell? hjl hkl, Option.bind_some, ok_bindF, ok_ite, ok_some, flok_nx, flok_rt, contains_ok, hmem k hkl, hmem j hjl, decide_eq_true_eq, Bool.not_eq_true', decide_eq_false_iff_not]
      refine ⟨fun hk' => ⟨fun hj' => ⟨fun hle => ?_, fun _ => trivial⟩, fun _ => ⟨fun hh => by (first | cases hh | exact hh.elim), fun _ => trivial⟩⟩, fun _ => ⟨fun hh => by (first | cases hh | exact hh.elim), fun _ => trivial⟩⟩
      have := tops_beat hkl hjl hk' hj'
      omega
    · refine ok_rangeN (fun _ _ => True) trivial (fun k s hk _ => ?_) fun s _ => by trivial
      have hx := mem_pickB.1 (nth_mem hk)
      obtain ⟨a, ha, hb, hab⟩ := hx
      have hta := topB_iff.1 hb
      unfold pk_DuelTop_b3
      simp only [idx_nat, nth_at hk, hab, Option.bind_some, ok_bindF, ok_ite, ok_some, flok_nx, flok_rt, decide_eq_true_eq, hN]
      refine ⟨fun _ => by omega, fun _ => ⟨fun _ => by omega, fun _ => ?_⟩⟩
      -- the sides that are come to: closed when the list is through
      let I : List Int × Int → Prop := fun p => 0 ≤ p.2 ∧ p.2 ≤ p.1.length ∧ p.1.Nodup ∧ (∀ x ∈ p.1, 0 ≤ x ∧ x < n) ∧ (a : Int) ∈ p.1 ∧ ∀ i : Nat, (i : Int) < p.2 → ∀ y : Nat, y < n → Unb d (nth p.1 i).toNat y → (y : Int) ∈ p.1
      refine ok_loopM I (fun p => n - p.2.toNat) (fun p hp => ?_) _ _ ⟨by simp, by simp, by simp, by simp; omega, by simp, fun i hi => by simp only at hi; omega⟩ (by simp only; omega)
      obtain ⟨l, i⟩ := p
      obtain ⟨p1, p2, p3, p4, p5, p6⟩ := hp
      simp only at p1 p2 p3 p4 p5 p6
      have hlen := nodup_len p3 p4
      obtain ⟨i, rfl⟩ : ∃ j : Nat, i = j := ⟨i.toNat, by omega⟩
      unfold pk_DuelTop_b4
      simp only [ok_bind, ok_ite, ok_some, ok_bindF, flok_nx, flok_br, decide_eq_true_eq]
      refine ⟨fun hlt => ?_, fun hge => ?_⟩
      · have hil : i < l.length := by omega
        have hu := p4 _ (nth_mem hil)
        obtain ⟨u, hu'⟩ : ∃ u : Nat, nth l i = u := ⟨(nth l i).toNat, by omega⟩
        have hun : u < n := by omega
        refine ok_rangeL (fun (j : Nat) (s : List Int) => s.Nodup ∧ (∀ x ∈ s, 0 ≤ x ∧ x < n) ∧ (∃ r, s = l ++ r) ∧ ∀ y : Nat, y < j → Unb d u y → (y : Int) ∈ s) ⟨p3, p4, ⟨[], by simp⟩, by intro y hy; omega⟩ (fun j q s hj hs => ?_) fun s hs => ?_
        · obtain ⟨hq, hjl⟩ := nth_of hj
          rw [hN] at hjl
          subst hq
          obtain ⟨s1, s2, ⟨r, s3⟩, s4⟩ := hs
          have hsl := nodup_len s1 s2
          have hni : s[i]? = some (u : Int) := by rw [s3, List.getElem?_append_left hil, nth_at hil, hu']
          unfold pk_DuelTop_b5
          simp only [idx_nat, hni, hM.row? hun, hM.cell? hun hjl, hM.cell? hjl hun, Option.bind_some, ok_bindF, ok_bind, ok_ite, ok_chk, ok_some, flok_nx, flok_rt, contains_ok, decide_eq_true_eq, Bool.not_eq_true', decide_eq_false_iff_not]
          have keep : ((j : Int) ∈ s ∨ ¬ Unb d u j) → s.Nodup ∧ (∀ x ∈ s, 0 ≤ x ∧ x < n) ∧ (∃ r, s = l ++ r) ∧ ∀ y : Nat, y < j + 1 → Unb d u y → (y : Int) ∈ s := fun hh => ⟨s1, s2, ⟨r, s3⟩, fun y hy hun' => by
            by_cases hyj : y = j
            · subst hyj; rcases hh with hh | hh
              · exact hh
              · exact absurd hun' hh
            · exact s4 y (by omega) hun'⟩
          refine ⟨fun hnot => ⟨fun hge => ⟨by simp; omega, ?_⟩, fun hng => keep (.inr fun hh => hng hh)⟩, fun hin => ⟨fun hh => by (first | cases hh | exact hh.elim), fun _ => keep (.inl (Classical.not_not.1 hin))⟩⟩
          refine ⟨List.nodup_append.2 ⟨s1, by simp, fun x hx y hy => by simp at hy; subst hy; intro e; subst e; exact hnot hx⟩, fun x hx => ?_, ⟨r ++ [(j : Int)], by rw [s3]; simp⟩, fun y hy hun' => ?_⟩
          · rcases List.mem_append.1 hx with hx | hx
            · exact s2 x hx
            · simp at hx; subst hx; omega
          · by_cases hyj : y = j
            · subst hyj; simp
            · exact List.mem_append_left _ (s4 y (by omega) hun')
        · obtain ⟨s1, s2, ⟨r, s3⟩, s4⟩ := hs
          rw [wadd_of (by omega) (by omega)]
          have hsl : l.length ≤ s.length := by rw [s3]; simp
          refine ⟨⟨by simp only; omega, by simp only; omega, s1, s2, by rw [s3]; exact List.mem_append_left _ p5, fun k hk y hy hun' => ?_⟩, by omega⟩
          simp only at hk
          by_cases hki : k = i
          · subst hki
            simp only [s3, nth_append, hil, if_true, hu', Int.toNat_natCast] at hun'
            rw [hN] at s4
            exact s4 y hy hun'
          · have hkl : k < l.length := by omega
            simp only [s3, nth_append, hkl, if_true] at hun'
            rw [s3]; exact List.mem_append_left _ (p6 k (by omega) y hy hun')
      · have hi : i = l.length := by omega
        have closed : ∀ x : Nat, (x : Int) ∈ l → ∀ y : Nat, y < n → Unb d x y → (y : Int) ∈ l := fun x hx y hy hun => by
          obtain ⟨k, hk, hkx⟩ := mem_nth hx
          refine p6 k (by omega) y hy ?_
          rw [hkx]; exact hun
        have reach : ∀ k, ∀ x y : Nat, (x : Int) ∈ l → y < n → k ≤ n → Way d k x y → (y : Int) ∈ l := by
          intro k
          induction k with
          | zero => intro x y hx hy _ hw; rcases hw with rfl | hw; exact hx; exact closed x hx y hy hw
          | succ k ih =>
            intro x y hx hy hkn hw
            rcases hw with hw | ⟨hw1, hw2⟩
            · exact ih x y hx hy (by omega) hw
            · exact ih k y (ih x k hx (by omega) (by omega) hw1) hy (by omega) hw2
        have all : ∀ y : Nat, y < n → (y : Int) ∈ l := fun y hy => reach n a y p5 hy (Nat.le_refl _) (hta y hy)
        have hge' : n ≤ l.length := by
          have h1 : ((List.range n).map (fun (k : Nat) => (k : Int))).Nodup := by
            unfold List.Nodup
            rw [List.pairwise_map]
            exact (List.nodup_range (n := n)).imp fun h => by omega
          have := List.Nodup.length_le_of_subset h1 (l₂ := l) (fun x hx => by
            obtain ⟨y, hy, rfl⟩ := List.mem_map.1 hx
            exact all y (List.mem_range.1 hy))
          simpa using this
        simp only [ok_ite, ok_some, flok_nx, flok_rt, bne_iff_ne]
        exact ⟨fun hh => absurd (by omega) hh, fun _ => trivial⟩
  · have et : duel_Top_m x0 = some ([], e) := by
      unfold duel_Top_m
      rw [ec, Option.bind_some, if_pos (by simpa using he)]
    simp only [et, ok_bind, ok_ite, ok_bindR, ok_some, flok_nx, bne_iff_ne]
    simp [he]
end Go.Pu
