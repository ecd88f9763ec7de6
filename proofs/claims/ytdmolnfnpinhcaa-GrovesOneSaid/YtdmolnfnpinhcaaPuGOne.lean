/- The plain law: of one good all pay together just the second price; it goes to one who tells most. -/
import Derived.Test.YtdmolnfnpinhcaaWGrovesOneModels
import Derived.Test.YtdmolnfnpinhcaaPuGrovL
import Derived.Test.YtdmolnfnpinhcaaPuAuction
import Derived.Test.YtdmolnfnpinhcaaPuMax
import Derived.Test.YtdmolnfnpinhcaaPuSeats
set_option linter.all false
namespace Go.Pu
open Go.Fw Go.Mo
theorem own_at {r : List Int} {j : Nat} : own r (j : Int) = nth r j := by unfold own; rw [if_neg (by omega), Int.toNat_natCast]
/-- the good to one bidder alone -/
theorem fits_one : ∀ {w : List (List Int)} {T : Nat → Bool} {i : Nat}, i < w.length → 1 ≤ (nth w i).length → T 0 = false → ∃ l, Fits w T l ∧ val w l = nth (nth w i) 0
  | [], _, _, h, _, _ => by simp at h
  | r :: w, T, 0, _, hr, hT => by
    have none : ∀ (w : List (List Int)) (T : Nat → Bool), Fits w T (List.replicate w.length (-1)) ∧ val w (List.replicate w.length (-1)) = 0 := by
      intro w
      induction w with
      | nil => intro T; exact ⟨rfl, rfl⟩
      | cons r w ih =>
        intro T
        refine ⟨⟨-1, _, rfl, .inl ⟨rfl, (ih T).1⟩⟩, ?_⟩
        show own r (-1) + val w (List.replicate w.length (-1)) = 0
        rw [own_none, (ih T).2]; rfl
    obtain ⟨h1, h2⟩ := none w (fun x => T x || x == 0)
    refine ⟨((0 : Nat) : Int) :: List.replicate w.length (-1), ⟨_, _, rfl, .inr ⟨0, hr, hT, rfl, h1⟩⟩, ?_⟩
    show own r ((0 : Nat) : Int) + val w (List.replicate w.length (-1)) = nth r 0
    rw [own_at, h2]; omega
  | r :: w, T, i + 1, h, hr, hT => by
    obtain ⟨l, h1, h2⟩ := fits_one (w := w) (T := T) (i := i) (by simpa using h) hr hT
    refine ⟨-1 :: l, ⟨_, _, rfl, .inl ⟨rfl, h1⟩⟩, ?_⟩
    show own r (-1) + val w l = nth (nth w i) 0
    rw [own_none, h2]; omega
/-- nobody has it, or just one -/
theorem fits_cases : ∀ {w : List (List Int)} {T : Nat → Bool} {l : List Int}, (∀ r ∈ w, r.length ≤ 1) → Fits w T l →
    ((∀ j, j < w.length → nth l j = -1) ∧ val w l = 0) ∨ (T 0 = false ∧ ∃ i, i < w.length ∧ nth l i = 0 ∧ (nth w i).length = 1 ∧ (∀ j, j < w.length → j ≠ i → nth l j = -1) ∧ val w l = nth (nth w i) 0)
  | [], _, l, _, h => .inl ⟨fun j hj => by simp at hj, by rw [show l = [] from h]; rfl⟩
  | r :: w, T, _, hr, ⟨c, l, rfl, h⟩ => by
    have hr' : ∀ r ∈ w, r.length ≤ 1 := fun x hx => hr x (by simp [hx])
    have h1 := hr r (by simp)
    rcases h with ⟨rfl, h⟩ | ⟨j, hj, hT, rfl, h⟩
    · rcases fits_cases hr' h with ⟨a, b⟩ | ⟨hT, i, hi, a, b, d, e⟩
      · left
        refine ⟨fun j hj => ?_, ?_⟩
        · cases j with
          | zero => rfl
          | succ j => exact a j (by simpa using hj)
        · show own r (-1) + val w l = 0
          rw [own_none, b]; rfl
      · right
        refine ⟨hT, i + 1, by simp; omega, a, b, fun j hj hji => ?_, ?_⟩
        · cases j with
          | zero => rfl
          | succ j => exact d j (by simpa using hj) (by omega)
        · show own r (-1) + val w l = nth (nth w i) 0
          rw [own_none, e]; omega
    · have hj0 : j = 0 := by omega
      subst hj0
      rcases fits_cases hr' h with ⟨a, b⟩ | ⟨hT', _⟩
      · right
        refine ⟨hT, 0, by simp, rfl, by show r.length = 1; omega, fun j hj hji => ?_, ?_⟩
        · cases j with
          | zero => exact absurd rfl hji
          | succ j => exact a j (by simpa using hj)
        · show own r ((0 : Nat) : Int) + val w l = nth r 0
          rw [own_at, b]; omega
      · simp at hT'
theorem sum_zero : ∀ {l : List Int}, (∀ j, j < l.length → nth l j = 0) → l.sum = 0
  | [], _ => rfl
  | x :: l, h => by
    have hx : x = 0 := h 0 (by simp)
    rw [List.sum_cons, hx, sum_zero (l := l) fun j hj => h (j + 1) (by simp; omega)]; rfl
theorem sum_single : ∀ {l : List Int} {i : Nat}, i < l.length → (∀ j, j < l.length → j ≠ i → nth l j = 0) → l.sum = nth l i
  | [], _, h, _ => by simp at h
  | x :: l, 0, _, h => by
    have : l.sum = 0 := sum_zero fun k hk => h (k + 1) (by simp; omega) (by omega)
    rw [List.sum_cons, this]; show x + 0 = x; omega
  | x :: l, i + 1, hi, h => by
    have hx : x = 0 := h 0 (by simp) (by omega)
    rw [List.sum_cons, hx, sum_single (l := l) (i := i) (by simpa using hi) fun j hj hji => h (j + 1) (by simp; omega) (by omega)]
    show 0 + nth l i = nth l i; omega
theorem GrovesOne (x0 : List Int) (h0 : (∀ x ∈ x0, (Lit.int .i64 x).wf = true) ∧ x0.length ≤ maxLen) : pk_GrovesOne_m x0 = some true := by
  obtain ⟨l, el, hll, hlb⟩ := bidsOf_ok x0 h0.2
  apply Ok.eq
  unfold pk_GrovesOne_m
  rw [vickreys_t, Option.bind_some, if_neg (by decide), auctions_t, Option.bind_some, ok_bindR, ok_some, flok_nx, if_neg (by decide), el, Option.bind_some]
  have em : (if (4 : Int) < (l.length : Int) then (4 : Int) else (l.length : Int)) = ((min 4 l.length : Nat) : Int) := by omega
  rw [em, Int.toNat_natCast, List.drop_zero]
  have hbl : (l.take (min 4 l.length)).length = min 4 l.length := by rw [List.length_take]; omega
  have hb : ∀ x ∈ l.take (min 4 l.length), 0 ≤ x ∧ x ≤ 100 := fun x hx => hlb x (List.mem_of_mem_take hx)
  rw [chk_t (by omega), Option.bind_some]
  have b2 : ∀ (y : List Int × Int × Int) (i : Nat), pk_GrovesOne_b2 y l i = fun _ => (idx y.1 (i : Int)).bind fun y246 => bindF (ρ := Bool) (β := Unit) (σ := Bool) (if y246 == (0 : Int) then (idx (l.take (min 4 l.length)) (i : Int)).bind fun y263 => some (.nx (y263 != y.2.1)) else some (.nx false)) fun x254 => (if x254 then some (.rt false) else some (.nx ())) := fun y i => by
    unfold pk_GrovesOne_b2
    rw [em, Int.toNat_natCast, List.drop_zero]
  generalize l.take (min 4 l.length) = b at *
  have hb4 : b.length ≤ 4 := by omega
  rw [ok_bindR]
  refine ok_rangeL (fun k (w : List (List Int)) => w = (b.map (fun x => [x])).take k) rfl (fun k x w hk hI => ?_) fun w hw => ?_
  · obtain ⟨hx, hkl⟩ := nth_of hk
    unfold pk_GrovesOne_b1
    have hwl : w.length ≤ b.length := by rw [hI, List.length_take, List.length_map]; omega
    rw [chk_t (by simp only [List.length_cons, List.length_nil]; omega), Option.bind_some, ok_some, flok_nx, hI, List.take_succ, List.getElem?_map, hk]; rfl
  · rw [List.take_of_length_le (by simp)] at hw
    have hbid : ∀ k, k < b.length → 0 ≤ nth b k ∧ nth b k ≤ 100 := fun k hk => hb _ (nth_mem hk)
    have hg : Goods b.length 1 w := by
      refine ⟨by rw [hw, List.length_map], hb4, by decide, fun r hr => ?_⟩
      rw [hw] at hr
      obtain ⟨x, hx, rfl⟩ := List.mem_map.1 hr
      have := hb x hx
      exact ⟨rfl, fun y hy => by rw [List.mem_singleton] at hy; subst hy; omega⟩
    have hwn : ∀ i, i < b.length → nth w i = [nth b i] := fun i hi => by rw [hw, nth_map hi]
    have hwl : w.length = b.length := hg.1
    obtain ⟨g, v, p, es, ep, s⟩ := groves_ok hg
    have hgl := s.opt.fits.len
    have hpl := s.len
    obtain ⟨q, o, hT, eq⟩ := second_ok (l := b) (r := 0) ⟨by omega, fun x hx => by have := hb x hx; omega⟩ (by decide) (by decide)
    rw [es, Option.bind_some, ep, Option.bind_some, eq, Option.bind_some]
    dsimp only
    by_cases hn : b.length = 0
    · rw [if_pos (by rw [beq_iff_eq]; omega), ok_bindR, good_at, Option.bind_some, if_pos (by decide), if_pos (by rw [beq_iff_eq, hgl, hpl, hwl, hn]; rfl), ok_some, flok_nx, ok_some, beq_iff_eq]
      have := s.opt.val
      have e : w = [] := List.eq_nil_of_length_eq_zero (by omega)
      rw [← this, e]; rfl
    · rw [if_neg (by rw [beq_iff_eq]; omega), ok_bindR]
      have hq : 0 ≤ q := by
        by_cases h : q < 0
        · have := (hT.none h).2 0 (by omega); have := hbid 0 (by omega); omega
        · omega
      rw [if_neg (by omega)]
      dsimp only
      rw [good_at, Option.bind_some, if_neg (by decide), if_neg (by rw [bne_iff_ne]; omega), if_neg (by rw [bne_iff_ne]; omega)]
      obtain ⟨mx, emx, hmx, hmax⟩ := max_ok (l := b) (by omega) (by omega)
      obtain ⟨z, hz, ez⟩ := mem_nth hmx
      rw [emx, Option.bind_some]
      have r1 : ∀ r ∈ w, r.length ≤ 1 := fun r hr => by rw [(hg.2.2.2 r hr).1]; exact Nat.le_refl _
      have T0 : has 0 0 = false := rfl
      -- as much as anyone tells
      have F1 : ∀ i, i < b.length → nth b i ≤ v := fun i hi => by
        obtain ⟨l, h1, h2⟩ := fits_one (w := w) (T := has 0) (i := i) (by omega) (by rw [hwn i hi]; exact Nat.le_refl _) T0
        have := s.opt.most l h1
        rw [h2, hwn i hi] at this; exact this
      have vcase := fits_cases r1 s.opt.fits
      rw [s.opt.val] at vcase
      have pb : ∀ i, i < b.length → 0 ≤ nth p i ∧ nth p i ≤ own (nth w i) (nth g i) := fun i hi => s.fair hg hi
      have ev : v = mx := by
        have h1 := F1 z hz
        rw [ez] at h1
        rcases vcase with ⟨_, h2⟩ | ⟨_, i, hi, _, _, _, h2⟩
        · have := hbid z hz; omega
        · rw [hwn i (by omega)] at h2
          have : v ≤ mx := by rw [h2]; exact hmax _ (nth_mem (by omega))
          omega
      rw [if_neg (by rw [bne_iff_ne]; exact fun h => h ev)]
      have pn : ∀ i, i < b.length → nth g i = -1 → nth p i = 0 := fun i hi h => by have := pb i hi; rw [h, own_none] at this; omega
      have ps : pk_sum_m p = some p.sum := psum_ok (B := 1000000) (by decide) (fun k hk => by have := pb k (by omega); have := hg.own0 (i := k) (by omega) (nth g k); omega) (by omega)
      have hloop : Ok (rangeN (ρ := Bool) (γ := Unit) (pk_GrovesOne_b2 (g, v, 0) l) g.length 0 ()) (FlOk (fun _ => True) (fun _ => False) (fun r => r = true)) := by
        refine ok_rangeN (fun _ _ => True) trivial (fun i t hi _ => ?_) fun t _ => trivial
        rw [b2]
        dsimp only
        rw [idx_nat, nth_at hi, Option.bind_some, ok_bindF]
        by_cases h0 : nth g i = 0
        · rw [if_pos (by rw [beq_iff_eq]; exact h0), idx_nat, nth_at (by omega), Option.bind_some, ok_some, flok_nx]
          have : nth b i = v := by
            rcases vcase with ⟨h1, _⟩ | ⟨_, i', hi', h1, _, h2, h3⟩
            · have := h1 i (by omega); omega
            · by_cases e : i = i'
              · subst e; rw [h3, hwn i (by omega)]; rfl
              · have := h2 i (by omega) e; omega
          rw [if_neg (by rw [bne_iff_ne]; exact fun h => h this), ok_some, flok_nx]; trivial
        · rw [if_neg (by rw [beq_iff_eq]; exact h0), ok_some, flok_nx, if_neg (by decide), ok_some, flok_nx]; trivial
      have hend : Ok (bindR (ρ := Bool) (β := Unit) (σ := Unit) (rangeN (γ := Unit) (pk_GrovesOne_b2 (g, v, 0) l) g.length 0 ()) fun _ => some true) (fun r => r = true) := by
        rw [ok_bindR]
        exact hloop.mono fun y hy => by
          cases y with
          | nx s => rw [flok_nx, ok_some]
          | br b => exact hy.elim
          | rt b => exact hy
      by_cases hv : v > 0
      · rw [if_pos (by rw [decide_eq_true_eq]; exact hv), ps, Option.bind_some]
        have sum : p.sum = o := by
          rcases vcase with ⟨_, h2⟩ | ⟨_, i, hi, h1, h1', h2, h3⟩
          · omega
          · rw [hwn i (by omega)] at h3
            have h3' : v = nth b i := h3
            rw [sum_single (i := i) (by omega) fun j hj hji => pn j (by omega) (h2 j (by omega) hji)]
            obtain ⟨l', o', ho, e⟩ := s.pay i (by omega)
            have e0 : own (nth w i) (nth g i) = v := by rw [h1, hwn i (by omega), h3']; rfl
            rw [e0] at e
            have e' : nth p i = o' := by omega
            rw [e']
            -- what the others have without him
            have rows : ∀ r ∈ w.set i [], r.length ≤ 1 := fun r hr => by
              rcases List.mem_or_eq_of_mem_set hr with h | h
              · exact r1 r h
              · subst h; simp
            have n1 : ∀ j, j < b.length → j ≠ i → nth (w.set i []) j = [nth b j] := fun j hj hji => by rw [nth_set (by omega), if_neg hji, hwn j hj]
            have n2 : nth (w.set i []) i = [] := by rw [nth_set (by omega), if_pos rfl]
            have G1 : ∀ j, j < b.length → j ≠ i → nth b j ≤ o' := fun j hj hji => by
              obtain ⟨l, a1, a2⟩ := fits_one (w := w.set i []) (T := has 0) (i := j) (by rw [List.length_set]; omega) (by rw [n1 j hj hji]; exact Nat.le_refl _) T0
              have := ho.most l a1
              rw [a2, n1 j hj hji] at this; exact this
            have G2 : o' = 0 ∨ ∃ j, j < b.length ∧ j ≠ i ∧ o' = nth b j := by
              have := fits_cases rows ho.fits
              rw [ho.val] at this
              rcases this with ⟨_, a⟩ | ⟨_, j, hj, _, a1, _, a2⟩
              · exact .inl a
              · rw [List.length_set] at hj
                by_cases e : j = i
                · subst e; rw [n2] at a1; cases a1
                · rw [n1 j (by omega) e] at a2
                  exact .inr ⟨j, by omega, e, a2⟩
            have G0 : 0 ≤ o' := by
              rw [← ho.val]
              exact (val_bound (rs := w.set i []) (l := l') fun r hr => by
                rcases List.mem_or_eq_of_mem_set hr with h | h
                · exact (hg.2.2.2 r h).2
                · subst h; intro x hx; cases hx).1
            have t1 := hT.ge; have t2 := hT.all; have t3 := hT.is; have t4 := hT.one hq
            obtain ⟨q', rfl⟩ : ∃ q' : Nat, q = (q' : Int) := ⟨q.toNat, by omega⟩
            rw [Int.toNat_natCast] at t4
            by_cases hqi : q' = i
            · subst hqi
              have a1 : o' ≤ o := by
                rcases G2 with h | ⟨j, hj, hji, h⟩
                · omega
                · rw [h]; exact t2 j hj (by omega)
              have a2 : o ≤ o' := by
                rcases t3 with h | ⟨j, hj, hji, h⟩
                · omega
                · rw [h]; exact G1 j hj (by omega)
              omega
            · have a1 : v ≤ o := by rw [h3']; exact t2 i (by omega) (by omega)
              have a2 : o ≤ v := by
                rcases t3 with h | ⟨j, hj, hji, h⟩
                · omega
                · rw [h]; exact F1 j hj
              have a3 : nth b q' = v := by
                have := t4.2.2.1 i (by omega); have := F1 q' (by omega); omega
              have a4 := G1 q' (by omega) hqi
              have a5 : o' ≤ v := by
                rcases G2 with h | ⟨j, hj, hji, h⟩
                · omega
                · rw [h]; exact F1 j hj
              omega
        rw [if_neg (by rw [bne_iff_ne]; exact fun h => h sum), if_neg (by rw [beq_iff_eq]; omega), ok_some, flok_nx, if_neg (by decide)]
        exact hend
      · have v0 : v = 0 := by have := F1 0 (by omega); have := hbid 0 (by omega); omega
        have sum : p.sum = 0 := sum_zero fun j hj => by
          have h1 := pb j (by omega)
          have h2 := s.opt.fits.at (i := j) (by omega)
          rcases h2 with h2 | ⟨k, hk, h2⟩
          · rw [h2, own_none] at h1; omega
          · rw [hwn j (by omega)] at hk
            have : k = 0 := by simpa using hk
            subst this
            rw [h2, own_at, hwn j (by omega)] at h1
            have h3 : nth p j ≤ nth b j := h1.2
            have := F1 j (by omega)
            omega
        rw [if_neg (by rw [decide_eq_true_eq]; exact hv), if_pos (by rw [beq_iff_eq]; exact v0), ps, Option.bind_some, ok_some, flok_nx, if_neg (by rw [bne_iff_ne]; exact fun h => h sum)]
        exact hend
end Go.Pu
