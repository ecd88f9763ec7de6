/- Who pays what: what the laws need of groves.Share and groves.Pays. -/
import Derived.Test.YtdmolnfnpinhcaaWGrovesOneModels
import Derived.Test.YtdmolnfnpinhcaaPuGrov
set_option linter.all false
namespace Go.Pu
open Go.Fw Go.Mo
theorem Fits.wide : ∀ {rs rs' : List (List Int)} {T : Nat → Bool} {l : List Int}, rs.length = rs'.length → (∀ i, i < rs.length → (nth rs i).length ≤ (nth rs' i).length) → Fits rs T l → Fits rs' T l
  | [], [], _, _, _, _, h => h
  | [], _ :: _, _, _, e, _, _ => by simp at e
  | _ :: _, [], _, _, e, _, _ => by simp at e
  | r :: rs, r' :: rs', T, l, e, hl, ⟨c, l', e', h⟩ => by
    have e1 : rs.length = rs'.length := by simpa using e
    have hl' : ∀ i, i < rs.length → (nth rs i).length ≤ (nth rs' i).length := fun i hi => hl (i + 1) (by simp; omega)
    refine ⟨c, l', e', ?_⟩
    rcases h with ⟨h1, h⟩ | ⟨j, h1, h2, h3, h⟩
    · exact .inl ⟨h1, h.wide e1 hl'⟩
    · have := hl 0 (by simp)
      exact .inr ⟨j, by simp only [nth_cons_zero] at this; omega, h2, h3, h.wide e1 hl'⟩
theorem Fits.none : ∀ {rs : List (List Int)} {T : Nat → Bool} {l : List Int} (i : Nat), (∀ r ∈ rs, r.length ≤ 4) → Fits rs T l → Fits rs T (l.set i (-1))
  | [], _, l, _, _, h => by rw [show l = [] from h]; rfl
  | r :: rs, T, _, 0, hr, ⟨c, l', rfl, h⟩ => by
    refine ⟨-1, l', rfl, .inl ⟨rfl, ?_⟩⟩
    rcases h with ⟨_, h⟩ | ⟨j, _, _, _, h⟩
    · exact h
    · exact h.sub (fun r hr' => hr r (by simp [hr'])) fun q _ hq => by simp [hq]
  | r :: rs, T, _, i + 1, hr, ⟨c, l', rfl, h⟩ => by
    refine ⟨c, l'.set i (-1), rfl, ?_⟩
    have hr' : ∀ r ∈ rs, r.length ≤ 4 := fun r hr' => hr r (by simp [hr'])
    rcases h with ⟨h1, h⟩ | ⟨j, h1, h2, h3, h⟩
    · exact .inl ⟨h1, h.none i hr'⟩
    · exact .inr ⟨j, h1, h2, h3, h.none i hr'⟩
theorem Fits.at : ∀ {rs : List (List Int)} {T : Nat → Bool} {l : List Int} {i : Nat}, Fits rs T l → i < rs.length → nth l i = -1 ∨ ∃ j : Nat, j < (nth rs i).length ∧ nth l i = (j : Int)
  | [], _, _, _, _, h => by simp at h
  | r :: rs, T, _, 0, ⟨c, l', rfl, h⟩, _ => by
    rcases h with ⟨h1, _⟩ | ⟨j, h1, _, h3, _⟩
    · exact .inl h1
    · exact .inr ⟨j, h1, h3⟩
  | r :: rs, T, _, i + 1, ⟨c, l', rfl, h⟩, hi => by
    rcases h with ⟨_, h⟩ | ⟨j, _, _, _, h⟩
    · exact h.at (by simpa using hi)
    · exact h.at (by simpa using hi)
theorem val_put : ∀ {w : List (List Int)} {g : List Int} {i : Nat} (c : Int), i < w.length → g.length = w.length → val w (g.set i c) + own (nth w i) (nth g i) = val w g + own (nth w i) c
  | [], _, _, _, h, _ => by simp at h
  | _ :: _, [], _, _, _, h => by simp at h
  | r :: w, x :: g, 0, c, _, _ => by simp only [List.set_cons_zero, val, nth_cons_zero]; omega
  | r :: w, x :: g, i + 1, c, h, e => by
    have := val_put (w := w) (g := g) (i := i) c (by simpa using h) (by simpa using e)
    simp only [List.set_cons_succ, val, nth_cons_succ]; omega
theorem val_row : ∀ {w : List (List Int)} {g : List Int} {i : Nat} (r : List Int), i < w.length → g.length = w.length → val (w.set i r) g + own (nth w i) (nth g i) = val w g + own r (nth g i)
  | [], _, _, _, h, _ => by simp at h
  | _ :: _, [], _, _, _, h => by simp at h
  | r' :: w, x :: g, 0, r, _, _ => by simp only [List.set_cons_zero, val, nth_cons_zero]; omega
  | r' :: w, x :: g, i + 1, r, h, e => by
    have := val_row (w := w) (g := g) (i := i) r (by simpa using h) (by simpa using e)
    simp only [List.set_cons_succ, val, nth_cons_succ]; omega
theorem own_none (r : List Int) : own r (-1) = 0 := by unfold own; rw [if_pos (by decide)]
theorem own_nil (c : Int) : own [] c = 0 := by unfold own; split; rfl; rfl
section
variable {n k : Nat} {w : List (List Int)}
theorem Goods.le (h : Goods n k w) : ∀ r ∈ w, r.length ≤ 4 := fun r hr => by rw [(h.2.2.2 r hr).1]; exact h.2.2.1
theorem Goods.row (h : Goods n k w) {i : Nat} (hi : i < n) : (nth w i).length = k := (h.2.2.2 _ (nth_mem (by rw [h.1]; exact hi))).1
theorem Goods.cell (h : Goods n k w) {i : Nat} (hi : i < n) : ∀ x ∈ nth w i, 0 ≤ x ∧ x ≤ 1000000 := (h.2.2.2 _ (nth_mem (by rw [h.1]; exact hi))).2
theorem Goods.own0 (h : Goods n k w) {i : Nat} (hi : i < n) (c : Int) : 0 ≤ own (nth w i) c ∧ own (nth w i) c ≤ 1000000 := own_bound (by decide) (h.cell hi)
theorem Goods.val0 (h : Goods n k w) (l : List Int) : 0 ≤ val w l ∧ val w l ≤ 4000000 := by
  have := val_bound (rs := w) (l := l) fun r hr => (h.2.2.2 r hr).2
  have := h.1; have := h.2.1
  omega
theorem goods_check (h : Goods n k w) : groves_Check_m w = some 0 := by
  obtain ⟨h1, h2, h3, h4⟩ := h
  apply Ok.eq
  unfold groves_Check_m
  simp only [ok_ite, ok_some, ok_bindR, decide_eq_true_eq]
  refine ⟨fun _ => by omega, fun _ => ok_rangeL (fun _ _ => True) trivial (fun i r s hi _ => ?_) fun s _ => trivial⟩
  obtain ⟨hr, hil⟩ := nth_of hi
  have hr' := h4 r (List.mem_of_getElem? hi)
  have h0 := h4 (nth w 0) (nth_mem (by omega))
  unfold groves_Check_b1
  rw [show (0 : Int) = ((0 : Nat) : Int) from rfl, idx_nat, nth_at (show 0 < w.length by omega)]
  simp only [Option.bind_some, ok_ite, ok_some, ok_bindF, bne_iff_ne, flok_rt, flok_nx, decide_eq_true_eq]
  refine ⟨fun _ => by omega, fun _ => ⟨fun _ => by omega, fun _ => ?_⟩⟩
  refine ok_rangeL (fun _ _ => True) trivial (fun j x s hj _ => ?_) fun s _ => trivial
  have := hr'.2 x (List.mem_of_getElem? hj)
  unfold groves_Check_b2
  simp only [ok_ite, ok_some, ok_bindF, flok_nx, flok_rt, decide_eq_true_eq]
  grind
theorem share_ok (h : Goods n k w) : ∃ g v, groves_Share_m w = some (g, v, 0) ∧ Opt w (has 0) g v := by
  obtain ⟨p, e, hp⟩ := best_ok h (-1) 64 0 0 (by have := h.2.1; omega) (by omega) (by omega)
  refine ⟨p.1, p.2, ?_, by simpa [blank] using hp⟩
  unfold groves_Share_m groves_best_m
  rw [goods_check h, Option.bind_some, if_neg (by decide), show (0 : Int) = ((0 : Nat) : Int) from rfl, e, Option.bind_some]
theorem rest_ok (h : Goods n k w) (i : Nat) : ∃ l o, groves_best_m w 0 0 (i : Int) = some (l, o) ∧ Opt (blank w i) (has 0) l o := by
  obtain ⟨p, e, hp⟩ := best_ok h (i : Int) 64 0 0 (by have := h.2.1; omega) (by omega) (by omega)
  exact ⟨p.1, p.2, e, by simpa using hp⟩
/-- all that is told of who gets what, and who pays what -/
structure Groves (w : List (List Int)) (n : Nat) (g : List Int) (v : Int) (p : List Int) : Prop where
  opt : Opt w (has 0) g v
  len : p.length = n
  pay : ∀ i, i < n → ∃ l o, Opt (w.set i []) (has 0) l o ∧ nth p i = o - (v - own (nth w i) (nth g i))
theorem groves_ok (h : Goods n k w) : ∃ g v p, groves_Share_m w = some (g, v, 0) ∧ groves_Pays_m w = some (p, 0) ∧ Groves w n g v p := by
  obtain ⟨g, v, es, ho⟩ := share_ok h
  have hl := ho.fits.len
  have hwl := h.1; have hn4 := h.2.1
  have hv := h.val0 g
  rw [ho.val] at hv
  have : Ok (groves_Pays_m w) (fun q => q.2 = 0 ∧ Groves w n g v q.1) := by
    unfold groves_Pays_m
    rw [es, Option.bind_some]
    dsimp only
    rw [if_neg (by decide), chk_t (by omega), Option.bind_some, ok_bindR, Int.toNat_natCast]
    refine ok_rangeN (fun (i : Nat) (l : List Int) => l.length = n ∧ ∀ j, j < i → ∃ q o, Opt (w.set j []) (has 0) q o ∧ nth l j = o - (v - own (nth w j) (nth g j))) ⟨by rw [List.length_replicate]; omega, fun j hj => by omega⟩ (fun i l hi hI => ?_) fun l hl' => by rw [ok_some]; exact ⟨rfl, ⟨ho, hl'.1, fun i hi => hl'.2 i (by omega)⟩⟩
    have hiw : i < w.length := by omega
    obtain ⟨q, o, eo, hq⟩ := rest_ok h i
    have hbl : blank w (i : Int) = w.set i [] := by unfold blank; rw [if_neg (by omega), Int.toNat_natCast]
    rw [hbl] at hq
    have hob : 0 ≤ o ∧ o ≤ 4000000 := by
      rw [← hq.val]
      have := val_bound (rs := w.set i []) (l := q) fun r hr => by
        rcases List.mem_or_eq_of_mem_set hr with hr | hr
        · exact (h.2.2.2 r hr).2
        · subst hr; intro x hx; cases hx
      rw [List.length_set] at this
      omega
    have hw0 := h.own0 (i := i) (by omega) (nth g i)
    unfold groves_Pays_b1
    dsimp only
    rw [idx_nat, nth_at (by omega), Option.bind_some, eo, Option.bind_some, ok_bindF]
    have fin : ∀ z : Int, z = own (nth w i) (nth g i) → Ok ((idx l (i : Int)).bind fun y171 => some (Fl.nx (ρ := List Int × Int) (β := List Int) (List.set l i (wsub o (wsub v z))))) (FlOk (fun l => l.length = n ∧ ∀ j, j < i + 1 → ∃ q o, Opt (w.set j []) (has 0) q o ∧ nth l j = o - (v - own (nth w j) (nth g j))) (fun _ => False) (fun _ => False)) := fun z hz => by
      rw [idx_nat, nth_at (by omega), Option.bind_some, ok_some, flok_nx]
      refine ⟨by rw [List.length_set]; exact hI.1, fun j hj => ?_⟩
      rw [nth_set (by omega)]
      by_cases e : j = i
      · subst e
        rw [if_pos rfl, hz]
        refine ⟨q, o, hq, ?_⟩
        rw [wsub_of (x := v) (by omega) (by omega), wsub_of (by omega) (by omega)]
      · rw [if_neg e]; exact hI.2 j (by omega)
    rcases ho.fits.at hiw with hx | ⟨j, hj, hx⟩
    · rw [hx, if_neg (by decide), ok_some, flok_nx]
      exact (fin 0 (by rw [hx, own_none])).mono fun z hz => by
        cases z with
        | nx s => exact hz
        | br b => exact hz.elim
        | rt b => exact hz.elim
    · rw [hx, if_pos (by rw [decide_eq_true_eq]; omega), idx_nat, nth_at hiw, Option.bind_some, idx_nat, nth_at hj, Option.bind_some, ok_some, flok_nx]
      exact (fin _ (by rw [hx]; unfold own; rw [if_neg (by omega), Int.toNat_natCast])).mono fun z hz => by
        cases z with
        | nx s => exact hz
        | br b => exact hz.elim
        | rt b => exact hz.elim
  obtain ⟨⟨p, z⟩, e, hz, hg⟩ := this
  dsimp only at hz hg
  subst hz
  exact ⟨g, v, p, es, e, hg⟩
/-- nobody is paid, and nobody pays more than he gets -/
theorem Groves.fair {g p : List Int} {v : Int} (h : Goods n k w) (s : Groves w n g v p) {i : Nat} (hi : i < n) : 0 ≤ nth p i ∧ nth p i ≤ own (nth w i) (nth g i) := by
  obtain ⟨l, o, ho, e⟩ := s.pay i hi
  have hiw : i < w.length := by rw [h.1]; exact hi
  have hl := s.opt.fits.len
  have hll := ho.fits.len
  rw [List.length_set] at hll
  have up : ∀ {l : List Int}, Fits (w.set i []) (has 0) l → Fits w (has 0) l := fun h => h.wide (by simp) fun j hj => by
    rw [nth_set hiw]; split
    · simp
    · exact Nat.le_refl _
  have a1 := s.opt.most l (up ho.fits)
  have a2 := val_row (w := w) (g := l) (i := i) [] hiw hll
  rw [own_nil, ho.val] at a2
  have a3 := h.own0 hi (nth l i)
  have b0 : Fits (w.set i []) (has 0) (g.set i (-1)) := by
    have h1 := s.opt.fits.none i h.le
    have key : ∀ {rs : List (List Int)} {T : Nat → Bool} {l : List Int} {i : Nat}, Fits rs T l → nth l i = -1 → Fits (rs.set i []) T l := by
      intro rs
      induction rs with
      | nil => intro T l i hf _; rw [show l = [] from hf]; exact rfl
      | cons r rs ih =>
        intro T l i hf hn
        obtain ⟨c, l', rfl, hf⟩ := hf
        cases i with
        | zero =>
          refine ⟨c, l', rfl, .inl ⟨hn, ?_⟩⟩
          rcases hf with ⟨_, hf⟩ | ⟨j, _, _, e3, _⟩
          · exact hf
          · have : c = -1 := hn
            omega
        | succ i =>
          refine ⟨c, l', rfl, ?_⟩
          rcases hf with ⟨h1, hf⟩ | ⟨j, h1, h2, h3, hf⟩
          · exact .inl ⟨h1, ih hf hn⟩
          · exact .inr ⟨j, h1, h2, h3, ih hf hn⟩
    exact key h1 (by rw [nth_set (by omega), if_pos rfl])
  have b1 := ho.most _ b0
  have b2 := val_row (w := w) (g := g.set i (-1)) (i := i) [] hiw (by rw [List.length_set]; exact hl)
  have b3 := val_put (w := w) (g := g) (i := i) (-1) hiw hl
  rw [nth_set (by omega), if_pos rfl, own_none, own_nil] at b2
  rw [own_none, s.opt.val] at b3
  omega
end
theorem vickreys_t : pk_vickreys_m = some true := by decide +kernel
theorem goodsOf_ok {n k : Nat} (hn : n ≤ 4) (hk : k ≤ 4) (l : List Int) : ∃ w, pk_GoodsOf_m (n : Int) (k : Int) l = some w ∧ Goods n k w := by
  have : Ok (pk_GoodsOf_m (n : Int) (k : Int) l) (Goods n k) := by
    unfold pk_GoodsOf_m
    rw [chk_t (by omega), Option.bind_some, ok_bindR, Int.toNat_natCast]
    refine ok_rangeN (fun (i : Nat) (w : List (List Int)) => w.length = i ∧ ∀ r ∈ w, r.length = k ∧ ∀ x ∈ r, 0 ≤ x ∧ x ≤ 1000000) ⟨rfl, fun r hr => by cases hr⟩ (fun i w hi hI => ?_) fun w hw => by rw [ok_some]; exact ⟨hw.1, hn, hk, hw.2⟩
    unfold pk_GoodsOf_b1
    rw [chk_t (by omega), Option.bind_some, ok_bindF, Int.toNat_natCast]
    refine ok_rangeN (fun (j : Nat) (r : List Int) => r.length = j ∧ ∀ x ∈ r, 0 ≤ x ∧ x ≤ 1000000) ⟨rfl, fun r hr => by cases hr⟩ (fun j r hj hJ => ?_) fun r hr => ?_
    · unfold pk_GoodsOf_b2
      have hik : (i : Int) * (k : Int) = ((i * k : Nat) : Int) := by simp
      have hik' : i * k ≤ 16 := Nat.mul_le_mul (show i ≤ 4 by omega) hk
      rw [wmul_of (by omega) (by omega), hik, wadd_of (by omega) (by omega), show ((i * k : Nat) : Int) + (j : Int) = ((i * k + j : Nat) : Int) by omega, ok_bindF]
      have fin : ∀ z : Int, 0 ≤ z → z ≤ 1000000 → Ok ((chk ((r).length + (([z] : (List Int))).length ≤ 68719476736)).bind fun _ => some (Fl.nx (ρ := List (List Int)) (β := List Int) (r ++ ([z] : (List Int))))) (FlOk (fun r => r.length = j + 1 ∧ ∀ x ∈ r, 0 ≤ x ∧ x ≤ 1000000) (fun _ => False) (fun _ => False)) := fun z h0 h1 => by
        rw [chk_t (by simp only [List.length_cons, List.length_nil]; omega), Option.bind_some, ok_some, flok_nx]
        refine ⟨by simp [hJ.1], fun x hx => ?_⟩
        rcases List.mem_append.1 hx with hx | hx
        · exact hJ.2 x hx
        · simp at hx; subst hx; exact ⟨h0, h1⟩
      by_cases hlt : i * k + j < l.length
      · rw [if_pos (by rw [decide_eq_true_eq]; omega), idx_nat, nth_at hlt, Option.bind_some, within_at _ 60 (by decide) (by decide), Option.bind_some, ok_some, flok_nx]
        have a0 := Int.emod_nonneg (nth l (i * k + j)) (b := 60) (by decide)
        have a1 := Int.emod_lt_of_pos (nth l (i * k + j)) (b := 60) (by decide)
        exact (fin _ a0 (by omega)).mono fun z hz => by
          cases z with
          | nx s => exact hz
          | br b => exact hz.elim
          | rt b => exact hz.elim
      · rw [if_neg (by rw [decide_eq_true_eq]; omega), ok_some, flok_nx]
        exact (fin 0 (by decide) (by decide)).mono fun z hz => by
          cases z with
          | nx s => exact hz
          | br b => exact hz.elim
          | rt b => exact hz.elim
    · rw [chk_t (by simp only [List.length_cons, List.length_nil]; omega), Option.bind_some, ok_some, flok_nx]
      refine ⟨by simp [hI.1], fun x hx => ?_⟩
      rcases List.mem_append.1 hx with hx | hx
      · exact hI.2 x hx
      · simp at hx; subst hx; exact hr
  exact this
end Go.Pu
