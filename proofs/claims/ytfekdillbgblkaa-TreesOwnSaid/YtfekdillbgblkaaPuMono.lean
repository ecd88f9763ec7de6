/- Somebody is raised in one vote: what becomes of what the rules count. -/
import Derived.Test.YtfekdillbgblkaaWTreesOwnModels
import Derived.Test.YtfekdillbgblkaaPuORaise
import Derived.Test.YtfekdillbgblkaaPuRename
set_option linter.all false
namespace Go.Pu
open Go.Fw Go.Mo
theorem am_nd {g : Nat → Int} {n : Nat} : (am g n).Nodup := List.nodup_range.filter _
theorem am_only {g : Nat → Int} {n a : Nat} (ha : a < n) (h : ∀ j, j < n → j ≠ a → g j < g a) : am g n = [a] := by
  have : (am g n).Perm [a] := (List.perm_ext_iff_of_nodup am_nd (by simp)).2 fun i => by
    rw [am_mem, List.mem_singleton]
    constructor
    · rintro ⟨hi, hm⟩
      refine Classical.byContradiction fun hne => ?_
      have := h i hi hne
      have := hm a ha
      omega
    · rintro rfl
      refine ⟨ha, fun j hj => ?_⟩
      by_cases e : j = i
      · rw [e]; exact Int.le_refl _
      · exact Int.le_of_lt (h j hj e)
  exact List.perm_singleton.1 this
theorem am_ne {g : Nat → Int} {n : Nat} (h1 : 1 ≤ n) : 0 < (am g n).length := by
  obtain ⟨m, hm, hmax⟩ : ∃ m, m < n ∧ ∀ j, j < n → g j ≤ g m := by
    have : ∀ q, q < n → ∃ m, m ≤ q ∧ ∀ j, j ≤ q → g j ≤ g m := by
      intro q
      induction q with
      | zero => intro _; exact ⟨0, Nat.le_refl _, fun j hj => by rw [show j = 0 by omega]; exact Int.le_refl _⟩
      | succ q ih =>
        intro hq
        obtain ⟨m, hm, h⟩ := ih (by omega)
        by_cases c : g (q + 1) ≤ g m
        · exact ⟨m, by omega, fun j hj => by
            by_cases e : j = q + 1
            · rw [e]; exact c
            · exact h j (by omega)⟩
        · exact ⟨q + 1, Nat.le_refl _, fun j hj => by
            by_cases e : j = q + 1
            · rw [e]; exact Int.le_refl _
            · have := h j (by omega); omega⟩
    obtain ⟨m, hm, h⟩ := this (n - 1) (by omega)
    exact ⟨m, by omega, fun j hj => h j (by omega)⟩
  exact List.length_pos_of_mem (am_mem.2 ⟨hm, hmax⟩)
theorem sumN_lt {n : Nat} {f g : Nat → Int} {k : Nat} (hk : k < n) (h : ∀ x, x < n → f x ≤ g x) (hs : f k < g k) : sumN n f < sumN n g := by
  induction n with
  | zero => omega
  | succ n ih =>
    simp only [sumN]
    by_cases e : k = n
    · subst e
      have := sumN_le (n := k) (f := f) (g := g) fun x hx => h x (by omega)
      omega
    · have := ih (by omega) fun x hx => h x (by omega)
      have := h n (by omega)
      omega
theorem duel_set : ∀ (v : List (List Int)) (i : Nat) (q : List Int), i < v.length → ∀ x y, duel (v.set i q) x y = duel v x y - b1 (bf (nth v i) x y) + b1 (bf q x y)
  | [], _, _, h, _, _ => by simp at h
  | p :: v, 0, q, _, x, y => by
    show duel v x y + b1 (bf q x y) = duel v x y + b1 (bf p x y) - b1 (bf p x y) + b1 (bf q x y)
    omega
  | p :: v, i + 1, q, h, x, y => by
    have := duel_set v i q (by simpa using h) x y
    show duel (v.set i q) x y + b1 (bf p x y) = duel v x y + b1 (bf p x y) - b1 (bf (nth v i) x y) + b1 (bf q x y)
    omega
theorem fst1_set : ∀ (v : List (List Int)) (i : Nat) (q : List Int), i < v.length → ∀ x, fst1 (v.set i q) x = fst1 v x - (if (nth v i).idxOf (x : Int) = 0 then 1 else 0) + (if q.idxOf (x : Int) = 0 then 1 else 0)
  | [], _, _, h, _ => by simp at h
  | p :: v, 0, q, _, x => by
    show fst1 v x + (if q.idxOf (x : Int) = 0 then 1 else 0) = fst1 v x + (if p.idxOf (x : Int) = 0 then 1 else 0) - (if p.idxOf (x : Int) = 0 then 1 else 0) + (if q.idxOf (x : Int) = 0 then 1 else 0)
    omega
  | p :: v, i + 1, q, h, x => by
    have := fst1_set v i q (by simpa using h) x
    show fst1 (v.set i q) x + (if p.idxOf (x : Int) = 0 then 1 else 0) = fst1 v x + (if p.idxOf (x : Int) = 0 then 1 else 0) - (if (nth v i).idxOf (x : Int) = 0 then 1 else 0) + (if q.idxOf (x : Int) = 0 then 1 else 0)
    omega
/-- x stands better, or as well, in d' -/
structure Up (n x : Nat) (d d' : Nat → Nat → Int) : Prop where
  for_ : ∀ z, z < n → d x z ≤ d' x z
  against : ∀ z, z < n → d' z x ≤ d z x
  rest : ∀ u w, u < n → w < n → u ≠ x → w ≠ x → d' u w = d u w
theorem raise_up {n : Nat} {v : List (List Int)} (hv : ∀ p ∈ v, Ord n p) {i : Nat} (hi : i < v.length) {k b : Nat} (hk : k + 1 < n) (hb : nth (nth v i) (k + 1) = b) :
    Up n b (duel v) (duel (v.set i (swap (nth v i) k))) ∧ (∀ z, z < n → z ≠ b → fst1 (v.set i (swap (nth v i) k)) z ≤ fst1 v z) ∧ fst1 v b ≤ fst1 (v.set i (swap (nth v i) k)) b := by
  have hp : Ord n (nth v i) := hv _ (nth_mem hi)
  obtain ⟨a, ha⟩ : ∃ a : Nat, nth (nth v i) k = a := ⟨(nth (nth v i) k).toNat, by have := hp.val (k := k) (by omega); omega⟩
  have han : a < n := by have := hp.val (k := k) (by omega); omega
  have hbn : b < n := by have := hp.val (k := k + 1) (by omega); omega
  have ia : (nth v i).idxOf (a : Int) = k := by rw [← ha]; exact hp.idx (by omega)
  have ib : (nth v i).idxOf (b : Int) = k + 1 := by rw [← hb]; exact hp.idx (by omega)
  have hab : a ≠ b := fun e => by subst e; omega
  have bab : bf (nth v i) a b = true := by unfold bf; rw [ia, ib]; simp
  have bba : bf (nth v i) b a = false := by unfold bf; rw [ia, ib]; simp
  have hs : ∀ x y, x < n → y < n → bf (swap (nth v i) k) x y = if x = a ∧ y = b then false else if x = b ∧ y = a then true else bf (nth v i) x y := fun x y hx hy => swap_bf hp hk ha hb hx hy
  have hso := swap_ord hp hk
  refine ⟨⟨fun z hz => ?_, fun z hz => ?_, fun u w hu hw hub hwb => ?_⟩, fun z hz hzb => ?_, ?_⟩
  · rw [duel_set v i _ hi, hs b z hbn hz, if_neg (by omega)]
    by_cases hza : z = a
    · subst hza; rw [if_pos ⟨rfl, rfl⟩, bba]; simp [b1]; omega
    · rw [if_neg (by omega)]; omega
  · rw [duel_set v i _ hi, hs z b hz hbn]
    by_cases hza : z = a
    · subst hza; rw [if_pos ⟨rfl, rfl⟩, bab]; simp [b1]; omega
    · rw [if_neg (by omega), if_neg (by omega)]; omega
  · rw [duel_set v i _ hi, hs u w hu hw, if_neg (by omega), if_neg (by omega)]; omega
  · rw [fst1_set v i _ hi]
    have : (swap (nth v i) k).idxOf (z : Int) = 0 → (nth v i).idxOf (z : Int) = 0 := fun h0 => by
      have e := hso.at_idx hz
      rw [h0, swap_nth (by rw [hp.len]; exact hk)] at e
      by_cases hk0 : k = 0
      · subst hk0; rw [if_pos rfl, hb] at e; omega
      · rw [if_neg (by omega), if_neg (by omega)] at e
        rw [← e]; exact hp.idx (by omega)
    by_cases h0 : (swap (nth v i) k).idxOf (z : Int) = 0
    · rw [if_pos h0, if_pos (this h0)]; omega
    · rw [if_neg h0]; split <;> omega
  · rw [fst1_set v i _ hi, if_neg (by omega)]; split <;> omega
theorem sgn_mono {a b a' b' : Int} (h1 : a ≤ a') (h2 : b' ≤ b) : sgn a b ≤ sgn a' b' := by
  unfold sgn
  by_cases c1 : b < a <;> by_cases c2 : a < b <;> by_cases c3 : b' < a' <;> by_cases c4 : a' < b' <;> simp [c1, c2, c3, c4] <;> omega
theorem val_up {k : Int} {n : Nat} {v w : List (List Int)} (hv : ∀ p ∈ v, Ord n p) (hw : ∀ p ∈ w, Ord n p) {b : Nat} (hb : b < n) (hU : Up n b (duel v) (duel w)) (h1 : ∀ z, z < n → z ≠ b → fst1 w z ≤ fst1 v z) (h2 : fst1 v b ≤ fst1 w b)
    {g h : Nat → Int} (hg : Val k n v g) (hh : Val k n w h) : g b ≤ h b ∧ ∀ z, z < n → z ≠ b → h z ≤ g z := by
  have lo : ∀ u z, u < n → z < n → u ≠ b → duel w u z ≤ duel v u z := fun u z hu hz hub => by
    by_cases e : z = b
    · subst e; exact hU.against u hu
    · rw [hU.rest u z hu hz hub e]; exact Int.le_refl _
  have hi : ∀ u z, u < n → z < n → u ≠ b → duel v z u ≤ duel w z u := fun u z hu hz hub => by
    by_cases e : z = b
    · subst e; exact hU.for_ u hu
    · rw [hU.rest z u hz hu e hub]; exact Int.le_refl _
  rcases hg with ⟨e, hg⟩ | ⟨e, hg⟩ | ⟨e, hg⟩ | ⟨e, hg⟩ <;> subst e <;> rcases hh with ⟨e, hh⟩ | ⟨e, hh⟩ | ⟨e, hh⟩ | ⟨e, hh⟩ <;> first | omega | skip
  · subst hg hh; exact ⟨h2, h1⟩
  · subst hg hh
    refine ⟨?_, fun z hz hzb => ?_⟩
    · rw [← duel_pts hv hb, ← duel_pts hw hb]; exact sumN_le fun y hy => hU.for_ y hy
    · rw [← duel_pts hv hz, ← duel_pts hw hz]; exact sumN_le fun y hy => lo z y hz hy hzb
  · subst hg hh
    refine ⟨?_, fun z hz hzb => ?_⟩
    · exact sumN_le fun y hy => sgn_mono (hU.for_ y hy) (hU.against y hy)
    · exact sumN_le fun y hy => sgn_mono (lo z y hz hy hzb) (hi z y hz hy hzb)
  · refine ⟨?_, fun z hz hzb => ?_⟩
    · obtain ⟨a1, a2, a3, a4⟩ := hg b hb
      obtain ⟨c1, c2, c3, c4⟩ := hh b hb
      rcases c4 with c4 | ⟨y, hy, c4⟩
      · omega
      · have := a3 y hy; have := hU.for_ y hy; have := hU.against y hy; omega
    · obtain ⟨a1, a2, a3, a4⟩ := hg z hz
      obtain ⟨c1, c2, c3, c4⟩ := hh z hz
      rcases a4 with a4 | ⟨y, hy, a4⟩
      · omega
      · have := c3 y hy; have := lo z y hz hy hzb; have := hi z y hz hy hzb; omega
theorem contains_none {l : List Int} {f : Int → Option Bool} (h : ∀ x ∈ l, f x = some false) : slices_ContainsFunc_int_int_m l f = some false := by
  have e : slices_IndexFunc_int_int_m l f = some (-1) := by
    apply Ok.eq
    unfold slices_IndexFunc_int_int_m
    rw [ok_bindR]
    refine ok_rangeL (fun _ _ => True) trivial (fun i x s hi _ => ?_) fun _ _ => by rw [ok_some]
    unfold slices_IndexFunc_int_int_b1
    rw [h x (List.mem_of_getElem? hi), Option.bind_some, if_neg (by decide), ok_some, flok_nx]; trivial
  unfold slices_ContainsFunc_int_int_m
  rw [e]; rfl
end Go.Pu
