/- Who gets what: groves.best tells an assignment that fits and is worth the most. -/
import Derived.Test.YtdmolnfnpinhcaaWGrovesOneModels
import Derived.Test.YtdmolnfnpinhcaaPuWp
import Derived.Test.YtdmolnfnpinhcaaPuSets
import Derived.Test.YtdmolnfnpinhcaaPuGood
import Derived.Test.YtdmolnfnpinhcaaPuEq
import Derived.Test.YtdmolnfnpinhcaaPuWithin
set_option linter.all false
namespace Go.Pu
open Go.Fw Go.Mo
/-- a choice for each bidder: none (-1), or a good that is not taken -/
def Fits : List (List Int) → (Nat → Bool) → List Int → Prop
  | [], _, l => l = []
  | r :: rs, T, l => ∃ c l', l = c :: l' ∧ ((c = -1 ∧ Fits rs T l') ∨ ∃ j : Nat, j < r.length ∧ T j = false ∧ c = (j : Int) ∧ Fits rs (fun x => T x || x == j) l')
/-- what a row gives for a choice -/
def own (r : List Int) (c : Int) : Int := if c < 0 then 0 else nth r c.toNat
def val : List (List Int) → List Int → Int
  | r :: rs, c :: l => own r c + val rs l
  | _, _ => 0
structure Opt (rs : List (List Int)) (T : Nat → Bool) (g : List Int) (v : Int) : Prop where
  fits : Fits rs T g
  val : val rs g = v
  most : ∀ l, Fits rs T l → Go.Pu.val rs l ≤ v
def Goods (n k : Nat) (w : List (List Int)) : Prop := w.length = n ∧ n ≤ 4 ∧ k ≤ 4 ∧ ∀ r ∈ w, r.length = k ∧ ∀ x ∈ r, 0 ≤ x ∧ x ≤ 1000000
theorem Fits.len : ∀ {rs : List (List Int)} {T : Nat → Bool} {l : List Int}, Fits rs T l → l.length = rs.length
  | [], _, l, h => by rw [show l = [] from h]; rfl
  | r :: rs, T, l, ⟨c, l', e, h⟩ => by
    subst e
    rcases h with ⟨_, h⟩ | ⟨_, _, _, _, h⟩ <;> simp [h.len]
theorem Fits.sub : ∀ {rs : List (List Int)} {T T' : Nat → Bool} {l : List Int}, (∀ r ∈ rs, r.length ≤ 4) → (∀ j, j < 4 → T' j = true → T j = true) → Fits rs T l → Fits rs T' l
  | [], _, _, _, _, _, h => h
  | r :: rs, T, T', l, hr, hs, ⟨c, l', e, h⟩ => by
    refine ⟨c, l', e, ?_⟩
    rcases h with ⟨h1, h⟩ | ⟨j, h1, h2, h3, h⟩
    · exact .inl ⟨h1, h.sub (fun r hr' => hr r (by simp [hr'])) hs⟩
    · have := hr r (by simp)
      refine .inr ⟨j, h1, ?_, h3, h.sub (fun r hr' => hr r (by simp [hr'])) ?_⟩
      · cases e : T' j with
        | false => rfl
        | true => rw [hs j (by omega) e] at h2; cases h2
      · intro q hq hT
        simp only [Bool.or_eq_true] at hT ⊢
        exact hT.imp (hs q hq) id
theorem own_bound {r : List Int} {c B : Int} (hB : 0 ≤ B) (h : ∀ x ∈ r, 0 ≤ x ∧ x ≤ B) : 0 ≤ own r c ∧ own r c ≤ B := by
  unfold own
  split
  · omega
  · by_cases hc : c.toNat < r.length
    · exact h _ (nth_mem hc)
    · unfold nth; rw [List.getD_eq_getElem?_getD, List.getElem?_eq_none (by omega)]; exact ⟨Int.le_refl _, hB⟩
theorem val_bound : ∀ {rs : List (List Int)} {l : List Int}, (∀ r ∈ rs, ∀ x ∈ r, 0 ≤ x ∧ x ≤ 1000000) → 0 ≤ val rs l ∧ val rs l ≤ 1000000 * (rs.length : Int)
  | [], l, _ => by simp [val]
  | r :: rs, [], _ => by simp only [val, List.length_cons]; omega
  | r :: rs, c :: l, h => by
    have h1 := own_bound (r := r) (c := c) (B := 1000000) (by decide) (h r (by simp))
    have h2 := val_bound (rs := rs) (l := l) fun r hr => h r (by simp [hr])
    simp only [val, List.length_cons]; omega
theorem Opt.same {rs : List (List Int)} {T : Nat → Bool} {g g' : List Int} {v v' : Int} (h : Opt rs T g v) (h' : Opt rs T g' v') : v = v' := by
  have a := h.most _ h'.fits; have b := h'.most _ h.fits
  rw [h.val] at b; rw [h'.val] at a; omega
/-- the rows without a bidder -/
def blank (w : List (List Int)) (i : Int) : List (List Int) := if i < 0 then w else w.set i.toNat []
theorem blank_len {w : List (List Int)} {i : Int} : (blank w i).length = w.length := by unfold blank; split <;> simp
theorem blank_nth {w : List (List Int)} {i : Int} {k : Nat} (hk : k < w.length) : nth (blank w i) k = if (k : Int) = i then [] else nth w k := by
  unfold blank
  split
  · rw [if_neg (by omega)]
  · by_cases h : i.toNat < w.length
    · rw [nth_set h]
      by_cases e : k = i.toNat
      · rw [if_pos e, if_pos (by omega)]
      · rw [if_neg e, if_neg (by omega)]
    · rw [List.set_eq_of_length_le (by omega), if_neg (by omega)]
theorem drop_nth {l : List (List Int)} {i : Nat} (h : i < l.length) : l.drop i = nth l i :: l.drop (i + 1) := by rw [List.drop_eq_getElem_cons h, nth_get h]
/-- what the code comes to, by rows -/
theorem best_ok {n k : Nat} {w : List (List Int)} (hw : Goods n k w) (wo : Int) : ∀ (f i s : Nat), n - i < f → i ≤ n → s < 16 → Ok (groves_best_f f w (i : Int) (s : Int) wo) (fun p => Opt ((blank w wo).drop i) (has s) p.1 p.2)
  | 0, i, s, hf, hi, hs => by omega
  | f + 1, i, s, hf, hi, hs => by
    obtain ⟨hn, hn4, hk4, hr⟩ := hw
    have hw' : Goods n k w := ⟨hn, hn4, hk4, hr⟩
    have hbl := blank_len (w := w) (i := wo)
    show Ok (groves_best_r (groves_best_f f) w (i : Int) (s : Int) wo) _
    unfold groves_best_r
    by_cases he : i = n
    · rw [if_pos (by rw [beq_iff_eq]; omega), ok_some, List.drop_of_length_le (by omega)]
      exact ⟨rfl, rfl, fun l hl => by rw [show l = [] from hl]; exact Int.le_refl _⟩
    · rw [if_neg (by rw [beq_iff_eq]; omega), wadd_of (by omega) (by omega), ok_bind, show (i : Int) + 1 = ((i + 1 : Nat) : Int) by omega]
      have IH := fun s hs => best_ok hw' wo f (i + 1) s (by omega) (by omega) hs
      have hi' : i < w.length := by omega
      rw [drop_nth (show i < (blank w wo).length by omega), blank_nth hi']
      have hrow := hr (nth w i) (nth_mem hi')
      have vb : ∀ {l : List Int}, 0 ≤ val ((blank w wo).drop (i + 1)) l ∧ val ((blank w wo).drop (i + 1)) l ≤ 4000000 := fun {l} => by
        have := val_bound (rs := (blank w wo).drop (i + 1)) (l := l) fun r hr' x hx => by
          have hm := List.mem_of_mem_drop hr'
          unfold blank at hm
          split at hm
          · exact (hr r hm).2 x hx
          · rcases List.mem_or_eq_of_mem_set hm with h | h
            · exact (hr r h).2 x hx
            · subst h; cases hx
        rw [List.length_drop] at this
        omega
      refine (IH s hs).mono fun y hy => ?_
      rw [ok_bindR]
      have fin : ∀ {r : List Int} {l : List Int} {v c : Int}, Opt (r :: (blank w wo).drop (i + 1)) (has s) (c :: l) v → Ok ((chk ((([c] : (List Int))).length + (l).length ≤ 68719476736)).bind fun _ => some ((([c] : (List Int)) ++ l), v)) (fun p => Opt (r :: (blank w wo).drop (i + 1)) (has s) p.1 p.2) := fun {r l v c} h => by
        have := h.fits.len
        simp only [List.length_cons, List.length_drop] at this
        rw [chk_t (by simp only [List.length_cons, List.length_nil]; omega), Option.bind_some, ok_some]; exact h
      by_cases hwo : (i : Int) = wo
      · rw [if_neg (by rw [bne_iff_ne]; exact fun h => h hwo), ok_some, flok_nx]
        dsimp only
        rw [if_pos hwo]
        refine fin ⟨⟨-1, _, rfl, .inl ⟨rfl, hy.fits⟩⟩, ?_, fun l hl => ?_⟩
        · show own [] (-1) + val _ y.1 = y.2
          rw [hy.val]; unfold own; rw [if_pos (by decide)]; omega
        · obtain ⟨c, l', rfl, ⟨rfl, h⟩ | ⟨j, hj, _⟩⟩ := hl
          · show own [] (-1) + val _ l' ≤ y.2
            have := hy.most _ h
            unfold own; rw [if_pos (by decide)]; omega
          · cases hj
      · rw [if_pos (by rw [bne_iff_ne]; exact hwo), if_neg hwo, ok_bind]
        rw [idx_nat, nth_at hi', ok_some, ok_bindF]
        refine Ok.mono (P := FlOk (fun (t : List Int × Int × Int) => Opt (nth w i :: (blank w wo).drop (i + 1)) (has s) (t.2.2 :: t.1) t.2.1) (fun _ => False) (fun _ => False)) ?_ ?_
        · refine ok_rangeL (fun j (t : List Int × Int × Int) => Fits (nth w i :: (blank w wo).drop (i + 1)) (has s) (t.2.2 :: t.1) ∧ val (nth w i :: (blank w wo).drop (i + 1)) (t.2.2 :: t.1) = t.2.1 ∧ ∀ c l, Fits (nth w i :: (blank w wo).drop (i + 1)) (has s) (c :: l) → c < (j : Int) → val (nth w i :: (blank w wo).drop (i + 1)) (c :: l) ≤ t.2.1)
            ⟨⟨-1, _, rfl, .inl ⟨rfl, hy.fits⟩⟩, ?_, ?_⟩ (fun j x t hj hI => ?_) fun t ht => ⟨ht.1, ht.2.1, fun l hl => ?_⟩
          · show own (nth w i) (-1) + val _ y.1 = y.2
            rw [hy.val]; unfold own; rw [if_pos (by decide)]; omega
          · intro c l hl hc
            obtain ⟨c', l', e, ⟨rfl, h⟩ | ⟨j, hj, _, rfl, _⟩⟩ := hl
            · cases e
              show own (nth w i) (-1) + val _ l ≤ y.2
              have := hy.most _ h
              unfold own; rw [if_pos (by decide)]; omega
            · cases e; omega
          · obtain ⟨hx, hjl⟩ := nth_of hj
            obtain ⟨l, v, ch⟩ := t
            obtain ⟨hI1, hI2, hI3⟩ := hI
            have hxb := hrow.2 x (List.mem_of_getElem? hj)
            have vI : 0 ≤ v ∧ v ≤ 5000000 := by
              have h1 := vb (l := l)
              have h2 := own_bound (r := nth w i) (c := ch) (B := 1000000) (by decide) hrow.2
              have h3 : own (nth w i) ch + val _ l = v := hI2
              omega
            have keep : has s j = true → ∀ c l, Fits (nth w i :: (blank w wo).drop (i + 1)) (has s) (c :: l) → c < ((j + 1 : Nat) : Int) → val (nth w i :: (blank w wo).drop (i + 1)) (c :: l) ≤ v := fun hb c l hl hc => by
              by_cases e : c = (j : Int)
              · obtain ⟨c', l', e', ⟨rfl, h⟩ | ⟨j', hj', hT, rfl, _⟩⟩ := hl
                · cases e'; omega
                · cases e'
                  have : j' = j := by omega
                  subst this
                  rw [hT] at hb; cases hb
              · exact hI3 c l hl (by omega)
            unfold groves_best_b1
            dsimp only
            rw [chk_t (by omega), Option.bind_some, bit_ok s (by omega) j (by omega)]
            cases hb : has s j with
            | true =>
              simp only [if_true, show ((1 : Int) == 0) = false from rfl, Bool.false_eq_true, if_false]
              rw [ok_some, flok_nx]
              exact ⟨hI1, hI2, keep hb⟩
            | false =>
              simp only [Bool.false_eq_true, if_false, show ((0 : Int) == 0) = true from rfl, if_true]
              rw [Option.bind_some, or_ok s (by omega) j (by omega) hb, ok_bind, wadd_of (by omega) (by omega), show (i : Int) + 1 = ((i + 1 : Nat) : Int) by omega]
              have hs' := with_lt 4 (by decide) s hs j (by omega) hb
              refine (IH (s + 2 ^ j) hs').mono fun z hz => ?_
              have h4 : ∀ r ∈ (blank w wo).drop (i + 1), r.length ≤ 4 := fun r hr' => by
                have hm := List.mem_of_mem_drop hr'
                unfold blank at hm
                split at hm
                · rw [(hr r hm).1]; exact hk4
                · rcases List.mem_or_eq_of_mem_set hm with h | h
                  · rw [(hr r h).1]; exact hk4
                  · subst h; simp
              have wh := with_has s (by omega) j (by omega) hb
              have to : ∀ {l : List Int}, Fits ((blank w wo).drop (i + 1)) (has (s + 2 ^ j)) l → Fits ((blank w wo).drop (i + 1)) (fun x => has s x || x == j) l := fun h => h.sub h4 fun q hq hT => by rw [wh q (by omega)]; exact hT
              have of : ∀ {l : List Int}, Fits ((blank w wo).drop (i + 1)) (fun x => has s x || x == j) l → Fits ((blank w wo).drop (i + 1)) (has (s + 2 ^ j)) l := fun h => h.sub h4 fun q hq hT => by rw [wh q (by omega)] at hT; exact hT
              have hzv := vb (l := z.1)
              rw [hz.val] at hzv
              have ex : own (nth w i) (j : Int) = x := by unfold own; rw [if_neg (by omega), Int.toNat_natCast, hx]
              have most : ∀ l, Fits (nth w i :: (blank w wo).drop (i + 1)) (has s) ((j : Int) :: l) → val (nth w i :: (blank w wo).drop (i + 1)) ((j : Int) :: l) ≤ x + z.2 := fun l hl => by
                obtain ⟨c', l', e', ⟨e1, h⟩ | ⟨j', hj', hT, e1, h⟩⟩ := hl
                · cases e'; omega
                · cases e'
                  have : j' = j := by omega
                  subst this
                  have := hz.most _ (of h)
                  show own (nth w i) (j' : Int) + val _ l ≤ x + z.2
                  omega
              rw [wadd_of (by omega) (by omega)]
              by_cases hgt : x + z.2 > v
              · rw [if_pos (by rw [decide_eq_true_eq]; exact hgt), ok_some, flok_nx]
                refine ⟨⟨(j : Int), _, rfl, .inr ⟨j, hjl, hb, rfl, to hz.fits⟩⟩, ?_, fun c l hl hc => ?_⟩
                · show own (nth w i) (j : Int) + val _ z.1 = x + z.2
                  rw [hz.val, ex]
                · by_cases e : c = (j : Int)
                  · subst e; exact most l hl
                  · have := hI3 c l hl (by omega)
                    dsimp only at this ⊢
                    omega
              · rw [if_neg (by rw [decide_eq_true_eq]; exact hgt), ok_some, flok_nx]
                refine ⟨hI1, hI2, fun c l hl hc => ?_⟩
                by_cases e : c = (j : Int)
                · subst e; have := most l hl; dsimp only; omega
                · exact hI3 c l hl (by omega)
          · have hl2 := hl
            obtain ⟨c, l', rfl, ⟨rfl, h⟩ | ⟨j, hj, hT, rfl, h⟩⟩ := hl
            · exact ht.2.2 _ _ hl2 (by omega)
            · exact ht.2.2 _ _ hl2 (by omega)
        · intro z hz
          cases z with
          | br b => exact hz.elim
          | rt b => exact hz.elim
          | nx t =>
            rw [flok_nx] at hz ⊢
            obtain ⟨l, v, ch⟩ := t
            dsimp only at hz ⊢
            rw [ok_some, flok_nx]
            exact fin hz
end Go.Pu
