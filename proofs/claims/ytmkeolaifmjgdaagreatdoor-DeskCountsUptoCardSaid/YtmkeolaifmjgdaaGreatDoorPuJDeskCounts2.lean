/- The plain law: what the desk answers to numbers. -/
import Derived.Test.YtmkeolaifmjgdaaGreatDoorWDeskCountsModels
import Derived.Test.YtmkeolaifmjgdaaGreatDoorPuJDeskCounts1
set_option linter.all false
namespace Go.Pu
open Go.Fw Go.Mo
def Fine (s : List UInt8) : Prop := s ≠ [] ∧ (10 : UInt8) ∉ s
theorem itoa_w {x : Int} (h : W x) : (Lib.itoa x).length ≤ 20 ∧ (10 : UInt8) ∉ Lib.itoa x := by
  have key : ∀ u : Nat, u ≤ 9223372036854775808 → (Lib.decDigits u).length ≤ 19 ∧ (10 : UInt8) ∉ Lib.decDigits u := fun u hu =>
    ⟨dec_len 18 u (by omega), fun hm => absurd (dec_rng u _ hm).1 (by decide)⟩
  obtain ⟨h1, h2⟩ := h
  unfold Lib.itoa
  by_cases hx : x < 0
  · obtain ⟨k1, k2⟩ := key x.natAbs (by omega)
    rw [if_pos hx]
    refine ⟨by rw [List.length_cons]; omega, fun hm => ?_⟩
    rcases List.mem_cons.1 hm with h | h
    · exact absurd h (by decide)
    · exact k2 h
  · obtain ⟨k1, k2⟩ := key x.toNat (by omega)
    rw [if_neg hx]
    exact ⟨by omega, k2⟩
theorem itoaM_w {x : Int} (h : W x) : strconv_Itoa_m x = some (Lib.itoa x) := by
  unfold strconv_Itoa_m; rw [chk_t (show _ ∧ _ from h), Option.bind_some]
theorem listed_ok {l : List Int} (h : ∀ x ∈ l, W x) (hl : l.length ≤ 1000000) : Ok (desk_listed_m l) Fine := by
  unfold desk_listed_m
  rw [ok_bindR]
  refine ok_rangeL (fun k (s : List UInt8) => s.length ≤ 21 * k ∧ (10 : UInt8) ∉ s) ⟨by simp, by simp⟩ (fun k x s hk hI => ?_) fun s hs => ?_
  · have hkl := (List.getElem?_eq_some_iff.1 hk).1
    have hx := h x (List.mem_of_getElem? hk)
    obtain ⟨i1, i2⟩ := itoa_w hx
    obtain ⟨s1, s2⟩ := hI
    unfold desk_listed_b1
    rw [itoaM_w hx, Option.bind_some, chk_t (by simp only [List.length_cons, List.length_nil]; omega), Option.bind_some, chk_t (by simp only [List.length_append, List.length_cons, List.length_nil]; omega), Option.bind_some, ok_some, flok_nx]
    refine ⟨by simp only [List.length_append, List.length_cons, List.length_nil]; omega, ?_⟩
    simp only [List.mem_append, not_or]
    exact ⟨s2, i2, by decide⟩
  · obtain ⟨s1, s2⟩ := hs
    rw [chk_t (by simp only [List.length_cons, List.length_nil]; omega), Option.bind_some, ok_some]
    refine ⟨by simp, ?_⟩
    simp only [List.mem_append, not_or]
    exact ⟨s2, by decide⟩
def Ex {α : Type} (P : α → Prop) : Except Int α → Prop
  | .error e => Er e
  | .ok z => P z
theorem must_c {e : Int} (h : Er e) : (e = 0 ∧ desk_must_m e = some (.ok ())) ∨ (e ≠ 0 ∧ desk_must_m e = some (.error e)) := by
  by_cases h0 : e = 0
  · subst h0; exact .inl ⟨rfl, rfl⟩
  · refine .inr ⟨h0, ?_⟩
    unfold desk_must_m; rw [if_pos (by rw [bne_iff_ne]; exact h0)]
theorem number_ok (s : List UInt8) : Ok (desk_number_m s) (Ex fun _ => True) := by
  unfold desk_number_m
  have e12 : desk_must_m 12 = some (.error 12) := rfl
  have key : ∀ b : Bool, (b = false → s.length ≤ 6) → Ok (bindR (ρ := Except Int Int) (β := Unit) (σ := Unit) (if b then (desk_must_m (12 : Int)).bind fun y36 => thr y36 (fun x38 => some (.rt (.error x38))) fun z39 => some (.nx ()) else some (.nx ())) fun _ => (chk (s.length ≤ 9223372036854775807)).bind fun _ => bindR (ρ := Except Int Int) (β := Unit) (σ := Int) (rangeL (γ := Unit) desk_number_b1 (intsOf s) 0 (0 : Int)) fun x48 => some (.ok x48)) (Ex fun _ => True) := fun b hb => by
    cases b with
    | true => rw [if_pos rfl, e12, Option.bind_some, ok_bindR, thr, ok_some, flok_rt]; exact er_lit 12 rfl
    | false =>
      have := hb rfl
      rw [if_neg (by decide), ok_bindR, ok_some, flok_nx, chk_t (by omega), Option.bind_some, ok_bindR]
      refine ok_rangeL (fun _ _ => True) trivial (fun k x s hk _ => ?_) fun s _ => by rw [ok_some]; trivial
      unfold desk_number_b1
      have k2 : ∀ b : Bool, Ok (bindF (ρ := Except Int Int) (β := Int) (σ := Unit) (if b then (desk_must_m (12 : Int)).bind fun y149 => thr y149 (fun x151 => some (.rt (.error x151))) fun z152 => some (.nx ()) else some (.nx ())) fun _ => some (.nx (wadd (wmul (10 : Int) s) (IntKind.wrap .i64 (IntKind.wrap .u8 (x - (48 : Int))))))) (FlOk (fun _ => True) (fun _ => True) (Ex fun _ => True)) := fun b => by
        cases b with
        | true => rw [if_pos rfl, e12, Option.bind_some, ok_bindF, thr, ok_some, flok_rt, flok_rt]; exact er_lit 12 rfl
        | false => rw [if_neg (by decide), ok_bindF, ok_some, flok_nx, ok_some]; trivial
      rw [ok_bindF]
      by_cases c : x < 48
      · rw [if_pos (by rw [decide_eq_true_eq]; exact c), ok_some, flok_nx]; exact (k2 true).mono fun v hv => by cases v <;> first | trivial | exact hv | exact ⟨_, rfl, trivial⟩
      · rw [if_neg (by rw [decide_eq_true_eq]; exact c), ok_some, flok_nx]; exact (k2 _).mono fun v hv => by cases v <;> first | trivial | exact hv | exact ⟨_, rfl, trivial⟩
  rw [ok_bindR]
  by_cases c : (s.length : Int) < 1
  · rw [if_pos (by rw [decide_eq_true_eq]; exact c), ok_some, flok_nx]; exact key true (fun h => by cases h)
  · rw [if_neg (by rw [decide_eq_true_eq]; exact c), ok_some, flok_nx]
    exact key _ fun h => by rw [decide_eq_false_iff_not] at h; omega
theorem numbers_ok {l : List (List UInt8)} (hl : l.length ≤ 1000000) : Ok (desk_numbers_m l) (Ex fun z => z.length = l.length) := by
  unfold desk_numbers_m
  rw [ok_bindR]
  refine ok_rangeL (fun k (s : List Int) => s.length = k) rfl (fun k x s hk hI => ?_) fun s hs => by rw [ok_some]; exact hs
  have hkl := (List.getElem?_eq_some_iff.1 hk).1
  unfold desk_numbers_b1
  obtain ⟨r, e, hr⟩ := number_ok x
  rw [e, Option.bind_some]
  cases r with
  | error e => rw [thr, ok_some, flok_rt]; exact hr
  | ok z =>
    rw [thr, chk_t (by simp only [List.length_cons, List.length_nil]; omega), Option.bind_some, ok_some, flok_nx]
    simp only [List.length_append, List.length_cons, List.length_nil]; omega
theorem pilesCheck_any (l : List Int) : Ok (piles_Check_m l) (fun e => e = 0 → l.length ≤ 6) := by
  unfold piles_Check_m
  by_cases h1 : (l.length : Int) > 6
  · rw [if_pos (by simpa using h1), ok_some]; intro h; exact absurd h (by decide)
  rw [if_neg (by simpa using h1), ok_bindR]
  refine ok_rangeL (fun _ _ => True) trivial (fun k x s hk _ => ?_) fun s hs => by rw [ok_some]; intro; omega
  unfold piles_Check_b1
  by_cases c1 : x < 0
  · rw [if_pos (by simpa using c1), ok_bindF, ok_some, flok_nx, if_pos rfl, ok_some, flok_rt]; intro h; exact absurd h (by decide)
  rw [if_neg (by simpa using c1), ok_bindF, ok_some, flok_nx]
  by_cases c2 : x > 40
  · rw [if_pos (by simpa using c2), ok_some, flok_rt]; intro h; exact absurd h (by decide)
  rw [if_neg (by simpa using c2), ok_some, flok_nx]; trivial
theorem move_any (l : List Int) : Ok (piles_Move_m l) (fun r => W r.1 ∧ W r.2.1 ∧ Er r.2.2) := by
  have h : Ok (piles_Move_m l) (fun r => W r.1 ∧ W r.2.1) := by
    unfold piles_Move_m
    obtain ⟨e, he, hl⟩ := pilesCheck_any l
    rw [he, Option.bind_some]
    by_cases h0 : e = 0
    · have hl := hl h0
      rw [if_neg (by simpa using h0), ok_bindR]
      refine ok_rangeL (fun _ _ => True) trivial (fun k x s hk _ => ?_) fun s hs => ?_
      · unfold piles_Move_b1; rw [ok_some, flok_nx]; trivial
      rw [ok_bindR]
      refine ok_rangeL (fun _ _ => True) trivial (fun k x t hk _ => ?_) fun s hs => by rw [ok_some]; exact ⟨w_zero, w_zero⟩
      have hkl := (List.getElem?_eq_some_iff.1 hk).1
      unfold piles_Move_b2
      by_cases c : (bits .xor .i64 x s) < x
      · rw [if_pos (by simpa using c), ok_some, flok_rt]; exact ⟨⟨by dsimp only; omega, by dsimp only; omega⟩, w_sub _ _⟩
      · rw [if_neg (by simpa using c), ok_some, flok_nx]; trivial
    · rw [if_pos (by simpa using h0), ok_some]; exact ⟨w_zero, w_zero⟩
  obtain ⟨r, e, h1, h2⟩ := h
  exact ⟨r, e, h1, h2, piles_move_er l r e⟩
theorem bidsCheck_any (l : List Int) (r : Int) : Ok (auction_Check_m l r) (fun e => e = 0 → l.length ≤ 10 ∧ (∀ x ∈ l, 0 ≤ x ∧ x ≤ 1000000) ∧ 0 ≤ r ∧ r ≤ 1000000) := by
  unfold auction_Check_m
  by_cases h1 : (l.length : Int) > 10
  · rw [if_pos (by simpa using h1), ok_some]; intro h; exact absurd h (by decide)
  rw [if_neg (by simpa using h1), ok_bindR]
  refine ok_rangeL (fun k _ => ∀ x ∈ l.take k, 0 ≤ x ∧ x ≤ 1000000) (by simp) (fun k x s hk hI => ?_) fun s hs => ?_
  · have htk : l.take (k + 1) = l.take k ++ [x] := by rw [List.take_succ, hk]; rfl
    unfold auction_Check_b1
    by_cases c1 : x < 0
    · rw [if_pos (by simpa using c1), ok_bindF, ok_some, flok_nx, if_pos rfl, ok_some, flok_rt]; intro h; exact absurd h (by decide)
    rw [if_neg (by simpa using c1), ok_bindF, ok_some, flok_nx]
    by_cases c2 : x > 1000000
    · rw [if_pos (by simpa using c2), ok_some, flok_rt]; intro h; exact absurd h (by decide)
    rw [if_neg (by simpa using c2), ok_some, flok_nx, htk]
    intro y hy
    rcases List.mem_append.1 hy with hy | hy
    · exact hI y hy
    · rw [List.mem_singleton] at hy; subst hy; omega
  · rw [List.take_length] at hs
    rw [ok_bindR]
    by_cases c1 : r < 0
    · rw [if_pos (by simpa using c1), ok_some, flok_nx, if_pos rfl, ok_some]; intro h; exact absurd h (by decide)
    rw [if_neg (by simpa using c1), ok_some, flok_nx]
    by_cases c2 : r > 1000000
    · rw [if_pos (by simpa using c2), ok_some]; intro h; exact absurd h (by decide)
    rw [if_neg (by simpa using c2), ok_some]
    exact fun _ => ⟨by omega, hs, by omega, by omega⟩
theorem second_any (l : List Int) (r : Int) : Ok (auction_Second_m l r) (fun p => W p.1 ∧ W p.2.1 ∧ Er p.2.2) := by
  have h : Ok (auction_Second_m l r) (fun r => W r.1 ∧ W r.2.1) := by
    unfold auction_Second_m
    obtain ⟨e, he, hl⟩ := bidsCheck_any l r
    rw [he, Option.bind_some]
    by_cases h0 : e = 0
    · obtain ⟨h1, h2, h3, h4⟩ := hl h0
      rw [if_neg (by simpa using h0)]
      obtain ⟨⟨b, o⟩, ht, t⟩ := two_ok l r
      rw [ht, Option.bind_some]
      dsimp only at t ⊢
      by_cases c : b < 0
      · rw [if_pos (by simpa using c), ok_some]; exact ⟨w_zero, w_zero⟩
      · rw [if_neg (by simpa using c), ok_some]
        have := t.one (by omega)
        refine ⟨⟨by dsimp only; omega, by dsimp only; omega⟩, ?_⟩
        rcases t.is with rfl | ⟨k, hk, _, rfl⟩
        · exact ⟨by dsimp only; omega, by dsimp only; omega⟩
        · have := h2 _ (nth_mem hk)
          exact ⟨by dsimp only; omega, by dsimp only; omega⟩
    · rw [if_pos (by simpa using h0), ok_some]; exact ⟨w_zero, w_zero⟩
  obtain ⟨p, e, h1, h2⟩ := h
  exact ⟨p, e, h1, h2, auction_second_er l r p e⟩
theorem powerCheck_any (w : List Int) (q : Int) : Ok (power_Check_m w q) (fun e => e = 0 → w.length ≤ 6) := by
  unfold power_Check_m
  by_cases h1 : (w.length : Int) < 1
  · rw [if_pos (by simpa using h1), ok_bindR, ok_some, flok_nx, if_pos rfl, ok_some]; intro h; exact absurd h (by decide)
  rw [if_neg (by simpa using h1), ok_bindR, ok_some, flok_nx]
  by_cases h6 : (w.length : Int) > 6
  · rw [if_pos (by simpa using h6), ok_some]; intro h; exact absurd h (by decide)
  rw [if_neg (by simpa using h6), ok_bindR]
  refine ok_rangeL (s := (0 : Int)) (fun _ _ => True) trivial (fun k x s hk _ => ?_) fun s _ => ?_
  · unfold power_Check_b1
    by_cases c1 : x < 0
    · rw [if_pos (by simpa using c1), ok_bindF, ok_some, flok_nx, if_pos rfl, ok_some, flok_rt]; intro h; exact absurd h (by decide)
    rw [if_neg (by simpa using c1), ok_bindF, ok_some, flok_nx]
    by_cases c2 : x > 1000
    · rw [if_pos (by simpa using c2), ok_some, flok_rt]; intro h; exact absurd h (by decide)
    rw [if_neg (by simpa using c2), ok_some, flok_nx]; trivial
  · by_cases c1 : q < 1
    · rw [if_pos (by simpa using c1), ok_bindR, ok_some, flok_nx, if_pos rfl, ok_some]; intro h; exact absurd h (by decide)
    rw [if_neg (by simpa using c1), ok_bindR, ok_some, flok_nx]
    by_cases c2 : q > s
    · rw [if_pos (by simpa using c2), ok_some]; intro h; exact absurd h (by decide)
    rw [if_neg (by simpa using c2), ok_some]
    exact fun _ => by omega
theorem wins_any (w : List Int) (q m : Int) : Ok (power_wins_m w q m) (fun _ => True) := by
  unfold power_wins_m
  simp only [ok_bindR]
  refine ok_rangeL (s := (0 : Int)) (fun _ _ => True) trivial (fun k x s hk _ => ?_) fun s _ => by rw [ok_some]; trivial
  unfold power_wins_b1
  rw [chk_t (by omega), Option.bind_some, ok_ite]
  exact ⟨fun _ => by rw [ok_some]; trivial, fun _ => by rw [ok_some]; trivial⟩
theorem swings_some {w : List Int} {q : Int} (h6 : w.length ≤ 6) (hc : power_Check_m w q = some 0) : ∃ p, power_Swings_m w q = some p := by
  have : Ok (power_Swings_m w q) (fun _ => True) := by
    have hp : IntKind.wrap .i64 ((1 : Int) * 2 ^ (min ((w.length : Nat) : Int).toNat (IntKind.bits .i64))) ≤ 9223372036854775807 := (w_wrap _).2
    unfold power_Swings_m
    rw [hc, Option.bind_some, if_neg (by decide), chk_t ⟨by omega, by omega⟩, Option.bind_some, chk_t (by omega), Option.bind_some, chk_t hp, Option.bind_some, ok_bindR]
    refine ok_rangeN (fun _ (l : List Int) => l.length = w.length) (by simp) (fun k l hk hl => ?_) fun l _ => by rw [ok_some]; trivial
    unfold power_Swings_b1
    rw [ok_bindF]
    refine ok_rangeL (fun _ (l : List Int) => l.length = w.length) hl (fun j x l hj hl => ?_) fun l hl => by rw [ok_some]; exact hl
    have hjl := (List.getElem?_eq_some_iff.1 hj).1
    have fin : ∀ b : Bool, Ok (if b then (idx l (j : Int)).bind fun y550 => (idx l (j : Int)).bind fun y552 => some (Fl.nx (List.set l j (wadd y550 (1 : Int))) : Fl (List Int × Int) (List Int) (List Int)) else some (.nx l)) (FlOk (fun l => l.length = w.length) (fun _ => False) (fun _ => True)) := fun b => by
      cases b with
      | true => rw [if_pos rfl, idx_nat, nth_at (by omega), Option.bind_some, Option.bind_some, ok_some, flok_nx, List.length_set]; exact hl
      | false => rw [if_neg (by decide), ok_some, flok_nx]; exact hl
    unfold power_Swings_b2
    rw [chk_t (by omega), Option.bind_some, ok_bindF]
    rw [ok_ite]
    refine ⟨fun _ => ?_, fun _ => by rw [ok_some, flok_nx]; exact (fin false).mono fun v hv => by cases v with | nx s => exact hv | br s => exact hv.elim | rt r => trivial⟩
    obtain ⟨b, eb, _⟩ := wins_any w q (k : Int)
    rw [eb, Option.bind_some, ok_ite]
    refine ⟨fun _ => ?_, fun _ => by rw [ok_some, flok_nx]; exact (fin false).mono fun v hv => by cases v with | nx s => exact hv | br s => exact hv.elim | rt r => trivial⟩
    rw [Option.bind_some]
    obtain ⟨c, ec, _⟩ := wins_any w q (bits .andNot .i64 (k : Int) (IntKind.wrap .i64 ((1 : Int) * 2 ^ (min ((j : Nat) : Int).toNat (IntKind.bits .i64)))))
    rw [ec, Option.bind_some, ok_some, flok_nx]
    exact (fin _).mono fun v hv => by cases v with | nx s => exact hv | br s => exact hv.elim | rt r => trivial
  obtain ⟨p, e, _⟩ := this
  exact ⟨p, e⟩
def WL (n : Nat) (l : List Int) : Prop := l.length ≤ n ∧ ∀ x ∈ l, W x
theorem WL.set {n : Nat} {l : List Int} (h : WL n l) (i : Nat) {x : Int} (hx : W x) : WL n (l.set i x) :=
  ⟨by rw [List.length_set]; exact h.1, fun y hy => by rcases List.mem_or_eq_of_mem_set hy with h' | rfl; exact h.2 _ h'; exact hx⟩
theorem wl_zero {n m : Nat} (h : n ≤ m) : WL m (List.replicate n (0 : Int)) := ⟨by simpa using h, fun x hx => by rw [List.eq_of_mem_replicate hx]; exact w_zero⟩
theorem swings_any (l : List Int) (q : Int) : Ok (power_Swings_m l q) (fun p => WL 8 p.1 ∧ Er p.2) := by
  obtain ⟨e, he, hv⟩ := powerCheck_any l q
  have hS : Sat (power_Swings_m l q) (fun p => WL 8 p.1) := by
    unfold power_Swings_m
    refine sat_bind fun e' he' => sat_ite (fun _ => sat_some ⟨by simp, fun x hx => by simp at hx⟩) fun hz => sat_bind fun _ _ => sat_bind fun _ _ => sat_bind fun _ _ => ?_
    rw [he] at he'; cases he'
    have h6 := hv (by simpa using hz)
    refine sat_bindR ?_
    refine sat_rangeN (fun s => WL 8 s) (wl_zero (by rw [Int.toNat_natCast]; omega)) (fun k s hs => ?_) (fun s hs => ?_) _ _
    rotate_left
    · exact sat_some hs
    unfold power_Swings_b1
    refine sat_bindF ?_
    refine sat_rangeL (fun s => WL 8 s) hs (fun k x s _ hs => ?_) (fun s hs => sat_some ?_) _
    rotate_left
    · exact hs
    unfold power_Swings_b2
    refine sat_bindF (sat_bind fun _ _ => sat_ite (fun _ => sat_bind fun _ _ => sat_ite (fun _ => sat_bind fun _ _ => sat_bind fun _ _ => sat_some ?_) fun _ => sat_some ?_) fun _ => sat_some ?_)
    all_goals exact sat_ite (fun _ => sat_bind fun _ _ => sat_bind fun _ _ => sat_some (hs.set _ (w_add _ _))) fun _ => sat_some hs
  have : ∃ p, power_Swings_m l q = some p := by
    by_cases h0 : e = 0
    · subst h0; exact swings_some (hv rfl) he
    · refine ⟨([], e), ?_⟩
      unfold power_Swings_m
      rw [he, Option.bind_some, if_pos (by simpa using h0)]
  obtain ⟨p, hp⟩ := this
  exact ⟨p, hp, hS p hp, power_swings_er l q p hp⟩
theorem seatsCheck_any (p : List Int) (h : Int) : Ok (seats_Check_m p h) (fun e => e = 0 → (1 ≤ p.length ∧ p.length ≤ 8 ∧ 0 < p.sum ∧ ∀ x ∈ p, 0 ≤ x ∧ x ≤ 1000000) ∧ 0 ≤ h ∧ h ≤ 100) := by
  unfold seats_Check_m
  by_cases h1 : (p.length : Int) < 1
  · rw [if_pos (by simpa using h1), ok_bindR, ok_some, flok_nx, if_pos rfl, ok_some]; intro h; exact absurd h (by decide)
  rw [if_neg (by simpa using h1), ok_bindR, ok_some, flok_nx]
  by_cases h6 : (p.length : Int) > 8
  · rw [if_pos (by simpa using h6), ok_some]; intro h; exact absurd h (by decide)
  rw [if_neg (by simpa using h6), ok_bindR]
  refine ok_rangeL (s := (0 : Int)) (fun (k : Nat) (s : Int) => (∀ x ∈ p.take k, 0 ≤ x ∧ x ≤ 1000000) ∧ s = (p.take k).sum ∧ 0 ≤ s ∧ s ≤ 1000000 * k) ⟨by simp, by simp, by omega, by omega⟩ (fun k x s hk hI => ?_) fun s hs => ?_
  · obtain ⟨i1, i2, i3, i4⟩ := hI
    have htk : p.take (k + 1) = p.take k ++ [x] := by rw [List.take_succ, hk]; rfl
    unfold seats_Check_b1
    by_cases c1 : x < 0
    · rw [if_pos (by simpa using c1), ok_bindF, ok_some, flok_nx, if_pos rfl, ok_some, flok_rt]; intro h; exact absurd h (by decide)
    rw [if_neg (by simpa using c1), ok_bindF, ok_some, flok_nx]
    by_cases c2 : x > 1000000
    · rw [if_pos (by simpa using c2), ok_some, flok_rt]; intro h; exact absurd h (by decide)
    rw [if_neg (by simpa using c2), ok_some, flok_nx]
    have hkl := (List.getElem?_eq_some_iff.1 hk).1
    rw [wadd_of (by omega) (by omega)]
    refine ⟨fun y hy => ?_, ?_, by omega, by omega⟩
    · rw [htk] at hy
      rcases List.mem_append.1 hy with hy | hy
      · exact i1 y hy
      · rw [List.mem_singleton] at hy; subst hy; omega
    · rw [htk, List.sum_append, ← i2]; simp
  · obtain ⟨i1, i2, i3, i4⟩ := hs
    rw [List.take_length] at i1 i2
    subst i2
    by_cases c0 : p.sum = 0
    · rw [if_pos (by simpa using c0), ok_some]; intro h; exact absurd h (by decide)
    rw [if_neg (by simpa using c0), ok_bindR]
    by_cases c1 : h < 0
    · rw [if_pos (by simpa using c1), ok_some, flok_nx, if_pos rfl, ok_some]; intro h; exact absurd h (by decide)
    rw [if_neg (by simpa using c1), ok_some, flok_nx]
    by_cases c2 : h > 100
    · rw [if_pos (by simpa using c2), ok_some]; intro h; exact absurd h (by decide)
    rw [if_neg (by simpa using c2), ok_some]
    exact fun _ => ⟨⟨by omega, by omega, by omega, i1⟩, by omega, by omega⟩
theorem divided_some {p : List Int} {h : Int} (w : Int) (h1 : 1 ≤ p.length) (h8 : p.length ≤ 8) (hh : h ≤ 100) : ∃ a, seats_divided_m p h w = some a := by
  have : Ok (seats_divided_m p h w) (fun _ => True) := by
    unfold seats_divided_m
    rw [chk_t ⟨by omega, by omega⟩, Option.bind_some, chk_t (by omega), Option.bind_some, ok_bindR]
    refine ok_rangeN (fun _ (l : List Int) => l.length = p.length) (by simp) (fun k l hk hl => ?_) fun l _ => by rw [ok_some]; trivial
    unfold seats_divided_b1
    rw [ok_bindF]
    refine ok_rangeL (s := (0 : Int)) (fun _ (x : Int) => 0 ≤ x ∧ x < p.length) ⟨by omega, by omega⟩ (fun j y x hj hx => ?_) fun x hx => ?_
    · have hjl := (List.getElem?_eq_some_iff.1 hj).1
      unfold seats_divided_b2
      rw [idx_at hx.1, nth_at (by omega), Option.bind_some, idx_at hx.1, nth_at (by omega), Option.bind_some, idx_nat, nth_at (by omega), Option.bind_some, ok_ite]
      exact ⟨fun _ => by rw [ok_some, flok_nx]; omega, fun _ => by rw [ok_some, flok_nx]; exact hx⟩
    · rw [idx_at hx.1, nth_at (by omega), Option.bind_some, Option.bind_some, ok_some, flok_nx, List.length_set]; exact hl
  obtain ⟨a, e, _⟩ := this
  exact ⟨a, e⟩
theorem parts_some {p : List Int} {h : Int} (hc : seats_Check_m p h = some 0) (h1 : 1 ≤ p.length) (h8 : p.length ≤ 8) (hp : 0 < p.sum) (hv : ∀ x ∈ p, 0 ≤ x ∧ x ≤ 1000000) (hw : W h) : ∃ a, seats_Share_m 3 p h = some a := by
  have : Ok (seats_Share_m 3 p h) (fun _ => True) := by
    unfold seats_Share_m
    rw [if_neg (by decide), ok_bindR, ok_some, flok_nx, show decide ((3 : Int) > 3) = false from rfl, if_neg (by decide), hc, Option.bind_some, if_neg (by decide), if_neg (by decide), if_neg (by decide), ok_bindR]
    refine ok_rangeL (s := (0 : Int)) (fun (k : Nat) (s : Int) => s = (p.take k).sum ∧ 0 ≤ s ∧ s ≤ 1000000 * k) ⟨by simp, by omega, by omega⟩ (fun k x s hk hI => ?_) fun s hs => ?_
    · obtain ⟨i2, i3, i4⟩ := hI
      have hkl := (List.getElem?_eq_some_iff.1 hk).1
      have hx := hv x (List.mem_of_getElem? hk)
      unfold seats_Share_b1
      rw [ok_some, flok_nx, wadd_of (by omega) (by omega)]
      refine ⟨?_, by omega, by omega⟩
      rw [List.take_succ, hk, List.sum_append, ← i2]; simp
    · obtain ⟨i2, _, _⟩ := hs
      rw [List.take_length] at i2
      rw [chk_t ⟨by omega, by omega⟩, Option.bind_some, Option.bind_some, ok_bindR]
      refine ok_rangeL (fun _ (s : List Int × List Int × Int) => s.1.length = p.length ∧ s.2.1.length = p.length ∧ W s.2.2) ⟨by simp, by simp, hw⟩ (fun k x s hk hI => ?_) fun s hs => ?_
      · obtain ⟨m1, m2, m3⟩ := s
        obtain ⟨i1, i3, _⟩ := hI
        dsimp only at i1 i3
        have hkl := (List.getElem?_eq_some_iff.1 hk).1
        unfold seats_Share_b2
        dsimp only
        rw [chk_t (by omega), Option.bind_some, Option.bind_some, idx_nat, nth_at (by omega), Option.bind_some, idx_nat, nth_at (by omega), Option.bind_some, idx_nat, nth_at (by rw [List.length_set]; omega), Option.bind_some, ok_some, flok_nx]
        exact ⟨by dsimp only; rw [List.length_set]; exact i1, by dsimp only; rw [List.length_set]; exact i3, w_sub _ _⟩
      · obtain ⟨m1, m2, m3⟩ := s
        obtain ⟨i1, i3, i4⟩ := hs
        dsimp only at i1 i3 i4 ⊢
        rw [chk_t i4.2, Option.bind_some, ok_bindR]
        refine ok_rangeN (fun _ (s : List Int × List Int) => s.1.length = p.length ∧ s.2.length = p.length) ⟨i1, i3⟩ (fun k s hk hI => ?_) fun s _ => by obtain ⟨q1, q2⟩ := s; rw [ok_some]; trivial
        obtain ⟨q1, q2⟩ := s
        obtain ⟨j1, j2⟩ := hI
        dsimp only at j1 j2
        unfold seats_Share_b3
        dsimp only
        rw [ok_bindF]
        refine ok_rangeN (s := (0 : Int)) (fun _ (x : Int) => 0 ≤ x ∧ x < p.length) ⟨by omega, by omega⟩ (fun j x hj hx => ?_) fun x hx => ?_
        · unfold seats_Share_b4
          rw [idx_nat, nth_at hj, Option.bind_some, idx_at hx.1, nth_at (by omega), Option.bind_some, ok_ite]
          exact ⟨fun _ => by rw [ok_some, flok_nx]; omega, fun _ => by rw [ok_some, flok_nx]; exact hx⟩
        · rw [idx_at hx.1, nth_at (by omega), Option.bind_some, Option.bind_some, idx_at hx.1, nth_at (by omega), Option.bind_some, ok_some, flok_nx]
          exact ⟨by dsimp only; rw [List.length_set]; exact j1, by dsimp only; rw [List.length_set]; exact j2⟩
  obtain ⟨a, e, _⟩ := this
  exact ⟨a, e⟩
theorem divided_wl {p : List Int} {h w : Int} (h8 : p.length ≤ 8) : Sat (seats_divided_m p h w) (WL 8) := by
  unfold seats_divided_m
  refine sat_bind fun _ _ => sat_bind fun _ _ => ?_
  refine sat_bindR ?_
  refine sat_rangeN (fun s => WL 8 s) (wl_zero (by rw [Int.toNat_natCast]; omega)) (fun k s hs => ?_) (fun s hs => ?_) _ _
  rotate_left
  · exact sat_some hs
  unfold seats_divided_b1
  refine sat_bindF ?_
  refine sat_rangeL (fun _ => True) trivial (fun k x t _ _ => ?_) (fun t _ => ?_) _
  · unfold seats_divided_b2
    exact sat_bind fun _ _ => sat_bind fun _ _ => sat_bind fun _ _ => sat_ite (fun _ => sat_some trivial) fun _ => sat_some trivial
  · exact sat_bind fun _ _ => sat_bind fun _ _ => sat_some (hs.set _ (w_add _ _))
theorem share_wl (w : Int) (p : List Int) (h : Int) (h8 : Sat (seats_Check_m p h) (fun e => e = 0 → p.length ≤ 8)) : Sat (seats_Share_m w p h) (fun r => WL 8 r.1) := by
  have n0 : WL 8 [] := ⟨by simp, fun x hx => by simp at hx⟩
  unfold seats_Share_m
  refine sat_bindR (sat_ite (fun _ => sat_some ?_) fun _ => sat_some ?_)
  all_goals
    refine sat_ite (fun _ => sat_some n0) fun _ => sat_bind fun e he => sat_ite (fun _ => sat_some n0) fun hz => ?_
    have h8 := h8 e he (by simpa using hz)
    refine sat_ite (fun _ => sat_bind fun y hy => sat_some (divided_wl h8 y hy)) fun _ => sat_ite (fun _ => sat_bind fun y hy => sat_some (divided_wl h8 y hy)) fun _ => ?_
    refine sat_bindR ?_
    refine sat_rangeL (fun _ => True) trivial (fun k x s _ _ => sat_some ?_) (fun s _ => sat_bind fun _ _ => sat_bind fun _ _ => ?_) _
    · trivial
    refine sat_bindR ?_
    refine sat_rangeL (fun (s : List Int × List Int × Int) => WL 8 s.1) (wl_zero (by rw [Int.toNat_natCast]; omega)) (fun k x s _ hs => ?_) (fun s hs => ?_) _
    · obtain ⟨m1, m2, m3⟩ := s
      unfold seats_Share_b2
      exact sat_bind fun _ _ => sat_bind fun _ _ => sat_bind fun _ _ => sat_bind fun _ _ => sat_bind fun _ _ => sat_some (WL.set hs _ (w_wrap _))
    · obtain ⟨l1, l2, l3⟩ := s
      refine sat_bind fun _ _ => ?_
      refine sat_bindR ?_
      refine sat_rangeN (fun (s : List Int × List Int) => WL 8 s.1) hs (fun k s hs => ?_) (fun s hs => ?_) _ _
      rotate_left
      · obtain ⟨m1, m2⟩ := s; exact sat_some hs
      obtain ⟨m1, m2⟩ := s
      unfold seats_Share_b3
      refine sat_bindF ?_
      refine sat_rangeN (fun _ => True) trivial (fun k s _ => ?_) (fun s _ => sat_bind fun _ _ => sat_bind fun _ _ => sat_bind fun _ _ => sat_some ?_) _ _
      rotate_left
      · exact WL.set hs _ (w_add _ _)
      unfold seats_Share_b4
      exact sat_bind fun _ _ => sat_bind fun _ _ => sat_ite (fun _ => sat_some trivial) fun _ => sat_some trivial
theorem share_any (w : Int) (p : List Int) (h : Int) : Ok (seats_Share_m w p h) (fun r => WL 8 r.1 ∧ Er r.2) := by
  obtain ⟨e, he, hv⟩ := seatsCheck_any p h
  have : ∃ r, seats_Share_m w p h = some r := by
    by_cases hw : 1 ≤ w ∧ w ≤ 3
    · by_cases h0 : e = 0
      · obtain ⟨⟨p1, p2, p3, p4⟩, h1, h2⟩ := hv h0
        subst h0
        by_cases w3 : w = 3
        · subst w3
          exact parts_some he p1 p2 p3 p4 ⟨by omega, by omega⟩
        · have hd : ∀ v, ∃ a, seats_divided_m p h v = some a := fun v => divided_some v p1 p2 h2
          unfold seats_Share_m
          rw [if_neg (by simp; omega)]
          simp only [bindR]
          rw [decide_eq_false (by omega)]
          simp only [Bool.false_eq_true, if_false]
          rw [he, Option.bind_some, if_neg (by decide)]
          by_cases w1 : w = 1
          · obtain ⟨a, ha⟩ := hd 1
            exact ⟨(a, 0), by rw [if_pos (by simpa using w1), ha]; rfl⟩
          · have w2 : w = 2 := by omega
            obtain ⟨a, ha⟩ := hd 2
            exact ⟨(a, 0), by rw [if_neg (by simpa using w1), if_pos (by simpa using w2), ha]; rfl⟩
      · refine ⟨([], e), ?_⟩
        unfold seats_Share_m
        rw [if_neg (by simp; omega)]
        simp only [bindR]
        rw [decide_eq_false (by omega)]
        simp only [Bool.false_eq_true, if_false]
        rw [he, Option.bind_some, if_pos (by simpa using h0)]
    · refine ⟨([], 1), ?_⟩
      unfold seats_Share_m
      by_cases c : w < 1
      · rw [if_pos (by simpa using c)]; rfl
      · rw [if_neg (by simpa using c)]
        simp only [bindR]
        rw [decide_eq_true (by omega), if_pos rfl]
  obtain ⟨r, hr⟩ := this
  refine ⟨r, hr, share_wl w p h (fun v hv' h0 => ?_) r hr, seats_share_er w p h r hr⟩
  rw [he] at hv'; cases hv'
  exact (hv h0).1.2.1
theorem asked_ok (w : List UInt8) {l : List (List UInt8)} (hl : l.length ≤ 1000000) : Ok (desk_asked_m w l) (Ex Fine) := by
  unfold desk_asked_m
  obtain ⟨r, er, hr⟩ := numbers_ok hl
  rw [er, Option.bind_some]
  cases r with
  | error e => rw [thr, ok_some]; exact hr
  | ok z =>
    rw [thr]
    have two : ∀ {a b : Int}, W a → W b → Ok ((desk_listed_m [a, b]).bind fun y => some (Except.ok y : Except Int (List UInt8))) (Ex Fine) := fun ha hb => by
      obtain ⟨s, e, h⟩ := listed_ok (l := [_, _]) (fun x hx => by simp only [List.mem_cons, List.not_mem_nil, or_false] at hx; rcases hx with rfl | rfl; exact ha; exact hb) (by simp)
      rw [e, Option.bind_some, ok_some]; exact h
    have many : ∀ {a : List Int}, WL 8 a → Ok ((desk_listed_m a).bind fun y => some (Except.ok y : Except Int (List UInt8))) (Ex Fine) := fun ha => by
      obtain ⟨s, e, h⟩ := listed_ok ha.2 (by have := ha.1; omega)
      rw [e, Option.bind_some, ok_some]; exact h
    by_cases c1 : (w == ([112, 105, 108, 101, 115] : List UInt8)) = true
    · rw [if_pos c1]
      obtain ⟨y, ey, w1, w2, w3⟩ := move_any z
      rw [ey, Option.bind_some]
      rcases must_c w3 with ⟨_, em⟩ | ⟨_, em⟩
      · rw [em, Option.bind_some, thr]; exact two w1 w2
      · rw [em, Option.bind_some, thr, ok_some]; exact w3
    rw [if_neg c1, ok_bindR]
    have s4 : ∀ b : Bool, (b = true → 0 < z.length) → Ok (if b then (idx z (0 : Int)).bind fun y142 => (chk (0 ≤ (1 : Int) ∧ (1 : Int) ≤ (z).length)).bind fun _ => (power_Swings_m ((List.take ((z).length) z).drop (((1 : Int)).toNat)) y142).bind fun y147 => (desk_must_m y147.2).bind fun y154 => thr y154 (fun x156 => some (Except.error x156 : Except Int (List UInt8))) fun z157 => (desk_listed_m y147.1).bind fun y160 => some (.ok y160) else (desk_must_m (12 : Int)).bind fun y166 => thr y166 (fun x168 => some (.error x168)) fun z169 => some (.ok ([] : List UInt8))) (Ex Fine) := fun b hb => by
      cases b with
      | false => rw [if_neg (by decide)]; rw [show desk_must_m 12 = some (.error 12) from rfl, Option.bind_some, thr, ok_some]; exact er_lit 12 rfl
      | true =>
        have hb := hb rfl
        rw [if_pos rfl, show idx z (0 : Int) = some (nth z 0) from by rw [show (0 : Int) = ((0 : Nat) : Int) from rfl, idx_nat, nth_at hb], Option.bind_some, chk_t ⟨by omega, by omega⟩, Option.bind_some]
        obtain ⟨y, ey, w1, w3⟩ := swings_any ((List.take ((z).length) z).drop (((1 : Int)).toNat)) (nth z 0)
        rw [ey, Option.bind_some]
        rcases must_c w3 with ⟨_, em⟩ | ⟨_, em⟩
        · rw [em, Option.bind_some, thr]; exact many w1
        · rw [em, Option.bind_some, thr, ok_some]; exact w3
    have s3 : ∀ b : Bool, (b = true → 1 < z.length) → Ok (if b then (idx z (0 : Int)).bind fun y98 => (idx z (1 : Int)).bind fun y100 => (chk (0 ≤ (2 : Int) ∧ (2 : Int) ≤ (z).length)).bind fun _ => (seats_Share_m y98 ((List.take ((z).length) z).drop (((2 : Int)).toNat)) y100).bind fun y105 => (desk_must_m y105.2).bind fun y112 => thr y112 (fun x114 => some (Except.error x114 : Except Int (List UInt8))) fun z115 => (desk_listed_m y105.1).bind fun y118 => some (.ok y118) else bindR (ρ := Except Int (List UInt8)) (β := Unit) (σ := Bool) (if w == ([115, 119, 105, 110, 103, 115] : List UInt8) then some (.nx (decide (((z).length : Int) > (0 : Int)))) else some (.nx false)) fun x122 => (if x122 then (idx z (0 : Int)).bind fun y142 => (chk (0 ≤ (1 : Int) ∧ (1 : Int) ≤ (z).length)).bind fun _ => (power_Swings_m ((List.take ((z).length) z).drop (((1 : Int)).toNat)) y142).bind fun y147 => (desk_must_m y147.2).bind fun y154 => thr y154 (fun x156 => some (Except.error x156 : Except Int (List UInt8))) fun z157 => (desk_listed_m y147.1).bind fun y160 => some (.ok y160) else (desk_must_m (12 : Int)).bind fun y166 => thr y166 (fun x168 => some (.error x168)) fun z169 => some (.ok ([] : List UInt8)))) (Ex Fine) := fun b hb => by
      cases b with
      | false =>
        rw [if_neg (by decide), ok_bindR]
        by_cases c : (w == ([115, 119, 105, 110, 103, 115] : List UInt8)) = true
        · rw [if_pos c, ok_some, flok_nx]; exact s4 _ fun h => by rw [decide_eq_true_eq] at h; omega
        · rw [if_neg c, ok_some, flok_nx]; exact s4 _ fun h => by cases h
      | true =>
        have hb := hb rfl
        rw [if_pos rfl, show idx z (0 : Int) = some (nth z 0) from by rw [show (0 : Int) = ((0 : Nat) : Int) from rfl, idx_nat, nth_at (by omega)], Option.bind_some, show idx z (1 : Int) = some (nth z 1) from by rw [show (1 : Int) = ((1 : Nat) : Int) from rfl, idx_nat, nth_at hb], Option.bind_some, chk_t ⟨by omega, by omega⟩, Option.bind_some]
        obtain ⟨y, ey, w1, w3⟩ := share_any (nth z 0) ((List.take ((z).length) z).drop (((2 : Int)).toNat)) (nth z 1)
        rw [ey, Option.bind_some]
        rcases must_c w3 with ⟨_, em⟩ | ⟨_, em⟩
        · rw [em, Option.bind_some, thr]; exact many w1
        · rw [em, Option.bind_some, thr, ok_some]; exact w3
    have s2 : ∀ b : Bool, (b = true → 0 < z.length) → Ok (if b then (chk (0 ≤ (1 : Int) ∧ (1 : Int) ≤ (z).length)).bind fun _ => (idx z (0 : Int)).bind fun y56 => (auction_Second_m ((List.take ((z).length) z).drop (((1 : Int)).toNat)) y56).bind fun y58 => (desk_must_m y58.2.2).bind fun y64 => thr y64 (fun x66 => some (Except.error x66 : Except Int (List UInt8))) fun z67 => (desk_listed_m ([y58.1, y58.2.1] : (List Int))).bind fun y72 => some (.ok y72) else bindR (ρ := Except Int (List UInt8)) (β := Unit) (σ := Bool) (if w == ([115, 101, 97, 116, 115] : List UInt8) then some (.nx (decide (((z).length : Int) > (1 : Int)))) else some (.nx false)) fun x76 => (if x76 then (idx z (0 : Int)).bind fun y98 => (idx z (1 : Int)).bind fun y100 => (chk (0 ≤ (2 : Int) ∧ (2 : Int) ≤ (z).length)).bind fun _ => (seats_Share_m y98 ((List.take ((z).length) z).drop (((2 : Int)).toNat)) y100).bind fun y105 => (desk_must_m y105.2).bind fun y112 => thr y112 (fun x114 => some (Except.error x114 : Except Int (List UInt8))) fun z115 => (desk_listed_m y105.1).bind fun y118 => some (.ok y118) else bindR (ρ := Except Int (List UInt8)) (β := Unit) (σ := Bool) (if w == ([115, 119, 105, 110, 103, 115] : List UInt8) then some (.nx (decide (((z).length : Int) > (0 : Int)))) else some (.nx false)) fun x122 => (if x122 then (idx z (0 : Int)).bind fun y142 => (chk (0 ≤ (1 : Int) ∧ (1 : Int) ≤ (z).length)).bind fun _ => (power_Swings_m ((List.take ((z).length) z).drop (((1 : Int)).toNat)) y142).bind fun y147 => (desk_must_m y147.2).bind fun y154 => thr y154 (fun x156 => some (Except.error x156 : Except Int (List UInt8))) fun z157 => (desk_listed_m y147.1).bind fun y160 => some (.ok y160) else (desk_must_m (12 : Int)).bind fun y166 => thr y166 (fun x168 => some (.error x168)) fun z169 => some (.ok ([] : List UInt8))))) (Ex Fine) := fun b hb => by
      cases b with
      | false =>
        rw [if_neg (by decide), ok_bindR]
        by_cases c : (w == ([115, 101, 97, 116, 115] : List UInt8)) = true
        · rw [if_pos c, ok_some, flok_nx]; exact s3 _ fun h => by rw [decide_eq_true_eq] at h; omega
        · rw [if_neg c, ok_some, flok_nx]; exact s3 _ fun h => by cases h
      | true =>
        have hb := hb rfl
        rw [if_pos rfl, chk_t ⟨by omega, by omega⟩, Option.bind_some, show idx z (0 : Int) = some (nth z 0) from by rw [show (0 : Int) = ((0 : Nat) : Int) from rfl, idx_nat, nth_at hb], Option.bind_some]
        obtain ⟨y, ey, w1, w2, w3⟩ := second_any ((List.take ((z).length) z).drop (((1 : Int)).toNat)) (nth z 0)
        rw [ey, Option.bind_some]
        rcases must_c w3 with ⟨_, em⟩ | ⟨_, em⟩
        · rw [em, Option.bind_some, thr]; exact two w1 w2
        · rw [em, Option.bind_some, thr, ok_some]; exact w3
    by_cases c : (w == ([115, 101, 99, 111, 110, 100] : List UInt8)) = true
    · rw [if_pos c, ok_some, flok_nx]; exact s2 _ fun h => by rw [decide_eq_true_eq] at h; omega
    · rw [if_neg c, ok_some, flok_nx]; exact s2 _ fun h => by cases h
end Go.Pu
set_option linter.all false
namespace Go.Pu
open Go.Fw Go.Mo
abbrev Bs := List UInt8
theorem wrap_u16 (n : Int) : 0 ≤ IntKind.wrap .u16 n ∧ IntKind.wrap .u16 n < 65536 := by
  unfold IntKind.wrap
  have a0 := Int.emod_nonneg n (b := 65536) (by decide)
  have a1 := Int.emod_lt_of_pos n (b := 65536) (by decide)
  exact ⟨a0, a1⟩
theorem wrap_u8 (n : Int) : IntKind.wrap .u8 n = n % 256 := rfl
theorem xor_u16 (a b : Int) : 0 ≤ bits .xor .u16 a b ∧ bits .xor .u16 a b < 65536 := by
  unfold bits; exact wrap_u16 _
theorem sum_ok (s : Bs) (h : s.length ≤ 9223372036854775807) : Ok (log_Sum_m s) (fun v => 0 ≤ v ∧ v < 65536) := by
  unfold log_Sum_m
  rw [chk_t h, Option.bind_some, ok_bindR]
  refine ok_rangeL (fun _ v => 0 ≤ v ∧ v < 65536) (by decide) (fun k a t hk hI => ?_) fun v hv => by rw [ok_some]; exact hv
  unfold log_Sum_b1
  rw [chk_t (by decide), Option.bind_some, ok_bindF]
  refine Ok.fl (N := fun s : Int × Int => 0 ≤ s.1 ∧ s.1 < 65536) (B := fun _ => False) (R := fun _ => False) (ok_loopM (fun s : Int × Int => (0 ≤ s.1 ∧ s.1 < 65536) ∧ 0 ≤ s.2 ∧ s.2 ≤ 8) (fun s => (8 - s.2).toNat) (fun s hs => ?_) _ _ ⟨xor_u16 _ _, Int.le_refl _, by dsimp only; omega⟩ (by dsimp only; omega)) (fun s hs => by rw [ok_some, flok_nx]; exact hs) (fun _ h => h.elim) (fun _ h => h.elim)
  obtain ⟨x, y⟩ := s
  obtain ⟨⟨h1, h2⟩, h3, h4⟩ := hs
  dsimp only at h1 h2 h3 h4
  unfold log_Sum_b2
  dsimp only
  by_cases h8 : y < 8
  · rw [if_pos (by rw [decide_eq_true_eq]; exact h8), chk_t (by decide), Option.bind_some]
    split
    · rw [chk_t (by decide), Option.bind_some, wadd_of (by omega) (by omega), ok_some, flok_nx]
      exact ⟨⟨xor_u16 _ _, by dsimp only; omega, by dsimp only; omega⟩, by dsimp only; omega⟩
    · rw [chk_t (by decide), Option.bind_some, wadd_of (by omega) (by omega), ok_some, flok_nx]
      exact ⟨⟨wrap_u16 _, by dsimp only; omega, by dsimp only; omega⟩, by dsimp only; omega⟩
  · rw [if_neg (by rw [decide_eq_true_eq]; exact h8), ok_some, flok_br]
    exact ⟨h1, h2⟩
def crc (s : Bs) : Int := (log_Sum_m s).getD 0
theorem sum_crc {s : Bs} (h : s.length ≤ 9223372036854775807) : log_Sum_m s = some (crc s) ∧ 0 ≤ crc s ∧ crc s < 65536 := by
  obtain ⟨v, e, hv⟩ := sum_ok s h
  have : crc s = v := by unfold crc; rw [e]; rfl
  rw [this]; exact ⟨e, hv⟩
def byt (n : Int) : UInt8 := UInt8.ofNat n.toNat
def head_ (r : Bs) : Bs := byt r.length :: r
def hi_ (r : Bs) : UInt8 := byt (crc (head_ r) / 256 % 256)
def lo_ (r : Bs) : UInt8 := byt (crc (head_ r) % 256)
def fr (r : Bs) : Bs := head_ r ++ [hi_ r, lo_ r]
theorem fr_len (r : Bs) : (fr r).length = r.length + 3 := by simp [fr, head_]
theorem fdiv_shift (v : Int) : Int.fdiv v (2 ^ (min (8 : Int).toNat (IntKind.bits .u16))) = v / 256 := by
  show Int.fdiv v 256 = v / 256
  rw [Int.fdiv_eq_ediv_of_nonneg _ (by decide)]
theorem byt_nat {n : Int} (h0 : 0 ≤ n) (h1 : n < 256) : ((byt n).toNat : Int) = n := by
  unfold byt
  rw [UInt8.toNat_ofNat', Nat.mod_eq_of_lt (by omega)]; omega
theorem frame_ok (r : Bs) : log_Frame_m r = some (if r.length ≤ 64 then (fr r, 0) else ([], 2)) := by
  unfold log_Frame_m
  by_cases h : r.length ≤ 64
  · rw [if_neg (by rw [decide_eq_true_eq]; omega), if_pos h]
    have e1 : bytesOf [IntKind.wrap .u8 (r.length : Int)] ++ r = head_ r := by
      show byt (IntKind.wrap .u8 (r.length : Int)) :: r = _
      rw [wrap_u8, Int.emod_eq_of_lt (by omega) (by omega)]; rfl
    have hl : (head_ r).length ≤ 9223372036854775807 := by simp [head_]; omega
    rw [e1, (sum_crc hl).1]
    have e2 : bytesOf [IntKind.wrap .u8 (Int.fdiv (crc (head_ r)) (2 ^ (min (8 : Int).toNat (IntKind.bits .u16)))), IntKind.wrap .u8 (crc (head_ r))] = [hi_ r, lo_ r] := by
      rw [fdiv_shift, wrap_u8, wrap_u8]; rfl
    rw [chk_t (by show 1 + r.length ≤ _; omega), Option.bind_some, Option.bind_some, chk_t (by decide), Option.bind_some, e2, chk_t (by simp [head_]; omega), Option.bind_some]
    rfl
  · rw [if_pos (by rw [decide_eq_true_eq]; omega), if_neg h]
def cat : List Bs → Bs
  | [] => []
  | r :: l => fr r ++ cat l
theorem cat_append (l m : List Bs) : cat (l ++ m) = cat l ++ cat m := by
  induction l with
  | nil => rfl
  | cons r l ih => simp [cat, ih]
theorem cat_snoc (l : List Bs) (r : Bs) : cat (l ++ [r]) = cat l ++ fr r := by rw [cat_append]; simp [cat]
theorem cat_len (l : List Bs) : 3 * l.length ≤ (cat l).length := by
  induction l with
  | nil => simp [cat]
  | cons r l ih => simp only [cat, List.length_append, fr_len, List.length_cons]; omega
def whole_ : List Bs → Nat → Nat
  | [], _ => 0
  | r :: l, k => if r.length + 3 ≤ k then whole_ l (k - (r.length + 3)) + 1 else 0
theorem whole_le : ∀ (l : List Bs) (k : Nat), whole_ l k ≤ l.length
  | [], _ => Nat.le_refl _
  | r :: l, k => by
    unfold whole_
    split
    · have := whole_le l (k - (r.length + 3)); simp only [List.length_cons]; omega
    · omega
theorem idx_mid {α : Type} [Inhabited α] {A B : List α} {j : Int} (h0 : 0 ≤ j) (h : j.toNat < B.length) : idx (A ++ B) ((A.length : Int) + j) = some (nth B j.toNat) := by
  rw [idx_at (by omega), List.getElem?_append_right (by omega), show ((A.length : Int) + j).toNat - A.length = j.toNat by omega, nth_at h]
theorem cut_mid {α : Type} {A B : List α} {a b : Nat} (hb : a ≤ b) : ((A ++ B).take (A.length + b)).drop (A.length + a) = (B.take b).drop a := by
  rw [List.take_append, List.take_of_length_le (by omega), show A.length + b - A.length = b by omega, List.drop_append, List.drop_of_length_le (by omega), show A.length + a - A.length = a by omega]; rfl
theorem wrap_i64 (b : UInt8) : IntKind.wrap .i64 (b.toNat : Int) = (b.toNat : Int) := by
  have := b.toNat_lt
  rw [IntKind.wrap_i64]; omega
theorem scan_step {A B : Bs} {r : Bs} (hr : r.length ≤ 64) (l2 : List Bs) (hl : (A ++ (fr r ++ B)).length ≤ 9223372036854775807) (h2 : l2.length < 68719476736) : log_Scan_b1 (A ++ (fr r ++ B)) (l2, (A.length : Int)) = some (.nx (l2 ++ [r], ((A.length + (r.length + 3) : Nat) : Int))) := by
  have hB : (fr r ++ B).length = r.length + 3 + B.length := by rw [List.length_append, fr_len]
  rw [List.length_append, hB] at hl
  have eb : fr r ++ B = byt r.length :: (r ++ ([hi_ r, lo_ r] ++ B)) := by simp [fr, head_]
  have hb0 : nth (fr r ++ B) 0 = byt r.length := by rw [eb]; rfl
  have hn : ((byt (r.length : Int)).toNat : Int) = r.length := byt_nat (by omega) (by omega)
  have hAl : ((A ++ (fr r ++ B)).length : Int) = A.length + (r.length + 3 + B.length) := by rw [List.length_append, hB]; omega
  have hc := sum_crc (s := head_ r) (by simp [head_]; omega)
  have g1 : nth (fr r ++ B) (r.length + 1) = hi_ r := by rw [eb, nth_cons_succ, nth_append, if_neg (by omega), Nat.sub_self]; rfl
  have g2 : nth (fr r ++ B) (r.length + 2) = lo_ r := by rw [eb, nth_cons_succ, nth_append, if_neg (by omega), show r.length + 1 - r.length = 1 by omega]; rfl
  have c1 : ((A ++ (fr r ++ B)).take (A.length + (r.length + 1))).drop (A.length + 0) = head_ r := by
    rw [cut_mid (by omega), eb]
    simp [head_]
  have c2 : ((A ++ (fr r ++ B)).take (A.length + (r.length + 1))).drop (A.length + 1) = r := by
    rw [cut_mid (by omega), eb]
    simp
  unfold log_Scan_b1
  dsimp only
  rw [if_pos (by rw [decide_eq_true_eq]; omega), show (A.length : Int) = (A.length : Int) + 0 by omega, idx_mid (by decide) (by rw [hB]; exact Nat.lt_of_lt_of_le (by decide : (0:Int).toNat < 1) (by omega)), Option.bind_some, show nth (fr r ++ B) (0 : Int).toNat = byt r.length from hb0, wrap_i64, hn, Int.add_zero]
  rw [if_neg (by rw [decide_eq_true_eq]; omega), wsub_of (by omega) (by omega), wadd_of (by omega : -9223372036854775808 ≤ (r.length : Int) + 3) (by omega), wadd_of (by omega : -9223372036854775808 ≤ (A.length : Int) + r.length) (by omega), wadd_of (by omega : -9223372036854775808 ≤ (A.length : Int) + r.length + 1) (by omega), wadd_of (by omega : -9223372036854775808 ≤ (A.length : Int) + r.length + 2) (by omega), wadd_of (by omega : -9223372036854775808 ≤ (A.length : Int) + 1) (by omega), wadd_of (by omega : -9223372036854775808 ≤ (A.length : Int) + 1 + r.length) (by omega), wadd_of (by omega : -9223372036854775808 ≤ (A.length : Int) + (r.length + 3)) (by omega)]
  rw [decide_eq_false (by omega)]
  simp only [bindF, Bool.false_eq_true, if_false]
  rw [chk_t (by omega), Option.bind_some, show ((A.length : Int) + r.length + 1).toNat = A.length + (r.length + 1) by omega, show (A.length : Int).toNat = A.length + 0 by omega, c1, hc.1, Option.bind_some]
  rw [show (A.length : Int) + r.length + 1 = (A.length : Int) + ((r.length + 1 : Nat) : Int) by omega, idx_mid (by omega) (by omega), Option.bind_some, chk_t (by decide), Option.bind_some, Int.toNat_natCast, g1, fdiv_shift, wrap_u8, wrap_u8]
  have d1 := Int.emod_nonneg (crc (head_ r) / 256) (b := 256) (by decide)
  have d2 := Int.emod_lt_of_pos (crc (head_ r) / 256) (b := 256) (by decide)
  have d3 := Int.emod_nonneg (crc (head_ r)) (b := 256) (by decide)
  have d4 := Int.emod_lt_of_pos (crc (head_ r)) (b := 256) (by decide)
  have k1 : ((hi_ r).toNat : Int) = crc (head_ r) / 256 % 256 := byt_nat d1 d2
  have k2 : ((lo_ r).toNat : Int) = crc (head_ r) % 256 := byt_nat d3 d4
  rw [k1, if_neg (by simp), show (A.length : Int) + r.length + 2 = (A.length : Int) + ((r.length + 2 : Nat) : Int) by omega, idx_mid (by omega) (by omega), Option.bind_some, Int.toNat_natCast, g2, k2]
  simp only [bne_self_eq_false, Bool.false_eq_true, if_false]
  rw [chk_t (by omega), Option.bind_some, chk_t (by simp; omega), Option.bind_some, show ((A.length : Int) + 1 + r.length).toNat = A.length + (r.length + 1) by omega, show ((A.length : Int) + 1).toNat = A.length + 1 by omega, c2]
  congr 3
theorem scan_stop {A : Bs} {r : Bs} (hr : r.length ≤ 64) (l2 : List Bs) {k : Nat} (hk : k < r.length + 3) (hl : A.length + k ≤ 9223372036854775807) : log_Scan_b1 (A ++ (fr r).take k) (l2, (A.length : Int)) = some (.br (l2, (A.length : Int))) := by
  have hT : ((fr r).take k).length = k := by rw [List.length_take, fr_len]; omega
  have hAl : ((A ++ (fr r).take k).length : Int) = A.length + k := by rw [List.length_append, hT]; omega
  unfold log_Scan_b1
  dsimp only
  by_cases h0 : k = 0
  · rw [if_neg (by rw [decide_eq_true_eq]; omega)]
  · have hn : ((byt (r.length : Int)).toNat : Int) = r.length := byt_nat (by omega) (by omega)
    rw [if_pos (by rw [decide_eq_true_eq]; omega), show (A.length : Int) = (A.length : Int) + 0 by omega, idx_mid (by decide) (by rw [hT]; exact Nat.pos_of_ne_zero h0), Option.bind_some, show nth ((fr r).take k) (0 : Int).toNat = byt r.length by rw [show (0 : Int).toNat = 0 from rfl, nth_take (by omega)]; rfl, wrap_i64, hn, Int.add_zero]
    rw [if_neg (by rw [decide_eq_true_eq]; omega), wsub_of (by omega) (by omega), wadd_of (by omega : -9223372036854775808 ≤ (r.length : Int) + 3) (by omega), decide_eq_true (by omega)]
    simp only [bindF, if_true]
theorem scan_loop : ∀ (l : List Bs) (k : Nat) (A : Bs) (l2 : List Bs) (f : Nat), (∀ r ∈ l, r.length ≤ 64) → k ≤ (cat l).length → A.length + k ≤ 9223372036854775807 → l2.length + l.length ≤ 68719476736 → l.length < f →
    loopM (γ := Unit) (log_Scan_b1 (A ++ (cat l).take k)) f (l2, (A.length : Int)) = some (.nx (l2 ++ l.take (whole_ l k), ((A.length + (cat (l.take (whole_ l k))).length : Nat) : Int)))
  | [], k, A, l2, f, hr, hk, hA, h2, hf => by
    obtain ⟨f, rfl⟩ : ∃ g, f = g + 1 := ⟨f - 1, by simp at hf; omega⟩
    unfold loopM
    have : log_Scan_b1 (A ++ (cat []).take k) (l2, (A.length : Int)) = some (.br (l2, (A.length : Int))) := by
      unfold log_Scan_b1
      dsimp only
      rw [if_neg (by rw [decide_eq_true_eq]; simp [cat])]
    rw [this]
    simp [cat, whole_]
  | r :: l, k, A, l2, f, hr, hk, hA, h2, hf => by
    obtain ⟨f, rfl⟩ : ∃ g, f = g + 1 := ⟨f - 1, by simp at hf; omega⟩
    have hrl := hr r (by simp)
    have hfl := fr_len r
    have hk' : k ≤ r.length + 3 + (cat l).length := by simpa [cat, fr_len] using hk
    have h2' : l2.length + (l.length + 1) ≤ 68719476736 := by simpa using h2
    have hf' : l.length < f := by simpa using hf
    unfold loopM
    by_cases hw : r.length + 3 ≤ k
    · have e1 : (cat (r :: l)).take k = fr r ++ (cat l).take (k - (r.length + 3)) := by
        rw [cat, List.take_append, List.take_of_length_le (by omega), fr_len]
      rw [e1, scan_step hrl l2 (by simp only [List.length_append, List.length_take]; omega) (by omega)]
      dsimp only
      have ih := scan_loop l (k - (r.length + 3)) (A ++ fr r) (l2 ++ [r]) f (fun x hx => hr x (by simp [hx])) (by omega) (by rw [List.length_append]; omega) (by simp; omega) hf'
      rw [List.length_append, fr_len, List.append_assoc] at ih
      rw [ih]
      have e2 : whole_ (r :: l) k = whole_ l (k - (r.length + 3)) + 1 := by rw [whole_, if_pos hw]
      rw [e2, List.take_succ_cons, cat, List.length_append, fr_len, Nat.add_assoc, List.append_assoc]; rfl
    · have e1 : (cat (r :: l)).take k = (fr r).take k := by
        rw [cat, List.take_append_of_le_length (by omega)]
      rw [e1, scan_stop hrl l2 (by omega) (by omega)]
      have e2 : whole_ (r :: l) k = 0 := by rw [whole_, if_neg hw]
      rw [e2]; simp [cat]
theorem scan_ok {l : List Bs} {k : Nat} (hr : ∀ r ∈ l, r.length ≤ 64) (hk : k ≤ (cat l).length) (hl : l.length < 4194304) : log_Scan_m ((cat l).take k) = some (l.take (whole_ l k), ((cat (l.take (whole_ l k))).length : Int)) := by
  have hc : ∀ l : List Bs, (∀ r ∈ l, r.length ≤ 64) → (cat l).length ≤ 67 * l.length := by
    intro l
    induction l with
    | nil => intro _; simp [cat]
    | cons r l ih =>
      intro h
      have := ih fun x hx => h x (by simp [hx])
      have := h r (by simp)
      simp only [cat, List.length_append, fr_len, List.length_cons]; omega
  have := hc l hr
  have := scan_loop l k [] [] 4194304 hr hk (by simp only [List.length_nil]; omega) (by simp only [List.length_nil]; omega) hl
  unfold log_Scan_m
  rw [List.nil_append, List.length_nil, List.nil_append, Nat.zero_add] at this
  rw [show (0 : Int) = ((0 : Nat) : Int) from rfl, this]; rfl
theorem whole_all : ∀ (l : List Bs), whole_ l (cat l).length = l.length
  | [] => rfl
  | r :: l => by
    rw [whole_, cat, List.length_append, fr_len, if_pos (by omega), show r.length + 3 + (cat l).length - (r.length + 3) = (cat l).length by omega, whole_all l]; rfl
theorem append_ok (l : List Bs) (safe : Int) (r : Bs) (hd : (cat l).length ≤ 4000) : log_Log_Append_m (cat l, safe) r = some (if r.length ≤ 64 then (if (cat l).length + (r.length + 3) ≤ 4000 then (0, (cat (l ++ [r]), safe)) else (8, (cat l, safe))) else (2, (cat l, safe))) := by
  unfold log_Log_Append_m
  rw [frame_ok, Option.bind_some]
  by_cases h : r.length ≤ 64
  · rw [if_pos h, if_pos h]
    dsimp only
    have hfl := fr_len r
    rw [if_neg (by decide), wadd_of (by omega) (by omega)]
    by_cases hb : (cat l).length + (r.length + 3) ≤ 4000
    · rw [if_neg (by rw [decide_eq_true_eq]; omega), if_pos hb, chk_t (by omega), Option.bind_some, cat_snoc]
    · rw [if_pos (by rw [decide_eq_true_eq]; omega), if_neg hb]
  · rw [if_neg h, if_neg h]; rfl
end Go.Pu
set_option linter.all false
namespace Go.Pu
open Go.Fw Go.Mo
theorem whole_ge : ∀ (l : List Bs) (s k : Nat), s ≤ l.length → (cat (l.take s)).length ≤ k → s ≤ whole_ l k
  | [], s, k, hs, _ => by simp at hs; omega
  | r :: l, 0, k, _, _ => Nat.zero_le _
  | r :: l, s + 1, k, hs, hk => by
    rw [List.take_succ_cons, cat, List.length_append, fr_len] at hk
    have := whole_ge l s (k - (r.length + 3)) (by simpa using hs) (by omega)
    rw [whole_, if_pos (by omega)]; omega
theorem cat_take_le : ∀ (l : List Bs) (s : Nat), (cat (l.take s)).length ≤ (cat l).length
  | [], s => by simp
  | r :: l, 0 => by simp [cat]
  | r :: l, s + 1 => by
    have := cat_take_le l s
    rw [List.take_succ_cons, cat, cat, List.length_append, List.length_append]; omega
theorem cat_take : ∀ (l : List Bs) (k : Nat), k ≤ (cat l).length → (cat (l.take (whole_ l k))).length ≤ k ∧ ((cat l).take k).take (cat (l.take (whole_ l k))).length = cat (l.take (whole_ l k))
  | [], k, _ => by simp [cat, whole_]
  | r :: l, k, hk => by
    have hfl := fr_len r
    by_cases hw : r.length + 3 ≤ k
    · have hk' : k - (r.length + 3) ≤ (cat l).length := by rw [cat, List.length_append, fr_len] at hk; omega
      obtain ⟨h1, h2⟩ := cat_take l (k - (r.length + 3)) hk'
      rw [whole_, if_pos hw, List.take_succ_cons, cat, List.length_append, fr_len]
      refine ⟨by omega, ?_⟩
      have e1 : (fr r ++ cat l).take k = fr r ++ (cat l).take (k - (r.length + 3)) := by
        rw [List.take_append, List.take_of_length_le (l := fr r) (by omega), fr_len]
      rw [cat, e1, List.take_append, List.take_of_length_le (l := fr r) (by omega), fr_len, show r.length + 3 + (cat (l.take (whole_ l (k - (r.length + 3))))).length - (r.length + 3) = (cat (l.take (whole_ l (k - (r.length + 3))))).length by omega, h2]
    · rw [whole_, if_neg hw]; simp [cat]
theorem all_ok (l : List Bs) (safe : Int) (hr : ∀ r ∈ l, r.length ≤ 64) (hd : (cat l).length ≤ 4000) : log_Log_All_m (cat l, safe) = some l := by
  have h3 := cat_len l
  have := scan_ok (k := (cat l).length) hr (Nat.le_refl _) (by omega)
  rw [List.take_length, whole_all, List.take_length] at this
  unfold log_Log_All_m
  dsimp only
  rw [this]; rfl
theorem crash_ok (l : List Bs) (s : Nat) (k : Int) (hr : ∀ r ∈ l, r.length ≤ 64) (hd : (cat l).length ≤ 4000) (hs : s ≤ l.length) : log_Log_Crash_m (cat l, ((cat (l.take s)).length : Int)) k = some (1, (cat l, ((cat (l.take s)).length : Int))) ∨ ∃ w, s ≤ w ∧ w ≤ l.length ∧ log_Log_Crash_m (cat l, ((cat (l.take s)).length : Int)) k = some (0, (cat (l.take w), ((cat (l.take w)).length : Int))) := by
  have hle := cat_take_le l s
  have h3 := cat_len l
  unfold log_Log_Crash_m
  dsimp only
  by_cases h0 : k < 0
  · left; rw [if_pos (by rw [decide_eq_true_eq]; exact h0)]; simp [bindR]
  · rw [if_neg (by rw [decide_eq_true_eq]; exact h0), wsub_of (by omega) (by omega)]
    by_cases h1 : k > ((cat l).length : Int) - ((cat (l.take s)).length : Int)
    · left; rw [decide_eq_true h1]; simp [bindR]
    · right
      rw [decide_eq_false h1]
      simp only [bindR, Bool.false_eq_true, if_false]
      rw [wadd_of (by omega) (by omega), chk_t ⟨by omega, by omega⟩, Option.bind_some, List.drop_zero]
      obtain ⟨K, hK⟩ : ∃ K : Nat, ((cat (l.take s)).length : Int) + k = K := ⟨(((cat (l.take s)).length : Int) + k).toNat, by omega⟩
      rw [hK, Int.toNat_natCast, scan_ok hr (by omega) (by omega), Option.bind_some]
      dsimp only
      obtain ⟨q1, q2⟩ := cat_take l K (by omega)
      refine ⟨whole_ l K, whole_ge l s K hs (by omega), whole_le l K, ?_⟩
      rw [chk_t ⟨by rw [List.length_take]; omega, by omega⟩, Option.bind_some, List.drop_zero, Int.toNat_natCast, q2]
end Go.Pu
set_option linter.all false
namespace Go.Pu
open Go.Fw Go.Mo
end Go.Pu
set_option linter.all false
namespace Go.Pu
open Go.Fw Go.Mo
end Go.Pu
set_option linter.all false
namespace Go.Pu
open Go.Fw Go.Mo
end Go.Pu
set_option linter.all false
namespace Go.Pu
open Go.Fw Go.Mo
end Go.Pu
set_option linter.all false
namespace Go.Pu
open Go.Fw Go.Mo
theorem cancel_le {a b c : Int} (hc : 0 < c) (h : a * c ≤ b * c) : a ≤ b := Int.le_of_mul_le_mul_right h hc
theorem cancel_lt {a b c : Int} (hc : 0 < c) (h : a * c < b * c) : a < b := Int.lt_of_mul_lt_mul_right h (by omega)
theorem mul_le {a b c : Int} (hc : 0 ≤ c) (h : a ≤ b) : a * c ≤ b * c := Int.mul_le_mul_of_nonneg_right h hc
theorem mul_lt {a b c : Int} (hc : 0 < c) (h : a < b) : a * c < b * c := Int.mul_lt_mul_of_pos_right h hc
theorem ratio_max {u w : Nat → Int} : ∀ {n : Nat}, (∀ k, k < n → u k ≤ 0 → 0 < w k) → (∃ k, k < n ∧ u k ≤ 0) → ∃ i, i < n ∧ u i ≤ 0 ∧ ∀ k, k < n → u k ≤ 0 → u i * w k ≤ u k * w i
  | n + 1, hw, ⟨k0, hk0, hu0⟩ => by
    by_cases ex : ∃ k, k < n ∧ u k ≤ 0
    · obtain ⟨i, hi, hui, hb⟩ := ratio_max (u := u) (w := w) (n := n) (fun k hk => hw k (by omega)) ex
      by_cases hn : u n ≤ 0
      · by_cases hc : u i * w n ≤ u n * w i
        · refine ⟨i, by omega, hui, fun k hk hku => ?_⟩
          by_cases e : k = n
          · subst e; exact hc
          · exact hb k (by omega) hku
        · refine ⟨n, by omega, hn, fun k hk hku => ?_⟩
          by_cases e : k = n
          · subst e; exact Int.le_refl _
          · have h1 := hb k (by omega) hku
            have wi := hw i (by omega) hui
            have wk := hw k hk hku
            have wn := hw n (by omega) hn
            refine cancel_le wi ?_
            have a1 := mul_le (show 0 ≤ w n by omega) h1
            have a2 := mul_le (show 0 ≤ w k by omega) (show u n * w i ≤ u i * w n by omega)
            grind
      · exact ⟨i, by omega, hui, fun k hk hku => by
          by_cases e : k = n
          · subst e; exact absurd hku hn
          · exact hb k (by omega) hku⟩
    · have e : k0 = n := by
        by_cases e : k0 = n
        · exact e
        · exact absurd ⟨k0, by omega, hu0⟩ ex
      subst e
      exact ⟨k0, by omega, hu0, fun k hk hku => by
        by_cases e : k = k0
        · subst e; exact Int.le_refl _
        · exact absurd ⟨k, by omega, hku⟩ ex⟩
theorem pos_of_mul {a b : Int} (hb : 0 ≤ b) (h : 0 < a * b) : 0 < a := by
  rcases Int.lt_or_le 0 a with h' | h'
  · exact h'
  · have := mul_le hb h'; omega
theorem cross {u w : Nat → Int} {n : Nat} {p r : Int} (hp : 0 ≤ p) (hr : 0 ≤ r) (hx : ∀ k, k < n → 0 < w k * p + u k * r) (hu : ∃ k, k < n ∧ u k ≤ 0) (hw : ∃ k, k < n ∧ w k ≤ 0) :
    ∃ i j, i < n ∧ j < n ∧ 0 < u j - u i ∧ 0 < w i - w j ∧ ∀ k, k < n → 0 < w k * (u j - u i) + u k * (w i - w j) := by
  have pu : ∀ k, k < n → u k ≤ 0 → 0 < w k := fun k hk h => by
    have h1 := hx k hk
    have h2 := mul_le hr h
    exact pos_of_mul hp (by omega)
  have pw : ∀ k, k < n → w k ≤ 0 → 0 < u k := fun k hk h => by
    have h1 := hx k hk
    have h2 := mul_le hp h
    exact pos_of_mul hr (by omega)
  obtain ⟨i, hi, ui, bi⟩ := ratio_max pu hu
  obtain ⟨j, hj, wj, bj⟩ := ratio_max (u := w) (w := u) pw hw
  have wi := pu i hi ui
  have uj := pw j hj wj
  have main : u i * w j < w i * u j := by
    have h1 := hx i hi
    have h2 := hx j hj
    rcases Int.lt_or_le 0 p with hp' | hp'
    · rcases Int.lt_or_le 0 r with hr' | hr'
      · have a1 : (- (u i)) * r < w i * p := by rw [Int.neg_mul]; omega
        have a2 : (- (w j)) * p < u j * r := by rw [Int.neg_mul]; omega
        have b1 : (- (u i)) * r * ((- (w j)) * p) ≤ w i * p * ((- (w j)) * p) := mul_le (Int.mul_nonneg (by omega) hp) (by omega)
        have b2 : (- (w j)) * p * (w i * p) < u j * r * (w i * p) := mul_lt (Int.mul_pos wi hp') a2
        have b3 : u i * w j * (p * r) < w i * u j * (p * r) := by grind
        exact cancel_lt (Int.mul_pos hp' hr') b3
      · have : r = 0 := by omega
        subst this
        have : w j * p ≤ 0 * p := mul_le hp wj
        rw [Int.mul_zero] at h2; omega
    · have : p = 0 := by omega
      subst this
      have : u i * r ≤ 0 * r := mul_le hr ui
      rw [Int.mul_zero] at h1; omega
  refine ⟨i, j, hi, hj, by omega, by omega, fun k hk => ?_⟩
  have ei : w i * (u j - u i) + u i * (w i - w j) = w i * u j - u i * w j := by grind
  have ej : w j * (u j - u i) + u j * (w i - w j) = w i * u j - u i * w j := by grind
  rcases Int.lt_or_le 0 (u k) with huk | huk
  · rcases Int.lt_or_le 0 (w k) with hwk | hwk
    · have a := Int.mul_pos hwk (show 0 < u j - u i by omega)
      have b := Int.mul_pos huk (show 0 < w i - w j by omega)
      omega
    · have hb := bj k hk hwk
      refine cancel_lt uj ?_
      have a1 := mul_le (show 0 ≤ u j - u i by omega) hb
      have a2 := Int.mul_pos (show 0 < u k from huk) (show 0 < w i * u j - u i * w j by omega)
      rw [Int.zero_mul]
      grind
  · have hb := bi k hk huk
    have hwk := pu k hk huk
    refine cancel_lt wi ?_
    have a1 := mul_le (show 0 ≤ w i - w j by omega) hb
    have a2 := Int.mul_pos hwk (show 0 < w i * u j - u i * w j by omega)
    rw [Int.zero_mul]
    grind
end Go.Pu
set_option linter.all false
namespace Go.Pu
open Go.Fw Go.Mo
theorem rt_code {d : Deal} (h : ShortD d) : rt d ≠ 4 := by
  have : Ok (ledger_Right_m d) (fun e => e ≠ 4) := by
    unfold ledger_Right_m
    rw [named_ok h.1, named_ok h.2]
    simp only [Option.bind_some, ok_bindR, ok_ite, ok_some, flok_nx]
    simp
  obtain ⟨e, he, hf⟩ := this
  have : rt d = e := by unfold rt; rw [he]; rfl
  omega
theorem checkQ_code {l : List Deal} (hs : ∀ d ∈ l, ShortD d) : Ok (queue_Check_m l) (fun e => e ≠ 4) := by
  unfold queue_Check_m
  by_cases h20 : (l.length : Int) > 20
  · rw [if_pos (by rw [decide_eq_true_eq]; exact h20), ok_some]; decide
  · rw [if_neg (by rw [decide_eq_true_eq]; exact h20), ok_bindR]
    refine ok_rangeL (fun _ _ => True) trivial (fun k d t hk _ => ?_) fun t _ => by rw [ok_some]; decide
    obtain ⟨hd, hkl⟩ := nth_of hk
    have hsd := hs d (List.mem_of_getElem? hk)
    unfold queue_Check_b1
    rw [right_ok hsd, Option.bind_some]
    by_cases hr : rt d = 0
    · rw [if_neg (by rw [bne_iff_ne]; exact fun h => h hr), chk_t (by omega), Option.bind_some, findQ_ok, Option.bind_some]
      simp only [ok_ite, ok_some, flok_rt, flok_nx]
      exact ⟨fun _ => by decide, fun _ => trivial⟩
    · rw [if_pos (by rw [bne_iff_ne]; exact hr), ok_some, flok_rt]; exact rt_code hsd
theorem checkA_code {l : List Acct} (hs : ShortA l) : Ok (ledger_Check_m l) (fun e => e ≠ 4) := by
  unfold ledger_Check_m
  by_cases h6 : (l.length : Int) > 6
  · rw [if_pos (by rw [decide_eq_true_eq]; exact h6), ok_some]; decide
  · rw [if_neg (by rw [decide_eq_true_eq]; exact h6), ok_bindR]
    refine ok_rangeL (fun _ _ => True) trivial (fun k a t hk _ => ?_) fun t _ => by rw [ok_some]; decide
    obtain ⟨ha, hkl⟩ := nth_of hk
    unfold ledger_Check_b1
    rw [named_ok (hs a (List.mem_of_getElem? hk)), Option.bind_some, ok_bindF]
    have fin : ∀ b : Bool, Ok (if b = true then some (Fl.rt (3 : Int)) else bindF (ρ := Int) (β := Unit) (σ := Bool) (if decide (a.2.1 < (0 : Int)) then some (.nx true) else (if decide (a.2.1 > (1000000 : Int)) then some (.nx true) else (if decide (a.2.2 < (0 : Int)) then some (.nx true) else some (.nx (decide (a.2.2 > (1000000 : Int))))))) fun x121 => (if x121 then some (.rt (1 : Int)) else some (.nx ()))) (FlOk (fun (_ : Unit) => True) (fun _ => False) (fun e => e ≠ 4)) := fun b => by
      simp only [ok_ite, ok_some, ok_bindF, flok_nx, flok_rt]
      simp
    by_cases hn : nm a.1 = true
    · rw [if_neg (by simp [hn])]
      by_cases hk0 : (k : Int) > 0
      · rw [if_pos (by rw [decide_eq_true_eq]; exact hk0), wsub_of (by omega) (by omega), show (k : Int) - 1 = ((k - 1 : Nat) : Int) by omega, idx_nat, nth_at (by omega), Option.bind_some, ok_some, flok_nx]
        exact (fin _).fl (fun _ h => h) (fun _ h => h.elim) (fun _ h => h)
      · rw [if_neg (by rw [decide_eq_true_eq]; exact hk0), ok_some, flok_nx]
        exact (fin _).fl (fun _ h => h) (fun _ h => h.elim) (fun _ h => h)
    · rw [if_pos (by simpa using hn), ok_some, flok_nx]
      exact (fin _).fl (fun _ h => h) (fun _ h => h.elim) (fun _ h => h)
def tk (l : List Acct) (d : Deal) (t : List UInt8) : List Acct × Int := (ledger_Take_m l d t).getD ([], 1)
theorem tk_ok {l : List Acct} {d : Deal} {t : List UInt8} (hs : ShortA l) (hd : ShortD d) : ledger_Take_m l d t = some (tk l d t) ∧ Took l d t (tk l d t) := by
  obtain ⟨p, e, hp⟩ := take_ok (t := t) hs hd
  have : tk l d t = p := by unfold tk; rw [e]; rfl
  rw [this]; exact ⟨e, hp⟩
theorem tk_yes {l : List Acct} {d : Deal} {t : List UInt8} (hs : ShortA l) (hd : ShortD d) (h0 : (tk l d t).2 = 0) : ∃ i j k, Accts l ∧ rt d = 0 ∧ i < l.length ∧ j < l.length ∧ k < l.length ∧ (nth l i).1 = d.1 ∧ (nth l j).1 = d.2.1 ∧ (nth l k).1 = t ∧ d.2.2.1 = (nth l i).2.2 ∧ d.2.2.2.1 + d.2.2.2.2.1 ≤ (nth l i).2.1 ∧ Moved l i j k d.2.2.2.1 d.2.2.2.2.1 (tk l d t).1 ∧ Accts (tk l d t).1 := by
  have h := (tk_ok (t := t) hs hd).2
  generalize tk l d t = p at *
  cases h with
  | no e he => exact absurd h0 he
  | yes i j k m hA hr hi hj hk ei ej ek hn hp hm hA' => exact ⟨i, j, k, hA, hr, hi, hj, hk, ei, ej, ek, hn, hp, hm, hA'⟩
def moneyS (l : List Acct) : Int := sumN l.length fun q => (nth l q).2.1
theorem Moved.money {l m : List Acct} {i j k : Nat} {a b : Int} (h : Moved l i j k a b m) (hi : i < l.length) (hj : j < l.length) (hk : k < l.length) : moneyS m = moneyS l := by
  unfold moneyS
  rw [h.len]
  have : sumN l.length (fun q => (nth m q).2.1) = sumN l.length (fun q => (nth l q).2.1 - (if q = i then a + b else 0) + (if q = j then a else 0) + (if q = k then b else 0)) := sumN_congr fun q hq => by rw [h.at_ q hq]
  rw [this, sumN_add, sumN_add, sumN_sub, sumN_single hi, sumN_single hj, sumN_single hk]
  omega
def good (x0 : List Deal) (l : List Acct) (t : List UInt8) (room : Int) (i : Nat) : Prop := (nth x0 i).2.2.2.2.2 ≤ room ∧ (tk l (nth x0 i) t).2 = 0
def fee (x0 : List Deal) (i : Nat) : Int := (nth x0 i).2.2.2.2.1
def size (x0 : List Deal) (i : Nat) : Int := (nth x0 i).2.2.2.2.2
inductive Nexted (x0 : List Deal) (l : List Acct) (t : List UInt8) (room : Int) : Int × Int → Prop
  | no (e : Int) : e ≠ 0 → e ≠ 4 → ¬ (Queue x0 ∧ Accts l ∧ 0 ≤ room ∧ room ≤ 1000) → Nexted x0 l t room (0, e)
  | none : Queue x0 → Accts l → 0 ≤ room → room ≤ 1000 → (∀ i, i < x0.length → ¬ good x0 l t room i) → Nexted x0 l t room (0, 4)
  | some (k : Nat) : Queue x0 → Accts l → 0 ≤ room → room ≤ 1000 → k < x0.length → good x0 l t room k → (∀ i, i < x0.length → good x0 l t room i → fee x0 i * size x0 k ≤ fee x0 k * size x0 i ∧ (i < k → fee x0 i * size x0 k < fee x0 k * size x0 i)) → Nexted x0 l t room (k, 0)
theorem ratio_step {fi si fb sb fk sk : Int} (h1 : fi * sb ≤ fb * si) (h2 : fb * sk < fk * sb) (hi : 1 ≤ si) (hb : 1 ≤ sb) (hk : 1 ≤ sk) : fi * sk < fk * si := by
  have a1 := mul_le (c := sk) (by omega) h1
  have a2 := mul_lt (c := si) (by omega) h2
  refine cancel_lt (c := sb) (by omega) ?_
  have e1 : fi * sk * sb = fi * sb * sk := by rw [Int.mul_assoc, Int.mul_comm sk, ← Int.mul_assoc]
  have e2 : fk * si * sb = fk * sb * si := by rw [Int.mul_assoc, Int.mul_comm si, ← Int.mul_assoc]
  have e3 : fb * si * sk = fb * sk * si := by rw [Int.mul_assoc, Int.mul_comm si, ← Int.mul_assoc]
  omega
theorem next_ok {x0 : List Deal} {l : List Acct} {t : List UInt8} {room : Int} (hs : ∀ d ∈ x0, ShortD d) (ha : ShortA l) : Ok (pick_Next_m x0 l t room) (Nexted x0 l t room) := by
  obtain ⟨e, he, hq⟩ := checkQ_ok hs
  obtain ⟨e1, he1, hc⟩ := checkQ_code hs
  rw [he] at he1; cases he1
  obtain ⟨f, hf, hA⟩ := checkA_ok ha
  obtain ⟨f1, hf1, hd⟩ := checkA_code ha
  rw [hf] at hf1; cases hf1
  unfold pick_Next_m
  rw [he, Option.bind_some]
  by_cases h0 : e = 0
  · have hQ := hq.1 h0
    rw [if_neg (by rw [bne_iff_ne]; exact fun h => h h0), hf, Option.bind_some]
    by_cases h1 : f = 0
    · have hAl := hA.1 h1
      rw [if_neg (by rw [bne_iff_ne]; exact fun h => h h1)]
      by_cases hr : 0 ≤ room ∧ room ≤ 1000
      · rw [if_neg (by rw [decide_eq_true_eq]; omega), ok_bindR, ok_some, flok_nx, if_neg (by rw [decide_eq_true_eq]; omega), ok_bindR]
        have szs : ∀ i, i < x0.length → (0 ≤ fee x0 i ∧ fee x0 i ≤ 1000000) ∧ 1 ≤ size x0 i ∧ size x0 i ≤ 100 := fun i hi => by
          have := rt_facts (hs _ (nth_mem hi)) (hQ.right _ (nth_mem hi))
          exact ⟨this.2.2.1, this.2.2.2.1⟩
        refine ok_rangeL (fun k (b : Int) => (b = -1 ∧ ∀ i, i < k → ¬ good x0 l t room i) ∨ ∃ q : Nat, b = (q : Int) ∧ q < k ∧ good x0 l t room q ∧ ∀ i, i < k → good x0 l t room i → fee x0 i * size x0 q ≤ fee x0 q * size x0 i ∧ (i < q → fee x0 i * size x0 q < fee x0 q * size x0 i)) (.inl ⟨rfl, fun i hi => by omega⟩) (fun k d b hk hI => ?_) fun b hb => ?_
        · obtain ⟨hdk, hkl⟩ := nth_of hk
          have hsd := hs d (List.mem_of_getElem? hk)
          have htk := tk_ok (t := t) ha hsd
          have skip : ¬ good x0 l t room k → Ok (some (Fl.nx (ρ := Int × Int) (β := Int) b)) (FlOk (fun (b : Int) => (b = -1 ∧ ∀ i, i < k + 1 → ¬ good x0 l t room i) ∨ ∃ q : Nat, b = (q : Int) ∧ q < k + 1 ∧ good x0 l t room q ∧ ∀ i, i < k + 1 → good x0 l t room i → fee x0 i * size x0 q ≤ fee x0 q * size x0 i ∧ (i < q → fee x0 i * size x0 q < fee x0 q * size x0 i)) (fun _ => False) (fun _ => False)) := fun hg => by
            rw [ok_some, flok_nx]
            rcases hI with ⟨rfl, h⟩ | ⟨q, rfl, hqk, hgq, h⟩
            · refine .inl ⟨rfl, fun i hi => ?_⟩
              by_cases e : i = k
              · subst e; exact hg
              · exact h i (by omega)
            · refine .inr ⟨q, rfl, by omega, hgq, fun i hi hgi => ?_⟩
              by_cases e : i = k
              · subst e; exact absurd hgi hg
              · exact h i (by omega) hgi
          unfold pick_Next_b1
          by_cases hz : d.2.2.2.2.2 > room
          · rw [if_pos (by rw [decide_eq_true_eq]; exact hz)]
            exact (skip fun h => by unfold good at h; rw [hdk] at h; omega).fl (fun _ h => h) (fun _ h => h.elim) (fun _ h => h.elim)
          · rw [if_neg (by rw [decide_eq_true_eq]; exact hz), htk.1, Option.bind_some]
            by_cases ht : (tk l d t).2 = 0
            · have hgk : good x0 l t room k := ⟨by rw [hdk]; omega, by rw [hdk]; exact ht⟩
              rw [if_neg (by rw [bne_iff_ne]; exact fun h => h ht), ok_bindF]
              rcases hI with ⟨rfl, h⟩ | ⟨q, rfl, hqk, hgq, h⟩
              · rw [if_pos (by decide), ok_some, flok_nx, if_pos rfl, ok_some, flok_nx]
                refine .inr ⟨k, rfl, by omega, hgk, fun i hi hgi => ?_⟩
                by_cases e : i = k
                · subst e; exact ⟨Int.le_refl _, fun h => by omega⟩
                · exact absurd hgi (h i (by omega))
              · have hql : q < x0.length := by omega
                have sq := szs q hql; have sk := szs k hkl
                have efk : d.2.2.2.2.1 = fee x0 k := by unfold fee; rw [hdk]
                have esk : d.2.2.2.2.2 = size x0 k := by unfold size; rw [hdk]
                have m1 := mul_le (c := size x0 q) (by omega) sk.1.2
                have m2 := mul_le (c := size x0 q) (by omega) sk.1.1
                have m3 := mul_le (c := size x0 k) (by omega) sq.1.2
                have m4 := mul_le (c := size x0 k) (by omega) sq.1.1
                rw [if_neg (by rw [decide_eq_true_eq]; omega), idx_nat, nth_at hql, Option.bind_some, Option.bind_some, ok_some, flok_nx]
                have e1 : (nth x0 q).2.2.2.2.2 = size x0 q := rfl
                have e2 : (nth x0 q).2.2.2.2.1 = fee x0 q := rfl
                rw [e1, e2, efk, esk, wmul_of (by omega) (by omega), wmul_of (by omega) (by omega)]
                by_cases hgt : fee x0 k * size x0 q > fee x0 q * size x0 k
                · rw [if_pos (by rw [decide_eq_true_eq]; exact hgt), ok_some, flok_nx]
                  refine .inr ⟨k, rfl, by omega, hgk, fun i hi hgi => ?_⟩
                  by_cases e : i = k
                  · subst e; exact ⟨Int.le_refl _, fun h => by omega⟩
                  · have si := szs i (by omega)
                    have := ratio_step (h i (by omega) hgi).1 hgt (by omega) (by omega) (by omega)
                    exact ⟨by omega, fun _ => this⟩
                · rw [if_neg (by rw [decide_eq_true_eq]; exact hgt), ok_some, flok_nx]
                  refine .inr ⟨q, rfl, by omega, hgq, fun i hi hgi => ?_⟩
                  by_cases e : i = k
                  · subst e; exact ⟨by omega, fun h => by omega⟩
                  · exact h i (by omega) hgi
            · rw [if_pos (by rw [bne_iff_ne]; exact ht)]
              exact (skip fun h => by unfold good at h; rw [hdk] at h; exact ht h.2).fl (fun _ h => h) (fun _ h => h.elim) (fun _ h => h.elim)
        · rcases hb with ⟨rfl, h⟩ | ⟨q, rfl, hqk, hgq, h⟩
          · rw [if_pos (by decide), ok_some]; exact .none hQ hAl hr.1 hr.2 h
          · rw [if_neg (by rw [decide_eq_true_eq]; omega), ok_some]; exact .some q hQ hAl hr.1 hr.2 hqk hgq h
      · have : (if decide (room < (0 : Int)) then some (Fl.nx (ρ := Int × Int) (β := Unit) true) else some (.nx (decide (room > (1000 : Int))))) = some (.nx true) := by
          by_cases h : room < 0
          · rw [if_pos (by rw [decide_eq_true_eq]; exact h)]
          · rw [if_neg (by rw [decide_eq_true_eq]; exact h), decide_eq_true (by omega)]
        rw [this, ok_bindR, ok_some, flok_nx, if_pos rfl, ok_some]
        exact .no 1 (by decide) (by decide) fun h => hr ⟨h.2.2.1, h.2.2.2⟩
    · rw [if_pos (by rw [bne_iff_ne]; exact h1), ok_some]; exact .no _ h1 hd fun h => h1 (hA.2 h.2.1)
  · rw [if_pos (by rw [bne_iff_ne]; exact h0), ok_some]; exact .no _ h0 hc fun h => h0 (hq.2 h.1)
def runL (x0 : List Deal) (t : List UInt8) (l : List Acct) (ks : List Int) : List Acct := ks.foldl (fun l k => (tk l (nth x0 k.toNat) t).1) l
def sizes (x0 : List Deal) (ks : List Int) : Int := sumN ks.length fun j => size x0 (nth ks j).toNat
structure Built (x0 : List Deal) (l : List Acct) (t : List UInt8) (room : Int) (ks : List Int) (left : Int) (out : List Acct) : Prop where
  len : (ks.length : Int) ≤ room - left
  idx : ∀ j, j < ks.length → 0 ≤ nth ks j ∧ nth ks j < x0.length
  run : out = runL x0 t l ks
  each : ∀ j, j < ks.length → ShortA (runL x0 t l (ks.take j)) ∧ (tk (runL x0 t l (ks.take j)) (nth x0 (nth ks j).toNat) t).2 = 0
  lft : left = room - sizes x0 ks
  lo : 0 ≤ left
  accts : Accts out
  short : ShortA out
  past : ∀ j, j < ks.length → ∀ i, i < out.length → (nth out i).1 = (nth x0 (nth ks j).toNat).1 → (nth x0 (nth ks j).toNat).2.2.1 < (nth out i).2.2
  nodup : ∀ i j, i < j → j < ks.length → nth ks i ≠ nth ks j
  money : moneyS out = moneyS l
theorem build_ok {x0 : List Deal} {l : List Acct} {t : List UInt8} {room : Int} (hs : ∀ d ∈ x0, ShortD d) (ha : ShortA l) :
    Ok (pick_Build_m x0 l t room) (fun p => (p.2.2 ≠ 0 ∧ p.1 = [] ∧ p.2.1 = []) ∨ (p.2.2 = 0 ∧ Accts l ∧ 0 ≤ room ∧ room ≤ 1000 ∧ ∃ left, Built x0 l t room p.1 left p.2.1 ∧ Nexted x0 p.2.1 t left (0, 4))) := by
  unfold pick_Build_m
  rw [ok_bind]
  refine (next_ok hs ha).mono fun p hp => ?_
  have go : Queue x0 → Accts l → 0 ≤ room → room ≤ 1000 → (p.2 = 0 ∨ p.2 = 4) → Ok ((chk ((([] : (List ((List UInt8) × (Int × Int))))).length + (l).length ≤ 68719476736)).bind fun _ => bindR (ρ := (List Int) × (List ((List UInt8) × (Int × Int))) × Int) (β := Unit) (σ := Int × Int × Int × (List ((List UInt8) × (Int × Int))) × (List Int)) (loopM (γ := Unit) (pick_Build_b1 x0 t) 1048576 (room, p.1, p.2, (([] : (List ((List UInt8) × (Int × Int)))) ++ l), [])) fun (x31, x32, x33, l34, l36) => some (l36, l34, (0 : Int))) (fun p => (p.2.2 ≠ 0 ∧ p.1 = [] ∧ p.2.1 = []) ∨ (p.2.2 = 0 ∧ Accts l ∧ 0 ≤ room ∧ room ≤ 1000 ∧ ∃ left, Built x0 l t room p.1 left p.2.1 ∧ Nexted x0 p.2.1 t left (0, 4))) := fun hQ hA r0 r1 hpe => by
    have h6 := hA.len
    have hnx := hp
    rw [chk_t (by simp only [List.length_nil]; omega), Option.bind_some, List.nil_append, ok_bindR]
    refine ok_loopM (fun (s : Int × Int × Int × List Acct × List Int) => Built x0 l t room s.2.2.2.2 s.1 s.2.2.2.1 ∧ Nexted x0 s.2.2.2.1 t s.1 (s.2.1, s.2.2.1) ∧ (s.2.2.1 = 0 ∨ s.2.2.1 = 4)) (fun s => s.1.toNat + 1) (fun s hs' => ?_) _ _ ⟨⟨by simp, fun j hj => by simp at hj, rfl, fun j hj => by simp at hj, by unfold sizes; simp [sumN], r0, hA, ha, fun j hj => by simp at hj, fun i j _ hj => by simp at hj, rfl⟩, hnx, hpe⟩ (by dsimp only; omega)
    obtain ⟨left, k, e, out, ks⟩ := s
    obtain ⟨hB, hN, he⟩ := hs'
    dsimp only at hB hN he
    unfold pick_Build_b1
    dsimp only
    by_cases h0 : e = 0
    · subst h0
      rw [if_pos (by decide)]
      generalize hp2 : (k, (0 : Int)) = p2 at hN
      cases hN with
      | no e he1 he2 => cases hp2; exact absurd rfl he1
      | none => cases hp2
      | some k' hQ' hA' l0 l1 hk hg hbest =>
        cases hp2
        have hsd := hs _ (nth_mem hk)
        have htk := tk_ok (t := t) hB.short hsd
        obtain ⟨i, j, q, _, hr, hi, hj, hq, ei, ej, eq, hn, hpay, hm, hA2⟩ := tk_yes hB.short hsd hg.2
        have hsz := rt_facts hsd hr
        have hsz1 : (nth x0 k').2.2.2.2.2 ≤ left := hg.1
        have hll : ks.length ≤ 1000 := by have := hB.len; omega
        rw [idx_nat, nth_at hk, Option.bind_some, htk.1, Option.bind_some, Option.bind_some, chk_t (by simp only [List.length_cons, List.length_nil]; omega), Option.bind_some, wsub_of (by omega) (by omega), ok_bind]
        have hshort := hm.short hB.short
        have hmlen := hm.len
        refine (next_ok hs hshort).mono fun p' hp' => ?_
        rw [ok_some, flok_nx]
        have nk : ∀ y, nth (ks ++ [(k' : Int)]) y = if y < ks.length then nth ks y else if y = ks.length then (k' : Int) else default := fun y => by
          rw [nth_append]
          by_cases e : y < ks.length
          · rw [if_pos e, if_pos e]
          · rw [if_neg e, if_neg e]
            by_cases e2 : y = ks.length
            · rw [if_pos e2, e2, Nat.sub_self]; rfl
            · rw [if_neg e2]
              unfold nth; rw [List.getD_eq_getElem?_getD, List.getElem?_eq_none (by simp; omega)]; rfl
        have hrun : runL x0 t l (ks ++ [(k' : Int)]) = (tk out (nth x0 k') t).1 := by
          unfold runL
          rw [List.foldl_append]
          show (tk (List.foldl _ l ks) (nth x0 ((k' : Int)).toNat) t).1 = _
          rw [Int.toNat_natCast, ← show out = List.foldl _ l ks from hB.run]
        refine ⟨⟨?_, ?_, ?_⟩, ?_⟩
        · dsimp only
          refine ⟨by have := hB.len; rw [List.length_append, List.length_singleton]; omega, fun y hy => ?_, hrun.symm, fun y hy => ?_, ?_, by omega, hA2, hshort, fun y hy z hz hzn => ?_, fun a b hab hb => ?_, ?_⟩
          · rw [List.length_append, List.length_singleton] at hy
            rw [nk]
            by_cases e : y < ks.length
            · rw [if_pos e]; exact hB.idx y e
            · rw [if_neg e, if_pos (by omega)]; omega
          · rw [List.length_append, List.length_singleton] at hy
            rw [nk]
            by_cases e : y < ks.length
            · rw [if_pos e, List.take_append_of_le_length (by omega)]; exact hB.each y e
            · have : y = ks.length := by omega
              subst this
              rw [if_neg (by omega), if_pos rfl, List.take_left, Int.toNat_natCast, ← hB.run]
              exact ⟨hB.short, hg.2⟩
          · have hleft := hB.lft
            have : sizes x0 (ks ++ [(k' : Int)]) = sizes x0 ks + size x0 k' := by
              unfold sizes
              rw [List.length_append, List.length_singleton]
              simp only [sumN]
              rw [nk, if_neg (by omega), if_pos rfl, Int.toNat_natCast]
              congr 1
              exact sumN_congr fun y hy => by rw [nk, if_pos hy]
            rw [this]; unfold size; omega
          · rw [List.length_append, List.length_singleton] at hy
            rw [nk] at hzn ⊢
            rw [hmlen] at hz
            have hmz := hm.at_ z hz
            rw [hmz] at hzn ⊢
            dsimp only at hzn ⊢
            by_cases e : y < ks.length
            · rw [if_pos e] at hzn ⊢
              have := hB.past y e z hz hzn
              split <;> omega
            · rw [if_neg e, if_pos (by omega), Int.toNat_natCast] at hzn ⊢
              have : z = i := hB.accts.inj hz hi (hzn.trans ei.symm)
              subst this
              rw [if_pos rfl, hn]; omega
          · rw [List.length_append, List.length_singleton] at hb
            rw [nk, nk, if_pos (show a < ks.length by omega)]
            by_cases e : b < ks.length
            · rw [if_pos e]; exact hB.nodup a b hab e
            · rw [if_neg e, if_pos (by omega)]
              intro h
              have := hB.past a (by omega) i hi (by rw [h, Int.toNat_natCast]; exact ei)
              rw [h, Int.toNat_natCast] at this
              omega
          · rw [hm.money hi hj hq, hB.money]
        · dsimp only; exact hp'
        · dsimp only
          cases hp' with
          | no e he1 he2 hno => exact absurd ⟨hQ, hA2, by omega, by omega⟩ hno
          | none => exact .inr rfl
          | some => exact .inl rfl
        · dsimp only; omega
    · have h4 : e = 4 := by omega
      subst h4
      rw [if_neg (by decide), ok_some, flok_br]
      dsimp only
      rw [ok_some]
      refine .inr ⟨rfl, hA, r0, r1, left, hB, ?_⟩
      generalize hp2 : (k, (4 : Int)) = p2 at hN
      cases hN with
      | no e he1 he2 => cases hp2; exact absurd rfl he2
      | none a b c d f => cases hp2; exact .none a b c d f
      | some => cases hp2
  cases hp with
  | no e he1 he2 hno =>
    rw [ok_bindR]
    dsimp only
    rw [if_pos (by rw [bne_iff_ne]; exact he1), ok_some, flok_nx, if_pos (by rw [bne_iff_ne]; exact he2), ok_some]
    exact .inl ⟨he1, rfl, rfl⟩
  | none hQ hA r0 r1 hn =>
    rw [ok_bindR]
    dsimp only
    rw [if_pos (by decide), ok_some, flok_nx, if_neg (by decide)]
    exact go hQ hA r0 r1 (.inr rfl)
  | some k hQ hA r0 r1 hk hg hb =>
    rw [ok_bindR]
    dsimp only
    rw [if_neg (by decide), ok_some, flok_nx, if_neg (by decide)]
    exact go hQ hA r0 r1 (.inl rfl)
end Go.Pu
set_option linter.all false
namespace Go.Pu
open Go.Fw Go.Mo
section
variable {α : Type} {ρ : Type}
structure Weak (lt : α → α → Bool) : Prop where
  asymm : ∀ a b, lt a b = true → lt b a = false
  ntrans : ∀ a b c, lt a b = false → lt b c = false → lt a c = false
structure Sorted (lt : α → α → Bool) (l m : List α) : Prop where
  perm : m.Perm l
  asc : m.Pairwise fun a b => lt b a = false
  stable : ∀ q : α → Bool, (∀ a b, q a = true → q b = true → lt a b = false) → m.filter q = l.filter q
theorem last_of {A : List α} (h : 0 < A.length) : ∃ A' y, A = A' ++ [y] := by
  refine ⟨A.dropLast, A.getLast (List.ne_nil_of_length_pos h), (List.dropLast_concat_getLast _).symm⟩
theorem ins_in {M : α → Prop} {lt : α → α → Bool} (hw : Weak lt) {b2 : List α × Int → Option (Fl ρ (List α × Int) (List α × Int))} {n : Nat}
    (h2 : ∀ (A : List α) (y e : α) (r : List α), (A ++ y :: e :: r).length = n → (∀ x ∈ A ++ y :: e :: r, M x) → b2 (A ++ y :: e :: r, ((A.length + 1 : Nat) : Int)) = if lt e y = true then some (.nx (A ++ e :: y :: r, (A.length : Int))) else some (.br (A ++ y :: e :: r, ((A.length + 1 : Nat) : Int))))
    (h20 : ∀ (e : α) (r : List α), (e :: r).length = n → b2 (e :: r, 0) = some (.br (e :: r, 0))) (hn : n ≤ 1000)
    (A C D : List α) (e : α) (hl : (A ++ e :: (C ++ D)).length = n) (hM : ∀ x ∈ A ++ e :: (C ++ D), M x) (hs : (A ++ C).Pairwise fun a b => lt b a = false) (hC : ∀ c ∈ C, lt e c = true) (f : Nat) (hf : A.length < f) :
    ∃ A' C', loopM (γ := List α × Int) b2 f (A ++ e :: (C ++ D), (A.length : Int)) = some (.nx (A' ++ e :: (C' ++ D), (A'.length : Int))) ∧ A' ++ C' = A ++ C ∧ (∀ c ∈ C', lt e c = true) ∧ ∀ a ∈ A', lt e a = false := by
  induction f generalizing A C with
  | zero => omega
  | succ f ih =>
    unfold loopM
    by_cases h0 : A.length = 0
    · have hA : A = [] := List.eq_nil_of_length_eq_zero h0
      subst hA
      have := h20 e (C ++ D) hl
      refine ⟨[], C, ?_, rfl, hC, fun a ha => by cases ha⟩
      rw [show ((([] : List α).length : Nat) : Int) = 0 from rfl, List.nil_append, this]
    · obtain ⟨A', y, rfl⟩ := last_of (A := A) (by omega)
      have e1 : A' ++ [y] ++ e :: (C ++ D) = A' ++ y :: e :: (C ++ D) := by simp
      have e2 : (A' ++ [y]).length = A'.length + 1 := by simp
      rw [e1] at hl hM ⊢
      rw [e2] at hf ⊢
      rw [h2 A' y e (C ++ D) hl hM]
      by_cases hlt : lt e y = true
      · rw [if_pos hlt]
        have e3 : A' ++ e :: y :: (C ++ D) = A' ++ e :: ((y :: C) ++ D) := by simp
        have e4 : A' ++ (y :: C) = A' ++ [y] ++ C := by simp
        have hl' : (A' ++ e :: ((y :: C) ++ D)).length = n := by rw [← hl]; simp
        have hM' : ∀ x ∈ A' ++ e :: ((y :: C) ++ D), M x := fun x hx => hM x (by simp at hx ⊢; rcases hx with h | h | h | h | h <;> simp [h])
        obtain ⟨A2, C2, q1, q2, q3, q4⟩ := ih A' (y :: C) hl' hM' (by rw [e4]; exact hs) (fun c hc => by
          rcases List.mem_cons.1 hc with rfl | hc
          · exact hlt
          · exact hC c hc) (by omega)
        exact ⟨A2, C2, by rw [e3]; exact q1, by rw [q2, e4], q3, q4⟩
      · rw [if_neg hlt]
        have hlt' : lt e y = false := by simpa using hlt
        refine ⟨A' ++ [y], C, by rw [e1, e2], rfl, hC, fun a ha => ?_⟩
        rcases List.mem_append.1 ha with ha | ha
        · rw [List.append_assoc, List.pairwise_append] at hs
          exact hw.ntrans e y a hlt' (hs.2.2 a ha y (by simp))
        · rw [List.mem_singleton] at ha; subst ha; exact hlt'
theorem sorted_put {lt : α → α → Bool} (hw : Weak lt) {A C : List α} {e : α} (hs : (A ++ C).Pairwise fun a b => lt b a = false) (hC : ∀ c ∈ C, lt e c = true) (hA : ∀ a ∈ A, lt e a = false) : (A ++ e :: C).Pairwise fun a b => lt b a = false := by
  rw [List.pairwise_append] at hs ⊢
  refine ⟨hs.1, List.pairwise_cons.2 ⟨fun c hc => hw.asymm _ _ (hC c hc), hs.2.1⟩, fun a ha b hb => ?_⟩
  rcases List.mem_cons.1 hb with rfl | hb
  · exact hA a ha
  · exact hs.2.2 a ha b hb
theorem filter_put {lt : α → α → Bool} {A C : List α} {e : α} (hC : ∀ c ∈ C, lt e c = true) {q : α → Bool} (hq : ∀ a b, q a = true → q b = true → lt a b = false) : (A ++ e :: C).filter q = (A ++ C).filter q ++ [e].filter q := by
  rw [List.filter_append, List.filter_append, List.filter_cons]
  by_cases he : q e = true
  · have : C.filter q = [] := List.filter_eq_nil_iff.2 fun c hc hqc => by have := hq e c he hqc; rw [hC c hc] at this; cases this
    rw [if_pos he, this]; simp [he]
  · rw [if_neg he]; simp [he]
theorem ins_all {γ : Type} {M : α → Prop} {lt : α → α → Bool} (hw : Weak lt) {b1 b2 : List α × Int → Option (Fl ρ (List α × Int) (List α × Int))} {n : Nat}
    (h2 : ∀ (A : List α) (y e : α) (r : List α), (A ++ y :: e :: r).length = n → (∀ x ∈ A ++ y :: e :: r, M x) → b2 (A ++ y :: e :: r, ((A.length + 1 : Nat) : Int)) = if lt e y = true then some (.nx (A ++ e :: y :: r, (A.length : Int))) else some (.br (A ++ y :: e :: r, ((A.length + 1 : Nat) : Int))))
    (h20 : ∀ (e : α) (r : List α), (e :: r).length = n → b2 (e :: r, 0) = some (.br (e :: r, 0)))
    (h1 : ∀ (l : List α) (k : Nat), k < n → b1 (l, (k : Int)) = bindF (loopM (γ := List α × Int) b2 1048576 (l, (k : Int))) fun s => some (.nx (s.1, ((k + 1 : Nat) : Int))))
    (h1e : ∀ l : List α, b1 (l, (n : Int)) = some (.br (l, (n : Int)))) (hn : n ≤ 1000) :
    ∀ (d k : Nat) (l0 p : List α) (f : Nat), k + d = n → l0.length = n → (∀ x ∈ l0, M x) → Sorted lt (l0.take k) p → d < f → ∃ m, loopM (γ := γ) b1 f (p ++ l0.drop k, (k : Int)) = some (.nx (m, (n : Int))) ∧ Sorted lt l0 m
  | 0, k, l0, p, f, hk, hl, hM, hS, hf => by
    obtain ⟨f, rfl⟩ : ∃ g, f = g + 1 := ⟨f - 1, by omega⟩
    have : k = n := by omega
    subst this
    have e1 : l0.take k = l0 := List.take_of_length_le (by omega)
    have e2 : l0.drop k = [] := List.drop_of_length_le (by omega)
    rw [e1] at hS
    rw [e2, List.append_nil]
    refine ⟨p, ?_, hS⟩
    unfold loopM
    rw [h1e p]
  | d + 1, k, l0, p, f, hk, hl, hM, hS, hf => by
    obtain ⟨f, rfl⟩ : ∃ g, f = g + 1 := ⟨f - 1, by omega⟩
    have hkl : k < l0.length := by omega
    have hpl : p.length = k := by rw [hS.perm.length_eq, List.length_take]; omega
    have hdr : l0.drop k = l0[k] :: l0.drop (k + 1) := List.drop_eq_getElem_cons hkl
    have htk : l0.take (k + 1) = l0.take k ++ [l0[k]] := by rw [List.take_succ, List.getElem?_eq_getElem hkl]; rfl
    unfold loopM
    rw [h1 _ k (by omega), hdr]
    have hlen : (p ++ l0[k] :: ([] ++ l0.drop (k + 1))).length = n := by simp [hpl]; omega
    have hM1 : ∀ x ∈ p ++ l0[k] :: ([] ++ l0.drop (k + 1)), M x := fun x hx => by
      rcases List.mem_append.1 hx with hx | hx
      · exact hM x (List.mem_of_mem_take (hS.perm.mem_iff.1 hx))
      · rw [List.nil_append, ← hdr] at hx; exact hM x (List.mem_of_mem_drop hx)
    obtain ⟨A, C, q1, q2, q3, q4⟩ := ins_in hw h2 h20 hn p [] (l0.drop (k + 1)) l0[k] hlen hM1 (by rw [List.append_nil]; exact hS.asc) (fun c hc => by cases hc) 1048576 (by omega)
    rw [List.append_nil] at q2
    rw [List.nil_append, hpl] at q1
    rw [q1]
    simp only [bindF]
    have hS' : Sorted lt (l0.take (k + 1)) (A ++ l0[k] :: C) := by
      refine ⟨?_, sorted_put hw (by rw [q2]; exact hS.asc) q3 q4, fun q hq => ?_⟩
      · rw [htk]
        have hp : (A ++ C).Perm (l0.take k) := by rw [q2]; exact hS.perm
        refine (List.perm_middle).trans ?_
        refine (List.Perm.cons _ hp).trans ?_
        exact (List.perm_append_singleton _ _).symm
      · rw [filter_put q3 hq, q2, hS.stable q hq, htk, List.filter_append]
    obtain ⟨m, e, hm⟩ := ins_all hw h2 h20 h1 h1e hn d (k + 1) l0 (A ++ l0[k] :: C) f (by omega) hl hM hS' (by omega)
    refine ⟨m, ?_, hm⟩
    rw [show A ++ l0[k] :: (C ++ l0.drop (k + 1)) = A ++ l0[k] :: C ++ l0.drop (k + 1) by simp]
    exact e
theorem idx_snd {A r : List α} {y e : α} : idx (A ++ y :: e :: r) ((A.length + 1 : Nat) : Int) = some e := by
  unfold idx; rw [if_pos (by omega), Int.toNat_natCast, List.getElem?_append_right (by omega), show A.length + 1 - A.length = 1 by omega]; rfl
theorem idx_fst {A r : List α} {y : α} : idx (A ++ y :: r) (A.length : Int) = some y := by
  unfold idx; rw [if_pos (by omega), Int.toNat_natCast, List.getElem?_append_right (by omega), Nat.sub_self]; rfl
theorem set_snd {A r : List α} {y e z : α} : (A ++ y :: e :: r).set (A.length + 1) z = A ++ y :: z :: r := by
  rw [List.set_append_right _ _ (by omega), show A.length + 1 - A.length = 1 by omega]; rfl
theorem set_fst {A r : List α} {y z : α} : (A ++ y :: r).set A.length z = A ++ z :: r := by
  rw [List.set_append_right _ _ (by omega), Nat.sub_self]; rfl
theorem sorted_first {lt : α → α → Bool} {l : List α} (h : 1 ≤ l.length) : Sorted lt (l.take 1) (l.take 1) ∧ (l.take 1).length = 1 := by
  cases l with
  | nil => simp at h
  | cons a l => exact ⟨⟨List.Perm.refl _, by simp, fun q _ => rfl⟩, rfl⟩
end
theorem len_ok : ∀ n : Nat, n ≤ 12 → ∃ k, math_bits_Len_m (IntKind.wrap .u64 (n : Int)) = some k := by
  have h : ∀ n : Nat, n ≤ 12 → (math_bits_Len_m (IntKind.wrap .u64 (n : Int))).isSome = true := by decide +kernel
  intro n hn
  exact Option.isSome_iff_exists.1 (h n hn)
theorem sortFunc_acct {l : List (List UInt8 × Int × Int)} {g : List UInt8 × Int × Int → List UInt8 × Int × Int → Option Int} {lt : List UInt8 × Int × Int → List UInt8 × Int × Int → Bool} (hw : Weak lt) (hg : ∀ a b, ∃ c, g a b = some c ∧ decide (c < 0) = lt a b) (hl : l.length ≤ 12) : ∃ m, slices_SortFunc_api_Account_api_Account_m l g = some m ∧ Sorted lt l m := by
  obtain ⟨k, ek⟩ := len_ok l.length hl
  have ins : ∃ m, slices_insertionSortCmpFunc_api_Account_m l 0 (l.length : Int) g = some m ∧ Sorted lt l m := by
    unfold slices_insertionSortCmpFunc_api_Account_m
    rw [wadd_of (by omega) (by omega), show (0 : Int) + 1 = ((1 : Nat) : Int) by omega]
    by_cases h1 : 1 ≤ l.length
    · obtain ⟨s1, _⟩ := sorted_first (lt := lt) h1
      obtain ⟨m, e, hm⟩ := ins_all (ρ := List (List UInt8 × Int × Int)) (γ := Unit) (M := fun _ => True) hw (b1 := slices_insertionSortCmpFunc_api_Account_b1 (l.length : Int) 0 g) (b2 := slices_insertionSortCmpFunc_api_Account_b2 0 g) (n := l.length)
        (fun A y e r _ _ => by
          obtain ⟨c, ec, hc⟩ := hg e y
          unfold slices_insertionSortCmpFunc_api_Account_b2
          dsimp only
          rw [if_pos (by rw [decide_eq_true_eq]; omega), idx_snd, Option.bind_some, wsub_of (by omega) (by simp at *; omega), show ((A.length + 1 : Nat) : Int) - 1 = (A.length : Int) by omega, idx_fst, Option.bind_some, ec, Option.bind_some, hc]
          by_cases hlt : lt e y = true
          · simp only [bindF]
            rw [if_pos hlt, if_pos hlt, Option.bind_some, Option.bind_some, Option.bind_some, Int.toNat_natCast, Int.toNat_natCast, set_snd, idx_fst, Option.bind_some, set_fst]
          · simp only [bindF]
            rw [if_neg hlt, if_neg hlt])
        (fun e r _ => by unfold slices_insertionSortCmpFunc_api_Account_b2; rfl)
        (fun l' k hk => by
          unfold slices_insertionSortCmpFunc_api_Account_b1
          dsimp only
          rw [if_pos (by rw [decide_eq_true_eq]; omega), wadd_of (by omega) (by omega), show (k : Int) + 1 = ((k + 1 : Nat) : Int) by omega])
        (fun l' => by unfold slices_insertionSortCmpFunc_api_Account_b1; dsimp only; rw [if_neg (by rw [decide_eq_true_eq]; omega)]) (by omega) (l.length - 1) 1 l (l.take 1) 1048576 (by omega) rfl (fun _ _ => trivial) s1 (by omega)
      rw [List.take_append_drop] at e
      rw [e]
      exact ⟨m, rfl, hm⟩
    · have : l = [] := List.eq_nil_of_length_eq_zero (by omega)
      subst this
      refine ⟨[], ?_, ⟨List.Perm.refl _, List.Pairwise.nil, fun q _ => rfl⟩⟩
      unfold loopM slices_insertionSortCmpFunc_api_Account_b1
      dsimp only
      rw [if_neg (by decide)]; rfl
  obtain ⟨m, e, hm⟩ := ins
  refine ⟨m, ?_, hm⟩
  unfold slices_SortFunc_api_Account_api_Account_m slices_pdqsortCmpFunc_api_Account_m
  rw [ek, Option.bind_some]
  unfold loopM slices_pdqsortCmpFunc_api_Account_b1
  dsimp only
  rw [wsub_of (by omega) (by omega), if_pos (by rw [decide_eq_true_eq]; omega), e]
  rfl
end Go.Pu
set_option linter.all false
namespace Go.Pu
open Go.Fw Go.Mo
end Go.Pu
set_option linter.all false
namespace Go.Pu
open Go.Fw Go.Mo
end Go.Pu
set_option linter.all false
namespace Go.Pu
open Go.Fw Go.Mo
theorem acctWeak : Weak (fun a b : Acct => bls a.1 b.1) := by
  refine ⟨fun a b h => ?_, fun a b c h1 h2 => ?_⟩
  · cases e : bls b.1 a.1 with
    | false => rfl
    | true => have := bls_trans _ _ _ h e; rw [bls_irrefl] at this; cases this
  · cases e : bls a.1 c.1 with
    | false => rfl
    | true =>
      rcases bls_total a.1 b.1 with h | h | h
      · rw [h1] at h; cases h
      · rw [h, h2] at e; cases e
      · have := bls_trans _ _ _ h e
        rw [h2] at this; cases this
inductive Opened (l : List Acct) (s : List UInt8) (n : Int) : List Acct × Int → Prop
  | no (e : Int) : e ≠ 0 → Opened l s n ([], e)
  | yes (m : List Acct) : Accts l → 0 ≤ n → n ≤ 1000000 → m.Perm (l ++ [(s, n, 0)]) → Accts m → Opened l s n (m, 0)
theorem open_ok {l : List Acct} {s : List UInt8} {n : Int} (hs : ShortA l) (hsh : Short s) : Ok (ledger_Open_m l s n) (Opened l s n) := by
  obtain ⟨e, he, hq⟩ := checkA_ok hs
  unfold ledger_Open_m
  rw [he, Option.bind_some]
  by_cases h0 : e = 0
  · have hA := hq.1 h0
    have h6 := hA.len
    rw [if_neg (by rw [bne_iff_ne]; exact fun h => h h0), named_ok hsh, Option.bind_some]
    by_cases hn : nm s = true
    · rw [if_neg (by simp [hn]), ok_bindR]
      by_cases hr : 0 ≤ n ∧ n ≤ 1000000
      · rw [if_neg (by rw [decide_eq_true_eq]; omega), ok_some, flok_nx, if_neg (by rw [decide_eq_true_eq]; omega)]
        rcases findA_cases hA s with ⟨i, hi, ei, f⟩ | ⟨hno, f⟩
        · rw [f, Option.bind_some, if_pos (by rw [decide_eq_true_eq]; omega), ok_some]; exact .no 7 (by decide)
        · rw [f, Option.bind_some, if_neg (by decide)]
          by_cases h66 : l.length = 6
          · rw [if_pos (by rw [beq_iff_eq]; omega), ok_some]; exact .no 8 (by decide)
          · rw [if_neg (by rw [beq_iff_eq]; omega), cloneA l (by omega), Option.bind_some, chk_t (by simp only [List.length_cons, List.length_nil]; omega), Option.bind_some]
            obtain ⟨m, em, hm⟩ := sortFunc_acct (l := l ++ [(s, n, 0)]) (g := fun a0 a1 => ledger_Open_1_m a0 a1) acctWeak (fun a b => by
              unfold ledger_Open_1_m
              by_cases h : bls a.1 b.1 = true
              · exact ⟨-1, by rw [if_pos h], by rw [h]; rfl⟩
              · exact ⟨1, by rw [if_neg h], by rw [show bls a.1 b.1 = false by simpa using h]; rfl⟩) (by simp; omega)
            rw [em, Option.bind_some, ok_some]
            refine .yes m hA hr.1 hr.2 hm.perm ⟨by rw [hm.perm.length_eq]; simp; omega, fun a ha => ?_, fun k hk => ?_, fun a ha => ?_⟩
            · rcases List.mem_append.1 (hm.perm.mem_iff.1 ha) with h | h
              · exact hA.name a h
              · rw [List.mem_singleton] at h; subst h; exact hn
            · have hp := (List.pairwise_iff_getElem.1 hm.asc) k (k + 1) (by omega) hk (by omega)
              rw [← nth_get hk, ← nth_get (by omega : k < m.length)] at hp
              rcases bls_total (nth m k).1 (nth m (k + 1)).1 with h | h | h
              · exact h
              · exfalso
                -- all names are unlike
                have hnd : (l ++ [(s, n, 0)]).Pairwise (fun a b : Acct => a.1 ≠ b.1) := by
                  rw [List.pairwise_append]
                  refine ⟨?_, by simp, fun a ha b hb => ?_⟩
                  · rw [List.pairwise_iff_getElem]
                    intro i j hi hj hij
                    rw [← nth_get hi, ← nth_get hj]; exact hA.ne hij hj
                  · rw [List.mem_singleton] at hb; subst hb
                    obtain ⟨i, hi, rfl⟩ := mem_nth ha
                    exact hno i hi
                have hnd2 := (hm.perm.pairwise_iff (fun {a b} (h : a.1 ≠ b.1) => h.symm)).2 hnd
                have := (List.pairwise_iff_getElem.1 hnd2) k (k + 1) (by omega) hk (by omega)
                rw [← nth_get hk, ← nth_get (by omega : k < m.length)] at this
                exact this h
              · rw [hp] at h; cases h
            · rcases List.mem_append.1 (hm.perm.mem_iff.1 ha) with h | h
              · exact hA.val a h
              · rw [List.mem_singleton] at h; subst h; exact ⟨hr, Int.le_refl _, by dsimp only; omega⟩
      · have : (if decide (n < (0 : Int)) then some (Fl.nx (ρ := List Acct × Int) (β := Unit) true) else some (.nx (decide (n > (1000000 : Int))))) = some (.nx true) := by
          by_cases h : n < 0
          · rw [if_pos (by rw [decide_eq_true_eq]; exact h)]
          · rw [if_neg (by rw [decide_eq_true_eq]; exact h), decide_eq_true (by omega)]
        rw [this, ok_some, flok_nx, if_pos rfl, ok_some]; exact .no 1 (by decide)
    · rw [if_pos (by simpa using hn), ok_some]; exact .no 3 (by decide)
  · rw [if_pos (by rw [bne_iff_ne]; exact h0), ok_some]; exact .no _ h0
end Go.Pu
set_option linter.all false
namespace Go.Pu
open Go.Fw Go.Mo
inductive Op where
  | o (s : Bs) (n : Int)
  | d (x : Deal) (t : Bs)
instance : Inhabited Op := ⟨.o [] 0⟩
def wordsO : Op → List Bs
  | .o s n => [[111], s, Lib.itoa n]
  | .d x t => [[100], x.1, x.2.1, Lib.itoa x.2.2.1, Lib.itoa x.2.2.2.1, Lib.itoa x.2.2.2.2.1, Lib.itoa x.2.2.2.2.2, t]
def recO (p : Op) : Bs := joinW (wordsO p)
def RightO : Op → Prop
  | .o s n => Short s ∧ nm s = true ∧ 0 ≤ n ∧ n ≤ 1000000
  | .d x t => ShortD x ∧ Short t ∧ nm t = true ∧ rt x = 0
def StepO (l : List Acct) : Op → List Acct → Prop
  | .o s n, m => ledger_Open_m l s n = some (m, 0)
  | .d x t, m => ledger_Take_m l x t = some (m, 0)
inductive Runs : List Acct → List Op → List Acct → Prop
  | nil (l : List Acct) : Runs l [] l
  | cons {l m k : List Acct} {p : Op} {ps : List Op} (hr : RightO p) (hs : StepO l p m) (h : Runs m ps k) : Runs l (p :: ps) k
theorem StepO.det {l m k : List Acct} {p : Op} (h1 : StepO l p m) (h2 : StepO l p k) : m = k := by
  cases p with
  | o s n => have := h1.symm.trans h2; cases this; rfl
  | d x t => have := h1.symm.trans h2; cases this; rfl
theorem Runs.det {l m k : List Acct} {ps : List Op} (h1 : Runs l ps m) (h2 : Runs l ps k) : m = k := by
  induction h1 with
  | nil l => cases h2; rfl
  | cons hr hs h ih => cases h2 with | cons hr2 hs2 h2 => have := hs.det hs2; subst this; exact ih h2
theorem Runs.append {l m k : List Acct} {ps qs : List Op} (h1 : Runs l ps m) (h2 : Runs m qs k) : Runs l (ps ++ qs) k := by
  induction h1 with
  | nil l => exact h2
  | cons hr hs h ih => exact .cons hr hs (ih h2)
theorem Runs.split {l k : List Acct} : ∀ {ps qs : List Op}, Runs l (ps ++ qs) k → ∃ m, Runs l ps m ∧ Runs m qs k := by
  intro ps
  induction ps generalizing l with
  | nil => intro qs h; exact ⟨l, .nil l, h⟩
  | cons p ps ih =>
    intro qs h
    cases h with
    | cons hr hs h => obtain ⟨m, h1, h2⟩ := ih h; exact ⟨m, .cons hr hs h1, h2⟩
theorem opened_facts {l m : List Acct} {s : Bs} {n : Int} (hs : ShortA l) (hsh : Short s) (h : ledger_Open_m l s n = some (m, 0)) : Accts l ∧ 0 ≤ n ∧ n ≤ 1000000 ∧ m.Perm (l ++ [(s, n, 0)]) ∧ Accts m ∧ ShortA m ∧ nm s = true := by
  obtain ⟨p, e, hp⟩ := open_ok (n := n) hs hsh
  rw [h] at e; cases e
  cases hp with
  | no e he => exact absurd rfl he
  | yes _ hA h0 h1 hm hA2 =>
    refine ⟨hA, h0, h1, hm, hA2, fun a ha => ?_, hA2.name (s, n, 0) (hm.mem_iff.2 (by simp))⟩
    rcases List.mem_append.1 (hm.mem_iff.1 ha) with h | h
    · exact hs a h
    · rw [List.mem_singleton] at h; subst h; exact hsh
theorem took_facts {l m : List Acct} {x : Deal} {t : Bs} (hs : ShortA l) (hd : ShortD x) (h : ledger_Take_m l x t = some (m, 0)) : ∃ i j k, Accts l ∧ rt x = 0 ∧ i < l.length ∧ j < l.length ∧ k < l.length ∧ (nth l k).1 = t ∧ Moved l i j k x.2.2.2.1 x.2.2.2.2.1 m ∧ Accts m ∧ ShortA m := by
  obtain ⟨p, e, hp⟩ := take_ok (t := t) hs hd
  rw [h] at e; cases e
  cases hp with
  | no e he => exact absurd rfl he
  | yes i j k _ hA hr hi hj hk _ _ et _ _ hm hA2 => exact ⟨i, j, k, hA, hr, hi, hj, hk, et, hm, hA2, hm.short hs⟩
theorem StepO.accts {l m : List Acct} {p : Op} (hs : ShortA l) (hr : RightO p) (h : StepO l p m) : Accts m ∧ ShortA m := by
  cases p with
  | o s n => obtain ⟨_, _, _, _, a, b, _⟩ := opened_facts hs hr.1 h; exact ⟨a, b⟩
  | d x t => obtain ⟨i, j, k, _, _, _, _, _, _, _, a, b⟩ := took_facts hs hr.1 h; exact ⟨a, b⟩
theorem accts_nil : Accts [] := ⟨by simp, fun a h => by simp at h, fun k h => by simp at h, fun a h => by simp at h⟩
theorem Runs.accts {l m : List Acct} {ps : List Op} (h : Runs l ps m) (hA : Accts l) (hs : ShortA l) : Accts m ∧ ShortA m := by
  induction h with
  | nil l => exact ⟨hA, hs⟩
  | cons hr hst h ih => obtain ⟨a, b⟩ := hst.accts hs hr; exact ih a b
theorem Runs.accts0 {m : List Acct} {ps : List Op} (h : Runs [] ps m) : Accts m ∧ ShortA m := h.accts accts_nil (fun a h => by simp at h)
theorem Runs.right {l m : List Acct} {ps : List Op} (h : Runs l ps m) : ∀ p ∈ ps, RightO p := by
  induction h with
  | nil l => intro p hp; simp at hp
  | cons hr hst h ih =>
    intro p hp
    rcases List.mem_cons.1 hp with rfl | hp
    · exact hr
    · exact ih p hp
theorem rec_len {p : Op} (h : RightO p) : (recO p).length ≤ 64 ∧ 1 ≤ (recO p).length := by
  cases p with
  | o s n =>
    obtain ⟨h1, h2, h3, h4⟩ := h
    have := nm_facts h1 h2; have := itoa_len h3 h4
    simp only [recO, wordsO, joinW, List.length_append, List.length_cons, List.length_nil]; omega
  | d x t =>
    obtain ⟨h1, h2, h3, h4⟩ := h
    obtain ⟨r1, r2, r3, r4, r5, r6, _⟩ := rt_facts h1 h4
    have := nm_facts h2 h3; have := nm_facts h1.1 r5; have := nm_facts h1.2 r6
    have := itoa_len r1.1 r1.2; have := itoa_len r2.1 r2.2; have := itoa_len r3.1 r3.2; have := itoa_len3 (by omega) r4.2
    simp only [recO, wordsO, joinW, List.length_append, List.length_cons, List.length_nil]; omega
theorem rec_words {p : Op} (h : RightO p) : strings_Split_m (recO p) [32] = some (wordsO p) := by
  have hl := rec_len h
  unfold strings_Split_m
  rw [chk_t ⟨by omega, by simp⟩, Option.bind_some]
  unfold recO
  cases p with
  | o s n =>
    obtain ⟨h1, h2, h3, h4⟩ := h
    rw [splitL_join (by simp [wordsO])]
    intro w hw
    simp only [wordsO, List.mem_cons, List.not_mem_nil, or_false] at hw
    rcases hw with rfl | rfl | rfl
    · decide
    · exact nm_no h1 h2
    · exact itoa_no h3
  | d x t =>
    obtain ⟨h1, h2, h3, h4⟩ := h
    obtain ⟨r1, r2, r3, r4, r5, r6, _⟩ := rt_facts h1 h4
    rw [splitL_join (by simp [wordsO])]
    intro w hw
    simp only [wordsO, List.mem_cons, List.not_mem_nil, or_false] at hw
    rcases hw with rfl | rfl | rfl | rfl | rfl | rfl | rfl | rfl
    · decide
    · exact nm_no h1.1 r5
    · exact nm_no h1.2 r6
    · exact itoa_no r1.1
    · exact itoa_no r2.1
    · exact itoa_no r3.1
    · exact itoa_no (by omega)
    · exact nm_no h2 h3
theorem read_four {w : List Bs} {a b c d : Int} (h3 : idx w 3 = some (Lib.itoa a)) (h4 : idx w 4 = some (Lib.itoa b)) (h5 : idx w 5 = some (Lib.itoa c)) (h6 : idx w 6 = some (Lib.itoa d))
    (ha : 0 ≤ a ∧ a ≤ 1000000) (hb : 0 ≤ b ∧ b ≤ 1000000) (hc : 0 ≤ c ∧ c ≤ 1000000) (hd : 0 ≤ d ∧ d ≤ 1000000) :
    loopM (γ := List Acct) (house_House_read_b2 w) 1048576 (List.replicate 4 (0 : Int), (0 : Int)) = some (.nx ([a, b, c, d], 4)) := by
  have s0 : house_House_read_b2 w (List.replicate 4 (0 : Int), (0 : Int)) = some (.nx ([a, 0, 0, 0], 1)) := by
    unfold house_House_read_b2; dsimp only
    rw [if_pos (by decide), show wadd 3 0 = 3 by decide, h3, Option.bind_some, atoi_m ha.1 ha.2]; rfl
  have s1 : house_House_read_b2 w ([a, 0, 0, 0], (1 : Int)) = some (.nx ([a, b, 0, 0], 2)) := by
    unfold house_House_read_b2; dsimp only
    rw [if_pos (by decide), show wadd 3 1 = 4 by decide, h4, Option.bind_some, atoi_m hb.1 hb.2]; rfl
  have s2 : house_House_read_b2 w ([a, b, 0, 0], (2 : Int)) = some (.nx ([a, b, c, 0], 3)) := by
    unfold house_House_read_b2; dsimp only
    rw [if_pos (by decide), show wadd 3 2 = 5 by decide, h5, Option.bind_some, atoi_m hc.1 hc.2]; rfl
  have s3 : house_House_read_b2 w ([a, b, c, 0], (3 : Int)) = some (.nx ([a, b, c, d], 4)) := by
    unfold house_House_read_b2; dsimp only
    rw [if_pos (by decide), show wadd 3 3 = 6 by decide, h6, Option.bind_some, atoi_m hd.1 hd.2]; rfl
  have s4 : house_House_read_b2 w ([a, b, c, d], (4 : Int)) = some (.br ([a, b, c, d], 4)) := by
    unfold house_House_read_b2; dsimp only
    rw [if_neg (by decide)]
  rw [show (1048576 : Nat) = 1048571 + 1 + 1 + 1 + 1 + 1 from rfl]
  simp only [loopM, s0, s1, s2, s3, s4]
theorem read_step {rs : List Bs} {i : Nat} {p : Op} {l m : List Acct} (hi : rs[i]? = some (recO p)) (hr : RightO p) (h : StepO l p m) : house_House_read_b1 rs i l = some (.nx m) := by
  unfold house_House_read_b1
  rw [idx_nat, hi, Option.bind_some, rec_words hr, Option.bind_some]
  cases p with
  | o s n =>
    obtain ⟨h1, h2, h3, h4⟩ := hr
    rw [show idx (wordsO (.o s n)) 0 = some [111] from rfl, Option.bind_some, if_pos (by decide), show idx (wordsO (.o s n)) 2 = some (Lib.itoa n) from rfl, Option.bind_some, atoi_m h3 h4, Option.bind_some, show idx (wordsO (.o s n)) 1 = some s from rfl, Option.bind_some, show ledger_Open_m l s n = some (m, 0) from h, Option.bind_some]
  | d x t =>
    obtain ⟨h1, h2, h3, h4⟩ := hr
    obtain ⟨r1, r2, r3, r4, r5, r6, _⟩ := rt_facts h1 h4
    rw [show idx (wordsO (.d x t)) 0 = some [100] from rfl, Option.bind_some, if_neg (by decide), read_four (w := wordsO (.d x t)) (a := x.2.2.1) (b := x.2.2.2.1) (c := x.2.2.2.2.1) (d := x.2.2.2.2.2) rfl rfl rfl rfl r1 r2 r3 (by omega)]
    rw [bindF]
    dsimp only
    rw [show idx (wordsO (.d x t)) 1 = some x.1 from rfl, Option.bind_some, show idx (wordsO (.d x t)) 2 = some x.2.1 from rfl, Option.bind_some, show idx (wordsO (.d x t)) 7 = some t from rfl, Option.bind_some]
    rw [show idx [x.2.2.1, x.2.2.2.1, x.2.2.2.2.1, x.2.2.2.2.2] 0 = some x.2.2.1 from rfl, Option.bind_some, show idx [x.2.2.1, x.2.2.2.1, x.2.2.2.2.1, x.2.2.2.2.2] 1 = some x.2.2.2.1 from rfl, Option.bind_some, show idx [x.2.2.1, x.2.2.2.1, x.2.2.2.2.1, x.2.2.2.2.2] 2 = some x.2.2.2.2.1 from rfl, Option.bind_some, show idx [x.2.2.1, x.2.2.2.1, x.2.2.2.2.1, x.2.2.2.2.2] 3 = some x.2.2.2.2.2 from rfl, Option.bind_some]
    rw [show ledger_Take_m l (x.1, x.2.1, x.2.2.1, x.2.2.2.1, x.2.2.2.2.1, x.2.2.2.2.2) t = some (m, 0) from h, Option.bind_some]
abbrev Hs := List Acct × List Deal × List UInt8 × Int
theorem read_ok {h : Hs} {ps : List Op} {fin : List Acct} (hd : h.2.2.1 = cat (ps.map recO)) (hlen : (cat (ps.map recO)).length ≤ 4000) (hr : Runs [] ps fin) : house_House_read_m h = some (fin, [], h.2.2) := by
  obtain ⟨ac, of, dk, sf⟩ := h
  dsimp only at hd; subst hd
  have hright := hr.right
  have hall := all_ok (ps.map recO) sf (fun r h => by obtain ⟨p, hp, rfl⟩ := List.mem_map.1 h; exact (rec_len (hright p hp)).1) hlen
  unfold house_House_read_m
  dsimp only
  rw [hall, Option.bind_some]
  refine Ok.eq ?_
  rw [ok_bindR]
  refine ok_rangeN (fun k l => Runs [] (ps.take k) l) (.nil []) (fun k l hk hI => ?_) fun l hl => ?_
  · rw [List.length_map] at hk
    have e : ps = ps.take k ++ (ps[k] :: ps.drop (k + 1)) := by rw [← List.drop_eq_getElem_cons hk, List.take_append_drop]
    rw [e] at hr
    obtain ⟨m, h1, h2⟩ := hr.split
    have := h1.det hI; subst this
    cases h2 with
    | cons hrr hs h2 =>
      rw [read_step (p := ps[k]) (by rw [List.getElem?_map, List.getElem?_eq_getElem hk]; rfl) hrr hs, ok_some, flok_nx, List.take_succ_eq_append_getElem hk]
      exact h1.append (.cons hrr hs (.nil _))
  · rw [List.length_map, List.take_length] at hl
    have := hl.det hr; subst this
    rw [ok_some]
end Go.Pu
set_option linter.all false
namespace Go.Pu
open Go.Fw Go.Mo
end Go.Pu
