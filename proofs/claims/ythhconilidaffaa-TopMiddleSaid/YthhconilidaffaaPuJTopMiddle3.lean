import Derived.Test.YthhconilidaffaaWTopMiddleModels
import Derived.Test.YthhconilidaffaaPuJTopMiddle2
/- The plain law: of an odd number of votes along a line to beat goes on over a third side. -/
set_option linter.all false
namespace Go.Pu
open Go.Fw Go.Mo
theorem peaks_y : pk_peaks_m = some true := by decide +kernel
/-- votes that all stand along one line -/
structure AlongV (n : Nat) (line : List Int) (v : List (List Int)) : Prop where
  len : v.length ≤ 30
  ok : ∀ p ∈ v, Ord n p ∧ along n line p = true
theorem AlongV.votes {n : Nat} {line : List Int} {v : List (List Int)} (h : AlongV n line v) : Votes n v := ⟨h.len, fun p hp => (h.ok p hp).1⟩
theorem all_al {n : Nat} {line : List Int} {v : List (List Int)} (h0 : 1 ≤ n) (h6 : n ≤ 6) (hl : Ord n line) (h : AlongV n line v) : peak_All_m line v = some (true, 0) := by
  apply Ok.eq
  unfold peak_All_m
  rw [hl.len, order_check h0 h6 hl, Option.bind_some, if_neg (by decide), tally_check h0 h6 h.votes, Option.bind_some, if_neg (by decide), ok_bindR]
  refine ok_rangeL (fun _ _ => True) trivial (fun k p _ hk _ => ?_) fun _ _ => by rw [ok_some]
  have hp := h.ok p (List.mem_of_getElem? hk)
  unfold peak_All_b1
  rw [along_ok h0 h6 hl hp.1, Option.bind_some, hp.2]
  dsimp only
  rw [if_neg (by decide), ok_some, flok_nx]; trivial
theorem alongs_ok {ρ β : Type} {n : Nat} {line : List Int} (h0 : 1 ≤ n) (h6 : n ≤ 6) (hl : Ord n line) {b : Nat → List Int → List (List Int) → Option (Fl ρ (List (List Int)) (List (List Int)))}
    (hb : ∀ i x w, b i x w = (pk_along_m line x).bind fun y => (chk (w.length + [y].length ≤ 68719476736)).bind fun _ => some (.nx (w ++ [y]))) (x2 : List (List Int)) (h2 : ∀ r ∈ x2, r.length ≤ maxLen) :
    ∃ v, rangeL (γ := β) b (x2.take (min 30 x2.length)) 0 ([] : List (List Int)) = some (.nx v) ∧ AlongV n line v ∧ v.length = min 30 x2.length := by
  have key : Ok (rangeL (γ := β) b (x2.take (min 30 x2.length)) 0 ([] : List (List Int))) (FlOk (fun v => AlongV n line v ∧ v.length = min 30 x2.length) (fun _ => False) (fun _ => False)) := by
    refine ok_rangeL (fun k w => w.length = k ∧ ∀ p ∈ w, Ord n p ∧ along n line p = true) ⟨rfl, by simp⟩ (fun k x w hk hI => ?_) fun w hw => ⟨⟨by rw [hw.1, List.length_take]; omega, hw.2⟩, by rw [hw.1, List.length_take]; omega⟩
    have hkl := (List.getElem?_eq_some_iff.1 hk).1
    rw [List.length_take] at hkl
    obtain ⟨p, e, hp⟩ := pkAlong_ok h0 h6 hl x (h2 x (List.mem_of_mem_take (List.mem_of_getElem? hk)))
    rw [hb, e, Option.bind_some, chk_t (by simp [hI.1]; omega), Option.bind_some, ok_some, flok_nx]
    refine ⟨by simp [hI.1], fun q hq => ?_⟩
    rcases List.mem_append.1 hq with hq | hq
    · exact hI.2 q hq
    · rw [List.mem_singleton] at hq; subst hq; exact hp
  obtain ⟨v, e, hv⟩ := key
  cases v with
  | nx s => exact ⟨s, e, hv⟩
  | br _ => exact hv.elim
  | rt _ => exact hv.elim
theorem PeakOrder (x0 : Int) (_ : (Lit.int .i64 x0).wf = true) (x1 : List Int) (h1 : (∀ x ∈ x1, (Lit.int .i64 x).wf = true) ∧ x1.length ≤ maxLen) (x2 : List (List Int)) (h2 : (∀ r ∈ x2, (∀ x ∈ r, (Lit.int .i64 x).wf = true) ∧ r.length ≤ maxLen) ∧ x2.length ≤ maxLen) : pk_PeakOrder_m x0 x1 x2 = some true := by
  obtain ⟨n, n1, n6, hn⟩ := one_within x0 6 (by decide) (by decide)
  rw [show ((6 : Nat) : Int) = 6 from rfl] at hn
  obtain ⟨line, el, hl⟩ := orderOf_ok n x1 n1 (by omega)
  apply Ok.eq
  unfold pk_PeakOrder_m
  have hm : (if (30 : Int) < (x2.length : Int) then (30 : Int) else (x2.length : Int)) = ((min 30 x2.length : Nat) : Int) := by omega
  rw [peaks_y, tallies_t, Option.bind_some, if_neg (by decide), Option.bind_some, ok_bindR, ok_some, flok_nx, if_neg (by decide), within_at x0 6 (by decide) (by decide), Option.bind_some, hn, el, Option.bind_some, hm, chk_t ⟨by omega, by omega⟩, Option.bind_some, Int.toNat_natCast, List.drop_zero]
  obtain ⟨v, ev, hv, hvl⟩ := alongs_ok (ρ := Bool) (β := Unit) n1 n6 hl (b := pk_PeakOrder_b1 line) (fun i x w => rfl) x2 (fun r hr => (h2.1 r hr).2)
  rw [ev]
  simp only [bindR]
  rw [chk_t (show (2 : Int) ≠ 0 by decide), Option.bind_some]
  have hv30 := hv.len
  -- an odd number of them
  have step1 : Ok (if (Int.tmod (v.length : Int) (2 : Int)) == (0 : Int) then (chk (0 ≤ (if (wsub (v.length : Int) (1 : Int)) > (0 : Int) then wsub (v.length : Int) (1 : Int) else (0 : Int)) ∧ (if (wsub (v.length : Int) (1 : Int)) > (0 : Int) then wsub (v.length : Int) (1 : Int) else (0 : Int)) ≤ v.length)).bind fun _ => (pk_along_m line x1).bind fun y191 => (chk (((List.take ((if (wsub (v.length : Int) (1 : Int)) > (0 : Int) then wsub (v.length : Int) (1 : Int) else (0 : Int)).toNat) v)).length + (([y191] : (List (List Int)))).length ≤ 68719476736)).bind fun _ => some (Fl.nx (ρ := Bool) (β := Unit) (List.take ((if (wsub (v.length : Int) (1 : Int)) > (0 : Int) then wsub (v.length : Int) (1 : Int) else (0 : Int)).toNat) v ++ ([y191] : (List (List Int))))) else some (.nx v)) (FlOk (fun w => AlongV n line w ∧ 1 ≤ w.length) (fun _ => False) (fun _ => False)) := by
    rw [wsub_of (by omega) (by omega)]
    have e1 : (if ((v.length : Int) - 1) > (0 : Int) then (v.length : Int) - 1 else (0 : Int)) = ((v.length - 1 : Nat) : Int) := by split <;> omega
    rw [e1, Int.toNat_natCast]
    by_cases c : (Int.tmod (v.length : Int) 2 == 0) = true
    · obtain ⟨p, ep, hp⟩ := pkAlong_ok n1 n6 hl x1 h1.2
      rw [if_pos c, chk_t ⟨by omega, by omega⟩, Option.bind_some, ep, Option.bind_some, chk_t (by rw [List.length_take]; simp; omega), Option.bind_some, ok_some, flok_nx]
      refine ⟨⟨by rw [List.length_append, List.length_take]; simp; omega, fun q hq => ?_⟩, by simp⟩
      rcases List.mem_append.1 hq with hq | hq
      · exact hv.ok q (List.mem_of_mem_take hq)
      · rw [List.mem_singleton] at hq; subst hq; exact hp
    · rw [if_neg c, ok_some, flok_nx]
      refine ⟨hv, Nat.pos_of_ne_zero fun e => c ?_⟩
      rw [e]; rfl
  obtain ⟨w1, e1, hw1⟩ := step1
  cases w1 with
  | br _ => exact hw1.elim
  | rt _ => exact hw1.elim
  | nx w =>
    rw [flok_nx] at hw1
    rw [e1]
    dsimp only
    rw [Option.bind_some]
    have step2 : Ok (if (Int.tmod (w.length : Int) (2 : Int)) == (0 : Int) then (chk (0 ≤ (1 : Int) ∧ (1 : Int) ≤ w.length)).bind fun _ => some (Fl.nx (ρ := Bool) (β := Unit) ((List.take w.length w).drop (((1 : Int)).toNat))) else some (.nx w)) (FlOk (fun w => AlongV n line w) (fun _ => False) (fun _ => False)) := by
      by_cases c : (Int.tmod (w.length : Int) 2 == 0) = true
      · rw [if_pos c, chk_t ⟨by omega, by omega⟩, Option.bind_some, ok_some, flok_nx, List.take_length]
        exact ⟨by rw [List.length_drop]; have := hw1.1.len; omega, fun q hq => hw1.1.ok q (List.mem_of_mem_drop hq)⟩
      · rw [if_neg c, ok_some, flok_nx]; exact hw1.1
    obtain ⟨u1, e2, hu1⟩ := step2
    cases u1 with
    | br _ => exact hu1.elim
    | rt _ => exact hu1.elim
    | nx u =>
      rw [flok_nx] at hu1
      rw [e2]
      dsimp only
      obtain ⟨M, eM, hM⟩ := duels_ok n1 n6 hu1.votes
      rw [all_al n1 n6 hl hu1, Option.bind_some, eM, Option.bind_some, good_at]
      dsimp only
      rw [Option.bind_some, if_neg (by decide), if_neg (by decide), tableOf_ok hM, Option.bind_some]
      dsimp only
      rw [if_neg (by decide), chk_t (by omega), Option.bind_some, Int.toNat_natCast]
      have fin : Ok (rangeN (γ := Unit) (pk_PeakOrder_b2 (x0 % 6) (M, (0 : Int))) n 0 ()) (FlOk (fun _ => True) (fun _ => False) (fun _ => False)) := by
        refine ok_rangeN (fun _ _ => True) trivial (fun a _ ha _ => ?_) fun _ _ => trivial
        unfold pk_PeakOrder_b2
        rw [hn, chk_t (by omega), Option.bind_some, ok_bindF, Int.toNat_natCast]
        refine ok_rangeN (fun _ _ => True) trivial (fun b _ hb _ => ?_) fun _ _ => by rw [ok_some, flok_nx]; trivial
        unfold pk_PeakOrder_b3
        rw [hn, chk_t (by omega), Option.bind_some, ok_bindF, Int.toNat_natCast]
        refine ok_rangeN (fun _ _ => True) trivial (fun c _ hc _ => ?_) fun _ _ => by rw [ok_some, flok_nx]; trivial
        unfold pk_PeakOrder_b4
        dsimp only
        simp only [idx_nat, hM.row? ha, hM.row? hb, hM.row? hc, Option.bind_some, hM.cell? ha hb, hM.cell? hb ha, hM.cell? hb hc, hM.cell? hc hb, hM.cell? ha hc, hM.cell? hc ha]
        have hgo : Ok (some (Fl.nx (ρ := Bool) (β := Unit) false)) (FlOk (fun x1275 => Ok (if x1275 = true then some (Fl.rt (σ := Unit) (β := Unit) false) else some (.nx ())) (FlOk (fun _ => True) (fun _ => False) (fun _ => False))) (fun _ => False) (fun _ => False)) := by
          rw [ok_some, flok_nx, if_neg (by decide), ok_some, flok_nx]; trivial
        rw [ok_bindF]
        by_cases q1 : a = c
        · rw [if_neg (by rw [bne_iff_ne]; omega), ok_some, flok_nx, if_neg (by decide), ok_some, flok_nx]; trivial
        · rw [if_pos (by rw [bne_iff_ne]; omega)]
          by_cases q2 : duel u b a < duel u a b
          · rw [if_pos (by rw [decide_eq_true_eq]; exact q2)]
            by_cases q3 : duel u c b < duel u b c
            · have := beat_trans n1 hl hu1.ok ha hb hc q1 q2 q3
              rw [if_pos (by rw [decide_eq_true_eq]; exact q3), decide_eq_false (by omega), ok_some, flok_nx, if_neg (by decide), ok_some, flok_nx]; trivial
            · rw [if_neg (by rw [decide_eq_true_eq]; exact q3), ok_some, flok_nx, if_neg (by decide), ok_some, flok_nx]; trivial
          · rw [if_neg (by rw [decide_eq_true_eq]; exact q2), ok_some, flok_nx, if_neg (by decide), ok_some, flok_nx]; trivial
      obtain ⟨z, ez, hz⟩ := fin
      cases z with
      | br _ => exact hz.elim
      | rt _ => exact hz.elim
      | nx z => rw [ez, ok_some]
end Go.Pu
/- Sorting by putting one after the other into its place: what comes out. -/
set_option linter.all false
namespace Go.Pu
open Go.Fw Go.Mo
section
variable {α : Type} {ρ : Type}
structure Weak (lt : α → α → Bool) : Prop where
  asymm : ∀ a b, lt a b = true → lt b a = false
  ntrans : ∀ a b c, lt a b = false → lt b c = false → lt a c = false
/-- the same things, in order, and what is alike in the order in which it stood -/
structure Sorted (lt : α → α → Bool) (l m : List α) : Prop where
  perm : m.Perm l
  asc : m.Pairwise fun a b => lt b a = false
  stable : ∀ q : α → Bool, (∀ a b, q a = true → q b = true → lt a b = false) → m.filter q = l.filter q
theorem last_of {A : List α} (h : 0 < A.length) : ∃ A' y, A = A' ++ [y] := by
  refine ⟨A.dropLast, A.getLast (List.ne_nil_of_length_pos h), (List.dropLast_concat_getLast _).symm⟩
/-- one thing put into its place -/
theorem ins_in {M : α → Prop} {lt : α → α → Bool} (hw : Weak lt) {b2 : List α × Int → Option (Fl ρ (List α × Int) (List α × Int))} {n : Nat}
    (h2 : ∀ (A : List α) (y e : α) (r : List α), (A ++ y :: e :: r).length = n → (∀ x ∈ A ++ y :: e :: r, M x) → b2 (A ++ y :: e :: r, ((A.length + 1 : Nat) : Int)) = if lt e y = true then some (.nx (A ++ e :: y :: r, (A.length : Int))) else some (.br (A ++ y :: e :: r, ((A.length + 1 : Nat) : Int))))
    (h20 : ∀ (e : α) (r : List α), (e :: r).length = n → b2 (e :: r, 0) = some (.br (e :: r, 0))) (hn : n ≤ 1000)
    (A C D : List α) (e : α) (hl : (A ++ e :: (C ++ D)).length = n) (hM : ∀ x ∈ A ++ e :: (C ++ D), M x) (hs : (A ++ C).Pairwise fun a b => lt b a = false) (hC : ∀ c ∈ C, lt e c = true) (f : Nat) (hf : A.length < f) :
    ∃ A' C', loopM (γ := List α × Int) b2 f (A ++ e :: (C ++ D), (A.length : Int)) = some (.nx (A' ++ e :: (C' ++ D), (A'.length : Int))) ∧ A' ++ C' = A ++ C ∧ (∀ c ∈ C', lt e c = true) ∧ ∀ a ∈ A', lt e a = false := by
  induction f generalizing A C with
  | zero => omega
  | succ f ih =>
    unfold loopM
    by_cases h0 : A.length = 0
    · have hA : A = [] := List.eq_nil_of_length_eq_zero h0
      subst hA
      have := h20 e (C ++ D) hl
      refine ⟨[], C, ?_, rfl, hC, fun a ha => by cases ha⟩
      rw [show ((([] : List α).length : Nat) : Int) = 0 from rfl, List.nil_append, this]
    · obtain ⟨A', y, rfl⟩ := last_of (A := A) (by omega)
      have e1 : A' ++ [y] ++ e :: (C ++ D) = A' ++ y :: e :: (C ++ D) := by simp
      have e2 : (A' ++ [y]).length = A'.length + 1 := by simp
      rw [e1] at hl hM ⊢
      rw [e2] at hf ⊢
      rw [h2 A' y e (C ++ D) hl hM]
      by_cases hlt : lt e y = true
      · rw [if_pos hlt]
        have e3 : A' ++ e :: y :: (C ++ D) = A' ++ e :: ((y :: C) ++ D) := by simp
        have e4 : A' ++ (y :: C) = A' ++ [y] ++ C := by simp
        have hl' : (A' ++ e :: ((y :: C) ++ D)).length = n := by rw [← hl]; simp
        have hM' : ∀ x ∈ A' ++ e :: ((y :: C) ++ D), M x := fun x hx => hM x (by simp at hx ⊢; rcases hx with h | h | h | h | h <;> simp [h])
        obtain ⟨A2, C2, q1, q2, q3, q4⟩ := ih A' (y :: C) hl' hM' (by rw [e4]; exact hs) (fun c hc => by
          rcases List.mem_cons.1 hc with rfl | hc
          · exact hlt
          · exact hC c hc) (by omega)
        exact ⟨A2, C2, by rw [e3]; exact q1, by rw [q2, e4], q3, q4⟩
      · rw [if_neg hlt]
        have hlt' : lt e y = false := by simpa using hlt
        refine ⟨A' ++ [y], C, by rw [e1, e2], rfl, hC, fun a ha => ?_⟩
        rcases List.mem_append.1 ha with ha | ha
        · rw [List.append_assoc, List.pairwise_append] at hs
          exact hw.ntrans e y a hlt' (hs.2.2 a ha y (by simp))
        · rw [List.mem_singleton] at ha; subst ha; exact hlt'
theorem sorted_put {lt : α → α → Bool} (hw : Weak lt) {A C : List α} {e : α} (hs : (A ++ C).Pairwise fun a b => lt b a = false) (hC : ∀ c ∈ C, lt e c = true) (hA : ∀ a ∈ A, lt e a = false) : (A ++ e :: C).Pairwise fun a b => lt b a = false := by
  rw [List.pairwise_append] at hs ⊢
  refine ⟨hs.1, List.pairwise_cons.2 ⟨fun c hc => hw.asymm _ _ (hC c hc), hs.2.1⟩, fun a ha b hb => ?_⟩
  rcases List.mem_cons.1 hb with rfl | hb
  · exact hA a ha
  · exact hs.2.2 a ha b hb
theorem filter_put {lt : α → α → Bool} {A C : List α} {e : α} (hC : ∀ c ∈ C, lt e c = true) {q : α → Bool} (hq : ∀ a b, q a = true → q b = true → lt a b = false) : (A ++ e :: C).filter q = (A ++ C).filter q ++ [e].filter q := by
  rw [List.filter_append, List.filter_append, List.filter_cons]
  by_cases he : q e = true
  · have : C.filter q = [] := List.filter_eq_nil_iff.2 fun c hc hqc => by have := hq e c he hqc; rw [hC c hc] at this; cases this
    rw [if_pos he, this]; simp [he]
  · rw [if_neg he]; simp [he]
/-- the whole of it -/
theorem ins_all {γ : Type} {M : α → Prop} {lt : α → α → Bool} (hw : Weak lt) {b1 b2 : List α × Int → Option (Fl ρ (List α × Int) (List α × Int))} {n : Nat}
    (h2 : ∀ (A : List α) (y e : α) (r : List α), (A ++ y :: e :: r).length = n → (∀ x ∈ A ++ y :: e :: r, M x) → b2 (A ++ y :: e :: r, ((A.length + 1 : Nat) : Int)) = if lt e y = true then some (.nx (A ++ e :: y :: r, (A.length : Int))) else some (.br (A ++ y :: e :: r, ((A.length + 1 : Nat) : Int))))
    (h20 : ∀ (e : α) (r : List α), (e :: r).length = n → b2 (e :: r, 0) = some (.br (e :: r, 0)))
    (h1 : ∀ (l : List α) (k : Nat), k < n → b1 (l, (k : Int)) = bindF (loopM (γ := List α × Int) b2 1048576 (l, (k : Int))) fun s => some (.nx (s.1, ((k + 1 : Nat) : Int))))
    (h1e : ∀ l : List α, b1 (l, (n : Int)) = some (.br (l, (n : Int)))) (hn : n ≤ 1000) :
    ∀ (d k : Nat) (l0 p : List α) (f : Nat), k + d = n → l0.length = n → (∀ x ∈ l0, M x) → Sorted lt (l0.take k) p → d < f → ∃ m, loopM (γ := γ) b1 f (p ++ l0.drop k, (k : Int)) = some (.nx (m, (n : Int))) ∧ Sorted lt l0 m
  | 0, k, l0, p, f, hk, hl, hM, hS, hf => by
    obtain ⟨f, rfl⟩ : ∃ g, f = g + 1 := ⟨f - 1, by omega⟩
    have : k = n := by omega
    subst this
    have e1 : l0.take k = l0 := List.take_of_length_le (by omega)
    have e2 : l0.drop k = [] := List.drop_of_length_le (by omega)
    rw [e1] at hS
    rw [e2, List.append_nil]
    refine ⟨p, ?_, hS⟩
    unfold loopM
    rw [h1e p]
  | d + 1, k, l0, p, f, hk, hl, hM, hS, hf => by
    obtain ⟨f, rfl⟩ : ∃ g, f = g + 1 := ⟨f - 1, by omega⟩
    have hkl : k < l0.length := by omega
    have hpl : p.length = k := by rw [hS.perm.length_eq, List.length_take]; omega
    have hdr : l0.drop k = l0[k] :: l0.drop (k + 1) := List.drop_eq_getElem_cons hkl
    have htk : l0.take (k + 1) = l0.take k ++ [l0[k]] := by rw [List.take_succ, List.getElem?_eq_getElem hkl]; rfl
    unfold loopM
    rw [h1 _ k (by omega), hdr]
    have hlen : (p ++ l0[k] :: ([] ++ l0.drop (k + 1))).length = n := by simp [hpl]; omega
    have hM1 : ∀ x ∈ p ++ l0[k] :: ([] ++ l0.drop (k + 1)), M x := fun x hx => by
      rcases List.mem_append.1 hx with hx | hx
      · exact hM x (List.mem_of_mem_take (hS.perm.mem_iff.1 hx))
      · rw [List.nil_append, ← hdr] at hx; exact hM x (List.mem_of_mem_drop hx)
    obtain ⟨A, C, q1, q2, q3, q4⟩ := ins_in hw h2 h20 hn p [] (l0.drop (k + 1)) l0[k] hlen hM1 (by rw [List.append_nil]; exact hS.asc) (fun c hc => by cases hc) 1048576 (by omega)
    rw [List.append_nil] at q2
    rw [List.nil_append, hpl] at q1
    rw [q1]
    simp only [bindF]
    have hS' : Sorted lt (l0.take (k + 1)) (A ++ l0[k] :: C) := by
      refine ⟨?_, sorted_put hw (by rw [q2]; exact hS.asc) q3 q4, fun q hq => ?_⟩
      · rw [htk]
        have hp : (A ++ C).Perm (l0.take k) := by rw [q2]; exact hS.perm
        refine (List.perm_middle).trans ?_
        refine (List.Perm.cons _ hp).trans ?_
        exact (List.perm_append_singleton _ _).symm
      · rw [filter_put q3 hq, q2, hS.stable q hq, htk, List.filter_append]
    obtain ⟨m, e, hm⟩ := ins_all hw h2 h20 h1 h1e hn d (k + 1) l0 (A ++ l0[k] :: C) f (by omega) hl hM hS' (by omega)
    refine ⟨m, ?_, hm⟩
    rw [show A ++ l0[k] :: (C ++ l0.drop (k + 1)) = A ++ l0[k] :: C ++ l0.drop (k + 1) by simp]
    exact e
theorem idx_snd {A r : List α} {y e : α} : idx (A ++ y :: e :: r) ((A.length + 1 : Nat) : Int) = some e := by
  unfold idx; rw [if_pos (by omega), Int.toNat_natCast, List.getElem?_append_right (by omega), show A.length + 1 - A.length = 1 by omega]; rfl
theorem idx_fst {A r : List α} {y : α} : idx (A ++ y :: r) (A.length : Int) = some y := by
  unfold idx; rw [if_pos (by omega), Int.toNat_natCast, List.getElem?_append_right (by omega), Nat.sub_self]; rfl
theorem set_snd {A r : List α} {y e z : α} : (A ++ y :: e :: r).set (A.length + 1) z = A ++ y :: z :: r := by
  rw [List.set_append_right _ _ (by omega), show A.length + 1 - A.length = 1 by omega]; rfl
theorem set_fst {A r : List α} {y z : α} : (A ++ y :: r).set A.length z = A ++ z :: r := by
  rw [List.set_append_right _ _ (by omega), Nat.sub_self]; rfl
theorem sorted_one {lt : α → α → Bool} {l : List α} : Sorted lt (l.take 0) [] := ⟨by simp, List.Pairwise.nil, fun q _ => by simp⟩
theorem sorted_first {lt : α → α → Bool} {l : List α} (h : 1 ≤ l.length) : Sorted lt (l.take 1) (l.take 1) ∧ (l.take 1).length = 1 := by
  cases l with
  | nil => simp at h
  | cons a l => exact ⟨⟨List.Perm.refl _, by simp, fun q _ => rfl⟩, rfl⟩
end
/-! ### slices.Sort of numbers -/
theorem cmpLess_ok (a b : Int) : cmp_Less_int_m a b = some (decide (a < b)) := by
  unfold cmp_Less_int_m cmp_isNaN_int_m
  by_cases h : a < b
  · simp [h, bindR]
  · simp [h, bindR]
theorem intWeak : Weak (fun a b : Int => decide (a < b)) := ⟨fun a b h => by simp at h ⊢; omega, fun a b c h1 h2 => by simp at h1 h2 ⊢; omega⟩
theorem insOrd_ok {l : List Int} (hl : l.length ≤ 1000) : ∃ m, slices_insertionSortOrdered_int_m l 0 (l.length : Int) = some m ∧ Sorted (fun a b : Int => decide (a < b)) l m := by
  unfold slices_insertionSortOrdered_int_m
  rw [wadd_of (by omega) (by omega), show (0 : Int) + 1 = ((1 : Nat) : Int) by omega]
  by_cases h1 : 1 ≤ l.length
  · obtain ⟨s1, _⟩ := sorted_first (lt := fun a b : Int => decide (a < b)) h1
    obtain ⟨m, e, hm⟩ := ins_all (ρ := List Int) (γ := Unit) (M := fun _ => True) intWeak (b1 := slices_insertionSortOrdered_int_b1 (l.length : Int) 0) (b2 := slices_insertionSortOrdered_int_b2 0) (n := l.length)
      (fun A y e r _ _ => by
        unfold slices_insertionSortOrdered_int_b2
        dsimp only
        rw [if_pos (by rw [decide_eq_true_eq]; omega), idx_snd, Option.bind_some, wsub_of (by omega) (by simp at *; omega), show ((A.length + 1 : Nat) : Int) - 1 = (A.length : Int) by omega, idx_fst, Option.bind_some, cmpLess_ok, Option.bind_some]
        by_cases hlt : e < y
        · simp only [bindF]
          rw [if_pos (by simpa using hlt), if_pos (by simpa using hlt), Option.bind_some, Option.bind_some, Option.bind_some, Int.toNat_natCast, Int.toNat_natCast, set_snd, idx_fst, Option.bind_some, set_fst]
        · simp only [bindF]
          rw [if_neg (by simpa using hlt), if_neg (by simpa using hlt)])
      (fun e r _ => by unfold slices_insertionSortOrdered_int_b2; rfl)
      (fun l' k hk => by
        unfold slices_insertionSortOrdered_int_b1
        dsimp only
        rw [if_pos (by rw [decide_eq_true_eq]; omega), wadd_of (by omega) (by omega), show (k : Int) + 1 = ((k + 1 : Nat) : Int) by omega])
      (fun l' => by unfold slices_insertionSortOrdered_int_b1; dsimp only; rw [if_neg (by rw [decide_eq_true_eq]; omega)]) hl (l.length - 1) 1 l (l.take 1) 1048576 (by omega) rfl (fun _ _ => trivial) s1 (by omega)
    rw [List.take_append_drop] at e
    rw [e]
    exact ⟨m, rfl, hm⟩
  · have : l = [] := List.eq_nil_of_length_eq_zero (by omega)
    subst this
    refine ⟨[], ?_, ⟨List.Perm.refl _, List.Pairwise.nil, fun q _ => rfl⟩⟩
    unfold loopM slices_insertionSortOrdered_int_b1
    dsimp only
    rw [if_neg (by decide)]; rfl
theorem len_ok : ∀ n : Nat, n ≤ 12 → ∃ k, math_bits_Len_m (IntKind.wrap .u64 (n : Int)) = some k := by
  have h : ∀ n : Nat, n ≤ 12 → (math_bits_Len_m (IntKind.wrap .u64 (n : Int))).isSome = true := by decide +kernel
  intro n hn
  exact Option.isSome_iff_exists.1 (h n hn)
theorem sort_ok {l : List Int} (hl : l.length ≤ 12) : ∃ m, slices_Sort_int_int_m l = some m ∧ Sorted (fun a b : Int => decide (a < b)) l m := by
  obtain ⟨k, ek⟩ := len_ok l.length hl
  obtain ⟨m, e, hm⟩ := insOrd_ok (l := l) (by omega)
  refine ⟨m, ?_, hm⟩
  first
    | (unfold slices_Sort_int_int_m
       rw [if_pos hl]
       unfold slices_Sort_int_int_p slices_pdqsortOrdered_int_m
       rw [ek, Option.bind_some]
       unfold loopM slices_pdqsortOrdered_int_b1
       dsimp only
       rw [wsub_of (by omega) (by omega), if_pos (by rw [decide_eq_true_eq]; omega), e]
       rfl)
    | (unfold slices_Sort_int_int_m slices_pdqsortOrdered_int_m
       rw [ek, Option.bind_some]
       unfold loopM slices_pdqsortOrdered_int_b1
       dsimp only
       rw [wsub_of (by omega) (by omega), if_pos (by rw [decide_eq_true_eq]; omega), e]
       rfl)
/-! ### sorting by a function -/
theorem sortFunc_acct {l : List (List UInt8 × Int × Int)} {g : List UInt8 × Int × Int → List UInt8 × Int × Int → Option Int} {lt : List UInt8 × Int × Int → List UInt8 × Int × Int → Bool} (hw : Weak lt) (hg : ∀ a b, ∃ c, g a b = some c ∧ decide (c < 0) = lt a b) (hl : l.length ≤ 12) : ∃ m, slices_SortFunc_api_Account_api_Account_m l g = some m ∧ Sorted lt l m := by
  obtain ⟨k, ek⟩ := len_ok l.length hl
  have ins : ∃ m, slices_insertionSortCmpFunc_api_Account_m l 0 (l.length : Int) g = some m ∧ Sorted lt l m := by
    unfold slices_insertionSortCmpFunc_api_Account_m
    rw [wadd_of (by omega) (by omega), show (0 : Int) + 1 = ((1 : Nat) : Int) by omega]
    by_cases h1 : 1 ≤ l.length
    · obtain ⟨s1, _⟩ := sorted_first (lt := lt) h1
      obtain ⟨m, e, hm⟩ := ins_all (ρ := List (List UInt8 × Int × Int)) (γ := Unit) (M := fun _ => True) hw (b1 := slices_insertionSortCmpFunc_api_Account_b1 (l.length : Int) 0 g) (b2 := slices_insertionSortCmpFunc_api_Account_b2 0 g) (n := l.length)
        (fun A y e r _ _ => by
          obtain ⟨c, ec, hc⟩ := hg e y
          unfold slices_insertionSortCmpFunc_api_Account_b2
          dsimp only
          rw [if_pos (by rw [decide_eq_true_eq]; omega), idx_snd, Option.bind_some, wsub_of (by omega) (by simp at *; omega), show ((A.length + 1 : Nat) : Int) - 1 = (A.length : Int) by omega, idx_fst, Option.bind_some, ec, Option.bind_some, hc]
          by_cases hlt : lt e y = true
          · simp only [bindF]
            rw [if_pos hlt, if_pos hlt, Option.bind_some, Option.bind_some, Option.bind_some, Int.toNat_natCast, Int.toNat_natCast, set_snd, idx_fst, Option.bind_some, set_fst]
          · simp only [bindF]
            rw [if_neg hlt, if_neg hlt])
        (fun e r _ => by unfold slices_insertionSortCmpFunc_api_Account_b2; rfl)
        (fun l' k hk => by
          unfold slices_insertionSortCmpFunc_api_Account_b1
          dsimp only
          rw [if_pos (by rw [decide_eq_true_eq]; omega), wadd_of (by omega) (by omega), show (k : Int) + 1 = ((k + 1 : Nat) : Int) by omega])
        (fun l' => by unfold slices_insertionSortCmpFunc_api_Account_b1; dsimp only; rw [if_neg (by rw [decide_eq_true_eq]; omega)]) (by omega) (l.length - 1) 1 l (l.take 1) 1048576 (by omega) rfl (fun _ _ => trivial) s1 (by omega)
      rw [List.take_append_drop] at e
      rw [e]
      exact ⟨m, rfl, hm⟩
    · have : l = [] := List.eq_nil_of_length_eq_zero (by omega)
      subst this
      refine ⟨[], ?_, ⟨List.Perm.refl _, List.Pairwise.nil, fun q _ => rfl⟩⟩
      unfold loopM slices_insertionSortCmpFunc_api_Account_b1
      dsimp only
      rw [if_neg (by decide)]; rfl
  obtain ⟨m, e, hm⟩ := ins
  refine ⟨m, ?_, hm⟩
  unfold slices_SortFunc_api_Account_api_Account_m slices_pdqsortCmpFunc_api_Account_m
  rw [ek, Option.bind_some]
  unfold loopM slices_pdqsortCmpFunc_api_Account_b1
  dsimp only
  rw [wsub_of (by omega) (by omega), if_pos (by rw [decide_eq_true_eq]; omega), e]
  rfl
theorem sortStable_int {l : List Int} {g : Int → Int → Option Int} {lt : Int → Int → Bool} (hw : Weak lt) (hg : ∀ a ∈ l, ∀ b ∈ l, ∃ c, g a b = some c ∧ decide (c < 0) = lt a b) (hl : l.length ≤ 12) : ∃ m, slices_SortStableFunc_int_int_m l g = some m ∧ Sorted lt l m := by
  have ins : ∃ m, slices_insertionSortCmpFunc_int_m l 0 (l.length : Int) g = some m ∧ Sorted lt l m := by
    unfold slices_insertionSortCmpFunc_int_m
    rw [wadd_of (by omega) (by omega), show (0 : Int) + 1 = ((1 : Nat) : Int) by omega]
    by_cases h1 : 1 ≤ l.length
    · obtain ⟨s1, _⟩ := sorted_first (lt := lt) h1
      obtain ⟨m, e, hm⟩ := ins_all (ρ := List Int) (γ := Unit) (M := fun x => x ∈ l) hw (b1 := slices_insertionSortCmpFunc_int_b1 (l.length : Int) 0 g) (b2 := slices_insertionSortCmpFunc_int_b2 0 g) (n := l.length)
        (fun A y e r _ hM => by
          obtain ⟨c, ec, hc⟩ := hg e (hM e (by simp)) y (hM y (by simp))
          unfold slices_insertionSortCmpFunc_int_b2
          dsimp only
          rw [if_pos (by rw [decide_eq_true_eq]; omega), idx_snd, Option.bind_some, wsub_of (by omega) (by simp at *; omega), show ((A.length + 1 : Nat) : Int) - 1 = (A.length : Int) by omega, idx_fst, Option.bind_some, ec, Option.bind_some, hc]
          by_cases hlt : lt e y = true
          · simp only [bindF]
            rw [if_pos hlt, if_pos hlt, Option.bind_some, Option.bind_some, Option.bind_some, Int.toNat_natCast, Int.toNat_natCast, set_snd, idx_fst, Option.bind_some, set_fst]
          · simp only [bindF]
            rw [if_neg hlt, if_neg hlt])
        (fun e r _ => by unfold slices_insertionSortCmpFunc_int_b2; rfl)
        (fun l' k hk => by
          unfold slices_insertionSortCmpFunc_int_b1
          dsimp only
          rw [if_pos (by rw [decide_eq_true_eq]; omega), wadd_of (by omega) (by omega), show (k : Int) + 1 = ((k + 1 : Nat) : Int) by omega])
        (fun l' => by unfold slices_insertionSortCmpFunc_int_b1; dsimp only; rw [if_neg (by rw [decide_eq_true_eq]; omega)]) (by omega) (l.length - 1) 1 l (l.take 1) 1048576 (by omega) rfl (fun x hx => hx) s1 (by omega)
      rw [List.take_append_drop] at e
      rw [e]
      exact ⟨m, rfl, hm⟩
    · have : l = [] := List.eq_nil_of_length_eq_zero (by omega)
      subst this
      refine ⟨[], ?_, ⟨List.Perm.refl _, List.Pairwise.nil, fun q _ => rfl⟩⟩
      unfold loopM slices_insertionSortCmpFunc_int_b1
      dsimp only
      rw [if_neg (by decide)]; rfl
  obtain ⟨m, e, hm⟩ := ins
  refine ⟨m, ?_, hm⟩
  unfold slices_SortStableFunc_int_int_m slices_stableCmpFunc_int_m
  unfold loopM slices_stableCmpFunc_int_b1 slices_stableCmpFunc_int_b2
  dsimp only
  rw [if_neg (by rw [decide_eq_true_eq]; omega)]
  simp only [bindR]
  rw [e, Option.bind_some, if_neg (by rw [decide_eq_true_eq]; omega)]
  rfl
end Go.Pu
/- slices.Sort of however many numbers. -/
set_option linter.all false
namespace Go.Pu
open Go.Fw Go.Mo
theorem sort_any {l : List Int} (hl : l.length ≤ 1000000) : ∃ m, slices_Sort_int_int_m l = some m ∧ m.Perm l ∧ m.Pairwise (· ≤ ·) := by
  by_cases h : l.length ≤ 12
  · obtain ⟨m, e, hm⟩ := sort_ok h
    exact ⟨m, e, hm.perm, hm.asc.imp fun {a b} h => by simp at h; exact h⟩
  · refine ⟨l.mergeSort fun x y => decide (x ≤ y), ?_, List.mergeSort_perm _ _, ?_⟩
    · unfold slices_Sort_int_int_m
      rw [if_neg h, chk_t (by omega), Option.bind_some]
    · have := List.pairwise_mergeSort (le := fun x y : Int => decide (x ≤ y)) (fun a b c h1 h2 => by simp at *; omega) (fun a b => by simp; omega) l
      exact this.imp fun {a b} h => by simpa using h
end Go.Pu
/- What the auction's functions answer. -/
set_option linter.all false
namespace Go.Pu
open Go.Fw Go.Mo
def Bids (l : List Int) : Prop := l.length ≤ 10 ∧ ∀ x ∈ l, 0 ≤ x ∧ x ≤ 1000000
theorem Bids.at {l : List Int} (h : Bids l) {k : Nat} (hk : k < l.length) : 0 ≤ nth l k ∧ nth l k ≤ 1000000 := h.2 _ (nth_mem hk)
theorem bids_check {l : List Int} {r : Int} (h : Bids l) (h0 : 0 ≤ r) (h1 : r ≤ 1000000) : auction_Check_m l r = some 0 := by
  apply Ok.eq
  unfold auction_Check_m
  have hl := h.1
  simp only [ok_ite, ok_some, ok_bindR, decide_eq_true_eq]
  refine ⟨fun _ => by omega, fun _ => ok_rangeL (fun _ _ => True) trivial (fun k x s hk _ => ?_) fun s _ => ?_⟩
  · have := h.2 x (List.mem_of_getElem? hk)
    unfold auction_Check_b1
    simp only [ok_ite, ok_some, ok_bindF, flok_nx, flok_rt, decide_eq_true_eq]
    grind
  · simp only [ok_ite, ok_some, flok_nx, decide_eq_true_eq]
    grind
structure Two (l : List Int) (r b o : Int) : Prop where
  ge : r ≤ o
  all : ∀ k : Nat, k < l.length → (k : Int) ≠ b → nth l k ≤ o
  is : o = r ∨ ∃ k : Nat, k < l.length ∧ (k : Int) ≠ b ∧ o = nth l k
  none : b < 0 → b = -1 ∧ ∀ k : Nat, k < l.length → nth l k < r
  one : 0 ≤ b → b < l.length ∧ r ≤ nth l b.toNat ∧ (∀ k : Nat, k < l.length → nth l k ≤ nth l b.toNat) ∧ (∀ k : Nat, (k : Int) < b → nth l k < nth l b.toNat)
theorem two_ok (l : List Int) (r : Int) : Ok (auction_two_m l r) (fun p => Two l r p.1 p.2) := by
  unfold auction_two_m
  simp only [ok_bindR, ok_some]
  refine ok_rangeL (fun (k : Nat) (b : Int) => (b < 0 → b = -1 ∧ ∀ j : Nat, j < k → nth l j < r) ∧ (0 ≤ b → b < k ∧ r ≤ nth l b.toNat ∧ (∀ j : Nat, j < k → nth l j ≤ nth l b.toNat) ∧ (∀ j : Nat, (j : Int) < b → nth l j < nth l b.toNat))) (by grind) (fun k x b hk hI => ?_) fun b hb => ?_
  · obtain ⟨hx, hkl⟩ := nth_of hk
    unfold auction_two_b1
    simp only [ok_ite, ok_some, ok_bindF, ok_bind, ok_idx, flok_nx, flok_rt, decide_eq_true_eq, Int.toNat_natCast]
    repeat' first | apply And.intro | intro _
    all_goals grind
  · refine ok_rangeL (fun (k : Nat) (o : Int) => r ≤ o ∧ (∀ j : Nat, j < k → (j : Int) ≠ b → nth l j ≤ o) ∧ (o = r ∨ ∃ j : Nat, j < l.length ∧ (j : Int) ≠ b ∧ o = nth l j)) (by grind) (fun k x o hk hI => ?_) fun o ho => ?_
    · obtain ⟨hx, hkl⟩ := nth_of hk
      unfold auction_two_b2
      simp only [ok_ite, ok_some, flok_nx, bne_iff_ne]
      grind
    · exact ⟨ho.1, ho.2.1, ho.2.2, hb.1, hb.2⟩
theorem second_ok {l : List Int} {r : Int} (h : Bids l) (h0 : 0 ≤ r) (h1 : r ≤ 1000000) : ∃ b o, Two l r b o ∧ auction_Second_m l r = some (if b < 0 then (0, 0, 4) else (b, o, 0)) := by
  obtain ⟨⟨b, o⟩, e, h2⟩ := two_ok l r
  refine ⟨b, o, h2, ?_⟩
  unfold auction_Second_m
  rw [bids_check h h0 h1, Option.bind_some, if_neg (by decide), e, Option.bind_some]
  by_cases hb : b < 0
  · simp [hb]
  · simp [hb]
theorem bidsOf_ok (x0 : List Int) (h : x0.length ≤ maxLen) : ∃ l, pk_BidsOf_m x0 = some l ∧ l.length = min 10 x0.length ∧ ∀ x ∈ l, 0 ≤ x ∧ x ≤ 100 := by
  have : Ok (pk_BidsOf_m x0) (fun l => l.length = min 10 x0.length ∧ ∀ x ∈ l, 0 ≤ x ∧ x ≤ 100) := by
    unfold pk_BidsOf_m
    have e : (if (10 : Int) < (x0.length : Int) then (10 : Int) else (x0.length : Int)) = ((min 10 x0.length : Nat) : Int) := by omega
    rw [e, List.drop_zero, Int.toNat_natCast]
    simp only [ok_bind, ok_chk, ok_bindR, ok_some]
    refine ⟨by omega, ok_rangeL (fun k l => l.length = k ∧ ∀ x ∈ l, 0 ≤ x ∧ x ≤ 100) (by simp) (fun k x l hk hI => ?_) fun l hl => ⟨by rw [hl.1, List.length_take]; omega, hl.2⟩⟩
    unfold pk_BidsOf_b1
    have hk' := (List.getElem?_eq_some_iff.1 hk).1
    rw [List.length_take] at hk'
    have a0 := Int.emod_nonneg x (b := 101) (by decide)
    have a1 := Int.emod_lt_of_pos x (b := 101) (by decide)
    rw [within_at x 101 (by decide) (by decide)]
    simp only [ok_bind, ok_chk, ok_some, flok_nx]
    refine ⟨by simp; omega, by simp [hI.1], fun y hy => ?_⟩
    rcases List.mem_append.1 hy with hy | hy
    · exact hI.2 y hy
    · simp at hy; subst hy; omega
  exact this
theorem clone_int {l : List Int} (h : l.length ≤ 68719476736) : slices_Clone_int_int_m l = some l := by
  unfold slices_Clone_int_int_m; rw [chk_t h]; rfl
theorem auctions_t : pk_auctions_m = some true := by decide +kernel
theorem Two.same {l m : List Int} {r b o b' o' : Int} {i : Nat} (h : Two l r b o) (h' : Two m r b' o') (hl : m.length = l.length) (hs : ∀ k : Nat, k < l.length → k ≠ i → nth m k = nth l k) (hb : b = i) (hb' : b' = i) : o = o' := by
  have h1 := h.all; have h2 := h'.all; have h3 := h.is; have h4 := h'.is; have h5 := h.ge; have h6 := h'.ge
  subst hb hb'
  rcases h3 with h3 | ⟨k, k1, k2, k3⟩ <;> rcases h4 with h4 | ⟨j, j1, j2, j3⟩
  · omega
  · have := h1 j (by omega) j2; have := hs j (by omega) (by omega); omega
  · have := h2 k (by omega) k2; have := hs k (by omega) (by omega); omega
  · have := h1 j (by omega) j2; have := hs j (by omega) (by omega)
    have := h2 k (by omega) k2; have := hs k (by omega) (by omega); omega
end Go.Pu
/- Whether numbers stand in order. -/
set_option linter.all false
namespace Go.Pu
open Go.Fw Go.Mo
theorem inOrd_ok {l : List Int} (hl : l.length ≤ 1000000) (h : l.Pairwise (· < ·)) : slices_IsSorted_int_int_m l = some true := by
  apply Ok.eq
  unfold slices_IsSorted_int_int_m
  rw [wsub_of (by omega) (by omega), ok_bindR]
  refine ok_loopM (fun (x : Int) => -1 ≤ x ∧ x < (l.length : Int)) (fun x => (x + 1).toNat) (fun x hx => ?_) _ _ ⟨by omega, by omega⟩ (by omega)
  unfold slices_IsSorted_int_int_b1
  by_cases h0 : x > 0
  · obtain ⟨k, rfl⟩ : ∃ k : Nat, x = ((k + 1 : Nat) : Int) := ⟨(x - 1).toNat, by omega⟩
    have hs := (List.pairwise_iff_getElem.1 h) k (k + 1) (by omega) (by omega) (by omega)
    rw [← nth_get (by omega : k + 1 < l.length), ← nth_get (by omega : k < l.length)] at hs
    rw [if_pos (by rw [decide_eq_true_eq]; exact h0), idx_nat, nth_at (by omega), Option.bind_some, wsub_of (by omega) (by omega), show ((k + 1 : Nat) : Int) - 1 = (k : Int) by omega, idx_nat, nth_at (by omega), Option.bind_some, cmpLess_ok, Option.bind_some, if_neg (by rw [decide_eq_true_eq]; omega), ok_some, flok_nx]
    exact ⟨⟨by omega, by omega⟩, by omega⟩
  · rw [if_neg (by rw [decide_eq_true_eq]; exact h0), ok_some, flok_br, ok_some]
end Go.Pu
/- Several alike sold at one price: what units.Sell answers. -/
set_option linter.all false
namespace Go.Pu
open Go.Fw Go.Mo
theorem nodup_sub {α : Type} [BEq α] [LawfulBEq α] : ∀ {l m : List α}, l.Nodup → (∀ x ∈ l, x ∈ m) → l.length ≤ m.length
  | [], m, _, _ => Nat.zero_le _
  | a :: l, m, hn, hs => by
    have ha := hs a (by simp)
    rw [List.nodup_cons] at hn
    have := nodup_sub (l := l) (m := m.erase a) hn.2 fun x hx => by
      have hxa : x ≠ a := fun e => by subst e; exact hn.1 hx
      exact (List.mem_erase_of_ne hxa).2 (hs x (List.mem_cons_of_mem _ hx))
    rw [List.length_erase_of_mem ha] at this
    have := List.length_pos_of_mem ha
    simp only [List.length_cons]; omega
def inds (n : Nat) : List Int := (List.range n).map fun (i : Nat) => (i : Int)
theorem inds_len {n : Nat} : (inds n).length = n := by simp [inds]
theorem inds_mem {n : Nat} {x : Int} : x ∈ inds n ↔ 0 ≤ x ∧ x < n := by
  unfold inds
  rw [List.mem_map]
  constructor
  · rintro ⟨i, hi, rfl⟩; rw [List.mem_range] at hi; omega
  · intro h; exact ⟨x.toNat, by rw [List.mem_range]; omega, by omega⟩
theorem inds_asc {n : Nat} : (inds n).Pairwise (· < ·) := by
  unfold inds
  rw [List.pairwise_map]
  exact List.pairwise_lt_range.imp fun h => by omega
theorem inds_nodup {n : Nat} : (inds n).Nodup := inds_asc.imp fun h e => by omega
theorem nth_inds {n k : Nat} (h : k < n) : nth (inds n) k = (k : Int) := by
  unfold inds; rw [nth_get (by simpa using h)]; simp
theorem fill_ok {ρ : Type} {b : Nat → List Int → Option (Fl ρ (List Int) (List Int))} {n : Nat} (hb : ∀ i l, i < n → l.length = n → b i l = some (.nx (l.set i (i : Int)))) (s : List Int) (hs : s.length = n) : rangeN (γ := Unit) b n 0 s = some (.nx (inds n)) := by
  obtain ⟨v, e, h⟩ := ok_rangeN (γ := Unit) (body := b) (n := n) (s := s) (B := fun _ => False) (R := fun _ => False) (N := fun l => l = inds n) (fun k l => l.length = n ∧ ∀ i, i < k → nth l i = (i : Int)) ⟨hs, fun i hi => by omega⟩ (fun k l hk hI => by
    rw [hb k l hk hI.1, ok_some, flok_nx]
    refine ⟨by rw [List.length_set, hI.1], fun i hi => ?_⟩
    rw [nth_set (by rw [hI.1]; exact hk)]
    by_cases h : i = k
    · rw [if_pos h, h]
    · rw [if_neg h]; exact hI.2 i (by omega)) (fun l hl => nth_ext (by rw [hl.1, inds_len]) fun k hk => by
    rw [hl.1] at hk
    rw [hl.2 k hk, nth_inds hk])
  cases v with
  | nx s => rw [e]; rw [flok_nx] at h; rw [h]
  | br _ => exact h.elim
  | rt _ => exact h.elim
/-- those who have one, and the price -/
structure Sold (l : List Int) (n : Int) (w : List Int) (p : Int) : Prop where
  len : (w.length : Int) = if n < (l.length : Int) then n else (l.length : Int)
  asc : w.Pairwise (· < ·)
  rng : ∀ x ∈ w, 0 ≤ x ∧ x < (l.length : Int)
  ge : ∀ x ∈ w, p ≤ nth l x.toNat
  le : ∀ i, i < l.length → (i : Int) ∉ w → nth l i ≤ p
  all : (l.length : Int) ≤ n → p = 0
  one : n < (l.length : Int) → ∃ j, j < l.length ∧ (j : Int) ∉ w ∧ nth l j = p
  tie : ∀ x ∈ w, ∀ j : Nat, j < l.length → (j : Int) ∉ w → nth l j < nth l x.toNat ∨ (nth l j = nth l x.toNat ∧ x < (j : Int))
  fst : n = 1 → ∀ x ∈ w, ∀ j : Nat, (j : Int) < x → nth l j < nth l x.toNat
theorem sortedAsc {l m : List Int} (h : Sorted (fun a b : Int => decide (a < b)) l m) (hn : l.Nodup) : m.Pairwise (· < ·) := by
  have hn' : m.Nodup := h.perm.nodup_iff.2 hn
  exact (List.pairwise_and_iff.2 ⟨h.asc, hn'⟩).imp fun ⟨a, b⟩ => by simp at a; omega
theorem sell_ok {l : List Int} {n : Int} (h : Bids l) (h0 : 0 ≤ n ∧ n ≤ 10) : ∃ w p, units_Sell_m l n = some (w, p, 0) ∧ Sold l n w p := by
  have hl := h.1
  have hw : Weak (fun a b : Int => decide (nth l b.toNat < nth l a.toNat)) := ⟨fun a b h => by simp at h ⊢; omega, fun a b c h1 h2 => by simp at h1 h2 ⊢; omega⟩
  obtain ⟨m, em, hm⟩ := sortStable_int (l := inds l.length) (g := fun a0 a1 => units_Sell_1_m a0 a1 l) hw (fun a ha b hb => by
    rw [inds_mem] at ha hb
    have va := h.at (k := a.toNat) (by omega)
    have vb := h.at (k := b.toNat) (by omega)
    refine ⟨nth l b.toNat - nth l a.toNat, ?_, ?_⟩
    · unfold units_Sell_1_m
      rw [idx_at hb.1, nth_at (by omega), Option.bind_some, idx_at ha.1, nth_at (by omega), Option.bind_some, wsub_of (by omega) (by omega)]
    · rw [decide_eq_decide]; omega) (by rw [inds_len]; omega)
  have hml : m.length = l.length := by rw [hm.perm.length_eq, inds_len]
  have hmm : ∀ x, x ∈ m ↔ 0 ≤ x ∧ x < (l.length : Int) := fun x => by rw [hm.perm.mem_iff, inds_mem]
  have hmn : m.Nodup := hm.perm.nodup_iff.2 inds_nodup
  have hle : ∀ {i j : Nat}, i < j → j < m.length → nth l (nth m j).toNat ≤ nth l (nth m i).toNat := fun {i j} hij hj => by
    have := (List.pairwise_iff_getElem.1 hm.asc) i j (by omega) hj hij
    rw [← nth_get hj, ← nth_get (by omega : i < m.length)] at this
    simpa using this
  have hne : ∀ {i j : Nat}, i < j → j < m.length → nth m i ≠ nth m j := fun {i j} hij hj => by
    have := (List.pairwise_iff_getElem.1 hmn) i j (by omega) hj hij
    rwa [← nth_get hj, ← nth_get (by omega : i < m.length)] at this
  unfold units_Sell_m
  rw [bids_check h (by decide) (by decide), Option.bind_some, if_neg (by decide), if_neg (by rw [decide_eq_true_eq]; omega)]
  simp only [bindR]
  rw [if_neg (by rw [decide_eq_true_eq]; omega), chk_t ⟨by omega, by omega⟩, Option.bind_some, Int.toNat_natCast, List.length_replicate, fill_ok (fun i s hi hs => by
    unfold units_Sell_b1
    rw [idx_nat, nth_at (by omega), Option.bind_some]) _ (List.length_replicate ..)]
  dsimp only
  rw [em, Option.bind_some]
  have hcol : ∀ q, q ≤ m.length → (m.take q).Nodup := fun q _ => hmn.sublist (List.take_sublist _ _)
  by_cases hn : n < (l.length : Int)
  · have nn : (n.toNat : Int) = n := by omega
    have hnm : n.toNat < m.length := by omega
    have hmem := (hmm (nth m n.toNat)).1 (nth_mem hnm)
    rw [if_pos (by rw [decide_eq_true_eq, hml]; exact hn), idx_at h0.1, nth_at hnm, Option.bind_some, idx_at hmem.1, nth_at (by omega), Option.bind_some, chk_t ⟨h0.1, by omega⟩, Option.bind_some]
    dsimp only
    obtain ⟨w, ew, hw'⟩ := sort_ok (l := m.take n.toNat) (by rw [List.length_take]; omega)
    rw [ew, Option.bind_some]
    refine ⟨w, nth l (nth m n.toNat).toNat, rfl, ?_⟩
    have hin : ∀ x, x ∈ w ↔ ∃ k, k < n.toNat ∧ nth m k = x := fun x => by
      rw [hw'.perm.mem_iff]
      constructor
      · intro hx
        obtain ⟨k, hk, e⟩ := mem_nth hx
        rw [List.length_take] at hk
        rw [nth_take (by omega)] at e
        exact ⟨k, by omega, e⟩
      · rintro ⟨k, hk, rfl⟩
        rw [← nth_take hk]; exact nth_mem (by rw [List.length_take]; omega)
    refine ⟨?_, sortedAsc hw' (hcol _ (by omega)), fun x hx => ?_, fun x hx => ?_, fun i hi hx => ?_, fun hh => by omega, fun _ => ?_, fun x hx j hj hjw => ?_, fun h1 x hx j hj => ?_⟩
    · rw [if_pos hn, hw'.perm.length_eq, List.length_take]; omega
    · obtain ⟨k, hk, rfl⟩ := (hin x).1 hx
      exact (hmm _).1 (nth_mem (by omega))
    · obtain ⟨k, hk, rfl⟩ := (hin x).1 hx
      exact hle hk hnm
    · obtain ⟨k, hk, e⟩ := mem_nth ((hmm (i : Int)).2 ⟨by omega, by omega⟩)
      have hkn : ¬ k < n.toNat := fun hh => hx ((hin _).2 ⟨k, hh, e⟩)
      by_cases e2 : k = n.toNat
      · rw [← e2, e, Int.toNat_natCast]; exact Int.le_refl _
      · have := hle (show n.toNat < k by omega) hk
        rwa [e, Int.toNat_natCast] at this
    · refine ⟨(nth m n.toNat).toNat, by omega, fun hx => ?_, rfl⟩
      obtain ⟨k, hk, e⟩ := (hin _).1 hx
      exact hne hk hnm (by omega)
    · obtain ⟨k, hk, rfl⟩ := (hin x).1 hx
      obtain ⟨i, hi, e⟩ := mem_nth ((hmm (j : Int)).2 ⟨by omega, by omega⟩)
      have hki : k < i := by
        apply Decidable.byContradiction; intro hno
        exact hjw ((hin _).2 ⟨i, by omega, e⟩)
      have h1 := hle hki hi
      rw [e, Int.toNat_natCast] at h1
      by_cases he : nth l j = nth l (nth m k).toNat
      · right
        refine ⟨he, ?_⟩
        have hst := hm.stable (fun y => nth l y.toNat == nth l j) (fun a b ha hb => by
          rw [beq_iff_eq] at ha hb; rw [ha, hb, decide_eq_false_iff_not]; omega)
        have hasc : (m.filter (fun y => nth l y.toNat == nth l j)).Pairwise (· < ·) := by
          rw [hst]; exact inds_asc.sublist List.filter_sublist
        rw [List.pairwise_filter] at hasc
        have := (List.pairwise_iff_getElem.1 hasc) k i (by omega) hi hki
        rw [← nth_get hi, ← nth_get (by omega : k < m.length), e] at this
        exact this (by rw [beq_iff_eq, he]) (by rw [beq_iff_eq, Int.toNat_natCast])
      · left; omega
    · obtain ⟨k, hk, rfl⟩ := (hin x).1 hx
      have k0 : k = 0 := by omega
      subst k0
      have hx0 := (hmm (nth m 0)).1 (nth_mem (by omega))
      have hst := hm.stable (fun y => nth l y.toNat == nth l (nth m 0).toNat) (fun a b ha hb => by
        rw [beq_iff_eq] at ha hb; rw [ha, hb, decide_eq_false_iff_not]; omega)
      have hjl : nth l j ≤ nth l (nth m 0).toNat := by
        obtain ⟨k, hk, e⟩ := mem_nth ((hmm (j : Int)).2 ⟨by omega, by omega⟩)
        by_cases k0 : k = 0
        · subst k0; omega
        · have := hle (show 0 < k by omega) hk
          rwa [e, Int.toNat_natCast] at this
      by_cases he : nth l j = nth l (nth m 0).toNat
      · exfalso
        have hasc : (m.filter (fun y => nth l y.toNat == nth l (nth m 0).toNat)).Pairwise (· < ·) := by
          rw [hst]; exact inds_asc.sublist List.filter_sublist
        have hms : m = nth m 0 :: m.drop 1 := by
          cases m with
          | nil => simp at hml; omega
          | cons a m => rfl
        have hj2 : (j : Int) ∈ m.filter (fun y => nth l y.toNat == nth l (nth m 0).toNat) := by
          rw [List.mem_filter]; exact ⟨(hmm _).2 ⟨by omega, by omega⟩, by rw [beq_iff_eq, Int.toNat_natCast]; exact he⟩
        generalize nth m 0 = x at hms hasc hj2 hj
        rw [hms, List.filter_cons, if_pos (by rw [beq_iff_eq])] at hasc hj2
        rw [List.pairwise_cons] at hasc
        rcases List.mem_cons.1 hj2 with hj2 | hj2
        · omega
        · have := hasc.1 _ hj2; omega
      · omega
  · rw [if_neg (by rw [decide_eq_true_eq, hml]; exact hn)]
    dsimp only
    obtain ⟨w, ew, hw'⟩ := sort_ok (l := m) (by omega)
    rw [ew, Option.bind_some]
    have hin : ∀ x, x ∈ w ↔ 0 ≤ x ∧ x < (l.length : Int) := fun x => by rw [hw'.perm.mem_iff, hmm]
    refine ⟨w, 0, rfl, ?_, sortedAsc hw' hmn, fun x hx => (hin x).1 hx, fun x hx => (h.at (k := x.toNat) (by have := (hin x).1 hx; omega)).1, fun i hi hx => ?_, fun _ => rfl, fun hh => by omega, fun x hx j hj hjw => absurd ((hin _).2 ⟨by omega, by omega⟩) hjw, fun h1 x hx j hj => ?_⟩
    · rw [if_neg hn, hw'.perm.length_eq, hml]
    · exact absurd ((hin _).2 ⟨by omega, by omega⟩) hx
    · have := (hin x).1 hx; omega
theorem Sold.nodup {l w : List Int} {n p : Int} (h : Sold l n w p) : w.Nodup := h.asc.imp fun a b => by omega
theorem sells_t : pk_sells_m = some true := by decide +kernel
end Go.Pu
/- Buyers and sellers of the like: how many deal, and at what price. -/
set_option linter.all false
namespace Go.Pu
open Go.Fw Go.Mo
/-- in a list in which those that are so stand first, it is so of just the first ones -/
theorem count_first {q : Int → Bool} : ∀ {l : List Int}, l.Pairwise (fun a b => q b = true → q a = true) → ∀ i, i < l.length → (q (nth l i) = true ↔ i < l.countP q)
  | [], _, i, hi => by (cases hi)
  | a :: l, h, i, hi => by
    rw [List.pairwise_cons] at h
    by_cases ha : q a = true
    · rw [List.countP_cons_of_pos ha]
      cases i with
      | zero => simp [nth_cons_zero, ha]
      | succ i =>
        rw [nth_cons_succ, count_first h.2 i (by simpa using hi)]; omega
    · have hz : l.countP q = 0 := List.countP_eq_zero.2 fun b hb hqb => ha (h.1 b hb hqb)
      rw [List.countP_cons_of_neg ha, hz]
      cases i with
      | zero => simp [nth_cons_zero, ha]
      | succ i =>
        rw [nth_cons_succ]
        constructor
        · intro hq; exact absurd (h.1 _ (nth_mem (by simpa using hi)) hq) ha
        · intro h0; omega
/-- sorted down -/
structure DownS (b D : List Int) : Prop where
  perm : D.Perm b
  desc : D.Pairwise fun x y => y ≤ x
/-- sorted up -/
structure UpS (s A : List Int) : Prop where
  perm : A.Perm s
  asc : A.Pairwise fun x y => x ≤ y
theorem DownS.len {b D : List Int} (h : DownS b D) : D.length = b.length := h.perm.length_eq
theorem UpS.len {b D : List Int} (h : UpS b D) : D.length = b.length := h.perm.length_eq
theorem DownS.ge {b D : List Int} (h : DownS b D) (p : Int) {i : Nat} (hi : i < D.length) : p ≤ nth D i ↔ i < b.countP (fun v => decide (p ≤ v)) := by
  rw [← h.perm.countP_eq, ← count_first (h.desc.imp fun {x y} hxy hq => by rw [decide_eq_true_eq] at hq ⊢; omega) i hi, decide_eq_true_eq]
theorem DownS.gt {b D : List Int} (h : DownS b D) (p : Int) {i : Nat} (hi : i < D.length) : p < nth D i ↔ i < b.countP (fun v => decide (p < v)) := by
  rw [← h.perm.countP_eq, ← count_first (h.desc.imp fun {x y} hxy hq => by rw [decide_eq_true_eq] at hq ⊢; omega) i hi, decide_eq_true_eq]
theorem UpS.le {b D : List Int} (h : UpS b D) (p : Int) {i : Nat} (hi : i < D.length) : nth D i ≤ p ↔ i < b.countP (fun v => decide (v ≤ p)) := by
  rw [← h.perm.countP_eq, ← count_first (h.asc.imp fun {x y} hxy hq => by rw [decide_eq_true_eq] at hq ⊢; omega) i hi, decide_eq_true_eq]
theorem UpS.lt {b D : List Int} (h : UpS b D) (p : Int) {i : Nat} (hi : i < D.length) : nth D i < p ↔ i < b.countP (fun v => decide (v < p)) := by
  rw [← h.perm.countP_eq, ← count_first (h.asc.imp fun {x y} hxy hq => by rw [decide_eq_true_eq] at hq ⊢; omega) i hi, decide_eq_true_eq]
theorem DownS.mono {b D : List Int} (h : DownS b D) {i j : Nat} (hij : i ≤ j) (hj : j < D.length) : nth D j ≤ nth D i := by
  by_cases e : i = j
  · subst e; exact Int.le_refl _
  · have := (List.pairwise_iff_getElem.1 h.desc) i j (by omega) hj (by omega)
    rwa [← nth_get hj, ← nth_get (by omega : i < D.length)] at this
theorem UpS.mono {b D : List Int} (h : UpS b D) {i j : Nat} (hij : i ≤ j) (hj : j < D.length) : nth D i ≤ nth D j := by
  by_cases e : i = j
  · subst e; exact Int.le_refl _
  · have := (List.pairwise_iff_getElem.1 h.asc) i j (by omega) hj (by omega)
    rwa [← nth_get hj, ← nth_get (by omega : i < D.length)] at this
theorem DownS.mem {b D : List Int} (h : DownS b D) {i : Nat} (hi : i < D.length) : nth D i ∈ b := h.perm.mem_iff.1 (nth_mem hi)
theorem UpS.mem {b D : List Int} (h : UpS b D) {i : Nat} (hi : i < D.length) : nth D i ∈ b := h.perm.mem_iff.1 (nth_mem hi)
theorem down_ok {b : List Int} (hb : b.length ≤ 12) : ∃ m D, slices_Sort_int_int_m b = some m ∧ slices_Reverse_int_int_m m = some D ∧ DownS b D := by
  obtain ⟨m, em, hm⟩ := sort_ok hb
  refine ⟨m, m.reverse, em, reverse_ok m (by have := hm.perm.length_eq; omega), (List.reverse_perm _).trans hm.perm, ?_⟩
  rw [List.pairwise_reverse]
  exact hm.asc.imp fun {x y} h => by simp at h; exact h
theorem up_ok {b : List Int} (hb : b.length ≤ 12) : ∃ A, slices_Sort_int_int_m b = some A ∧ UpS b A := by
  obtain ⟨m, em, hm⟩ := sort_ok hb
  exact ⟨m, em, hm.perm, hm.asc.imp fun {x y} h => by simp at h; exact h⟩
/-- so many deal, at any price between those two -/
structure Met (D A : List Int) (n : Nat) : Prop where
  d : n ≤ D.length
  a : n ≤ A.length
  yes : ∀ i, i < n → nth A i ≤ nth D i
  no : n < D.length → n < A.length → nth D n < nth A n
theorem meet_ok {b s : List Int} (hb : Bids b) (hs : Bids s) : ∃ D A n, DownS b D ∧ UpS s A ∧ Met D A n ∧ (slices_Sort_int_int_m b).bind slices_Reverse_int_int_m = some D ∧ slices_Sort_int_int_m s = some A ∧
    units_Meet_m b s = some (if n = 0 then (0, 0, 0, 4) else ((n : Int), (if n < D.length ∧ nth A (n - 1) < nth D n then nth D n else nth A (n - 1)), (if n < A.length ∧ nth A n < nth D (n - 1) then nth A n else nth D (n - 1)), 0)) := by
  obtain ⟨m, D, em, eD, hD⟩ := down_ok (b := b) (by have := hb.1; omega)
  obtain ⟨A, eA, hA⟩ := up_ok (b := s) (by have := hs.1; omega)
  have hDl := hD.len
  have hAl := hA.len
  have hb1 := hb.1
  have hs1 := hs.1
  have hloop : Ok (loopM (γ := Unit) (units_Meet_b1 D A) 1048576 (0 : Int)) (FlOk (fun x => ∃ n : Nat, x = n ∧ Met D A n) (fun _ => False) (fun _ : Int × Int × Int × Int => False)) := by
    refine ok_loopM (fun (x : Int) => ∃ n : Nat, x = n ∧ n ≤ D.length ∧ n ≤ A.length ∧ ∀ i, i < n → nth A i ≤ nth D i) (fun x => (D.length - x).toNat) (fun x hx => ?_) _ _ ⟨0, rfl, by omega, by omega, fun i hi => by omega⟩ (by omega)
    obtain ⟨n, rfl, h1, h2, h3⟩ := hx
    unfold units_Meet_b1
    by_cases c1 : n < D.length
    · rw [if_pos (by rw [decide_eq_true_eq]; omega)]
      by_cases c2 : n < A.length
      · rw [if_pos (by rw [decide_eq_true_eq]; omega), idx_nat, nth_at c1, Option.bind_some, idx_nat, nth_at c2, Option.bind_some]
        by_cases c3 : nth A n ≤ nth D n
        · rw [decide_eq_true (by omega)]
          simp only [bindF]
          rw [if_pos trivial, wadd_of (by omega) (by omega), ok_some, flok_nx]
          refine ⟨⟨n + 1, by omega, by omega, by omega, fun i hi => ?_⟩, by omega⟩
          by_cases e : i = n
          · subst e; exact c3
          · exact h3 i (by omega)
        · rw [decide_eq_false (by omega)]
          simp only [bindF]
          rw [if_neg (by decide), ok_some, flok_br]
          exact ⟨n, rfl, h1, h2, h3, fun _ _ => by omega⟩
      · rw [if_neg (by rw [decide_eq_true_eq]; omega)]
        simp only [bindF]
        rw [if_neg (by decide), ok_some, flok_br]
        exact ⟨n, rfl, h1, h2, h3, fun _ h => by omega⟩
    · rw [if_neg (by rw [decide_eq_true_eq]; omega)]
      simp only [bindF]
      rw [if_neg (by decide), ok_some, flok_br]
      exact ⟨n, rfl, h1, h2, h3, fun h _ => by omega⟩
  obtain ⟨v, ev, hv⟩ := hloop
  cases v with
  | br _ => exact hv.elim
  | rt _ => exact hv.elim
  | nx x =>
    obtain ⟨n, rfl, hn⟩ := hv
    refine ⟨D, A, n, hD, hA, hn, by rw [em, Option.bind_some, eD], eA, ?_⟩
    unfold units_Meet_m
    rw [bids_check hb (by decide) (by decide), Option.bind_some, if_neg (by decide), bids_check hs (by decide) (by decide), Option.bind_some, if_neg (by decide), clone_int (by omega), Option.bind_some, clone_int (by omega), Option.bind_some, em, Option.bind_some, eD, Option.bind_some, eA, Option.bind_some, ev]
    simp only [bindR]
    by_cases h0 : n = 0
    · subst h0; rfl
    · have nd := hn.d
      have na := hn.a
      rw [if_neg (by rw [beq_iff_eq]; omega), if_neg h0, wsub_of (by omega) (by omega), show (n : Int) - 1 = ((n - 1 : Nat) : Int) by omega, idx_nat, nth_at (by omega), Option.bind_some, idx_nat, nth_at (by omega), Option.bind_some]
      by_cases c1 : n < D.length
      · rw [if_pos (by rw [decide_eq_true_eq]; omega), idx_nat, nth_at c1, Option.bind_some]
        by_cases c2 : n < A.length
        · simp only [c1, c2, true_and, gt_iff_lt]
          rw [if_pos (by rw [decide_eq_true_eq]; omega), idx_nat, nth_at c2, Option.bind_some]
        · simp only [c1, c2, true_and, false_and, gt_iff_lt, if_false]
          rw [if_neg (by rw [decide_eq_true_eq]; omega)]
      · rw [if_neg (by rw [decide_eq_true_eq]; omega)]
        by_cases c2 : n < A.length
        · simp only [c1, c2, true_and, false_and, gt_iff_lt, if_false]
          rw [if_pos (by rw [decide_eq_true_eq]; omega), idx_nat, nth_at c2, Option.bind_some]
        · simp only [c1, c2, false_and, gt_iff_lt, if_false]
          rw [if_neg (by rw [decide_eq_true_eq]; omega)]
/-- how many are so -/
theorem count_ok {γ ρ : Type} {bd : Nat → Int → Option (Fl ρ Int Int)} {l : List Int} {q : Int → Bool} (hl : l.length ≤ 1000) (h : ∀ i x, i < l.length → bd i x = some (.nx (if q (nth l i) = true then wadd x 1 else x))) : rangeN (γ := γ) bd l.length 0 (0 : Int) = some (.nx (l.countP q : Int)) := by
  have key : Ok (rangeN (γ := γ) bd l.length 0 (0 : Int)) (FlOk (fun x => x = (l.countP q : Int)) (fun _ => False) (fun _ => False)) := by
    refine ok_rangeN (fun k x => x = ((l.take k).countP q : Int)) (by simp) (fun k x hk hI => ?_) fun x hx => by rw [hx, List.take_length]
    subst hI
    have hc : (l.take k).countP q ≤ k := Nat.le_trans List.countP_le_length (by rw [List.length_take]; omega)
    rw [h k _ hk, ok_some, flok_nx, List.take_succ, List.countP_append, nth_at hk]
    by_cases hq : q (nth l k) = true
    · rw [if_pos hq, wadd_of (by omega) (by omega)]; simp [hq]
    · rw [if_neg hq]; simp [hq]
  obtain ⟨v, e, hv⟩ := key
  cases v with
  | br _ => exact hv.elim
  | rt _ => exact hv.elim
  | nx x => rw [flok_nx] at hv; rw [e, hv]
end Go.Pu
/- The plain law: who stands in the middle is beaten by nobody; of an odd number of votes it beats all others. -/
set_option linter.all false
namespace Go.Pu
open Go.Fw Go.Mo
theorem duel_count (v : List (List Int)) (a b : Nat) : duel v a b = (v.countP (fun p => bf p a b) : Int) := by
  induction v with
  | nil => rfl
  | cons p v ih =>
    simp only [duel, ih, List.countP_cons]
    split <;> omega
/-- where on the line the first of a vote stands -/
def topOf (line p : List Int) : Int := (line.idxOf (nth p 0) : Int)
/-- the one in the middle -/
structure Mid (n : Nat) (v : List (List Int)) (K : Nat) : Prop where
  lt : K < n
  ge : ∀ y, y < n → y ≠ K → (v.length : Int) ≤ 2 * duel v K y
  odd : v.length % 2 = 1 → ∀ y, y < n → y ≠ K → (v.length : Int) < 2 * duel v K y
theorem idx_of_int {n : Nat} {line : List Int} (hl : Ord n line) {x : Int} (h0 : 0 ≤ x) (h1 : x < n) : line.idxOf x < n ∧ nth line (line.idxOf x) = x := by
  obtain ⟨a, rfl⟩ : ∃ a : Nat, x = a := ⟨x.toNat, by omega⟩
  exact ⟨hl.idx_lt (by omega), hl.at_idx (by omega)⟩
theorem middle_ok {n : Nat} {line : List Int} {v : List (List Int)} (h0 : 1 ≤ n) (h6 : n ≤ 6) (hl : Ord n line) (h : AlongV n line v) (hv : v ≠ []) : ∃ K : Nat, peak_Middle_m line v = some ((K : Int), 0) ∧ Mid n v K := by
  have hvl : 0 < v.length := List.length_pos_iff.2 hv
  have h30 := h.len
  have top : ∀ p ∈ v, 0 ≤ nth p 0 ∧ nth p 0 < n := fun p hp => (h.ok p hp).1.val (by omega)
  have loop : rangeL (γ := Unit) (peak_Middle_b1 line) v 0 ([] : List Int) = some (.nx (v.map (topOf line)) : Fl (Int × Int) Unit (List Int)) := by
    have key : Ok (rangeL (γ := Unit) (peak_Middle_b1 line) v 0 ([] : List Int)) (FlOk (fun w => w = v.map (topOf line)) (fun _ => False) (fun _ => False)) := by
      refine ok_rangeL (fun k w => w = (v.take k).map (topOf line)) rfl (fun k p w hk hI => ?_) fun w hw => by rw [hw, List.take_length]
      subst hI
      have hp := List.mem_of_getElem? hk
      have hkl := (List.getElem?_eq_some_iff.1 hk).1
      have ht := top p hp
      unfold peak_Middle_b1
      rw [show (0 : Int) = ((0 : Nat) : Int) from rfl, idx_nat, nth_at (by rw [(h.ok p hp).1.len]; omega), Option.bind_some, index_ok, if_pos ((hl.mem _).2 ht), Option.bind_some, chk_t (by rw [List.length_map, List.length_take]; simp; omega), Option.bind_some, ok_some, flok_nx, List.take_succ, hk]
      simp [topOf]
    obtain ⟨x, e, hx⟩ := key
    cases x with
    | nx s => rw [flok_nx] at hx; rw [e, hx]
    | br _ => exact hx.elim
    | rt _ => exact hx.elim
  have hml : (v.map (topOf line)).length = v.length := List.length_map _
  obtain ⟨s, es, hp, ha⟩ := sort_any (l := v.map (topOf line)) (by rw [hml]; omega)
  have U : UpS (v.map (topOf line)) s := ⟨hp, ha⟩
  have hsl : s.length = v.length := by rw [U.len, hml]
  obtain ⟨q, hq⟩ : ∃ q, q = (v.length - 1) / 2 := ⟨_, rfl⟩
  have hqs : q < s.length := by omega
  have hmem := U.mem hqs
  obtain ⟨p0, hp0, e0⟩ := List.mem_map.1 hmem
  have t0 := top p0 hp0
  have i0 := idx_of_int hl t0.1 t0.2
  obtain ⟨M, hM⟩ : ∃ M : Nat, nth s q = M := ⟨line.idxOf (nth p0 0), by rw [← e0]; rfl⟩
  have hMn : M < n := by unfold topOf at e0; omega
  have vM := hl.val hMn
  obtain ⟨K, hK⟩ : ∃ K : Nat, nth line M = K := ⟨(nth line M).toNat, by omega⟩
  have hKn : K < n := by omega
  have hKi : line.idxOf (K : Int) = M := by rw [← hK]; exact hl.idx hMn
  refine ⟨K, ?_, ?_⟩
  · unfold peak_Middle_m
    rw [all_al h0 h6 hl h, Option.bind_some]
    dsimp only
    rw [if_neg (by decide), if_neg (by decide), if_neg (by rw [beq_iff_eq]; omega), loop]
    simp only [bindR]
    rw [es, Option.bind_some, chk_t (by decide), Option.bind_some, wsub_of (by omega) (by omega), Int.tdiv_eq_ediv_of_nonneg (by omega), show IntKind.wrap .i64 (((s.length : Int) - 1) / 2) = ((q : Nat) : Int) by rw [IntKind.wrap_i64]; omega, idx_nat, nth_at hqs, Option.bind_some, hM, idx_nat, nth_at (by rw [hl.len]; exact hMn), Option.bind_some, hK]
  · -- so many have their first there or below, so many there or above
    have c1 : q < (v.map (topOf line)).countP (fun x => decide (x ≤ (M : Int))) := (U.le (M : Int) hqs).1 (by omega)
    have c2 : (v.map (topOf line)).countP (fun x => decide (x < (M : Int))) ≤ q := by
      apply Nat.le_of_not_lt; intro hc
      have := (U.lt (M : Int) hqs).2 hc
      omega
    rw [List.countP_map] at c1 c2
    have c3 := List.length_eq_countP_add_countP ((fun x => decide (x < (M : Int))) ∘ topOf line) (l := v)
    have tops : ∀ p ∈ v, ∃ a : Nat, a < n ∧ nth p 0 = (a : Int) ∧ topOf line p = (line.idxOf (a : Int) : Int) ∧ ∀ y, y < n → y ≠ a → bf p a y = true := fun p hp => by
      have ht := top p hp
      obtain ⟨a, ea⟩ : ∃ a : Nat, nth p 0 = (a : Int) := ⟨(nth p 0).toNat, by omega⟩
      refine ⟨a, by omega, ea, by unfold topOf; rw [ea], fun y hy hne => ?_⟩
      have hpo := (h.ok p hp).1
      have ia : p.idxOf (a : Int) = 0 := by rw [← ea]; exact hpo.idx (by omega)
      have : p.idxOf (y : Int) ≠ 0 := fun e => hne (hpo.idx_inj hy (by omega) (by omega))
      unfold bf; rw [decide_eq_true_eq]; omega
    -- who has his first on this side puts K ahead of those beyond
    have side : ∀ p ∈ v, ∀ y, y < n → y ≠ K → ((topOf line p ≤ (M : Int) ∧ M < line.idxOf (y : Int)) ∨ ((M : Int) ≤ topOf line p ∧ line.idxOf (y : Int) < M)) → bf p K y = true := by
      intro p hp y hy hne hs
      obtain ⟨a, ha, ea, et, hb⟩ := tops p hp
      by_cases haK : a = K
      · subst haK; exact hb y hy hne
      · have hne2 : line.idxOf (a : Int) ≠ M := fun e => haK (hl.idx_inj ha hKn (by omega))
        have hm : btw line a K y := by
          unfold btw; rw [hKi]; omega
        have hay : y ≠ a := fun e => by subst e; omega
        rcases btw_bf h0 hl (h.ok p hp).1 (h.ok p hp).2 ha hKn hy hm with hh | hh
        · have := hb K hKn (Ne.symm haK)
          have := bf_or (h.ok p hp).1 ha hKn haK
          rw [hh] at this; simp_all
        · exact hh
    have all : ∀ y, y < n → y ≠ K → (q : Int) + 1 ≤ duel v K y := by
      intro y hy hne
      have hyM : line.idxOf (y : Int) ≠ M := fun e => hne (hl.idx_inj hy hKn (by omega))
      rw [duel_count]
      rcases Nat.lt_or_gt_of_ne hyM with hlt | hgt
      · have : v.countP (fun p => decide ¬((fun x => decide (x < (M : Int))) ∘ topOf line) p = true) ≤ v.countP (fun p => bf p K y) := List.countP_mono_left fun p hp hh => by
          rw [decide_eq_true_eq, Function.comp, decide_eq_true_eq] at hh
          exact side p hp y hy hne (.inr ⟨by omega, hlt⟩)
        omega
      · have : v.countP ((fun x => decide (x ≤ (M : Int))) ∘ topOf line) ≤ v.countP (fun p => bf p K y) := List.countP_mono_left fun p hp hh => by
          rw [Function.comp, decide_eq_true_eq] at hh
          exact side p hp y hy hne (.inl ⟨hh, hgt⟩)
        omega
    exact ⟨hKn, fun y hy hne => by have := all y hy hne; omega, fun hodd y hy hne => by have := all y hy hne; omega⟩
theorem Mid.beats {n : Nat} {v : List (List Int)} {K : Nat} (hv : ∀ p ∈ v, Ord n p) (h : Mid n v K) (hodd : v.length % 2 = 1) : Beats n (duel v) K := fun y hy hne => by
  have := h.odd hodd y hy hne
  have := duel_sum hv h.lt hy (Ne.symm hne)
  omega
theorem PeakBlack (x0 : Int) (_ : (Lit.int .i64 x0).wf = true) (x1 : List Int) (h1 : (∀ x ∈ x1, (Lit.int .i64 x).wf = true) ∧ x1.length ≤ maxLen) (x2 : List (List Int)) (h2 : (∀ r ∈ x2, (∀ x ∈ r, (Lit.int .i64 x).wf = true) ∧ r.length ≤ maxLen) ∧ x2.length ≤ maxLen) : pk_PeakBlack_m x0 x1 x2 = some true := by
  obtain ⟨n, n1, n6, hn⟩ := one_within x0 6 (by decide) (by decide)
  rw [show ((6 : Nat) : Int) = 6 from rfl] at hn
  obtain ⟨line, el, hl⟩ := orderOf_ok n x1 n1 (by omega)
  apply Ok.eq
  unfold pk_PeakBlack_m
  have hm : (if (30 : Int) < (x2.length : Int) then (30 : Int) else (x2.length : Int)) = ((min 30 x2.length : Nat) : Int) := by omega
  rw [peaks_y, tallies_t, Option.bind_some, if_neg (by decide), Option.bind_some, ok_bindR, ok_some, flok_nx, if_neg (by decide), within_at x0 6 (by decide) (by decide), Option.bind_some, hn, el, Option.bind_some, hm, chk_t ⟨by omega, by omega⟩, Option.bind_some, Int.toNat_natCast, List.drop_zero]
  obtain ⟨v, ev, hv, hvl⟩ := alongs_ok (ρ := Bool) (β := Unit) n1 n6 hl (b := pk_PeakBlack_b1 line) (fun i x w => rfl) x2 (fun r hr => (h2.1 r hr).2)
  rw [ev]
  simp only [bindR]
  have hV := hv.votes
  have h30 := hv.len
  rw [all_al n1 n6 hl hv, Option.bind_some]
  by_cases hz : v = []
  · subst hz
    have em : peak_Middle_m line [] = some (0, 4) := by
      unfold peak_Middle_m
      rw [all_al n1 n6 hl hv, Option.bind_some]; rfl
    rw [em, Option.bind_some]
    dsimp only
    rw [if_neg (by decide)]
    dsimp only
    rw [if_neg (by decide), if_pos (by decide), ok_some]; rfl
  · obtain ⟨K, em, hK⟩ := middle_ok n1 n6 hl hv hz
    obtain ⟨T, eT, hT⟩ := duels_ok n1 n6 hV
    obtain ⟨bx, be, eB, hB⟩ := beater_ok n1 n6 hV
    have hlen : 0 < v.length := List.length_pos_iff.2 hz
    have hKn := hK.lt
    rw [em, Option.bind_some]
    dsimp only
    rw [if_neg (by decide)]
    dsimp only
    rw [if_neg (by decide), if_neg (by rw [beq_iff_eq]; omega), eT, Option.bind_some, eB, Option.bind_some, good_at]
    dsimp only
    rw [Option.bind_some, if_neg (by decide), if_neg (by rw [decide_eq_true_eq]; omega), if_neg (by rw [decide_eq_true_eq]; omega), tableOf_ok hT, Option.bind_some]
    dsimp only
    rw [if_neg (by decide), chk_t (by omega), Option.bind_some, Int.toNat_natCast]
    have fin : Ok (rangeN (γ := Unit) (pk_PeakBlack_b2 (T, (0 : Int)) ((K : Int), (0 : Int))) n 0 ()) (FlOk (fun _ => True) (fun _ => False) (fun _ => False)) := by
      refine ok_rangeN (fun _ _ => True) trivial (fun y _ hy _ => ?_) fun _ _ => trivial
      unfold pk_PeakBlack_b2
      dsimp only
      simp only [idx_nat, hT.row? hKn, hT.row? hy, Option.bind_some, hT.cell? hKn hy, hT.cell? hy hKn]
      have : ¬ duel v K y < duel v y K := by
        by_cases e : y = K
        · subst e; omega
        · have := hK.ge y hy e
          have := duel_sum hV.2 hKn hy (Ne.symm e)
          omega
      rw [if_neg (by rw [decide_eq_true_eq]; exact this), ok_some, flok_nx]; trivial
    obtain ⟨z, ez, hz'⟩ := fin
    cases z with
    | br _ => exact hz'.elim
    | rt _ => exact hz'.elim
    | nx z =>
      rw [ez]
      dsimp only
      rw [chk_t (show (2 : Int) ≠ 0 by decide), Option.bind_some, Int.tmod_eq_emod_of_nonneg (by omega)]
      by_cases ho : v.length % 2 = 1
      · rw [if_neg (by rw [beq_iff_eq]; omega)]
        have hb := hK.beats hV.2 ho
        rcases hB with ⟨a, ha, rfl, rfl, hba⟩ | ⟨_, _, hno⟩
        · have := Beats.one ha hKn hba hb
          subst this
          rw [if_pos (by decide)]
          simp [ok_some]
        · exact absurd hb (hno K hKn)
      · rw [if_pos (by rw [beq_iff_eq]; omega)]
        simp [ok_some]
end Go.Pu
/- The order that is nearest to all votes. -/
set_option linter.all false
namespace Go.Pu
open Go.Fw Go.Mo
/-- votes against an order, in its duels -/
def cost (n : Nat) (d : Nat → Nat → Int) (p : List Int) : Int := sumN n (fun x => sumN n (fun y => if bf p x y then d y x else 0))
theorem cost_pos {n : Nat} {d : Nat → Nat → Int} {p : List Int} (hp : Ord n p) : cost n d p = sumN n (fun i => sumN n (fun j => if i < j then d (nth p j).toNat (nth p i).toNat else 0)) := by
  unfold cost
  rw [← ord_sum hp (fun x => sumN n (fun y => if bf p x y then d y x else 0))]
  refine sumN_congr fun i hi => ?_
  rw [← ord_sum hp (fun y => if bf p (nth p i).toNat y then d y (nth p i).toNat else 0)]
  exact sumN_congr fun j hj => by rw [bf_at hp hi hj]; simp
theorem row_bound {n k : Nat} {f : Nat → Int} (hk : k ≤ n) (h : ∀ x, x < n → 0 ≤ f x ∧ f x ≤ 30) : 0 ≤ sumN k f ∧ sumN k f ≤ 30 * k := by
  induction k with
  | zero => simp [sumN]
  | succ k ih => have := ih (by omega); have := h k (by omega); simp only [sumN]; omega
theorem cost_one {n : Nat} {m : List (List Int)} {d : Nat → Nat → Int} (h6 : n ≤ 6) (hM : Mat n n m d) (hd : ∀ x y, x < n → y < n → 0 ≤ d x y ∧ d x y ≤ 30) {p : List Int} (hp : Ord n p) (e : Int) :
    Ok (rangeL (γ := (List Int) × Int) (middle_Best_b2 p (m, e)) p 0 (0 : Int)) (FlOk (fun c => c = cost n d p) (fun _ => False) (fun _ => False)) := by
  have hpl := hp.len
  have pd : ∀ i j, i < n → j < n → 0 ≤ (if i < j then d (nth p j).toNat (nth p i).toNat else 0) ∧ (if i < j then d (nth p j).toNat (nth p i).toNat else 0) ≤ 30 := fun i j hi hj => by
    have vi := hp.val hi; have vj := hp.val hj
    have := hd (nth p j).toNat (nth p i).toNat (by omega) (by omega)
    split <;> omega
  have rb : ∀ i k, i < n → k ≤ n → 0 ≤ sumN k (fun j => if i < j then d (nth p j).toNat (nth p i).toNat else 0) ∧ sumN k (fun j => if i < j then d (nth p j).toNat (nth p i).toNat else 0) ≤ 30 * k := fun i k hi hk => row_bound hk fun j hj => pd i j hi hj
  have tb : ∀ k, k ≤ n → 0 ≤ sumN k (fun i => sumN n (fun j => if i < j then d (nth p j).toNat (nth p i).toNat else 0)) ∧ sumN k (fun i => sumN n (fun j => if i < j then d (nth p j).toNat (nth p i).toNat else 0)) ≤ 180 * k := by
    intro k
    induction k with
    | zero => simp [sumN]
    | succ k ih => intro hk; have := ih (by omega); have := rb k n (by omega) (Nat.le_refl _); simp only [sumN]; omega
  refine ok_rangeL (s := (0 : Int)) (fun (i : Nat) (c : Int) => c = sumN i (fun i => sumN n (fun j => if i < j then d (nth p j).toNat (nth p i).toNat else 0))) rfl (fun i x c hi hc => ?_) fun c hc => by rw [hc, hpl, cost_pos hp]
  obtain ⟨hx, hil⟩ := nth_of hi
  rw [hpl] at hil
  have vi := hp.val hil
  unfold middle_Best_b2
  rw [wadd_of (by omega) (by omega), List.take_length, show ((i : Int) + 1).toNat = i + 1 by omega]
  simp only [ok_bind, ok_chk, ok_bindF, ok_some]
  refine ⟨by omega, ?_⟩
  refine ok_rangeL (fun (j : Nat) (c' : Int) => c' = c + sumN (i + 1 + j) (fun j => if i < j then d (nth p j).toNat (nth p i).toNat else 0)) ?_ (fun j y c' hj hc' => ?_) fun c' hc' => ?_
  · rw [Nat.add_zero, sumN_congr (g := fun _ => 0) (fun j hj => if_neg (by omega)), sumN_zero]; omega
  · have hjl := (List.getElem?_eq_some_iff.1 hj).1
    rw [List.length_drop] at hjl
    rw [List.getElem?_drop] at hj
    obtain ⟨hy, hjn⟩ := nth_of hj
    rw [hpl] at hjn
    have vj := hp.val hjn
    have r1 := rb i (i + 1 + j) hil (by omega)
    have t1 := tb i (by omega)
    subst hx hy
    obtain ⟨a, ha⟩ : ∃ a : Nat, nth p i = a := ⟨(nth p i).toNat, by omega⟩
    obtain ⟨b, hb⟩ : ∃ b : Nat, nth p (i + 1 + j) = b := ⟨(nth p (i + 1 + j)).toNat, by omega⟩
    have han : a < n := by omega
    have hbn : b < n := by omega
    have dv := hd b a hbn han
    have e1 : sumN (i + 1 + (j + 1)) (fun j => if i < j then d (nth p j).toNat (nth p i).toNat else 0) = sumN (i + 1 + j) (fun j => if i < j then d (nth p j).toNat (nth p i).toNat else 0) + d b a := by
      rw [show i + 1 + (j + 1) = (i + 1 + j) + 1 by omega]
      simp only [sumN]
      rw [if_pos (by omega), hb, ha, Int.toNat_natCast, Int.toNat_natCast]
    have e2 : middle_Best_b3 (m, e) (nth p i) j (nth p (i + 1 + j)) c' = some (.nx (wadd c' (d b a))) := by
      unfold middle_Best_b3
      rw [hb, ha]
      simp only [idx_nat, hM.row? hbn, hM.cell? hbn han, Option.bind_some]
    rw [e2, ok_some, flok_nx, wadd_of (by omega) (by omega), e1]; omega
  · rw [List.length_drop, hpl, show i + 1 + (n - (i + 1)) = n by omega] at hc'
    rw [hc', hc]; rfl
theorem cost_bound {n : Nat} {d : Nat → Nat → Int} (h6 : n ≤ 6) (hd : ∀ x y, x < n → y < n → 0 ≤ d x y ∧ d x y ≤ 30) (p : List Int) : 0 ≤ cost n d p ∧ cost n d p ≤ 1080 := by
  have r : ∀ x, x < n → 0 ≤ sumN n (fun y => if bf p x y then d y x else 0) ∧ sumN n (fun y => if bf p x y then d y x else 0) ≤ 180 := fun x hx => by
    have := row_bound (k := n) (n := n) (f := fun y => if bf p x y then d y x else 0) (Nat.le_refl _) fun y hy => by have := hd y x hy hx; split <;> omega
    omega
  have l := sumN_le (n := n) (f := fun _ => 0) fun x hx => (r x hx).1
  have u := sumN_le (n := n) (g := fun _ => 180) fun x hx => (r x hx).2
  rw [sumN_zero] at l
  rw [sumN_const] at u
  unfold cost; omega
theorem best_ok {n : Nat} {v : List (List Int)} (h1 : 1 ≤ n) (h6 : n ≤ 6) (hv : Votes n v) : ∃ p, middle_Best_m (n : Int) v = some (p, cost n (duel v) p, 0) ∧ Ord n p ∧ ∀ q, Ord n q → cost n (duel v) p ≤ cost n (duel v) q := by
  obtain ⟨m, em, hM⟩ := duels_ok h1 h6 hv
  obtain ⟨l, el, hR, hlen⟩ := all_ok h1 h6
  have hd : ∀ x y, x < n → y < n → 0 ≤ duel v x y ∧ duel v x y ≤ 30 := fun x y _ _ => by have := duel_bound v x y; have := hv.1; omega
  have : Ok (middle_Best_m (n : Int) v) (fun r => r.2.2 = 0 ∧ Ord n r.1 ∧ r.2.1 = cost n (duel v) r.1 ∧ ∀ q, Ord n q → r.2.1 ≤ cost n (duel v) q) := by
    unfold middle_Best_m
    rw [em, el]
    simp only [ok_bind, ok_bindR, ok_ite, ok_some, bne_self_eq_false, Bool.false_eq_true, false_implies, true_and, not_false_eq_true, true_implies]
    refine ok_rangeN (s := (([] : List Int), (-1 : Int))) (fun (k : Nat) (s : List Int × Int) => (k = 0 → s.2 = -1) ∧ (0 < k → Ord n s.1 ∧ s.2 = cost n (duel v) s.1 ∧ ∀ i, i < k → s.2 ≤ cost n (duel v) (nth l i))) ⟨fun _ => rfl, fun h => by omega⟩ (fun k s hk hs => ?_) fun s hs => ?_
    · obtain ⟨b, c⟩ := s
      obtain ⟨s1, s2⟩ := hs
      simp only at s1 s2
      have hrow := rows_ord (hR.row _ (nth_mem hk))
      have cb := cost_bound h6 hd (nth l k)
      unfold middle_Best_b1
      rw [idx_nat, nth_at hk]
      simp only [Option.bind_some, ok_bindF]
      refine (cost_one h6 hM hd hrow 0).mono fun r hr => ?_
      cases r with
      | br _ => exact hr.elim
      | rt _ => exact hr.elim
      | nx c' =>
        have hc' : c' = cost n (duel v) (nth l k) := hr
        subst hc'
        simp only [flok_nx, ok_ite, ok_some, decide_eq_true_eq]
        have new : (k = 0 ∨ cost n (duel v) (nth l k) < c) → (k + 1 = 0 → cost n (duel v) (nth l k) = -1) ∧ (0 < k + 1 → Ord n (nth l k) ∧ True ∧ ∀ i, i < k + 1 → cost n (duel v) (nth l k) ≤ cost n (duel v) (nth l i)) := fun hh => by
          refine ⟨fun h => by omega, fun _ => ⟨hrow, trivial, fun i hi => ?_⟩⟩
          by_cases hik : i = k
          · subst hik; exact Int.le_refl _
          · have := (s2 (by omega)).2.2 i (by omega); omega
        have old : 0 < k → ¬ cost n (duel v) (nth l k) < c → (k + 1 = 0 → c = -1) ∧ (0 < k + 1 → Ord n b ∧ c = cost n (duel v) b ∧ ∀ i, i < k + 1 → c ≤ cost n (duel v) (nth l i)) := fun h0 hh => by
          obtain ⟨t1, t2, t3⟩ := s2 h0
          refine ⟨fun h => by omega, fun _ => ⟨t1, t2, fun i hi => ?_⟩⟩
          by_cases hik : i = k
          · subst hik; omega
          · exact t3 i (by omega)
        refine ⟨fun hneg => ⟨fun _ => new ?_, fun hh => absurd trivial hh⟩, fun hnn => ⟨fun hlt => new (.inr hlt), fun hge => old ?_ hge⟩⟩
        · refine Classical.byContradiction fun hh => ?_
          have := (s2 (by omega)).2.1
          have := cost_bound h6 hd b
          omega
        · refine Nat.pos_of_ne_zero fun h0 => ?_
          have := s1 h0; omega
    · have hpos : 0 < l.length := by
        have := hR.all (sides n) (ord_row (sides_ord n))
        exact List.length_pos_of_mem this
      obtain ⟨t1, t2, t3⟩ := hs.2 hpos
      refine ⟨t1, t2, fun q hq => ?_⟩
      obtain ⟨i, hi, e⟩ := mem_nth (hR.all q (ord_row hq))
      have := t3 i hi
      rwa [e] at this
  obtain ⟨⟨p, c, e⟩, g1, g2, g3, g4, g5⟩ := this
  simp only at g2 g3 g4 g5
  subst g2 g4
  exact ⟨p, g1, g3, g5⟩
/-- two that are next to one another, the other way round -/
def swap (p : List Int) (k : Nat) : List Int := (p.set k (nth p (k + 1))).set (k + 1) (nth p k)
theorem swap_nth {p : List Int} {k i : Nat} (h : k + 1 < p.length) : nth (swap p k) i = if i = k then nth p (k + 1) else if i = k + 1 then nth p k else nth p i := by
  unfold swap
  rw [nth_set (by simpa using h)]
  by_cases h1 : i = k + 1
  · subst h1; rw [if_pos rfl, if_neg (by omega), if_pos rfl]
  · rw [if_neg h1, nth_set (by omega), if_neg h1]
theorem swap_ord {n : Nat} {p : List Int} (hp : Ord n p) {k : Nat} (hk : k + 1 < n) : Ord n (swap p k) := by
  have hl := hp.len
  have hlen : (swap p k).length = n := by unfold swap; simp [hl]
  refine rows_ord ⟨hlen, ?_, fun x hx => ?_⟩
  · refine List.pairwise_iff_getElem.2 fun i j hi hj hij => ?_
    rw [hlen] at hi hj
    rw [← nth_get, ← nth_get, swap_nth (by omega), swap_nth (by omega)]
    have inj : ∀ a b, a < n → b < n → a ≠ b → nth p a ≠ nth p b := fun a b ha hb hab e => by
      have e1 := hp.idx ha; have e2 := hp.idx hb
      rw [e] at e1; omega
    split <;> (try split) <;> (try split) <;> (try split) <;> (refine inj _ _ ?_ ?_ ?_ <;> omega)
  · obtain ⟨i, hi, rfl⟩ := mem_nth hx
    rw [hlen] at hi
    rw [swap_nth (by omega)]
    split
    · exact hp.val hk
    · split
      · exact hp.val (by omega)
      · exact hp.val hi
theorem swap_bf {n : Nat} {p : List Int} (hp : Ord n p) {k a b x y : Nat} (hk : k + 1 < n) (ha : nth p k = a) (hb : nth p (k + 1) = b) (hx : x < n) (hy : y < n) : bf (swap p k) x y = if x = a ∧ y = b then false else if x = b ∧ y = a then true else bf p x y := by
  have hs := swap_ord hp hk
  have hl := hp.len
  have va := hp.val (show k < n by omega); have vb := hp.val hk
  have han : a < n := by omega
  have hbn : b < n := by omega
  have ia : p.idxOf (a : Int) = k := by rw [← ha]; exact hp.idx (by omega)
  have ib : p.idxOf (b : Int) = k + 1 := by rw [← hb]; exact hp.idx hk
  have idx' : ∀ z, z < n → (swap p k).idxOf (z : Int) = if z = a then k + 1 else if z = b then k else p.idxOf (z : Int) := fun z hz => by
    have hi := hp.idx_lt hz
    have hat := hp.at_idx hz
    by_cases hza : z = a
    · subst hza
      rw [if_pos rfl]
      have := hs.idx hk
      rw [swap_nth (by omega), if_neg (by omega), if_pos rfl, ha] at this
      exact this
    · rw [if_neg hza]
      by_cases hzb : z = b
      · subst hzb
        rw [if_pos rfl]
        have := hs.idx (show k < n by omega)
        rw [swap_nth (by omega), if_pos rfl, hb] at this
        exact this
      · rw [if_neg hzb]
        have := hs.idx hi
        rw [swap_nth (by omega), if_neg (fun e => hza (hp.idx_inj hz han (by omega))), if_neg (fun e => hzb (hp.idx_inj hz hbn (by omega))), hat] at this
        exact this
  have hab : a ≠ b := fun e => by subst e; omega
  unfold bf
  rw [idx' x hx, idx' y hy]
  have ix := hp.idx_lt hx; have iy := hp.idx_lt hy
  have jx : ∀ z, z < n → z ≠ a → z ≠ b → p.idxOf (z : Int) ≠ k ∧ p.idxOf (z : Int) ≠ k + 1 := fun z hz h1 h2 => ⟨fun e => h1 (hp.idx_inj hz han (by omega)), fun e => h2 (hp.idx_inj hz hbn (by omega))⟩
  by_cases hxa : x = a
  · subst hxa
    by_cases hyb : y = b
    · subst hyb; rw [if_pos rfl, if_neg (Ne.symm hab), if_pos rfl, if_pos ⟨rfl, rfl⟩]; simp
    · rw [if_neg (by omega : ¬ (x = x ∧ y = b)), if_neg (by omega : ¬ (x = b ∧ y = x)), if_pos rfl]
      by_cases hyx : y = x
      · subst hyx; rw [if_pos rfl]; simp
      · have := jx y hy hyx hyb
        rw [if_neg hyx, if_neg hyb, ia]
        exact Bool.eq_iff_iff.2 (by simp; omega)
  · by_cases hxb : x = b
    · subst hxb
      rw [if_neg (by omega : ¬ (x = a ∧ y = x)), if_neg hxa, if_pos rfl]
      by_cases hya : y = a
      · subst hya; rw [if_pos rfl, if_pos ⟨rfl, rfl⟩]; simp
      · rw [if_neg hya, if_neg (by omega : ¬ (x = x ∧ y = a))]
        by_cases hyx : y = x
        · subst hyx; rw [if_pos rfl]; simp
        · have := jx y hy hya hyx
          rw [if_neg hyx, ib]
          exact Bool.eq_iff_iff.2 (by simp; omega)
    · rw [if_neg (by omega : ¬ (x = a ∧ y = b)), if_neg (by omega : ¬ (x = b ∧ y = a)), if_neg hxa, if_neg hxb]
      have hxk := jx x hx hxa hxb
      by_cases hya : y = a
      · subst hya; rw [if_pos rfl, ia]; exact Bool.eq_iff_iff.2 (by simp; omega)
      · by_cases hyb : y = b
        · subst hyb; rw [if_neg hya, if_pos rfl, ib]; exact Bool.eq_iff_iff.2 (by simp; omega)
        · rw [if_neg hya, if_neg hyb]
theorem swap_cost {n : Nat} {d : Nat → Nat → Int} {p : List Int} (hp : Ord n p) {k a b : Nat} (hk : k + 1 < n) (ha : nth p k = a) (hb : nth p (k + 1) = b) : cost n d (swap p k) = cost n d p + d a b - d b a := by
  have va := hp.val (show k < n by omega); have vb := hp.val hk
  have han : a < n := by omega
  have hbn : b < n := by omega
  have hab : a ≠ b := fun e => by
    subst e
    have e1 := hp.idx (show k < n by omega); have e2 := hp.idx hk
    rw [ha] at e1; rw [hb] at e2; omega
  have bab : bf p a b = true := by
    have := bf_at hp (show k < n by omega) hk
    rw [ha, hb, Int.toNat_natCast, Int.toNat_natCast] at this
    rw [this]; simp
  have bba : bf p b a = false := by have := bf_or hp han hbn hab; rw [bab] at this; cases h : bf p b a with | false => rfl | true => rw [h] at this; cases this
  have e : cost n d (swap p k) + sumN n (fun x => if x = a then d b a else 0) = cost n d p + sumN n (fun x => if x = b then d a b else 0) := by
    unfold cost
    rw [← sumN_add, ← sumN_add]
    refine sumN_congr fun x hx => ?_
    have inner : sumN n (fun y => (if bf (swap p k) x y then d y x else 0) + if y = b then (if x = a then d b a else 0) else 0) = sumN n (fun y => (if bf p x y then d y x else 0) + if y = a then (if x = b then d a b else 0) else 0) := sumN_congr fun y hy => by
      rw [swap_bf hp hk ha hb hx hy]
      by_cases h1 : x = a ∧ y = b
      · obtain ⟨rfl, rfl⟩ := h1
        simp [bab, hab, Ne.symm hab]
      · by_cases h2 : x = b ∧ y = a
        · obtain ⟨rfl, rfl⟩ := h2
          simp [bba, hab, Ne.symm hab]
        · rw [if_neg h1, if_neg h2]
          have z1 : (if y = b then (if x = a then d b a else 0) else 0) = 0 := by
            by_cases hy' : y = b
            · rw [if_pos hy', if_neg (fun e => h1 ⟨e, hy'⟩)]
            · rw [if_neg hy']
          have z2 : (if y = a then (if x = b then d a b else 0) else 0) = 0 := by
            by_cases hy' : y = a
            · rw [if_pos hy', if_neg (fun e => h2 ⟨e, hy'⟩)]
            · rw [if_neg hy']
          rw [z1, z2]
    rw [sumN_add, sumN_add, sumN_single hbn, sumN_single han] at inner
    exact inner
  rw [sumN_single han, sumN_single hbn] at e
  omega
/-- in the nearest order each is not beaten by the next one -/
theorem best_next {n : Nat} {d : Nat → Nat → Int} {p : List Int} (hp : Ord n p) (hb : ∀ q, Ord n q → cost n d p ≤ cost n d q) {k : Nat} (hk : k + 1 < n) : d (nth p (k + 1)).toNat (nth p k).toNat ≤ d (nth p k).toNat (nth p (k + 1)).toNat := by
  have va := hp.val (show k < n by omega); have vb := hp.val hk
  have := hb _ (swap_ord hp hk)
  rw [swap_cost (a := (nth p k).toNat) (b := (nth p (k + 1)).toNat) hp hk (by omega) (by omega)] at this
  omega
end Go.Pu
/- The plain law: who is raised stands one place ahead. -/
set_option linter.all false
namespace Go.Pu
open Go.Fw Go.Mo
theorem place_ok {n : Nat} {p : List Int} (h0 : 1 ≤ n) (h6 : n ≤ 6) (hp : Ord n p) {k : Nat} (hk : k < n) : order_Place_m p (k : Int) = some ((p.idxOf (k : Int) : Int), 0) := by
  unfold order_Place_m
  have hm : (k : Int) ∈ p := (hp.mem _).2 (by omega)
  rw [hp.len, order_check h0 h6 hp, Option.bind_some, if_neg (by simp), index_ok, Option.bind_some, if_pos hm, if_pos (by simp)]
theorem raise_ok {n : Nat} {p : List Int} (h0 : 1 ≤ n) (h6 : n ≤ 6) (hp : Ord n p) {k : Nat} (hk : k < n) : order_Raise_m p (k : Int) = some (if p.idxOf (k : Int) = 0 then ([], 6) else (swap p (p.idxOf (k : Int) - 1), 0)) := by
  unfold order_Raise_m
  have hi := hp.idx_lt hk
  have hl := hp.len
  rw [place_ok h0 h6 hp hk, Option.bind_some, if_neg (by simp)]
  by_cases h : p.idxOf (k : Int) = 0
  · rw [if_pos (by simp [h]), if_pos h]
  · rw [if_neg (by simp; omega), if_neg h, clone_ok p (by omega), Option.bind_some]
    simp only
    have e : wsub ((p.idxOf (k : Int) : Nat) : Int) 1 = ((p.idxOf (k : Int) - 1 : Nat) : Int) := by rw [wsub_of (by omega) (by omega)]; omega
    generalize hq : p.idxOf (k : Int) = q at *
    rw [e]
    simp only [Int.toNat_natCast, idx_nat]
    rw [nth_at (by omega), nth_at (by omega)]
    simp only [Option.bind_some]
    rw [nth_at (by rw [List.length_set]; omega)]
    simp only [Option.bind_some]
    unfold swap
    rw [show q - 1 + 1 = q by omega]
theorem kt_cost (n : Nat) (p q : List Int) : kt n p q = cost n (fun y x => b1 (bf q y x)) p := by
  unfold kt cost
  refine sumN_congr fun x _ => sumN_congr fun y _ => ?_
  cases h : bf p x y <;> simp [b1]
theorem kt_rev {n : Nat} (h1 : 1 ≤ n) (h6 : n ≤ 6) {p : List Int} (hp : Ord n p) : 2 * kt n p p.reverse = n * (n - 1) := by
  have e : kt n p p.reverse = sumN n (fun x => (n : Int) - 1 - p.idxOf (x : Int)) := by
    unfold kt
    refine sumN_congr fun x hx => ?_
    rw [← behind_count hp hx]
    refine sumN_congr fun y hy => ?_
    rw [rev_bf hp hy hx, Bool.and_self]
  have e2 : sumN n (fun x => (n : Int) - 1 - p.idxOf (x : Int)) = sumN n (fun i => (n : Int) - 1 - i) := by
    rw [← ord_sum hp]
    refine sumN_congr fun i hi => ?_
    have v0 := hp.val hi
    have := hp.idx hi
    rw [Int.toNat_of_nonneg v0.1, this]
  rw [e, e2]
  have : n = 1 ∨ n = 2 ∨ n = 3 ∨ n = 4 ∨ n = 5 ∨ n = 6 := by omega
  rcases this with rfl | rfl | rfl | rfl | rfl | rfl <;> rfl
theorem swap_idx {n : Nat} {p : List Int} (hp : Ord n p) {k : Nat} (hk : k + 1 < n) {b : Nat} (hb : nth p (k + 1) = b) : (swap p k).idxOf (b : Int) = k := by
  have ho := swap_ord hp hk
  have : nth (swap p k) k = (b : Int) := by rw [swap_nth (by rw [hp.len]; exact hk), if_pos rfl, hb]
  rw [← this]; exact ho.idx (by omega)
theorem OrderRaise (x0 : Int) (_ : (Lit.int .i64 x0).wf = true) (x1 : List Int) (_ : (∀ x ∈ x1, (Lit.int .i64 x).wf = true) ∧ x1.length ≤ maxLen) (x2 : Int) (_ : (Lit.int .i64 x2).wf = true) : pk_OrderRaise_m x0 x1 x2 = some true := by
  obtain ⟨n, n1, n6, hn⟩ := one_within x0 6 (by decide) (by decide)
  rw [show ((6 : Nat) : Int) = 6 from rfl] at hn
  obtain ⟨p, ep, hp⟩ := orderOf_ok n x1 n1 (by omega)
  have hl := hp.len
  have hr := hp.rev
  have hfar := far_ok n1 n6 hp hr
  have hkt := kt_rev n1 n6 hp
  obtain ⟨k, hk, ek⟩ : ∃ k : Nat, k < n ∧ x2 % (n : Int) = k := ⟨(x2 % (n : Int)).toNat, by have := Int.emod_lt_of_pos x2 (show (0 : Int) < n by omega); omega, by have := Int.emod_nonneg x2 (show (n : Int) ≠ 0 by omega); omega⟩
  have hpl := place_ok n1 n6 hp hk
  have hra := raise_ok n1 n6 hp hk
  have hi := hp.idx_lt hk
  have e0 : order_Raise_m ([(0 : Int), (1 : Int), (2 : Int)]) (2 : Int) = some ([0, 2, 1], 0) := by decide +kernel
  unfold pk_OrderRaise_m
  rw [e0, Option.bind_some]
  simp only [bne_self_eq_false, Bool.false_eq_true, if_false, equal_ok, Option.bind_some, decide_true, Bool.not_true, orders_t, bindR]
  rw [within_at x0 6 (by decide) (by decide), Option.bind_some, hn, ep, Option.bind_some, clone_ok p (by omega), Option.bind_some, reverse_ok p (by omega), Option.bind_some, within_at x2 n (by omega) (by omega), Option.bind_some, ek, hra, Option.bind_some, hpl, Option.bind_some, hfar, Option.bind_some]
  have g2 : pk_good_m [0, 0] = some true := by rw [good_at]; rfl
  have g3 : pk_good_m [0, 0, 0] = some true := by rw [good_at]; rfl
  simp only [g2, Option.bind_some, Bool.not_true, Bool.false_eq_true, if_false]
  have hprod : (n : Int) * ((n : Int) - 1) ≤ 6 * 5 := Int.mul_le_mul (by omega) (by omega) (by omega) (by omega)
  have hprod0 : 0 ≤ (n : Int) * ((n : Int) - 1) := Int.mul_nonneg (by omega) (by omega)
  have ew : IntKind.wrap .i64 (Int.tdiv (wmul (n : Int) (wsub (n : Int) 1)) 2) = kt n p p.reverse := by
    rw [wsub_of (by omega) (by omega), wmul_of (by omega) (by omega), Int.tdiv_eq_ediv_of_nonneg hprod0, ← hkt]
    rw [show 2 * kt n p p.reverse / 2 = kt n p p.reverse by omega]
    have : wadd (kt n p p.reverse) 0 = kt n p p.reverse := by rw [wadd_of (by omega) (by omega)]; omega
    unfold wadd at this; rwa [Int.add_zero] at this
  rw [chk_t (by decide), Option.bind_some, ew]
  simp only [bne_self_eq_false, Bool.false_eq_true, if_false]
  by_cases h : p.idxOf (k : Int) = 0
  · rw [if_pos h]
    simp [h]
  · rw [if_neg h]
    simp only [bne_self_eq_false, Bool.false_eq_true, if_false]
    have hk1 : p.idxOf (k : Int) - 1 + 1 < n := by omega
    obtain ⟨a, ha⟩ : ∃ a : Nat, nth p (p.idxOf (k : Int) - 1) = a := ⟨(nth p (p.idxOf (k : Int) - 1)).toNat, by have := hp.val (k := p.idxOf (k : Int) - 1) (by omega); omega⟩
    have hb : nth p (p.idxOf (k : Int) - 1 + 1) = k := by rw [show p.idxOf (k : Int) - 1 + 1 = p.idxOf (k : Int) by omega]; exact hp.at_idx hk
    have hso := swap_ord hp hk1
    have hsi := swap_idx hp hk1 hb
    have han : a < n := by have := hp.val (k := p.idxOf (k : Int) - 1) (by omega); omega
    have hab : bf p a k = true := by
      unfold bf
      have e1 := hp.idx (k := p.idxOf (k : Int) - 1) (by omega)
      rw [ha] at e1
      rw [e1]; simp; omega
    have hba : bf p k a = false := by have := bf_or hp hk han (fun e => by subst e; rw [bf_self] at hab; cases hab); rw [this, hab]; rfl
    have hplS := place_ok n1 n6 hso hk
    rw [hsi] at hplS
    have hf1 := far_ok n1 n6 hp hso
    have hf2 := far_ok n1 n6 hso hr
    have k1 : kt n p (swap p (p.idxOf (k : Int) - 1)) = 1 := by
      rw [kt_comm, kt_cost, swap_cost hp hk1 ha hb, ← kt_cost, (kt_zero hp hp).2 rfl, hab, hba]; rfl
    have k2 : kt n (swap p (p.idxOf (k : Int) - 1)) p.reverse = kt n p p.reverse - 1 := by
      rw [kt_cost, swap_cost hp hk1 ha hb, ← kt_cost, rev_bf hp han hk, rev_bf hp hk han, hab, hba]
      unfold b1; simp
    rw [k1] at hf1
    rw [k2] at hf2
    rw [hplS, Option.bind_some, hf1, Option.bind_some, hf2, Option.bind_some]
    simp only [g3, Option.bind_some, if_true]
    rw [wsub_of (x := ((p.idxOf (k : Int) : Nat) : Int)) (by omega) (by omega), wsub_of (by omega) (by omega), show ((p.idxOf (k : Int) - 1 : Nat) : Int) = ((p.idxOf (k : Int) : Nat) : Int) - 1 by omega]
    simp
end Go.Pu
/- Somebody is raised in one vote: what becomes of what the rules count. -/
set_option linter.all false
namespace Go.Pu
open Go.Fw Go.Mo
theorem am_nd {g : Nat → Int} {n : Nat} : (am g n).Nodup := List.nodup_range.filter _
theorem am_only {g : Nat → Int} {n a : Nat} (ha : a < n) (h : ∀ j, j < n → j ≠ a → g j < g a) : am g n = [a] := by
  have : (am g n).Perm [a] := (List.perm_ext_iff_of_nodup am_nd (by simp)).2 fun i => by
    rw [am_mem, List.mem_singleton]
    constructor
    · rintro ⟨hi, hm⟩
      refine Classical.byContradiction fun hne => ?_
      have := h i hi hne
      have := hm a ha
      omega
    · rintro rfl
      refine ⟨ha, fun j hj => ?_⟩
      by_cases e : j = i
      · rw [e]; exact Int.le_refl _
      · exact Int.le_of_lt (h j hj e)
  exact List.perm_singleton.1 this
theorem am_ne {g : Nat → Int} {n : Nat} (h1 : 1 ≤ n) : 0 < (am g n).length := by
  obtain ⟨m, hm, hmax⟩ : ∃ m, m < n ∧ ∀ j, j < n → g j ≤ g m := by
    have : ∀ q, q < n → ∃ m, m ≤ q ∧ ∀ j, j ≤ q → g j ≤ g m := by
      intro q
      induction q with
      | zero => intro _; exact ⟨0, Nat.le_refl _, fun j hj => by rw [show j = 0 by omega]; exact Int.le_refl _⟩
      | succ q ih =>
        intro hq
        obtain ⟨m, hm, h⟩ := ih (by omega)
        by_cases c : g (q + 1) ≤ g m
        · exact ⟨m, by omega, fun j hj => by
            by_cases e : j = q + 1
            · rw [e]; exact c
            · exact h j (by omega)⟩
        · exact ⟨q + 1, Nat.le_refl _, fun j hj => by
            by_cases e : j = q + 1
            · rw [e]; exact Int.le_refl _
            · have := h j (by omega); omega⟩
    obtain ⟨m, hm, h⟩ := this (n - 1) (by omega)
    exact ⟨m, by omega, fun j hj => h j (by omega)⟩
  exact List.length_pos_of_mem (am_mem.2 ⟨hm, hmax⟩)
theorem sumN_lt {n : Nat} {f g : Nat → Int} {k : Nat} (hk : k < n) (h : ∀ x, x < n → f x ≤ g x) (hs : f k < g k) : sumN n f < sumN n g := by
  induction n with
  | zero => omega
  | succ n ih =>
    simp only [sumN]
    by_cases e : k = n
    · subst e
      have := sumN_le (n := k) (f := f) (g := g) fun x hx => h x (by omega)
      omega
    · have := ih (by omega) fun x hx => h x (by omega)
      have := h n (by omega)
      omega
theorem duel_set : ∀ (v : List (List Int)) (i : Nat) (q : List Int), i < v.length → ∀ x y, duel (v.set i q) x y = duel v x y - b1 (bf (nth v i) x y) + b1 (bf q x y)
  | [], _, _, h, _, _ => by simp at h
  | p :: v, 0, q, _, x, y => by
    show duel v x y + b1 (bf q x y) = duel v x y + b1 (bf p x y) - b1 (bf p x y) + b1 (bf q x y)
    omega
  | p :: v, i + 1, q, h, x, y => by
    have := duel_set v i q (by simpa using h) x y
    show duel (v.set i q) x y + b1 (bf p x y) = duel v x y + b1 (bf p x y) - b1 (bf (nth v i) x y) + b1 (bf q x y)
    omega
theorem fst1_set : ∀ (v : List (List Int)) (i : Nat) (q : List Int), i < v.length → ∀ x, fst1 (v.set i q) x = fst1 v x - (if (nth v i).idxOf (x : Int) = 0 then 1 else 0) + (if q.idxOf (x : Int) = 0 then 1 else 0)
  | [], _, _, h, _ => by simp at h
  | p :: v, 0, q, _, x => by
    show fst1 v x + (if q.idxOf (x : Int) = 0 then 1 else 0) = fst1 v x + (if p.idxOf (x : Int) = 0 then 1 else 0) - (if p.idxOf (x : Int) = 0 then 1 else 0) + (if q.idxOf (x : Int) = 0 then 1 else 0)
    omega
  | p :: v, i + 1, q, h, x => by
    have := fst1_set v i q (by simpa using h) x
    show fst1 (v.set i q) x + (if p.idxOf (x : Int) = 0 then 1 else 0) = fst1 v x + (if p.idxOf (x : Int) = 0 then 1 else 0) - (if (nth v i).idxOf (x : Int) = 0 then 1 else 0) + (if q.idxOf (x : Int) = 0 then 1 else 0)
    omega
/-- x stands better, or as well, in d' -/
structure Up (n x : Nat) (d d' : Nat → Nat → Int) : Prop where
  for_ : ∀ z, z < n → d x z ≤ d' x z
  against : ∀ z, z < n → d' z x ≤ d z x
  rest : ∀ u w, u < n → w < n → u ≠ x → w ≠ x → d' u w = d u w
theorem raise_up {n : Nat} {v : List (List Int)} (hv : ∀ p ∈ v, Ord n p) {i : Nat} (hi : i < v.length) {k b : Nat} (hk : k + 1 < n) (hb : nth (nth v i) (k + 1) = b) :
    Up n b (duel v) (duel (v.set i (swap (nth v i) k))) ∧ (∀ z, z < n → z ≠ b → fst1 (v.set i (swap (nth v i) k)) z ≤ fst1 v z) ∧ fst1 v b ≤ fst1 (v.set i (swap (nth v i) k)) b := by
  have hp : Ord n (nth v i) := hv _ (nth_mem hi)
  obtain ⟨a, ha⟩ : ∃ a : Nat, nth (nth v i) k = a := ⟨(nth (nth v i) k).toNat, by have := hp.val (k := k) (by omega); omega⟩
  have han : a < n := by have := hp.val (k := k) (by omega); omega
  have hbn : b < n := by have := hp.val (k := k + 1) (by omega); omega
  have ia : (nth v i).idxOf (a : Int) = k := by rw [← ha]; exact hp.idx (by omega)
  have ib : (nth v i).idxOf (b : Int) = k + 1 := by rw [← hb]; exact hp.idx (by omega)
  have hab : a ≠ b := fun e => by subst e; omega
  have bab : bf (nth v i) a b = true := by unfold bf; rw [ia, ib]; simp
  have bba : bf (nth v i) b a = false := by unfold bf; rw [ia, ib]; simp
  have hs : ∀ x y, x < n → y < n → bf (swap (nth v i) k) x y = if x = a ∧ y = b then false else if x = b ∧ y = a then true else bf (nth v i) x y := fun x y hx hy => swap_bf hp hk ha hb hx hy
  have hso := swap_ord hp hk
  refine ⟨⟨fun z hz => ?_, fun z hz => ?_, fun u w hu hw hub hwb => ?_⟩, fun z hz hzb => ?_, ?_⟩
  · rw [duel_set v i _ hi, hs b z hbn hz, if_neg (by omega)]
    by_cases hza : z = a
    · subst hza; rw [if_pos ⟨rfl, rfl⟩, bba]; simp [b1]; omega
    · rw [if_neg (by omega)]; omega
  · rw [duel_set v i _ hi, hs z b hz hbn]
    by_cases hza : z = a
    · subst hza; rw [if_pos ⟨rfl, rfl⟩, bab]; simp [b1]; omega
    · rw [if_neg (by omega), if_neg (by omega)]; omega
  · rw [duel_set v i _ hi, hs u w hu hw, if_neg (by omega), if_neg (by omega)]; omega
  · rw [fst1_set v i _ hi]
    have : (swap (nth v i) k).idxOf (z : Int) = 0 → (nth v i).idxOf (z : Int) = 0 := fun h0 => by
      have e := hso.at_idx hz
      rw [h0, swap_nth (by rw [hp.len]; exact hk)] at e
      by_cases hk0 : k = 0
      · subst hk0; rw [if_pos rfl, hb] at e; omega
      · rw [if_neg (by omega), if_neg (by omega)] at e
        rw [← e]; exact hp.idx (by omega)
    by_cases h0 : (swap (nth v i) k).idxOf (z : Int) = 0
    · rw [if_pos h0, if_pos (this h0)]; omega
    · rw [if_neg h0]; split <;> omega
  · rw [fst1_set v i _ hi, if_neg (by omega)]; split <;> omega
theorem sgn_mono {a b a' b' : Int} (h1 : a ≤ a') (h2 : b' ≤ b) : sgn a b ≤ sgn a' b' := by
  unfold sgn
  by_cases c1 : b < a <;> by_cases c2 : a < b <;> by_cases c3 : b' < a' <;> by_cases c4 : a' < b' <;> simp [c1, c2, c3, c4] <;> omega
theorem val_up {k : Int} {n : Nat} {v w : List (List Int)} (hv : ∀ p ∈ v, Ord n p) (hw : ∀ p ∈ w, Ord n p) {b : Nat} (hb : b < n) (hU : Up n b (duel v) (duel w)) (h1 : ∀ z, z < n → z ≠ b → fst1 w z ≤ fst1 v z) (h2 : fst1 v b ≤ fst1 w b)
    {g h : Nat → Int} (hg : Val k n v g) (hh : Val k n w h) : g b ≤ h b ∧ ∀ z, z < n → z ≠ b → h z ≤ g z := by
  have lo : ∀ u z, u < n → z < n → u ≠ b → duel w u z ≤ duel v u z := fun u z hu hz hub => by
    by_cases e : z = b
    · subst e; exact hU.against u hu
    · rw [hU.rest u z hu hz hub e]; exact Int.le_refl _
  have hi : ∀ u z, u < n → z < n → u ≠ b → duel v z u ≤ duel w z u := fun u z hu hz hub => by
    by_cases e : z = b
    · subst e; exact hU.for_ u hu
    · rw [hU.rest z u hz hu e hub]; exact Int.le_refl _
  rcases hg with ⟨e, hg⟩ | ⟨e, hg⟩ | ⟨e, hg⟩ | ⟨e, hg⟩ <;> subst e <;> rcases hh with ⟨e, hh⟩ | ⟨e, hh⟩ | ⟨e, hh⟩ | ⟨e, hh⟩ <;> first | omega | skip
  · subst hg hh; exact ⟨h2, h1⟩
  · subst hg hh
    refine ⟨?_, fun z hz hzb => ?_⟩
    · rw [← duel_pts hv hb, ← duel_pts hw hb]; exact sumN_le fun y hy => hU.for_ y hy
    · rw [← duel_pts hv hz, ← duel_pts hw hz]; exact sumN_le fun y hy => lo z y hz hy hzb
  · subst hg hh
    refine ⟨?_, fun z hz hzb => ?_⟩
    · exact sumN_le fun y hy => sgn_mono (hU.for_ y hy) (hU.against y hy)
    · exact sumN_le fun y hy => sgn_mono (lo z y hz hy hzb) (hi z y hz hy hzb)
  · refine ⟨?_, fun z hz hzb => ?_⟩
    · obtain ⟨a1, a2, a3, a4⟩ := hg b hb
      obtain ⟨c1, c2, c3, c4⟩ := hh b hb
      rcases c4 with c4 | ⟨y, hy, c4⟩
      · omega
      · have := a3 y hy; have := hU.for_ y hy; have := hU.against y hy; omega
    · obtain ⟨a1, a2, a3, a4⟩ := hg z hz
      obtain ⟨c1, c2, c3, c4⟩ := hh z hz
      rcases a4 with a4 | ⟨y, hy, a4⟩
      · omega
      · have := c3 y hy; have := lo z y hz hy hzb; have := hi z y hz hy hzb; omega
theorem contains_none {l : List Int} {f : Int → Option Bool} (h : ∀ x ∈ l, f x = some false) : slices_ContainsFunc_int_int_m l f = some false := by
  have e : slices_IndexFunc_int_int_m l f = some (-1) := by
    apply Ok.eq
    unfold slices_IndexFunc_int_int_m
    rw [ok_bindR]
    refine ok_rangeL (fun _ _ => True) trivial (fun i x s hi _ => ?_) fun _ _ => by rw [ok_some]
    unfold slices_IndexFunc_int_int_b1
    rw [h x (List.mem_of_getElem? hi), Option.bind_some, if_neg (by decide), ok_some, flok_nx]; trivial
  unfold slices_ContainsFunc_int_int_m
  rw [e]; rfl
end Go.Pu
/- What slices.Min answers. -/
set_option linter.all false
namespace Go.Pu
open Go.Fw Go.Mo
theorem min_ok {l : List Int} (h0 : 1 ≤ l.length) (h : l.length ≤ 1000000) : ∃ v, slices_Min_int_int_m l = some v ∧ v ∈ l ∧ ∀ x ∈ l, v ≤ x := by
  have : Ok (slices_Min_int_int_m l) (fun v => (∃ k, k < l.length ∧ v = nth l k) ∧ ∀ k, k < l.length → v ≤ nth l k) := by
    unfold slices_Min_int_int_m
    simp only [ok_bindR, ok_bind, ok_ite, ok_none, ok_some, ok_idx, flok_nx, decide_eq_true_eq]
    refine ⟨fun _ => by omega, fun _ => ⟨by omega, by omega, ?_⟩⟩
    have start : 1 ≤ ((nth l (0 : Int).toNat, (1 : Int)) : Int × Int).2 ∧ ((nth l (0 : Int).toNat, (1 : Int)) : Int × Int).2 ≤ l.length ∧ (∃ k, k < l.length ∧ ((nth l (0 : Int).toNat, (1 : Int)) : Int × Int).1 = nth l k) ∧ ∀ k : Nat, (k : Int) < ((nth l (0 : Int).toNat, (1 : Int)) : Int × Int).2 → ((nth l (0 : Int).toNat, (1 : Int)) : Int × Int).1 ≤ nth l k := by
      refine ⟨by simp, by simp only; omega, ⟨0, by omega, rfl⟩, fun k hk => ?_⟩
      have : k = 0 := by simp only at hk; omega
      subst this; exact Int.le_refl _
    refine ok_loopM (fun p : Int × Int => 1 ≤ p.2 ∧ p.2 ≤ l.length ∧ (∃ k, k < l.length ∧ p.1 = nth l k) ∧ ∀ k : Nat, (k : Int) < p.2 → p.1 ≤ nth l k) (fun p => l.length - p.2.toNat) (fun p hp => ?_) _ _ start (by simp only; omega)
    obtain ⟨a, i⟩ := p
    obtain ⟨h1, h2, h3, h4⟩ := hp
    simp only at h1 h2 h3 h4
    obtain ⟨j, rfl⟩ : ∃ j : Nat, i = j := ⟨i.toNat, by omega⟩
    unfold slices_Min_int_int_b1
    simp only [ok_bind, ok_ite, ok_some, ok_idx, flok_nx, flok_br, decide_eq_true_eq, Int.toNat_natCast]
    refine ⟨fun hlt => ⟨by omega, by omega, ?_⟩, fun hge => ⟨h3, fun k hk => h4 k (by omega)⟩⟩
    rw [wadd_of (by omega) (by omega)]
    refine ⟨⟨by omega, by omega, ?_, fun k hk => ?_⟩, by omega⟩
    · split
      · exact ⟨j, by omega, rfl⟩
      · exact h3
    · by_cases hkj : k = j
      · subst hkj; split <;> omega
      · have := h4 k (by omega); split <;> omega
  obtain ⟨v, e, ⟨k, hk, hv⟩, h2⟩ := this
  refine ⟨v, e, by rw [hv]; exact nth_mem hk, fun x hx => ?_⟩
  obtain ⟨j, hj, rfl⟩ := mem_nth hx
  exact h2 j hj
end Go.Pu
/- The plain law: who beats all others has won alone by duels and by the least bad defeat, and is never last by points. -/
set_option linter.all false
namespace Go.Pu
open Go.Fw Go.Mo
theorem beats_cope {n : Nat} {d : Nat → Nat → Int} {a : Nat} (ha : a < n) (h : Beats n d a) : ∀ j, j < n → j ≠ a → cope n d j < cope n d a := by
  intro j hj hja
  have e : cope n d a = sumN n (fun y => if y = a then 0 else 1) := by
    unfold cope
    refine sumN_congr fun y hy => ?_
    by_cases e : y = a
    · subst e; rw [if_pos rfl]; unfold sgn; simp
    · have := h y hy e
      rw [if_neg e]; unfold sgn; rw [if_pos this]
  rw [e]
  refine sumN_lt ha (fun y hy => ?_) ?_
  · have := (sgn_val (d j y) (d y j)).2
    by_cases e : y = a
    · subst e
      have := h j hj hja
      rw [if_pos rfl]; unfold sgn; rw [if_neg (by omega), if_pos this]; omega
    · rw [if_neg e]; exact this
  · have := h j hj hja
    show sgn (d j a) (d a j) < if a = a then 0 else 1
    rw [if_pos rfl]; unfold sgn; rw [if_neg (by omega), if_pos this]; omega
theorem duel_all' {n : Nat} {v : List (List Int)} (hv : ∀ p ∈ v, Ord n p) : 2 * sumN n (pts n v) = n * ((n : Int) - 1) * v.length := by
  have e : sumN n (pts n v) = sumN n (fun x => sumN n (fun y => duel v x y)) := sumN_congr fun x hx => (duel_pts hv hx).symm
  have e2 : sumN n (fun x => sumN n (fun y => duel v y x)) = sumN n (pts n v) := by rw [e]; exact sumN_comm
  have e3 : sumN n (fun x => sumN n (fun y => duel v x y + duel v y x)) = 2 * sumN n (pts n v) := by
    have : (fun x => sumN n (fun y => duel v x y + duel v y x)) = fun x => sumN n (fun y => duel v x y) + sumN n (fun y => duel v y x) := by
      funext x; exact sumN_add
    rw [this, sumN_add, e2, ← e]; omega
  have e4 : sumN n (fun x => sumN n (fun y => duel v x y + duel v y x)) = sumN n (fun _ => ((n : Int) - 1) * v.length) := by
    refine sumN_congr fun x hx => ?_
    have : sumN n (fun y => duel v x y + duel v y x) = sumN n (fun y => (v.length : Int) - if y = x then (v.length : Int) else 0) := by
      refine sumN_congr fun y hy => ?_
      by_cases h : y = x
      · subst h; rw [duel_self, if_pos rfl]; omega
      · rw [if_neg h, duel_sum hv hx hy (Ne.symm h)]; omega
    rw [this, sumN_sub, sumN_single hx, sumN_const, Int.sub_mul]; omega
  rw [← e3, e4, sumN_const, Int.mul_assoc]
theorem beats_pts {n : Nat} (h2 : 2 ≤ n) {v : List (List Int)} (hv : ∀ p ∈ v, Ord n p) {x : Nat} (hx : x < n) (hl : Beats n (duel v) x) : ¬ ∀ j, j < n → pts n v x ≤ pts n v j := by
  intro hmax
  have e1 := duel_all' hv
  have e2 : n * pts n v x ≤ sumN n (pts n v) := by
    rw [← sumN_const]; exact sumN_le hmax
  obtain ⟨z, hz, hzx⟩ : ∃ z, z < n ∧ z ≠ x := by
    by_cases h : x = 0
    · exact ⟨1, by omega, by omega⟩
    · exact ⟨0, by omega, by omega⟩
  have e3 : ((n : Int) - 1) * v.length < 2 * pts n v x := by
    rw [← duel_pts hv hx, ← sumN_mul]
    have : sumN n (fun y => (v.length : Int) - if y = x then (v.length : Int) else 0) = ((n : Int) - 1) * v.length := by
      rw [sumN_sub, sumN_single hx, sumN_const, Int.sub_mul]; omega
    rw [← this]
    refine sumN_lt hz (fun y hy => ?_) ?_
    · by_cases h : y = x
      · subst h; rw [duel_self, if_pos rfl]; omega
      · have := duel_sum hv hx hy (Ne.symm h)
        have := hl y hy h
        rw [if_neg h]; omega
    · have := duel_sum hv hx hz (Ne.symm hzx)
      have := hl z hz hzx
      try simp only
      rw [if_neg hzx]; omega
  have e4 : (n : Int) * (((n : Int) - 1) * v.length) < n * (2 * pts n v x) := Int.mul_lt_mul_of_pos_left e3 (by omega)
  rw [Int.mul_assoc] at e1
  have : (n : Int) * (2 * pts n v x) = 2 * (n * pts n v x) := by rw [← Int.mul_assoc, Int.mul_comm (n : Int) 2, Int.mul_assoc]
  omega
theorem RulesBeater (x0 : Int) (_ : (Lit.int .i64 x0).wf = true) (x1 : List (List Int)) (_ : (∀ r ∈ x1, (∀ x ∈ r, (Lit.int .i64 x).wf = true) ∧ r.length ≤ maxLen) ∧ x1.length ≤ maxLen) : pk_RulesBeater_m x0 x1 = some true := by
  obtain ⟨n, n1, n6, hn⟩ := one_within x0 6 (by decide) (by decide)
  rw [show ((6 : Nat) : Int) = 6 from rfl] at hn
  obtain ⟨v, ev, _, hv⟩ := votesOf_ok n x1 n1 n6
  obtain ⟨x, e, eb, hB⟩ := beater_ok n1 n6 hv
  obtain ⟨g, hg, eg⟩ := winners_am n1 n6 hv (k := (3 : Int)) (by omega)
  obtain ⟨h, hh, eh⟩ := winners_am n1 n6 hv (k := (4 : Int)) (by omega)
  obtain ⟨p, ep, hP⟩ := points_ok n1 n6 hv
  have g3 : pk_good_m [0, 0, 0] = some true := by rw [good_at]; rfl
  unfold pk_RulesBeater_m
  rw [winners_t, Option.bind_some, if_neg (by decide), tallies_t, Option.bind_some]
  simp only [Bool.not_true, bindR, Bool.false_eq_true, if_false]
  rw [within_at x0 6 (by decide) (by decide), Option.bind_some, hn, ev, Option.bind_some, eb, Option.bind_some]
  rcases hB with ⟨a, ha, rfl, rfl, hB⟩ | ⟨rfl, rfl, _⟩
  · rcases hg with ⟨e, _⟩ | ⟨e, _⟩ | ⟨_, hg⟩ | ⟨e, _⟩ <;> try omega
    rcases hh with ⟨e, _⟩ | ⟨e, _⟩ | ⟨e, _⟩ | ⟨_, hh⟩ <;> try omega
    subst hg
    have m1 : am (cope n (duel v)) n = [a] := am_only ha (beats_cope ha hB)
    have m2 : am h n = [a] := am_only ha fun j hj hja => by
      obtain ⟨a1, a2, a3, a4⟩ := hh a ha
      obtain ⟨c1, c2, c3, c4⟩ := hh j hj
      have h0 : h a = 0 := by
        rcases a4 with a4 | ⟨y, hy, a4⟩
        · omega
        · by_cases e : y = a
          · subst e; omega
          · have := hB y hy e; omega
      have := c3 a ha
      have := hB j hj hja
      omega
    rw [m1] at eg
    rw [m2] at eh
    simp only [bne_self_eq_false, Bool.false_eq_true, if_false, eg, eh, ep, Option.bind_some, g3, Bool.not_true, hP.len, List.map_cons, List.map_nil, equal_ok, decide_true, if_true]
    rw [if_neg (by simp)]
    simp only
    rw [show decide ((a : Int) ≥ (n : Int)) = false by rw [decide_eq_false_iff_not]; omega]
    simp only [Bool.false_eq_true, if_false]
    by_cases hn1 : n = 1
    · subst hn1; rfl
    · rw [if_neg (by rw [beq_iff_eq]; omega), idx_nat, hP.at? ha, Option.bind_some]
      obtain ⟨m, em, hm, hmin⟩ := min_ok (l := p) (by rw [hP.len]; omega) (by rw [hP.len]; omega)
      rw [em, Option.bind_some]
      have : pts n v a > m := by
        refine Classical.byContradiction fun hc => beats_pts (by omega) hv.2 ha hB fun j hj => ?_
        have := hmin (pts n v j) (List.mem_of_getElem? (hP.at? hj))
        omega
      rw [decide_eq_true this]
  · rfl
end Go.Pu
