/- Sorting by putting one after the other into its place: what comes out. -/
import Derived.Test.YtmnhkcdgchfmdaaGreatDoorWHouseOwnModels
import Derived.Test.YtmnhkcdgchfmdaaGreatDoorPuWp
import Derived.Test.YtmnhkcdgchfmdaaGreatDoorPuFl
set_option linter.all false
namespace Go.Pu
open Go.Fw Go.Mo
section
variable {α : Type} {ρ : Type}
structure Weak (lt : α → α → Bool) : Prop where
  asymm : ∀ a b, lt a b = true → lt b a = false
  ntrans : ∀ a b c, lt a b = false → lt b c = false → lt a c = false
/-- the same things, in order, and what is alike in the order in which it stood -/
structure Sorted (lt : α → α → Bool) (l m : List α) : Prop where
  perm : m.Perm l
  asc : m.Pairwise fun a b => lt b a = false
  stable : ∀ q : α → Bool, (∀ a b, q a = true → q b = true → lt a b = false) → m.filter q = l.filter q
theorem last_of {A : List α} (h : 0 < A.length) : ∃ A' y, A = A' ++ [y] := by
  refine ⟨A.dropLast, A.getLast (List.ne_nil_of_length_pos h), (List.dropLast_concat_getLast _).symm⟩
/-- one thing put into its place -/
theorem ins_in {M : α → Prop} {lt : α → α → Bool} (hw : Weak lt) {b2 : List α × Int → Option (Fl ρ (List α × Int) (List α × Int))} {n : Nat}
    (h2 : ∀ (A : List α) (y e : α) (r : List α), (A ++ y :: e :: r).length = n → (∀ x ∈ A ++ y :: e :: r, M x) → b2 (A ++ y :: e :: r, ((A.length + 1 : Nat) : Int)) = if lt e y = true then some (.nx (A ++ e :: y :: r, (A.length : Int))) else some (.br (A ++ y :: e :: r, ((A.length + 1 : Nat) : Int))))
    (h20 : ∀ (e : α) (r : List α), (e :: r).length = n → b2 (e :: r, 0) = some (.br (e :: r, 0))) (hn : n ≤ 1000)
    (A C D : List α) (e : α) (hl : (A ++ e :: (C ++ D)).length = n) (hM : ∀ x ∈ A ++ e :: (C ++ D), M x) (hs : (A ++ C).Pairwise fun a b => lt b a = false) (hC : ∀ c ∈ C, lt e c = true) (f : Nat) (hf : A.length < f) :
    ∃ A' C', loopM (γ := List α × Int) b2 f (A ++ e :: (C ++ D), (A.length : Int)) = some (.nx (A' ++ e :: (C' ++ D), (A'.length : Int))) ∧ A' ++ C' = A ++ C ∧ (∀ c ∈ C', lt e c = true) ∧ ∀ a ∈ A', lt e a = false := by
  induction f generalizing A C with
  | zero => omega
  | succ f ih =>
    unfold loopM
    by_cases h0 : A.length = 0
    · have hA : A = [] := List.eq_nil_of_length_eq_zero h0
      subst hA
      have := h20 e (C ++ D) hl
      refine ⟨[], C, ?_, rfl, hC, fun a ha => by cases ha⟩
      rw [show ((([] : List α).length : Nat) : Int) = 0 from rfl, List.nil_append, this]
    · obtain ⟨A', y, rfl⟩ := last_of (A := A) (by omega)
      have e1 : A' ++ [y] ++ e :: (C ++ D) = A' ++ y :: e :: (C ++ D) := by simp
      have e2 : (A' ++ [y]).length = A'.length + 1 := by simp
      rw [e1] at hl hM ⊢
      rw [e2] at hf ⊢
      rw [h2 A' y e (C ++ D) hl hM]
      by_cases hlt : lt e y = true
      · rw [if_pos hlt]
        have e3 : A' ++ e :: y :: (C ++ D) = A' ++ e :: ((y :: C) ++ D) := by simp
        have e4 : A' ++ (y :: C) = A' ++ [y] ++ C := by simp
        have hl' : (A' ++ e :: ((y :: C) ++ D)).length = n := by rw [← hl]; simp
        have hM' : ∀ x ∈ A' ++ e :: ((y :: C) ++ D), M x := fun x hx => hM x (by simp at hx ⊢; rcases hx with h | h | h | h | h <;> simp [h])
        obtain ⟨A2, C2, q1, q2, q3, q4⟩ := ih A' (y :: C) hl' hM' (by rw [e4]; exact hs) (fun c hc => by
          rcases List.mem_cons.1 hc with rfl | hc
          · exact hlt
          · exact hC c hc) (by omega)
        exact ⟨A2, C2, by rw [e3]; exact q1, by rw [q2, e4], q3, q4⟩
      · rw [if_neg hlt]
        have hlt' : lt e y = false := by simpa using hlt
        refine ⟨A' ++ [y], C, by rw [e1, e2], rfl, hC, fun a ha => ?_⟩
        rcases List.mem_append.1 ha with ha | ha
        · rw [List.append_assoc, List.pairwise_append] at hs
          exact hw.ntrans e y a hlt' (hs.2.2 a ha y (by simp))
        · rw [List.mem_singleton] at ha; subst ha; exact hlt'
theorem sorted_put {lt : α → α → Bool} (hw : Weak lt) {A C : List α} {e : α} (hs : (A ++ C).Pairwise fun a b => lt b a = false) (hC : ∀ c ∈ C, lt e c = true) (hA : ∀ a ∈ A, lt e a = false) : (A ++ e :: C).Pairwise fun a b => lt b a = false := by
  rw [List.pairwise_append] at hs ⊢
  refine ⟨hs.1, List.pairwise_cons.2 ⟨fun c hc => hw.asymm _ _ (hC c hc), hs.2.1⟩, fun a ha b hb => ?_⟩
  rcases List.mem_cons.1 hb with rfl | hb
  · exact hA a ha
  · exact hs.2.2 a ha b hb
theorem filter_put {lt : α → α → Bool} {A C : List α} {e : α} (hC : ∀ c ∈ C, lt e c = true) {q : α → Bool} (hq : ∀ a b, q a = true → q b = true → lt a b = false) : (A ++ e :: C).filter q = (A ++ C).filter q ++ [e].filter q := by
  rw [List.filter_append, List.filter_append, List.filter_cons]
  by_cases he : q e = true
  · have : C.filter q = [] := List.filter_eq_nil_iff.2 fun c hc hqc => by have := hq e c he hqc; rw [hC c hc] at this; cases this
    rw [if_pos he, this]; simp [he]
  · rw [if_neg he]; simp [he]
/-- the whole of it -/
theorem ins_all {γ : Type} {M : α → Prop} {lt : α → α → Bool} (hw : Weak lt) {b1 b2 : List α × Int → Option (Fl ρ (List α × Int) (List α × Int))} {n : Nat}
    (h2 : ∀ (A : List α) (y e : α) (r : List α), (A ++ y :: e :: r).length = n → (∀ x ∈ A ++ y :: e :: r, M x) → b2 (A ++ y :: e :: r, ((A.length + 1 : Nat) : Int)) = if lt e y = true then some (.nx (A ++ e :: y :: r, (A.length : Int))) else some (.br (A ++ y :: e :: r, ((A.length + 1 : Nat) : Int))))
    (h20 : ∀ (e : α) (r : List α), (e :: r).length = n → b2 (e :: r, 0) = some (.br (e :: r, 0)))
    (h1 : ∀ (l : List α) (k : Nat), k < n → b1 (l, (k : Int)) = bindF (loopM (γ := List α × Int) b2 1048576 (l, (k : Int))) fun s => some (.nx (s.1, ((k + 1 : Nat) : Int))))
    (h1e : ∀ l : List α, b1 (l, (n : Int)) = some (.br (l, (n : Int)))) (hn : n ≤ 1000) :
    ∀ (d k : Nat) (l0 p : List α) (f : Nat), k + d = n → l0.length = n → (∀ x ∈ l0, M x) → Sorted lt (l0.take k) p → d < f → ∃ m, loopM (γ := γ) b1 f (p ++ l0.drop k, (k : Int)) = some (.nx (m, (n : Int))) ∧ Sorted lt l0 m
  | 0, k, l0, p, f, hk, hl, hM, hS, hf => by
    obtain ⟨f, rfl⟩ : ∃ g, f = g + 1 := ⟨f - 1, by omega⟩
    have : k = n := by omega
    subst this
    have e1 : l0.take k = l0 := List.take_of_length_le (by omega)
    have e2 : l0.drop k = [] := List.drop_of_length_le (by omega)
    rw [e1] at hS
    rw [e2, List.append_nil]
    refine ⟨p, ?_, hS⟩
    unfold loopM
    rw [h1e p]
  | d + 1, k, l0, p, f, hk, hl, hM, hS, hf => by
    obtain ⟨f, rfl⟩ : ∃ g, f = g + 1 := ⟨f - 1, by omega⟩
    have hkl : k < l0.length := by omega
    have hpl : p.length = k := by rw [hS.perm.length_eq, List.length_take]; omega
    have hdr : l0.drop k = l0[k] :: l0.drop (k + 1) := List.drop_eq_getElem_cons hkl
    have htk : l0.take (k + 1) = l0.take k ++ [l0[k]] := by rw [List.take_succ, List.getElem?_eq_getElem hkl]; rfl
    unfold loopM
    rw [h1 _ k (by omega), hdr]
    have hlen : (p ++ l0[k] :: ([] ++ l0.drop (k + 1))).length = n := by simp [hpl]; omega
    have hM1 : ∀ x ∈ p ++ l0[k] :: ([] ++ l0.drop (k + 1)), M x := fun x hx => by
      rcases List.mem_append.1 hx with hx | hx
      · exact hM x (List.mem_of_mem_take (hS.perm.mem_iff.1 hx))
      · rw [List.nil_append, ← hdr] at hx; exact hM x (List.mem_of_mem_drop hx)
    obtain ⟨A, C, q1, q2, q3, q4⟩ := ins_in hw h2 h20 hn p [] (l0.drop (k + 1)) l0[k] hlen hM1 (by rw [List.append_nil]; exact hS.asc) (fun c hc => by cases hc) 1048576 (by omega)
    rw [List.append_nil] at q2
    rw [List.nil_append, hpl] at q1
    rw [q1]
    simp only [bindF]
    have hS' : Sorted lt (l0.take (k + 1)) (A ++ l0[k] :: C) := by
      refine ⟨?_, sorted_put hw (by rw [q2]; exact hS.asc) q3 q4, fun q hq => ?_⟩
      · rw [htk]
        have hp : (A ++ C).Perm (l0.take k) := by rw [q2]; exact hS.perm
        refine (List.perm_middle).trans ?_
        refine (List.Perm.cons _ hp).trans ?_
        exact (List.perm_append_singleton _ _).symm
      · rw [filter_put q3 hq, q2, hS.stable q hq, htk, List.filter_append]
    obtain ⟨m, e, hm⟩ := ins_all hw h2 h20 h1 h1e hn d (k + 1) l0 (A ++ l0[k] :: C) f (by omega) hl hM hS' (by omega)
    refine ⟨m, ?_, hm⟩
    rw [show A ++ l0[k] :: (C ++ l0.drop (k + 1)) = A ++ l0[k] :: C ++ l0.drop (k + 1) by simp]
    exact e
theorem idx_snd {A r : List α} {y e : α} : idx (A ++ y :: e :: r) ((A.length + 1 : Nat) : Int) = some e := by
  unfold idx; rw [if_pos (by omega), Int.toNat_natCast, List.getElem?_append_right (by omega), show A.length + 1 - A.length = 1 by omega]; rfl
theorem idx_fst {A r : List α} {y : α} : idx (A ++ y :: r) (A.length : Int) = some y := by
  unfold idx; rw [if_pos (by omega), Int.toNat_natCast, List.getElem?_append_right (by omega), Nat.sub_self]; rfl
theorem set_snd {A r : List α} {y e z : α} : (A ++ y :: e :: r).set (A.length + 1) z = A ++ y :: z :: r := by
  rw [List.set_append_right _ _ (by omega), show A.length + 1 - A.length = 1 by omega]; rfl
theorem set_fst {A r : List α} {y z : α} : (A ++ y :: r).set A.length z = A ++ z :: r := by
  rw [List.set_append_right _ _ (by omega), Nat.sub_self]; rfl
theorem sorted_first {lt : α → α → Bool} {l : List α} (h : 1 ≤ l.length) : Sorted lt (l.take 1) (l.take 1) ∧ (l.take 1).length = 1 := by
  cases l with
  | nil => simp at h
  | cons a l => exact ⟨⟨List.Perm.refl _, by simp, fun q _ => rfl⟩, rfl⟩
end
/-! ### slices.Sort of numbers -/
theorem len_ok : ∀ n : Nat, n ≤ 12 → ∃ k, math_bits_Len_m (IntKind.wrap .u64 (n : Int)) = some k := by
  have h : ∀ n : Nat, n ≤ 12 → (math_bits_Len_m (IntKind.wrap .u64 (n : Int))).isSome = true := by decide +kernel
  intro n hn
  exact Option.isSome_iff_exists.1 (h n hn)
/-! ### sorting by a function -/
theorem sortFunc_acct {l : List (List UInt8 × Int × Int)} {g : List UInt8 × Int × Int → List UInt8 × Int × Int → Option Int} {lt : List UInt8 × Int × Int → List UInt8 × Int × Int → Bool} (hw : Weak lt) (hg : ∀ a b, ∃ c, g a b = some c ∧ decide (c < 0) = lt a b) (hl : l.length ≤ 12) : ∃ m, slices_SortFunc_api_Account_api_Account_m l g = some m ∧ Sorted lt l m := by
  obtain ⟨k, ek⟩ := len_ok l.length hl
  have ins : ∃ m, slices_insertionSortCmpFunc_api_Account_m l 0 (l.length : Int) g = some m ∧ Sorted lt l m := by
    unfold slices_insertionSortCmpFunc_api_Account_m
    rw [wadd_of (by omega) (by omega), show (0 : Int) + 1 = ((1 : Nat) : Int) by omega]
    by_cases h1 : 1 ≤ l.length
    · obtain ⟨s1, _⟩ := sorted_first (lt := lt) h1
      obtain ⟨m, e, hm⟩ := ins_all (ρ := List (List UInt8 × Int × Int)) (γ := Unit) (M := fun _ => True) hw (b1 := slices_insertionSortCmpFunc_api_Account_b1 (l.length : Int) 0 g) (b2 := slices_insertionSortCmpFunc_api_Account_b2 0 g) (n := l.length)
        (fun A y e r _ _ => by
          obtain ⟨c, ec, hc⟩ := hg e y
          unfold slices_insertionSortCmpFunc_api_Account_b2
          dsimp only
          rw [if_pos (by rw [decide_eq_true_eq]; omega), idx_snd, Option.bind_some, wsub_of (by omega) (by simp at *; omega), show ((A.length + 1 : Nat) : Int) - 1 = (A.length : Int) by omega, idx_fst, Option.bind_some, ec, Option.bind_some, hc]
          by_cases hlt : lt e y = true
          · simp only [bindF]
            rw [if_pos hlt, if_pos hlt, Option.bind_some, Option.bind_some, Option.bind_some, Int.toNat_natCast, Int.toNat_natCast, set_snd, idx_fst, Option.bind_some, set_fst]
          · simp only [bindF]
            rw [if_neg hlt, if_neg hlt])
        (fun e r _ => by unfold slices_insertionSortCmpFunc_api_Account_b2; rfl)
        (fun l' k hk => by
          unfold slices_insertionSortCmpFunc_api_Account_b1
          dsimp only
          rw [if_pos (by rw [decide_eq_true_eq]; omega), wadd_of (by omega) (by omega), show (k : Int) + 1 = ((k + 1 : Nat) : Int) by omega])
        (fun l' => by unfold slices_insertionSortCmpFunc_api_Account_b1; dsimp only; rw [if_neg (by rw [decide_eq_true_eq]; omega)]) (by omega) (l.length - 1) 1 l (l.take 1) 1048576 (by omega) rfl (fun _ _ => trivial) s1 (by omega)
      rw [List.take_append_drop] at e
      rw [e]
      exact ⟨m, rfl, hm⟩
    · have : l = [] := List.eq_nil_of_length_eq_zero (by omega)
      subst this
      refine ⟨[], ?_, ⟨List.Perm.refl _, List.Pairwise.nil, fun q _ => rfl⟩⟩
      unfold loopM slices_insertionSortCmpFunc_api_Account_b1
      dsimp only
      rw [if_neg (by decide)]; rfl
  obtain ⟨m, e, hm⟩ := ins
  refine ⟨m, ?_, hm⟩
  unfold slices_SortFunc_api_Account_api_Account_m slices_pdqsortCmpFunc_api_Account_m
  rw [ek, Option.bind_some]
  unfold loopM slices_pdqsortCmpFunc_api_Account_b1
  dsimp only
  rw [wsub_of (by omega) (by omega), if_pos (by rw [decide_eq_true_eq]; omega), e]
  rfl
end Go.Pu
