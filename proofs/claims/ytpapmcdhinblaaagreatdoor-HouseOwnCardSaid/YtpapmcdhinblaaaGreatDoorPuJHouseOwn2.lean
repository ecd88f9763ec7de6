/- Sorting by putting one after the other into its place: what comes out. -/
import Derived.Test.YtpapmcdhinblaaaGreatDoorWHouseOwnModels
import Derived.Test.YtpapmcdhinblaaaGreatDoorPuJHouseOwn1
set_option linter.all false
namespace Go.Pu
open Go.Fw Go.Mo
section
variable {α : Type} {ρ : Type}
structure Weak (lt : α → α → Bool) : Prop where
  asymm : ∀ a b, lt a b = true → lt b a = false
  ntrans : ∀ a b c, lt a b = false → lt b c = false → lt a c = false
structure Sorted (lt : α → α → Bool) (l m : List α) : Prop where
  perm : m.Perm l
  asc : m.Pairwise fun a b => lt b a = false
  stable : ∀ q : α → Bool, (∀ a b, q a = true → q b = true → lt a b = false) → m.filter q = l.filter q
theorem last_of {A : List α} (h : 0 < A.length) : ∃ A' y, A = A' ++ [y] := by
  refine ⟨A.dropLast, A.getLast (List.ne_nil_of_length_pos h), (List.dropLast_concat_getLast _).symm⟩
theorem ins_in {M : α → Prop} {lt : α → α → Bool} (hw : Weak lt) {b2 : List α × Int → Option (Fl ρ (List α × Int) (List α × Int))} {n : Nat}
    (h2 : ∀ (A : List α) (y e : α) (r : List α), (A ++ y :: e :: r).length = n → (∀ x ∈ A ++ y :: e :: r, M x) → b2 (A ++ y :: e :: r, ((A.length + 1 : Nat) : Int)) = if lt e y = true then some (.nx (A ++ e :: y :: r, (A.length : Int))) else some (.br (A ++ y :: e :: r, ((A.length + 1 : Nat) : Int))))
    (h20 : ∀ (e : α) (r : List α), (e :: r).length = n → b2 (e :: r, 0) = some (.br (e :: r, 0))) (hn : n ≤ 1000)
    (A C D : List α) (e : α) (hl : (A ++ e :: (C ++ D)).length = n) (hM : ∀ x ∈ A ++ e :: (C ++ D), M x) (hs : (A ++ C).Pairwise fun a b => lt b a = false) (hC : ∀ c ∈ C, lt e c = true) (f : Nat) (hf : A.length < f) :
    ∃ A' C', loopM (γ := List α × Int) b2 f (A ++ e :: (C ++ D), (A.length : Int)) = some (.nx (A' ++ e :: (C' ++ D), (A'.length : Int))) ∧ A' ++ C' = A ++ C ∧ (∀ c ∈ C', lt e c = true) ∧ ∀ a ∈ A', lt e a = false := by
  induction f generalizing A C with
  | zero => omega
  | succ f ih =>
    unfold loopM
    by_cases h0 : A.length = 0
    · have hA : A = [] := List.eq_nil_of_length_eq_zero h0
      subst hA
      have := h20 e (C ++ D) hl
      refine ⟨[], C, ?_, rfl, hC, fun a ha => by cases ha⟩
      rw [show ((([] : List α).length : Nat) : Int) = 0 from rfl, List.nil_append, this]
    · obtain ⟨A', y, rfl⟩ := last_of (A := A) (by omega)
      have e1 : A' ++ [y] ++ e :: (C ++ D) = A' ++ y :: e :: (C ++ D) := by simp
      have e2 : (A' ++ [y]).length = A'.length + 1 := by simp
      rw [e1] at hl hM ⊢
      rw [e2] at hf ⊢
      rw [h2 A' y e (C ++ D) hl hM]
      by_cases hlt : lt e y = true
      · rw [if_pos hlt]
        have e3 : A' ++ e :: y :: (C ++ D) = A' ++ e :: ((y :: C) ++ D) := by simp
        have e4 : A' ++ (y :: C) = A' ++ [y] ++ C := by simp
        have hl' : (A' ++ e :: ((y :: C) ++ D)).length = n := by rw [← hl]; simp
        have hM' : ∀ x ∈ A' ++ e :: ((y :: C) ++ D), M x := fun x hx => hM x (by simp at hx ⊢; rcases hx with h | h | h | h | h <;> simp [h])
        obtain ⟨A2, C2, q1, q2, q3, q4⟩ := ih A' (y :: C) hl' hM' (by rw [e4]; exact hs) (fun c hc => by
          rcases List.mem_cons.1 hc with rfl | hc
          · exact hlt
          · exact hC c hc) (by omega)
        exact ⟨A2, C2, by rw [e3]; exact q1, by rw [q2, e4], q3, q4⟩
      · rw [if_neg hlt]
        have hlt' : lt e y = false := by simpa using hlt
        refine ⟨A' ++ [y], C, by rw [e1, e2], rfl, hC, fun a ha => ?_⟩
        rcases List.mem_append.1 ha with ha | ha
        · rw [List.append_assoc, List.pairwise_append] at hs
          exact hw.ntrans e y a hlt' (hs.2.2 a ha y (by simp))
        · rw [List.mem_singleton] at ha; subst ha; exact hlt'
theorem sorted_put {lt : α → α → Bool} (hw : Weak lt) {A C : List α} {e : α} (hs : (A ++ C).Pairwise fun a b => lt b a = false) (hC : ∀ c ∈ C, lt e c = true) (hA : ∀ a ∈ A, lt e a = false) : (A ++ e :: C).Pairwise fun a b => lt b a = false := by
  rw [List.pairwise_append] at hs ⊢
  refine ⟨hs.1, List.pairwise_cons.2 ⟨fun c hc => hw.asymm _ _ (hC c hc), hs.2.1⟩, fun a ha b hb => ?_⟩
  rcases List.mem_cons.1 hb with rfl | hb
  · exact hA a ha
  · exact hs.2.2 a ha b hb
theorem filter_put {lt : α → α → Bool} {A C : List α} {e : α} (hC : ∀ c ∈ C, lt e c = true) {q : α → Bool} (hq : ∀ a b, q a = true → q b = true → lt a b = false) : (A ++ e :: C).filter q = (A ++ C).filter q ++ [e].filter q := by
  rw [List.filter_append, List.filter_append, List.filter_cons]
  by_cases he : q e = true
  · have : C.filter q = [] := List.filter_eq_nil_iff.2 fun c hc hqc => by have := hq e c he hqc; rw [hC c hc] at this; cases this
    rw [if_pos he, this]; simp [he]
  · rw [if_neg he]; simp [he]
theorem ins_all {γ : Type} {M : α → Prop} {lt : α → α → Bool} (hw : Weak lt) {b1 b2 : List α × Int → Option (Fl ρ (List α × Int) (List α × Int))} {n : Nat}
    (h2 : ∀ (A : List α) (y e : α) (r : List α), (A ++ y :: e :: r).length = n → (∀ x ∈ A ++ y :: e :: r, M x) → b2 (A ++ y :: e :: r, ((A.length + 1 : Nat) : Int)) = if lt e y = true then some (.nx (A ++ e :: y :: r, (A.length : Int))) else some (.br (A ++ y :: e :: r, ((A.length + 1 : Nat) : Int))))
    (h20 : ∀ (e : α) (r : List α), (e :: r).length = n → b2 (e :: r, 0) = some (.br (e :: r, 0)))
    (h1 : ∀ (l : List α) (k : Nat), k < n → b1 (l, (k : Int)) = bindF (loopM (γ := List α × Int) b2 1048576 (l, (k : Int))) fun s => some (.nx (s.1, ((k + 1 : Nat) : Int))))
    (h1e : ∀ l : List α, b1 (l, (n : Int)) = some (.br (l, (n : Int)))) (hn : n ≤ 1000) :
    ∀ (d k : Nat) (l0 p : List α) (f : Nat), k + d = n → l0.length = n → (∀ x ∈ l0, M x) → Sorted lt (l0.take k) p → d < f → ∃ m, loopM (γ := γ) b1 f (p ++ l0.drop k, (k : Int)) = some (.nx (m, (n : Int))) ∧ Sorted lt l0 m
  | 0, k, l0, p, f, hk, hl, hM, hS, hf => by
    obtain ⟨f, rfl⟩ : ∃ g, f = g + 1 := ⟨f - 1, by omega⟩
    have : k = n := by omega
    subst this
    have e1 : l0.take k = l0 := List.take_of_length_le (by omega)
    have e2 : l0.drop k = [] := List.drop_of_length_le (by omega)
    rw [e1] at hS
    rw [e2, List.append_nil]
    refine ⟨p, ?_, hS⟩
    unfold loopM
    rw [h1e p]
  | d + 1, k, l0, p, f, hk, hl, hM, hS, hf => by
    obtain ⟨f, rfl⟩ : ∃ g, f = g + 1 := ⟨f - 1, by omega⟩
    have hkl : k < l0.length := by omega
    have hpl : p.length = k := by rw [hS.perm.length_eq, List.length_take]; omega
    have hdr : l0.drop k = l0[k] :: l0.drop (k + 1) := List.drop_eq_getElem_cons hkl
    have htk : l0.take (k + 1) = l0.take k ++ [l0[k]] := by rw [List.take_succ, List.getElem?_eq_getElem hkl]; rfl
    unfold loopM
    rw [h1 _ k (by omega), hdr]
    have hlen : (p ++ l0[k] :: ([] ++ l0.drop (k + 1))).length = n := by simp [hpl]; omega
    have hM1 : ∀ x ∈ p ++ l0[k] :: ([] ++ l0.drop (k + 1)), M x := fun x hx => by
      rcases List.mem_append.1 hx with hx | hx
      · exact hM x (List.mem_of_mem_take (hS.perm.mem_iff.1 hx))
      · rw [List.nil_append, ← hdr] at hx; exact hM x (List.mem_of_mem_drop hx)
    obtain ⟨A, C, q1, q2, q3, q4⟩ := ins_in hw h2 h20 hn p [] (l0.drop (k + 1)) l0[k] hlen hM1 (by rw [List.append_nil]; exact hS.asc) (fun c hc => by cases hc) 1048576 (by omega)
    rw [List.append_nil] at q2
    rw [List.nil_append, hpl] at q1
    rw [q1]
    simp only [bindF]
    have hS' : Sorted lt (l0.take (k + 1)) (A ++ l0[k] :: C) := by
      refine ⟨?_, sorted_put hw (by rw [q2]; exact hS.asc) q3 q4, fun q hq => ?_⟩
      · rw [htk]
        have hp : (A ++ C).Perm (l0.take k) := by rw [q2]; exact hS.perm
        refine (List.perm_middle).trans ?_
        refine (List.Perm.cons _ hp).trans ?_
        exact (List.perm_append_singleton _ _).symm
      · rw [filter_put q3 hq, q2, hS.stable q hq, htk, List.filter_append]
    obtain ⟨m, e, hm⟩ := ins_all hw h2 h20 h1 h1e hn d (k + 1) l0 (A ++ l0[k] :: C) f (by omega) hl hM hS' (by omega)
    refine ⟨m, ?_, hm⟩
    rw [show A ++ l0[k] :: (C ++ l0.drop (k + 1)) = A ++ l0[k] :: C ++ l0.drop (k + 1) by simp]
    exact e
theorem idx_snd {A r : List α} {y e : α} : idx (A ++ y :: e :: r) ((A.length + 1 : Nat) : Int) = some e := by
  unfold idx; rw [if_pos (by omega), Int.toNat_natCast, List.getElem?_append_right (by omega), show A.length + 1 - A.length = 1 by omega]; rfl
theorem idx_fst {A r : List α} {y : α} : idx (A ++ y :: r) (A.length : Int) = some y := by
  unfold idx; rw [if_pos (by omega), Int.toNat_natCast, List.getElem?_append_right (by omega), Nat.sub_self]; rfl
theorem set_snd {A r : List α} {y e z : α} : (A ++ y :: e :: r).set (A.length + 1) z = A ++ y :: z :: r := by
  rw [List.set_append_right _ _ (by omega), show A.length + 1 - A.length = 1 by omega]; rfl
theorem set_fst {A r : List α} {y z : α} : (A ++ y :: r).set A.length z = A ++ z :: r := by
  rw [List.set_append_right _ _ (by omega), Nat.sub_self]; rfl
theorem sorted_first {lt : α → α → Bool} {l : List α} (h : 1 ≤ l.length) : Sorted lt (l.take 1) (l.take 1) ∧ (l.take 1).length = 1 := by
  cases l with
  | nil => simp at h
  | cons a l => exact ⟨⟨List.Perm.refl _, by simp, fun q _ => rfl⟩, rfl⟩
end
theorem len_ok : ∀ n : Nat, n ≤ 12 → ∃ k, math_bits_Len_m (IntKind.wrap .u64 (n : Int)) = some k := by
  have h : ∀ n : Nat, n ≤ 12 → (math_bits_Len_m (IntKind.wrap .u64 (n : Int))).isSome = true := by decide +kernel
  intro n hn
  exact Option.isSome_iff_exists.1 (h n hn)
theorem sortFunc_acct {l : List (List UInt8 × Int × Int)} {g : List UInt8 × Int × Int → List UInt8 × Int × Int → Option Int} {lt : List UInt8 × Int × Int → List UInt8 × Int × Int → Bool} (hw : Weak lt) (hg : ∀ a b, ∃ c, g a b = some c ∧ decide (c < 0) = lt a b) (hl : l.length ≤ 12) : ∃ m, slices_SortFunc_api_Account_api_Account_m l g = some m ∧ Sorted lt l m := by
  obtain ⟨k, ek⟩ := len_ok l.length hl
  have ins : ∃ m, slices_insertionSortCmpFunc_api_Account_m l 0 (l.length : Int) g = some m ∧ Sorted lt l m := by
    unfold slices_insertionSortCmpFunc_api_Account_m
    rw [wadd_of (by omega) (by omega), show (0 : Int) + 1 = ((1 : Nat) : Int) by omega]
    by_cases h1 : 1 ≤ l.length
    · obtain ⟨s1, _⟩ := sorted_first (lt := lt) h1
      obtain ⟨m, e, hm⟩ := ins_all (ρ := List (List UInt8 × Int × Int)) (γ := Unit) (M := fun _ => True) hw (b1 := slices_insertionSortCmpFunc_api_Account_b1 (l.length : Int) 0 g) (b2 := slices_insertionSortCmpFunc_api_Account_b2 0 g) (n := l.length)
        (fun A y e r _ _ => by
          obtain ⟨c, ec, hc⟩ := hg e y
          unfold slices_insertionSortCmpFunc_api_Account_b2
          dsimp only
          rw [if_pos (by rw [decide_eq_true_eq]; omega), idx_snd, Option.bind_some, wsub_of (by omega) (by simp at *; omega), show ((A.length + 1 : Nat) : Int) - 1 = (A.length : Int) by omega, idx_fst, Option.bind_some, ec, Option.bind_some, hc]
          by_cases hlt : lt e y = true
          · simp only [bindF]
            rw [if_pos hlt, if_pos hlt, Option.bind_some, Option.bind_some, Option.bind_some, Int.toNat_natCast, Int.toNat_natCast, set_snd, idx_fst, Option.bind_some, set_fst]
          · simp only [bindF]
            rw [if_neg hlt, if_neg hlt])
        (fun e r _ => by unfold slices_insertionSortCmpFunc_api_Account_b2; rfl)
        (fun l' k hk => by
          unfold slices_insertionSortCmpFunc_api_Account_b1
          dsimp only
          rw [if_pos (by rw [decide_eq_true_eq]; omega), wadd_of (by omega) (by omega), show (k : Int) + 1 = ((k + 1 : Nat) : Int) by omega])
        (fun l' => by unfold slices_insertionSortCmpFunc_api_Account_b1; dsimp only; rw [if_neg (by rw [decide_eq_true_eq]; omega)]) (by omega) (l.length - 1) 1 l (l.take 1) 1048576 (by omega) rfl (fun _ _ => trivial) s1 (by omega)
      rw [List.take_append_drop] at e
      rw [e]
      exact ⟨m, rfl, hm⟩
    · have : l = [] := List.eq_nil_of_length_eq_zero (by omega)
      subst this
      refine ⟨[], ?_, ⟨List.Perm.refl _, List.Pairwise.nil, fun q _ => rfl⟩⟩
      unfold loopM slices_insertionSortCmpFunc_api_Account_b1
      dsimp only
      rw [if_neg (by decide)]; rfl
  obtain ⟨m, e, hm⟩ := ins
  refine ⟨m, ?_, hm⟩
  unfold slices_SortFunc_api_Account_api_Account_m slices_pdqsortCmpFunc_api_Account_m
  rw [ek, Option.bind_some]
  unfold loopM slices_pdqsortCmpFunc_api_Account_b1
  dsimp only
  rw [wsub_of (by omega) (by omega), if_pos (by rw [decide_eq_true_eq]; omega), e]
  rfl
end Go.Pu
set_option linter.all false
namespace Go.Pu
open Go.Fw Go.Mo
theorem ledgers_t : pk_ledgers_m = some true := by decide +kernel
end Go.Pu
set_option linter.all false
namespace Go.Pu
open Go.Fw Go.Mo
end Go.Pu
set_option linter.all false
namespace Go.Pu
open Go.Fw Go.Mo
theorem acctWeak : Weak (fun a b : Acct => bls a.1 b.1) := by
  refine ⟨fun a b h => ?_, fun a b c h1 h2 => ?_⟩
  · cases e : bls b.1 a.1 with
    | false => rfl
    | true => have := bls_trans _ _ _ h e; rw [bls_irrefl] at this; cases this
  · cases e : bls a.1 c.1 with
    | false => rfl
    | true =>
      rcases bls_total a.1 b.1 with h | h | h
      · rw [h1] at h; cases h
      · rw [h, h2] at e; cases e
      · have := bls_trans _ _ _ h e
        rw [h2] at this; cases this
theorem sumN_left (f : Nat → Int) : ∀ n, sumN (n + 1) f = f 0 + sumN n fun q => f (q + 1)
  | 0 => by simp [sumN]
  | n + 1 => by
    have := sumN_left f n
    simp only [sumN] at this ⊢
    omega
theorem sum_map : ∀ (l : List Acct), moneyS l = (l.map fun a => a.2.1).sum
  | [] => rfl
  | a :: l => by
    have ih := sum_map l
    unfold moneyS at ih ⊢
    rw [List.length_cons, sumN_left, List.map_cons, List.sum_cons, ← ih]; rfl
theorem perm_sum {l m : List Int} (h : m.Perm l) : m.sum = l.sum := by
  induction h with
  | nil => rfl
  | cons x _ ih => rw [List.sum_cons, List.sum_cons, ih]
  | swap x y l => simp only [List.sum_cons]; omega
  | trans _ _ h1 h2 => rw [h1, h2]
theorem perm_money {l m : List Acct} (h : m.Perm l) : moneyS m = moneyS l := by
  rw [sum_map, sum_map]
  exact perm_sum (h.map _)
inductive Opened (l : List Acct) (s : List UInt8) (n : Int) : List Acct × Int → Prop
  | no (e : Int) : e ≠ 0 → Opened l s n ([], e)
  | yes (m : List Acct) : Accts l → 0 ≤ n → n ≤ 1000000 → m.Perm (l ++ [(s, n, 0)]) → Accts m → Opened l s n (m, 0)
theorem open_ok {l : List Acct} {s : List UInt8} {n : Int} (hs : ShortA l) (hsh : Short s) : Ok (ledger_Open_m l s n) (Opened l s n) := by
  obtain ⟨e, he, hq⟩ := checkA_ok hs
  unfold ledger_Open_m
  rw [he, Option.bind_some]
  by_cases h0 : e = 0
  · have hA := hq.1 h0
    have h6 := hA.len
    rw [if_neg (by rw [bne_iff_ne]; exact fun h => h h0), named_ok hsh, Option.bind_some]
    by_cases hn : nm s = true
    · rw [if_neg (by simp [hn]), ok_bindR]
      by_cases hr : 0 ≤ n ∧ n ≤ 1000000
      · rw [if_neg (by rw [decide_eq_true_eq]; omega), ok_some, flok_nx, if_neg (by rw [decide_eq_true_eq]; omega)]
        rcases findA_cases hA s with ⟨i, hi, ei, f⟩ | ⟨hno, f⟩
        · rw [f, Option.bind_some, if_pos (by rw [decide_eq_true_eq]; omega), ok_some]; exact .no 7 (by decide)
        · rw [f, Option.bind_some, if_neg (by decide)]
          by_cases h66 : l.length = 6
          · rw [if_pos (by rw [beq_iff_eq]; omega), ok_some]; exact .no 8 (by decide)
          · rw [if_neg (by rw [beq_iff_eq]; omega), cloneA l (by omega), Option.bind_some, chk_t (by simp only [List.length_cons, List.length_nil]; omega), Option.bind_some]
            obtain ⟨m, em, hm⟩ := sortFunc_acct (l := l ++ [(s, n, 0)]) (g := fun a0 a1 => ledger_Open_1_m a0 a1) acctWeak (fun a b => by
              unfold ledger_Open_1_m
              by_cases h : bls a.1 b.1 = true
              · exact ⟨-1, by rw [if_pos h], by rw [h]; rfl⟩
              · exact ⟨1, by rw [if_neg h], by rw [show bls a.1 b.1 = false by simpa using h]; rfl⟩) (by simp; omega)
            rw [em, Option.bind_some, ok_some]
            refine .yes m hA hr.1 hr.2 hm.perm ⟨by rw [hm.perm.length_eq]; simp; omega, fun a ha => ?_, fun k hk => ?_, fun a ha => ?_⟩
            · rcases List.mem_append.1 (hm.perm.mem_iff.1 ha) with h | h
              · exact hA.name a h
              · rw [List.mem_singleton] at h; subst h; exact hn
            · have hp := (List.pairwise_iff_getElem.1 hm.asc) k (k + 1) (by omega) hk (by omega)
              rw [← nth_get hk, ← nth_get (by omega : k < m.length)] at hp
              rcases bls_total (nth m k).1 (nth m (k + 1)).1 with h | h | h
              · exact h
              · exfalso
                -- all names are unlike
                have hnd : (l ++ [(s, n, 0)]).Pairwise (fun a b : Acct => a.1 ≠ b.1) := by
                  rw [List.pairwise_append]
                  refine ⟨?_, by simp, fun a ha b hb => ?_⟩
                  · rw [List.pairwise_iff_getElem]
                    intro i j hi hj hij
                    rw [← nth_get hi, ← nth_get hj]; exact hA.ne hij hj
                  · rw [List.mem_singleton] at hb; subst hb
                    obtain ⟨i, hi, rfl⟩ := mem_nth ha
                    exact hno i hi
                have hnd2 := (hm.perm.pairwise_iff (fun {a b} (h : a.1 ≠ b.1) => h.symm)).2 hnd
                have := (List.pairwise_iff_getElem.1 hnd2) k (k + 1) (by omega) hk (by omega)
                rw [← nth_get hk, ← nth_get (by omega : k < m.length)] at this
                exact this h
              · rw [hp] at h; cases h
            · rcases List.mem_append.1 (hm.perm.mem_iff.1 ha) with h | h
              · exact hA.val a h
              · rw [List.mem_singleton] at h; subst h; exact ⟨hr, Int.le_refl _, by dsimp only; omega⟩
      · have : (if decide (n < (0 : Int)) then some (Fl.nx (ρ := List Acct × Int) (β := Unit) true) else some (.nx (decide (n > (1000000 : Int))))) = some (.nx true) := by
          by_cases h : n < 0
          · rw [if_pos (by rw [decide_eq_true_eq]; exact h)]
          · rw [if_neg (by rw [decide_eq_true_eq]; exact h), decide_eq_true (by omega)]
        rw [this, ok_some, flok_nx, if_pos rfl, ok_some]; exact .no 1 (by decide)
    · rw [if_pos (by simpa using hn), ok_some]; exact .no 3 (by decide)
  · rw [if_pos (by rw [bne_iff_ne]; exact h0), ok_some]; exact .no _ h0
end Go.Pu
set_option linter.all false
namespace Go.Pu
open Go.Fw Go.Mo
inductive Op where
  | o (s : Bs) (n : Int)
  | d (x : Deal) (t : Bs)
instance : Inhabited Op := ⟨.o [] 0⟩
def wordsO : Op → List Bs
  | .o s n => [[111], s, Lib.itoa n]
  | .d x t => [[100], x.1, x.2.1, Lib.itoa x.2.2.1, Lib.itoa x.2.2.2.1, Lib.itoa x.2.2.2.2.1, Lib.itoa x.2.2.2.2.2, t]
def recO (p : Op) : Bs := joinW (wordsO p)
def RightO : Op → Prop
  | .o s n => Short s ∧ nm s = true ∧ 0 ≤ n ∧ n ≤ 1000000
  | .d x t => ShortD x ∧ Short t ∧ nm t = true ∧ rt x = 0
def StepO (l : List Acct) : Op → List Acct → Prop
  | .o s n, m => ledger_Open_m l s n = some (m, 0)
  | .d x t, m => ledger_Take_m l x t = some (m, 0)
inductive Runs : List Acct → List Op → List Acct → Prop
  | nil (l : List Acct) : Runs l [] l
  | cons {l m k : List Acct} {p : Op} {ps : List Op} (hr : RightO p) (hs : StepO l p m) (h : Runs m ps k) : Runs l (p :: ps) k
theorem StepO.det {l m k : List Acct} {p : Op} (h1 : StepO l p m) (h2 : StepO l p k) : m = k := by
  cases p with
  | o s n => have := h1.symm.trans h2; cases this; rfl
  | d x t => have := h1.symm.trans h2; cases this; rfl
theorem Runs.det {l m k : List Acct} {ps : List Op} (h1 : Runs l ps m) (h2 : Runs l ps k) : m = k := by
  induction h1 with
  | nil l => cases h2; rfl
  | cons hr hs h ih => cases h2 with | cons hr2 hs2 h2 => have := hs.det hs2; subst this; exact ih h2
theorem Runs.append {l m k : List Acct} {ps qs : List Op} (h1 : Runs l ps m) (h2 : Runs m qs k) : Runs l (ps ++ qs) k := by
  induction h1 with
  | nil l => exact h2
  | cons hr hs h ih => exact .cons hr hs (ih h2)
theorem Runs.split {l k : List Acct} : ∀ {ps qs : List Op}, Runs l (ps ++ qs) k → ∃ m, Runs l ps m ∧ Runs m qs k := by
  intro ps
  induction ps generalizing l with
  | nil => intro qs h; exact ⟨l, .nil l, h⟩
  | cons p ps ih =>
    intro qs h
    cases h with
    | cons hr hs h => obtain ⟨m, h1, h2⟩ := ih h; exact ⟨m, .cons hr hs h1, h2⟩
theorem opened_facts {l m : List Acct} {s : Bs} {n : Int} (hs : ShortA l) (hsh : Short s) (h : ledger_Open_m l s n = some (m, 0)) : Accts l ∧ 0 ≤ n ∧ n ≤ 1000000 ∧ m.Perm (l ++ [(s, n, 0)]) ∧ Accts m ∧ ShortA m ∧ nm s = true := by
  obtain ⟨p, e, hp⟩ := open_ok (n := n) hs hsh
  rw [h] at e; cases e
  cases hp with
  | no e he => exact absurd rfl he
  | yes _ hA h0 h1 hm hA2 =>
    refine ⟨hA, h0, h1, hm, hA2, fun a ha => ?_, hA2.name (s, n, 0) (hm.mem_iff.2 (by simp))⟩
    rcases List.mem_append.1 (hm.mem_iff.1 ha) with h | h
    · exact hs a h
    · rw [List.mem_singleton] at h; subst h; exact hsh
theorem took_facts {l m : List Acct} {x : Deal} {t : Bs} (hs : ShortA l) (hd : ShortD x) (h : ledger_Take_m l x t = some (m, 0)) : ∃ i j k, Accts l ∧ rt x = 0 ∧ i < l.length ∧ j < l.length ∧ k < l.length ∧ (nth l k).1 = t ∧ Moved l i j k x.2.2.2.1 x.2.2.2.2.1 m ∧ Accts m ∧ ShortA m := by
  obtain ⟨p, e, hp⟩ := take_ok (t := t) hs hd
  rw [h] at e; cases e
  cases hp with
  | no e he => exact absurd rfl he
  | yes i j k _ hA hr hi hj hk _ _ et _ _ hm hA2 => exact ⟨i, j, k, hA, hr, hi, hj, hk, et, hm, hA2, hm.short hs⟩
theorem StepO.accts {l m : List Acct} {p : Op} (hs : ShortA l) (hr : RightO p) (h : StepO l p m) : Accts m ∧ ShortA m := by
  cases p with
  | o s n => obtain ⟨_, _, _, _, a, b, _⟩ := opened_facts hs hr.1 h; exact ⟨a, b⟩
  | d x t => obtain ⟨i, j, k, _, _, _, _, _, _, _, a, b⟩ := took_facts hs hr.1 h; exact ⟨a, b⟩
theorem accts_nil : Accts [] := ⟨by simp, fun a h => by simp at h, fun k h => by simp at h, fun a h => by simp at h⟩
theorem Runs.accts {l m : List Acct} {ps : List Op} (h : Runs l ps m) (hA : Accts l) (hs : ShortA l) : Accts m ∧ ShortA m := by
  induction h with
  | nil l => exact ⟨hA, hs⟩
  | cons hr hst h ih => obtain ⟨a, b⟩ := hst.accts hs hr; exact ih a b
theorem Runs.accts0 {m : List Acct} {ps : List Op} (h : Runs [] ps m) : Accts m ∧ ShortA m := h.accts accts_nil (fun a h => by simp at h)
theorem Runs.right {l m : List Acct} {ps : List Op} (h : Runs l ps m) : ∀ p ∈ ps, RightO p := by
  induction h with
  | nil l => intro p hp; simp at hp
  | cons hr hst h ih =>
    intro p hp
    rcases List.mem_cons.1 hp with rfl | hp
    · exact hr
    · exact ih p hp
theorem rec_len {p : Op} (h : RightO p) : (recO p).length ≤ 64 ∧ 1 ≤ (recO p).length := by
  cases p with
  | o s n =>
    obtain ⟨h1, h2, h3, h4⟩ := h
    have := nm_facts h1 h2; have := itoa_len h3 h4
    simp only [recO, wordsO, joinW, List.length_append, List.length_cons, List.length_nil]; omega
  | d x t =>
    obtain ⟨h1, h2, h3, h4⟩ := h
    obtain ⟨r1, r2, r3, r4, r5, r6, _⟩ := rt_facts h1 h4
    have := nm_facts h2 h3; have := nm_facts h1.1 r5; have := nm_facts h1.2 r6
    have := itoa_len r1.1 r1.2; have := itoa_len r2.1 r2.2; have := itoa_len r3.1 r3.2; have := itoa_len3 (by omega) r4.2
    simp only [recO, wordsO, joinW, List.length_append, List.length_cons, List.length_nil]; omega
theorem rec_words {p : Op} (h : RightO p) : strings_Split_m (recO p) [32] = some (wordsO p) := by
  have hl := rec_len h
  unfold strings_Split_m
  rw [chk_t ⟨by omega, by simp⟩, Option.bind_some]
  unfold recO
  cases p with
  | o s n =>
    obtain ⟨h1, h2, h3, h4⟩ := h
    rw [splitL_join (by simp [wordsO])]
    intro w hw
    simp only [wordsO, List.mem_cons, List.not_mem_nil, or_false] at hw
    rcases hw with rfl | rfl | rfl
    · decide
    · exact nm_no h1 h2
    · exact itoa_no h3
  | d x t =>
    obtain ⟨h1, h2, h3, h4⟩ := h
    obtain ⟨r1, r2, r3, r4, r5, r6, _⟩ := rt_facts h1 h4
    rw [splitL_join (by simp [wordsO])]
    intro w hw
    simp only [wordsO, List.mem_cons, List.not_mem_nil, or_false] at hw
    rcases hw with rfl | rfl | rfl | rfl | rfl | rfl | rfl | rfl
    · decide
    · exact nm_no h1.1 r5
    · exact nm_no h1.2 r6
    · exact itoa_no r1.1
    · exact itoa_no r2.1
    · exact itoa_no r3.1
    · exact itoa_no (by omega)
    · exact nm_no h2 h3
theorem read_four {w : List Bs} {a b c d : Int} (h3 : idx w 3 = some (Lib.itoa a)) (h4 : idx w 4 = some (Lib.itoa b)) (h5 : idx w 5 = some (Lib.itoa c)) (h6 : idx w 6 = some (Lib.itoa d))
    (ha : 0 ≤ a ∧ a ≤ 1000000) (hb : 0 ≤ b ∧ b ≤ 1000000) (hc : 0 ≤ c ∧ c ≤ 1000000) (hd : 0 ≤ d ∧ d ≤ 1000000) :
    loopM (γ := List Acct) (house_House_read_b2 w) 1048576 (List.replicate 4 (0 : Int), (0 : Int)) = some (.nx ([a, b, c, d], 4)) := by
  have s0 : house_House_read_b2 w (List.replicate 4 (0 : Int), (0 : Int)) = some (.nx ([a, 0, 0, 0], 1)) := by
    unfold house_House_read_b2; dsimp only
    rw [if_pos (by decide), show wadd 3 0 = 3 by decide, h3, Option.bind_some, atoi_m ha.1 ha.2]; rfl
  have s1 : house_House_read_b2 w ([a, 0, 0, 0], (1 : Int)) = some (.nx ([a, b, 0, 0], 2)) := by
    unfold house_House_read_b2; dsimp only
    rw [if_pos (by decide), show wadd 3 1 = 4 by decide, h4, Option.bind_some, atoi_m hb.1 hb.2]; rfl
  have s2 : house_House_read_b2 w ([a, b, 0, 0], (2 : Int)) = some (.nx ([a, b, c, 0], 3)) := by
    unfold house_House_read_b2; dsimp only
    rw [if_pos (by decide), show wadd 3 2 = 5 by decide, h5, Option.bind_some, atoi_m hc.1 hc.2]; rfl
  have s3 : house_House_read_b2 w ([a, b, c, 0], (3 : Int)) = some (.nx ([a, b, c, d], 4)) := by
    unfold house_House_read_b2; dsimp only
    rw [if_pos (by decide), show wadd 3 3 = 6 by decide, h6, Option.bind_some, atoi_m hd.1 hd.2]; rfl
  have s4 : house_House_read_b2 w ([a, b, c, d], (4 : Int)) = some (.br ([a, b, c, d], 4)) := by
    unfold house_House_read_b2; dsimp only
    rw [if_neg (by decide)]
  rw [show (1048576 : Nat) = 1048571 + 1 + 1 + 1 + 1 + 1 from rfl]
  simp only [loopM, s0, s1, s2, s3, s4]
theorem read_step {rs : List Bs} {i : Nat} {p : Op} {l m : List Acct} (hi : rs[i]? = some (recO p)) (hr : RightO p) (h : StepO l p m) : house_House_read_b1 rs i l = some (.nx m) := by
  unfold house_House_read_b1
  rw [idx_nat, hi, Option.bind_some, rec_words hr, Option.bind_some]
  cases p with
  | o s n =>
    obtain ⟨h1, h2, h3, h4⟩ := hr
    rw [show idx (wordsO (.o s n)) 0 = some [111] from rfl, Option.bind_some, if_pos (by decide), show idx (wordsO (.o s n)) 2 = some (Lib.itoa n) from rfl, Option.bind_some, atoi_m h3 h4, Option.bind_some, show idx (wordsO (.o s n)) 1 = some s from rfl, Option.bind_some, show ledger_Open_m l s n = some (m, 0) from h, Option.bind_some]
  | d x t =>
    obtain ⟨h1, h2, h3, h4⟩ := hr
    obtain ⟨r1, r2, r3, r4, r5, r6, _⟩ := rt_facts h1 h4
    rw [show idx (wordsO (.d x t)) 0 = some [100] from rfl, Option.bind_some, if_neg (by decide), read_four (w := wordsO (.d x t)) (a := x.2.2.1) (b := x.2.2.2.1) (c := x.2.2.2.2.1) (d := x.2.2.2.2.2) rfl rfl rfl rfl r1 r2 r3 (by omega)]
    rw [bindF]
    dsimp only
    rw [show idx (wordsO (.d x t)) 1 = some x.1 from rfl, Option.bind_some, show idx (wordsO (.d x t)) 2 = some x.2.1 from rfl, Option.bind_some, show idx (wordsO (.d x t)) 7 = some t from rfl, Option.bind_some]
    rw [show idx [x.2.2.1, x.2.2.2.1, x.2.2.2.2.1, x.2.2.2.2.2] 0 = some x.2.2.1 from rfl, Option.bind_some, show idx [x.2.2.1, x.2.2.2.1, x.2.2.2.2.1, x.2.2.2.2.2] 1 = some x.2.2.2.1 from rfl, Option.bind_some, show idx [x.2.2.1, x.2.2.2.1, x.2.2.2.2.1, x.2.2.2.2.2] 2 = some x.2.2.2.2.1 from rfl, Option.bind_some, show idx [x.2.2.1, x.2.2.2.1, x.2.2.2.2.1, x.2.2.2.2.2] 3 = some x.2.2.2.2.2 from rfl, Option.bind_some]
    rw [show ledger_Take_m l (x.1, x.2.1, x.2.2.1, x.2.2.2.1, x.2.2.2.2.1, x.2.2.2.2.2) t = some (m, 0) from h, Option.bind_some]
abbrev Hs := List Acct × List Deal × List UInt8 × Int
theorem read_ok {h : Hs} {ps : List Op} {fin : List Acct} (hd : h.2.2.1 = cat (ps.map recO)) (hlen : (cat (ps.map recO)).length ≤ 4000) (hr : Runs [] ps fin) : house_House_read_m h = some (fin, [], h.2.2) := by
  obtain ⟨ac, of, dk, sf⟩ := h
  dsimp only at hd; subst hd
  have hright := hr.right
  have hall := all_ok (ps.map recO) sf (fun r h => by obtain ⟨p, hp, rfl⟩ := List.mem_map.1 h; exact (rec_len (hright p hp)).1) hlen
  unfold house_House_read_m
  dsimp only
  rw [hall, Option.bind_some]
  refine Ok.eq ?_
  rw [ok_bindR]
  refine ok_rangeN (fun k l => Runs [] (ps.take k) l) (.nil []) (fun k l hk hI => ?_) fun l hl => ?_
  · rw [List.length_map] at hk
    have e : ps = ps.take k ++ (ps[k] :: ps.drop (k + 1)) := by rw [← List.drop_eq_getElem_cons hk, List.take_append_drop]
    rw [e] at hr
    obtain ⟨m, h1, h2⟩ := hr.split
    have := h1.det hI; subst this
    cases h2 with
    | cons hrr hs h2 =>
      rw [read_step (p := ps[k]) (by rw [List.getElem?_map, List.getElem?_eq_getElem hk]; rfl) hrr hs, ok_some, flok_nx, List.take_succ_eq_append_getElem hk]
      exact h1.append (.cons hrr hs (.nil _))
  · rw [List.length_map, List.take_length] at hl
    have := hl.det hr; subst this
    rw [ok_some]
end Go.Pu
set_option linter.all false
namespace Go.Pu
open Go.Fw Go.Mo
end Go.Pu
set_option linter.all false
namespace Go.Pu
open Go.Fw Go.Mo
abbrev Dd := Int × Int × List UInt8 × Deal
structure Inv (h : Hs) (ps : List Op) (s : Nat) : Prop where
  run : Runs [] ps h.1
  disk : h.2.2.1 = cat (ps.map recO)
  safe : h.2.2.2 = ((cat ((ps.map recO).take s)).length : Int)
  sle : s ≤ ps.length
  len : (cat (ps.map recO)).length ≤ 4000
  queue : Queue h.2.1
  short : ∀ d ∈ h.2.1, ShortD d
inductive Did (h : Hs) (ps : List Op) (s : Nat) (d : Dd) : (Int × Int) × Int × Hs → Prop
  | no (e : Int) : e ≠ 0 → Did h ps s d ((0, 0), e, h)
  | opened (h' : Hs) : d.1 = 1 → Inv h' (ps ++ [.o d.2.2.1 d.2.1]) s → Did h ps s d ((0, 0), 0, h')
  | kept (t : Int × Int) (h' : Hs) (qs : List Op) (s' : Nat) : d.1 ≠ 1 → d.1 ≠ 5 → s ≤ s' → (∀ q ∈ qs, ∃ x t, q = .d x t) → Inv h' (ps ++ qs) s' → (d.1 = 4 → s' = ps.length ∧ qs = []) → Did h ps s d (t, 0, h')
  | crashed (h' : Hs) (w : Nat) : d.1 = 5 → s ≤ w → w ≤ ps.length → Inv h' (ps.take w) w → h'.2.1 = [] → Did h ps s d ((0, 0), 0, h')
theorem inv_new : ∃ h, house_New_m = some h ∧ Inv h [] 0 := ⟨([], [], [], 0), rfl, ⟨.nil _, rfl, rfl, Nat.le_refl _, by simp [cat], ⟨by simp, fun d h => by simp at h, fun i j _ h => by simp at h⟩, fun d h => by simp at h⟩⟩
theorem right_recs {l : List Acct} {ps : List Op} {m : List Acct} (h : Runs l ps m) : ∀ r ∈ ps.map recO, r.length ≤ 64 := fun r hr => by
  obtain ⟨p, hp, rfl⟩ := List.mem_map.1 hr
  exact (rec_len (h.right p hp)).1
theorem cat_le : ∀ l : List Bs, (∀ r ∈ l, r.length ≤ 64) → (cat l).length ≤ 67 * l.length
  | [], _ => by simp [cat]
  | r :: l, h => by
    have := cat_le l fun x hx => h x (by simp [hx])
    have := h r (by simp)
    rw [cat, List.length_append, fr_len, List.length_cons]; omega
theorem take_map_append {ps qs : List Op} {s : Nat} (h : s ≤ ps.length) : ((ps ++ qs).map recO).take s = (ps.map recO).take s := by
  rw [List.map_append, List.take_append_of_le_length (by rw [List.length_map]; exact h)]
theorem open_did {h : Hs} {ps : List Op} {s : Nat} {d : Dd} (hI : Inv h ps s) (hsh : Short d.2.2.1) : ∃ e h', house_House_open_m h d = some (e, h') ∧ ((e ≠ 0 ∧ h' = h) ∨ (e = 0 ∧ Inv h' (ps ++ [.o d.2.2.1 d.2.1]) s)) := by
  obtain ⟨ac, of, dk, sf⟩ := h
  obtain ⟨hrun, hdk, hsf, hsl, hlen, hq, hso⟩ := hI
  dsimp only at hrun hdk hsf hq hso
  subst hdk
  have hsA := hrun.accts0.2
  obtain ⟨p, e1, hp⟩ := open_ok (n := d.2.1) hsA hsh
  unfold house_House_open_m
  dsimp only
  rw [e1, Option.bind_some]
  cases hp with
  | no e he => rw [if_pos (by rw [bne_iff_ne]; exact he)]; exact ⟨e, _, rfl, .inl ⟨he, rfl⟩⟩
  | yes m hA h0 h1 hm hA2 =>
    obtain ⟨_, _, _, _, _, hsm, hnm⟩ := opened_facts hsA hsh e1
    have hR : RightO (.o d.2.2.1 d.2.1) := ⟨hsh, hnm, h0, h1⟩
    have hrl := rec_len hR
    have hll := nm_facts hsh hnm
    have hil := itoa_len h0 h1
    rw [if_neg (by simp), chk_t (by simp only [List.length_cons, List.length_nil]; omega), Option.bind_some, chk_t (by simp only [List.length_append, List.length_cons, List.length_nil]; omega), Option.bind_some, itoa_m h0 h1, Option.bind_some, chk_t (by simp only [List.length_append, List.length_cons, List.length_nil]; omega), Option.bind_some]
    have er : (([111, 32] : List UInt8) ++ d.2.2.1) ++ [32] ++ Lib.itoa d.2.1 = recO (.o d.2.2.1 d.2.1) := by simp [recO, wordsO, joinW]
    rw [er, append_ok _ _ _ hlen, if_pos hrl.1]
    by_cases hf : (cat (ps.map recO)).length + ((recO (.o d.2.2.1 d.2.1)).length + 3) ≤ 4000
    · rw [if_pos hf, Option.bind_some, if_neg (by simp)]
      have ec : cat (ps.map recO ++ [recO (.o d.2.2.1 d.2.1)]) = cat ((ps ++ [Op.o d.2.2.1 d.2.1]).map recO) := by simp
      refine ⟨0, _, rfl, .inr ⟨rfl, ⟨hrun.append (.cons hR e1 (.nil _)), ec, ?_, ?_, ?_, hq, hso⟩⟩⟩
      · dsimp only; rw [take_map_append hsl, hsf]
      · rw [List.length_append]; omega
      · rw [← ec, cat_snoc, List.length_append, fr_len]; exact hf
    · rw [if_neg hf, Option.bind_some, if_pos (by simp)]
      exact ⟨8, _, rfl, .inl ⟨by decide, rfl⟩⟩
theorem deal_rec {x : Deal} {t : Bs} (hR : RightO (.d x t)) : house_deal_m x t = some (recO (.d x t)) := by
  obtain ⟨h1, h2, h3, h4⟩ := hR
  obtain ⟨r1, r2, r3, r4, r5, r6, _⟩ := rt_facts h1 h4
  have a1 := nm_facts h2 h3; have a2 := nm_facts h1.1 r5; have a3 := nm_facts h1.2 r6
  have b1 := itoa_len r1.1 r1.2; have b2 := itoa_len r2.1 r2.2; have b3 := itoa_len r3.1 r3.2; have b4 := itoa_len3 (by omega) r4.2
  have st : ∀ (i : Nat) (n : Int) (y : Bs), [x.2.2.1, x.2.2.2.1, x.2.2.2.2.1, x.2.2.2.2.2][i]? = some n → 0 ≤ n → n ≤ 1000000 → y.length ≤ 1000 → house_deal_b1 x i y = some (.nx (y ++ ([32] ++ Lib.itoa n))) := fun i n y hi h0 h1 hy => by
    have := itoa_len h0 h1
    unfold house_deal_b1
    rw [idx_nat, hi, Option.bind_some, itoa_m h0 h1, Option.bind_some, chk_t (by simp only [List.length_cons, List.length_nil]; omega), Option.bind_some, chk_t (by simp only [List.length_append, List.length_cons, List.length_nil]; omega), Option.bind_some]
  unfold house_deal_m
  rw [chk_t (by simp only [List.length_cons, List.length_nil]; omega), Option.bind_some, chk_t (by simp only [List.length_append, List.length_cons, List.length_nil]; omega), Option.bind_some, chk_t (by simp only [List.length_append, List.length_cons, List.length_nil]; omega), Option.bind_some]
  rw [show [x.2.2.1, x.2.2.2.1, x.2.2.2.2.1, x.2.2.2.2.2].length = 0 + 1 + 1 + 1 + 1 from rfl]
  simp only [rangeN]
  rw [st 0 x.2.2.1 _ rfl r1.1 r1.2 (by simp only [List.length_append, List.length_cons, List.length_nil]; omega)]
  dsimp only
  rw [st (0 + 1) x.2.2.2.1 _ rfl r2.1 r2.2 (by simp only [List.length_append, List.length_cons, List.length_nil]; omega)]
  dsimp only
  rw [st (0 + 1 + 1) x.2.2.2.2.1 _ rfl r3.1 r3.2 (by simp only [List.length_append, List.length_cons, List.length_nil]; omega)]
  dsimp only
  rw [st (0 + 1 + 1 + 1) x.2.2.2.2.2 _ rfl (by omega) (by omega) (by simp only [List.length_append, List.length_cons, List.length_nil]; omega)]
  rw [bindR]
  try dsimp only
  rw [chk_t (by simp only [List.length_append, List.length_cons, List.length_nil]; omega), Option.bind_some, chk_t (by simp only [List.length_append, List.length_cons, List.length_nil]; omega), Option.bind_some]
  simp [recO, wordsO, joinW]
theorem find_acct (h : Hs) (s : Bs) : house_House_find_m h s = some (if h.1.any (fun a => a.1 == s) then (h.1.findIdx (fun a => a.1 == s) : Int) else -1) := by
  unfold house_House_find_m
  rw [indexA h.1 (fun a0 => house_House_find_1_m a0 s) (fun a => a.1 == s) (fun a => rfl)]; rfl
theorem built_runs {x0 : List Deal} {l out : List Acct} {t : Bs} {room left : Int} {ks : List Int} (hq : ∀ d ∈ x0, ShortD d ∧ rt d = 0) (ht : Short t ∧ nm t = true) (hB : Built x0 l t room ks left out) : ∀ j, j ≤ ks.length → Runs l ((ks.take j).map fun k => Op.d (nth x0 k.toNat) t) (runL x0 t l (ks.take j))
  | 0, _ => .nil _
  | j + 1, hj => by
    have ih := built_runs hq ht hB j (by omega)
    have hjl : j < ks.length := by omega
    obtain ⟨i0, i1⟩ := hB.idx j hjl
    obtain ⟨e1, e2⟩ := hB.each j hjl
    have hm : nth x0 (nth ks j).toNat ∈ x0 := nth_mem (by omega)
    obtain ⟨hd, hr⟩ := hq _ hm
    have htk := (tk_ok (t := t) e1 hd).1
    rw [List.take_succ_eq_append_getElem hjl, ← nth_get hjl, List.map_append]
    have : runL x0 t l (ks.take j ++ [nth ks j]) = (tk (runL x0 t l (ks.take j)) (nth x0 (nth ks j).toNat) t).1 := by unfold runL; rw [List.foldl_append]; rfl
    rw [this]
    refine ih.append (.cons ⟨hd, ht.1, ht.2, hr⟩ ?_ (.nil _))
    show ledger_Take_m _ _ _ = _
    rw [htk, ← e2]
theorem build_did {h : Hs} {ps : List Op} {s : Nat} {d : Dd} (hI : Inv h ps s) (hsh : Short d.2.2.1) : ∃ t e h', house_House_build_m h d = some (t, e, h') ∧ ((e ≠ 0 ∧ h' = h ∧ t = (0, 0)) ∨ (e = 0 ∧ ∃ qs : List Op, (∀ q ∈ qs, ∃ x t, q = Op.d x t) ∧ Inv h' (ps ++ qs) s)) := by
  obtain ⟨ac, of, dk, sf⟩ := h
  obtain ⟨hrun, hdk, hsf, hsl, hlen, hq, hso⟩ := hI
  dsimp only at hrun hdk hsf hq hso
  subst hdk
  obtain ⟨hA, hsA⟩ := hrun.accts0
  unfold house_House_build_m
  dsimp only
  rw [find_acct, Option.bind_some]
  dsimp only
  by_cases hany : ac.any (fun a => a.1 == d.2.2.1) = true
  · rw [if_pos hany, if_neg (by rw [decide_eq_true_eq]; omega)]
    have hnm : nm d.2.2.1 = true := by
      obtain ⟨a, ha, e⟩ := List.any_eq_true.1 hany
      rw [beq_iff_eq] at e
      rw [← e]; exact hA.name a ha
    obtain ⟨p, e1, hp⟩ := build_ok (t := d.2.2.1) (room := d.2.1) hso hsA
    obtain ⟨ks, out, er⟩ := p
    rw [e1, Option.bind_some]
    dsimp only at hp ⊢
    rcases hp with ⟨he, _, _⟩ | ⟨he, _, hr0, hr1, left, hB, _⟩
    · rw [if_pos (by rw [bne_iff_ne]; exact he)]
      exact ⟨_, er, _, rfl, .inl ⟨he, rfl, rfl⟩⟩
    · subst he
      rw [if_neg (by decide), show log_Log_Size_m (cat (ps.map recO), sf) = some (((cat (ps.map recO)).length : Int), sf) from rfl, Option.bind_some]
      dsimp only
      have hkl : ks.length ≤ 1000 := by have := hB.len; have := hB.lo; omega
      have hruns := built_runs (fun x hx => ⟨hso x hx, hq.right x hx⟩) ⟨hsh, hnm⟩ hB ks.length (Nat.le_refl _)
      rw [List.take_length, ← hB.run] at hruns
      have hright : ∀ j, j < ks.length → RightO (.d (nth of (nth ks j).toNat) d.2.2.1) := fun j hj => hruns.right _ (List.mem_map.2 ⟨nth ks j, nth_mem hj, rfl⟩)
      generalize hqs : (ks.map fun k => Op.d (nth of k.toNat) d.2.2.1) = qs at hruns
      have hql : qs.length = ks.length := by rw [← hqs, List.length_map]
      have hqrec := right_recs hruns
      have hprec := right_recs hrun
      have hqn : ∀ j, j < ks.length → qs[j]? = some (.d (nth of (nth ks j).toNat) d.2.2.1) := fun j hj => by rw [← hqs, List.getElem?_map, nth_at hj]; rfl
      have htot := cat_le ((ps ++ qs).map recO) (fun r hr => by rw [List.map_append] at hr; rcases List.mem_append.1 hr with h | h; exact hprec r h; exact hqrec r h)
      have hpl := cat_len (ps.map recO)
      rw [List.length_map] at hpl
      have key : Ok (bindR (ρ := (Int × Int) × Int × Hs) (β := Unit) (σ := (List (List UInt8)) × Int × Int) (rangeN (γ := Unit) (house_House_build_b1 (ks, out, 0) (ac, of, cat (ps.map recO), sf) d) ks.length 0 ([], ((cat (ps.map recO)).length : Int), (0 : Int))) fun (l35, x37, x38) => (if decide (x37 > (4000 : Int)) then some ((((0 : Int), (0 : Int)) : (Int × Int)), (8 : Int), (ac, of, cat (ps.map recO), sf)) else bindR (ρ := (Int × Int) × Int × Hs) (β := Unit) (σ := Hs) (rangeN (γ := Unit) (house_House_build_b2 l35) (l35).length 0 (ac, of, cat (ps.map recO), sf)) fun l132 => (queue_Clean_m l132.2.1 out).bind fun y175 => some (((((ks).length : Int), x38) : (Int × Int)), (0 : Int), (out, y175.1, l132.2.2)))) (fun r => (r.2.1 ≠ 0 ∧ r.2.2 = (ac, of, cat (ps.map recO), sf) ∧ r.1 = (0, 0)) ∨ (r.2.1 = 0 ∧ Inv r.2.2 (ps ++ qs) s)) := by
        rw [ok_bindR]
        refine ok_rangeN (fun k (u : List Bs × Int × Int) => u.1 = (qs.map recO).take k ∧ u.2.1 = ((cat (ps.map recO ++ (qs.map recO).take k)).length : Int)) ⟨by simp, by simp⟩ (fun k u hk hu => ?_) fun u hu => ?_
        · obtain ⟨l35, x37, x38⟩ := u
          obtain ⟨u1, u2⟩ := hu
          dsimp only at u1 u2
          obtain ⟨i0, i1⟩ := hB.idx k hk
          have hRk := hright k hk
          have htk : (qs.map recO).take (k + 1) = (qs.map recO).take k ++ [recO (.d (nth of (nth ks k).toNat) d.2.2.1)] := by
            have hk' : k < (qs.map recO).length := by rw [List.length_map, hql]; exact hk
            rw [List.take_succ, List.getElem?_map, hqn k hk]; rfl
          have hrl := (rec_len hRk).1
          have hlk : ((qs.map recO).take k).length ≤ 1000 := by rw [List.length_take]; omega
          have hcl := cat_le (ps.map recO ++ (qs.map recO).take k) (fun r hr => by rcases List.mem_append.1 hr with h | h; exact hprec r h; exact hqrec r (List.mem_of_mem_take h))
          rw [List.length_append, List.length_map] at hcl
          unfold house_House_build_b1
          dsimp only
          rw [idx_nat, nth_at hk, Option.bind_some]
          have hix : idx of (nth ks k) = some (nth of (nth ks k).toNat) := by rw [idx_at i0, nth_at (by omega)]
          rw [hix, Option.bind_some, deal_rec hRk, Option.bind_some, chk_t (by rw [u1]; simp only [List.length_cons, List.length_nil]; omega), Option.bind_some, Option.bind_some, ok_some, flok_nx]
          refine ⟨by dsimp only; rw [u1, htk], ?_⟩
          dsimp only
          rw [htk, ← List.append_assoc, cat_snoc, List.length_append, fr_len, u2, wadd_of (x := ((recO (Op.d (nth of (nth ks k).toNat) d.2.2.1)).length : Int)) (by omega) (by omega), wadd_of (by omega) (by omega)]
          omega
        · obtain ⟨l35, x37, x38⟩ := u
          obtain ⟨u1, u2⟩ := hu
          dsimp only at u1 u2 ⊢
          rw [← hql, show (qs.map recO).take qs.length = qs.map recO by rw [← List.length_map (f := recO), List.take_length]] at u1 u2
          rw [← List.map_append] at u2
          subst u1
          by_cases hbig : x37 > 4000
          · rw [if_pos (by rw [decide_eq_true_eq]; exact hbig), ok_some]
            exact .inl ⟨by simp, rfl, rfl⟩
          · rw [if_neg (by rw [decide_eq_true_eq]; exact hbig), ok_bindR]
            have hlen2 : (cat ((ps ++ qs).map recO)).length ≤ 4000 := by omega
            refine ok_rangeN (fun k (u : Hs) => u = (ac, of, cat (ps.map recO ++ (qs.map recO).take k), sf)) (by simp) (fun k u hk hu => ?_) fun u hu => ?_
            · subst hu
              rw [List.length_map] at hk
              have hk2 : k < ks.length := by omega
              have hRk := hright k hk2
              have htk : (qs.map recO).take (k + 1) = (qs.map recO).take k ++ [recO (.d (nth of (nth ks k).toNat) d.2.2.1)] := by
                rw [List.take_succ, List.getElem?_map, hqn k hk2]; rfl
              have hcl : (cat (ps.map recO ++ (qs.map recO).take (k + 1))).length ≤ 4000 := by
                have := cat_take_le ((ps ++ qs).map recO) ((ps.map recO).length + (k + 1))
                rw [List.map_append, List.take_length_add_append] at this
                rw [List.map_append] at hlen2
                omega
              rw [htk, ← List.append_assoc, cat_snoc, List.length_append, fr_len] at hcl
              unfold house_House_build_b2
              dsimp only
              rw [idx_nat, List.getElem?_map, hqn k hk2, Option.map_some, Option.bind_some, append_ok _ _ _ (by omega), if_pos (rec_len hRk).1, if_pos hcl, Option.bind_some, ok_some, flok_nx]
              rw [htk, List.append_assoc]
            · rw [List.length_map, show (qs.map recO).take qs.length = qs.map recO by rw [← List.length_map (f := recO), List.take_length], ← List.map_append] at hu
              subst hu
              dsimp only
              obtain ⟨p, ep, hp⟩ := clean_ok (accts := out) hso (check_some hB.short)
              rw [ep, Option.bind_some, ok_some]
              refine .inr ⟨rfl, hrun.append hruns, rfl, ?_, ?_, hlen2, ?_, ?_⟩
              · dsimp only; rw [take_map_append hsl, hsf]
              · rw [List.length_append]; omega
              · rcases hp with ⟨e, _⟩ | ⟨e, _, _⟩
                · dsimp only; rw [e]; exact ⟨by simp, fun d h => by simp at h, fun i j _ h => by simp at h⟩
                · rw [e]; exact hq.filter _
              · rcases hp with ⟨e, _⟩ | ⟨e, _, _⟩
                · dsimp only; rw [e]; intro d h; simp at h
                · rw [e]; intro x hx; exact hso x (List.mem_filter.1 hx).1
      obtain ⟨r, e, hr⟩ := key
      refine ⟨r.1, r.2.1, r.2.2, e, ?_⟩
      rcases hr with hr | ⟨h1, h2⟩
      · exact .inl hr
      · refine .inr ⟨h1, qs, fun q hq => ?_, h2⟩
        rw [← hqs] at hq
        obtain ⟨k, _, rfl⟩ := List.mem_map.1 hq
        exact ⟨_, _, rfl⟩
  · rw [if_neg hany, if_pos (by decide)]
    exact ⟨_, 4, _, rfl, .inl ⟨by decide, rfl, rfl⟩⟩
end Go.Pu
set_option linter.all false
namespace Go.Pu
open Go.Fw Go.Mo
def ShortDd (d : Dd) : Prop := Short d.2.2.1 ∧ ShortD d.2.2.2
theorem drop_any {l : List Deal} {s : Bs} {n : Int} (hs : ∀ d ∈ l, ShortD d) (hQ : Queue l) : ∃ p, queue_Drop_m l s n = some p ∧ (p.2 ≠ 0 ∨ (p.2 = 0 ∧ Queue p.1 ∧ ∀ d ∈ p.1, ShortD d)) := by
  obtain ⟨e, he, hq⟩ := checkQ_ok hs
  have h0 := hq.2 hQ
  subst h0
  have hlen := hQ.len
  unfold queue_Drop_m
  rw [he, Option.bind_some, if_neg (by decide), findQ_ok, Option.bind_some]
  by_cases ha : l.any (fun d => key d == (s, n)) = true
  · rw [if_pos ha]
    have hi : l.findIdx (fun d => key d == (s, n)) < l.length := by
      obtain ⟨i, hi, ei⟩ := any_key.1 ha
      exact List.findIdx_lt_length_of_exists ⟨nth l i, nth_mem hi, by rw [beq_iff_eq]; exact ei⟩
    generalize l.findIdx (fun d => key d == (s, n)) = i at hi
    rw [if_neg (by rw [decide_eq_true_eq]; omega), cloneQ l (by omega), Option.bind_some, wadd_of (by omega) (by omega)]
    unfold slices_Delete_api_Deal_api_Deal_m
    rw [chk_t (by omega), Option.bind_some, Option.bind_some, Int.toNat_natCast, show ((i : Int) + 1).toNat = i + 1 by omega]
    have hmem : ∀ d ∈ l.take i ++ l.drop (i + 1), d ∈ l := fun d hd => by
      rcases List.mem_append.1 hd with h | h
      · exact List.mem_of_mem_take h
      · exact List.mem_of_mem_drop h
    refine ⟨_, rfl, .inr ⟨rfl, ⟨?_, fun d hd => hQ.right d (hmem d hd), fun a b hab hb => ?_⟩, fun d hd => hs d (hmem d hd)⟩⟩
    · simp only [List.length_append, List.length_take, List.length_drop]; omega
    · have hnth : ∀ a, a < (l.take i ++ l.drop (i + 1)).length → nth (l.take i ++ l.drop (i + 1)) a = nth l (if a < i then a else a + 1) := fun a ha => by
        rw [nth_append, List.length_take]
        by_cases h : a < i
        · rw [if_pos (by omega), if_pos h, nth_take h]
        · rw [if_neg (by omega), if_neg h, nth_drop]; congr 1; omega
      have hb' := hb
      simp only [List.length_append, List.length_take, List.length_drop] at hb'
      dsimp only at hb ⊢
      rw [hnth a (by omega), hnth b hb]
      refine hQ.once _ _ ?_ ?_
      · split <;> split <;> omega
      · split <;> omega
  · rw [if_neg ha, if_pos (by decide)]
    exact ⟨_, rfl, .inl (by simp)⟩
theorem do_ok {h : Hs} {ps : List Op} {s : Nat} {d : Dd} (hI : Inv h ps s) (hd : ShortDd d) : ∃ r, house_House_Do_m h d = some r ∧ Did h ps s d r := by
  have hI0 := hI
  obtain ⟨ac, of, dk, sf⟩ := h
  obtain ⟨hrun, hdk, hsf, hsl, hlen, hq, hso⟩ := hI
  dsimp only at hrun hdk hsf hq hso
  obtain ⟨hA, hsA⟩ := hrun.accts0
  unfold house_House_Do_m
  dsimp only
  by_cases k1 : d.1 = 1
  · rw [if_pos (by rw [beq_iff_eq]; exact k1)]
    obtain ⟨e, h', e1, hh⟩ := open_did hI0 hd.1
    rw [e1, Option.bind_some]
    rcases hh with ⟨he, rfl⟩ | ⟨he, hh⟩
    · exact ⟨_, rfl, .no e he⟩
    · subst he; exact ⟨_, rfl, .opened h' k1 hh⟩
  rw [if_neg (by rw [beq_iff_eq]; exact k1)]
  by_cases k2 : d.1 = 2
  · rw [if_pos (by rw [beq_iff_eq]; exact k2)]
    obtain ⟨p, e1, hp⟩ := add_ok hso hd.2
    rw [e1, Option.bind_some]
    by_cases he : p.2 = 0
    · rw [if_neg (by rw [bne_iff_ne]; exact fun h => h he)]
      refine ⟨_, rfl, .kept (0, 0) (ac, p.1, dk, sf) [] s (by omega) (by omega) (Nat.le_refl _) (fun q hq => by simp at hq) ?_ (by omega)⟩
      rw [List.append_nil]
      refine ⟨hrun, hdk, hsf, hsl, hlen, hp.queue he, ?_⟩
      dsimp only
      cases hp with
      | no e h => exact absurd he h
      | «at» i _ _ hi _ _ =>
        intro x hx
        rcases List.mem_or_eq_of_mem_set hx with h | rfl
        · exact hso x h
        · exact hd.2
      | end_ _ _ _ _ =>
        intro x hx
        rcases List.mem_append.1 hx with h | h
        · exact hso x h
        · rw [List.mem_singleton] at h; subst h; exact hd.2
    · rw [if_pos (by rw [bne_iff_ne]; exact he)]
      exact ⟨_, rfl, .no p.2 he⟩
  rw [if_neg (by rw [beq_iff_eq]; exact k2)]
  by_cases k3 : d.1 = 3
  · rw [if_pos (by rw [beq_iff_eq]; exact k3)]
    obtain ⟨t, e, h', e1, hh⟩ := build_did hI0 hd.1
    rw [e1, Option.bind_some]
    rcases hh with ⟨he, rfl, rfl⟩ | ⟨he, qs, hqs, hh⟩
    · exact ⟨_, rfl, .no e he⟩
    · subst he; exact ⟨_, rfl, .kept t h' qs s (by omega) (by omega) (Nat.le_refl _) hqs hh (by omega)⟩
  rw [if_neg (by rw [beq_iff_eq]; exact k3)]
  by_cases k4 : d.1 = 4
  · rw [if_pos (by rw [beq_iff_eq]; exact k4)]
    refine ⟨_, rfl, .kept (0, 0) (ac, of, dk, (dk.length : Int)) [] ps.length (by omega) (by omega) hsl (fun q hq => by simp at hq) ?_ (fun _ => ⟨rfl, rfl⟩)⟩
    rw [List.append_nil]
    refine ⟨hrun, hdk, ?_, Nat.le_refl _, hlen, hq, hso⟩
    dsimp only
    rw [← List.length_map (f := recO), List.take_length, ← hdk]
  rw [if_neg (by rw [beq_iff_eq]; exact k4)]
  by_cases k5 : d.1 = 5
  · rw [if_pos (by rw [beq_iff_eq]; exact k5)]
    have hc := crash_ok (ps.map recO) s d.2.1 (right_recs hrun) hlen (by rw [List.length_map]; exact hsl)
    rw [← hsf, ← hdk] at hc
    rcases hc with hc | ⟨w, hw1, hw2, hc⟩
    · rw [hc, Option.bind_some, if_pos (by simp)]
      exact ⟨_, rfl, .no 1 (by decide)⟩
    · rw [List.length_map] at hw2
      have hpw : ps = ps.take w ++ ps.drop w := (List.take_append_drop w ps).symm
      have hr2 := hrun
      rw [hpw] at hr2
      obtain ⟨m, hm, _⟩ := hr2.split
      have hlen2 : (cat ((ps.take w).map recO)).length ≤ 4000 := by
        rw [List.map_take]; have := cat_take_le (ps.map recO) w; omega
      rw [hc, Option.bind_some, if_neg (by simp), read_ok (ps := ps.take w) (fin := m) (by dsimp only; rw [List.map_take]) hlen2 hm, Option.bind_some]
      refine ⟨_, rfl, .crashed (m, [], cat ((ps.map recO).take w), _) w k5 hw1 hw2 ⟨hm, ?_, ?_, ?_, hlen2, ⟨by simp, fun d h => by simp at h, fun i j _ h => by simp at h⟩, fun d h => by simp at h⟩ rfl⟩
      · dsimp only; rw [List.map_take]
      · dsimp only; rw [List.map_take, List.take_take, Nat.min_self]
      · rw [List.length_take]; omega
  rw [if_neg (by rw [beq_iff_eq]; exact k5)]
  by_cases k6 : d.1 = 6
  · rw [if_pos (by rw [beq_iff_eq]; exact k6), find_acct, Option.bind_some]
    dsimp only
    by_cases hany : ac.any (fun a => a.1 == d.2.2.1) = true
    · have hi : ac.findIdx (fun a => a.1 == d.2.2.1) < ac.length := by
        obtain ⟨a, ha, e⟩ := List.any_eq_true.1 hany
        exact List.findIdx_lt_length_of_exists ⟨a, ha, e⟩
      rw [if_pos hany, if_neg (by rw [decide_eq_true_eq]; omega), idx_nat, nth_at hi, Option.bind_some, Option.bind_some]
      exact ⟨_, rfl, .kept _ (ac, of, dk, sf) [] s (by omega) (by omega) (Nat.le_refl _) (fun q hq => by simp at hq) (by rw [List.append_nil]; exact hI0) (by omega)⟩
    · rw [if_neg hany, if_pos (by decide)]
      exact ⟨_, rfl, .no 4 (by decide)⟩
  rw [if_neg (by rw [beq_iff_eq]; exact k6)]
  by_cases k7 : d.1 = 7
  · rw [if_pos (by rw [beq_iff_eq]; exact k7)]
    obtain ⟨p, e1, hp⟩ := drop_any (s := d.2.2.1) (n := d.2.1) hso hq
    rw [e1, Option.bind_some]
    rcases hp with he | ⟨he, hQ, hS⟩
    · rw [if_pos (by rw [bne_iff_ne]; exact he)]
      exact ⟨_, rfl, .no p.2 he⟩
    · rw [if_neg (by rw [bne_iff_ne]; exact fun h => h he)]
      refine ⟨_, rfl, .kept (0, 0) (ac, p.1, dk, sf) [] s (by omega) (by omega) (Nat.le_refl _) (fun q hq => by simp at hq) ?_ (by omega)⟩
      rw [List.append_nil]
      exact ⟨hrun, hdk, hsf, hsl, hlen, hQ, hS⟩
  rw [if_neg (by rw [beq_iff_eq]; exact k7)]
  exact ⟨_, rfl, .no 1 (by decide)⟩
theorem Did.inv {h : Hs} {ps : List Op} {s : Nat} {d : Dd} {r : (Int × Int) × Int × Hs} (hI : Inv h ps s) (hD : Did h ps s d r) : ∃ ps' s', Inv r.2.2 ps' s' := by
  cases hD with
  | no e he => exact ⟨_, _, hI⟩
  | opened h' k h => exact ⟨_, _, h⟩
  | kept t h' qs s' _ _ _ _ h _ => exact ⟨_, _, h⟩
  | crashed h' w _ _ _ h _ => exact ⟨_, _, h⟩
theorem worked_ok (l : List Dd) (hl : ∀ d ∈ l, ShortDd d) : ∃ h ps s, pk_worked_m l = some h ∧ Inv h ps s := by
  have : Ok (pk_worked_m l) (fun h => ∃ ps s, Inv h ps s) := by
    unfold pk_worked_m
    rw [show house_New_m = some (([], [], [], 0) : Hs) from rfl, Option.bind_some, ok_bindR]
    refine ok_rangeL (fun _ (h : Hs) => ∃ ps s, Inv h ps s) ?_ (fun k d h hk hI => ?_) fun h hI => ?_
    · obtain ⟨h, e, hI⟩ := inv_new
      cases e; exact ⟨_, _, hI⟩
    · obtain ⟨ps, s, hI⟩ := hI
      unfold pk_worked_b1
      obtain ⟨r, e, hD⟩ := do_ok (d := d) hI (hl d (List.mem_of_getElem? hk))
      show Ok ((house_House_Do_m h d).bind _) _
      rw [e, Option.bind_some, ok_some, flok_nx]
      exact hD.inv hI
    · rw [ok_some]; exact hI
  obtain ⟨h, e, ps, s, hI⟩ := this
  exact ⟨h, ps, s, e, hI⟩
end Go.Pu
set_option linter.all false
namespace Go.Pu
open Go.Fw Go.Mo
theorem houses_t : pk_houses_m = some true := by decide +kernel
end Go.Pu
set_option linter.all false
namespace Go.Pu
open Go.Fw Go.Mo
theorem peta {α β : Type} (p : α × β) : (p.1, p.2) = p := rfl
theorem accts_m {h : Hs} (hA : Accts h.1) : house_House_Accounts_m h = some h.1 := by
  have := hA.len
  unfold house_House_Accounts_m; rw [cloneA _ (by omega)]; rfl
theorem offers_m {h : Hs} (hQ : Queue h.2.1) : house_House_Offers_m h = some h.2.1 := by
  have := hQ.len
  unfold house_House_Offers_m; rw [cloneQ _ (by omega)]; rfl
theorem sum_le : ∀ l : List Acct, (∀ a ∈ l, 0 ≤ a.2.1 ∧ a.2.1 ≤ 1000000) → 0 ≤ (l.map fun a => a.2.1).sum ∧ (l.map fun a => a.2.1).sum ≤ 1000000 * l.length
  | [], _ => by simp
  | a :: l, h => by
    have := sum_le l fun x hx => h x (by simp [hx])
    have := h a (by simp)
    rw [List.map_cons, List.sum_cons, List.length_cons]; omega
theorem Accts.money {l : List Acct} (h : Accts l) : 0 ≤ moneyS l ∧ moneyS l ≤ 6000000 := by
  have h6 := h.len
  rw [sum_map]
  have := sum_le l fun a ha => (h.val a ha).1
  omega
theorem money_open {l m : List Acct} {s : Bs} {n : Int} (h : m.Perm (l ++ [(s, n, 0)])) : moneyS m = moneyS l + n := by
  rw [perm_money h, sum_map, sum_map, List.map_append, List.sum_append]; simp
theorem StepO.money {l m : List Acct} {p : Op} (hs : ShortA l) (hr : RightO p) (h : StepO l p m) : moneyS l ≤ moneyS m ∧ ((∃ x t, p = .d x t) → moneyS m = moneyS l) := by
  cases p with
  | o s n =>
    obtain ⟨_, h0, _, hm, _⟩ := opened_facts hs hr.1 h
    have := money_open hm
    exact ⟨by omega, fun ⟨x, t, e⟩ => by cases e⟩
  | d x t =>
    obtain ⟨i, j, k, _, _, hi, hj, hk, _, hm, _⟩ := took_facts hs hr.1 h
    have := hm.money hi hj hk
    exact ⟨by omega, fun _ => this⟩
theorem Runs.money {l m : List Acct} {ps : List Op} (h : Runs l ps m) (hA : Accts l) (hs : ShortA l) : moneyS l ≤ moneyS m ∧ ((∀ p ∈ ps, ∃ x t, p = .d x t) → moneyS m = moneyS l) := by
  induction h with
  | nil l => exact ⟨Int.le_refl _, fun _ => rfl⟩
  | cons hr hst h ih =>
    obtain ⟨a, b⟩ := hst.accts hs hr
    obtain ⟨i1, i2⟩ := ih a b
    obtain ⟨j1, j2⟩ := hst.money hs hr
    refine ⟨by omega, fun hp => ?_⟩
    rw [i2 fun p hp' => hp p (by simp [hp']), j2 (hp _ (by simp))]
end Go.Pu
set_option linter.all false
namespace Go.Pu
open Go.Fw Go.Mo
structure Grows (l m : List Acct) : Prop where
  len : l.length ≤ m.length
  each : ∀ a ∈ l, ∃ b ∈ m, b.1 = a.1 ∧ a.2.2 ≤ b.2.2
theorem StepO.grows {l m : List Acct} {p : Op} (hs : ShortA l) (hr : RightO p) (h : StepO l p m) : Grows l m := by
  cases p with
  | o s n =>
    obtain ⟨_, h0, _, hm, _⟩ := opened_facts hs hr.1 h
    refine ⟨by rw [hm.length_eq]; simp, fun a ha => ⟨a, hm.mem_iff.2 (List.mem_append_left _ ha), rfl, Int.le_refl _⟩⟩
  | d x t =>
    obtain ⟨i, j, k, _, _, hi, hj, hk, _, hm, _⟩ := took_facts hs hr.1 h
    refine ⟨by rw [hm.len]; exact Nat.le_refl _, fun a ha => ?_⟩
    obtain ⟨q, hq, rfl⟩ := mem_nth ha
    refine ⟨nth m q, nth_mem (by rw [hm.len]; exact hq), ?_, ?_⟩
    · rw [hm.at_ q hq]
    · rw [hm.at_ q hq]; dsimp only; split <;> omega
theorem Grows.trans {l m k : List Acct} (h1 : Grows l m) (h2 : Grows m k) : Grows l k := by
  refine ⟨Nat.le_trans h1.len h2.len, fun a ha => ?_⟩
  obtain ⟨b, hb, e1, e2⟩ := h1.each a ha
  obtain ⟨c, hc, e3, e4⟩ := h2.each b hb
  exact ⟨c, hc, e3.trans e1, by omega⟩
theorem Runs.grows {l m : List Acct} {ps : List Op} (h : Runs l ps m) (hA : Accts l) (hs : ShortA l) : Grows l m := by
  induction h with
  | nil l => exact ⟨Nat.le_refl _, fun a ha => ⟨a, ha, rfl, Int.le_refl _⟩⟩
  | cons hr hst h ih =>
    obtain ⟨a, b⟩ := hst.accts hs hr
    exact (hst.grows hs hr).trans (ih a b)
theorem HouseOwn_ (x0 : List Acct) (h0 : ShortA x0) (l0 : x0.length ≤ 4398046510976) (x1 : Deal) (h1 : ShortD x1) (x2 : List Deal) (h2 : ∀ d ∈ x2, ShortD d) (l2 : x2.length ≤ 2199023255488) (x3 : List Dd) (h3 : ∀ d ∈ x3, ShortDd d) (hrep : ∃ v, pick_Replay_m x2 x0 x1.2.1 = some v) (hL : pk_ledgers_m = some true) : pk_HouseOwn_m x0 x1 x2 x3 = some true := by
  obtain ⟨h, ps, s, hw, hI⟩ := worked_ok x3 h3
  obtain ⟨v1, e1, _⟩ := take_ok (t := x1.2.1) h0 h1
  obtain ⟨v2, e2, _⟩ := open_ok (n := 1) h0 h1.2
  obtain ⟨v3, e3, _⟩ := add_ok h2 h1
  obtain ⟨v4, e4, _⟩ := clean_ok h2 (check_some h0)
  obtain ⟨v5, e5, _⟩ := build_ok (t := x1.2.1) (room := 50) h2 h0
  obtain ⟨v6, e6⟩ := hrep
  have c1 : slices_Clone_api_Account_api_Account_m x0 = some x0 := by unfold slices_Clone_api_Account_api_Account_m; rw [chk_t (by omega)]; rfl
  have c2 : slices_Clone_api_Deal_api_Deal_m x2 = some x2 := by unfold slices_Clone_api_Deal_api_Deal_m; rw [chk_t (by omega)]; rfl
  have hA := hI.run.accts0.1
  have c3 := cloneA h.1 (by have := hA.len; omega)
  have c4 := cloneQ h.2.1 (by have := hI.queue.len; omega)
  have p1 : ∀ (l : List Acct) (x : Acct), pk_spoil_api_Account_m l x = some (List.replicate l.length x) := fun _ _ => rfl
  have p2 : ∀ (l : List Deal) (x : Deal), pk_spoil_api_Deal_m l x = some (List.replicate l.length x) := fun _ _ => rfl
  unfold pk_HouseOwn_m
  simp only [hL, queues_t, picks_t, houses_t, Option.bind_some, Bool.not_true, Bool.false_eq_true, if_false, bindR, c1, c2, e1, p1, e2, e3, p2, e4, e5, e6, hw, peta, accts_m hA, offers_m hI.queue, c3, c4, equal_acct, equal_deal, decide_true, if_true]
end Go.Pu
set_option linter.all false
namespace Go.Pu
open Go.Fw Go.Mo
def WfDd (d : Dd) : Prop := (Lit.int .i64 d.1).wf = true ∧ (Lit.int .i64 d.2.1).wf = true ∧ d.2.2.1.length ≤ maxLen ∧ WfD d.2.2.2
theorem WfDd.short {d : Dd} (h : WfDd d) : ShortDd d := ⟨h.2.2.1, h.2.2.2.short⟩
end Go.Pu
set_option linter.all false
namespace Go.Pu
open Go.Fw Go.Mo
theorem replay_any {x0 : List Deal} {l : List Acct} {t : Bs} (hs : ∀ d ∈ x0, ShortD d) (ha : ShortA l) : ∃ v, pick_Replay_m x0 l t = some v := by
  have : Ok (pick_Replay_m x0 l t) (fun _ => True) := by
    obtain ⟨e, he, hq⟩ := checkA_ok ha
    unfold pick_Replay_m
    rw [he, Option.bind_some]
    by_cases h0 : e = 0
    · have := (hq.1 h0).len
      rw [if_neg (by rw [bne_iff_ne]; exact fun h => h h0), chk_t (by simp only [List.length_nil]; omega), Option.bind_some, List.nil_append, ok_bindR]
      refine ok_rangeL (fun _ (m : List Acct) => ShortA m) ha (fun k d m hk hm => ?_) fun m hm => ?_
      · have hd := hs d (List.mem_of_getElem? hk)
        obtain ⟨p, e1, hp⟩ := take_ok (t := t) hm hd
        unfold pick_Replay_b1
        rw [e1, Option.bind_some]
        cases hp with
        | no e he => rw [if_pos (by rw [bne_iff_ne]; exact he), ok_some, flok_rt]; trivial
        | yes i j k m2 _ _ _ _ _ _ _ _ _ _ hmv _ => rw [if_neg (by simp), ok_some, flok_nx]; exact hmv.short hm
      · rw [ok_some]; trivial
    · rw [if_pos (by rw [bne_iff_ne]; exact h0), ok_some]; trivial
  obtain ⟨v, e, _⟩ := this
  exact ⟨v, e⟩
theorem HouseOwn (x0 : List Acct) (h0 : (∀ a ∈ x0, WfA a) ∧ x0.length ≤ maxLen) (b0 : x0.length ≤ 4398046510976) (x1 : Deal) (h1 : WfD x1) (x2 : List Deal) (h2 : (∀ d ∈ x2, WfD d) ∧ x2.length ≤ maxLen) (b2 : x2.length ≤ 2199023255488) (x3 : List Dd) (h3 : (∀ d ∈ x3, WfDd d) ∧ x3.length ≤ maxLen) {Q : Prop} (_ : Q) : pk_HouseOwn_m x0 x1 x2 x3 = some true :=
  have hs : ShortA x0 := fun a ha => (h0.1 a ha).1
  have hd : ∀ d ∈ x2, ShortD d := fun d hd => (h2.1 d hd).short
  HouseOwn_ x0 hs (by omega) x1 h1.short x2 hd (by omega) x3 (fun d hd => (h3.1 d hd).short) (replay_any hd hs) ledgers_t
end Go.Pu
