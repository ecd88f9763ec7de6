/- Who has how much: what the ledger's functions answer. -/
import Derived.Test.YtmnhkcdgchfmdaaGreatDoorWHouseOwnModels
import Derived.Test.YtmnhkcdgchfmdaaGreatDoorPuQClean
import Derived.Test.YtmnhkcdgchfmdaaGreatDoorPuMat
set_option linter.all false
namespace Go.Pu
open Go.Fw Go.Mo
/-! ### texts in order -/
theorem bls_nil (x : List UInt8) : bls x [] = false := by cases x <;> rfl
theorem bls_cons (a b : UInt8) (x y : List UInt8) : bls (a :: x) (b :: y) = (decide (a < b) || (a == b && bls x y)) := rfl
theorem bls_irrefl : ∀ x : List UInt8, bls x x = false
  | [] => rfl
  | a :: x => by
    rw [bls_cons, bls_irrefl x]
    have : ¬ a < a := UInt8.lt_irrefl a
    simp [this]
theorem bls_trans : ∀ x y z : List UInt8, bls x y = true → bls y z = true → bls x z = true
  | x, y, [], _, h => by rw [bls_nil] at h; cases h
  | x, [], z, h, _ => by rw [bls_nil] at h; cases h
  | [], b :: y, c :: z, _, _ => rfl
  | a :: x, b :: y, c :: z, h1, h2 => by
    rw [bls_cons] at h1 h2 ⊢
    have ih := bls_trans x y z
    simp only [Bool.or_eq_true, decide_eq_true_eq, Bool.and_eq_true, beq_iff_eq] at h1 h2 ⊢
    rcases h1 with h1 | ⟨rfl, h1⟩ <;> rcases h2 with h2 | ⟨rfl, h2⟩
    · exact .inl (UInt8.lt_trans h1 h2)
    · exact .inl h1
    · exact .inl h2
    · exact .inr ⟨rfl, ih h1 h2⟩
theorem bls_total : ∀ x y : List UInt8, bls x y = true ∨ x = y ∨ bls y x = true
  | [], [] => .inr (.inl rfl)
  | [], _ :: _ => .inl rfl
  | _ :: _, [] => .inr (.inr rfl)
  | a :: x, b :: y => by
    rw [bls_cons, bls_cons]
    have ih := bls_total x y
    simp only [Bool.or_eq_true, decide_eq_true_eq, Bool.and_eq_true, beq_iff_eq]
    by_cases hab : a = b
    · subst hab
      rcases ih with h | h | h
      · exact .inl (.inr ⟨rfl, h⟩)
      · exact .inr (.inl (by rw [h]))
      · exact .inr (.inr (.inr ⟨rfl, h⟩))
    · rcases Nat.lt_or_gt_of_ne (fun e : a.toNat = b.toNat => hab (UInt8.toNat_inj.1 e)) with h | h
      · exact .inl (.inl (UInt8.lt_iff_toNat_lt.2 h))
      · exact .inr (.inr (.inl (UInt8.lt_iff_toNat_lt.2 h)))
theorem bls_le {x y : List UInt8} : (bls x y || x == y) = false ↔ bls y x = true := by
  constructor
  · intro h
    simp only [Bool.or_eq_false_iff, beq_eq_false_iff_ne] at h
    rcases bls_total x y with h' | h' | h'
    · rw [h.1] at h'; cases h'
    · exact absurd h' h.2
    · exact h'
  · intro h
    have h1 : bls x y = false := by
      cases e : bls x y with
      | false => rfl
      | true => have := bls_trans _ _ _ e h; rw [bls_irrefl] at this; cases this
    have h2 : x ≠ y := fun e => by subst e; rw [bls_irrefl] at h; cases h
    rw [h1, Bool.false_or, beq_eq_false_iff_ne]; exact h2
/-! ### accounts in a right form -/
structure Accts (l : List Acct) : Prop where
  len : l.length ≤ 6
  name : ∀ a ∈ l, nm a.1 = true
  asc : ∀ k, k + 1 < l.length → bls (nth l k).1 (nth l (k + 1)).1 = true
  val : ∀ a ∈ l, (0 ≤ a.2.1 ∧ a.2.1 ≤ 1000000) ∧ 0 ≤ a.2.2 ∧ a.2.2 ≤ 1000000
def ShortA (l : List Acct) : Prop := ∀ a ∈ l, Short a.1
theorem checkA_ok {l : List Acct} (hs : ShortA l) : ∃ e, ledger_Check_m l = some e ∧ (e = 0 ↔ Accts l) := by
  have : Ok (ledger_Check_m l) (fun e => e = 0 ↔ Accts l) := by
    unfold ledger_Check_m
    by_cases h6 : (l.length : Int) > 6
    · rw [if_pos (by rw [decide_eq_true_eq]; exact h6), ok_some]
      exact ⟨fun h => by (cases h), fun h => by have := h.len; omega⟩
    · rw [if_neg (by rw [decide_eq_true_eq]; exact h6), ok_bindR]
      refine ok_rangeL (fun k _ => (∀ i, i < k → nm (nth l i).1 = true ∧ (0 ≤ (nth l i).2.1 ∧ (nth l i).2.1 ≤ 1000000) ∧ 0 ≤ (nth l i).2.2 ∧ (nth l i).2.2 ≤ 1000000) ∧ ∀ i, i + 1 < k → bls (nth l i).1 (nth l (i + 1)).1 = true) ⟨fun i hi => by omega, fun i hi => by omega⟩ (fun k a t hk hI => ?_) fun t ht => ?_
      · obtain ⟨ha, hkl⟩ := nth_of hk
        have hsa := hs a (List.mem_of_getElem? hk)
        have hmem := List.mem_of_getElem? hk
        unfold ledger_Check_b1
        rw [named_ok hsa, Option.bind_some, ok_bindF]
        have bad : ¬ Accts l → Ok (some (Fl.nx (ρ := Int) (β := Unit) true)) (FlOk (fun x98 : Bool => Ok (if x98 then some (.rt (3 : Int)) else bindF (ρ := Int) (β := Unit) (σ := Bool) (if decide (a.2.1 < (0 : Int)) then some (.nx true) else (if decide (a.2.1 > (1000000 : Int)) then some (.nx true) else (if decide (a.2.2 < (0 : Int)) then some (.nx true) else some (.nx (decide (a.2.2 > (1000000 : Int))))))) fun x121 => (if x121 then some (.rt (1 : Int)) else some (.nx ()))) (FlOk (fun (_ : Unit) => (∀ i, i < k + 1 → nm (nth l i).1 = true ∧ (0 ≤ (nth l i).2.1 ∧ (nth l i).2.1 ≤ 1000000) ∧ 0 ≤ (nth l i).2.2 ∧ (nth l i).2.2 ≤ 1000000) ∧ ∀ i, i + 1 < k + 1 → bls (nth l i).1 (nth l (i + 1)).1 = true) (fun _ => False) (fun e => e = 0 ↔ Accts l))) (fun _ => False) (fun _ => False)) := fun hb => by
          rw [ok_some, flok_nx, if_pos rfl, ok_some, flok_rt]
          exact ⟨fun h => by (cases h), fun h => absurd h hb⟩
        have good : nm a.1 = true → (0 < k → bls (nth l (k - 1)).1 a.1 = true) → Ok (some (Fl.nx (ρ := Int) (β := Unit) false)) (FlOk (fun x98 : Bool => Ok (if x98 then some (.rt (3 : Int)) else bindF (ρ := Int) (β := Unit) (σ := Bool) (if decide (a.2.1 < (0 : Int)) then some (.nx true) else (if decide (a.2.1 > (1000000 : Int)) then some (.nx true) else (if decide (a.2.2 < (0 : Int)) then some (.nx true) else some (.nx (decide (a.2.2 > (1000000 : Int))))))) fun x121 => (if x121 then some (.rt (1 : Int)) else some (.nx ()))) (FlOk (fun (_ : Unit) => (∀ i, i < k + 1 → nm (nth l i).1 = true ∧ (0 ≤ (nth l i).2.1 ∧ (nth l i).2.1 ≤ 1000000) ∧ 0 ≤ (nth l i).2.2 ∧ (nth l i).2.2 ≤ 1000000) ∧ ∀ i, i + 1 < k + 1 → bls (nth l i).1 (nth l (i + 1)).1 = true) (fun _ => False) (fun e => e = 0 ↔ Accts l))) (fun _ => False) (fun _ => False)) := fun hn hb => by
          rw [ok_some, flok_nx, if_neg (by decide), ok_bindF]
          by_cases hv : (0 ≤ a.2.1 ∧ a.2.1 ≤ 1000000) ∧ 0 ≤ a.2.2 ∧ a.2.2 ≤ 1000000
          · rw [if_neg (by rw [decide_eq_true_eq]; omega), if_neg (by rw [decide_eq_true_eq]; omega), if_neg (by rw [decide_eq_true_eq]; omega), ok_some, flok_nx, if_neg (by rw [decide_eq_true_eq]; omega), ok_some, flok_nx]
            refine ⟨fun i hi => ?_, fun i hi => ?_⟩
            · by_cases e : i = k
              · subst e; rw [ha]; exact ⟨hn, hv⟩
              · exact hI.1 i (by omega)
            · by_cases e : i + 1 = k
              · subst e; rw [ha]; exact hb (by omega)
              · exact hI.2 i (by omega)
          · have nb : Ok (if decide (a.2.1 < (0 : Int)) then some (Fl.nx (ρ := Int) (β := Unit) true) else (if decide (a.2.1 > (1000000 : Int)) then some (.nx true) else (if decide (a.2.2 < (0 : Int)) then some (.nx true) else some (.nx (decide (a.2.2 > (1000000 : Int))))))) (FlOk (fun b => b = true) (fun _ => False) (fun _ => False)) := by
              simp only [ok_ite, ok_some, flok_nx, decide_eq_true_eq]
              exact ⟨fun _ => trivial, fun _ => ⟨fun _ => trivial, fun _ => ⟨fun _ => trivial, fun _ => by omega⟩⟩⟩
            refine nb.fl (fun b hb' => ?_) (fun _ h => h.elim) (fun _ h => h.elim)
            subst hb'
            rw [if_pos rfl, ok_some, flok_rt]
            exact ⟨fun h => by (cases h), fun h => absurd (h.val a hmem) hv⟩
        by_cases hn : nm a.1 = true
        · rw [if_neg (by simp [hn])]
          by_cases hk0 : (k : Int) > 0
          · rw [if_pos (by rw [decide_eq_true_eq]; exact hk0), wsub_of (by omega) (by omega), show (k : Int) - 1 = ((k - 1 : Nat) : Int) by omega, idx_nat, nth_at (by omega), Option.bind_some]
            cases hb : (bls a.1 (nth l (k - 1)).1 || a.1 == (nth l (k - 1)).1) with
            | true =>
              refine (bad fun h => ?_).fl (fun _ h => h.fl (fun _ h => h) (fun _ h => h.elim) (fun _ h => h)) (fun _ h => h.elim) (fun _ h => h.elim)
              have := h.asc (k - 1) (by omega)
              rw [show k - 1 + 1 = k by omega, ha] at this
              rw [bls_le.2 this] at hb; cases hb
            | false =>
              exact (good hn fun _ => bls_le.1 hb).fl (fun _ h => h.fl (fun _ h => h) (fun _ h => h.elim) (fun _ h => h)) (fun _ h => h.elim) (fun _ h => h.elim)
          · rw [if_neg (by rw [decide_eq_true_eq]; exact hk0)]
            exact (good hn fun h => by omega).fl (fun _ h => h.fl (fun _ h => h) (fun _ h => h.elim) (fun _ h => h)) (fun _ h => h.elim) (fun _ h => h.elim)
        · rw [if_pos (by simpa using hn)]
          exact (bad fun h => hn (h.name a hmem)).fl (fun _ h => h.fl (fun _ h => h) (fun _ h => h.elim) (fun _ h => h)) (fun _ h => h.elim) (fun _ h => h.elim)
      · rw [ok_some]
        refine ⟨fun _ => ⟨by omega, fun a ha => ?_, ht.2, fun a ha => ?_⟩, fun _ => rfl⟩
        · obtain ⟨i, hi, rfl⟩ := mem_nth ha; exact (ht.1 i hi).1
        · obtain ⟨i, hi, rfl⟩ := mem_nth ha; exact (ht.1 i hi).2
  exact this
section
variable {l : List Acct}
theorem Accts.at (h : Accts l) {i : Nat} (hi : i < l.length) : (0 ≤ (nth l i).2.1 ∧ (nth l i).2.1 ≤ 1000000) ∧ 0 ≤ (nth l i).2.2 ∧ (nth l i).2.2 ≤ 1000000 := h.val _ (nth_mem hi)
theorem Accts.chain (h : Accts l) : ∀ d i, i + (d + 1) < l.length → bls (nth l i).1 (nth l (i + (d + 1))).1 = true
  | 0, i, hd => h.asc i hd
  | d + 1, i, hd => bls_trans _ _ _ (h.chain d i (by omega)) (h.asc (i + (d + 1)) (by omega))
theorem Accts.ne (h : Accts l) {i j : Nat} (hij : i < j) (hj : j < l.length) : (nth l i).1 ≠ (nth l j).1 := fun e => by
  have := h.chain (j - i - 1) i (by omega)
  rw [show i + (j - i - 1 + 1) = j by omega, e, bls_irrefl] at this; cases this
theorem Accts.inj (h : Accts l) {i j : Nat} (hi : i < l.length) (hj : j < l.length) (e : (nth l i).1 = (nth l j).1) : i = j := by
  by_cases hij : i = j
  · exact hij
  · rcases Nat.lt_or_gt_of_ne hij with h1 | h1
    · exact absurd e (h.ne h1 hj)
    · exact absurd e.symm (h.ne h1 hi)
theorem findA_ok (l : List Acct) (s : List UInt8) : ledger_find_m l s = some (if l.any (fun a => a.1 == s) then (l.findIdx (fun a => a.1 == s) : Int) else -1) := by
  unfold ledger_find_m
  rw [indexA l (fun a0 => ledger_find_1_m a0 s) (fun a => a.1 == s) (fun a => rfl)]; rfl
theorem findA_at (h : Accts l) {i : Nat} (hi : i < l.length) {s : List UInt8} (e : (nth l i).1 = s) : ledger_find_m l s = some (i : Int) := by
  have ha : l.any (fun a => a.1 == s) = true := List.any_eq_true.2 ⟨nth l i, nth_mem hi, by simpa using e⟩
  rw [findA_ok, if_pos ha]
  have hlt : l.findIdx (fun a => a.1 == s) < l.length := List.findIdx_lt_length.2 (by rw [List.any_eq_true] at ha; exact ha)
  have hk := List.findIdx_getElem (w := hlt)
  rw [← nth_get hlt, beq_iff_eq] at hk
  rw [h.inj hlt hi (hk.trans e.symm)]
theorem findA_no {s : List UInt8} (h : ∀ i, i < l.length → (nth l i).1 ≠ s) : ledger_find_m l s = some (-1) := by
  rw [findA_ok, if_neg]
  intro ha
  obtain ⟨a, ha, e⟩ := List.any_eq_true.1 ha
  obtain ⟨i, hi, rfl⟩ := mem_nth ha
  exact h i hi (by simpa using e)
theorem findA_cases (h : Accts l) (s : List UInt8) : (∃ i, i < l.length ∧ (nth l i).1 = s ∧ ledger_find_m l s = some (i : Int)) ∨ ((∀ i, i < l.length → (nth l i).1 ≠ s) ∧ ledger_find_m l s = some (-1)) := by
  by_cases ex : ∃ i, i < l.length ∧ (nth l i).1 = s
  · obtain ⟨i, hi, e⟩ := ex; exact .inl ⟨i, hi, e, findA_at h hi e⟩
  · have hn : ∀ i, i < l.length → (nth l i).1 ≠ s := fun i hi e => ex ⟨i, hi, e⟩
    exact .inr ⟨hn, findA_no hn⟩
end
theorem cloneA (l : List Acct) (h : l.length ≤ 1000) : slices_Clone_api_Account_api_Account_m l = some l := by unfold slices_Clone_api_Account_api_Account_m; rw [chk_t (by omega)]; rfl
/-- so much is moved -/
structure Moved (l : List Acct) (i j k : Nat) (a b : Int) (m : List Acct) : Prop where
  len : m.length = l.length
  at_ : ∀ q, q < l.length → nth m q = ((nth l q).1, (nth l q).2.1 - (if q = i then a + b else 0) + (if q = j then a else 0) + (if q = k then b else 0), (nth l q).2.2 + (if q = i then 1 else 0))
inductive Took (l : List Acct) (d : Deal) (t : List UInt8) : List Acct × Int → Prop
  | no (e : Int) : e ≠ 0 → Took l d t ([], e)
  | yes (i j k : Nat) (m : List Acct) : Accts l → rt d = 0 → i < l.length → j < l.length → k < l.length → (nth l i).1 = d.1 → (nth l j).1 = d.2.1 → (nth l k).1 = t → d.2.2.1 = (nth l i).2.2 → d.2.2.2.1 + d.2.2.2.2.1 ≤ (nth l i).2.1 → Moved l i j k d.2.2.2.1 d.2.2.2.2.1 m → Accts m → Took l d t (m, 0)
/-- what ledger.Take does where all is right and the three are there -/
theorem take_three {l : List Acct} {d : Deal} {t : List UInt8} (hA : Accts l) (hs : ShortA l) (hd : ShortD d) (hr : rt d = 0) {i j k : Nat} (hi : i < l.length) (hj : j < l.length) (hk : k < l.length) (ei : (nth l i).1 = d.1) (ej : (nth l j).1 = d.2.1) (ek : (nth l k).1 = t) :
    ∃ m, Moved l i j k d.2.2.2.1 d.2.2.2.2.1 m ∧ ledger_Take_m l d t = if d.2.2.1 ≠ (nth l i).2.2 then some ([], 6) else if (nth l i).2.1 < d.2.2.2.1 + d.2.2.2.2.1 then some ([], 11) else (ledger_Check_m m).bind fun e => if e != 0 then some ([], 8) else some (m, 0) := by
  obtain ⟨e, he, hq⟩ := checkA_ok hs
  have h0 := hq.2 hA
  subst h0
  obtain ⟨r1, r2, r3, r4, r5, r6, r7⟩ := rt_facts hd hr
  have h6 := hA.len
  have vi := hA.at hi; have vj := hA.at hj; have vk := hA.at hk
  have hij : i ≠ j := fun e => by subst e; exact r7 (ei.symm.trans ej)
  unfold ledger_Take_m
  rw [he, Option.bind_some, if_neg (by decide), right_ok hd, hr, Option.bind_some, if_neg (by decide), findA_at hA hi ei, Option.bind_some, findA_at hA hj ej, Option.bind_some, findA_at hA hk ek, Option.bind_some, if_neg (by rw [decide_eq_true_eq]; omega), if_neg (by rw [decide_eq_true_eq]; omega)]
  have hdk : decide ((k : Int) < 0) = false := by rw [decide_eq_false_iff_not]; omega
  simp only [bindR, hdk, Bool.false_eq_true, if_false]
  rw [idx_nat, nth_at hi, Option.bind_some]
  generalize hl1 : l.set i ((nth l i).1, (nth l i).2.1 - (d.2.2.2.1 + d.2.2.2.2.1), (nth l i).2.2) = l1
  generalize hl2 : l1.set i ((nth l1 i).1, (nth l1 i).2.1, (nth l1 i).2.2 + 1) = l2
  generalize hl3 : l2.set j ((nth l2 j).1, (nth l2 j).2.1 + d.2.2.2.1, (nth l2 j).2.2) = l3
  generalize hl4 : l3.set k ((nth l3 k).1, (nth l3 k).2.1 + d.2.2.2.2.1, (nth l3 k).2.2) = l4
  have n1 : l1.length = l.length := by rw [← hl1, List.length_set]
  have n2 : l2.length = l.length := by rw [← hl2, List.length_set, n1]
  have n3 : l3.length = l.length := by rw [← hl3, List.length_set, n2]
  have n4 : l4.length = l.length := by rw [← hl4, List.length_set, n3]
  have q1 : ∀ q, nth l1 q = if q = i then ((nth l i).1, (nth l i).2.1 - (d.2.2.2.1 + d.2.2.2.2.1), (nth l i).2.2) else nth l q := fun q => by rw [← hl1, nth_set hi]
  have q2 : ∀ q, nth l2 q = if q = i then ((nth l i).1, (nth l i).2.1 - (d.2.2.2.1 + d.2.2.2.2.1), (nth l i).2.2 + 1) else nth l q := fun q => by
    rw [← hl2, nth_set (by omega)]
    by_cases e : q = i
    · rw [if_pos e, if_pos e, q1, if_pos rfl]
    · rw [if_neg e, if_neg e, q1, if_neg e]
  have q2j : nth l2 j = nth l j := by rw [q2, if_neg (fun e => hij e.symm)]
  have q3 : ∀ q, nth l3 q = if q = j then ((nth l j).1, (nth l j).2.1 + d.2.2.2.1, (nth l j).2.2) else nth l2 q := fun q => by rw [← hl3, nth_set (by omega), q2j]
  have b3 : -4000000 ≤ (nth l3 k).2.1 ∧ (nth l3 k).2.1 ≤ 4000000 := by
    rw [q3]
    split
    · dsimp only; omega
    · rw [q2]; split
      · dsimp only; omega
      · omega
  refine ⟨l4, ⟨n4, fun q hq => ?_⟩, ?_⟩
  · rw [← hl4, nth_set (by omega)]
    by_cases e1 : q = k
    · subst e1
      rw [if_pos rfl, if_pos rfl, q3]
      by_cases e2 : q = j
      · subst e2
        rw [if_pos rfl, if_pos rfl, if_neg (fun e => hij e.symm), if_neg (fun e => hij e.symm)]
        dsimp only
        refine Prod.ext rfl (Prod.ext ?_ ?_) <;> dsimp only <;> omega
      · rw [if_neg e2, if_neg e2, q2]
        by_cases e3 : q = i
        · subst e3; simp only [if_true]
          refine Prod.ext rfl (Prod.ext ?_ ?_) <;> dsimp only <;> omega
        · rw [if_neg e3, if_neg e3, if_neg e3]
          refine Prod.ext rfl (Prod.ext ?_ ?_) <;> dsimp only <;> omega
    · rw [if_neg e1, if_neg e1, q3]
      by_cases e2 : q = j
      · subst e2
        rw [if_pos rfl, if_pos rfl, if_neg (fun e => hij e.symm), if_neg (fun e => hij e.symm)]
        refine Prod.ext rfl (Prod.ext ?_ ?_) <;> dsimp only <;> omega
      · rw [if_neg e2, if_neg e2, q2]
        by_cases e3 : q = i
        · subst e3; simp only [if_true]
          refine Prod.ext rfl (Prod.ext ?_ ?_) <;> dsimp only <;> omega
        · rw [if_neg e3, if_neg e3, if_neg e3]
          refine Prod.ext rfl (Prod.ext ?_ ?_) <;> dsimp only <;> omega
  · by_cases hn : d.2.2.1 = (nth l i).2.2
    · rw [if_neg (by rw [bne_iff_ne]; exact fun h => h hn), if_neg (by exact fun h => h hn), Option.bind_some, wadd_of (by omega) (by omega)]
      by_cases hp : (nth l i).2.1 < d.2.2.2.1 + d.2.2.2.2.1
      · rw [if_pos (by rw [decide_eq_true_eq]; exact hp), if_pos hp]
      · rw [if_neg (by rw [decide_eq_true_eq]; exact hp), if_neg hp, cloneA l (by omega), Option.bind_some, idx_nat, nth_at hi, Option.bind_some, Option.bind_some, Int.toNat_natCast, Int.toNat_natCast, Int.toNat_natCast, wsub_of (by omega) (by omega), hl1, idx_nat, nth_at (by omega), Option.bind_some, Option.bind_some]
        have e22 : (nth l1 i).2.2 = (nth l i).2.2 := by rw [q1, if_pos rfl]
        rw [wadd_of (x := (nth l1 i).2.2) (by omega) (by omega), hl2, idx_nat, nth_at (by omega), Option.bind_some, Option.bind_some, wadd_of (x := (nth l2 j).2.1) (by rw [q2j]; omega) (by rw [q2j]; omega), hl3, idx_nat, nth_at (by omega), Option.bind_some, Option.bind_some, wadd_of (x := (nth l3 k).2.1) (by omega) (by omega), hl4]
    · rw [if_pos (by rw [bne_iff_ne]; exact hn), if_pos hn]
theorem Moved.short {l m : List Acct} {i j k : Nat} {a b : Int} (h : Moved l i j k a b m) (hs : ShortA l) : ShortA m := fun x hx => by
  obtain ⟨q, hq, rfl⟩ := mem_nth hx
  rw [h.len] at hq
  rw [h.at_ q hq]
  show Short (nth l q).1
  exact hs _ (nth_mem hq)
theorem take_ok {l : List Acct} {d : Deal} {t : List UInt8} (hs : ShortA l) (hd : ShortD d) : Ok (ledger_Take_m l d t) (Took l d t) := by
  obtain ⟨e, he, hq⟩ := checkA_ok hs
  by_cases h0 : e = 0
  · have hA := hq.1 h0
    subst h0
    by_cases hr : rt d = 0
    · have miss : (¬ ∃ i j k, i < l.length ∧ j < l.length ∧ k < l.length ∧ (nth l i).1 = d.1 ∧ (nth l j).1 = d.2.1 ∧ (nth l k).1 = t) → ledger_Take_m l d t = some ([], 4) := fun hno => by
        unfold ledger_Take_m
        rw [he, Option.bind_some, if_neg (by decide), right_ok hd, hr, Option.bind_some, if_neg (by decide)]
        rcases findA_cases hA d.1 with ⟨i, hi, ei, f1⟩ | ⟨_, f1⟩ <;> rcases findA_cases hA d.2.1 with ⟨j, hj, ej, f2⟩ | ⟨_, f2⟩ <;> rcases findA_cases hA t with ⟨k, hk, ek, f3⟩ | ⟨_, f3⟩
        · exact absurd ⟨i, j, k, hi, hj, hk, ei, ej, ek⟩ hno
        all_goals
          rw [f1, Option.bind_some, f2, Option.bind_some, f3, Option.bind_some]
          simp [bindR]
          try omega
      by_cases ex : ∃ i j k, i < l.length ∧ j < l.length ∧ k < l.length ∧ (nth l i).1 = d.1 ∧ (nth l j).1 = d.2.1 ∧ (nth l k).1 = t
      · obtain ⟨i, j, k, hi, hj, hk, ei, ej, ek⟩ := ex
        obtain ⟨m, hm, e⟩ := take_three hA hs hd hr hi hj hk ei ej ek
        rw [e]
        by_cases hn : d.2.2.1 = (nth l i).2.2
        · rw [if_neg (by exact fun h => h hn)]
          by_cases hp : (nth l i).2.1 < d.2.2.2.1 + d.2.2.2.2.1
          · rw [if_pos hp, ok_some]; exact .no 11 (by decide)
          · rw [if_neg hp]
            obtain ⟨e2, he2, hq2⟩ := checkA_ok (hm.short hs)
            rw [he2, Option.bind_some]
            by_cases hz : e2 = 0
            · rw [if_neg (by rw [bne_iff_ne]; exact fun h => h hz), ok_some]
              exact .yes i j k m hA hr hi hj hk ei ej ek hn (by omega) hm (hq2.1 hz)
            · rw [if_pos (by rw [bne_iff_ne]; exact hz), ok_some]; exact .no 8 (by decide)
        · rw [if_pos hn, ok_some]; exact .no 6 (by decide)
      · rw [miss ex, ok_some]; exact .no 4 (by decide)
    · unfold ledger_Take_m
      rw [he, Option.bind_some, if_neg (by decide), right_ok hd, Option.bind_some, if_pos (by rw [bne_iff_ne]; exact hr), ok_some]
      exact .no _ hr
  · unfold ledger_Take_m
    rw [he, Option.bind_some, if_pos (by rw [bne_iff_ne]; exact h0), ok_some]
    exact .no _ h0
end Go.Pu
