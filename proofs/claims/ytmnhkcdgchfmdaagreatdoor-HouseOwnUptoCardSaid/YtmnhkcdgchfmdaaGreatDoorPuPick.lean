/- What is taken in: what the functions of pick answer. -/
import Derived.Test.YtmnhkcdgchfmdaaGreatDoorWHouseOwnModels
import Derived.Test.YtmnhkcdgchfmdaaGreatDoorPuLedger
import Derived.Test.YtmnhkcdgchfmdaaGreatDoorPuList
import Derived.Test.YtmnhkcdgchfmdaaGreatDoorPuMix
set_option linter.all false
namespace Go.Pu
open Go.Fw Go.Mo
/-! ### an error of a check is never 'there is none' -/
theorem rt_code {d : Deal} (h : ShortD d) : rt d ≠ 4 := by
  have : Ok (ledger_Right_m d) (fun e => e ≠ 4) := by
    unfold ledger_Right_m
    rw [named_ok h.1, named_ok h.2]
    simp only [Option.bind_some, ok_bindR, ok_ite, ok_some, flok_nx]
    simp
  obtain ⟨e, he, hf⟩ := this
  have : rt d = e := by unfold rt; rw [he]; rfl
  omega
theorem checkQ_code {l : List Deal} (hs : ∀ d ∈ l, ShortD d) : Ok (queue_Check_m l) (fun e => e ≠ 4) := by
  unfold queue_Check_m
  by_cases h20 : (l.length : Int) > 20
  · rw [if_pos (by rw [decide_eq_true_eq]; exact h20), ok_some]; decide
  · rw [if_neg (by rw [decide_eq_true_eq]; exact h20), ok_bindR]
    refine ok_rangeL (fun _ _ => True) trivial (fun k d t hk _ => ?_) fun t _ => by rw [ok_some]; decide
    obtain ⟨hd, hkl⟩ := nth_of hk
    have hsd := hs d (List.mem_of_getElem? hk)
    unfold queue_Check_b1
    rw [right_ok hsd, Option.bind_some]
    by_cases hr : rt d = 0
    · rw [if_neg (by rw [bne_iff_ne]; exact fun h => h hr), chk_t (by omega), Option.bind_some, findQ_ok, Option.bind_some]
      simp only [ok_ite, ok_some, flok_rt, flok_nx]
      exact ⟨fun _ => by decide, fun _ => trivial⟩
    · rw [if_pos (by rw [bne_iff_ne]; exact hr), ok_some, flok_rt]; exact rt_code hsd
theorem checkA_code {l : List Acct} (hs : ShortA l) : Ok (ledger_Check_m l) (fun e => e ≠ 4) := by
  unfold ledger_Check_m
  by_cases h6 : (l.length : Int) > 6
  · rw [if_pos (by rw [decide_eq_true_eq]; exact h6), ok_some]; decide
  · rw [if_neg (by rw [decide_eq_true_eq]; exact h6), ok_bindR]
    refine ok_rangeL (fun _ _ => True) trivial (fun k a t hk _ => ?_) fun t _ => by rw [ok_some]; decide
    obtain ⟨ha, hkl⟩ := nth_of hk
    unfold ledger_Check_b1
    rw [named_ok (hs a (List.mem_of_getElem? hk)), Option.bind_some, ok_bindF]
    have fin : ∀ b : Bool, Ok (if b = true then some (Fl.rt (3 : Int)) else bindF (ρ := Int) (β := Unit) (σ := Bool) (if decide (a.2.1 < (0 : Int)) then some (.nx true) else (if decide (a.2.1 > (1000000 : Int)) then some (.nx true) else (if decide (a.2.2 < (0 : Int)) then some (.nx true) else some (.nx (decide (a.2.2 > (1000000 : Int))))))) fun x121 => (if x121 then some (.rt (1 : Int)) else some (.nx ()))) (FlOk (fun (_ : Unit) => True) (fun _ => False) (fun e => e ≠ 4)) := fun b => by
      simp only [ok_ite, ok_some, ok_bindF, flok_nx, flok_rt]
      simp
    by_cases hn : nm a.1 = true
    · rw [if_neg (by simp [hn])]
      by_cases hk0 : (k : Int) > 0
      · rw [if_pos (by rw [decide_eq_true_eq]; exact hk0), wsub_of (by omega) (by omega), show (k : Int) - 1 = ((k - 1 : Nat) : Int) by omega, idx_nat, nth_at (by omega), Option.bind_some, ok_some, flok_nx]
        exact (fin _).fl (fun _ h => h) (fun _ h => h.elim) (fun _ h => h)
      · rw [if_neg (by rw [decide_eq_true_eq]; exact hk0), ok_some, flok_nx]
        exact (fin _).fl (fun _ h => h) (fun _ h => h.elim) (fun _ h => h)
    · rw [if_pos (by simpa using hn), ok_some, flok_nx]
      exact (fin _).fl (fun _ h => h) (fun _ h => h.elim) (fun _ h => h)
/-! ### taking, as a function -/
def tk (l : List Acct) (d : Deal) (t : List UInt8) : List Acct × Int := (ledger_Take_m l d t).getD ([], 1)
theorem tk_ok {l : List Acct} {d : Deal} {t : List UInt8} (hs : ShortA l) (hd : ShortD d) : ledger_Take_m l d t = some (tk l d t) ∧ Took l d t (tk l d t) := by
  obtain ⟨p, e, hp⟩ := take_ok (t := t) hs hd
  have : tk l d t = p := by unfold tk; rw [e]; rfl
  rw [this]; exact ⟨e, hp⟩
theorem tk_yes {l : List Acct} {d : Deal} {t : List UInt8} (hs : ShortA l) (hd : ShortD d) (h0 : (tk l d t).2 = 0) : ∃ i j k, Accts l ∧ rt d = 0 ∧ i < l.length ∧ j < l.length ∧ k < l.length ∧ (nth l i).1 = d.1 ∧ (nth l j).1 = d.2.1 ∧ (nth l k).1 = t ∧ d.2.2.1 = (nth l i).2.2 ∧ d.2.2.2.1 + d.2.2.2.2.1 ≤ (nth l i).2.1 ∧ Moved l i j k d.2.2.2.1 d.2.2.2.2.1 (tk l d t).1 ∧ Accts (tk l d t).1 := by
  have h := (tk_ok (t := t) hs hd).2
  generalize tk l d t = p at *
  cases h with
  | no e he => exact absurd h0 he
  | yes i j k m hA hr hi hj hk ei ej ek hn hp hm hA' => exact ⟨i, j, k, hA, hr, hi, hj, hk, ei, ej, ek, hn, hp, hm, hA'⟩
def moneyS (l : List Acct) : Int := sumN l.length fun q => (nth l q).2.1
theorem Moved.money {l m : List Acct} {i j k : Nat} {a b : Int} (h : Moved l i j k a b m) (hi : i < l.length) (hj : j < l.length) (hk : k < l.length) : moneyS m = moneyS l := by
  unfold moneyS
  rw [h.len]
  have : sumN l.length (fun q => (nth m q).2.1) = sumN l.length (fun q => (nth l q).2.1 - (if q = i then a + b else 0) + (if q = j then a else 0) + (if q = k then b else 0)) := sumN_congr fun q hq => by rw [h.at_ q hq]
  rw [this, sumN_add, sumN_add, sumN_sub, sumN_single hi, sumN_single hj, sumN_single hk]
  omega
theorem equal_acct (a b : List Acct) : slices_Equal_api_Account_api_Account_m a b = some (decide (a = b)) := by
  apply Ok.eq
  unfold slices_Equal_api_Account_api_Account_m
  simp only [ok_ite, ok_some, ok_bindR, bne_iff_ne]
  refine ⟨fun h => ?_, fun h => ?_⟩
  · rw [eq_comm, decide_eq_false_iff_not]; intro e; subst e; exact h rfl
  · have hl : a.length = b.length := by omega
    refine ok_rangeL (fun k _ => ∀ j, j < k → nth a j = nth b j) (by intro j hj; omega) (fun k x s hk hI => ?_) fun s hs => ?_
    · obtain ⟨hx, hka⟩ := nth_of hk
      unfold slices_Equal_api_Account_api_Account_b1
      rw [idx_nat, nth_at (show k < b.length by omega), Option.bind_some]
      by_cases e : x = nth b k
      · rw [if_neg (by simp [e]), ok_some, flok_nx]
        intro j hj
        by_cases hjk : j = k
        · subst hjk; rw [hx]; exact e
        · exact hI j (by omega)
      · rw [if_pos (by simp [e]), ok_some, flok_rt, eq_comm, decide_eq_false_iff_not]
        intro h'; subst h'; exact e hx.symm
    · rw [eq_comm, decide_eq_true_eq]; exact nth_ext hl hs
/-! ### the next one -/
def good (x0 : List Deal) (l : List Acct) (t : List UInt8) (room : Int) (i : Nat) : Prop := (nth x0 i).2.2.2.2.2 ≤ room ∧ (tk l (nth x0 i) t).2 = 0
def fee (x0 : List Deal) (i : Nat) : Int := (nth x0 i).2.2.2.2.1
def size (x0 : List Deal) (i : Nat) : Int := (nth x0 i).2.2.2.2.2
inductive Nexted (x0 : List Deal) (l : List Acct) (t : List UInt8) (room : Int) : Int × Int → Prop
  | no (e : Int) : e ≠ 0 → e ≠ 4 → ¬ (Queue x0 ∧ Accts l ∧ 0 ≤ room ∧ room ≤ 1000) → Nexted x0 l t room (0, e)
  | none : Queue x0 → Accts l → 0 ≤ room → room ≤ 1000 → (∀ i, i < x0.length → ¬ good x0 l t room i) → Nexted x0 l t room (0, 4)
  | some (k : Nat) : Queue x0 → Accts l → 0 ≤ room → room ≤ 1000 → k < x0.length → good x0 l t room k → (∀ i, i < x0.length → good x0 l t room i → fee x0 i * size x0 k ≤ fee x0 k * size x0 i ∧ (i < k → fee x0 i * size x0 k < fee x0 k * size x0 i)) → Nexted x0 l t room (k, 0)
theorem ratio_step {fi si fb sb fk sk : Int} (h1 : fi * sb ≤ fb * si) (h2 : fb * sk < fk * sb) (hi : 1 ≤ si) (hb : 1 ≤ sb) (hk : 1 ≤ sk) : fi * sk < fk * si := by
  have a1 := mul_le (c := sk) (by omega) h1
  have a2 := mul_lt (c := si) (by omega) h2
  refine cancel_lt (c := sb) (by omega) ?_
  have e1 : fi * sk * sb = fi * sb * sk := by rw [Int.mul_assoc, Int.mul_comm sk, ← Int.mul_assoc]
  have e2 : fk * si * sb = fk * sb * si := by rw [Int.mul_assoc, Int.mul_comm si, ← Int.mul_assoc]
  have e3 : fb * si * sk = fb * sk * si := by rw [Int.mul_assoc, Int.mul_comm si, ← Int.mul_assoc]
  omega
theorem next_ok {x0 : List Deal} {l : List Acct} {t : List UInt8} {room : Int} (hs : ∀ d ∈ x0, ShortD d) (ha : ShortA l) : Ok (pick_Next_m x0 l t room) (Nexted x0 l t room) := by
  obtain ⟨e, he, hq⟩ := checkQ_ok hs
  obtain ⟨e1, he1, hc⟩ := checkQ_code hs
  rw [he] at he1; cases he1
  obtain ⟨f, hf, hA⟩ := checkA_ok ha
  obtain ⟨f1, hf1, hd⟩ := checkA_code ha
  rw [hf] at hf1; cases hf1
  unfold pick_Next_m
  rw [he, Option.bind_some]
  by_cases h0 : e = 0
  · have hQ := hq.1 h0
    rw [if_neg (by rw [bne_iff_ne]; exact fun h => h h0), hf, Option.bind_some]
    by_cases h1 : f = 0
    · have hAl := hA.1 h1
      rw [if_neg (by rw [bne_iff_ne]; exact fun h => h h1)]
      by_cases hr : 0 ≤ room ∧ room ≤ 1000
      · rw [if_neg (by rw [decide_eq_true_eq]; omega), ok_bindR, ok_some, flok_nx, if_neg (by rw [decide_eq_true_eq]; omega), ok_bindR]
        have szs : ∀ i, i < x0.length → (0 ≤ fee x0 i ∧ fee x0 i ≤ 1000000) ∧ 1 ≤ size x0 i ∧ size x0 i ≤ 100 := fun i hi => by
          have := rt_facts (hs _ (nth_mem hi)) (hQ.right _ (nth_mem hi))
          exact ⟨this.2.2.1, this.2.2.2.1⟩
        refine ok_rangeL (fun k (b : Int) => (b = -1 ∧ ∀ i, i < k → ¬ good x0 l t room i) ∨ ∃ q : Nat, b = (q : Int) ∧ q < k ∧ good x0 l t room q ∧ ∀ i, i < k → good x0 l t room i → fee x0 i * size x0 q ≤ fee x0 q * size x0 i ∧ (i < q → fee x0 i * size x0 q < fee x0 q * size x0 i)) (.inl ⟨rfl, fun i hi => by omega⟩) (fun k d b hk hI => ?_) fun b hb => ?_
        · obtain ⟨hdk, hkl⟩ := nth_of hk
          have hsd := hs d (List.mem_of_getElem? hk)
          have htk := tk_ok (t := t) ha hsd
          have skip : ¬ good x0 l t room k → Ok (some (Fl.nx (ρ := Int × Int) (β := Int) b)) (FlOk (fun (b : Int) => (b = -1 ∧ ∀ i, i < k + 1 → ¬ good x0 l t room i) ∨ ∃ q : Nat, b = (q : Int) ∧ q < k + 1 ∧ good x0 l t room q ∧ ∀ i, i < k + 1 → good x0 l t room i → fee x0 i * size x0 q ≤ fee x0 q * size x0 i ∧ (i < q → fee x0 i * size x0 q < fee x0 q * size x0 i)) (fun _ => False) (fun _ => False)) := fun hg => by
            rw [ok_some, flok_nx]
            rcases hI with ⟨rfl, h⟩ | ⟨q, rfl, hqk, hgq, h⟩
            · refine .inl ⟨rfl, fun i hi => ?_⟩
              by_cases e : i = k
              · subst e; exact hg
              · exact h i (by omega)
            · refine .inr ⟨q, rfl, by omega, hgq, fun i hi hgi => ?_⟩
              by_cases e : i = k
              · subst e; exact absurd hgi hg
              · exact h i (by omega) hgi
          unfold pick_Next_b1
          by_cases hz : d.2.2.2.2.2 > room
          · rw [if_pos (by rw [decide_eq_true_eq]; exact hz)]
            exact (skip fun h => by unfold good at h; rw [hdk] at h; omega).fl (fun _ h => h) (fun _ h => h.elim) (fun _ h => h.elim)
          · rw [if_neg (by rw [decide_eq_true_eq]; exact hz), htk.1, Option.bind_some]
            by_cases ht : (tk l d t).2 = 0
            · have hgk : good x0 l t room k := ⟨by rw [hdk]; omega, by rw [hdk]; exact ht⟩
              rw [if_neg (by rw [bne_iff_ne]; exact fun h => h ht), ok_bindF]
              rcases hI with ⟨rfl, h⟩ | ⟨q, rfl, hqk, hgq, h⟩
              · rw [if_pos (by decide), ok_some, flok_nx, if_pos rfl, ok_some, flok_nx]
                refine .inr ⟨k, rfl, by omega, hgk, fun i hi hgi => ?_⟩
                by_cases e : i = k
                · subst e; exact ⟨Int.le_refl _, fun h => by omega⟩
                · exact absurd hgi (h i (by omega))
              · have hql : q < x0.length := by omega
                have sq := szs q hql; have sk := szs k hkl
                have efk : d.2.2.2.2.1 = fee x0 k := by unfold fee; rw [hdk]
                have esk : d.2.2.2.2.2 = size x0 k := by unfold size; rw [hdk]
                have m1 := mul_le (c := size x0 q) (by omega) sk.1.2
                have m2 := mul_le (c := size x0 q) (by omega) sk.1.1
                have m3 := mul_le (c := size x0 k) (by omega) sq.1.2
                have m4 := mul_le (c := size x0 k) (by omega) sq.1.1
                rw [if_neg (by rw [decide_eq_true_eq]; omega), idx_nat, nth_at hql, Option.bind_some, Option.bind_some, ok_some, flok_nx]
                have e1 : (nth x0 q).2.2.2.2.2 = size x0 q := rfl
                have e2 : (nth x0 q).2.2.2.2.1 = fee x0 q := rfl
                rw [e1, e2, efk, esk, wmul_of (by omega) (by omega), wmul_of (by omega) (by omega)]
                by_cases hgt : fee x0 k * size x0 q > fee x0 q * size x0 k
                · rw [if_pos (by rw [decide_eq_true_eq]; exact hgt), ok_some, flok_nx]
                  refine .inr ⟨k, rfl, by omega, hgk, fun i hi hgi => ?_⟩
                  by_cases e : i = k
                  · subst e; exact ⟨Int.le_refl _, fun h => by omega⟩
                  · have si := szs i (by omega)
                    have := ratio_step (h i (by omega) hgi).1 hgt (by omega) (by omega) (by omega)
                    exact ⟨by omega, fun _ => this⟩
                · rw [if_neg (by rw [decide_eq_true_eq]; exact hgt), ok_some, flok_nx]
                  refine .inr ⟨q, rfl, by omega, hgq, fun i hi hgi => ?_⟩
                  by_cases e : i = k
                  · subst e; exact ⟨by omega, fun h => by omega⟩
                  · exact h i (by omega) hgi
            · rw [if_pos (by rw [bne_iff_ne]; exact ht)]
              exact (skip fun h => by unfold good at h; rw [hdk] at h; exact ht h.2).fl (fun _ h => h) (fun _ h => h.elim) (fun _ h => h.elim)
        · rcases hb with ⟨rfl, h⟩ | ⟨q, rfl, hqk, hgq, h⟩
          · rw [if_pos (by decide), ok_some]; exact .none hQ hAl hr.1 hr.2 h
          · rw [if_neg (by rw [decide_eq_true_eq]; omega), ok_some]; exact .some q hQ hAl hr.1 hr.2 hqk hgq h
      · have : (if decide (room < (0 : Int)) then some (Fl.nx (ρ := Int × Int) (β := Unit) true) else some (.nx (decide (room > (1000 : Int))))) = some (.nx true) := by
          by_cases h : room < 0
          · rw [if_pos (by rw [decide_eq_true_eq]; exact h)]
          · rw [if_neg (by rw [decide_eq_true_eq]; exact h), decide_eq_true (by omega)]
        rw [this, ok_bindR, ok_some, flok_nx, if_pos rfl, ok_some]
        exact .no 1 (by decide) (by decide) fun h => hr ⟨h.2.2.1, h.2.2.2⟩
    · rw [if_pos (by rw [bne_iff_ne]; exact h1), ok_some]; exact .no _ h1 hd fun h => h1 (hA.2 h.2.1)
  · rw [if_pos (by rw [bne_iff_ne]; exact h0), ok_some]; exact .no _ h0 hc fun h => h0 (hq.2 h.1)
/-! ### all of them -/
/-- the accounts behind so many -/
def runL (x0 : List Deal) (t : List UInt8) (l : List Acct) (ks : List Int) : List Acct := ks.foldl (fun l k => (tk l (nth x0 k.toNat) t).1) l
def sizes (x0 : List Deal) (ks : List Int) : Int := sumN ks.length fun j => size x0 (nth ks j).toNat
structure Built (x0 : List Deal) (l : List Acct) (t : List UInt8) (room : Int) (ks : List Int) (left : Int) (out : List Acct) : Prop where
  len : (ks.length : Int) ≤ room - left
  idx : ∀ j, j < ks.length → 0 ≤ nth ks j ∧ nth ks j < x0.length
  run : out = runL x0 t l ks
  each : ∀ j, j < ks.length → ShortA (runL x0 t l (ks.take j)) ∧ (tk (runL x0 t l (ks.take j)) (nth x0 (nth ks j).toNat) t).2 = 0
  lft : left = room - sizes x0 ks
  lo : 0 ≤ left
  accts : Accts out
  short : ShortA out
  past : ∀ j, j < ks.length → ∀ i, i < out.length → (nth out i).1 = (nth x0 (nth ks j).toNat).1 → (nth x0 (nth ks j).toNat).2.2.1 < (nth out i).2.2
  nodup : ∀ i j, i < j → j < ks.length → nth ks i ≠ nth ks j
  money : moneyS out = moneyS l
theorem build_ok {x0 : List Deal} {l : List Acct} {t : List UInt8} {room : Int} (hs : ∀ d ∈ x0, ShortD d) (ha : ShortA l) :
    Ok (pick_Build_m x0 l t room) (fun p => (p.2.2 ≠ 0 ∧ p.1 = [] ∧ p.2.1 = []) ∨ (p.2.2 = 0 ∧ Accts l ∧ 0 ≤ room ∧ room ≤ 1000 ∧ ∃ left, Built x0 l t room p.1 left p.2.1 ∧ Nexted x0 p.2.1 t left (0, 4))) := by
  unfold pick_Build_m
  rw [ok_bind]
  refine (next_ok hs ha).mono fun p hp => ?_
  have go : Queue x0 → Accts l → 0 ≤ room → room ≤ 1000 → (p.2 = 0 ∨ p.2 = 4) → Ok ((chk ((([] : (List ((List UInt8) × (Int × Int))))).length + (l).length ≤ 68719476736)).bind fun _ => bindR (ρ := (List Int) × (List ((List UInt8) × (Int × Int))) × Int) (β := Unit) (σ := Int × Int × Int × (List ((List UInt8) × (Int × Int))) × (List Int)) (loopM (γ := Unit) (pick_Build_b1 x0 t) 1048576 (room, p.1, p.2, (([] : (List ((List UInt8) × (Int × Int)))) ++ l), [])) fun (x31, x32, x33, l34, l36) => some (l36, l34, (0 : Int))) (fun p => (p.2.2 ≠ 0 ∧ p.1 = [] ∧ p.2.1 = []) ∨ (p.2.2 = 0 ∧ Accts l ∧ 0 ≤ room ∧ room ≤ 1000 ∧ ∃ left, Built x0 l t room p.1 left p.2.1 ∧ Nexted x0 p.2.1 t left (0, 4))) := fun hQ hA r0 r1 hpe => by
    have h6 := hA.len
    have hnx := hp
    rw [chk_t (by simp only [List.length_nil]; omega), Option.bind_some, List.nil_append, ok_bindR]
    refine ok_loopM (fun (s : Int × Int × Int × List Acct × List Int) => Built x0 l t room s.2.2.2.2 s.1 s.2.2.2.1 ∧ Nexted x0 s.2.2.2.1 t s.1 (s.2.1, s.2.2.1) ∧ (s.2.2.1 = 0 ∨ s.2.2.1 = 4)) (fun s => s.1.toNat + 1) (fun s hs' => ?_) _ _ ⟨⟨by simp, fun j hj => by simp at hj, rfl, fun j hj => by simp at hj, by unfold sizes; simp [sumN], r0, hA, ha, fun j hj => by simp at hj, fun i j _ hj => by simp at hj, rfl⟩, hnx, hpe⟩ (by dsimp only; omega)
    obtain ⟨left, k, e, out, ks⟩ := s
    obtain ⟨hB, hN, he⟩ := hs'
    dsimp only at hB hN he
    unfold pick_Build_b1
    dsimp only
    by_cases h0 : e = 0
    · subst h0
      rw [if_pos (by decide)]
      generalize hp2 : (k, (0 : Int)) = p2 at hN
      cases hN with
      | no e he1 he2 => cases hp2; exact absurd rfl he1
      | none => cases hp2
      | some k' hQ' hA' l0 l1 hk hg hbest =>
        cases hp2
        have hsd := hs _ (nth_mem hk)
        have htk := tk_ok (t := t) hB.short hsd
        obtain ⟨i, j, q, _, hr, hi, hj, hq, ei, ej, eq, hn, hpay, hm, hA2⟩ := tk_yes hB.short hsd hg.2
        have hsz := rt_facts hsd hr
        have hsz1 : (nth x0 k').2.2.2.2.2 ≤ left := hg.1
        have hll : ks.length ≤ 1000 := by have := hB.len; omega
        rw [idx_nat, nth_at hk, Option.bind_some, htk.1, Option.bind_some, Option.bind_some, chk_t (by simp only [List.length_cons, List.length_nil]; omega), Option.bind_some, wsub_of (by omega) (by omega), ok_bind]
        have hshort := hm.short hB.short
        have hmlen := hm.len
        refine (next_ok hs hshort).mono fun p' hp' => ?_
        rw [ok_some, flok_nx]
        have nk : ∀ y, nth (ks ++ [(k' : Int)]) y = if y < ks.length then nth ks y else if y = ks.length then (k' : Int) else default := fun y => by
          rw [nth_append]
          by_cases e : y < ks.length
          · rw [if_pos e, if_pos e]
          · rw [if_neg e, if_neg e]
            by_cases e2 : y = ks.length
            · rw [if_pos e2, e2, Nat.sub_self]; rfl
            · rw [if_neg e2]
              unfold nth; rw [List.getD_eq_getElem?_getD, List.getElem?_eq_none (by simp; omega)]; rfl
        have hrun : runL x0 t l (ks ++ [(k' : Int)]) = (tk out (nth x0 k') t).1 := by
          unfold runL
          rw [List.foldl_append]
          show (tk (List.foldl _ l ks) (nth x0 ((k' : Int)).toNat) t).1 = _
          rw [Int.toNat_natCast, ← show out = List.foldl _ l ks from hB.run]
        refine ⟨⟨?_, ?_, ?_⟩, ?_⟩
        · dsimp only
          refine ⟨by have := hB.len; rw [List.length_append, List.length_singleton]; omega, fun y hy => ?_, hrun.symm, fun y hy => ?_, ?_, by omega, hA2, hshort, fun y hy z hz hzn => ?_, fun a b hab hb => ?_, ?_⟩
          · rw [List.length_append, List.length_singleton] at hy
            rw [nk]
            by_cases e : y < ks.length
            · rw [if_pos e]; exact hB.idx y e
            · rw [if_neg e, if_pos (by omega)]; omega
          · rw [List.length_append, List.length_singleton] at hy
            rw [nk]
            by_cases e : y < ks.length
            · rw [if_pos e, List.take_append_of_le_length (by omega)]; exact hB.each y e
            · have : y = ks.length := by omega
              subst this
              rw [if_neg (by omega), if_pos rfl, List.take_left, Int.toNat_natCast, ← hB.run]
              exact ⟨hB.short, hg.2⟩
          · have hleft := hB.lft
            have : sizes x0 (ks ++ [(k' : Int)]) = sizes x0 ks + size x0 k' := by
              unfold sizes
              rw [List.length_append, List.length_singleton]
              simp only [sumN]
              rw [nk, if_neg (by omega), if_pos rfl, Int.toNat_natCast]
              congr 1
              exact sumN_congr fun y hy => by rw [nk, if_pos hy]
            rw [this]; unfold size; omega
          · rw [List.length_append, List.length_singleton] at hy
            rw [nk] at hzn ⊢
            rw [hmlen] at hz
            have hmz := hm.at_ z hz
            rw [hmz] at hzn ⊢
            dsimp only at hzn ⊢
            by_cases e : y < ks.length
            · rw [if_pos e] at hzn ⊢
              have := hB.past y e z hz hzn
              split <;> omega
            · rw [if_neg e, if_pos (by omega), Int.toNat_natCast] at hzn ⊢
              have : z = i := hB.accts.inj hz hi (hzn.trans ei.symm)
              subst this
              rw [if_pos rfl, hn]; omega
          · rw [List.length_append, List.length_singleton] at hb
            rw [nk, nk, if_pos (show a < ks.length by omega)]
            by_cases e : b < ks.length
            · rw [if_pos e]; exact hB.nodup a b hab e
            · rw [if_neg e, if_pos (by omega)]
              intro h
              have := hB.past a (by omega) i hi (by rw [h, Int.toNat_natCast]; exact ei)
              rw [h, Int.toNat_natCast] at this
              omega
          · rw [hm.money hi hj hq, hB.money]
        · dsimp only; exact hp'
        · dsimp only
          cases hp' with
          | no e he1 he2 hno => exact absurd ⟨hQ, hA2, by omega, by omega⟩ hno
          | none => exact .inr rfl
          | some => exact .inl rfl
        · dsimp only; omega
    · have h4 : e = 4 := by omega
      subst h4
      rw [if_neg (by decide), ok_some, flok_br]
      dsimp only
      rw [ok_some]
      refine .inr ⟨rfl, hA, r0, r1, left, hB, ?_⟩
      generalize hp2 : (k, (4 : Int)) = p2 at hN
      cases hN with
      | no e he1 he2 => cases hp2; exact absurd rfl he2
      | none a b c d f => cases hp2; exact .none a b c d f
      | some => cases hp2
  cases hp with
  | no e he1 he2 hno =>
    rw [ok_bindR]
    dsimp only
    rw [if_pos (by rw [bne_iff_ne]; exact he1), ok_some, flok_nx, if_pos (by rw [bne_iff_ne]; exact he2), ok_some]
    exact .inl ⟨he1, rfl, rfl⟩
  | none hQ hA r0 r1 hn =>
    rw [ok_bindR]
    dsimp only
    rw [if_pos (by decide), ok_some, flok_nx, if_neg (by decide)]
    exact go hQ hA r0 r1 (.inr rfl)
  | some k hQ hA r0 r1 hk hg hb =>
    rw [ok_bindR]
    dsimp only
    rw [if_neg (by decide), ok_some, flok_nx, if_neg (by decide)]
    exact go hQ hA r0 r1 (.inl rfl)
theorem picks_t : pk_picks_m = some true := by decide +kernel
end Go.Pu
