/- What trade.Swap computes: rings of the best that is left, round by round. -/
import Derived.Test.YtnkhelpadbickaaWTradeSameModels
import Derived.Test.YtnkhelpadbickaaPuIter
import Derived.Test.YtnkhelpadbickaaPuOrd
import Derived.Test.YtnkhelpadbickaaPuList
import Derived.Test.YtnkhelpadbickaaPuFl
set_option linter.all false
namespace Go.Pu
open Go.Fw Go.Mo
structure Likes (n : Nat) (l : List (List Int)) : Prop where
  n1 : 1 ≤ n
  n6 : n ≤ 6
  len : l.length = n
  ord : ∀ i, i < n → Ord n (nth l i)
def rk (l : List (List Int)) (i x : Nat) : Nat := (nth l i).idxOf (x : Int)
theorem Likes.inj {n : Nat} {l : List (List Int)} (h : Likes n l) {j x y : Nat} (hj : j < n) (hx : x < n) (hy : y < n) (e : rk l j x = rk l j y) : x = y := (h.ord j hj).idx_inj hx hy e
theorem tcheck_ok {n : Nat} {l : List (List Int)} (h : Likes n l) : trade_Check_m l = some 0 := by
  have hl := h.len; have n1 := h.n1; have n6 := h.n6
  apply Ok.eq
  unfold trade_Check_m
  simp only [ok_bindR, ok_ite, ok_some, flok_nx, decide_eq_true_eq]
  refine ⟨fun _ => by omega, fun _ => ⟨fun _ => by omega, fun _ => ?_⟩⟩
  refine ok_rangeL (fun _ _ => True) trivial (fun i r s hi _ => ?_) fun s _ => trivial
  obtain ⟨hr, hil⟩ := nth_of hi
  unfold trade_Check_b1
  rw [← hr, hl, order_check n1 n6 (h.ord i (by omega)), Option.bind_some, if_neg (by decide), ok_some, flok_nx]; trivial
/-- the best thing that is left, for i -/
theorem tbest_ok {n : Nat} {l : List (List Int)} (h : Likes n l) {taken : List Int} (ht : taken.length = n) {i : Nat} (hi : i < n) (ex : ∃ x, x < n ∧ nth taken x = 0) :
    ∃ b : Nat, trade_Swap_1_m (i : Int) l taken = some (b : Int) ∧ b < n ∧ nth taken b = 0 ∧ ∀ x, x < n → nth taken x = 0 → rk l i b ≤ rk l i x := by
  have hl := h.len
  have hp := h.ord i hi
  have this : Ok (trade_Swap_1_m (i : Int) l taken) (fun y => ∃ b : Nat, y = (b : Int) ∧ b < n ∧ nth taken b = 0 ∧ ∀ x, x < n → nth taken x = 0 → rk l i b ≤ rk l i x) := by
    unfold trade_Swap_1_m
    rw [idx_nat, nth_at (by omega), Option.bind_some, ok_bindR]
    refine ok_rangeL (fun k _ => ∀ x, x < n → nth taken x = 0 → k ≤ rk l i x) (fun _ _ _ => Nat.zero_le _) (fun k y s hk hI => ?_) fun s hs => ?_
    · obtain ⟨hy, hkl⟩ := nth_of hk
      rw [hp.len] at hkl
      have hv := hp.val hkl
      rw [hy] at hv
      obtain ⟨b, rfl⟩ : ∃ b : Nat, y = (b : Int) := ⟨y.toNat, by omega⟩
      have hb : b < n := by omega
      have hrk : rk l i b = k := by unfold rk; rw [← hy, hp.idx hkl]
      unfold trade_Swap_1_b1
      rw [idx_nat, nth_at (by omega), Option.bind_some]
      by_cases h0 : nth taken b = 0
      · rw [if_pos (by rw [beq_iff_eq]; exact h0), ok_some, flok_rt]
        exact ⟨b, rfl, hb, h0, fun x hx hx0 => by rw [hrk]; exact hI x hx hx0⟩
      · rw [if_neg (by rw [beq_iff_eq]; exact h0), ok_some, flok_nx]
        intro x hx hx0
        have h1 := hI x hx hx0
        by_cases e : rk l i x = k
        · have := h.inj hi hx hb (by rw [hrk]; exact e)
          subst this; exact absurd hx0 h0
        · omega
    · exfalso
      obtain ⟨x, hx, hx0⟩ := ex
      have := hs x hx hx0
      have := hp.idx_lt hx
      unfold rk at *
      rw [hp.len] at *
      omega
  obtain ⟨y, e, b, rfl, h⟩ := this
  exact ⟨b, e, h⟩
/-- does the way from i come back to i? -/
def ring (n : Nat) (B : Nat → Nat) (i : Nat) : Bool := (List.range (n + 1)).any fun k => itN B (k + 1) i == i
theorem ring_iff {n : Nat} {B : Nat → Nat} {i : Nat} : ring n B i = true ↔ ∃ k, 1 ≤ k ∧ k ≤ n + 1 ∧ itN B k i = i := by
  unfold ring
  rw [List.any_eq_true]
  constructor
  · rintro ⟨k, hk, e⟩
    rw [List.mem_range] at hk; rw [beq_iff_eq] at e
    exact ⟨k + 1, by omega, by omega, e⟩
  · rintro ⟨k, h1, h2, e⟩
    exact ⟨k - 1, List.mem_range.2 (by omega), by rw [beq_iff_eq, show k - 1 + 1 = k by omega]; exact e⟩
theorem pickB_split {p q : Nat → Bool} : ∀ n : Nat, (pickB (fun i => p i && q i) n).length + (pickB (fun i => p i && !q i) n).length = (pickB p n).length
  | 0 => rfl
  | n + 1 => by
    have := pickB_split (p := p) (q := q) n
    simp only [pickB, List.length_append]
    by_cases hp : p n = true <;> by_cases hq : q n = true <;> simp [hp, hq] <;> omega
theorem pickB_pos {p : Nat → Bool} {n : Nat} : 0 < (pickB p n).length ↔ ∃ i, i < n ∧ p i = true := by
  constructor
  · intro h
    obtain ⟨k, h1, h2, _⟩ := mem_pickB.1 (nth_mem h)
    exact ⟨k, h1, h2⟩
  · rintro ⟨i, h1, h2⟩
    exact List.length_pos_of_mem (mem_pickB.2 ⟨i, h1, h2, rfl⟩)
/-- the state ahead of round t: who has left (ρ below t), and with what -/
structure Run (n : Nat) (l : List (List Int)) (t : Nat) (ρ G : Nat → Nat) (got taken : List Int) (r : List (List Int)) : Prop where
  gl : got.length = n
  tl : taken.length = n
  rl : r.length = t
  le : ∀ i, i < n → ρ i ≤ t
  got : ∀ i, i < n → nth got i = if ρ i < t then (G i : Int) else -1
  taken : ∀ i, i < n → nth taken i = if ρ i < t then 1 else 0
  rounds : ∀ s, s < t → nth r s = pickB (fun i => ρ i == s) n
  lt : ∀ i, i < n → ρ i < t → G i < n ∧ ρ (G i) = ρ i
  best : ∀ i x, i < n → x < n → ρ i < t → ρ i ≤ ρ x → rk l i (G i) ≤ rk l i x
  cyc : ∀ i, i < n → ρ i < t → ∃ k, 1 ≤ k ∧ itN G k i = i
  hit : ∀ s, s < t → ∃ i, i < n ∧ ρ i = s
  self : ∀ i s, i < n → s < ρ i → ∃ x, x < n ∧ s ≤ ρ x ∧ rk l i x < rk l i i
def stay (t : Nat) (ρ : Nat → Nat) (n : Nat) : Nat := (pickB (fun i => ρ i == t) n).length
theorem b1 {l : List Int} {m k : Nat} (h : l.length = m) (hk : k < m) : idx l (k : Int) = some (nth l k) := by rw [idx_nat, nth_at (by omega)]
theorem pick_at {p : Nat → Bool} {n m : Nat} (hm : m < (pickB p n).length) : ∃ i : Nat, i < n ∧ p i = true ∧ nth (pickB p n) m = (i : Int) := by
  obtain ⟨i, h1, h2, h3⟩ := mem_pickB.1 (nth_mem hm)
  exact ⟨i, h1, h2, h3⟩
theorem mem_take_succ {L : List Int} {m : Nat} {x : Int} (hm : m < L.length) : x ∈ L.take (m + 1) ↔ x ∈ L.take m ∨ x = nth L m := by
  rw [List.take_succ, nth_at hm]; simp
/-- one round -/
theorem round_ok {n : Nat} {l : List (List Int)} (h : Likes n l) {t : Nat} {ρ G : Nat → Nat} {got taken : List Int} {r : List (List Int)} (R : Run n l t ρ G got taken r) (hst : 0 < stay t ρ n) (ht : t < 6) :
    Ok (trade_Swap_b2 l (got, taken, r, (stay t ρ n : Int))) (FlOk (fun s => ∃ ρ' G', Run n l (t + 1) ρ' G' s.1 s.2.1 s.2.2.1 ∧ s.2.2.2 = (stay (t + 1) ρ' n : Int) ∧ stay (t + 1) ρ' n < stay t ρ n) (fun _ => False) (fun _ => False)) := by
  classical
  have hl := h.len; have n1 := h.n1; have n6 := h.n6
  have gl := R.gl; have tl := R.tl; have rl := R.rl
  have A0 : ∀ x, x < n → (nth taken x = 0 ↔ ρ x = t) := fun x hx => by
    rw [R.taken x hx]; have := R.le x hx
    split <;> omega
  obtain ⟨a0, ha0, ea0⟩ := pickB_pos.1 hst
  rw [beq_iff_eq] at ea0
  have ex : ∃ x, x < n ∧ nth taken x = 0 := ⟨a0, ha0, (A0 a0 ha0).2 ea0⟩
  -- the best of each
  obtain ⟨B, hB⟩ : ∃ B : Nat → Nat, ∀ i, i < n → trade_Swap_1_m (i : Int) l taken = some (B i : Int) ∧ B i < n ∧ ρ (B i) = t ∧ ∀ x, x < n → ρ x = t → rk l i (B i) ≤ rk l i x := by
    refine ⟨fun i => ((trade_Swap_1_m (i : Int) l taken).getD 0).toNat, fun i hi => ?_⟩
    obtain ⟨b, e, h1, h2, h3⟩ := tbest_ok h tl hi ex
    have eb : ((trade_Swap_1_m (i : Int) l taken).getD 0).toNat = b := by rw [e]; simp
    (try dsimp only)
    rw [eb]
    exact ⟨e, h1, (A0 b h1).1 h2, fun x hx hx0 => h3 x hx ((A0 x hx).2 hx0)⟩
  have Bin : ∀ x, (x < n ∧ ρ x = t) → (B x < n ∧ ρ (B x) = t) := fun x hx => ⟨(hB x hx.1).2.1, (hB x hx.1).2.2.1⟩
  obtain ⟨Q, hQ⟩ : ∃ Q : Nat → Bool, Q = fun i => ρ i == t && ring n B i := ⟨_, rfl⟩
  have Qiff : ∀ i, Q i = true ↔ ρ i = t ∧ ∃ k, 1 ≤ k ∧ k ≤ n + 1 ∧ itN B k i = i := fun i => by
    rw [hQ]; simp only [Bool.and_eq_true, beq_iff_eq, ring_iff]
  have itB : ∀ {i : Nat}, i < n → ρ i = t → ∀ k, itN B k i < n ∧ ρ (itN B k i) = t := fun hi e => itN_inv (I := fun x => x < n ∧ ρ x = t) Bin ⟨hi, e⟩
  have QB : ∀ i, i < n → Q i = true → Q (B i) = true := fun i hi hq => by
    obtain ⟨e, k, k1, k2, hk⟩ := (Qiff i).1 hq
    refine (Qiff _).2 ⟨(hB i hi).2.2.1, k, k1, k2, ?_⟩
    rw [← itN_succ]; show B (itN B k i) = B i; rw [hk]
  have Qon : ∀ x, x < n → Q x = true → ∃ j, j < n ∧ Q j = true ∧ B j = x := fun x hx hq => by
    obtain ⟨e, k, k1, k2, hk⟩ := (Qiff x).1 hq
    obtain ⟨q, rfl⟩ : ∃ q, k = q + 1 := ⟨k - 1, by omega⟩
    have hi := itB hx e q
    refine ⟨itN B q x, hi.1, (Qiff _).2 ⟨hi.2, q + 1, k1, k2, ?_⟩, hk⟩
    rw [← itN_add, Nat.add_comm, itN_add, hk]
  have Qex : ∃ i, i < n ∧ Q i = true := by
    obtain ⟨a, c, hac, hcn, e⟩ := php n (fun k => itN B k a0) (fun k _ => (itB ha0 ea0 k).1)
    (try dsimp only at e)
    have hi := itB ha0 ea0 a
    refine ⟨itN B a a0, hi.1, (Qiff _).2 ⟨hi.2, c - a, by omega, by omega, ?_⟩⟩
    rw [← itN_add, show c - a + a = c by omega, e]
  have hpl : (pickB Q n).length ≤ n := pickB_len
  unfold trade_Swap_b2
  (try dsimp only)
  rw [if_pos (by rw [decide_eq_true_eq]; omega), chk_t (by omega), Option.bind_some, ok_bindF, hl, Int.toNat_natCast]
  -- the round's list
  refine ok_rangeN (fun i (L : List Int) => L = pickB Q i) rfl (fun i L hi hI => ?_) fun L hL => ?_
  · subst hI
    unfold trade_Swap_b3
    rw [b1 gl hi, Option.bind_some, R.got i hi]
    have hle := R.le i hi
    by_cases e : ρ i < t
    · rw [if_pos e, if_pos (by rw [decide_eq_true_eq]; omega), ok_some, flok_nx]
      have : Q i = false := by rw [hQ]; simp; intro h; omega
      simp [pickB, this]
    · have ei : ρ i = t := by omega
      rw [if_neg e, if_neg (by decide), (hB i hi).1, Option.bind_some, chk_t (by omega), Option.bind_some, ok_bindF, hl, Int.toNat_natCast]
      refine ok_rangeN (fun m (x : Int) => (x = (i : Int) ∧ ∃ k, 1 ≤ k ∧ k ≤ m + 1 ∧ itN B k i = i) ∨ (x = (itN B (m + 1) i : Nat) ∧ ∀ k, 1 ≤ k → k ≤ m + 1 → itN B k i ≠ i)) ?_ (fun m x hm hI => ?_) fun x hx => ?_
      · by_cases e1 : B i = i
        · left; exact ⟨by rw [e1], 1, by omega, by omega, e1⟩
        · right; exact ⟨rfl, fun k h1 h2 => by have : k = 1 := by omega
                                               subst this; exact e1⟩
      · unfold trade_Swap_b4
        rcases hI with ⟨rfl, k, k1, k2, hk⟩ | ⟨rfl, hno⟩
        · rw [if_neg (by rw [bne_iff_ne]; exact fun h => h rfl), ok_some, flok_nx]
          exact .inl ⟨rfl, k, k1, by omega, hk⟩
        · have hne := hno (m + 1) (by omega) (by omega)
          have hin := itB hi ei (m + 1)
          rw [if_pos (by rw [bne_iff_ne]; omega), (hB _ hin.1).1, Option.bind_some, ok_some, flok_nx]
          by_cases e1 : B (itN B (m + 1) i) = i
          · left; exact ⟨by rw [e1], m + 2, by omega, by omega, e1⟩
          · right
            refine ⟨rfl, fun k h1 h2 => ?_⟩
            by_cases e2 : k = m + 2
            · subst e2; exact e1
            · exact hno k h1 (by omega)
      · rcases hx with ⟨rfl, k, k1, k2, hk⟩ | ⟨rfl, hno⟩
        · have hq : Q i = true := (Qiff i).2 ⟨ei, k, k1, k2, hk⟩
          have : (pickB Q i).length ≤ i := pickB_len
          rw [if_pos (by rw [beq_iff_eq]), chk_t (by simp only [List.length_cons, List.length_nil]; omega), Option.bind_some, ok_some, flok_nx]
          simp [pickB, hq]
        · have hne := hno (n + 1) (by omega) (by omega)
          have hq : Q i = false := by
            cases hc : Q i with
            | false => rfl
            | true => obtain ⟨_, k, k1, k2, hk⟩ := (Qiff i).1 hc; exact absurd hk (hno k k1 k2)
          rw [if_neg (by rw [beq_iff_eq]; omega), ok_some, flok_nx]
          simp [pickB, hq]
  · subst hL
    rw [ok_bindF]
    -- what they get
    refine ok_rangeN (fun m (g : List Int) => g.length = n ∧ ∀ i, i < n → nth g i = if (i : Int) ∈ (pickB Q n).take m then (B i : Int) else nth got i) ⟨gl, fun i _ => by simp⟩ (fun m g hm hI => ?_) fun g hg => ?_
    · obtain ⟨i, hi, hq, e⟩ := pick_at hm
      unfold trade_Swap_b5
      rw [idx_nat, nth_at hm, Option.bind_some, e, (hB i hi).1, Option.bind_some, b1 hI.1 hi, Option.bind_some, ok_some, flok_nx, Int.toNat_natCast]
      refine ⟨by rw [List.length_set]; exact hI.1, fun j hj => ?_⟩
      rw [nth_set (by rw [hI.1]; exact hi)]
      by_cases hji : j = i
      · subst hji; rw [if_pos rfl, if_pos ((mem_take_succ hm).2 (.inr e.symm))]
      · rw [if_neg hji, hI.2 j hj]
        by_cases hin : (j : Int) ∈ (pickB Q n).take m
        · rw [if_pos hin, if_pos ((mem_take_succ hm).2 (.inl hin))]
        · rw [if_neg hin, if_neg]
          intro h'
          rcases (mem_take_succ hm).1 h' with h' | h'
          · exact hin h'
          · rw [e] at h'; omega
    · rw [List.take_length] at hg
      have gin : ∀ i : Nat, i < n → ((i : Int) ∈ pickB Q n ↔ Q i = true) := fun i hi => by
        rw [mem_pickB]
        exact ⟨fun ⟨k, _, h2, h3⟩ => by have : i = k := by omega
                                        subst this; exact h2, fun h => ⟨i, hi, h, rfl⟩⟩
      have hg' : ∀ i, i < n → nth g i = if Q i = true then (B i : Int) else nth got i := fun i hi => by
        rw [hg.2 i hi]
        by_cases hq : Q i = true
        · rw [if_pos hq, if_pos ((gin i hi).2 hq)]
        · rw [if_neg hq, if_neg fun h => hq ((gin i hi).1 h)]
      rw [ok_bindF]
      -- what is gone
      refine ok_rangeN (fun m (z : List Int) => z.length = n ∧ ∀ x, x < n → nth z x = if ∃ j : Nat, (j : Int) ∈ (pickB Q n).take m ∧ B j = x then 1 else nth taken x) ⟨tl, fun i _ => by simp⟩ (fun m z hm hI => ?_) fun z hz => ?_
      · obtain ⟨i, hi, hq, e⟩ := pick_at hm
        have hBi := (hB i hi).2.1
        unfold trade_Swap_b6
        rw [idx_nat, nth_at hm, Option.bind_some, e, b1 hg.1 hi, Option.bind_some, hg' i hi, if_pos hq, b1 hI.1 hBi, Option.bind_some, ok_some, flok_nx, Int.toNat_natCast]
        refine ⟨by rw [List.length_set]; exact hI.1, fun x hx => ?_⟩
        rw [nth_set (by rw [hI.1]; exact hBi)]
        by_cases hxi : x = B i
        · subst hxi; rw [if_pos rfl, if_pos ⟨i, (mem_take_succ hm).2 (.inr e.symm), rfl⟩]
        · rw [if_neg hxi, hI.2 x hx]
          by_cases hin : ∃ j : Nat, (j : Int) ∈ (pickB Q n).take m ∧ B j = x
          · obtain ⟨j, h1, h2⟩ := hin
            rw [if_pos ⟨j, h1, h2⟩, if_pos ⟨j, (mem_take_succ hm).2 (.inl h1), h2⟩]
          · rw [if_neg hin, if_neg]
            rintro ⟨j, h1, h2⟩
            rcases (mem_take_succ hm).1 h1 with h1 | h1
            · exact hin ⟨j, h1, h2⟩
            · rw [e] at h1; have : j = i := by omega
              subst this; exact hxi h2.symm
      · rw [List.take_length] at hz
        have hz' : ∀ x, x < n → nth z x = if Q x = true then 1 else nth taken x := fun x hx => by
          rw [hz.2 x hx]
          by_cases hq : Q x = true
          · obtain ⟨j, h1, h2, h3⟩ := Qon x hx hq
            rw [if_pos hq, if_pos ⟨j, (gin j h1).2 h2, h3⟩]
          · rw [if_neg hq, if_neg]
            rintro ⟨j, h1, h2⟩
            obtain ⟨k, k1, k2, k3⟩ := mem_pickB.1 h1
            have : j = k := by omega
            subst this
            have := QB j k1 k2
            rw [h2] at this; exact hq this
        have hsum := pickB_split (p := fun i => ρ i == t) (q := ring n B) n
        have hlen : stay (t + 1) (fun i => if ρ i = t ∧ Q i = false then t + 1 else ρ i) n = (pickB (fun i => (ρ i == t) && !ring n B i) n).length := by
          unfold stay
          congr 1
          refine pickB_congr fun k hk => ?_
          have := R.le k hk
          rw [hQ]
          (try dsimp only)
          rw [Bool.eq_iff_iff, beq_iff_eq]
          by_cases e : ρ k = t
          · by_cases hr : ring n B k = true <;> simp [e, hr]
          · rw [if_neg (by simp [e])]; simp [e]; omega
        have key : stay (t + 1) (fun i => if ρ i = t ∧ Q i = false then t + 1 else ρ i) n + (pickB Q n).length = stay t ρ n := by
          have h1 : (pickB (fun i => ρ i == t && ring n B i) n).length = (pickB Q n).length := by rw [hQ]
          have h2 : stay t ρ n = (pickB (fun i => ρ i == t) n).length := rfl
          rw [hlen]; omega
        rw [chk_t (by simp only [List.length_cons, List.length_nil]; omega), Option.bind_some, ok_some, flok_nx]
        (try dsimp only)
        have hstn : stay t ρ n ≤ n := pickB_len
        refine ⟨fun i => if ρ i = t ∧ Q i = false then t + 1 else ρ i, fun i => if Q i = true then B i else G i, ⟨hg.1, hz.1, by simp [rl], fun i hi => ?_, fun i hi => ?_, fun i hi => ?_, fun s hs => ?_, fun i hi hlt => ?_, fun i x hi hx hlt hle => ?_, fun i hi hlt => ?_, fun s hs => ?_, fun i s hi hs => ?_⟩, ?_, ?_⟩
        · have := R.le i hi; (try dsimp only); split <;> omega
        · rw [hg' i hi, R.got i hi]
          have := R.le i hi
          by_cases hq : Q i = true
          · have := ((Qiff i).1 hq).1
            rw [if_pos hq, if_pos (by (try dsimp only); rw [if_neg (by simp [hq])]; omega), if_pos hq]
          · have hq' : Q i = false := by simpa using hq
            rw [if_neg hq]
            by_cases e : ρ i < t
            · rw [if_pos e, if_pos (by (try dsimp only); rw [if_neg (by omega)]; omega), if_neg hq]
            · rw [if_neg e, if_neg (by (try dsimp only); rw [if_pos ⟨by omega, hq'⟩]; omega)]
        · rw [hz' i hi, R.taken i hi]
          have := R.le i hi
          by_cases hq : Q i = true
          · have := ((Qiff i).1 hq).1
            rw [if_pos hq, if_pos (by (try dsimp only); rw [if_neg (by simp [hq])]; omega)]
          · have hq' : Q i = false := by simpa using hq
            rw [if_neg hq]
            by_cases e : ρ i < t
            · rw [if_pos e, if_pos (by (try dsimp only); rw [if_neg (by omega)]; omega)]
            · rw [if_neg e, if_neg (by (try dsimp only); rw [if_pos ⟨by omega, hq'⟩]; omega)]
        · rw [nth_append, rl]
          by_cases e : s < t
          · rw [if_pos e, R.rounds s e]
            refine pickB_congr fun k hk => ?_
            (try dsimp only)
            by_cases hc : ρ k = t ∧ Q k = false
            · rw [if_pos hc]; have := hc.1
              rw [Bool.eq_iff_iff, beq_iff_eq, beq_iff_eq]; omega
            · rw [if_neg hc]
          · have es : s = t := by omega
            subst es
            rw [if_neg (by omega), Nat.sub_self, nth_cons_zero]
            refine pickB_congr fun k hk => ?_
            (try dsimp only)
            rw [Bool.eq_iff_iff, beq_iff_eq]
            have := R.le k hk
            by_cases hq : Q k = true
            · have := ((Qiff k).1 hq).1
              rw [if_neg (by simp [hq])]; simp [hq]; omega
            · have hq' : Q k = false := by simpa using hq
              by_cases e : ρ k = s
              · rw [if_pos ⟨e, hq'⟩]; simp [hq']
              · rw [if_neg (by simp [e])]; simp [hq', e]
        · (try dsimp only at hlt ⊢)
          by_cases hq : Q i = true
          · have e := ((Qiff i).1 hq).1
            have h1 := hB i hi
            have h2 := QB i hi hq
            rw [if_pos hq, if_neg (by simp [h2]), if_neg (by simp [hq])]
            exact ⟨h1.2.1, by rw [h1.2.2.1, e]⟩
          · have hq' : Q i = false := by simpa using hq
            have := R.le i hi
            by_cases e : ρ i = t
            · rw [if_pos ⟨e, hq'⟩] at hlt; omega
            · have := R.lt i hi (by omega)
              rw [if_neg hq, if_neg (by omega), if_neg (by omega)]
              exact this
        · (try dsimp only at hlt hle ⊢)
          have hxle := R.le x hx; have hile := R.le i hi
          by_cases hq : Q i = true
          · have e := ((Qiff i).1 hq).1
            rw [if_neg (by simp [hq])] at hle
            rw [if_pos hq]
            refine (hB i hi).2.2.2 x hx ?_
            by_cases hc : ρ x = t ∧ Q x = false
            · exact hc.1
            · rw [if_neg hc] at hle; omega
          · have hq' : Q i = false := by simpa using hq
            by_cases e : ρ i = t
            · rw [if_pos ⟨e, hq'⟩] at hlt; omega
            · rw [if_neg hq]
              rw [if_neg (by simp [e])] at hle
              refine R.best i x hi hx (by omega) ?_
              by_cases hc : ρ x = t ∧ Q x = false
              · omega
              · rw [if_neg hc] at hle; exact hle
        · (try dsimp only at hlt ⊢)
          have hile := R.le i hi
          by_cases hq : Q i = true
          · obtain ⟨e, k, k1, k2, hk⟩ := (Qiff i).1 hq
            refine ⟨k, k1, ?_⟩
            rw [itN_congr (f := B) (I := fun x => x < n ∧ Q x = true) (fun x hx => ⟨(hB x hx.1).2.1, QB x hx.1 hx.2⟩) (fun x hx => by rw [if_pos hx.2]) ⟨hi, hq⟩, hk]
          · have hq' : Q i = false := by simpa using hq
            by_cases e : ρ i = t
            · rw [if_pos ⟨e, hq'⟩] at hlt; omega
            · obtain ⟨k, k1, hk⟩ := R.cyc i hi (by omega)
              refine ⟨k, k1, ?_⟩
              rw [itN_congr (f := G) (I := fun x => x < n ∧ ρ x < t) (fun x hx => by have := R.lt x hx.1 hx.2; exact ⟨this.1, by rw [this.2]; exact hx.2⟩) (fun x hx => by
                rw [if_neg]; intro hqx; have := ((Qiff x).1 hqx).1; omega) ⟨hi, by omega⟩, hk]
        · by_cases e : s < t
          · obtain ⟨i, hi, hs'⟩ := R.hit s e
            exact ⟨i, hi, by (try dsimp only); rw [if_neg (by omega)]; exact hs'⟩
          · obtain ⟨i, hi, hq⟩ := Qex
            have e' := ((Qiff i).1 hq).1
            exact ⟨i, hi, by (try dsimp only); rw [if_neg (by simp [hq])]; omega⟩
        · (try dsimp only at hs ⊢)
          have hile := R.le i hi
          have up : ∀ x, ρ x ≤ (if ρ x = t ∧ Q x = false then t + 1 else ρ x) := fun x => by split <;> omega
          by_cases hc : ρ i = t ∧ Q i = false
          · rw [if_pos hc] at hs
            by_cases e : s = t
            · subst e
              have h1 := hB i hi
              refine ⟨B i, h1.2.1, by have := up (B i); omega, ?_⟩
              have h2 := h1.2.2.2 i hi hc.1
              have h3 : rk l i (B i) ≠ rk l i i := fun e => by
                have e' := h.inj hi h1.2.1 hi e
                have : Q i = true := (Qiff i).2 ⟨hc.1, 1, by omega, by omega, e'⟩
                rw [hc.2] at this; cases this
              omega
            · obtain ⟨x, h1, h2, h3⟩ := R.self i s hi (by omega)
              exact ⟨x, h1, by have := up x; omega, h3⟩
          · rw [if_neg hc] at hs
            obtain ⟨x, h1, h2, h3⟩ := R.self i s hi hs
            exact ⟨x, h1, by have := up x; omega, h3⟩
        · rw [wsub_of (by omega) (by omega)]; omega
        · have h2 := pickB_pos.2 Qex
          omega
end Go.Pu
