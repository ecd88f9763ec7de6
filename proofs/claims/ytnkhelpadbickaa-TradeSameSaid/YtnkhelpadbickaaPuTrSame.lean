/- The plain law: where all like things alike each keeps his own; where each likes his own best he does at once. -/
import Derived.Test.YtnkhelpadbickaaWTradeSameModels
import Derived.Test.YtnkhelpadbickaaPuSwapL
import Derived.Test.YtnkhelpadbickaaPuGood
import Derived.Test.YtnkhelpadbickaaPuEq
set_option linter.all false
namespace Go.Pu
open Go.Fw Go.Mo
/-- all alike: each round is one, and it is the best that is left -/
theorem same_id {n K : Nat} {rk : Nat → Nat → Nat} {G ρ : Nat → Nat} (h : Ttc n rk G ρ K) {f : Nat → Nat} (hf : ∀ i x, i < n → rk i x = f x) (inj : ∀ x y, x < n → y < n → f x = f y → x = y) : ∀ i, i < n → G i = i := fun i hi => by
  have gi := h.lt i hi
  have e1 := h.best i (G (G i)) hi (h.lt _ gi) (by rw [h.same _ gi, h.same _ hi]; exact Nat.le_refl _)
  have e2 := h.best (G i) (G i) gi gi (Nat.le_refl _)
  rw [hf _ _ hi, hf _ _ hi] at e1
  rw [hf _ _ gi, hf _ _ gi] at e2
  have := inj (G i) (G (G i)) gi (h.lt _ gi) (by omega)
  exact (h.inj hi gi this).symm
theorem same_rounds {n K : Nat} {rk : Nat → Nat → Nat} {G ρ : Nat → Nat} (h : Ttc n rk G ρ K) {f : Nat → Nat} (hf : ∀ i x, i < n → rk i x = f x) (inj : ∀ x y, x < n → y < n → f x = f y → x = y) {p : Nat → Nat} (hp : ∀ t, t < n → p t < n ∧ f (p t) = t) (on : ∀ i, i < n → ∃ t, t < n ∧ p t = i) (n1 : 1 ≤ n) :
    K = n ∧ ∀ t, t < n → ρ (p t) = t := by
  have hid := same_id h hf inj
  have mono : ∀ s t, s < t → t < n → ρ (p s) < ρ (p t) := fun s t hst ht => by
    have h1 := hp s (by omega); have h2 := hp t ht
    by_cases hle : ρ (p t) ≤ ρ (p s)
    · have := h.best (p t) (p s) h2.1 h1.1 hle
      rw [hid _ h2.1, hf _ _ h2.1, hf _ _ h2.1, h1.2, h2.2] at this
      omega
    · omega
  have ge : ∀ t, t < n → t ≤ ρ (p t) := by
    intro t
    induction t with
    | zero => intro _; exact Nat.zero_le _
    | succ t ih => intro ht; have := ih (by omega); have := mono t (t + 1) (by omega) ht; omega
  have eq : ∀ t, t < n → ρ (p t) = t := by
    intro t
    induction t using Nat.strongRecOn with
    | _ t ih =>
      intro ht
      have h1 := ge t ht
      have h2 := h.le (p t) (hp t ht).1
      obtain ⟨i, hi, e⟩ := h.hit t (by omega)
      obtain ⟨s, hs, rfl⟩ := on i hi
      have h3 := ge s hs
      by_cases hst : s = t
      · subst hst; exact e
      · have := ih s (by omega) hs; omega
  refine ⟨?_, eq⟩
  have h1 := h.le (p (n - 1)) (hp (n - 1) (by omega)).1
  rw [eq (n - 1) (by omega)] at h1
  by_cases hK : n < K
  · obtain ⟨i, hi, e⟩ := h.hit n hK
    obtain ⟨s, hs, rfl⟩ := on i hi
    rw [eq s hs] at e; omega
  · omega
/-- each his own -/
theorem own_id {n K : Nat} {rk : Nat → Nat → Nat} {G ρ : Nat → Nat} (h : Ttc n rk G ρ K) (h0 : ∀ i, i < n → rk i i = 0) (inj : ∀ i x y, i < n → x < n → y < n → rk i x = rk i y → x = y) (n1 : 1 ≤ n) : (∀ i, i < n → G i = i) ∧ K = 1 := by
  refine ⟨fun i hi => ?_, ?_⟩
  · have := h.best i i hi hi (Nat.le_refl _)
    rw [h0 i hi] at this
    exact inj i _ _ hi (h.lt i hi) hi (by rw [h0 i hi]; omega)
  · have z : ∀ i, i < n → ρ i = 0 := fun i hi => by
      by_cases e : ρ i = 0
      · exact e
      · obtain ⟨x, _, _, h3⟩ := h.self i 0 hi (by omega)
        rw [h0 i hi] at h3; omega
    have h1 := h.le 0 (by omega)
    rw [z 0 (by omega)] at h1
    by_cases hK : 1 < K
    · obtain ⟨i, hi, e⟩ := h.hit 1 hK
      rw [z i hi] at e; omega
    · omega
theorem ownOrd {n : Nat} {p : List Int} (hp : Ord n p) {i : Nat} (hi : i < n) : Ord n ((i : Int) :: p.filter (fun y => y != (i : Int))) := by
  have hm : (i : Int) ∈ p := (hp.mem _).2 (by omega)
  have hnd : ((i : Int) :: p.filter (fun y => y != (i : Int))).Nodup := List.nodup_cons.2 ⟨by simp, hp.nd.filter _⟩
  have hmem : ∀ x : Int, x ∈ (i : Int) :: p.filter (fun y => y != (i : Int)) ↔ x ∈ p := fun x => by
    rw [List.mem_cons, List.mem_filter, bne_iff_ne]
    constructor
    · rintro (rfl | h)
      · exact hm
      · exact h.1
    · intro h
      by_cases e : x = (i : Int)
      · exact .inl e
      · exact .inr ⟨h, e⟩
  have hperm : ((i : Int) :: p.filter (fun y => y != (i : Int))).Perm p := (List.perm_ext_iff_of_nodup hnd hp.nd).2 hmem
  exact hp.perm hperm
theorem TradeSame (x0 : Int) (_ : (Lit.int .i64 x0).wf = true) (x1 : List Int) (_ : (∀ x ∈ x1, (Lit.int .i64 x).wf = true) ∧ x1.length ≤ maxLen) : pk_TradeSame_m x0 x1 = some true := by
  obtain ⟨n, n1, n6, hn⟩ := one_within x0 6 (by decide) (by decide)
  rw [show ((6 : Nat) : Int) = 6 from rfl] at hn
  obtain ⟨p, ep, hp⟩ := orderOf_ok n x1 n1 (by omega)
  have hpl := hp.len
  apply Ok.eq
  unfold pk_TradeSame_m
  rw [trades_t, Option.bind_some, if_neg (by decide), within_at x0 6 (by decide) (by decide), Option.bind_some, hn, ep, Option.bind_some, chk_t (by omega), Option.bind_some, ok_bindR, Int.toNat_natCast]
  refine ok_rangeN (fun k (s : List (List Int) × List (List Int)) => (s.1.length = k ∧ ∀ i, i < k → nth s.1 i = p) ∧ s.2.length = k ∧ ∀ i : Nat, i < k → nth s.2 i = (i : Int) :: p.filter (fun y => y != (i : Int))) ⟨⟨rfl, fun i hi => by omega⟩, rfl, fun i hi => by omega⟩ (fun k s hk hI => ?_) fun s hs => ?_
  · obtain ⟨a, b⟩ := s
    obtain ⟨⟨a1, a2⟩, b1, b2⟩ := hI
    dsimp only at a1 a2 b1 b2
    unfold pk_TradeSame_b1
    dsimp only
    rw [chk_t (by simp only [List.length_cons, List.length_nil]; omega), Option.bind_some, ok_bindF]
    refine ok_rangeL (fun j (q : List Int) => q = (k : Int) :: (p.take j).filter (fun y => y != (k : Int))) rfl (fun j y q hj hJ => ?_) fun q hq => ?_
    · obtain ⟨hy, hjl⟩ := nth_of hj
      have hql : q.length ≤ n + 1 := by
        rw [hJ, List.length_cons]
        have := List.length_filter_le (fun y => y != (k : Int)) (p.take j)
        rw [List.length_take] at this
        omega
      unfold pk_TradeSame_b2
      by_cases e : y = (k : Int)
      · rw [if_neg (by rw [bne_iff_ne]; exact fun h => h e), ok_some, flok_nx, hJ, List.take_succ, hj, List.filter_append]
        simp [e]
      · rw [if_pos (by rw [bne_iff_ne]; exact e), chk_t (by simp only [List.length_cons, List.length_nil]; omega), Option.bind_some, ok_some, flok_nx, hJ, List.take_succ, hj, List.filter_append]
        simp [e]
    · rw [List.take_length] at hq
      rw [chk_t (by simp only [List.length_cons, List.length_nil]; omega), Option.bind_some, ok_some, flok_nx]
      refine ⟨⟨by simp [a1], fun i hi => ?_⟩, by simp [b1], fun i hi => ?_⟩
      · rw [nth_append, a1]
        split
        · rename_i h; exact a2 i h
        · rw [show i - k = 0 by omega]; rfl
      · rw [nth_append, b1]
        split
        · rename_i h; exact b2 i h
        · have : i = k := by omega
          subst this
          rw [Nat.sub_self, hq]; rfl
  · obtain ⟨a, b⟩ := s
    obtain ⟨⟨a1, a2⟩, b1', b2⟩ := hs
    dsimp only at a1 a2 b1' b2 ⊢
    have ha : Likes n a := ⟨n1, n6, a1, fun i hi => by rw [a2 i hi]; exact hp⟩
    have hb : Likes n b := ⟨n1, n6, b1', fun i hi => by rw [b2 i hi]; exact ownOrd hp hi⟩
    obtain ⟨g, r, G, ρ, K, es, s⟩ := swap_ok ha
    obtain ⟨g', r', G', ρ', K', es', s'⟩ := swap_ok hb
    have hf : ∀ i x, i < n → rk a i x = p.idxOf (x : Int) := fun i x hi => by unfold rk; rw [a2 i hi]
    have inj : ∀ x y, x < n → y < n → p.idxOf (x : Int) = p.idxOf (y : Int) → x = y := fun x y hx hy e => hp.idx_inj hx hy e
    have hid := same_id s.ttc hf inj
    have hpt : ∀ t, t < n → (nth p t).toNat < n ∧ p.idxOf ((nth p t).toNat : Int) = t := fun t ht => by
      have hv := hp.val ht
      refine ⟨by omega, ?_⟩
      rw [Int.toNat_of_nonneg hv.1, hp.idx ht]
    have on : ∀ i, i < n → ∃ t, t < n ∧ (nth p t).toNat = i := fun i hi => ⟨p.idxOf (i : Int), hp.idx_lt hi, by rw [hp.at_idx hi]; simp⟩
    obtain ⟨hK, hr⟩ := same_rounds s.ttc (f := fun x => p.idxOf (x : Int)) hf inj (p := fun t => (nth p t).toNat) hpt on n1
    have h0 : ∀ i, i < n → rk b i i = 0 := fun i hi => by unfold rk; rw [b2 i hi]; simp
    obtain ⟨hid', hK'⟩ := own_id s'.ttc h0 (fun i x y hi hx hy e => hb.inj hi hx hy e) n1
    rw [es, Option.bind_some, es', Option.bind_some]
    dsimp only
    have gl := s.gl; have gl' := s'.gl; have rl := s.rl; have rl' := s'.rl
    rw [good_at, Option.bind_some, if_neg (by decide), if_neg (by rw [bne_iff_ne]; omega), if_neg (by rw [bne_iff_ne]; omega), if_neg (by rw [bne_iff_ne]; omega), ok_bindR, ok_some, flok_nx, if_neg (by rw [bne_iff_ne]; omega), Option.bind_some, ok_bindR]
    refine ok_rangeN (fun _ _ => True) trivial (fun i _ hi _ => ?_) fun _ _ => by rw [ok_some]
    unfold pk_TradeSame_b3
    dsimp only
    have rt : nth r i = [nth p i] := by
      rw [s.rounds i (by omega)]
      have hv := hp.val hi
      have key : ∀ k, k < n → ((ρ k == i) = (k == (nth p i).toNat)) := fun k hk => by
        rw [Bool.eq_iff_iff, beq_iff_eq, beq_iff_eq]
        constructor
        · intro e
          obtain ⟨t, ht, rfl⟩ := on k hk
          have : ρ (nth p t).toNat = t := hr t ht
          rw [this] at e; rw [e]
        · rintro rfl; exact hr i hi
      rw [pickB_congr key]
      have one : ∀ (m q : Nat), q < m → pickB (fun k => k == q) m = [(q : Int)] := by
        intro m
        induction m with
        | zero => intro q h; omega
        | succ m ih =>
          intro q h
          simp only [pickB]
          by_cases e : q = m
          · subst e
            have : pickB (fun k => k == q) q = [] := List.eq_nil_of_length_eq_zero (by
              have : ¬ 0 < (pickB (fun k => k == q) q).length := fun h => by
                obtain ⟨i, hi, e⟩ := pickB_pos.1 h
                rw [beq_iff_eq] at e; omega
              omega)
            rw [this]; simp
          · rw [ih q (by omega), if_neg (by rw [beq_iff_eq]; exact fun h => e h.symm)]; rfl
      rw [one n _ (by omega), Int.toNat_of_nonneg hv.1]
    have e1 : idx r (i : Int) = some [nth p i] := by rw [idx_nat, nth_at (by omega), rt]
    rw [idx_nat, nth_at (by omega), Option.bind_some, s.got i hi, hid i hi, if_neg (by rw [bne_iff_ne]; exact fun h => h rfl), idx_nat, nth_at (by omega), Option.bind_some, s'.got i hi, hid' i hi, if_neg (by rw [bne_iff_ne]; exact fun h => h rfl), e1, Option.bind_some, idx_nat, nth_at (by omega), Option.bind_some, equal_ok, Option.bind_some, ok_bindF, ok_some, flok_nx, if_neg (by simp), ok_some, flok_nx]; trivial
end Go.Pu
