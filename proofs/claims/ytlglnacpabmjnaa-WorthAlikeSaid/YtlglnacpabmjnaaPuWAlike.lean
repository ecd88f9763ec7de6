/- The plain law: by other names each has the same share, and who brings the same to all has just that. -/
import Derived.Test.YtlglnacpabmjnaaWWorthAlikeModels
import Derived.Test.YtlglnacpabmjnaaPuWorth
import Derived.Test.YtlglnacpabmjnaaPuMTurned
set_option linter.all false
namespace Go.Pu
open Go.Fw Go.Mo
theorem bits_ext : ∀ n : Nat, n < 6 → ∀ s : Nat, s < 2 ^ n → ∀ t : Nat, t < 2 ^ n → (List.range n).all (fun j => has s j == has t j) = true → s = t := by decide +kernel
theorem bits_eq {n s t : Nat} (hn : n < 6) (hs : s < 2 ^ n) (ht : t < 2 ^ n) (h : ∀ j, j < n → has s j = has t j) : s = t :=
  bits_ext n hn s hs t ht (List.all_eq_true.2 fun j hj => by rw [h j (List.mem_range.1 hj)]; simp)
theorem pc_sum : ∀ n : Nat, n < 6 → ∀ s : Nat, s < 2 ^ n → (pc s : Int) = sumN n (fun j => if has s j then 1 else 0) := by decide +kernel
theorem andNot_any : ∀ s : Nat, s < 32 → ∀ i : Nat, i < 5 → bits .andNot .i64 (s : Int) (IntKind.wrap .i64 ((1 : Int) * 2 ^ (min (i : Int).toNat (IntKind.bits .i64)))) = ((if has s i then s - 2 ^ i else s : Nat) : Int) := by decide +kernel
theorem fct_all : ∀ n : Nat, n < 6 → ∀ k : Nat, k < n → sumN (2 ^ n) (fun s => if has s k then 0 else fct (pc s) * fct (n - 1 - pc s)) = fct n := by decide +kernel
theorem with_less : ∀ s : Nat, s < 32 → ∀ i : Nat, i < 5 → has s i = false → s + 2 ^ i - 2 ^ i = s ∧ has (s + 2 ^ i) i = true := by decide +kernel
/-- the image of a set -/
def img (p : List Int) (s : Nat) : Nat → Nat
  | 0 => 0
  | k + 1 => if has s k then img p s k + 2 ^ pi_ p k else img p s k
theorem has_zero (j : Nat) : has 0 j = false := by unfold has; simp
theorem img_has {n : Nat} (h5 : n ≤ 5) {p : List Int} (hp : Ord n p) (s : Nat) : ∀ k, k ≤ n → img p s k < 2 ^ n ∧ ∀ j, j < n → has (img p s k) (pi_ p j) = (has s j && decide (j < k)) := by
  intro k
  induction k with
  | zero => intro _; exact ⟨pow_pos' n, fun j _ => by simp [img, has_zero]⟩
  | succ k ih =>
    intro hk
    obtain ⟨h1, h2⟩ := ih (by omega)
    have hpk := pi_lt hp (show k < n by omega)
    have hno : has (img p s k) (pi_ p k) = false := by rw [h2 k (by omega)]; simp
    have hle := pow_le n (by omega)
    simp only [img]
    cases hb : has s k with
    | false =>
      simp only [Bool.false_eq_true, if_false]
      refine ⟨h1, fun j hj => ?_⟩
      rw [h2 j hj]
      by_cases e : j = k
      · subst e; rw [hb]; rfl
      · congr 1; simp only [decide_eq_decide]; omega
    | true =>
      simp only [if_true]
      refine ⟨with_lt n (by omega) _ h1 _ hpk hno, fun j hj => ?_⟩
      have hpj := pi_lt hp hj
      rw [with_has _ (by omega) _ (by omega) hno _ (by omega), h2 j hj]
      by_cases e : j = k
      · subst e; rw [hb]; simp
      · have hne : (pi_ p j == pi_ p k) = false := by rw [beq_eq_false_iff_ne]; exact fun e' => e (pi_inj hp hj (by omega) e')
        rw [hne, Bool.or_false]
        congr 1; simp only [decide_eq_decide]; omega
/-- the names the other way -/
theorem back_ex {n : Nat} {p : List Int} (hp : Ord n p) : ∃ r, Ord n r ∧ (∀ k, k < n → pi_ p (pi_ r k) = k) ∧ ∀ k, k < n → pi_ r (pi_ p k) = k := by
  obtain ⟨r, hr, e⟩ := map_nm_sur hp (sides_ord n)
  have h1 : ∀ k, k < n → pi_ p (pi_ r k) = k := fun k hk => by
    have e1 : nth (r.map (nm p)) k = k := by rw [e]; exact sides_nth hk
    rw [nth_map (by rw [hr.len]; exact hk)] at e1
    have hv := hr.val hk
    have e2 : nth r k = (pi_ r k : Int) := by unfold pi_; omega
    rw [e2, nm_pi hp (pi_lt hr hk)] at e1
    omega
  refine ⟨r, hr, h1, fun k hk => ?_⟩
  have := h1 (pi_ p k) (pi_lt hp hk)
  exact pi_inj hp (pi_lt hr (pi_lt hp hk)) hk this
theorem img_back {n : Nat} (h5 : n ≤ 5) {p r : List Int} (hp : Ord n p) (hr : Ord n r) (h : ∀ k, k < n → pi_ r (pi_ p k) = k) {s : Nat} (hs : s < 2 ^ n) : img r (img p s n) n = s := by
  have a := img_has h5 hp s n (Nat.le_refl _)
  have b := img_has h5 hr (img p s n) n (Nat.le_refl _)
  refine bits_eq (by omega) b.1 hs fun j hj => ?_
  have e1 := b.2 (pi_ p j) (pi_lt hp hj)
  rw [h j hj, a.2 j hj] at e1
  rw [e1]
  simp [hj, pi_lt hp hj]
theorem sum_map {N : Nat} {f : Nat → Int} {g h : Nat → Nat} (h1 : ∀ s, s < N → g s < N) (h2 : ∀ s, s < N → h s < N) (h3 : ∀ s, s < N → h (g s) = s) (h4 : ∀ s, s < N → g (h s) = s) : sumN N (fun s => f (g s)) = sumN N f := by
  have hq : Ord N ((List.range N).map fun s => ((g s : Nat) : Int)) := by
    refine ⟨by simp, fun x => ?_, List.pairwise_map.2 (List.nodup_range.imp_of_mem fun {a b} ha hb hab e => hab ?_)⟩
    · rw [List.mem_map]
      constructor
      · rintro ⟨s, hs, rfl⟩
        have := h1 s (List.mem_range.1 hs)
        omega
      · rintro ⟨x0, x1⟩
        exact ⟨h x.toNat, List.mem_range.2 (h2 _ (by omega)), by rw [h4 _ (by omega)]; omega⟩
    · have e' : g a = g b := by omega
      rw [← h3 a (List.mem_range.1 ha), ← h3 b (List.mem_range.1 hb), e']
  refine Eq.trans (sumN_congr fun s hs => ?_) (ord_sum hq f)
  rw [nth_map (by simpa using hs)]
  have : nth (List.range N) s = s := by rw [nth_get (by simpa using hs)]; simp
  rw [this, Int.toNat_natCast]
theorem part_img {n : Nat} (h5 : n ≤ 5) {p : List Int} (hp : Ord n p) {v v' : Nat → Int} (hv : ∀ s, s < 2 ^ n → v' (img p s n) = v s) {s i : Nat} (hs : s < 2 ^ n) (hi : i < n) : LC.ev (part n (pi_ p i) (img p s n)) v' = LC.ev (part n i s) v := by
  have a := img_has h5 hp s n (Nat.le_refl _)
  have hpc : pc (img p s n) = pc s := by
    have e1 := pc_sum n (by omega) _ a.1
    have e2 := pc_sum n (by omega) _ hs
    rw [← pi_sum hp] at e1
    have : sumN n (fun x => if has (img p s n) (pi_ p x) = true then (1 : Int) else 0) = sumN n (fun j => if has s j = true then 1 else 0) := sumN_congr fun j hj => by rw [a.2 j hj]; simp [hj]
    omega
  have hh : has (img p s n) (pi_ p i) = has s i := by rw [a.2 i hi]; simp [hi]
  unfold part
  rw [hh, hpc]
  cases hb : has s i with
  | true => rfl
  | false =>
    have hle := pow_le n (by omega)
    have w1 := with_lt n (by omega) s hs i hi hb
    have w2 := with_lt n (by omega) _ a.1 _ (pi_lt hp hi) (hh.trans hb)
    have e : img p s n + 2 ^ pi_ p i = img p (s + 2 ^ i) n := by
      have b := img_has h5 hp (s + 2 ^ i) n (Nat.le_refl _)
      refine bits_eq (by omega) w2 b.1 fun j hj => ?_
      obtain ⟨q, hq, rfl⟩ := pi_sur hp hj
      rw [with_has _ (by omega) _ (by have := pi_lt hp hi; omega) (hh.trans hb) _ (by omega), a.2 q hq, b.2 q hq, with_has s (by omega) i (by omega) hb q (by omega)]
      simp only [decide_eq_true hq, Bool.and_true]
      congr 1
      by_cases e : q = i
      · subst e; simp
      · rw [show (q == i) = false by rw [beq_eq_false_iff_ne]; exact e, beq_eq_false_iff_ne]
        exact fun e' => e (pi_inj hp hq hi e')
    simp only [Bool.false_eq_true, if_false, LC.ev]
    rw [e, hv _ w1, hv _ hs]
theorem share_img {n : Nat} (h5 : n ≤ 5) {p : List Int} (hp : Ord n p) {v v' : Nat → Int} (hv : ∀ s, s < 2 ^ n → v' (img p s n) = v s) {i : Nat} (hi : i < n) : LC.ev (shareLC n (pi_ p i)) v' = LC.ev (shareLC n i) v := by
  obtain ⟨r, hr, r1, r2⟩ := back_ex hp
  unfold shareLC
  rw [LC.ev_all, LC.ev_all, ← sum_map (g := fun s => img p s n) (h := fun s => img r s n) (fun s _ => (img_has h5 hp s n (Nat.le_refl _)).1) (fun s _ => (img_has h5 hr s n (Nat.le_refl _)).1) (fun s hs => img_back h5 hp hr r2 hs) (fun s hs => img_back h5 hr hp r1 hs)]
  exact sumN_congr fun s hs => part_img h5 hp hv hs hi
theorem share_idle {n : Nat} (h5 : n ≤ 5) {k : Nat} (hk : k < n) {v : Nat → Int} {c : Int} (hv : ∀ s, s < 2 ^ n → has s k = false → v (s + 2 ^ k) - v s = c) : LC.ev (shareLC n k) v = fct n * c := by
  unfold shareLC
  rw [LC.ev_all, ← fct_all n (by omega) k hk, Int.mul_comm, ← sumN_mul]
  refine sumN_congr fun s hs => ?_
  unfold part
  cases hb : has s k with
  | true => simp [LC.ev]
  | false =>
    simp only [Bool.false_eq_true, if_false, LC.ev]
    rw [← hv s hs hb]; grind
theorem img_loop {n : Nat} (h5 : n ≤ 5) {p : List Int} (hp : Ord n p) {s : Nat} (hs : s < 2 ^ n) : rangeN (ρ := Bool) (γ := List Int × List Int) (pk_WorthAlike_b2 s p) n 0 (0 : Int) = some (.nx ((img p s n : Nat) : Int)) := by
  have : Ok (rangeN (ρ := Bool) (γ := List Int × List Int) (pk_WorthAlike_b2 s p) n 0 (0 : Int)) (FlOk (fun x => x = ((img p s n : Nat) : Int)) (fun _ => False) (fun _ => False)) := by
    refine ok_rangeN (fun k (x : Int) => x = ((img p s k : Nat) : Int)) rfl (fun k x hk hx => ?_) fun x hx => hx
    have hle := pow_le n (by omega)
    have a := img_has h5 hp s k (by omega)
    have hpk := pi_lt hp hk
    have hno : has (img p s k) (pi_ p k) = false := by rw [a.2 k hk]; simp
    have e : nth p k = (pi_ p k : Int) := by have := hp.val hk; unfold pi_; omega
    unfold pk_WorthAlike_b2
    rw [chk_t (by omega), Option.bind_some, bit_ok s (by omega) k (by omega)]
    cases hb : has s k with
    | false =>
      rw [if_neg (by simp), ok_some, flok_nx, hx]; simp [img, hb]
    | true =>
      rw [if_pos (by simp), idx_nat, nth_at (by rw [hp.len]; exact hk), Option.bind_some, e, chk_t (by omega), Option.bind_some, hx, or_ok _ (by omega) _ (by omega) hno, ok_some, flok_nx]
      simp [img, hb]
  obtain ⟨f, e, hf⟩ := this
  match f, hf with
  | .nx x, hf => have hf' : x = _ := hf; rw [e, hf']
theorem WorthAlike (x0 : Int) (_ : (Lit.int .i64 x0).wf = true) (x1 : List Int) (h1' : (∀ x ∈ x1, (Lit.int .i64 x).wf = true) ∧ x1.length ≤ maxLen) (x2 : List Int) (_ : (∀ x ∈ x2, (Lit.int .i64 x).wf = true) ∧ x2.length ≤ maxLen) (x3 : Int) (_ : (Lit.int .i64 x3).wf = true) (x4 : Int) (_ : (Lit.int .i64 x4).wf = true) : pk_WorthAlike_m x0 x1 x2 x3 x4 = some true := by
  obtain ⟨n, n1, n5, hn⟩ := one_within x0 5 (by decide) (by decide)
  rw [show ((5 : Nat) : Int) = 5 from rfl] at hn
  obtain ⟨g, v, eg, hG, hv⟩ := gameOf_ok n1 (by omega) x1 h1'.2
  obtain ⟨p, ep, hp⟩ := orderOf_ok n x2 n1 (by omega)
  obtain ⟨r, hr, r1, r2⟩ := back_ex hp
  have hgl := hG.vec.len
  have hle := pow_le n (by omega); have hp0 := pow_pos' n
  have h32 : 2 ^ n ≤ 32 := Nat.pow_le_pow_right (by omega) n5
  obtain ⟨k, hk, ek⟩ : ∃ k : Nat, k < n ∧ x3 % (n : Int) = k := ⟨(x3 % (n : Int)).toNat, by have := Int.emod_lt_of_pos x3 (show (0 : Int) < n by omega); omega, by have := Int.emod_nonneg x3 (show (n : Int) ≠ 0 by omega); omega⟩
  have c0 := Int.emod_nonneg x4 (show (41 : Int) ≠ 0 by decide)
  have c1 := Int.emod_lt_of_pos x4 (show (0 : Int) < 41 by decide)
  obtain ⟨c, hc⟩ : ∃ c, x4 % 41 - 20 = c := ⟨_, rfl⟩
  have im : ∀ s, img p s n < 2 ^ n := fun s => (img_has n5 hp s n (Nat.le_refl _)).1
  have ib : ∀ s, s < 2 ^ n → img r (img p s n) n = s := fun s hs => img_back n5 hp hr r2 hs
  have ibr : ∀ s, s < 2 ^ n → img p (img r s n) n = s := fun s hs => img_back n5 hr hp r1 hs
  let idle : Nat → Int := fun s => v (if has s k then s - 2 ^ k else s) + c * (if has s k then 1 else 0)
  have hmain : Ok (rangeN (ρ := Bool) (γ := Unit) (pk_WorthAlike_b1 (x0 % 5) p g (k : Int) (x4 % 41)) g.length 0 ((List.replicate ((g.length : Nat) : Int).toNat (0 : Int)), (List.replicate ((g.length : Nat) : Int).toNat (0 : Int)))) (FlOk (fun q => (q.1.length = 2 ^ n ∧ ∀ s, s < 2 ^ n → nth q.1 (img p s n) = v s) ∧ Vec (2 ^ n) q.2 idle) (fun _ => False) (fun _ => False)) := by
    rw [hgl, Int.toNat_natCast]
    refine ok_rangeN (fun m (q : List Int × List Int) => (q.1.length = 2 ^ n ∧ ∀ s, s < m → nth q.1 (img p s n) = v s) ∧ q.2.length = 2 ^ n ∧ ∀ s, s < m → nth q.2 s = idle s) ⟨⟨by simp, fun s hs => by omega⟩, by simp, fun s hs => by omega⟩ (fun s q hs hq => ?_) fun q hq => ⟨hq.1, hq.2.1, hq.2.2⟩
    obtain ⟨w, d⟩ := q
    obtain ⟨⟨w1, w2⟩, d1, d2⟩ := hq
    simp only at w1 w2 d1 d2
    have hbk : (if has s k then s - 2 ^ k else s) < 2 ^ n := Nat.lt_of_le_of_lt (by split; exact Nat.sub_le _ _; exact Nat.le_refl _) hs
    have vb := hv _ hbk
    unfold pk_WorthAlike_b1
    simp only
    rw [hn, chk_t (by omega), Option.bind_some, ok_bindF, Int.toNat_natCast, img_loop n5 hp hs, ok_some, flok_nx, idx_nat, hG.vec.at? hs, Option.bind_some, idx_nat, nth_at (by rw [w1]; exact im s), Option.bind_some, chk_t (by omega), Option.bind_some, andNot_any s (by omega) k (by omega), idx_nat, hG.vec.at? hbk, Option.bind_some]
    rw [idx_nat, nth_at (by rw [d1]; exact hs)]
    simp only [Option.bind_some]
    rw [ok_some, flok_nx, bit_ok s (by omega) k (by omega), wsub_of (by omega) (by omega), hc, Int.toNat_natCast]
    refine ⟨⟨by simpa using w1, fun t ht => ?_⟩, by simpa using d1, fun t ht => ?_⟩
    · rw [nth_set (by rw [w1]; exact im s)]
      by_cases e : t = s
      · subst e; rw [if_pos rfl]
      · rw [if_neg (fun e' => e (by rw [← ib t (by omega), e', ib s hs])), w2 t (by omega)]
    · rw [nth_set (by rw [d1]; exact hs)]
      by_cases e : t = s
      · subst e
        rw [if_pos rfl]
        show _ = v (if has t k = true then t - 2 ^ k else t) + c * (if has t k = true then 1 else 0)
        generalize v (if has t k = true then t - 2 ^ k else t) = y at vb ⊢
        by_cases hb : has t k = true
        · rw [if_pos hb, wmul_of (by omega) (by omega), wadd_of (by omega) (by omega)]
        · rw [if_neg hb, wmul_of (by omega) (by omega), wadd_of (by omega) (by omega)]
      · rw [if_neg e, d2 t (by omega)]
  obtain ⟨f, ef, hf⟩ := hmain
  match f, hf with
  | .nx (w, d), hf =>
    obtain ⟨⟨w1, w2⟩, hd⟩ : (w.length = 2 ^ n ∧ ∀ s, s < 2 ^ n → nth w (img p s n) = v s) ∧ Vec (2 ^ n) d idle := hf
    have i0 : img p 0 n = 0 := bits_eq (by omega) (im 0) hp0 fun j hj => by
      obtain ⟨q, hq, rfl⟩ := pi_sur hp hj
      rw [(img_has n5 hp 0 n (Nat.le_refl _)).2 q hq, has_zero, has_zero]; rfl
    have hW : Game n w (nth w) := ⟨n1, by omega, Vec.self w1, fun t ht => by
      rw [← ibr t ht, w2 _ ((img_has n5 hr t n (Nat.le_refl _)).1)]
      have := hv _ ((img_has n5 hr t n (Nat.le_refl _)).1); omega, by rw [← i0, w2 0 hp0]; exact hG.zero⟩
    have hD : Game n d idle := ⟨n1, by omega, hd, fun s hs => by
      have hbk : (if has s k then s - 2 ^ k else s) < 2 ^ n := Nat.lt_of_le_of_lt (by split; exact Nat.sub_le _ _; exact Nat.le_refl _) hs
      have vb := hv _ hbk
      show -1000000 ≤ v (if has s k = true then s - 2 ^ k else s) + c * (if has s k = true then 1 else 0) ∧ v (if has s k = true then s - 2 ^ k else s) + c * (if has s k = true then 1 else 0) ≤ 1000000
      generalize v (if has s k = true then s - 2 ^ k else s) = y at vb ⊢
      by_cases hb : has s k = true
      · rw [if_pos hb]; omega
      · rw [if_neg hb]; omega, by
      show v (if has 0 k = true then 0 - 2 ^ k else 0) + c * (if has 0 k = true then 1 else 0) = 0
      rw [has_zero]; simp [hG.zero]⟩
    obtain ⟨a, ea, hA⟩ := worth_share hG
    obtain ⟨b, eb, hB⟩ := worth_share hW
    obtain ⟨e, ee, hE⟩ := worth_share hD
    have g3 : pk_good_m [0, 0, 0] = some true := by rw [good_at]; rfl
    apply Ok.eq
    unfold pk_WorthAlike_m
    rw [worths_t, Option.bind_some, if_neg (by decide), within_at x0 5 (by decide) (by decide), Option.bind_some, hn, eg, Option.bind_some, ep, Option.bind_some, within_at x3 n (by omega) (by omega), Option.bind_some, ek, within_at x4 41 (by decide) (by decide), Option.bind_some, chk_t (by omega), Option.bind_some, Option.bind_some, ef, ok_bindR, ok_some, flok_nx]
    simp only
    rw [ea, Option.bind_some, eb, Option.bind_some, ee, Option.bind_some]
    simp only [g3, Option.bind_some, hA.len, hB.len, hE.len, bne_self_eq_false, Bool.not_true, Bool.false_eq_true, if_false]
    rw [ok_bindR, ok_some, flok_nx, if_neg (by decide), chk_t (by omega), Option.bind_some, ok_bindR, Int.toNat_natCast]
    have fb : ∀ i : Nat, i < 6 → 1 ≤ fct i ∧ fct i ≤ 120 := by decide
    refine ok_rangeN (s := (1 : Int)) (fun (i : Nat) (x : Int) => x = fct i) rfl (fun i x hi hx => ?_) fun x hx => ?_
    · have e1 : nth p i = (pi_ p i : Int) := by have := hp.val hi; unfold pi_; omega
      have f1 := fb (i + 1) (by omega)
      have f2 : fct (i + 1) = ((i : Int) + 1) * fct i := rfl
      unfold pk_WorthAlike_b3
      rw [idx_nat, nth_at (by rw [hp.len]; exact hi), Option.bind_some, e1, idx_nat, hB.at? (pi_lt hp hi), Option.bind_some, idx_nat, hA.at? hi, Option.bind_some, share_img n5 hp w2 hi, bne_self_eq_false, if_neg (by decide), ok_some, flok_nx, hx, wadd_of (by omega) (by omega)]
      have f3 : fct i * ((i : Int) + 1) = fct (i + 1) := by rw [f2, Int.mul_comm]
      rw [wmul_of (by omega) (by omega), f3]
    · have f1 := fb n (by omega)
      rw [idx_nat, hE.at? hk, Option.bind_some, ok_some, hx, wsub_of (by omega) (by omega), hc]
      rw [share_idle n5 hk (v := idle) (c := c) fun s hs hb => ?_]
      · have : fct n * c ≤ 120 * 20 ∧ -(120 * 20) ≤ fct n * c := by
          constructor
          · by_cases h0 : 0 ≤ c
            · exact Int.mul_le_mul f1.2 (by omega) h0 (by omega)
            · have := Int.mul_nonneg (show 0 ≤ fct n by omega) (show 0 ≤ -c by omega)
              rw [Int.mul_neg] at this; omega
          · have := Int.mul_le_mul f1.2 (show -c ≤ 20 by omega)
            by_cases h0 : 0 ≤ -c
            · have := this h0 (by omega)
              rw [Int.mul_neg] at this; omega
            · have := Int.mul_nonneg (show 0 ≤ fct n by omega) (show 0 ≤ c by omega)
              omega
        rw [wmul_of (by omega) (by omega)]; simp
      · obtain ⟨q1, q2⟩ := with_less s (by omega) k (by omega) hb
        show v (if has (s + 2 ^ k) k = true then s + 2 ^ k - 2 ^ k else s + 2 ^ k) + c * (if has (s + 2 ^ k) k = true then 1 else 0) - (v (if has s k = true then s - 2 ^ k else s) + c * (if has s k = true then 1 else 0)) = c
        rw [q2, hb, q1]; simp; omega
end Go.Pu
