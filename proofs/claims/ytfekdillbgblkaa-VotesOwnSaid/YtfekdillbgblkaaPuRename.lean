/- Other names, and all votes twice: what becomes of what the rules count. -/
import Derived.Test.YtfekdillbgblkaaWVotesOwnModels
import Derived.Test.YtfekdillbgblkaaPuArgmax
import Derived.Test.YtfekdillbgblkaaPuAllOrd
set_option linter.all false
namespace Go.Pu
open Go.Fw Go.Mo
def nm (p : List Int) (y : Int) : Int := nth p y.toNat
def pi_ (p : List Int) (x : Nat) : Nat := (nth p x).toNat
def ren (p : List Int) (v : List (List Int)) : List (List Int) := v.map fun r => r.map (nm p)
theorem nm_pi {n : Nat} {p : List Int} (hp : Ord n p) {x : Nat} (hx : x < n) : nm p (x : Int) = (pi_ p x : Int) := by
  have := hp.val hx
  unfold nm pi_; rw [Int.toNat_natCast]; omega
theorem pi_lt {n : Nat} {p : List Int} (hp : Ord n p) {x : Nat} (hx : x < n) : pi_ p x < n := by
  have := hp.val hx
  unfold pi_; omega
theorem pi_inj {n : Nat} {p : List Int} (hp : Ord n p) {x y : Nat} (hx : x < n) (hy : y < n) (e : pi_ p x = pi_ p y) : x = y := by
  have h1 := hp.idx hx
  have h2 := hp.idx hy
  have a := hp.val hx
  have b := hp.val hy
  unfold pi_ at e
  have : nth p x = nth p y := by omega
  rw [this, h2] at h1
  exact h1.symm
theorem pi_sur {n : Nat} {p : List Int} (hp : Ord n p) {y : Nat} (hy : y < n) : ∃ x, x < n ∧ pi_ p x = y := ⟨p.idxOf (y : Int), hp.idx_lt hy, by unfold pi_; rw [hp.at_idx hy]; rfl⟩
theorem ren_ord {n : Nat} {p r : List Int} (hp : Ord n p) (hr : Ord n r) : Ord n (r.map (nm p)) := by
  have hv : ∀ a ∈ r, ∃ x : Nat, a = x ∧ x < n := fun a ha => by
    have := (hr.mem a).1 ha
    exact ⟨a.toNat, by omega, by omega⟩
  refine rows_ord ⟨by rw [List.length_map]; exact hr.len, ?_, fun x hx => ?_⟩
  · unfold List.Nodup
    rw [List.pairwise_map]
    refine List.Pairwise.imp_of_mem (fun {a b} ha hb hab => ?_) hr.nd
    obtain ⟨x, rfl, hx⟩ := hv a ha
    obtain ⟨y, rfl, hy⟩ := hv b hb
    rw [nm_pi hp hx, nm_pi hp hy]
    intro e
    exact hab (by rw [pi_inj hp hx hy (Int.ofNat.inj e)])
  · obtain ⟨a, ha, rfl⟩ := List.mem_map.1 hx
    obtain ⟨y, rfl, hy⟩ := hv a ha
    rw [nm_pi hp hy]
    have := pi_lt hp hy; omega
theorem ren_idx {n : Nat} {p r : List Int} (hp : Ord n p) (hr : Ord n r) {x : Nat} (hx : x < n) : (r.map (nm p)).idxOf (pi_ p x : Int) = r.idxOf (x : Int) := by
  have h := (ren_ord hp hr).idx (hr.idx_lt hx)
  rw [nth_map (by rw [hr.len]; exact hr.idx_lt hx), hr.at_idx hx, nm_pi hp hx] at h
  exact h
theorem ren_votes {n : Nat} {p : List Int} (hp : Ord n p) {v : List (List Int)} (hv : Votes n v) : Votes n (ren p v) := ⟨by unfold ren; rw [List.length_map]; exact hv.1, fun q hq => by
  obtain ⟨r, hr, rfl⟩ := List.mem_map.1 hq
  exact ren_ord hp (hv.2 r hr)⟩
theorem ren_sums {n : Nat} {p : List Int} (hp : Ord n p) : ∀ v : List (List Int), (∀ r ∈ v, Ord n r) → (∀ x, x < n → fst1 (ren p v) (pi_ p x) = fst1 v x ∧ pts n (ren p v) (pi_ p x) = pts n v x) ∧ ∀ x y, x < n → y < n → duel (ren p v) (pi_ p x) (pi_ p y) = duel v x y
  | [], _ => ⟨fun x _ => ⟨rfl, rfl⟩, fun x y _ _ => rfl⟩
  | r :: v, h => by
    obtain ⟨h1, h2⟩ := ren_sums hp v fun q hq => h q (by simp [hq])
    have hr := h r (by simp)
    refine ⟨fun x hx => ⟨?_, ?_⟩, fun x y hx hy => ?_⟩
    · show fst1 (ren p v) (pi_ p x) + (if (r.map (nm p)).idxOf (pi_ p x : Int) = 0 then 1 else 0) = fst1 v x + _
      rw [(h1 x hx).1, ren_idx hp hr hx]
    · show pts n (ren p v) (pi_ p x) + ((n : Int) - 1 - (r.map (nm p)).idxOf (pi_ p x : Int)) = pts n v x + _
      rw [(h1 x hx).2, ren_idx hp hr hx]
    · show duel (ren p v) (pi_ p x) (pi_ p y) + (if bf (r.map (nm p)) (pi_ p x) (pi_ p y) then 1 else 0) = duel v x y + _
      have : bf (r.map (nm p)) (pi_ p x) (pi_ p y) = bf r x y := by unfold bf; rw [ren_idx hp hr hx, ren_idx hp hr hy]
      rw [h2 x y hx hy, this]
/-- what a rule counts -/
def Val (k : Int) (n : Nat) (v : List (List Int)) (g : Nat → Int) : Prop :=
  (k = 1 ∧ g = fst1 v) ∨ (k = 2 ∧ g = pts n v) ∨ (k = 3 ∧ g = cope n (duel v)) ∨ (k = 4 ∧ ∀ x, x < n → IsWorst n (duel v) x (- g x))
theorem val_ren {k : Int} {n : Nat} {p : List Int} (hp : Ord n p) {v : List (List Int)} (hv : Votes n v) {g h : Nat → Int} (hg : Val k n v g) (hh : Val k n (ren p v) h) : ∀ x, x < n → h (pi_ p x) = g x := by
  obtain ⟨s1, s2⟩ := ren_sums hp v hv.2
  intro x hx
  rcases hg with ⟨e, hg⟩ | ⟨e, hg⟩ | ⟨e, hg⟩ | ⟨e, hg⟩ <;> subst e <;> rcases hh with ⟨e, hh⟩ | ⟨e, hh⟩ | ⟨e, hh⟩ | ⟨e, hh⟩ <;> first | omega | skip
  · rw [hg, hh]; exact (s1 x hx).1
  · rw [hg, hh]; exact (s1 x hx).2
  · rw [hg, hh]
    unfold cope
    rw [← ord_sum hp]
    exact sumN_congr fun i hi => by
      show sgn (duel (ren p v) (pi_ p x) (pi_ p i)) (duel (ren p v) (pi_ p i) (pi_ p x)) = _
      rw [s2 x i hx hi, s2 i x hi hx]
  · have w1 := hg x hx
    have w2 := hh (pi_ p x) (pi_lt hp hx)
    have up : ∀ y, y < n → duel v y x - duel v x y ≤ - h (pi_ p x) := fun y hy => by
      have := w2.2.2.1 (pi_ p y) (pi_lt hp hy)
      rwa [s2 y x hy hx, s2 x y hx hy] at this
    have dn : ∀ y, y < n → duel v y x - duel v x y ≤ - g x := fun y hy => w1.2.2.1 y hy
    have a := w1.1
    have b := w2.1
    rcases w1.2.2.2 with e1 | ⟨y, hy, e1⟩ <;> rcases w2.2.2.2 with e2 | ⟨z, hz, e2⟩
    · omega
    · obtain ⟨q, hq, rfl⟩ := pi_sur hp hz
      rw [s2 q x hq hx, s2 x q hx hq] at e2
      have := dn q hq; omega
    · have := up y hy; omega
    · obtain ⟨q, hq, rfl⟩ := pi_sur hp hz
      rw [s2 q x hq hx, s2 x q hx hq] at e2
      have := dn q hq; have := up y hy; omega
theorem val_two {k : Int} {n : Nat} {v : List (List Int)} {g h : Nat → Int} (hg : Val k n v g) (hh : Val k n (v ++ v) h) : ∀ x y, x < n → y < n → (g x ≤ g y ↔ h x ≤ h y) := by
  intro x y hx hy
  rcases hg with ⟨e, hg⟩ | ⟨e, hg⟩ | ⟨e, hg⟩ | ⟨e, hg⟩ <;> subst e <;> rcases hh with ⟨e, hh⟩ | ⟨e, hh⟩ | ⟨e, hh⟩ | ⟨e, hh⟩ <;> first | omega | skip
  · rw [hg, hh, fst1_append, fst1_append]; omega
  · rw [hg, hh, pts_append, pts_append]; omega
  · have : cope n (duel (v ++ v)) = cope n (duel v) := by
      funext z
      unfold cope
      exact sumN_congr fun i _ => by
        rw [duel_append, duel_append]
        unfold sgn
        by_cases c1 : duel v i z < duel v z i
        · rw [if_pos c1, if_pos (by omega)]
        · rw [if_neg c1, if_neg (by omega)]
          by_cases c2 : duel v z i < duel v i z
          · rw [if_pos c2, if_pos (by omega)]
          · rw [if_neg c2, if_neg (by omega)]
    rw [hg, hh, this]
  · have key : ∀ z, z < n → h z = 2 * g z := fun z hz => by
      have w1 := hg z hz
      have w2 := hh z hz
      have a := w1.1
      have b := w2.1
      have d : ∀ i, duel (v ++ v) i z - duel (v ++ v) z i = 2 * (duel v i z - duel v z i) := fun i => by rw [duel_append, duel_append]; omega
      rcases w1.2.2.2 with e1 | ⟨i, hi, e1⟩ <;> rcases w2.2.2.2 with e2 | ⟨j, hj, e2⟩
      · omega
      · rw [d j] at e2
        have := w1.2.2.1 j hj; omega
      · have := w2.2.2.1 i hi
        rw [d i] at this; omega
      · rw [d j] at e2
        have := w1.2.2.1 j hj
        have := w2.2.2.1 i hi
        rw [d i] at this; omega
    rw [key x hx, key y hy]; omega
theorem winners_am {n : Nat} (h1 : 1 ≤ n) (h6 : n ≤ 6) {v : List (List Int)} (hv : Votes n v) {k : Int} (hk : k = 1 ∨ k = 2 ∨ k = 3 ∨ k = 4) : ∃ g, Val k n v g ∧ rules_Winners_m k (n : Int) v = some ((am g n).map fun (i : Nat) => (i : Int), 0) := by
  obtain ⟨m, em, hM⟩ := duels_ok h1 h6 hv
  have t := tabV h1 h6 hv hM
  have g : (if decide (k < (1 : Int)) then some (Fl.nx true) else some (Fl.nx (decide (k > (5 : Int))))) = (some (Fl.nx false) : Option (Fl (List Int × Int) Unit Bool)) := by
    rw [if_neg (by simp; omega)]; simp; omega
  unfold rules_Winners_m
  rw [g, bindR, if_neg (by decide), em, Option.bind_some, if_neg (by simp)]
  rcases hk with e | e | e | e <;> subst e
  · obtain ⟨a, ea, ha⟩ := firsts_ok h1 h6 hv
    rw [if_pos (by decide), ea, Option.bind_some, best_am (by omega) ha]
    exact ⟨_, .inl ⟨rfl, rfl⟩, rfl⟩
  · obtain ⟨a, ea, ha⟩ := points_ok h1 h6 hv
    rw [if_neg (by decide), if_pos (by decide), ea, Option.bind_some, best_am (by omega) ha]
    exact ⟨_, .inr (.inl ⟨rfl, rfl⟩), rfl⟩
  · obtain ⟨w, ew, hw⟩ := wins_ok t
    rw [if_neg (by decide), if_neg (by decide), if_pos (by decide), ew, Option.bind_some, best_am (by omega) hw]
    exact ⟨_, .inr (.inr (.inl ⟨rfl, rfl⟩)), rfl⟩
  · obtain ⟨w, ew, hwl, hw⟩ := worst_ok t
    have lo : Ok (rangeN (ρ := List Int × Int) (γ := Unit) rules_Winners_b1 w.length 0 w) (FlOk (fun l => Vec n l (fun x => - nth w x)) (fun _ => False) (fun _ => False)) := by
      rw [hwl]
      refine ok_rangeN (fun k (l : List Int) => Vec n l (fun x => if x < k then - nth w x else nth w x)) ((Vec.self hwl).congr fun x _ => by simp) (fun k l hk hI => ?_) fun l hl => hl.congr fun x hx => by rw [if_pos hx]
      have hb := hw k hk
      unfold rules_Winners_b1
      rw [idx_nat, hI.at? hk, Option.bind_some, Option.bind_some, if_neg (by omega), ok_some, flok_nx, wsub_of (by have := hb.1; have := hb.2.1; omega) (by have := hb.1; have := hb.2.1; omega)]
      refine (hI.set hk _).congr fun x hx => ?_
      by_cases e : x = k
      · subst e; rw [if_pos rfl, if_pos (by omega)]; omega
      · rw [if_neg e]
        by_cases c : x < k
        · rw [if_pos c, if_pos (by omega)]
        · rw [if_neg c, if_neg (by omega)]
    obtain ⟨r, er, hr⟩ := lo
    cases r with
    | br _ => exact hr.elim
    | rt _ => exact hr.elim
    | nx l =>
      have hr' : Vec n l (fun x => - nth w x) := hr
      rw [if_neg (by decide), if_neg (by decide), if_neg (by decide), if_pos (by decide), ew, Option.bind_some]
      simp only
      rw [er, bindR, best_am (by omega) hr']
      exact ⟨_, .inr (.inr (.inr ⟨rfl, fun x hx => by rw [Int.neg_neg]; exact hw x hx⟩)), rfl⟩
end Go.Pu
