/- The plain law: what was taken, done again in that order, comes to the same accounts; it fits; and no money is lost. -/
import Derived.Test.YtflbneojjnpegaaWPickReplayModels
import Derived.Test.YtflbneojjnpegaaPuPick
set_option linter.all false
namespace Go.Pu
open Go.Fw Go.Mo
theorem replay_ok {x0 : List Deal} {l : List Acct} {t : List UInt8} {room lft : Int} {ks : List Int} {out : List Acct} (hs : ∀ d ∈ x0, ShortD d) (ha : ShortA l) (hA : Accts l) (hll : ks.length ≤ 1000) (hB : Built x0 l t room ks lft out) {ds : List Deal} (hd : ds = ks.map fun k => nth x0 k.toNat) :
    pick_Replay_m ds l t = some (out, (ds.length : Int), 0) := by
  obtain ⟨e, he, hq⟩ := checkA_ok ha
  have h0 := hq.2 hA
  subst h0
  have h6 := hA.len
  apply Ok.eq
  unfold pick_Replay_m
  rw [he, Option.bind_some, if_neg (by decide), chk_t (by simp only [List.length_nil]; omega), Option.bind_some, List.nil_append, ok_bindR]
  have hdl : ds.length = ks.length := by rw [hd, List.length_map]
  refine ok_rangeL (fun j (m : List Acct) => m = runL x0 t l (ks.take j)) rfl (fun j d m hj hI => ?_) fun m hm => ?_
  · obtain ⟨hdj, hjl⟩ := nth_of hj
    have hjk : j < ks.length := by omega
    have hx := hB.idx j hjk
    have ed : d = nth x0 (nth ks j).toNat := by rw [← hdj, hd, nth_map hjk]
    obtain ⟨hsh, hok⟩ := hB.each j hjk
    subst hI
    have htk := tk_ok (t := t) hsh (hs _ (nth_mem (show (nth ks j).toNat < x0.length by omega)))
    unfold pick_Replay_b1
    rw [ed, htk.1, Option.bind_some, if_neg (by rw [bne_iff_ne]; exact fun h => h hok), ok_some, flok_nx, List.take_succ, nth_at hjk]
    unfold runL
    rw [List.foldl_append]; rfl
  · rw [ok_some, hm, hdl, List.take_length, ← hB.run]
theorem PickReplay (x0 : List Deal) (h0 : (∀ d ∈ x0, WfD d) ∧ x0.length ≤ maxLen) (x1 : List Acct) (h1 : (∀ a ∈ x1, WfA a) ∧ x1.length ≤ maxLen) (x2 : List UInt8) {P : Prop} (_ : P) (x3 : Int) (_ : (Lit.int .i64 x3).wf = true) : pk_PickReplay_m x0 x1 x2 x3 = some true := by
  have hs : ∀ d ∈ x0, ShortD d := fun d hd => (h0.1 d hd).short
  have ha : ShortA x1 := fun a ha => (h1.1 a ha).1
  apply Ok.eq
  unfold pk_PickReplay_m
  rw [picks_t, Option.bind_some, if_neg (by decide), ok_bind]
  refine (build_ok hs ha).mono fun p hp => ?_
  rcases hp with ⟨e1, e2, e3⟩ | ⟨e1, hA, r0, r1, lft, hB, hN⟩
  · rw [if_pos (by rw [bne_iff_ne]; exact e1), ok_some, e2, e3]; rfl
  · rw [if_neg (by rw [bne_iff_ne]; exact fun h => h e1), ok_bindR]
    have hll : p.1.length ≤ 1000 := by have := hB.len; have := hB.lo; omega
    have hQ : Queue x0 := by
      generalize hp2 : ((0 : Int), (4 : Int)) = p2 at hN
      cases hN with
      | no e he1 he2 => cases hp2; exact absurd rfl he2
      | none a _ _ _ _ => exact a
      | some => cases hp2
    have szs : ∀ i, i < x0.length → 1 ≤ size x0 i ∧ size x0 i ≤ 100 := fun i hi => (rt_facts (hs _ (nth_mem hi)) (hQ.right _ (nth_mem hi))).2.2.2.1
    refine ok_rangeL (fun j (s : List Deal × Int) => s.1 = (p.1.take j).map (fun k => nth x0 k.toNat) ∧ s.2 = sumN j (fun y => size x0 (nth p.1 y).toNat) ∧ 0 ≤ s.2 ∧ s.2 ≤ 100 * j) ⟨rfl, rfl, by decide, by decide⟩ (fun j k s hj hI => ?_) fun s hs' => ?_
    · obtain ⟨hk, hjl⟩ := nth_of hj
      obtain ⟨ds, n⟩ := s
      obtain ⟨i1, i2, i3, i4⟩ := hI
      dsimp only at i1 i2 i3 i4
      have hx := hB.idx j hjl
      rw [hk] at hx
      have hxl : k.toNat < x0.length := by omega
      have sz := szs _ hxl
      have e : (nth x0 k.toNat).2.2.2.2.2 = size x0 k.toNat := rfl
      have hdl : ds.length ≤ 1000 := by rw [i1, List.length_map, List.length_take]; omega
      have hnc : ¬ k ∈ p.1.take j := fun h => by
        obtain ⟨i, hi, ei⟩ := mem_nth h
        rw [List.length_take] at hi
        rw [nth_take (by omega)] at ei
        exact hB.nodup i j (by omega) hjl (by rw [ei, hk])
      unfold pk_PickReplay_b1
      dsimp only
      rw [ok_bindF, if_neg (by rw [decide_eq_true_eq]; omega), if_neg (by rw [decide_eq_true_eq]; omega), chk_t (by omega), Option.bind_some, Int.toNat_natCast, List.drop_zero, contains_ok, Option.bind_some, ok_some, flok_nx, if_neg (by rw [decide_eq_true_eq]; exact hnc), idx_at hx.1, nth_at hxl, Option.bind_some, chk_t (by simp only [List.length_cons, List.length_nil]; omega), Option.bind_some, Option.bind_some, ok_some, flok_nx, e, wadd_of (by omega) (by omega)]
      refine ⟨?_, ?_, by dsimp only; omega, by dsimp only; omega⟩
      · dsimp only
        rw [i1, List.take_succ, hj, List.map_append]; rfl
      · dsimp only
        simp only [sumN]; rw [i2, hk]
    · obtain ⟨ds, n⟩ := s
      obtain ⟨i1, i2, i3, i4⟩ := hs'
      rw [List.take_length] at i1
      dsimp only at i1 i2 ⊢
      have hr := replay_ok hs ha hA hll hB i1
      have hleft := hB.lft; have hlo := hB.lo
      have en : sizes x0 p.1 = n := i2.symm
      rw [hr, Option.bind_some]
      dsimp only
      rw [ok_bindR, if_pos (by decide), if_pos (by rw [beq_iff_eq]), equal_acct, Option.bind_some, if_pos (by simp), if_pos (by rw [decide_eq_true_eq]; omega), money_at hB.accts, Option.bind_some, money_at hA, Option.bind_some, ok_some, flok_nx, ok_some, beq_iff_eq]
      exact hB.money
end Go.Pu
