/- The plain law: in the end nothing more fits that can be taken. -/
import Derived.Test.YtflbneojjnpegaaWPickAllModels
import Derived.Test.YtflbneojjnpegaaPuPick
set_option linter.all false
namespace Go.Pu
open Go.Fw Go.Mo
theorem PickAll (x0 : List Deal) (h0 : (∀ d ∈ x0, WfD d) ∧ x0.length ≤ maxLen) (x1 : List Acct) (h1 : (∀ a ∈ x1, WfA a) ∧ x1.length ≤ maxLen) (x2 : List UInt8) {P : Prop} (_ : P) (x3 : Int) (_ : (Lit.int .i64 x3).wf = true) : pk_PickAll_m x0 x1 x2 x3 = some true := by
  have hs : ∀ d ∈ x0, ShortD d := fun d hd => (h0.1 d hd).short
  have ha : ShortA x1 := fun a ha => (h1.1 a ha).1
  apply Ok.eq
  unfold pk_PickAll_m
  rw [picks_t, Option.bind_some, if_neg (by decide), ok_bind]
  refine (build_ok hs ha).mono fun p hp => ?_
  rcases hp with ⟨e1, e2, e3⟩ | ⟨e1, hA, r0, r1, lft, hB, hN⟩
  · rw [if_pos (by rw [bne_iff_ne]; exact e1), ok_some, e2, e3]; rfl
  · rw [if_neg (by rw [bne_iff_ne]; exact fun h => h e1), ok_bindR]
    have hll : p.1.length ≤ 1000 := by have := hB.len; have := hB.lo; omega
    have hQ : Queue x0 := by
      generalize hp2 : ((0 : Int), (4 : Int)) = p2 at hN
      cases hN with
      | no e he1 he2 => cases hp2; exact absurd rfl he2
      | none a _ _ _ _ => exact a
      | some => cases hp2
    have szs : ∀ i, i < x0.length → 1 ≤ size x0 i ∧ size x0 i ≤ 100 := fun i hi => (rt_facts (hs _ (nth_mem hi)) (hQ.right _ (nth_mem hi))).2.2.2.1
    refine ok_rangeN (fun j (n : Int) => n = x3 - sumN j (fun y => size x0 (nth p.1 y).toNat) ∧ 0 ≤ sumN j (fun y => size x0 (nth p.1 y).toNat) ∧ sumN j (fun y => size x0 (nth p.1 y).toNat) ≤ 100 * j) ⟨by simp [sumN], by simp [sumN], by simp [sumN]⟩ (fun j n hj hI => ?_) fun n hn => ?_
    · obtain ⟨i1, i2, i3⟩ := hI
      have hx := hB.idx j hj
      have hxl : (nth p.1 j).toNat < x0.length := by omega
      have sz := szs _ hxl
      have e : (nth x0 (nth p.1 j).toNat).2.2.2.2.2 = size x0 (nth p.1 j).toNat := rfl
      unfold pk_PickAll_b1
      rw [idx_nat, nth_at hj, Option.bind_some, if_neg (by rw [decide_eq_true_eq]; omega), ok_bindF, ok_some, flok_nx, if_neg (by rw [decide_eq_true_eq]; omega), idx_at hx.1, nth_at hxl, Option.bind_some, ok_some, flok_nx, e, wsub_of (by omega) (by omega)]
      simp only [sumN]
      omega
    · have hleft := hB.lft
      have en : n = lft := by rw [hn.1, hleft]; rfl
      subst en
      have hoS := hB.short
      rw [ok_bind]
      refine (next_ok (t := x2) (room := n) hs hoS).mono fun p' hp' => ?_
      have hno : ∀ i, i < x0.length → ¬ good x0 p.2.1 x2 n i := by
        generalize hp2 : ((0 : Int), (4 : Int)) = p2 at hN
        cases hN with
        | no e he1 he2 => cases hp2; exact absurd rfl he2
        | none _ _ _ _ f => exact f
        | some => cases hp2
      have hp4 : p'.2 = 4 := by
        have hAo := hB.accts
        have l0 := hB.lo
        have l1 : n ≤ 1000 := by have := hB.len; omega
        cases hp' with
        | no e he1 he2 h => exact absurd ⟨hQ, hAo, l0, l1⟩ h
        | none => rfl
        | some k _ _ _ _ hk hg => exact absurd hg (hno k hk)
      rw [ok_bindR]
      refine ok_rangeL (fun _ _ => True) trivial (fun i d _ hi _ => ?_) fun _ _ => by rw [ok_some, beq_iff_eq]; exact hp4
      obtain ⟨hd, hil⟩ := nth_of hi
      have htd := tk_ok (t := x2) hoS (hs d (List.mem_of_getElem? hi))
      unfold pk_PickAll_b2
      rw [htd.1, Option.bind_some, ok_bindF]
      by_cases ht : (tk p.2.1 d x2).2 = 0
      · have hf : ¬ d.2.2.2.2.2 ≤ n := fun hf => hno i hil ⟨by rw [hd]; exact hf, by rw [hd]; exact ht⟩
        rw [if_pos (by rw [beq_iff_eq]; exact ht), ok_some, flok_nx, if_neg (by rw [decide_eq_true_eq]; exact hf), ok_some, flok_nx]; trivial
      · rw [if_neg (by rw [beq_iff_eq]; exact ht), ok_some, flok_nx, if_neg (by decide), ok_some, flok_nx]; trivial
end Go.Pu
