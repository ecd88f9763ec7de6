/- The plain law: accounts and offers are nobody else's. -/
import Derived.Test.YtmnhkcdgchfmdaaGreatDoorWHouseOwnModels
import Derived.Test.YtmnhkcdgchfmdaaGreatDoorPuHFin
set_option linter.all false
namespace Go.Pu
open Go.Fw Go.Mo
theorem replay_any {x0 : List Deal} {l : List Acct} {t : Bs} (hs : ∀ d ∈ x0, ShortD d) (ha : ShortA l) : ∃ v, pick_Replay_m x0 l t = some v := by
  have : Ok (pick_Replay_m x0 l t) (fun _ => True) := by
    obtain ⟨e, he, hq⟩ := checkA_ok ha
    unfold pick_Replay_m
    rw [he, Option.bind_some]
    by_cases h0 : e = 0
    · have := (hq.1 h0).len
      rw [if_neg (by rw [bne_iff_ne]; exact fun h => h h0), chk_t (by simp only [List.length_nil]; omega), Option.bind_some, List.nil_append, ok_bindR]
      refine ok_rangeL (fun _ (m : List Acct) => ShortA m) ha (fun k d m hk hm => ?_) fun m hm => ?_
      · have hd := hs d (List.mem_of_getElem? hk)
        obtain ⟨p, e1, hp⟩ := take_ok (t := t) hm hd
        unfold pick_Replay_b1
        rw [e1, Option.bind_some]
        cases hp with
        | no e he => rw [if_pos (by rw [bne_iff_ne]; exact he), ok_some, flok_rt]; trivial
        | yes i j k m2 _ _ _ _ _ _ _ _ _ _ hmv _ => rw [if_neg (by simp), ok_some, flok_nx]; exact hmv.short hm
      · rw [ok_some]; trivial
    · rw [if_pos (by rw [bne_iff_ne]; exact h0), ok_some]; trivial
  obtain ⟨v, e, _⟩ := this
  exact ⟨v, e⟩
theorem HouseOwn (x0 : List Acct) (h0 : (∀ a ∈ x0, WfA a) ∧ x0.length ≤ maxLen) (b0 : x0.length ≤ 1048576) (x1 : Deal) (h1 : WfD x1) (x2 : List Deal) (h2 : (∀ d ∈ x2, WfD d) ∧ x2.length ≤ maxLen) (b2 : x2.length ≤ 1048576) (x3 : List Dd) (h3 : (∀ d ∈ x3, WfDd d) ∧ x3.length ≤ maxLen) (b3 : x3.length ≤ 1048576) : pk_HouseOwn_m x0 x1 x2 x3 = some true :=
  have hs : ShortA x0 := fun a ha => (h0.1 a ha).1
  have hd : ∀ d ∈ x2, ShortD d := fun d hd => (h2.1 d hd).short
  HouseOwn_ x0 hs (by omega) x1 h1.short x2 hd (by omega) x3 (fun d hd => (h3.1 d hd).short) (replay_any hd hs) ledgers_t
end Go.Pu
