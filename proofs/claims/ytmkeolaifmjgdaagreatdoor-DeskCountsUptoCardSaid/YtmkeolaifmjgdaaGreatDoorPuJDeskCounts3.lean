/- The plain law: what the house does to what is asked. -/
import Derived.Test.YtmkeolaifmjgdaaGreatDoorWDeskCountsModels
import Derived.Test.YtmkeolaifmjgdaaGreatDoorPuJDeskCounts2
set_option linter.all false
namespace Go.Pu
open Go.Fw Go.Mo
abbrev Dd := Int × Int × List UInt8 × Deal
structure Inv (h : Hs) (ps : List Op) (s : Nat) : Prop where
  run : Runs [] ps h.1
  disk : h.2.2.1 = cat (ps.map recO)
  safe : h.2.2.2 = ((cat ((ps.map recO).take s)).length : Int)
  sle : s ≤ ps.length
  len : (cat (ps.map recO)).length ≤ 4000
  queue : Queue h.2.1
  short : ∀ d ∈ h.2.1, ShortD d
inductive Did (h : Hs) (ps : List Op) (s : Nat) (d : Dd) : (Int × Int) × Int × Hs → Prop
  | no (e : Int) : e ≠ 0 → Did h ps s d ((0, 0), e, h)
  | opened (h' : Hs) : d.1 = 1 → Inv h' (ps ++ [.o d.2.2.1 d.2.1]) s → Did h ps s d ((0, 0), 0, h')
  | kept (t : Int × Int) (h' : Hs) (qs : List Op) (s' : Nat) : d.1 ≠ 1 → d.1 ≠ 5 → s ≤ s' → (∀ q ∈ qs, ∃ x t, q = .d x t) → Inv h' (ps ++ qs) s' → (d.1 = 4 → s' = ps.length ∧ qs = []) → Did h ps s d (t, 0, h')
  | crashed (h' : Hs) (w : Nat) : d.1 = 5 → s ≤ w → w ≤ ps.length → Inv h' (ps.take w) w → h'.2.1 = [] → Did h ps s d ((0, 0), 0, h')
theorem inv_new : ∃ h, house_New_m = some h ∧ Inv h [] 0 := ⟨([], [], [], 0), rfl, ⟨.nil _, rfl, rfl, Nat.le_refl _, by simp [cat], ⟨by simp, fun d h => by simp at h, fun i j _ h => by simp at h⟩, fun d h => by simp at h⟩⟩
theorem right_recs {l : List Acct} {ps : List Op} {m : List Acct} (h : Runs l ps m) : ∀ r ∈ ps.map recO, r.length ≤ 64 := fun r hr => by
  obtain ⟨p, hp, rfl⟩ := List.mem_map.1 hr
  exact (rec_len (h.right p hp)).1
theorem cat_le : ∀ l : List Bs, (∀ r ∈ l, r.length ≤ 64) → (cat l).length ≤ 67 * l.length
  | [], _ => by simp [cat]
  | r :: l, h => by
    have := cat_le l fun x hx => h x (by simp [hx])
    have := h r (by simp)
    rw [cat, List.length_append, fr_len, List.length_cons]; omega
theorem take_map_append {ps qs : List Op} {s : Nat} (h : s ≤ ps.length) : ((ps ++ qs).map recO).take s = (ps.map recO).take s := by
  rw [List.map_append, List.take_append_of_le_length (by rw [List.length_map]; exact h)]
theorem open_did {h : Hs} {ps : List Op} {s : Nat} {d : Dd} (hI : Inv h ps s) (hsh : Short d.2.2.1) : ∃ e h', house_House_open_m h d = some (e, h') ∧ ((e ≠ 0 ∧ h' = h) ∨ (e = 0 ∧ Inv h' (ps ++ [.o d.2.2.1 d.2.1]) s)) := by
  obtain ⟨ac, of, dk, sf⟩ := h
  obtain ⟨hrun, hdk, hsf, hsl, hlen, hq, hso⟩ := hI
  dsimp only at hrun hdk hsf hq hso
  subst hdk
  have hsA := hrun.accts0.2
  obtain ⟨p, e1, hp⟩ := open_ok (n := d.2.1) hsA hsh
  unfold house_House_open_m
  dsimp only
  rw [e1, Option.bind_some]
  cases hp with
  | no e he => rw [if_pos (by rw [bne_iff_ne]; exact he)]; exact ⟨e, _, rfl, .inl ⟨he, rfl⟩⟩
  | yes m hA h0 h1 hm hA2 =>
    obtain ⟨_, _, _, _, _, hsm, hnm⟩ := opened_facts hsA hsh e1
    have hR : RightO (.o d.2.2.1 d.2.1) := ⟨hsh, hnm, h0, h1⟩
    have hrl := rec_len hR
    have hll := nm_facts hsh hnm
    have hil := itoa_len h0 h1
    rw [if_neg (by simp), chk_t (by simp only [List.length_cons, List.length_nil]; omega), Option.bind_some, chk_t (by simp only [List.length_append, List.length_cons, List.length_nil]; omega), Option.bind_some, itoa_m h0 h1, Option.bind_some, chk_t (by simp only [List.length_append, List.length_cons, List.length_nil]; omega), Option.bind_some]
    have er : (([111, 32] : List UInt8) ++ d.2.2.1) ++ [32] ++ Lib.itoa d.2.1 = recO (.o d.2.2.1 d.2.1) := by simp [recO, wordsO, joinW]
    rw [er, append_ok _ _ _ hlen, if_pos hrl.1]
    by_cases hf : (cat (ps.map recO)).length + ((recO (.o d.2.2.1 d.2.1)).length + 3) ≤ 4000
    · rw [if_pos hf, Option.bind_some, if_neg (by simp)]
      have ec : cat (ps.map recO ++ [recO (.o d.2.2.1 d.2.1)]) = cat ((ps ++ [Op.o d.2.2.1 d.2.1]).map recO) := by simp
      refine ⟨0, _, rfl, .inr ⟨rfl, ⟨hrun.append (.cons hR e1 (.nil _)), ec, ?_, ?_, ?_, hq, hso⟩⟩⟩
      · dsimp only; rw [take_map_append hsl, hsf]
      · rw [List.length_append]; omega
      · rw [← ec, cat_snoc, List.length_append, fr_len]; exact hf
    · rw [if_neg hf, Option.bind_some, if_pos (by simp)]
      exact ⟨8, _, rfl, .inl ⟨by decide, rfl⟩⟩
theorem deal_rec {x : Deal} {t : Bs} (hR : RightO (.d x t)) : house_deal_m x t = some (recO (.d x t)) := by
  obtain ⟨h1, h2, h3, h4⟩ := hR
  obtain ⟨r1, r2, r3, r4, r5, r6, _⟩ := rt_facts h1 h4
  have a1 := nm_facts h2 h3; have a2 := nm_facts h1.1 r5; have a3 := nm_facts h1.2 r6
  have b1 := itoa_len r1.1 r1.2; have b2 := itoa_len r2.1 r2.2; have b3 := itoa_len r3.1 r3.2; have b4 := itoa_len3 (by omega) r4.2
  have st : ∀ (i : Nat) (n : Int) (y : Bs), [x.2.2.1, x.2.2.2.1, x.2.2.2.2.1, x.2.2.2.2.2][i]? = some n → 0 ≤ n → n ≤ 1000000 → y.length ≤ 1000 → house_deal_b1 x i y = some (.nx (y ++ ([32] ++ Lib.itoa n))) := fun i n y hi h0 h1 hy => by
    have := itoa_len h0 h1
    unfold house_deal_b1
    rw [idx_nat, hi, Option.bind_some, itoa_m h0 h1, Option.bind_some, chk_t (by simp only [List.length_cons, List.length_nil]; omega), Option.bind_some, chk_t (by simp only [List.length_append, List.length_cons, List.length_nil]; omega), Option.bind_some]
  unfold house_deal_m
  rw [chk_t (by simp only [List.length_cons, List.length_nil]; omega), Option.bind_some, chk_t (by simp only [List.length_append, List.length_cons, List.length_nil]; omega), Option.bind_some, chk_t (by simp only [List.length_append, List.length_cons, List.length_nil]; omega), Option.bind_some]
  rw [show [x.2.2.1, x.2.2.2.1, x.2.2.2.2.1, x.2.2.2.2.2].length = 0 + 1 + 1 + 1 + 1 from rfl]
  simp only [rangeN]
  rw [st 0 x.2.2.1 _ rfl r1.1 r1.2 (by simp only [List.length_append, List.length_cons, List.length_nil]; omega)]
  dsimp only
  rw [st (0 + 1) x.2.2.2.1 _ rfl r2.1 r2.2 (by simp only [List.length_append, List.length_cons, List.length_nil]; omega)]
  dsimp only
  rw [st (0 + 1 + 1) x.2.2.2.2.1 _ rfl r3.1 r3.2 (by simp only [List.length_append, List.length_cons, List.length_nil]; omega)]
  dsimp only
  rw [st (0 + 1 + 1 + 1) x.2.2.2.2.2 _ rfl (by omega) (by omega) (by simp only [List.length_append, List.length_cons, List.length_nil]; omega)]
  rw [bindR]
  try dsimp only
  rw [chk_t (by simp only [List.length_append, List.length_cons, List.length_nil]; omega), Option.bind_some, chk_t (by simp only [List.length_append, List.length_cons, List.length_nil]; omega), Option.bind_some]
  simp [recO, wordsO, joinW]
theorem find_acct (h : Hs) (s : Bs) : house_House_find_m h s = some (if h.1.any (fun a => a.1 == s) then (h.1.findIdx (fun a => a.1 == s) : Int) else -1) := by
  unfold house_House_find_m
  rw [indexA h.1 (fun a0 => house_House_find_1_m a0 s) (fun a => a.1 == s) (fun a => rfl)]; rfl
theorem built_runs {x0 : List Deal} {l out : List Acct} {t : Bs} {room left : Int} {ks : List Int} (hq : ∀ d ∈ x0, ShortD d ∧ rt d = 0) (ht : Short t ∧ nm t = true) (hB : Built x0 l t room ks left out) : ∀ j, j ≤ ks.length → Runs l ((ks.take j).map fun k => Op.d (nth x0 k.toNat) t) (runL x0 t l (ks.take j))
  | 0, _ => .nil _
  | j + 1, hj => by
    have ih := built_runs hq ht hB j (by omega)
    have hjl : j < ks.length := by omega
    obtain ⟨i0, i1⟩ := hB.idx j hjl
    obtain ⟨e1, e2⟩ := hB.each j hjl
    have hm : nth x0 (nth ks j).toNat ∈ x0 := nth_mem (by omega)
    obtain ⟨hd, hr⟩ := hq _ hm
    have htk := (tk_ok (t := t) e1 hd).1
    rw [List.take_succ_eq_append_getElem hjl, ← nth_get hjl, List.map_append]
    have : runL x0 t l (ks.take j ++ [nth ks j]) = (tk (runL x0 t l (ks.take j)) (nth x0 (nth ks j).toNat) t).1 := by unfold runL; rw [List.foldl_append]; rfl
    rw [this]
    refine ih.append (.cons ⟨hd, ht.1, ht.2, hr⟩ ?_ (.nil _))
    show ledger_Take_m _ _ _ = _
    rw [htk, ← e2]
theorem build_did {h : Hs} {ps : List Op} {s : Nat} {d : Dd} (hI : Inv h ps s) (hsh : Short d.2.2.1) : ∃ t e h', house_House_build_m h d = some (t, e, h') ∧ ((e ≠ 0 ∧ h' = h ∧ t = (0, 0)) ∨ (e = 0 ∧ ∃ qs : List Op, (∀ q ∈ qs, ∃ x t, q = Op.d x t) ∧ Inv h' (ps ++ qs) s)) := by
  obtain ⟨ac, of, dk, sf⟩ := h
  obtain ⟨hrun, hdk, hsf, hsl, hlen, hq, hso⟩ := hI
  dsimp only at hrun hdk hsf hq hso
  subst hdk
  obtain ⟨hA, hsA⟩ := hrun.accts0
  unfold house_House_build_m
  dsimp only
  rw [find_acct, Option.bind_some]
  dsimp only
  by_cases hany : ac.any (fun a => a.1 == d.2.2.1) = true
  · rw [if_pos hany, if_neg (by rw [decide_eq_true_eq]; omega)]
    have hnm : nm d.2.2.1 = true := by
      obtain ⟨a, ha, e⟩ := List.any_eq_true.1 hany
      rw [beq_iff_eq] at e
      rw [← e]; exact hA.name a ha
    obtain ⟨p, e1, hp⟩ := build_ok (t := d.2.2.1) (room := d.2.1) hso hsA
    obtain ⟨ks, out, er⟩ := p
    rw [e1, Option.bind_some]
    dsimp only at hp ⊢
    rcases hp with ⟨he, _, _⟩ | ⟨he, _, hr0, hr1, left, hB, _⟩
    · rw [if_pos (by rw [bne_iff_ne]; exact he)]
      exact ⟨_, er, _, rfl, .inl ⟨he, rfl, rfl⟩⟩
    · subst he
      rw [if_neg (by decide), show log_Log_Size_m (cat (ps.map recO), sf) = some (((cat (ps.map recO)).length : Int), sf) from rfl, Option.bind_some]
      dsimp only
      have hkl : ks.length ≤ 1000 := by have := hB.len; have := hB.lo; omega
      have hruns := built_runs (fun x hx => ⟨hso x hx, hq.right x hx⟩) ⟨hsh, hnm⟩ hB ks.length (Nat.le_refl _)
      rw [List.take_length, ← hB.run] at hruns
      have hright : ∀ j, j < ks.length → RightO (.d (nth of (nth ks j).toNat) d.2.2.1) := fun j hj => hruns.right _ (List.mem_map.2 ⟨nth ks j, nth_mem hj, rfl⟩)
      generalize hqs : (ks.map fun k => Op.d (nth of k.toNat) d.2.2.1) = qs at hruns
      have hql : qs.length = ks.length := by rw [← hqs, List.length_map]
      have hqrec := right_recs hruns
      have hprec := right_recs hrun
      have hqn : ∀ j, j < ks.length → qs[j]? = some (.d (nth of (nth ks j).toNat) d.2.2.1) := fun j hj => by rw [← hqs, List.getElem?_map, nth_at hj]; rfl
      have htot := cat_le ((ps ++ qs).map recO) (fun r hr => by rw [List.map_append] at hr; rcases List.mem_append.1 hr with h | h; exact hprec r h; exact hqrec r h)
      have hpl := cat_len (ps.map recO)
      rw [List.length_map] at hpl
      have key : Ok (bindR (ρ := (Int × Int) × Int × Hs) (β := Unit) (σ := (List (List UInt8)) × Int × Int) (rangeN (γ := Unit) (house_House_build_b1 (ks, out, 0) (ac, of, cat (ps.map recO), sf) d) ks.length 0 ([], ((cat (ps.map recO)).length : Int), (0 : Int))) fun (l35, x37, x38) => (if decide (x37 > (4000 : Int)) then some ((((0 : Int), (0 : Int)) : (Int × Int)), (8 : Int), (ac, of, cat (ps.map recO), sf)) else bindR (ρ := (Int × Int) × Int × Hs) (β := Unit) (σ := Hs) (rangeN (γ := Unit) (house_House_build_b2 l35) (l35).length 0 (ac, of, cat (ps.map recO), sf)) fun l132 => (queue_Clean_m l132.2.1 out).bind fun y175 => some (((((ks).length : Int), x38) : (Int × Int)), (0 : Int), (out, y175.1, l132.2.2)))) (fun r => (r.2.1 ≠ 0 ∧ r.2.2 = (ac, of, cat (ps.map recO), sf) ∧ r.1 = (0, 0)) ∨ (r.2.1 = 0 ∧ Inv r.2.2 (ps ++ qs) s)) := by
        rw [ok_bindR]
        refine ok_rangeN (fun k (u : List Bs × Int × Int) => u.1 = (qs.map recO).take k ∧ u.2.1 = ((cat (ps.map recO ++ (qs.map recO).take k)).length : Int)) ⟨by simp, by simp⟩ (fun k u hk hu => ?_) fun u hu => ?_
        · obtain ⟨l35, x37, x38⟩ := u
          obtain ⟨u1, u2⟩ := hu
          dsimp only at u1 u2
          obtain ⟨i0, i1⟩ := hB.idx k hk
          have hRk := hright k hk
          have htk : (qs.map recO).take (k + 1) = (qs.map recO).take k ++ [recO (.d (nth of (nth ks k).toNat) d.2.2.1)] := by
            have hk' : k < (qs.map recO).length := by rw [List.length_map, hql]; exact hk
            rw [List.take_succ, List.getElem?_map, hqn k hk]; rfl
          have hrl := (rec_len hRk).1
          have hlk : ((qs.map recO).take k).length ≤ 1000 := by rw [List.length_take]; omega
          have hcl := cat_le (ps.map recO ++ (qs.map recO).take k) (fun r hr => by rcases List.mem_append.1 hr with h | h; exact hprec r h; exact hqrec r (List.mem_of_mem_take h))
          rw [List.length_append, List.length_map] at hcl
          unfold house_House_build_b1
          dsimp only
          rw [idx_nat, nth_at hk, Option.bind_some]
          have hix : idx of (nth ks k) = some (nth of (nth ks k).toNat) := by rw [idx_at i0, nth_at (by omega)]
          rw [hix, Option.bind_some, deal_rec hRk, Option.bind_some, chk_t (by rw [u1]; simp only [List.length_cons, List.length_nil]; omega), Option.bind_some, Option.bind_some, ok_some, flok_nx]
          refine ⟨by dsimp only; rw [u1, htk], ?_⟩
          dsimp only
          rw [htk, ← List.append_assoc, cat_snoc, List.length_append, fr_len, u2, wadd_of (x := ((recO (Op.d (nth of (nth ks k).toNat) d.2.2.1)).length : Int)) (by omega) (by omega), wadd_of (by omega) (by omega)]
          omega
        · obtain ⟨l35, x37, x38⟩ := u
          obtain ⟨u1, u2⟩ := hu
          dsimp only at u1 u2 ⊢
          rw [← hql, show (qs.map recO).take qs.length = qs.map recO by rw [← List.length_map (f := recO), List.take_length]] at u1 u2
          rw [← List.map_append] at u2
          subst u1
          by_cases hbig : x37 > 4000
          · rw [if_pos (by rw [decide_eq_true_eq]; exact hbig), ok_some]
            exact .inl ⟨by simp, rfl, rfl⟩
          · rw [if_neg (by rw [decide_eq_true_eq]; exact hbig), ok_bindR]
            have hlen2 : (cat ((ps ++ qs).map recO)).length ≤ 4000 := by omega
            refine ok_rangeN (fun k (u : Hs) => u = (ac, of, cat (ps.map recO ++ (qs.map recO).take k), sf)) (by simp) (fun k u hk hu => ?_) fun u hu => ?_
            · subst hu
              rw [List.length_map] at hk
              have hk2 : k < ks.length := by omega
              have hRk := hright k hk2
              have htk : (qs.map recO).take (k + 1) = (qs.map recO).take k ++ [recO (.d (nth of (nth ks k).toNat) d.2.2.1)] := by
                rw [List.take_succ, List.getElem?_map, hqn k hk2]; rfl
              have hcl : (cat (ps.map recO ++ (qs.map recO).take (k + 1))).length ≤ 4000 := by
                have := cat_take_le ((ps ++ qs).map recO) ((ps.map recO).length + (k + 1))
                rw [List.map_append, List.take_length_add_append] at this
                rw [List.map_append] at hlen2
                omega
              rw [htk, ← List.append_assoc, cat_snoc, List.length_append, fr_len] at hcl
              unfold house_House_build_b2
              dsimp only
              rw [idx_nat, List.getElem?_map, hqn k hk2, Option.map_some, Option.bind_some, append_ok _ _ _ (by omega), if_pos (rec_len hRk).1, if_pos hcl, Option.bind_some, ok_some, flok_nx]
              rw [htk, List.append_assoc]
            · rw [List.length_map, show (qs.map recO).take qs.length = qs.map recO by rw [← List.length_map (f := recO), List.take_length], ← List.map_append] at hu
              subst hu
              dsimp only
              obtain ⟨p, ep, hp⟩ := clean_ok (accts := out) hso (check_some hB.short)
              rw [ep, Option.bind_some, ok_some]
              refine .inr ⟨rfl, hrun.append hruns, rfl, ?_, ?_, hlen2, ?_, ?_⟩
              · dsimp only; rw [take_map_append hsl, hsf]
              · rw [List.length_append]; omega
              · rcases hp with ⟨e, _⟩ | ⟨e, _, _⟩
                · dsimp only; rw [e]; exact ⟨by simp, fun d h => by simp at h, fun i j _ h => by simp at h⟩
                · rw [e]; exact hq.filter _
              · rcases hp with ⟨e, _⟩ | ⟨e, _, _⟩
                · dsimp only; rw [e]; intro d h; simp at h
                · rw [e]; intro x hx; exact hso x (List.mem_filter.1 hx).1
      obtain ⟨r, e, hr⟩ := key
      refine ⟨r.1, r.2.1, r.2.2, e, ?_⟩
      rcases hr with hr | ⟨h1, h2⟩
      · exact .inl hr
      · refine .inr ⟨h1, qs, fun q hq => ?_, h2⟩
        rw [← hqs] at hq
        obtain ⟨k, _, rfl⟩ := List.mem_map.1 hq
        exact ⟨_, _, rfl⟩
  · rw [if_neg hany, if_pos (by decide)]
    exact ⟨_, 4, _, rfl, .inl ⟨by decide, rfl, rfl⟩⟩
end Go.Pu
set_option linter.all false
namespace Go.Pu
open Go.Fw Go.Mo
def ShortDd (d : Dd) : Prop := Short d.2.2.1 ∧ ShortD d.2.2.2
theorem drop_any {l : List Deal} {s : Bs} {n : Int} (hs : ∀ d ∈ l, ShortD d) (hQ : Queue l) : ∃ p, queue_Drop_m l s n = some p ∧ (p.2 ≠ 0 ∨ (p.2 = 0 ∧ Queue p.1 ∧ ∀ d ∈ p.1, ShortD d)) := by
  obtain ⟨e, he, hq⟩ := checkQ_ok hs
  have h0 := hq.2 hQ
  subst h0
  have hlen := hQ.len
  unfold queue_Drop_m
  rw [he, Option.bind_some, if_neg (by decide), findQ_ok, Option.bind_some]
  by_cases ha : l.any (fun d => key d == (s, n)) = true
  · rw [if_pos ha]
    have hi : l.findIdx (fun d => key d == (s, n)) < l.length := by
      obtain ⟨i, hi, ei⟩ := any_key.1 ha
      exact List.findIdx_lt_length_of_exists ⟨nth l i, nth_mem hi, by rw [beq_iff_eq]; exact ei⟩
    generalize l.findIdx (fun d => key d == (s, n)) = i at hi
    rw [if_neg (by rw [decide_eq_true_eq]; omega), cloneQ l (by omega), Option.bind_some, wadd_of (by omega) (by omega)]
    unfold slices_Delete_api_Deal_api_Deal_m
    rw [chk_t (by omega), Option.bind_some, Option.bind_some, Int.toNat_natCast, show ((i : Int) + 1).toNat = i + 1 by omega]
    have hmem : ∀ d ∈ l.take i ++ l.drop (i + 1), d ∈ l := fun d hd => by
      rcases List.mem_append.1 hd with h | h
      · exact List.mem_of_mem_take h
      · exact List.mem_of_mem_drop h
    refine ⟨_, rfl, .inr ⟨rfl, ⟨?_, fun d hd => hQ.right d (hmem d hd), fun a b hab hb => ?_⟩, fun d hd => hs d (hmem d hd)⟩⟩
    · simp only [List.length_append, List.length_take, List.length_drop]; omega
    · have hnth : ∀ a, a < (l.take i ++ l.drop (i + 1)).length → nth (l.take i ++ l.drop (i + 1)) a = nth l (if a < i then a else a + 1) := fun a ha => by
        rw [nth_append, List.length_take]
        by_cases h : a < i
        · rw [if_pos (by omega), if_pos h, nth_take h]
        · rw [if_neg (by omega), if_neg h, nth_drop]; congr 1; omega
      have hb' := hb
      simp only [List.length_append, List.length_take, List.length_drop] at hb'
      dsimp only at hb ⊢
      rw [hnth a (by omega), hnth b hb]
      refine hQ.once _ _ ?_ ?_
      · split <;> split <;> omega
      · split <;> omega
  · rw [if_neg ha, if_pos (by decide)]
    exact ⟨_, rfl, .inl (by simp)⟩
theorem do_ok {h : Hs} {ps : List Op} {s : Nat} {d : Dd} (hI : Inv h ps s) (hd : ShortDd d) : ∃ r, house_House_Do_m h d = some r ∧ Did h ps s d r := by
  have hI0 := hI
  obtain ⟨ac, of, dk, sf⟩ := h
  obtain ⟨hrun, hdk, hsf, hsl, hlen, hq, hso⟩ := hI
  dsimp only at hrun hdk hsf hq hso
  obtain ⟨hA, hsA⟩ := hrun.accts0
  unfold house_House_Do_m
  dsimp only
  by_cases k1 : d.1 = 1
  · rw [if_pos (by rw [beq_iff_eq]; exact k1)]
    obtain ⟨e, h', e1, hh⟩ := open_did hI0 hd.1
    rw [e1, Option.bind_some]
    rcases hh with ⟨he, rfl⟩ | ⟨he, hh⟩
    · exact ⟨_, rfl, .no e he⟩
    · subst he; exact ⟨_, rfl, .opened h' k1 hh⟩
  rw [if_neg (by rw [beq_iff_eq]; exact k1)]
  by_cases k2 : d.1 = 2
  · rw [if_pos (by rw [beq_iff_eq]; exact k2)]
    obtain ⟨p, e1, hp⟩ := add_ok hso hd.2
    rw [e1, Option.bind_some]
    by_cases he : p.2 = 0
    · rw [if_neg (by rw [bne_iff_ne]; exact fun h => h he)]
      refine ⟨_, rfl, .kept (0, 0) (ac, p.1, dk, sf) [] s (by omega) (by omega) (Nat.le_refl _) (fun q hq => by simp at hq) ?_ (by omega)⟩
      rw [List.append_nil]
      refine ⟨hrun, hdk, hsf, hsl, hlen, hp.queue he, ?_⟩
      dsimp only
      cases hp with
      | no e h => exact absurd he h
      | «at» i _ _ hi _ _ =>
        intro x hx
        rcases List.mem_or_eq_of_mem_set hx with h | rfl
        · exact hso x h
        · exact hd.2
      | end_ _ _ _ _ =>
        intro x hx
        rcases List.mem_append.1 hx with h | h
        · exact hso x h
        · rw [List.mem_singleton] at h; subst h; exact hd.2
    · rw [if_pos (by rw [bne_iff_ne]; exact he)]
      exact ⟨_, rfl, .no p.2 he⟩
  rw [if_neg (by rw [beq_iff_eq]; exact k2)]
  by_cases k3 : d.1 = 3
  · rw [if_pos (by rw [beq_iff_eq]; exact k3)]
    obtain ⟨t, e, h', e1, hh⟩ := build_did hI0 hd.1
    rw [e1, Option.bind_some]
    rcases hh with ⟨he, rfl, rfl⟩ | ⟨he, qs, hqs, hh⟩
    · exact ⟨_, rfl, .no e he⟩
    · subst he; exact ⟨_, rfl, .kept t h' qs s (by omega) (by omega) (Nat.le_refl _) hqs hh (by omega)⟩
  rw [if_neg (by rw [beq_iff_eq]; exact k3)]
  by_cases k4 : d.1 = 4
  · rw [if_pos (by rw [beq_iff_eq]; exact k4)]
    refine ⟨_, rfl, .kept (0, 0) (ac, of, dk, (dk.length : Int)) [] ps.length (by omega) (by omega) hsl (fun q hq => by simp at hq) ?_ (fun _ => ⟨rfl, rfl⟩)⟩
    rw [List.append_nil]
    refine ⟨hrun, hdk, ?_, Nat.le_refl _, hlen, hq, hso⟩
    dsimp only
    rw [← List.length_map (f := recO), List.take_length, ← hdk]
  rw [if_neg (by rw [beq_iff_eq]; exact k4)]
  by_cases k5 : d.1 = 5
  · rw [if_pos (by rw [beq_iff_eq]; exact k5)]
    have hc := crash_ok (ps.map recO) s d.2.1 (right_recs hrun) hlen (by rw [List.length_map]; exact hsl)
    rw [← hsf, ← hdk] at hc
    rcases hc with hc | ⟨w, hw1, hw2, hc⟩
    · rw [hc, Option.bind_some, if_pos (by simp)]
      exact ⟨_, rfl, .no 1 (by decide)⟩
    · rw [List.length_map] at hw2
      have hpw : ps = ps.take w ++ ps.drop w := (List.take_append_drop w ps).symm
      have hr2 := hrun
      rw [hpw] at hr2
      obtain ⟨m, hm, _⟩ := hr2.split
      have hlen2 : (cat ((ps.take w).map recO)).length ≤ 4000 := by
        rw [List.map_take]; have := cat_take_le (ps.map recO) w; omega
      rw [hc, Option.bind_some, if_neg (by simp), read_ok (ps := ps.take w) (fin := m) (by dsimp only; rw [List.map_take]) hlen2 hm, Option.bind_some]
      refine ⟨_, rfl, .crashed (m, [], cat ((ps.map recO).take w), _) w k5 hw1 hw2 ⟨hm, ?_, ?_, ?_, hlen2, ⟨by simp, fun d h => by simp at h, fun i j _ h => by simp at h⟩, fun d h => by simp at h⟩ rfl⟩
      · dsimp only; rw [List.map_take]
      · dsimp only; rw [List.map_take, List.take_take, Nat.min_self]
      · rw [List.length_take]; omega
  rw [if_neg (by rw [beq_iff_eq]; exact k5)]
  by_cases k6 : d.1 = 6
  · rw [if_pos (by rw [beq_iff_eq]; exact k6), find_acct, Option.bind_some]
    dsimp only
    by_cases hany : ac.any (fun a => a.1 == d.2.2.1) = true
    · have hi : ac.findIdx (fun a => a.1 == d.2.2.1) < ac.length := by
        obtain ⟨a, ha, e⟩ := List.any_eq_true.1 hany
        exact List.findIdx_lt_length_of_exists ⟨a, ha, e⟩
      rw [if_pos hany, if_neg (by rw [decide_eq_true_eq]; omega), idx_nat, nth_at hi, Option.bind_some, Option.bind_some]
      exact ⟨_, rfl, .kept _ (ac, of, dk, sf) [] s (by omega) (by omega) (Nat.le_refl _) (fun q hq => by simp at hq) (by rw [List.append_nil]; exact hI0) (by omega)⟩
    · rw [if_neg hany, if_pos (by decide)]
      exact ⟨_, rfl, .no 4 (by decide)⟩
  rw [if_neg (by rw [beq_iff_eq]; exact k6)]
  by_cases k7 : d.1 = 7
  · rw [if_pos (by rw [beq_iff_eq]; exact k7)]
    obtain ⟨p, e1, hp⟩ := drop_any (s := d.2.2.1) (n := d.2.1) hso hq
    rw [e1, Option.bind_some]
    rcases hp with he | ⟨he, hQ, hS⟩
    · rw [if_pos (by rw [bne_iff_ne]; exact he)]
      exact ⟨_, rfl, .no p.2 he⟩
    · rw [if_neg (by rw [bne_iff_ne]; exact fun h => h he)]
      refine ⟨_, rfl, .kept (0, 0) (ac, p.1, dk, sf) [] s (by omega) (by omega) (Nat.le_refl _) (fun q hq => by simp at hq) ?_ (by omega)⟩
      rw [List.append_nil]
      exact ⟨hrun, hdk, hsf, hsl, hlen, hQ, hS⟩
  rw [if_neg (by rw [beq_iff_eq]; exact k7)]
  exact ⟨_, rfl, .no 1 (by decide)⟩
theorem Did.inv {h : Hs} {ps : List Op} {s : Nat} {d : Dd} {r : (Int × Int) × Int × Hs} (hI : Inv h ps s) (hD : Did h ps s d r) : ∃ ps' s', Inv r.2.2 ps' s' := by
  cases hD with
  | no e he => exact ⟨_, _, hI⟩
  | opened h' k h => exact ⟨_, _, h⟩
  | kept t h' qs s' _ _ _ _ h _ => exact ⟨_, _, h⟩
  | crashed h' w _ _ _ h _ => exact ⟨_, _, h⟩
end Go.Pu
set_option linter.all false
namespace Go.Pu
open Go.Fw Go.Mo
theorem ok_and {ρ β : Type} {N : Bool → Prop} {B : β → Prop} {R : ρ → Prop} {c b : Bool} (h : ∀ x : Bool, (x = true → b = true) → N x) : Ok (if c then some (.nx b) else some (.nx false)) (FlOk N B R) := by
  cases c with
  | true => rw [if_pos rfl, ok_some]; exact h b id
  | false => rw [if_neg (by decide), ok_some]; exact h false fun e => by cases e
theorem idxn {α : Type} [Inhabited α] {l : List α} (k : Nat) {i : Int} (e : i = k) (h : k < l.length) : idx l i = some (nth l k) := by
  subst e; rw [idx_nat, nth_at h]
theorem ix0 {α : Type} [Inhabited α] {l : List α} (h : 0 < l.length) : idx l 0 = some (nth l 0) := idxn 0 rfl h
theorem ix1 {α : Type} [Inhabited α] {l : List α} (h : 1 < l.length) : idx l 1 = some (nth l 1) := idxn 1 rfl h
theorem ix2 {α : Type} [Inhabited α] {l : List α} (h : 2 < l.length) : idx l 2 = some (nth l 2) := idxn 2 rfl h
theorem ix3 {α : Type} [Inhabited α] {l : List α} (h : 3 < l.length) : idx l 3 = some (nth l 3) := idxn 3 rfl h
abbrev DR := Except Int ((List UInt8) × Bool) × Hs
def DP (r : DR) : Prop := (∃ ps s, Inv r.2 ps s) ∧ Ex (fun p => p.2 = true → Fine p.1) r.1
theorem short_nil : Short [] := by unfold Short; simp
theorem shortD_nil {n m f s : Int} : ShortD ([], [], n, m, f, s) := ⟨short_nil, short_nil⟩
theorem accts_w {l : List Acct} (h : Accts l) : ∀ a ∈ l, W a.2.1 ∧ W a.2.2 := fun a ha => by
  have := h.val a ha
  exact ⟨⟨by omega, by omega⟩, ⟨by omega, by omega⟩⟩
theorem deed_ok {h : Hs} {ps : List Op} {s : Nat} (hI : Inv h ps s) (w : List UInt8) {l : List (List UInt8)} (hl : ∀ x ∈ l, Short x) (hn : l.length ≤ 1000000) : Ok (desk_desk_deed_m h w l) DP := by
  have sh : ∀ {k : Nat}, k < l.length → Short (nth l k) := fun hk => hl _ (nth_mem hk)
  have dI : ∀ {e : Except Int ((List UInt8) × Bool)}, Ex (fun p => p.2 = true → Fine p.1) e → DP (e, h) := fun he => ⟨⟨ps, s, hI⟩, he⟩
  unfold desk_desk_deed_m
  rw [ok_bindR]
  refine Ok.mono (P := FlOk (fun d => ShortDd d) (fun _ => False) DP) ?_ ?_
  · rw [ok_bindF]
    refine ok_and fun b hb => ?_
    rw [ok_ite]
    refine ⟨fun hx => ?_, fun _ => ?_⟩
    · have hb := hb hx
      rw [beq_iff_eq] at hb
      rw [ix0 (by omega), Option.bind_some, ix1 (by omega), Option.bind_some]
      obtain ⟨r, er, hr⟩ := number_ok (nth l 1)
      rw [er, Option.bind_some]
      cases r with
      | error e => rw [thr, ok_some, flok_rt]; exact dI hr
      | ok z => rw [thr, ok_some, flok_nx]; exact ⟨sh (by omega), shortD_nil⟩
    rw [ok_bindF]
    refine ok_and fun b hb => ?_
    rw [ok_ite]
    refine ⟨fun hx => ?_, fun _ => ?_⟩
    · have hb := hb hx
      rw [beq_iff_eq] at hb
      rw [chk_t ⟨by omega, by omega⟩, Option.bind_some]
      have hln : ((List.take l.length l).drop ((2 : Int)).toNat).length = 4 := by
        rw [List.length_drop, List.length_take]; omega
      obtain ⟨r, er, hr⟩ := numbers_ok (l := (List.take l.length l).drop ((2 : Int)).toNat) (by omega)
      rw [er, Option.bind_some]
      cases r with
      | error e => rw [thr, ok_some, flok_rt]; exact dI hr
      | ok z =>
        have hz : z.length = 4 := Eq.trans hr hln
        rw [thr, ix0 (by omega), Option.bind_some, ix1 (by omega), Option.bind_some, ix0 (by omega), Option.bind_some, ix1 (by omega), Option.bind_some, ix2 (by omega), Option.bind_some, ix3 (by omega), Option.bind_some, ok_some, flok_nx]
        exact ⟨short_nil, sh (by omega), sh (by omega)⟩
    rw [ok_bindF]
    refine ok_and fun b hb => ?_
    rw [ok_ite]
    refine ⟨fun hx => ?_, fun _ => ?_⟩
    · have hb := hb hx
      rw [beq_iff_eq] at hb
      rw [ix0 (by omega), Option.bind_some, ix1 (by omega), Option.bind_some]
      obtain ⟨r, er, hr⟩ := number_ok (nth l 1)
      rw [er, Option.bind_some]
      cases r with
      | error e => rw [thr, ok_some, flok_rt]; exact dI hr
      | ok z => rw [thr, ok_some, flok_nx]; exact ⟨sh (by omega), shortD_nil⟩
    rw [ok_bindF]
    refine ok_and fun b hb => ?_
    rw [ok_ite]
    refine ⟨fun hx => ?_, fun _ => ?_⟩
    · have hb := hb hx
      rw [beq_iff_eq] at hb
      rw [ix0 (by omega), Option.bind_some, ix1 (by omega), Option.bind_some]
      obtain ⟨r, er, hr⟩ := number_ok (nth l 1)
      rw [er, Option.bind_some]
      cases r with
      | error e => rw [thr, ok_some, flok_rt]; exact dI hr
      | ok z => rw [thr, ok_some, flok_nx]; exact ⟨sh (by omega), shortD_nil⟩
    rw [ok_bindF]
    refine ok_and fun b hb => ?_
    rw [ok_ite]
    refine ⟨fun hx => ?_, fun _ => ?_⟩
    · have hb := hb hx
      rw [beq_iff_eq] at hb
      rw [ix0 (by omega), Option.bind_some, ok_some, flok_nx]; exact ⟨sh (by omega), shortD_nil⟩
    rw [ok_bindF]
    refine ok_and fun b hb => ?_
    rw [ok_ite]
    refine ⟨fun hx => ?_, fun _ => ?_⟩
    · rw [ok_some, flok_nx]; exact ⟨short_nil, shortD_nil⟩
    rw [ok_bindF]
    refine ok_and fun b hb => ?_
    rw [ok_ite]
    refine ⟨fun hx => ?_, fun _ => ?_⟩
    · have hb := hb hx
      rw [beq_iff_eq] at hb
      rw [ix0 (by omega), Option.bind_some]
      obtain ⟨r, er, hr⟩ := number_ok (nth l 0)
      rw [er, Option.bind_some]
      cases r with
      | error e => rw [thr, ok_some, flok_rt]; exact dI hr
      | ok z => rw [thr, ok_some, flok_nx]; exact ⟨short_nil, shortD_nil⟩
    rw [ok_some, flok_rt]
    exact dI (fun h => by cases h)
  · intro v hv
    cases v with
    | br b => exact hv.elim
    | rt r => exact hv
    | nx d =>
      rw [flok_nx] at hv ⊢
      obtain ⟨r, er, hD⟩ := do_ok (d := d) hI hv
      obtain ⟨t1, t2, t3⟩ := house_do_er h d (accts_w hI.run.accts0.1) r er
      have hI2 := hD.inv hI
      rw [er, Option.bind_some]
      rcases must_c t1 with ⟨_, em⟩ | ⟨_, em⟩
      · dsimp only at em
        rw [em, Option.bind_some, thr]
        have key : ∀ b : Bool, Ok (if b then (desk_listed_m ([r.1.1, r.1.2] : (List Int))).bind fun y => some ((.ok (y, true) : Except Int ((List UInt8) × Bool)), r.2.2) else some ((.ok (([111, 107] : List UInt8), true) : Except Int ((List UInt8) × Bool)), r.2.2)) DP := fun b => by
          cases b with
          | true =>
            obtain ⟨s, e, h⟩ := listed_ok (l := [r.1.1, r.1.2]) (fun x hx => by simp only [List.mem_cons, List.not_mem_nil, or_false] at hx; rcases hx with rfl | rfl; exact t2; exact t3) (by simp)
            rw [if_pos rfl, e, Option.bind_some, ok_some]; exact ⟨hI2, fun _ => h⟩
          | false => rw [if_neg (by decide), ok_some]; exact ⟨hI2, fun _ => ⟨by simp, by decide⟩⟩
        rw [ok_bindR, ok_ite]
        exact ⟨fun _ => by rw [ok_some, flok_nx]; exact key _, fun _ => by rw [ok_some, flok_nx]; exact key _⟩
      · dsimp only at em
        rw [em, Option.bind_some, thr, ok_some]; exact ⟨hI2, t1⟩
theorem fine_err {e : Int} (h : Er e) : Fine (([101, 114, 114, 111, 114, 32] : List UInt8) ++ Lib.itoa e) := by
  obtain ⟨_, i2⟩ := itoa_w (x := e) ⟨by have := h.1; omega, by have := h.2; omega⟩
  refine ⟨by simp, ?_⟩
  rw [List.mem_append, not_or]
  exact ⟨by decide, i2⟩
def AP (r : List UInt8 × Hs) : Prop := Fine r.1 ∧ ∃ ps s, Inv r.2 ps s
theorem answer_ok {h : Hs} {ps : List Op} {s : Nat} (hI : Inv h ps s) {line : List UInt8} (hl : line.length ≤ 100000) : Ok (desk_desk_answer_m h line) AP := by
  unfold desk_desk_answer_m
  rw [split_ok 32 (by omega), Option.bind_some, ok_bindR]
  have hn := splt_len 32 line
  refine ok_rangeN (fun k (u : List (List UInt8)) => u.length ≤ k ∧ ∀ x ∈ u, Short x) ⟨by simp, fun x hx => by simp at hx⟩ (fun k u hk hu => ?_) fun u hu => ?_
  · obtain ⟨u1, u2⟩ := hu
    unfold desk_desk_answer_b1
    rw [idx_nat, nth_at hk, Option.bind_some, ok_ite]
    refine ⟨fun _ => ?_, fun _ => ?_⟩
    · rw [chk_t (by simp only [List.length_cons, List.length_nil]; omega), Option.bind_some, ok_some, flok_nx]
      refine ⟨by simp only [List.length_append, List.length_cons, List.length_nil]; omega, fun x hx => ?_⟩
      rcases List.mem_append.1 hx with hx | hx
      · exact u2 x hx
      · rw [List.mem_singleton] at hx; subst hx
        have := splt_short 32 line _ (nth_mem hk)
        unfold Short; omega
    · rw [ok_some, flok_nx]; exact ⟨by omega, u2⟩
  obtain ⟨u1, u2⟩ := hu
  have hb : ∀ {e : Int}, Er e → ∀ {h' : Hs}, (∃ ps s, Inv h' ps s) → Ok ((chk (0 ≤ e ∧ e ≤ 1000000)).bind fun _ => some ((([101, 114, 114, 111, 114, 32] : List UInt8) ++ Go.Lib.itoa e), h')) AP := fun he h' hI' => by
    rw [chk_t ⟨he.1, by have := he.2; omega⟩, Option.bind_some, ok_some]; exact ⟨fine_err he, hI'⟩
  rw [ok_bindR]
  by_cases h0 : u.length = 0
  · rw [if_pos (by rw [beq_iff_eq]; omega), show desk_must_m 12 = some (.error 12) from rfl, Option.bind_some, thr, chk_t ⟨by decide, by decide⟩, Option.bind_some, ok_some, flok_rt]
    exact ⟨fine_err (er_lit 12 rfl), _, _, hI⟩
  · rw [if_neg (by rw [beq_iff_eq]; omega), ok_some, flok_nx, ix0 (by omega), Option.bind_some, chk_t ⟨by omega, by omega⟩, Option.bind_some]
    have hs : ∀ x ∈ (List.take u.length u).drop ((1 : Int)).toNat, Short x := fun x hx => u2 x (List.mem_of_mem_take (List.mem_of_mem_drop hx))
    have hn2 : ((List.take u.length u).drop ((1 : Int)).toNat).length ≤ 1000000 := by
      rw [List.length_drop, List.length_take]; omega
    obtain ⟨⟨r1, r2⟩, er, hI2, hr⟩ := deed_ok hI (nth u 0) hs hn2
    rw [er, Option.bind_some]
    dsimp only at hI2 hr ⊢
    cases r1 with
    | error e => rw [thr]; exact hb hr hI2
    | ok z =>
      rw [thr]
      by_cases hz : z.2 = true
      · rw [if_pos hz, ok_some]; exact ⟨hr hz, hI2⟩
      · rw [if_neg hz, Option.bind_some, Option.bind_some]
        obtain ⟨r, er, hr⟩ := asked_ok (nth u 0) hn2
        rw [er, Option.bind_some]
        cases r with
        | error e => rw [thr]; exact hb hr hI2
        | ok z => rw [thr, ok_some]; exact ⟨hr, hI2⟩
def go : Hs → List (List UInt8) → Option (List (List UInt8) × Hs)
  | h, [] => some ([], h)
  | h, l :: ls => if l = [] then go h ls else (desk_desk_answer_m h l).bind fun p => (go p.2 ls).map fun q => (p.1 :: q.1, q.2)
theorem go_ok : ∀ (ls : List (List UInt8)) {h : Hs} {ps : List Op} {s : Nat}, Inv h ps s → (∀ l ∈ ls, l.length ≤ 100000) → ∃ p, go h ls = some p ∧ (∀ x ∈ p.1, Fine x) ∧ p.1.length = (ls.filter fun l => !(l == [])).length
  | [], h, ps, s, hI, _ => ⟨_, rfl, fun x hx => by simp at hx, rfl⟩
  | l :: ls, h, ps, s, hI, hs => by
    rw [go, List.filter_cons]
    by_cases hl : l = []
    · subst hl
      rw [if_pos rfl, if_neg (by decide)]
      exact go_ok ls hI fun x hx => hs x (by simp [hx])
    · rw [if_neg hl, if_pos (by simpa using hl)]
      obtain ⟨r, er, hf, ps', s', hI'⟩ := answer_ok hI (hs l (by simp))
      obtain ⟨p, ep, h1, h2⟩ := go_ok ls hI' fun x hx => hs x (by simp [hx])
      refine ⟨(r.1 :: p.1, p.2), by rw [er, Option.bind_some, ep]; rfl, fun x hx => ?_, by simp only [List.length_cons]; omega⟩
      rcases List.mem_cons.1 hx with rfl | hx
      · exact hf
      · exact h1 x hx
theorem run_loop (y : List (List UInt8)) : ∀ (d i : Nat) (h : Hs) (acc : List (List UInt8)) {p : List (List UInt8) × Hs}, i + d = y.length → acc.length + d ≤ 1000000 → go h (y.drop i) = some p → rangeN (γ := Unit) (desk_Run_b1 y) d i (h, acc) = some (.nx (p.2, acc ++ p.1))
  | 0, i, h, acc, p, hi, _, hg => by
    rw [List.drop_of_length_le (by omega), go] at hg
    cases hg
    rw [rangeN, List.append_nil]
  | d + 1, i, h, acc, p, hi, ha, hg => by
    have hlt : i < y.length := by omega
    rw [List.drop_eq_getElem_cons hlt, go] at hg
    unfold rangeN desk_Run_b1
    dsimp only
    rw [idx_nat, List.getElem?_eq_getElem hlt, Option.bind_some]
    by_cases hl : y[i] = []
    · rw [if_pos hl] at hg
      rw [if_neg (by rw [hl]; decide)]
      exact run_loop y d (i + 1) h acc (by omega) (by omega) hg
    · rw [if_neg hl] at hg
      rw [if_pos (by simpa using hl)]
      cases ha' : desk_desk_answer_m h y[i] with
      | none => rw [ha'] at hg; cases hg
      | some r =>
        rw [ha', Option.bind_some] at hg
        rw [Option.bind_some, chk_t (by simp only [List.length_cons, List.length_nil]; omega), Option.bind_some]
        cases hq : go r.2 (y.drop (i + 1)) with
        | none => rw [hq] at hg; cases hg
        | some q =>
          rw [hq] at hg
          cases hg
          have := run_loop y d (i + 1) r.2 (acc ++ [r.1]) (by omega) (by rw [List.length_append, List.length_singleton]; omega) hq
          rw [List.append_assoc] at this
          exact this
def h0 : Hs := ([], [], [], 0)
theorem inv0 : Inv h0 [] 0 := by
  obtain ⟨h, e, hI⟩ := inv_new
  cases e; exact hI
theorem run_ok {x : List UInt8} (hx : x.length < 4294967281) : (desk_Run_m x = some ([], 2) ∧ (4096 < x.length ∨ 60 < (splt 10 x).length)) ∨ (∃ p, x.length ≤ 4096 ∧ (splt 10 x).length ≤ 60 ∧ go h0 (splt 10 x) = some p ∧ (∀ s ∈ p.1, Fine s) ∧ p.1.length = ((splt 10 x).filter fun l => !(l == [])).length ∧ desk_Run_m x = some (p.1, 0)) := by
  unfold desk_Run_m
  rw [split_ok 10 hx, Option.bind_some]
  by_cases c1 : x.length > 4096
  · rw [if_pos (by rw [decide_eq_true_eq]; omega)]
    exact .inl ⟨rfl, .inl c1⟩
  rw [if_neg (by rw [decide_eq_true_eq]; omega)]
  by_cases c2 : (splt 10 x).length > 60
  · rw [show decide (((splt 10 x).length : Int) > 60) = true from decide_eq_true (by omega)]
    exact .inl ⟨rfl, .inr c2⟩
  rw [show decide (((splt 10 x).length : Int) > 60) = false from decide_eq_false (by omega)]
  have hs : ∀ l ∈ splt 10 x, l.length ≤ 100000 := fun l hl => by have := splt_short 10 x l hl; omega
  obtain ⟨p, e, h1, h2⟩ := go_ok (splt 10 x) inv0 hs
  refine .inr ⟨p, by omega, by omega, e, h1, h2, ?_⟩
  simp only [bindR, Bool.false_eq_true, if_false]
  rw [show house_New_m = some h0 from rfl, Option.bind_some, run_loop (splt 10 x) (splt 10 x).length 0 h0 [] (by omega) (by simp; omega) (by rw [List.drop_zero]; exact e)]
  rfl
end Go.Pu
set_option linter.all false
namespace Go.Pu
open Go.Fw Go.Mo
theorem equalStr (l : List (List UInt8)) : slices_Equal_string_string_m l l = some true := by
  apply Ok.eq
  unfold slices_Equal_string_string_m
  rw [if_neg (by simp), ok_bindR]
  refine ok_rangeL (fun _ _ => True) trivial (fun k x s hk _ => ?_) fun s _ => by rw [ok_some]
  unfold slices_Equal_string_string_b1
  rw [idx_nat, hk, Option.bind_some, if_neg (by simp), ok_some, flok_nx]
  trivial
theorem counts_t : desk_Run_m ([112, 105, 108, 101, 115, 32, 49, 32, 50, 32, 52, 10, 10, 115, 101, 99, 111, 110, 100, 32, 49, 32, 51, 32, 57, 32, 53, 10, 115, 101, 97, 116, 115, 32, 49, 32, 53, 32, 54, 48, 32, 51, 48, 32, 49, 48, 10, 115, 119, 105, 110, 103, 115, 32, 51, 32, 50, 32, 49, 32, 49] : List UInt8) = some (([([50, 32, 49, 32, 46] : List UInt8), ([49, 32, 53, 32, 46] : List UInt8), ([52, 32, 49, 32, 48, 32, 46] : List UInt8), ([51, 32, 49, 32, 49, 32, 46] : List UInt8)] : (List (List UInt8))), 0) := by decide +kernel
theorem indexByte_no (c : UInt8) : ∀ l : List UInt8, c ∉ l → Lib.indexByte l c = -1
  | [], _ => rfl
  | b :: l, h => by
    have hb : (b == c) = false := beq_eq_false_iff_ne.2 fun e => h (by simp [e])
    rw [Lib.indexByte, hb, indexByte_no c l (fun e => h (by simp [e]))]; rfl
theorem fine_no {s : List UInt8} (h : Fine s) : pk_DeskCounts_1_m s = some false := by
  unfold pk_DeskCounts_1_m
  have hs : (s == ([] : List UInt8)) = false := beq_eq_false_iff_ne.2 h.1
  rw [hs, if_neg (by decide)]
  unfold strings_Contains_m
  dsimp only
  rw [indexByte_no 10 s h.2]
  rfl
theorem fine_none {l : List (List UInt8)} (h : ∀ s ∈ l, Fine s) : slices_ContainsFunc_string_string_m l (fun a0 => pk_DeskCounts_1_m a0) = some false := by
  have : slices_IndexFunc_string_string_m l (fun a0 => pk_DeskCounts_1_m a0) = some (-1) := by
    apply Ok.eq
    unfold slices_IndexFunc_string_string_m
    rw [ok_bindR]
    refine ok_rangeL (fun _ _ => True) trivial (fun k x s hk _ => ?_) fun s _ => by rw [ok_some]
    unfold slices_IndexFunc_string_string_b1
    dsimp only
    rw [fine_no (h x (List.mem_of_getElem? hk)), Option.bind_some, if_neg (by decide), ok_some, flok_nx]
    trivial
  unfold slices_ContainsFunc_string_string_m
  rw [this, Option.bind_some]; rfl
theorem count_loop (l : List (List UInt8)) (h : l.length ≤ 10000000) : rangeN (γ := Unit) (pk_DeskCounts_b1 l) l.length 0 (0 : Int) = some (.nx (((l.filter fun l => !(l == [])).length : Nat) : Int)) := by
  have key : Ok (rangeN (ρ := Bool) (γ := Unit) (pk_DeskCounts_b1 l) l.length 0 (0 : Int)) (FlOk (fun n => n = (((l.filter fun l => !(l == [])).length : Nat) : Int)) (fun _ => False) (fun _ => False)) := by
    refine ok_rangeN (s := (0 : Int)) (fun k (n : Int) => n = ((((l.take k).filter fun l => !(l == [])).length : Nat) : Int)) (by simp) (fun k n hk hn => ?_) fun n hn => by rw [List.take_length] at hn; exact hn
    unfold pk_DeskCounts_b1
    have hle : ((l.take k).filter fun l => !(l == [])).length ≤ l.length := Nat.le_trans (List.length_filter_le _ _) (by rw [List.length_take]; omega)
    have ht : l.take (k + 1) = l.take k ++ [nth l k] := by rw [List.take_succ, nth_at hk]; rfl
    rw [idx_nat, nth_at hk, Option.bind_some, ok_ite, ht, List.filter_append, List.length_append, List.filter_cons, List.filter_nil]
    refine ⟨fun hc => ?_, fun hc => ?_⟩
    · rw [ok_some, flok_nx, if_pos hc, hn, wadd_of (by omega) (by omega)]
      simp only [List.length_cons, List.length_nil]; omega
    · rw [ok_some, flok_nx, if_neg hc, hn]; simp
  obtain ⟨v, e, hv⟩ := key
  cases v with
  | nx n => rw [e]; exact congrArg _ (congrArg _ hv)
  | br b => exact hv.elim
  | rt r => exact hv.elim
theorem DeskCounts (x0 : List UInt8) {P0 : Prop} (_ : P0) (b0 : x0.length ≤ 1048576) : pk_DeskCounts_m x0 = some true := by
  have hl := splt_len 10 x0
  unfold pk_DeskCounts_m
  rw [counts_t, Option.bind_some]
  dsimp only
  rw [if_neg (by decide), equalStr, Option.bind_some]
  simp only [bindR, Bool.not_true, Bool.false_eq_true, if_false]
  rcases run_ok (x := x0) (by omega) with ⟨e, _⟩ | ⟨p, h1, h2, hg, hf, hn, e⟩
  · rw [e, Option.bind_some, split_ok 10 (by omega), Option.bind_some, count_loop _ (by omega)]; rfl
  · rw [e, Option.bind_some, split_ok 10 (by omega), Option.bind_some, count_loop _ (by omega)]
    dsimp only
    rw [if_neg (by decide), if_pos (by rw [beq_iff_eq, hn]), fine_none hf, Option.bind_some]
    rfl
end Go.Pu
