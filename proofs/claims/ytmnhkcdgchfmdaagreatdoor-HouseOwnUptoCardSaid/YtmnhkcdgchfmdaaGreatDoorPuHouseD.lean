/- The plain law: what the house does to what is asked. -/
import Derived.Test.YtmnhkcdgchfmdaaGreatDoorWHouseOwnModels
import Derived.Test.YtmnhkcdgchfmdaaGreatDoorPuHouse
import Derived.Test.YtmnhkcdgchfmdaaGreatDoorPuQClean
import Derived.Test.YtmnhkcdgchfmdaaGreatDoorPuQAdd
set_option linter.all false
namespace Go.Pu
open Go.Fw Go.Mo
abbrev Dd := Int × Int × List UInt8 × Deal
structure Inv (h : Hs) (ps : List Op) (s : Nat) : Prop where
  run : Runs [] ps h.1
  disk : h.2.2.1 = cat (ps.map recO)
  safe : h.2.2.2 = ((cat ((ps.map recO).take s)).length : Int)
  sle : s ≤ ps.length
  len : (cat (ps.map recO)).length ≤ 4000
  queue : Queue h.2.1
  short : ∀ d ∈ h.2.1, ShortD d
inductive Did (h : Hs) (ps : List Op) (s : Nat) (d : Dd) : (Int × Int) × Int × Hs → Prop
  | no (e : Int) : e ≠ 0 → Did h ps s d ((0, 0), e, h)
  | opened (h' : Hs) : d.1 = 1 → Inv h' (ps ++ [.o d.2.2.1 d.2.1]) s → Did h ps s d ((0, 0), 0, h')
  | kept (t : Int × Int) (h' : Hs) (qs : List Op) (s' : Nat) : d.1 ≠ 1 → d.1 ≠ 5 → s ≤ s' → (∀ q ∈ qs, ∃ x t, q = .d x t) → Inv h' (ps ++ qs) s' → (d.1 = 4 → s' = ps.length ∧ qs = []) → Did h ps s d (t, 0, h')
  | crashed (h' : Hs) (w : Nat) : d.1 = 5 → s ≤ w → w ≤ ps.length → Inv h' (ps.take w) w → h'.2.1 = [] → Did h ps s d ((0, 0), 0, h')
theorem inv_new : ∃ h, house_New_m = some h ∧ Inv h [] 0 := ⟨([], [], [], 0), rfl, ⟨.nil _, rfl, rfl, Nat.le_refl _, by simp [cat], ⟨by simp, fun d h => by simp at h, fun i j _ h => by simp at h⟩, fun d h => by simp at h⟩⟩
theorem right_recs {l : List Acct} {ps : List Op} {m : List Acct} (h : Runs l ps m) : ∀ r ∈ ps.map recO, r.length ≤ 64 := fun r hr => by
  obtain ⟨p, hp, rfl⟩ := List.mem_map.1 hr
  exact (rec_len (h.right p hp)).1
theorem cat_le : ∀ l : List Bs, (∀ r ∈ l, r.length ≤ 64) → (cat l).length ≤ 67 * l.length
  | [], _ => by simp [cat]
  | r :: l, h => by
    have := cat_le l fun x hx => h x (by simp [hx])
    have := h r (by simp)
    rw [cat, List.length_append, fr_len, List.length_cons]; omega
theorem take_map_append {ps qs : List Op} {s : Nat} (h : s ≤ ps.length) : ((ps ++ qs).map recO).take s = (ps.map recO).take s := by
  rw [List.map_append, List.take_append_of_le_length (by rw [List.length_map]; exact h)]
/-! ### open -/
theorem open_did {h : Hs} {ps : List Op} {s : Nat} {d : Dd} (hI : Inv h ps s) (hsh : Short d.2.2.1) : ∃ e h', house_House_open_m h d = some (e, h') ∧ ((e ≠ 0 ∧ h' = h) ∨ (e = 0 ∧ Inv h' (ps ++ [.o d.2.2.1 d.2.1]) s)) := by
  obtain ⟨ac, of, dk, sf⟩ := h
  obtain ⟨hrun, hdk, hsf, hsl, hlen, hq, hso⟩ := hI
  dsimp only at hrun hdk hsf hq hso
  subst hdk
  have hsA := hrun.accts0.2
  obtain ⟨p, e1, hp⟩ := open_ok (n := d.2.1) hsA hsh
  unfold house_House_open_m
  dsimp only
  rw [e1, Option.bind_some]
  cases hp with
  | no e he => rw [if_pos (by rw [bne_iff_ne]; exact he)]; exact ⟨e, _, rfl, .inl ⟨he, rfl⟩⟩
  | yes m hA h0 h1 hm hA2 =>
    obtain ⟨_, _, _, _, _, hsm, hnm⟩ := opened_facts hsA hsh e1
    have hR : RightO (.o d.2.2.1 d.2.1) := ⟨hsh, hnm, h0, h1⟩
    have hrl := rec_len hR
    have hll := nm_facts hsh hnm
    have hil := itoa_len h0 h1
    rw [if_neg (by simp), chk_t (by simp only [List.length_cons, List.length_nil]; omega), Option.bind_some, chk_t (by simp only [List.length_append, List.length_cons, List.length_nil]; omega), Option.bind_some, itoa_m h0 h1, Option.bind_some, chk_t (by simp only [List.length_append, List.length_cons, List.length_nil]; omega), Option.bind_some]
    have er : (([111, 32] : List UInt8) ++ d.2.2.1) ++ [32] ++ Lib.itoa d.2.1 = recO (.o d.2.2.1 d.2.1) := by simp [recO, wordsO, joinW]
    rw [er, append_ok _ _ _ hlen, if_pos hrl.1]
    by_cases hf : (cat (ps.map recO)).length + ((recO (.o d.2.2.1 d.2.1)).length + 3) ≤ 4000
    · rw [if_pos hf, Option.bind_some, if_neg (by simp)]
      have ec : cat (ps.map recO ++ [recO (.o d.2.2.1 d.2.1)]) = cat ((ps ++ [Op.o d.2.2.1 d.2.1]).map recO) := by simp
      refine ⟨0, _, rfl, .inr ⟨rfl, ⟨hrun.append (.cons hR e1 (.nil _)), ec, ?_, ?_, ?_, hq, hso⟩⟩⟩
      · dsimp only; rw [take_map_append hsl, hsf]
      · rw [List.length_append]; omega
      · rw [← ec, cat_snoc, List.length_append, fr_len]; exact hf
    · rw [if_neg hf, Option.bind_some, if_pos (by simp)]
      exact ⟨8, _, rfl, .inl ⟨by decide, rfl⟩⟩
/-! ### build -/
theorem deal_rec {x : Deal} {t : Bs} (hR : RightO (.d x t)) : house_deal_m x t = some (recO (.d x t)) := by
  obtain ⟨h1, h2, h3, h4⟩ := hR
  obtain ⟨r1, r2, r3, r4, r5, r6, _⟩ := rt_facts h1 h4
  have a1 := nm_facts h2 h3; have a2 := nm_facts h1.1 r5; have a3 := nm_facts h1.2 r6
  have b1 := itoa_len r1.1 r1.2; have b2 := itoa_len r2.1 r2.2; have b3 := itoa_len r3.1 r3.2; have b4 := itoa_len3 (by omega) r4.2
  have st : ∀ (i : Nat) (n : Int) (y : Bs), [x.2.2.1, x.2.2.2.1, x.2.2.2.2.1, x.2.2.2.2.2][i]? = some n → 0 ≤ n → n ≤ 1000000 → y.length ≤ 1000 → house_deal_b1 x i y = some (.nx (y ++ ([32] ++ Lib.itoa n))) := fun i n y hi h0 h1 hy => by
    have := itoa_len h0 h1
    unfold house_deal_b1
    rw [idx_nat, hi, Option.bind_some, itoa_m h0 h1, Option.bind_some, chk_t (by simp only [List.length_cons, List.length_nil]; omega), Option.bind_some, chk_t (by simp only [List.length_append, List.length_cons, List.length_nil]; omega), Option.bind_some]
  unfold house_deal_m
  rw [chk_t (by simp only [List.length_cons, List.length_nil]; omega), Option.bind_some, chk_t (by simp only [List.length_append, List.length_cons, List.length_nil]; omega), Option.bind_some, chk_t (by simp only [List.length_append, List.length_cons, List.length_nil]; omega), Option.bind_some]
  rw [show [x.2.2.1, x.2.2.2.1, x.2.2.2.2.1, x.2.2.2.2.2].length = 0 + 1 + 1 + 1 + 1 from rfl]
  simp only [rangeN]
  rw [st 0 x.2.2.1 _ rfl r1.1 r1.2 (by simp only [List.length_append, List.length_cons, List.length_nil]; omega)]
  dsimp only
  rw [st (0 + 1) x.2.2.2.1 _ rfl r2.1 r2.2 (by simp only [List.length_append, List.length_cons, List.length_nil]; omega)]
  dsimp only
  rw [st (0 + 1 + 1) x.2.2.2.2.1 _ rfl r3.1 r3.2 (by simp only [List.length_append, List.length_cons, List.length_nil]; omega)]
  dsimp only
  rw [st (0 + 1 + 1 + 1) x.2.2.2.2.2 _ rfl (by omega) (by omega) (by simp only [List.length_append, List.length_cons, List.length_nil]; omega)]
  rw [bindR]
  try dsimp only
  rw [chk_t (by simp only [List.length_append, List.length_cons, List.length_nil]; omega), Option.bind_some, chk_t (by simp only [List.length_append, List.length_cons, List.length_nil]; omega), Option.bind_some]
  simp [recO, wordsO, joinW]
theorem find_acct (h : Hs) (s : Bs) : house_House_find_m h s = some (if h.1.any (fun a => a.1 == s) then (h.1.findIdx (fun a => a.1 == s) : Int) else -1) := by
  unfold house_House_find_m
  rw [indexA h.1 (fun a0 => house_House_find_1_m a0 s) (fun a => a.1 == s) (fun a => rfl)]; rfl
/-- what is taken, one by one -/
theorem built_runs {x0 : List Deal} {l out : List Acct} {t : Bs} {room left : Int} {ks : List Int} (hq : ∀ d ∈ x0, ShortD d ∧ rt d = 0) (ht : Short t ∧ nm t = true) (hB : Built x0 l t room ks left out) : ∀ j, j ≤ ks.length → Runs l ((ks.take j).map fun k => Op.d (nth x0 k.toNat) t) (runL x0 t l (ks.take j))
  | 0, _ => .nil _
  | j + 1, hj => by
    have ih := built_runs hq ht hB j (by omega)
    have hjl : j < ks.length := by omega
    obtain ⟨i0, i1⟩ := hB.idx j hjl
    obtain ⟨e1, e2⟩ := hB.each j hjl
    have hm : nth x0 (nth ks j).toNat ∈ x0 := nth_mem (by omega)
    obtain ⟨hd, hr⟩ := hq _ hm
    have htk := (tk_ok (t := t) e1 hd).1
    rw [List.take_succ_eq_append_getElem hjl, ← nth_get hjl, List.map_append]
    have : runL x0 t l (ks.take j ++ [nth ks j]) = (tk (runL x0 t l (ks.take j)) (nth x0 (nth ks j).toNat) t).1 := by unfold runL; rw [List.foldl_append]; rfl
    rw [this]
    refine ih.append (.cons ⟨hd, ht.1, ht.2, hr⟩ ?_ (.nil _))
    show ledger_Take_m _ _ _ = _
    rw [htk, ← e2]
theorem build_did {h : Hs} {ps : List Op} {s : Nat} {d : Dd} (hI : Inv h ps s) (hsh : Short d.2.2.1) : ∃ t e h', house_House_build_m h d = some (t, e, h') ∧ ((e ≠ 0 ∧ h' = h ∧ t = (0, 0)) ∨ (e = 0 ∧ ∃ qs : List Op, (∀ q ∈ qs, ∃ x t, q = Op.d x t) ∧ Inv h' (ps ++ qs) s)) := by
  obtain ⟨ac, of, dk, sf⟩ := h
  obtain ⟨hrun, hdk, hsf, hsl, hlen, hq, hso⟩ := hI
  dsimp only at hrun hdk hsf hq hso
  subst hdk
  obtain ⟨hA, hsA⟩ := hrun.accts0
  unfold house_House_build_m
  dsimp only
  rw [find_acct, Option.bind_some]
  dsimp only
  by_cases hany : ac.any (fun a => a.1 == d.2.2.1) = true
  · rw [if_pos hany, if_neg (by rw [decide_eq_true_eq]; omega)]
    have hnm : nm d.2.2.1 = true := by
      obtain ⟨a, ha, e⟩ := List.any_eq_true.1 hany
      rw [beq_iff_eq] at e
      rw [← e]; exact hA.name a ha
    obtain ⟨p, e1, hp⟩ := build_ok (t := d.2.2.1) (room := d.2.1) hso hsA
    obtain ⟨ks, out, er⟩ := p
    rw [e1, Option.bind_some]
    dsimp only at hp ⊢
    rcases hp with ⟨he, _, _⟩ | ⟨he, _, hr0, hr1, left, hB, _⟩
    · rw [if_pos (by rw [bne_iff_ne]; exact he)]
      exact ⟨_, er, _, rfl, .inl ⟨he, rfl, rfl⟩⟩
    · subst he
      rw [if_neg (by decide), show log_Log_Size_m (cat (ps.map recO), sf) = some (((cat (ps.map recO)).length : Int), sf) from rfl, Option.bind_some]
      dsimp only
      have hkl : ks.length ≤ 1000 := by have := hB.len; have := hB.lo; omega
      have hruns := built_runs (fun x hx => ⟨hso x hx, hq.right x hx⟩) ⟨hsh, hnm⟩ hB ks.length (Nat.le_refl _)
      rw [List.take_length, ← hB.run] at hruns
      have hright : ∀ j, j < ks.length → RightO (.d (nth of (nth ks j).toNat) d.2.2.1) := fun j hj => hruns.right _ (List.mem_map.2 ⟨nth ks j, nth_mem hj, rfl⟩)
      generalize hqs : (ks.map fun k => Op.d (nth of k.toNat) d.2.2.1) = qs at hruns
      have hql : qs.length = ks.length := by rw [← hqs, List.length_map]
      have hqrec := right_recs hruns
      have hprec := right_recs hrun
      have hqn : ∀ j, j < ks.length → qs[j]? = some (.d (nth of (nth ks j).toNat) d.2.2.1) := fun j hj => by rw [← hqs, List.getElem?_map, nth_at hj]; rfl
      have htot := cat_le ((ps ++ qs).map recO) (fun r hr => by rw [List.map_append] at hr; rcases List.mem_append.1 hr with h | h; exact hprec r h; exact hqrec r h)
      have hpl := cat_len (ps.map recO)
      rw [List.length_map] at hpl
      have key : Ok (bindR (ρ := (Int × Int) × Int × Hs) (β := Unit) (σ := (List (List UInt8)) × Int × Int) (rangeN (γ := Unit) (house_House_build_b1 (ks, out, 0) (ac, of, cat (ps.map recO), sf) d) ks.length 0 ([], ((cat (ps.map recO)).length : Int), (0 : Int))) fun (l35, x37, x38) => (if decide (x37 > (4000 : Int)) then some ((((0 : Int), (0 : Int)) : (Int × Int)), (8 : Int), (ac, of, cat (ps.map recO), sf)) else bindR (ρ := (Int × Int) × Int × Hs) (β := Unit) (σ := Hs) (rangeN (γ := Unit) (house_House_build_b2 l35) (l35).length 0 (ac, of, cat (ps.map recO), sf)) fun l132 => (queue_Clean_m l132.2.1 out).bind fun y175 => some (((((ks).length : Int), x38) : (Int × Int)), (0 : Int), (out, y175.1, l132.2.2)))) (fun r => (r.2.1 ≠ 0 ∧ r.2.2 = (ac, of, cat (ps.map recO), sf) ∧ r.1 = (0, 0)) ∨ (r.2.1 = 0 ∧ Inv r.2.2 (ps ++ qs) s)) := by
        rw [ok_bindR]
        refine ok_rangeN (fun k (u : List Bs × Int × Int) => u.1 = (qs.map recO).take k ∧ u.2.1 = ((cat (ps.map recO ++ (qs.map recO).take k)).length : Int)) ⟨by simp, by simp⟩ (fun k u hk hu => ?_) fun u hu => ?_
        · obtain ⟨l35, x37, x38⟩ := u
          obtain ⟨u1, u2⟩ := hu
          dsimp only at u1 u2
          obtain ⟨i0, i1⟩ := hB.idx k hk
          have hRk := hright k hk
          have htk : (qs.map recO).take (k + 1) = (qs.map recO).take k ++ [recO (.d (nth of (nth ks k).toNat) d.2.2.1)] := by
            have hk' : k < (qs.map recO).length := by rw [List.length_map, hql]; exact hk
            rw [List.take_succ, List.getElem?_map, hqn k hk]; rfl
          have hrl := (rec_len hRk).1
          have hlk : ((qs.map recO).take k).length ≤ 1000 := by rw [List.length_take]; omega
          have hcl := cat_le (ps.map recO ++ (qs.map recO).take k) (fun r hr => by rcases List.mem_append.1 hr with h | h; exact hprec r h; exact hqrec r (List.mem_of_mem_take h))
          rw [List.length_append, List.length_map] at hcl
          unfold house_House_build_b1
          dsimp only
          rw [idx_nat, nth_at hk, Option.bind_some]
          have hix : idx of (nth ks k) = some (nth of (nth ks k).toNat) := by rw [idx_at i0, nth_at (by omega)]
          rw [hix, Option.bind_some, deal_rec hRk, Option.bind_some, chk_t (by rw [u1]; simp only [List.length_cons, List.length_nil]; omega), Option.bind_some, Option.bind_some, ok_some, flok_nx]
          refine ⟨by dsimp only; rw [u1, htk], ?_⟩
          dsimp only
          rw [htk, ← List.append_assoc, cat_snoc, List.length_append, fr_len, u2, wadd_of (x := ((recO (Op.d (nth of (nth ks k).toNat) d.2.2.1)).length : Int)) (by omega) (by omega), wadd_of (by omega) (by omega)]
          omega
        · obtain ⟨l35, x37, x38⟩ := u
          obtain ⟨u1, u2⟩ := hu
          dsimp only at u1 u2 ⊢
          rw [← hql, show (qs.map recO).take qs.length = qs.map recO by rw [← List.length_map (f := recO), List.take_length]] at u1 u2
          rw [← List.map_append] at u2
          subst u1
          by_cases hbig : x37 > 4000
          · rw [if_pos (by rw [decide_eq_true_eq]; exact hbig), ok_some]
            exact .inl ⟨by simp, rfl, rfl⟩
          · rw [if_neg (by rw [decide_eq_true_eq]; exact hbig), ok_bindR]
            have hlen2 : (cat ((ps ++ qs).map recO)).length ≤ 4000 := by omega
            refine ok_rangeN (fun k (u : Hs) => u = (ac, of, cat (ps.map recO ++ (qs.map recO).take k), sf)) (by simp) (fun k u hk hu => ?_) fun u hu => ?_
            · subst hu
              rw [List.length_map] at hk
              have hk2 : k < ks.length := by omega
              have hRk := hright k hk2
              have htk : (qs.map recO).take (k + 1) = (qs.map recO).take k ++ [recO (.d (nth of (nth ks k).toNat) d.2.2.1)] := by
                rw [List.take_succ, List.getElem?_map, hqn k hk2]; rfl
              have hcl : (cat (ps.map recO ++ (qs.map recO).take (k + 1))).length ≤ 4000 := by
                have := cat_take_le ((ps ++ qs).map recO) ((ps.map recO).length + (k + 1))
                rw [List.map_append, List.take_length_add_append] at this
                rw [List.map_append] at hlen2
                omega
              rw [htk, ← List.append_assoc, cat_snoc, List.length_append, fr_len] at hcl
              unfold house_House_build_b2
              dsimp only
              rw [idx_nat, List.getElem?_map, hqn k hk2, Option.map_some, Option.bind_some, append_ok _ _ _ (by omega), if_pos (rec_len hRk).1, if_pos hcl, Option.bind_some, ok_some, flok_nx]
              rw [htk, List.append_assoc]
            · rw [List.length_map, show (qs.map recO).take qs.length = qs.map recO by rw [← List.length_map (f := recO), List.take_length], ← List.map_append] at hu
              subst hu
              dsimp only
              obtain ⟨p, ep, hp⟩ := clean_ok (accts := out) hso (check_some hB.short)
              rw [ep, Option.bind_some, ok_some]
              refine .inr ⟨rfl, hrun.append hruns, rfl, ?_, ?_, hlen2, ?_, ?_⟩
              · dsimp only; rw [take_map_append hsl, hsf]
              · rw [List.length_append]; omega
              · rcases hp with ⟨e, _⟩ | ⟨e, _, _⟩
                · dsimp only; rw [e]; exact ⟨by simp, fun d h => by simp at h, fun i j _ h => by simp at h⟩
                · rw [e]; exact hq.filter _
              · rcases hp with ⟨e, _⟩ | ⟨e, _, _⟩
                · dsimp only; rw [e]; intro d h; simp at h
                · rw [e]; intro x hx; exact hso x (List.mem_filter.1 hx).1
      obtain ⟨r, e, hr⟩ := key
      refine ⟨r.1, r.2.1, r.2.2, e, ?_⟩
      rcases hr with hr | ⟨h1, h2⟩
      · exact .inl hr
      · refine .inr ⟨h1, qs, fun q hq => ?_, h2⟩
        rw [← hqs] at hq
        obtain ⟨k, _, rfl⟩ := List.mem_map.1 hq
        exact ⟨_, _, rfl⟩
  · rw [if_neg hany, if_pos (by decide)]
    exact ⟨_, 4, _, rfl, .inl ⟨by decide, rfl, rfl⟩⟩
end Go.Pu
