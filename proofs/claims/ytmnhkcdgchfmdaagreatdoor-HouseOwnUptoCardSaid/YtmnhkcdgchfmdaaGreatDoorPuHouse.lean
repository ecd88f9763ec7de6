/- The plain law: what is written is what is read: the accounts are what the records tell. -/
import Derived.Test.YtmnhkcdgchfmdaaGreatDoorWHouseOwnModels
import Derived.Test.YtmnhkcdgchfmdaaGreatDoorPuHText
import Derived.Test.YtmnhkcdgchfmdaaGreatDoorPuLogC
import Derived.Test.YtmnhkcdgchfmdaaGreatDoorPuLedgerO
import Derived.Test.YtmnhkcdgchfmdaaGreatDoorPuPick
set_option linter.all false
namespace Go.Pu
open Go.Fw Go.Mo
inductive Op where
  | o (s : Bs) (n : Int)
  | d (x : Deal) (t : Bs)
instance : Inhabited Op := ⟨.o [] 0⟩
def wordsO : Op → List Bs
  | .o s n => [[111], s, Lib.itoa n]
  | .d x t => [[100], x.1, x.2.1, Lib.itoa x.2.2.1, Lib.itoa x.2.2.2.1, Lib.itoa x.2.2.2.2.1, Lib.itoa x.2.2.2.2.2, t]
def recO (p : Op) : Bs := joinW (wordsO p)
def RightO : Op → Prop
  | .o s n => Short s ∧ nm s = true ∧ 0 ≤ n ∧ n ≤ 1000000
  | .d x t => ShortD x ∧ Short t ∧ nm t = true ∧ rt x = 0
def StepO (l : List Acct) : Op → List Acct → Prop
  | .o s n, m => ledger_Open_m l s n = some (m, 0)
  | .d x t, m => ledger_Take_m l x t = some (m, 0)
inductive Runs : List Acct → List Op → List Acct → Prop
  | nil (l : List Acct) : Runs l [] l
  | cons {l m k : List Acct} {p : Op} {ps : List Op} (hr : RightO p) (hs : StepO l p m) (h : Runs m ps k) : Runs l (p :: ps) k
theorem StepO.det {l m k : List Acct} {p : Op} (h1 : StepO l p m) (h2 : StepO l p k) : m = k := by
  cases p with
  | o s n => have := h1.symm.trans h2; cases this; rfl
  | d x t => have := h1.symm.trans h2; cases this; rfl
theorem Runs.det {l m k : List Acct} {ps : List Op} (h1 : Runs l ps m) (h2 : Runs l ps k) : m = k := by
  induction h1 with
  | nil l => cases h2; rfl
  | cons hr hs h ih => cases h2 with | cons hr2 hs2 h2 => have := hs.det hs2; subst this; exact ih h2
theorem Runs.append {l m k : List Acct} {ps qs : List Op} (h1 : Runs l ps m) (h2 : Runs m qs k) : Runs l (ps ++ qs) k := by
  induction h1 with
  | nil l => exact h2
  | cons hr hs h ih => exact .cons hr hs (ih h2)
theorem Runs.split {l k : List Acct} : ∀ {ps qs : List Op}, Runs l (ps ++ qs) k → ∃ m, Runs l ps m ∧ Runs m qs k := by
  intro ps
  induction ps generalizing l with
  | nil => intro qs h; exact ⟨l, .nil l, h⟩
  | cons p ps ih =>
    intro qs h
    cases h with
    | cons hr hs h => obtain ⟨m, h1, h2⟩ := ih h; exact ⟨m, .cons hr hs h1, h2⟩
theorem opened_facts {l m : List Acct} {s : Bs} {n : Int} (hs : ShortA l) (hsh : Short s) (h : ledger_Open_m l s n = some (m, 0)) : Accts l ∧ 0 ≤ n ∧ n ≤ 1000000 ∧ m.Perm (l ++ [(s, n, 0)]) ∧ Accts m ∧ ShortA m ∧ nm s = true := by
  obtain ⟨p, e, hp⟩ := open_ok (n := n) hs hsh
  rw [h] at e; cases e
  cases hp with
  | no e he => exact absurd rfl he
  | yes _ hA h0 h1 hm hA2 =>
    refine ⟨hA, h0, h1, hm, hA2, fun a ha => ?_, hA2.name (s, n, 0) (hm.mem_iff.2 (by simp))⟩
    rcases List.mem_append.1 (hm.mem_iff.1 ha) with h | h
    · exact hs a h
    · rw [List.mem_singleton] at h; subst h; exact hsh
theorem took_facts {l m : List Acct} {x : Deal} {t : Bs} (hs : ShortA l) (hd : ShortD x) (h : ledger_Take_m l x t = some (m, 0)) : ∃ i j k, Accts l ∧ rt x = 0 ∧ i < l.length ∧ j < l.length ∧ k < l.length ∧ (nth l k).1 = t ∧ Moved l i j k x.2.2.2.1 x.2.2.2.2.1 m ∧ Accts m ∧ ShortA m := by
  obtain ⟨p, e, hp⟩ := take_ok (t := t) hs hd
  rw [h] at e; cases e
  cases hp with
  | no e he => exact absurd rfl he
  | yes i j k _ hA hr hi hj hk _ _ et _ _ hm hA2 => exact ⟨i, j, k, hA, hr, hi, hj, hk, et, hm, hA2, hm.short hs⟩
theorem StepO.accts {l m : List Acct} {p : Op} (hs : ShortA l) (hr : RightO p) (h : StepO l p m) : Accts m ∧ ShortA m := by
  cases p with
  | o s n => obtain ⟨_, _, _, _, a, b, _⟩ := opened_facts hs hr.1 h; exact ⟨a, b⟩
  | d x t => obtain ⟨i, j, k, _, _, _, _, _, _, _, a, b⟩ := took_facts hs hr.1 h; exact ⟨a, b⟩
theorem accts_nil : Accts [] := ⟨by simp, fun a h => by simp at h, fun k h => by simp at h, fun a h => by simp at h⟩
theorem Runs.accts {l m : List Acct} {ps : List Op} (h : Runs l ps m) (hA : Accts l) (hs : ShortA l) : Accts m ∧ ShortA m := by
  induction h with
  | nil l => exact ⟨hA, hs⟩
  | cons hr hst h ih => obtain ⟨a, b⟩ := hst.accts hs hr; exact ih a b
theorem Runs.accts0 {m : List Acct} {ps : List Op} (h : Runs [] ps m) : Accts m ∧ ShortA m := h.accts accts_nil (fun a h => by simp at h)
theorem Runs.right {l m : List Acct} {ps : List Op} (h : Runs l ps m) : ∀ p ∈ ps, RightO p := by
  induction h with
  | nil l => intro p hp; simp at hp
  | cons hr hst h ih =>
    intro p hp
    rcases List.mem_cons.1 hp with rfl | hp
    · exact hr
    · exact ih p hp
/-! ### the records -/
theorem rec_len {p : Op} (h : RightO p) : (recO p).length ≤ 64 ∧ 1 ≤ (recO p).length := by
  cases p with
  | o s n =>
    obtain ⟨h1, h2, h3, h4⟩ := h
    have := nm_facts h1 h2; have := itoa_len h3 h4
    simp only [recO, wordsO, joinW, List.length_append, List.length_cons, List.length_nil]; omega
  | d x t =>
    obtain ⟨h1, h2, h3, h4⟩ := h
    obtain ⟨r1, r2, r3, r4, r5, r6, _⟩ := rt_facts h1 h4
    have := nm_facts h2 h3; have := nm_facts h1.1 r5; have := nm_facts h1.2 r6
    have := itoa_len r1.1 r1.2; have := itoa_len r2.1 r2.2; have := itoa_len r3.1 r3.2; have := itoa_len3 (by omega) r4.2
    simp only [recO, wordsO, joinW, List.length_append, List.length_cons, List.length_nil]; omega
theorem rec_words {p : Op} (h : RightO p) : strings_Split_m (recO p) [32] = some (wordsO p) := by
  have hl := rec_len h
  unfold strings_Split_m
  rw [chk_t ⟨by omega, by simp⟩, Option.bind_some]
  unfold recO
  cases p with
  | o s n =>
    obtain ⟨h1, h2, h3, h4⟩ := h
    rw [splitL_join (by simp [wordsO])]
    intro w hw
    simp only [wordsO, List.mem_cons, List.not_mem_nil, or_false] at hw
    rcases hw with rfl | rfl | rfl
    · decide
    · exact nm_no h1 h2
    · exact itoa_no h3
  | d x t =>
    obtain ⟨h1, h2, h3, h4⟩ := h
    obtain ⟨r1, r2, r3, r4, r5, r6, _⟩ := rt_facts h1 h4
    rw [splitL_join (by simp [wordsO])]
    intro w hw
    simp only [wordsO, List.mem_cons, List.not_mem_nil, or_false] at hw
    rcases hw with rfl | rfl | rfl | rfl | rfl | rfl | rfl | rfl
    · decide
    · exact nm_no h1.1 r5
    · exact nm_no h1.2 r6
    · exact itoa_no r1.1
    · exact itoa_no r2.1
    · exact itoa_no r3.1
    · exact itoa_no (by omega)
    · exact nm_no h2 h3
theorem read_four {w : List Bs} {a b c d : Int} (h3 : idx w 3 = some (Lib.itoa a)) (h4 : idx w 4 = some (Lib.itoa b)) (h5 : idx w 5 = some (Lib.itoa c)) (h6 : idx w 6 = some (Lib.itoa d))
    (ha : 0 ≤ a ∧ a ≤ 1000000) (hb : 0 ≤ b ∧ b ≤ 1000000) (hc : 0 ≤ c ∧ c ≤ 1000000) (hd : 0 ≤ d ∧ d ≤ 1000000) :
    loopM (γ := List Acct) (house_House_read_b2 w) 1048576 (List.replicate 4 (0 : Int), (0 : Int)) = some (.nx ([a, b, c, d], 4)) := by
  have s0 : house_House_read_b2 w (List.replicate 4 (0 : Int), (0 : Int)) = some (.nx ([a, 0, 0, 0], 1)) := by
    unfold house_House_read_b2; dsimp only
    rw [if_pos (by decide), show wadd 3 0 = 3 by decide, h3, Option.bind_some, atoi_m ha.1 ha.2]; rfl
  have s1 : house_House_read_b2 w ([a, 0, 0, 0], (1 : Int)) = some (.nx ([a, b, 0, 0], 2)) := by
    unfold house_House_read_b2; dsimp only
    rw [if_pos (by decide), show wadd 3 1 = 4 by decide, h4, Option.bind_some, atoi_m hb.1 hb.2]; rfl
  have s2 : house_House_read_b2 w ([a, b, 0, 0], (2 : Int)) = some (.nx ([a, b, c, 0], 3)) := by
    unfold house_House_read_b2; dsimp only
    rw [if_pos (by decide), show wadd 3 2 = 5 by decide, h5, Option.bind_some, atoi_m hc.1 hc.2]; rfl
  have s3 : house_House_read_b2 w ([a, b, c, 0], (3 : Int)) = some (.nx ([a, b, c, d], 4)) := by
    unfold house_House_read_b2; dsimp only
    rw [if_pos (by decide), show wadd 3 3 = 6 by decide, h6, Option.bind_some, atoi_m hd.1 hd.2]; rfl
  have s4 : house_House_read_b2 w ([a, b, c, d], (4 : Int)) = some (.br ([a, b, c, d], 4)) := by
    unfold house_House_read_b2; dsimp only
    rw [if_neg (by decide)]
  rw [show (1048576 : Nat) = 1048571 + 1 + 1 + 1 + 1 + 1 from rfl]
  simp only [loopM, s0, s1, s2, s3, s4]
theorem read_step {rs : List Bs} {i : Nat} {p : Op} {l m : List Acct} (hi : rs[i]? = some (recO p)) (hr : RightO p) (h : StepO l p m) : house_House_read_b1 rs i l = some (.nx m) := by
  unfold house_House_read_b1
  rw [idx_nat, hi, Option.bind_some, rec_words hr, Option.bind_some]
  cases p with
  | o s n =>
    obtain ⟨h1, h2, h3, h4⟩ := hr
    rw [show idx (wordsO (.o s n)) 0 = some [111] from rfl, Option.bind_some, if_pos (by decide), show idx (wordsO (.o s n)) 2 = some (Lib.itoa n) from rfl, Option.bind_some, atoi_m h3 h4, Option.bind_some, show idx (wordsO (.o s n)) 1 = some s from rfl, Option.bind_some, show ledger_Open_m l s n = some (m, 0) from h, Option.bind_some]
  | d x t =>
    obtain ⟨h1, h2, h3, h4⟩ := hr
    obtain ⟨r1, r2, r3, r4, r5, r6, _⟩ := rt_facts h1 h4
    rw [show idx (wordsO (.d x t)) 0 = some [100] from rfl, Option.bind_some, if_neg (by decide), read_four (w := wordsO (.d x t)) (a := x.2.2.1) (b := x.2.2.2.1) (c := x.2.2.2.2.1) (d := x.2.2.2.2.2) rfl rfl rfl rfl r1 r2 r3 (by omega)]
    rw [bindF]
    dsimp only
    rw [show idx (wordsO (.d x t)) 1 = some x.1 from rfl, Option.bind_some, show idx (wordsO (.d x t)) 2 = some x.2.1 from rfl, Option.bind_some, show idx (wordsO (.d x t)) 7 = some t from rfl, Option.bind_some]
    rw [show idx [x.2.2.1, x.2.2.2.1, x.2.2.2.2.1, x.2.2.2.2.2] 0 = some x.2.2.1 from rfl, Option.bind_some, show idx [x.2.2.1, x.2.2.2.1, x.2.2.2.2.1, x.2.2.2.2.2] 1 = some x.2.2.2.1 from rfl, Option.bind_some, show idx [x.2.2.1, x.2.2.2.1, x.2.2.2.2.1, x.2.2.2.2.2] 2 = some x.2.2.2.2.1 from rfl, Option.bind_some, show idx [x.2.2.1, x.2.2.2.1, x.2.2.2.2.1, x.2.2.2.2.2] 3 = some x.2.2.2.2.2 from rfl, Option.bind_some]
    rw [show ledger_Take_m l (x.1, x.2.1, x.2.2.1, x.2.2.2.1, x.2.2.2.2.1, x.2.2.2.2.2) t = some (m, 0) from h, Option.bind_some]
abbrev Hs := List Acct × List Deal × List UInt8 × Int
theorem read_ok {h : Hs} {ps : List Op} {fin : List Acct} (hd : h.2.2.1 = cat (ps.map recO)) (hlen : (cat (ps.map recO)).length ≤ 4000) (hr : Runs [] ps fin) : house_House_read_m h = some (fin, [], h.2.2) := by
  obtain ⟨ac, of, dk, sf⟩ := h
  dsimp only at hd; subst hd
  have hright := hr.right
  have hall := all_ok (ps.map recO) sf (fun r h => by obtain ⟨p, hp, rfl⟩ := List.mem_map.1 h; exact (rec_len (hright p hp)).1) hlen
  unfold house_House_read_m
  dsimp only
  rw [hall, Option.bind_some]
  refine Ok.eq ?_
  rw [ok_bindR]
  refine ok_rangeN (fun k l => Runs [] (ps.take k) l) (.nil []) (fun k l hk hI => ?_) fun l hl => ?_
  · rw [List.length_map] at hk
    have e : ps = ps.take k ++ (ps[k] :: ps.drop (k + 1)) := by rw [← List.drop_eq_getElem_cons hk, List.take_append_drop]
    rw [e] at hr
    obtain ⟨m, h1, h2⟩ := hr.split
    have := h1.det hI; subst this
    cases h2 with
    | cons hrr hs h2 =>
      rw [read_step (p := ps[k]) (by rw [List.getElem?_map, List.getElem?_eq_getElem hk]; rfl) hrr hs, ok_some, flok_nx, List.take_succ_eq_append_getElem hk]
      exact h1.append (.cons hrr hs (.nil _))
  · rw [List.length_map, List.take_length] at hl
    have := hl.det hr; subst this
    rw [ok_some]
end Go.Pu
