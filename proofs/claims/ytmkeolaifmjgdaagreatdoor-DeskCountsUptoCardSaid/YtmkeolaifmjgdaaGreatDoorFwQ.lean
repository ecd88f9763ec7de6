/- A deferred closure that recovers. No program in sight. -/
import Derived.Test.YtmkeolaifmjgdaaGreatDoorFwP
import Derived.Defers
import Derived.Recover
import Derived.OneCell
set_option linter.all false
namespace Go.Fw
open Go.RowKit
def dfr (fid : FuncId) (p : Value) : Deferred := { target := .fn (.func fid) #[p], args := #[] }
theorem calls_enterD {P : Program} {fid : FuncId} {fn : Func} {code : Code} (nt : Nat) (hf : P.funcs[fid]? = some fn) (hnt : fn.ntmps = nt) (hb : fn.body = some code) {args : Array Value} {w : World} {R : Ending → World → Prop} (B : World) (S : Hp) (f : Nat → Hp) (env : Env) (L L' : List It)
    (hn : Nat.ble args.size nt = true) (he : ArgsAre args env) (hB : Below B.heap.size B w) (hO : HeapOk B.heap.size S f L.length w) (hI : Its L S f) (hL : AllP S L')
    (h : GL P (bodyPostD P fn R) ⟨B, S, nt, false, []⟩ [code] env (L ++ L')) : Calls P fid args w R := by
  refine calls_of_wp_defers hf hb (Go.Code.wp_mono (fun e a w q => by cases e <;> exact q) (h _ w ?_))
  have hn' := Nat.le_of_ble_eq_true hn
  refine ⟨rfl, by simp [hnt]; omega, ?_, hB, (fun q => by cases q), S, fcat f L.length fun _ => Hp.emp, Hp.le_refl S, fun b hb => .inl hb, ?_, hI.cat (Hp.le_refl S) (fun i A hA => hL.at i A hA)⟩
  · intro t v e
    have := he.look e
    obtain ⟨h1, h2⟩ := Array.getElem?_eq_some_iff.1 this
    simp only
    rw [Array.getElem?_append_left h1]
    exact this
  · rw [List.length_append]; exact hO.emp hB.size _
section
variable {P : Program} {ops : Array Oper} {Q : Exit → Act → World → Prop} {c : Cx} {rest : List Oper} {env : Env} {L : List It} {ty : TypeId} {pos : String} {af : Array Edge} {g : Option (Nat × Bool)} {fn : Func}
theorem RL.dfr {fid : FuncId} {p : Value} {x : Operand} {ts : Array TypeId} (hg : wanted ops env g = some true) (hx : opv env x = some (.func (.func fid) #[] #[p]))
    (k : RL .plain P ops Q { c with dfs := Go.Fw.dfr fid p :: c.dfs } rest env L) : RL .plain P ops Q c (⟨none, .defer ⟨.value x, #[], ts⟩, ty, pos, af, g⟩ :: rest) env L := by
  intro a w st
  unfold wpList
  rw [if_pos (wanted_ok (o := ⟨none, .defer ⟨.value x, #[], ts⟩, ty, pos, af, g⟩) st.env hg)]
  left
  unfold Oper.wp
  have hr : (execOp a.eval ⟨none, .defer ⟨.value x, #[], ts⟩, ty, pos, af, g⟩).run P w = .ok (.defer (Go.Fw.dfr fid p)) w := by
    simp [execOp, resolve, opv_ok st.env hx, Deferred.ofValue, Go.Fw.dfr]
  rw [hr]
  refine k _ _ ⟨?_, ?_, ?_, st.below, st.calm, st.heap⟩
  · show Go.Fw.dfr fid p :: a.defers = _
    rw [st.defers]
  · exact st.size
  · exact st.env
theorem St.strCell {a : Act} {w : World} {e : TypeId} {v : Value} {x : List UInt8} (n : Nat) (hA : L[n]? = some (obox e TR.str v x)) (st : St c env L a w) : ∃ b, v = .pointer (some ⟨b, 0, none⟩) ∧ w.heap[b]? = some (.cells #[.string ⟨x.toArray⟩] e (0, 0)) := by
  obtain ⟨S, f, h1, h2, h3, h4⟩ := st.heap
  have hn := (List.getElem?_eq_some_iff.1 hA).1
  obtain ⟨b, cs, e1, e2, e3⟩ := h4 n _ hA
  have e3' : cs = [.string ⟨x.toArray⟩] := e3
  subst e3'
  exact ⟨b, e1, h3.subf n hn b _ e2⟩
theorem rdRes_str {tmps : Array Value} {w : World} {q : Tmp} {T e : TypeId} {b : Nat} {s : ByteArray} (hE : Ln P T 1 false) (hv : tmps[q]? = some (.pointer (some ⟨b, 0, none⟩))) (hb : w.heap[b]? = some (.cells #[.string s] e (0, 0))) : (rdRes tmps (.cell q T)).run P w = .ok (.string s) w := by
  obtain ⟨h1, h2⟩ := Array.getElem?_eq_some_iff.1 hv
  have hc : w.cell? ⟨b, 0, none⟩ = some (.string s) := by unfold World.cell?; rw [hb]; rfl
  simp [rdRes, h1, h2, asAddr, loadVar, run_isAgg hE, hc, go_sem]
theorem Gx.retD {R : Ending → World → Prop} {fid : FuncId} {q : Tmp} {T e : TypeId} {v : Value} {x : List UInt8} (n : Nat) (hres : fn.results = #[.cell q T]) (hE : Ln P T 1 false) (hA : L[n]? = some (obox e TR.str v x)) (hv : look env q = some v) (hd : c.dfs = [Go.Fw.dfr fid v])
    (hi : ∀ (u : Value) (w : World), (invoke (.fn (.func fid) #[u]) #[]).run P w = .ok (.enter fid #[u]) w)
    (hc : ∀ (p : Addr) (w : World), CallsD P fid #[.pointer (some p)] .returning w fun e u' w' => e = .returned (.tuple #[]) ∧ u' = .returning ∧ w' = w)
    (h : ∀ a w, St c env L a w → R (.returned (.string ⟨x.toArray⟩)) w) : ∀ a w, St c env L a w → Leaves P fn a.tmps R a.defers .returning w := by
  intro a w st
  obtain ⟨b, rfl, hb⟩ := st.strCell n hA
  rw [st.defers, hd]
  refine leaves_cons (f := fid) (args := #[.pointer (some ⟨b, 0, none⟩)]) (by simp) (hi _ w) ?_
  refine (hc _ w).mono ?_
  rintro e u' w' ⟨rfl, rfl, rfl⟩
  show Leaves P fn a.tmps R [] .returning w'
  exact ⟨.string ⟨x.toArray⟩, results_run (rs := [.cell q T]) (vs := [.string ⟨x.toArray⟩]) hres ⟨rdRes_str hE (look_ok st.env hv) hb, trivial⟩, h a _ st⟩
theorem Gx.catchD {R : Ending → World → Prop} {fid : FuncId} {q : Tmp} {T T' e : TypeId} {v : Value} {x z : List UInt8} {x0 : Int} {gm : Nat} (n : Nat) (hres : fn.results = #[.cell q T]) (hE : Ln P T 1 false) (hA : L[n]? = some (obox e TR.str v x)) (hv : look env q = some v) (hd : c.dfs = [Go.Fw.dfr fid v]) (hq : c.still = false)
    (hi : ∀ (u : Value) (w : World), (invoke (.fn (.func fid) #[u]) #[]).run P w = .ok (.enter fid #[u]) w) (hT : Tab P gm c.S0)
    (hc : ∀ (p : Addr) (s0 : ByteArray) (w : World), w.cell? p = some (.string s0) → w.frozen? p = false → Lib.TabIs P w "internal/strconv.uint64pow10" .u64 Lib.pow10Tab → CallsD P fid #[.pointer (some p)] (.panicking (refuse T' x0)) w fun e u' w' =>
      e = .returned (.tuple #[]) ∧ u' = .panicking [{ v := .iface T' (.agg #[.int .i64 x0]), recovered := true }] ∧ ∃ k os, w' = (Go.Sort.grow (w.drewN k) os).setCell p (.string ⟨z.toArray⟩))
    (h : ∀ a w, St c env (L.set n (obox e TR.str v z)) a w → R (.returned (.string ⟨z.toArray⟩)) w) :
    ∀ a w, St c env L a w → ∀ t : Array Value, t[q]? = a.tmps[q]? → Leaves P fn t R a.defers (.panicking (refuse T' x0)) w := by
  intro a w st t ht
  obtain ⟨b, rfl, hb⟩ := st.strCell n hA
  have hn := (List.getElem?_eq_some_iff.1 hA).1
  rw [st.defers, hd]
  obtain ⟨S, f, e1, e2, e3, e4⟩ := st.heap
  have hcell : w.cell? ⟨b, 0, none⟩ = some (.string ⟨x.toArray⟩) := by unfold World.cell?; rw [hb]; rfl
  have hfz : w.frozen? ⟨b, 0, none⟩ = false := by unfold World.frozen?; rw [hb]; rfl
  refine leaves_cons (f := fid) (args := #[.pointer (some ⟨b, 0, none⟩)]) (by simp) (hi _ w) ?_
  refine (hc _ _ w hcell hfz (hT.pow w (Hp.le_sub e1 e3.sub))).mono ?_
  rintro e' u' w' ⟨rfl, rfl, k, os, rfl⟩
  show Leaves P fn t R [] .returning _
  have hbel := belowGrow0 w k os
  generalize Go.Sort.grow (w.drewN k) os = w1 at hbel ⊢
  have hblt : b < w.heap.size := by
    rcases Nat.lt_or_ge b w.heap.size with h | h
    · exact h
    · rw [Array.getElem?_eq_none h] at hb; cases hb
  have hb1 : w1.heap[b]? = some (.cells #[.string ⟨x.toArray⟩] e (0, 0)) := by rw [hbel.block b hblt]; exact hb
  have hb2 := one_setCell (u := .string ⟨z.toArray⟩) hb1
  have st1 : St c env L a w1 := ⟨st.defers, st.size, st.env, st.below.trans (hbel.mono st.below.size), (fun q => by rw [hq] at q; cases q), S, f, e1, e2, ⟨Hp.sub_grow e3.sub hbel, fun i hi => Hp.sub_grow (e3.subf i hi) hbel, e3.dS, e3.df, e3.lo⟩, e4⟩
  obtain ⟨b', cs, q1, q2, q3⟩ := e4 n _ hA
  cases q1
  have st2 : St c env (L.set n (obox e TR.str (.pointer (some ⟨b, 0, none⟩)) z)) a (w1.setCell ⟨b, 0, none⟩ (.string ⟨z.toArray⟩)) :=
    St.upd st1 st.defers st.size st.env e1 e2 ⟨Hp.sub_grow e3.sub hbel, fun i hi => Hp.sub_grow (e3.subf i hi) hbel, e3.dS, e3.df, e3.lo⟩ e4 n _ (Hp.one b (.cells #[.string ⟨z.toArray⟩] e (0, 0))) hn hq rfl rfl rfl (by simp [World.setCell])
      (Hp.one_sub hb2) (fun b2 hb2' => by
        by_cases hh : b2 = b
        · subst hh; left; rw [q2]; simp
        · exact absurd (Hp.one_ne hb2') hh)
      (fun b2 hlt hnone => Below.heap_setCell _ _ _ _ (fun hh => by
        have hh' : b2 = b := hh
        subst hh'; rw [q2] at hnone; cases hnone)) ⟨b, [.string ⟨z.toArray⟩], rfl, Hp.one_self _ _, rfl⟩
  exact ⟨.string ⟨z.toArray⟩, results_run (rs := [.cell q T]) (vs := [.string ⟨z.toArray⟩]) hres ⟨rdRes_str hE (by rw [ht]; exact look_ok st.env hv) hb2, trivial⟩, h a _ st2⟩
theorem RL.callKE {d : Option Nat} {T : TypeId} {n : Int} {LR Ls : List It} (ns : List Nat) (hns : ns.Nodup) {x : Operand} {fid : FuncId} {cap : Array Value} {args : Array Operand} {vs : List Value} {ts : Array TypeId} (hf : Fit P fid) (hq : c.still = false) (hg : wanted ops env g = some true)
    (hx : opv env x = some (.func (.func fid) #[] cap)) (ha : args.toList.map (opv env) = vs.map some) (hLs : ns.map (fun i => L[i]?) = Ls.map some)
    (hc : ∀ S f X w, HeapOk c.w0.heap.size S f (Ls ++ [keep X]).length w → Below c.w0.heap.size c.w0 w → Hp.le c.S0 S → Its (Ls ++ [keep X]) S f → (∀ (i : Nat) (B : It) (R : Hp → Prop), L[i]? = some B → Sure B R → R S) → Calls P fid (vs.toArray ++ cap) w (PostMX c.w0 S (fun (_ : Unit) => .panicked (refuse T n)) (fun _ => LR ++ [keep X])))
    (k : Gx Q c (.panic (refuse T n)) env (goneAt L ns ++ LR)) : RL .plain P ops Q c (⟨d, .call ⟨.value x, args, ts⟩, ty, pos, af, g⟩ :: rest) env L := by
  intro a w st
  unfold wpList
  rw [if_pos (wanted_ok (o := ⟨d, .call ⟨.value x, args, ts⟩, ty, pos, af, g⟩) st.env hg)]
  left
  unfold Oper.wp
  rw [run_call' w hf st.env hx ha]
  obtain ⟨S, f, X, e1, e2, e3, e4, k1, k2, k3⟩ := st.lendK ns hns hLs
  refine (hc S _ X w k2 st.below e1 k3 (fun i B R hB hs => hs S (f i) (e4 i B hB))).mono ?_
  rintro e w' ⟨o, rfl, hb, S', g', hS, hS2, hO, hI⟩
  exact k a w' (st.backK hns hq st.defers st.size st.env e1 e2 e3 e4 k1 hb hS hS2 hO hI)
end
end Go.Fw
