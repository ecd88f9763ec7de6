/- Calls that may end by a panic with a number of the program's own. No program in sight. -/
import Derived.Test.YtmkeolaifmjgdaaGreatDoorFwZ
set_option linter.all false
namespace Go.Fw
open Go.RowKit
theorem dec_short : ∀ (k u : Nat), u < 10 ^ (k + 1) → (Lib.decDigits u).length ≤ k + 1
  | 0, u, h => by rw [Lib.decDigits, dif_pos (by omega)]; simp
  | k + 1, u, h => by
    rw [Lib.decDigits]
    by_cases h' : u < 10
    · rw [dif_pos h']; simp
    · rw [dif_neg h', List.length_append]
      have : (10 : Nat) ^ (k + 1 + 1) = 10 ^ (k + 1) * 10 := Nat.pow_succ ..
      have := dec_short k (u / 10) (by omega)
      simp only [List.length_cons, List.length_nil]; omega
theorem itoa_short {n : Int} (h0 : 0 ≤ n) (h1 : n ≤ 1000000) : (Lib.itoa n).length ≤ 7 := by
  unfold Lib.itoa; rw [if_neg (by omega)]; exact dec_short 6 _ (by omega)
def refuse (T : TypeId) (x : Int) : List PanicEntry := [{ v := .iface T (.agg #[.int .i64 x]), recovered := false }]
def thr {α β : Type} (r : Except Int α) (f : Int → β) (g : α → β) : β := match r with | .error x => f x | .ok z => g z
theorem thr_e {α β : Type} {x : Int} {f : Int → β} {g : α → β} {r : β} (h : thr (.error x) f g = r) : f x = r := h
theorem thr_o {α β : Type} {z : α} {f : Int → β} {g : α → β} {r : β} (h : thr (.ok z) f g = r) : g z = r := h
def thrP {α : Type} (bad : Int → Ending → World → Prop) (good : α → Ending → World → Prop) (r : Except Int α) : Ending → World → Prop := match r with | .error x => bad x | .ok z => good z
theorem thrP_ok {α : Type} {bad : Int → Ending → World → Prop} {good : α → Ending → World → Prop} {z : α} {e : Ending} {w : World} (h : good z e w) : thrP bad good (.ok z) e w := h
theorem thrP_err {α : Type} {bad : Int → Ending → World → Prop} {good : α → Ending → World → Prop} {x : Int} {e : Ending} {w : World} (h : bad x e w) : thrP bad good (.error x) e w := h
def PostE (T : TypeId) (w : World) (x : Int) : Ending → World → Prop := fun e w' => e = .panicked (refuse T x) ∧ Below w.heap.size w w'
def PostMX {O : Type} (B : World) (S : Hp) (E : O → Ending) (LR : O → List It) : Ending → World → Prop := fun e w' =>
  ∃ o, e = E o ∧ Below B.heap.size B w' ∧ ∃ S' g, Hp.le S S' ∧ (∀ b, S' b ≠ none → S b ≠ none ∨ B.heap.size ≤ b) ∧ HeapOk B.heap.size S' g (LR o).length w' ∧ Its (LR o) S' g
section
variable {P : Program} {ops : Array Oper} {Q : Exit → Act → World → Prop} {c : Cx} {rest : List Oper} {env : Env} {L : List It} {d : Option Nat} {ty : TypeId} {pos : String} {af : Array Edge} {g : Option (Nat × Bool)} {fn : Func}
theorem St.toPostE {a : Act} {w : World} {T : TypeId} {x : Int} (st : St c env L a w) : PostE T c.w0 x (.panicked (refuse T x)) w := ⟨rfl, st.below⟩
theorem St.toPostMX {a : Act} {w : World} {O : Type} {E : O → Ending} {LR : O → List It} (o : O) (st : St c env (LR o) a w) : PostMX c.w0 c.S0 E LR (E o) w := by
  obtain ⟨S, f, e1, e2, e3, e4⟩ := st.heap
  exact ⟨o, rfl, st.below, S, f, e1, e2, e3, e4⟩
theorem Gx.thr {R : Ending → World → Prop} {T : TypeId} {x : Int} (h : ∀ a w, St c env L a w → R (.panicked (refuse T x)) w) (hd : c.dfs = [] := by rfl) : ∀ a w, St c env L a w → (a.defers = [] ∧ R (.panicked (refuse T x)) w) := fun a w st => ⟨st.defers.trans hd, h a w st⟩
theorem RL.callE {T : TypeId} {n : Int} {x : Operand} {fid : FuncId} {cap : Array Value} {args : Array Operand} {vs : List Value} {ts : Array TypeId} (hf : Fit P fid) (hq : c.still = false) (hg : wanted ops env g = some true)
    (hx : opv env x = some (.func (.func fid) #[] cap)) (ha : args.toList.map (opv env) = vs.map some)
    (hc : ∀ U w, U.sub w → Hp.le c.S0 U → (∀ (n : Nat) (A : It) (B : Hp → Prop), L[n]? = some A → Seen A B → B U) → Calls P fid (vs.toArray ++ cap) w (PostE T w n))
    (k : Gx Q c (.panic (refuse T n)) env L) : RL .plain P ops Q c (⟨d, .call ⟨.value x, args, ts⟩, ty, pos, af, g⟩ :: rest) env L := by
  intro a w st
  unfold wpList
  rw [if_pos (wanted_ok (o := ⟨d, .call ⟨.value x, args, ts⟩, ty, pos, af, g⟩) st.env hg)]
  left
  unfold Oper.wp
  rw [run_call' w hf st.env hx ha]
  obtain ⟨S, f, e1, e2, e3, e4⟩ := st.heap
  refine (hc (cupAll S f L.length) w (cupAll_sub e3 _ (Nat.le_refl _)) (Hp.le_trans e1 (cupAll_le _ _ _)) fun i A B hA hs => hs S _ _ (cupAll_le _ _ _) (cupAll_at e3 _ (Nat.le_refl _) i (List.getElem?_eq_some_iff.1 hA).1) (e4 i A hA)).mono ?_
  rintro e w' ⟨rfl, hb⟩
  exact k a w' ⟨st.defers, st.size, st.env, st.below.trans (hb.mono st.below.size), (fun q => by rw [hq] at q; cases q), S, f, e1, e2, ⟨Hp.sub_grow e3.sub hb, fun i hi => Hp.sub_grow (e3.subf i hi) hb, e3.dS, e3.df, e3.lo⟩, e4⟩
end
end Go.Fw
