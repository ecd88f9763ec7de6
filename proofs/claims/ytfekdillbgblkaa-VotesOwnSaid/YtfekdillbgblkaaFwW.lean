/- How long the arguments can be: what the form's reach says of each slice. No program in sight. -/
import Derived.Test.YtfekdillbgblkaaFwX
import Derived.SizedLaws
set_option linter.all false
namespace Go.Fw
open Go.RowKit
section
variable {H : Type} {P : Program}
theorem weights_mem_all {e : TypeId} : ∀ {elems : List (DataW H)} {x : DataW H}, x ∈ elems → ∀ n ∈ x.weights P e, n ∈ DataW.weightsAll P e elems
  | y :: r, x, hx, n, hn => by
    simp only [DataW.weightsAll, List.mem_append]
    rcases List.mem_cons.1 hx with rfl | hx
    · exact .inl hn
    · exact .inr (weights_mem_all hx n hn)
  | [], _, hx, _, _ => by cases hx
/-- each piece of a datum within M bytes -/
def Within (P : Program) (M : Nat) (t : TypeId) (d : DataW H) : Prop := ∀ n ∈ d.weights P t, n ≤ M
theorem within_top {ts : List TypeId} {ds : List (DataW H)} (h : (DataW.weightsEach P ts ds).all (· ≤ reachBytes) = true) {j : Nat} {t : TypeId} {d : DataW H} (ht : ts[j]? = some t) (hd : ds[j]? = some d) : Within P 140737488351232 t d := fun n hn => by
  have := List.all_eq_true.1 h _ (DataW.weights_mem_each ht hd n hn)
  exact of_decide_eq_true this
theorem Within.slice {M : Nat} {T E : TypeId} (hu : P.underlying T = some (.slice E)) {elems rest : List (DataW H)} (h : Within P M T (.slice elems rest)) : elems.length * P.bytesOf E ≤ M ∧ ∀ x ∈ elems, Within P M E x := by
  refine ⟨?_, fun x hx n hn => h n ?_⟩
  · have := h ((elems.length + rest.length) * P.bytesOf E) (by simp [DataW.weights, hu])
    exact Nat.le_trans (Nat.mul_le_mul_right _ (Nat.le_add_right _ _)) this
  · simp only [DataW.weights, hu, List.mem_cons, List.mem_append]
    exact .inr (.inl (weights_mem_all hx n hn))
theorem Within.struct {M : Nat} {T : TypeId} {fs : Array Field} (hu : P.underlying T = some (.struct fs)) {parts : List (DataW H)} (h : Within P M T (.agg parts)) {i : Nat} {t : TypeId} {d : DataW H} (ht : (fs.toList.map (·.type))[i]? = some t) (hd : parts[i]? = some d) : Within P M t d := fun n hn => h n (by
  simp only [DataW.weights, hu]
  exact DataW.weights_mem_each ht hd n hn)
end
/-- the fields of a struct, from one on, by their places -/
def OpensDG {α : Type} (P : Program) (fs : List Field) (o i0 : Nat) (t : TR α) (R : α → Prop) (D : (H : Type) → List (DataW H) → α → Prop) : Prop :=
  ∀ (H : Type) (enc : TypeId × Value → H) (w : World) (spare : Nat → Bool) (held : Bool) (n : Nat) (cs : List Value) (ds : List (DataW H)), cs.length = o + t.size →
    (∀ (j : Nat) f, fs[j]? = some f → ∃ d, DataW.trod enc P w 0 spare held n f.type ((cs.drop f.offset).take (P.cellsOf f.type)) = some d ∧ ds[i0 + j]? = some d.1) → ∃ x, t.rep (whole w) (cs.drop o) x ∧ R x ∧ D H ds x
def OneG {α : Type} (i0 : Nat) (D : (H : Type) → DataW H → α → Prop) (H : Type) (ds : List (DataW H)) (x : α) : Prop := ∃ e, ds[i0]? = some e ∧ D H e x
def ConsG {α β : Type} (i0 : Nat) (D : (H : Type) → DataW H → α → Prop) (D' : (H : Type) → List (DataW H) → β → Prop) (H : Type) (ds : List (DataW H)) (x : α × β) : Prop := (∃ e, ds[i0]? = some e ∧ D H e x.1) ∧ D' H ds x.2
theorem OpensDG.last {α : Type} {P : Program} {f : Field} {o i0 : Nat} {t : TR α} {R : α → Prop} {D : (H : Type) → DataW H → α → Prop} (ho : f.offset = o) (h : OpensD P f.type t R D) (hs : P.cellsOf f.type = t.size) : OpensDG P [f] o i0 t R (OneG i0 D) := fun H enc w spare held n cs ds hl hf => by
  obtain ⟨d, hd, hm⟩ := hf 0 f rfl
  rw [ho, hs, List.take_of_length_le (by simp; omega)] at hd
  obtain ⟨x, h1, h2, h3⟩ := h H enc w spare held n _ d hd
  exact ⟨x, h1, h2, _, hm, h3⟩
theorem OpensDG.cons {α β : Type} {P : Program} {f : Field} {fs : List Field} {o i0 : Nat} {a : TR α} {b : TR β} {R : α → Prop} {R' : β → Prop} {D : (H : Type) → DataW H → α → Prop} {D' : (H : Type) → List (DataW H) → β → Prop} (ho : f.offset = o) (h : OpensD P f.type a R D) (hs : P.cellsOf f.type = a.size) (h' : OpensDG P fs (o + a.size) (i0 + 1) b R' D') :
    OpensDG P (f :: fs) o i0 (a.pair b) (fun x => R x.1 ∧ R' x.2) (ConsG i0 D D') := fun H enc w spare held n cs ds hl hf => by
  obtain ⟨d, hd, hm⟩ := hf 0 f rfl
  rw [ho, hs] at hd
  obtain ⟨x, hx, hr, hdx⟩ := h H enc w spare held n _ d hd
  have hl' : cs.length = o + a.size + b.size := by rw [hl]; show o + (a.size + b.size) = _; omega
  obtain ⟨y, hy, hr', hdy⟩ := h' H enc w spare held n cs ds hl' fun j g hg => by
    obtain ⟨d', h1, h2⟩ := hf (j + 1) g (by simpa using hg)
    exact ⟨d', h1, by rw [show i0 + 1 + j = i0 + (j + 1) by omega]; exact h2⟩
  refine ⟨(x, y), ⟨_, _, ?_, hx, hy⟩, ⟨hr, hr'⟩, ⟨_, hm, hdx⟩, hdy⟩
  rw [← List.drop_drop]
  exact (List.take_append_drop _ _).symm
theorem OpensD.structG {α : Type} {P : Program} {T : TypeId} {fs : List Field} {t : TR α} {R : α → Prop} {D : (H : Type) → List (DataW H) → α → Prop} (hu : P.underlying T = some (.struct fs.toArray)) (h : OpensDG P fs 0 0 t R D) (hs : P.cellsOf T = t.size) : OpensD P T t R (StD D) := fun H enc w spare held fuel cs d e => by
  obtain ⟨xs, n, _, hde, hl, hn, hat⟩ := DataW.trod_struct hu e
  have := h H enc w spare held n cs (xs.map (·.1)) (by rw [hl, hs]; omega) fun i f hf => by
    have hi : i < fs.length := (List.getElem?_eq_some_iff.1 hf).1
    have h1 := hat i f (by simpa using hf)
    have hi' : i < xs.length := by rw [hn]; simpa using hi
    rw [List.getElem?_eq_getElem hi'] at h1
    exact ⟨_, h1, by rw [Nat.zero_add, List.getElem?_map, List.getElem?_eq_getElem hi']; rfl⟩
  obtain ⟨x, h1, h2, h3⟩ := this
  exact ⟨x, by simpa using h1, h2, _, congrArg Prod.fst hde, h3⟩
end Go.Fw
