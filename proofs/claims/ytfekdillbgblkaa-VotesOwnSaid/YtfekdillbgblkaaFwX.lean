/- What the reading of a struct says of its fields. No program in sight. -/
import Derived.Test.YtfekdillbgblkaaFwO
set_option linter.all false
namespace Go.Fw
open Go.RowKit
/-- the fields of a struct, from one on, and what their readings say -/
def OpensDF {α : Type} (P : Program) (fs : List Field) (o : Nat) (t : TR α) (R : α → Prop) (D : (H : Type) → List (DataW H) → α → Prop) : Prop :=
  ∀ (H : Type) (enc : TypeId × Value → H) (w : World) (spare : Nat → Bool) (held : Bool) (n : Nat) (cs : List Value) (ds : List (DataW H)), cs.length = o + t.size →
    (∀ f ∈ fs, ∃ d, DataW.trod enc P w 0 spare held n f.type ((cs.drop f.offset).take (P.cellsOf f.type)) = some d ∧ d.1 ∈ ds) → ∃ x, t.rep (whole w) (cs.drop o) x ∧ R x ∧ D H ds x
def OneD {α : Type} (D : (H : Type) → DataW H → α → Prop) (H : Type) (ds : List (DataW H)) (x : α) : Prop := ∃ e, e ∈ ds ∧ D H e x
def ConsD {α β : Type} (D : (H : Type) → DataW H → α → Prop) (D' : (H : Type) → List (DataW H) → β → Prop) (H : Type) (ds : List (DataW H)) (x : α × β) : Prop := (∃ e, e ∈ ds ∧ D H e x.1) ∧ D' H ds x.2
def StD {α : Type} (D : (H : Type) → List (DataW H) → α → Prop) (H : Type) (d : DataW H) (x : α) : Prop := ∃ parts, d = .agg parts ∧ D H parts x
theorem OpensDF.last {α : Type} {P : Program} {f : Field} {o : Nat} {t : TR α} {R : α → Prop} {D : (H : Type) → DataW H → α → Prop} (ho : f.offset = o) (h : OpensD P f.type t R D) (hs : P.cellsOf f.type = t.size) : OpensDF P [f] o t R (OneD D) := fun H enc w spare held n cs ds hl hf => by
  obtain ⟨d, hd, hm⟩ := hf f (by simp)
  rw [ho, hs, List.take_of_length_le (by simp; omega)] at hd
  obtain ⟨x, h1, h2, h3⟩ := h H enc w spare held n _ d hd
  exact ⟨x, h1, h2, _, hm, h3⟩
theorem OpensDF.cons {α β : Type} {P : Program} {f : Field} {fs : List Field} {o : Nat} {a : TR α} {b : TR β} {R : α → Prop} {R' : β → Prop} {D : (H : Type) → DataW H → α → Prop} {D' : (H : Type) → List (DataW H) → β → Prop} (ho : f.offset = o) (h : OpensD P f.type a R D) (hs : P.cellsOf f.type = a.size) (h' : OpensDF P fs (o + a.size) b R' D') :
    OpensDF P (f :: fs) o (a.pair b) (fun x => R x.1 ∧ R' x.2) (ConsD D D') := fun H enc w spare held n cs ds hl hf => by
  obtain ⟨d, hd, hm⟩ := hf f (by simp)
  rw [ho, hs] at hd
  obtain ⟨x, hx, hr, hdx⟩ := h H enc w spare held n _ d hd
  have hl' : cs.length = o + a.size + b.size := by rw [hl]; show o + (a.size + b.size) = _; omega
  obtain ⟨y, hy, hr', hdy⟩ := h' H enc w spare held n cs ds hl' fun g hg => hf g (by simp [hg])
  refine ⟨(x, y), ⟨_, _, ?_, hx, hy⟩, ⟨hr, hr'⟩, ⟨_, hm, hdx⟩, hdy⟩
  rw [← List.drop_drop]
  exact (List.take_append_drop _ _).symm
theorem OpensD.struct {α : Type} {P : Program} {T : TypeId} {fs : List Field} {t : TR α} {R : α → Prop} {D : (H : Type) → List (DataW H) → α → Prop} (hu : P.underlying T = some (.struct fs.toArray)) (h : OpensDF P fs 0 t R D) (hs : P.cellsOf T = t.size) : OpensD P T t R (StD D) := fun H enc w spare held fuel cs d e => by
  obtain ⟨xs, n, _, hde, hl, hn, hat⟩ := DataW.trod_struct hu e
  have := h H enc w spare held n cs (xs.map (·.1)) (by rw [hl, hs]; omega) fun f hf => by
    obtain ⟨i, hi, he⟩ := List.getElem_of_mem hf
    have h1 := hat i f (by simp [hi, he])
    have hi' : i < xs.length := by rw [hn]; simpa using hi
    rw [List.getElem?_eq_getElem hi'] at h1
    exact ⟨_, h1, List.mem_map_of_mem (List.getElem_mem _)⟩
  obtain ⟨x, h1, h2, h3⟩ := this
  exact ⟨x, by simpa using h1, h2, _, congrArg Prod.fst hde, h3⟩
end Go.Fw
