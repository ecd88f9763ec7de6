/- A slice of the call's own that is written over, with all its spare memory. No program in sight. -/
import Derived.Test.YtmkeolaifmjgdaaGreatDoorFwS
import Derived.Test.YtmkeolaifmjgdaaGreatDoorFwU
set_option linter.all false
namespace Go.Fw
open Go.RowKit
section
variable {md : Md} {P : Program} {ops : Array Oper} {Q : Exit → Act → World → Prop} {c : Cx} {rest : List Oper} {env : Env} {L : List It}
variable {d : Nat} {ty : TypeId} {pos : String} {af : Array Edge} {g : Option (Nat × Bool)}
end
section
variable {c : Cx} {env : Env} {L : List It} {a : Act} {w : World} {α : Type} {es e : TypeId} {t : TR α} {v : Value} {vs : List Value} {l : List (List α)}
structure RowsI {α : Type} (e : TypeId) (t : TR α) (vs : List Value) (d : List (List α)) (S f : Hp) : Prop where
  len : vs.length = d.length
  row : ∀ i r, d[i]? = some r → ∃ xs, ownAt e t.size f (rowv vs i) r.length xs ∧ reps t S xs r
  ap : ∀ i j, i < d.length → j < d.length → i ≠ j → ∀ b, Bl (rowv vs i) b → ¬ Bl (rowv vs j) b
theorem RowsI.cells {S f : Hp} (h : RowsI e t vs l S f) : ∀ z ∈ vs, z.oneCell' = true := fun z hz => by
  obtain ⟨q, hq1, hq2⟩ := List.mem_iff_getElem.1 hz
  have hql : q < l.length := by rw [← h.len]; exact hq1
  obtain ⟨zs, z1, _⟩ := h.row q _ (List.getElem?_eq_getElem hql)
  have := ownAt_cell z1
  unfold rowv at this
  rw [List.getD_eq_getElem?_getD, List.getElem?_eq_getElem hq1] at this
  rw [← hq2]; exact this
end

section
variable {P : Program} {ops : Array Oper} {Q : Exit → Act → World → Prop} {c : Cx} {rest : List Oper} {env : Env} {L : List It}
variable {d : Nat} {ty : TypeId} {pos : String} {af : Array Edge} {g : Option (Nat × Bool)}
end
end Go.Fw
