/- A struct in memory of the call's own, with a field that is a slice of the call's own. -/
import Derived.Test.YtpapmcdhinblaaaGreatDoorFwS
set_option linter.all false
namespace Go.Fw
open Go.RowKit
variable {P : Program} {ops : Array Oper} {Q : Exit → Act → World → Prop} {c : Cx} {rest : List Oper} {env : Env} {L : List It}
def Rawed {α β : Type} (t : TR α) (d : α) (t' : TR β) (mk : Value → β) : Prop := ∀ S cs, t.rep S cs d → ∃ u, t'.rep S cs (mk u)
theorem Rawed.sl {α : Type} {t : TR α} {l : List α} : Rawed t.sl l TR.raw (fun u => u) := fun S cs ⟨v, xs, e, h, _⟩ => ⟨v, e, by obtain ⟨a, cap, rfl, _⟩ := h; rfl⟩
theorem Rawed.fst {α β γ : Type} {a : TR α} {a' : TR β} {b : TR γ} {d : α × γ} {mk : Value → β} (h : Rawed a d.1 a' mk) : Rawed (a.pair b) d (a'.pair b) (fun u => (mk u, d.2)) := fun S cs ⟨c1, c2, e, h1, h2⟩ =>
  let ⟨u, hu⟩ := h S c1 h1; ⟨u, c1, c2, e, hu, h2⟩
theorem Rawed.snd {α β γ : Type} {a : TR α} {b : TR β} {b' : TR γ} {d : α × β} {mk : Value → γ} (h : Rawed b d.2 b' mk) : Rawed (a.pair b) d (a.pair b') (fun u => (d.1, mk u)) := fun S cs ⟨c1, c2, e, h1, h2⟩ =>
  let ⟨u, hu⟩ := h S c2 h2; ⟨u, c1, c2, e, h1, hu⟩
def Helded {α β γ : Type} (t' : TR β) (d' : β) (r : TR γ) (u : Value) (l : γ) (t : TR α) (d : α) : Prop := ∀ S cs, t'.rep S cs d' → r.vrep S u l → t.rep S cs d
theorem Helded.sl {α : Type} {t : TR α} {u : Value} {l : List α} : Helded TR.raw u t.sl u l t.sl l := fun S cs h ⟨cs', e, h'⟩ => by
  obtain ⟨v, xs, rfl, h1, h2⟩ := h'
  obtain rfl : u = v := e
  exact ⟨u, xs, h.1, h1, h2⟩
theorem Helded.fst {α β γ δ : Type} {a' : TR β} {b : TR δ} {d' : β × δ} {r : TR γ} {u : Value} {l : γ} {a : TR α} {d1 : α} (h : Helded a' d'.1 r u l a d1) : Helded (a'.pair b) d' r u l (a.pair b) (d1, d'.2) := fun S cs ⟨c1, c2, e, h1, h2⟩ k => ⟨c1, c2, e, h S c1 h1 k, h2⟩
theorem Helded.snd {α β γ δ : Type} {a : TR δ} {b' : TR β} {d' : δ × β} {r : TR γ} {u : Value} {l : γ} {b : TR α} {d2 : α} (h : Helded b' d'.2 r u l b d2) : Helded (a.pair b') d' r u l (a.pair b) (d'.1, d2) := fun S cs ⟨c1, c2, e, h1, h2⟩ k => ⟨c1, c2, e, h1, h S c2 h2 k⟩
end Go.Fw
