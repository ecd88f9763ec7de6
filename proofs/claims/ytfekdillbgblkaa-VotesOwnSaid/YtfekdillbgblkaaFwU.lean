/- A struct in memory of the call's own, with a field that is a slice of the call's own. -/
import Derived.Test.YtfekdillbgblkaaFwS
set_option linter.all false
namespace Go.Fw
open Go.RowKit
variable {P : Program} {ops : Array Oper} {Q : Exit → Act → World → Prop} {c : Cx} {rest : List Oper} {env : Env} {L : List It}
/-- the field's cell gets a name -/
theorem RL.rawB {α β : Type} {t : TR α} {t' : TR β} {e : TypeId} {v : Value} {d : α} {mk : Value → β} (n : Nat) (hA : L[n]? = some (obox e t v d)) (h : ∀ S cs, t.rep S cs d → ∃ u, t'.rep S cs (mk u))
    (k : ∀ u, RL .plain P ops Q c rest env (L.set n (obox e t' v (mk u)))) : RL .plain P ops Q c rest env L := fun a w st => by
  obtain ⟨S, f, e1, e2, e3, e4⟩ := st.heap
  have hn := (List.getElem?_eq_some_iff.1 hA).1
  obtain ⟨b, cs, hv, hf, hr⟩ := e4 n _ hA
  obtain ⟨u, hu⟩ := h S cs hr
  refine k u a w ⟨st.defers, st.size, st.env, st.below, st.calm, S, f, e1, e2, by rw [List.length_set]; exact e3, ?_⟩
  intro i D hD
  by_cases hin : i = n
  · subst hin
    rw [List.getElem?_set_self hn] at hD
    cases hD
    exact ⟨b, cs, hv, hf, hu⟩
  · rw [List.getElem?_set_ne (Ne.symm hin)] at hD
    exact e4 i D hD
/-- what the field holds is read alone, and so is the field's reading -/
theorem St.heldB {α β γ : Type} {t : TR α} {t' : TR β} {r : TR γ} {e : TypeId} {v u : Value} {d' : β} {l : γ} {d : α} {a : Act} {w : World} (n m : Nat) (hA : L[n]? = some (obox e t' v d')) (hB : L[m]? = some (imm r u l))
    (h : ∀ S cs, t'.rep S cs d' → r.vrep S u l → t.rep S cs d) (st : St c env L a w) : St c env (L.set n (obox e t v d)) a w :=
  st.map2 n m hA hB fun S f g ⟨b, cs, h1, h2, h3⟩ k => ⟨b, cs, h1, h2, h S cs h3 k⟩
/-! ### how a reading turns, field by field -/
def Rawed {α β : Type} (t : TR α) (d : α) (t' : TR β) (mk : Value → β) : Prop := ∀ S cs, t.rep S cs d → ∃ u, t'.rep S cs (mk u)
theorem Rawed.sl {α : Type} {t : TR α} {l : List α} : Rawed t.sl l TR.raw (fun u => u) := fun S cs ⟨v, xs, e, h, _⟩ => ⟨v, e, by obtain ⟨a, cap, rfl, _⟩ := h; rfl⟩
theorem Rawed.fst {α β γ : Type} {a : TR α} {a' : TR β} {b : TR γ} {d : α × γ} {mk : Value → β} (h : Rawed a d.1 a' mk) : Rawed (a.pair b) d (a'.pair b) (fun u => (mk u, d.2)) := fun S cs ⟨c1, c2, e, h1, h2⟩ =>
  let ⟨u, hu⟩ := h S c1 h1; ⟨u, c1, c2, e, hu, h2⟩
theorem Rawed.snd {α β γ : Type} {a : TR α} {b : TR β} {b' : TR γ} {d : α × β} {mk : Value → γ} (h : Rawed b d.2 b' mk) : Rawed (a.pair b) d (a.pair b') (fun u => (d.1, mk u)) := fun S cs ⟨c1, c2, e, h1, h2⟩ =>
  let ⟨u, hu⟩ := h S c2 h2; ⟨u, c1, c2, e, h1, hu⟩
theorem Rawed.rec1 {α β : Type} {a : TR α} {a' : TR β} {d : α} {mk : Value → β} (h : Rawed a d a' mk) : Rawed a.rec1 d a'.rec1 mk := h
def Helded {α β γ : Type} (t' : TR β) (d' : β) (r : TR γ) (u : Value) (l : γ) (t : TR α) (d : α) : Prop := ∀ S cs, t'.rep S cs d' → r.vrep S u l → t.rep S cs d
theorem Helded.sl {α : Type} {t : TR α} {u : Value} {l : List α} : Helded TR.raw u t.sl u l t.sl l := fun S cs h ⟨cs', e, h'⟩ => by
  obtain ⟨v, xs, rfl, h1, h2⟩ := h'
  obtain rfl : u = v := e
  exact ⟨u, xs, h.1, h1, h2⟩
theorem Helded.fst {α β γ δ : Type} {a' : TR β} {b : TR δ} {d' : β × δ} {r : TR γ} {u : Value} {l : γ} {a : TR α} {d1 : α} (h : Helded a' d'.1 r u l a d1) : Helded (a'.pair b) d' r u l (a.pair b) (d1, d'.2) := fun S cs ⟨c1, c2, e, h1, h2⟩ k => ⟨c1, c2, e, h S c1 h1 k, h2⟩
theorem Helded.snd {α β γ δ : Type} {a : TR δ} {b' : TR β} {d' : δ × β} {r : TR γ} {u : Value} {l : γ} {b : TR α} {d2 : α} (h : Helded b' d'.2 r u l b d2) : Helded (a.pair b') d' r u l (a.pair b) (d'.1, d2) := fun S cs ⟨c1, c2, e, h1, h2⟩ k => ⟨c1, c2, e, h1, h S c2 h2 k⟩
theorem Helded.rec1 {α β γ : Type} {a' : TR β} {d' : β} {r : TR γ} {u : Value} {l : γ} {a : TR α} {d : α} (h : Helded a' d' r u l a d) : Helded a'.rec1 d' r u l a.rec1 d := h
end Go.Fw
