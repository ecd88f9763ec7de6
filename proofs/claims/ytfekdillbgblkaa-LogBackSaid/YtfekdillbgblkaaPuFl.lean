/- The ways out of a piece of a model, weakened one by one. -/
import Derived.Test.YtfekdillbgblkaaPuWp
set_option linter.all false
namespace Go.Pu
open Go.Fw
theorem Ok.fl {ρ σ β : Type} {x : Option (Fl ρ β σ)} {N N' : σ → Prop} {B B' : β → Prop} {R R' : ρ → Prop} (h : Ok x (FlOk N B R)) (hN : ∀ s, N s → N' s) (hB : ∀ s, B s → B' s) (hR : ∀ s, R s → R' s) : Ok x (FlOk N' B' R') := h.mono fun v hv => by
  cases v with
  | nx s => exact hN s hv
  | br b => exact hB b hv
  | rt r => exact hR r hv
end Go.Pu
