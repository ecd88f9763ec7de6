/- The plain laws of the house, as the statements ask. -/
import Derived.Test.YtmnhkcdgchfmdaaGreatDoorWHouseOwnModels
import Derived.Test.YtmnhkcdgchfmdaaGreatDoorPuHKeeps
set_option linter.all false
namespace Go.Pu
open Go.Fw Go.Mo
def WfDd (d : Dd) : Prop := (Lit.int .i64 d.1).wf = true ∧ (Lit.int .i64 d.2.1).wf = true ∧ d.2.2.1.length ≤ maxLen ∧ WfD d.2.2.2
theorem WfDd.short {d : Dd} (h : WfDd d) : ShortDd d := ⟨h.2.2.1, h.2.2.2.short⟩
end Go.Pu
