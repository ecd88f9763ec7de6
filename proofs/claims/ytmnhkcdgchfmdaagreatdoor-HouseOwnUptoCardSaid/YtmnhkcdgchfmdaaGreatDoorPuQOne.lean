/- The plain law: of one account and one number there is never more than one, whatever is added. -/
import Derived.Test.YtmnhkcdgchfmdaaGreatDoorWHouseOwnModels
import Derived.Test.YtmnhkcdgchfmdaaGreatDoorPuQueue
set_option linter.all false
namespace Go.Pu
open Go.Fw Go.Mo
def WfD (d : Deal) : Prop := d.1.length ≤ maxLen ∧ d.2.1.length ≤ maxLen ∧ (Lit.int .i64 d.2.2.1).wf = true ∧ (Lit.int .i64 d.2.2.2.1).wf = true ∧ (Lit.int .i64 d.2.2.2.2.1).wf = true ∧ (Lit.int .i64 d.2.2.2.2.2).wf = true
theorem WfD.short {d : Deal} (h : WfD d) : ShortD d := ⟨h.1, h.2.1⟩
end Go.Pu
