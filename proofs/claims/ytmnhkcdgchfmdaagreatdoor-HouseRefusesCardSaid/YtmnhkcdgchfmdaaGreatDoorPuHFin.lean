/- The plain laws of the house, as the statements ask. -/
import Derived.Test.YtmnhkcdgchfmdaaGreatDoorWHouseRefusesModels
import Derived.Test.YtmnhkcdgchfmdaaGreatDoorPuHKeeps
set_option linter.all false
namespace Go.Pu
open Go.Fw Go.Mo
def WfDd (d : Dd) : Prop := (Lit.int .i64 d.1).wf = true ∧ (Lit.int .i64 d.2.1).wf = true ∧ d.2.2.1.length ≤ maxLen ∧ WfD d.2.2.2
theorem WfDd.short {d : Dd} (h : WfDd d) : ShortDd d := ⟨h.2.2.1, h.2.2.2.short⟩
theorem HouseMoney (x0 : List Dd) (h0 : (∀ d ∈ x0, WfDd d) ∧ x0.length ≤ maxLen) : pk_HouseMoney_m x0 = some true := HouseMoney_ x0 fun d hd => (h0.1 d hd).short
theorem HouseSafe (x0 : List Dd) (h0 : (∀ d ∈ x0, WfDd d) ∧ x0.length ≤ maxLen) : pk_HouseSafe_m x0 = some true := HouseSafe_ x0 fun d hd => (h0.1 d hd).short
theorem HouseKeeps (x0 : List Dd) (h0 : (∀ d ∈ x0, WfDd d) ∧ x0.length ≤ maxLen) (x1 : List Dd) (h1 : (∀ d ∈ x1, WfDd d) ∧ x1.length ≤ maxLen) (x2 : Int) (_ : (Lit.int .i64 x2).wf = true) : pk_HouseKeeps_m x0 x1 x2 = some true := HouseKeeps_ x0 (fun d hd => (h0.1 d hd).short) x1 (fun d hd => (h1.1 d hd).short) x2
theorem HouseRefuses (x0 : List Dd) (h0 : (∀ d ∈ x0, WfDd d) ∧ x0.length ≤ maxLen) (x1 : Dd) (h1 : WfDd x1) (x2 : List Dd) (h2 : (∀ d ∈ x2, WfDd d) ∧ x2.length ≤ maxLen) : pk_HouseRefuses_m x0 x1 x2 = some true := HouseRefuses_ x0 (fun d hd => (h0.1 d hd).short) x1 h1.short x2 fun d hd => (h2.1 d hd).short
end Go.Pu
