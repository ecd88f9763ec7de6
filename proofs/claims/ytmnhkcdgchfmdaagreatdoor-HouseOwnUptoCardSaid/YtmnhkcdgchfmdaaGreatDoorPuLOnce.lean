/- The plain law: what has been taken is never taken again; and what comes later not ahead of it. -/
import Derived.Test.YtmnhkcdgchfmdaaGreatDoorWHouseOwnModels
import Derived.Test.YtmnhkcdgchfmdaaGreatDoorPuPick
import Derived.Test.YtmnhkcdgchfmdaaGreatDoorPuIns
set_option linter.all false
namespace Go.Pu
open Go.Fw Go.Mo
theorem ledgers_t : pk_ledgers_m = some true := by decide +kernel
end Go.Pu
