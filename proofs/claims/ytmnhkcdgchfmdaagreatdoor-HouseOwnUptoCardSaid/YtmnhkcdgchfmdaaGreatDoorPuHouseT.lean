/- The plain law: the house's own small example. -/
import Derived.Test.YtmnhkcdgchfmdaaGreatDoorWHouseOwnModels
import Derived.Test.YtmnhkcdgchfmdaaGreatDoorPuHouseE
set_option linter.all false
namespace Go.Pu
open Go.Fw Go.Mo
theorem houses_t : pk_houses_m = some true := by decide +kernel
end Go.Pu
