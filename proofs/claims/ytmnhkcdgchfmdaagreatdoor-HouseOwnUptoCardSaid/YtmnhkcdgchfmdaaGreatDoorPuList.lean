/- What the library's functions on lists of numbers answer. -/
import Derived.Test.YtmnhkcdgchfmdaaGreatDoorWHouseOwnModels
import Derived.Test.YtmnhkcdgchfmdaaGreatDoorPuWp
set_option linter.all false
namespace Go.Pu
open Go.Fw Go.Mo
end Go.Pu
