/- What the library's functions on lists of pairs answer. -/
import Derived.Test.YtmnhkcdgchfmdaaGreatDoorWHouseOwnModels
import Derived.Test.YtmnhkcdgchfmdaaGreatDoorPuList
import Derived.Test.YtmnhkcdgchfmdaaGreatDoorPuEq
import Derived.Test.YtmnhkcdgchfmdaaGreatDoorPuMat
set_option linter.all false
namespace Go.Pu
open Go.Fw Go.Mo
end Go.Pu
