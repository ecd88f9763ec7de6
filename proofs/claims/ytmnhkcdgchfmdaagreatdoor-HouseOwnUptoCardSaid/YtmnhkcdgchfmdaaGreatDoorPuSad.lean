/- Tables of two players, one of whom wins what the other one loses. -/
import Derived.Test.YtmnhkcdgchfmdaaGreatDoorWHouseOwnModels
import Derived.Test.YtmnhkcdgchfmdaaGreatDoorPuPt
import Derived.Test.YtmnhkcdgchfmdaaGreatDoorPuGood
set_option linter.all false
namespace Go.Pu
open Go.Fw Go.Mo
end Go.Pu
