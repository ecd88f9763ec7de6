/- The plain law: two deals of unlike accounts come to the same, whichever is taken first, if both can be either way. -/
import Derived.Test.YtmnhkcdgchfmdaaGreatDoorWHouseOwnModels
import Derived.Test.YtmnhkcdgchfmdaaGreatDoorPuLOnce
set_option linter.all false
namespace Go.Pu
open Go.Fw Go.Mo
end Go.Pu
