/- The plain law: what is added is there, and all others as they were; taken away again it is as before. -/
import Derived.Test.YtmnhkcdgchfmdaaGreatDoorWHouseOwnModels
import Derived.Test.YtmnhkcdgchfmdaaGreatDoorPuQOne
set_option linter.all false
namespace Go.Pu
open Go.Fw Go.Mo
end Go.Pu
