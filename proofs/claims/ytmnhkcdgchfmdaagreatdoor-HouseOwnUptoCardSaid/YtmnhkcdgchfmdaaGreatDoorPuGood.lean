/- What the helpers of the laws answer: good, Contains. -/
import Derived.Test.YtmnhkcdgchfmdaaGreatDoorWHouseOwnModels
import Derived.Test.YtmnhkcdgchfmdaaGreatDoorPuKit
set_option linter.all false
namespace Go.Pu
open Go.Fw Go.Mo
end Go.Pu
