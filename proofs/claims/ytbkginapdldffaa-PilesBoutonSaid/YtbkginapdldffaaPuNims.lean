/- The nim plays that are checked once for all. -/
import Derived.Test.YtbkginapdldffaaWPilesBoutonModels
namespace Go.Pu
open Go.Fw Go.Mo
theorem nims_t : pk_nims_m = some true := by decide +kernel
end Go.Pu
