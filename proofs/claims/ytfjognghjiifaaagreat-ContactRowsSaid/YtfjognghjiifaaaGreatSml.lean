/- The contracts of the guards and of the comparisons of the laws on joints. -/
import Derived.Test.YtfjognghjiifaaaGreatJr
import Derived.Test.YtfjognghjiifaaaGreatEngSol
open Go Go.Eng
namespace Go.Proofs.YtfjognghjiifaaaGreat
open Go.Fx (an orr)

end Go.Proofs.YtfjognghjiifaaaGreat
