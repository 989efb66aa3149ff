/- The contracts of the rows of joints, program and reference. -/
import Derived.Test.YtfjognghjiifaaaGreatCst
open Go Go.Eng
namespace Go.Proofs.YtfjognghjiifaaaGreat
open Go.Fx (an orr)

end Go.Proofs.YtfjognghjiifaaaGreat
