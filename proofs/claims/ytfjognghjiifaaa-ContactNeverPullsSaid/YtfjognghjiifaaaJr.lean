/- The contracts of the rows of joints, program and reference. -/
import Derived.Test.YtfjognghjiifaaaCst
open Go Go.Eng
namespace Go.Proofs.Ytfjognghjiifaaa
open Go.Fx (an orr)

end Go.Proofs.Ytfjognghjiifaaa
