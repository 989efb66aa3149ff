/- The contracts of the guards and of the comparisons of the laws on joints. -/
import Derived.Test.YtfjognghjiifaaaJr
import Derived.Test.YtfjognghjiifaaaEngSol
open Go Go.Eng
namespace Go.Proofs.Ytfjognghjiifaaa
open Go.Fx (an orr)

end Go.Proofs.Ytfjognghjiifaaa
