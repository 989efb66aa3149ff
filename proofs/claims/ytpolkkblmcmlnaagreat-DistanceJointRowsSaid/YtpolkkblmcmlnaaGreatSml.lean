/- The contracts of the guards and of the comparisons of the laws on joints. -/
import Derived.Test.YtpolkkblmcmlnaaGreatJr
import Derived.Test.YtpolkkblmcmlnaaGreatEngSol
open Go Go.Eng
namespace Go.Proofs.YtpolkkblmcmlnaaGreat
open Go.Fx (an orr)

end Go.Proofs.YtpolkkblmcmlnaaGreat
