/- The contracts of the guards and of the comparisons of the laws on joints. -/
import Derived.Test.YtpolkkblmcmlnaaJr
import Derived.Test.YtpolkkblmcmlnaaEngSol
open Go Go.Eng
namespace Go.Proofs.Ytpolkkblmcmlnaa
open Go.Fx (an orr)

end Go.Proofs.Ytpolkkblmcmlnaa
