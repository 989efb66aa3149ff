/- The contracts of the guards and of the comparisons of the laws on joints. -/
import Derived.Test.YtmlppmjmgfklnaaJr
import Derived.Test.YtmlppmjmgfklnaaEngSol
open Go Go.Eng
namespace Go.Proofs.Ytmlppmjmgfklnaa
open Go.Fx (an orr)

end Go.Proofs.Ytmlppmjmgfklnaa
