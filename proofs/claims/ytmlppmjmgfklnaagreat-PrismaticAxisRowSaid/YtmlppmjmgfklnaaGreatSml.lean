/- The contracts of the guards and of the comparisons of the laws on joints. -/
import Derived.Test.YtmlppmjmgfklnaaGreatJr
import Derived.Test.YtmlppmjmgfklnaaGreatEngSol
open Go Go.Eng
namespace Go.Proofs.YtmlppmjmgfklnaaGreat
open Go.Fx (an orr)

end Go.Proofs.YtmlppmjmgfklnaaGreat
