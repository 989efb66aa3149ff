/- The contracts of the guards and of the comparisons of the laws on joints. -/
import Derived.Test.YtnbfkepiolakaaaJr
import Derived.Test.YtnbfkepiolakaaaEngSol
open Go Go.Eng
namespace Go.Proofs.Ytnbfkepiolakaaa
open Go.Fx (an orr)

end Go.Proofs.Ytnbfkepiolakaaa
