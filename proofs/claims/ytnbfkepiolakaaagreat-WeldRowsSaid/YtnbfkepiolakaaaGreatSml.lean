/- The contracts of the guards and of the comparisons of the laws on joints. -/
import Derived.Test.YtnbfkepiolakaaaGreatJr
import Derived.Test.YtnbfkepiolakaaaGreatEngSol
open Go Go.Eng
namespace Go.Proofs.YtnbfkepiolakaaaGreat
open Go.Fx (an orr)

end Go.Proofs.YtnbfkepiolakaaaGreat
