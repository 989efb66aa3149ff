/- The contracts of the fixed-point numbers, program and reference. -/
import Derived.Test.YtleooijgkdllfaaEngCon
import Derived.Test.YtleooijgkdllfaaRows
open Go Go.Eng
namespace Go.Proofs.Ytleooijgkdllfaa

theorem mixed : Try.prog.follows .mixedOrders = true := by kernel_rfl
noncomputable def lb (fn : Func) : Code := (loopsOf (fn.body.getD .skip)).getD 0 .skip
noncomputable def lbN (n : Nat) (fn : Func) : Code := (loopsOf (fn.body.getD .skip)).getD n .skip
def noLps : Nat → St → Tree := fun _ _ => .fail


end Go.Proofs.Ytleooijgkdllfaa
