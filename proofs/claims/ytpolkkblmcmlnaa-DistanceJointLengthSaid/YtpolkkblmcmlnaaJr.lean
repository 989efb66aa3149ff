/- The contracts of the rows of joints, program and reference. -/
import Derived.Test.YtpolkkblmcmlnaaCst
open Go Go.Eng
namespace Go.Proofs.Ytpolkkblmcmlnaa
open Go.Fx (an orr)

theorem cDrw : Sound Try.prog 12 (c7 eJ eBd eBd eI eI (eSl .sb) eI (eFr 43 .row) Fx.drows) :=
  con (lps := noLps) mixed (.cons cLen (.cons cLer (.cons cDif (.cons cPrw (.cons cVnorm (.cons cCorr .nil)))))) Try.func12 (by kernel_rfl) (by kernel_rfl) (noLoops (by kernel_rfl)) (k7 (fun _ _ _ _ _ _ _ => by kernel_rfl))
end Go.Proofs.Ytpolkkblmcmlnaa
