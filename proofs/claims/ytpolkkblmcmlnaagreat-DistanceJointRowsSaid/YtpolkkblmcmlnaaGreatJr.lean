/- The contracts of the rows of joints, program and reference. -/
import Derived.Test.YtpolkkblmcmlnaaGreatCst
open Go Go.Eng
namespace Go.Proofs.YtpolkkblmcmlnaaGreat
open Go.Fx (an orr)

theorem cDrw : Sound Tryz.prog 8 (c7 eJ eBd eBd eI eI (eSl .sb) eI (eFr 43 .row) Fx.drows) :=
  con (lps := noLps) mixed (.cons cLen (.cons cLer (.cons cDif (.cons cPrw (.cons cVnorm (.cons cCorr .nil)))))) Tryz.func8 (by kernel_rfl) (by kernel_rfl) (noLoops (by kernel_rfl)) (k7 (fun _ _ _ _ _ _ _ => by kernel_rfl))
theorem rDrw : Sound Tryz.prog 9 (c7 eJ eBd eBd eI eI (eSl .sb) eI (eFr 43 .row) Fx.drows) :=
  con (lps := noLps) mixed (.cons rLen (.cons rLer (.cons rAnch (.cons rVsub (.cons rPrw (.cons rVnorm (.cons rCorr .nil))))))) Tryz.func9 (by kernel_rfl) (by kernel_rfl) (noLoops (by kernel_rfl)) (g7 (fun _ _ _ _ _ _ _ => []) Fx.drowsR (fun _ _ _ _ _ _ _ _ => trivial) (fun _ _ _ _ _ _ _ _ => Fx.drowsR_eq _ _ _ _ _ _ _) (fun _ _ _ _ _ _ _ => by kernel_rfl))
end Go.Proofs.YtpolkkblmcmlnaaGreat
