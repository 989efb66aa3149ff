/- The contracts of the rows of joints, program and reference. -/
import Derived.Test.YtnbfkepiolakaaaCst
open Go Go.Eng
namespace Go.Proofs.Ytnbfkepiolakaaa
open Go.Fx (an orr)

theorem cArw : Sound Try.prog 21 (c4 eI eI (eSl .sb) eI eRw Fx.arow) :=
  con (lps := noLps) mixed (.cons cEff .nil) Try.func21 (by kernel_rfl) (by kernel_rfl) (noLoops (by kernel_rfl)) (k4 (fun _ _ _ _ => by kernel_rfl))
theorem cPts : Sound Try.prog 24 (c7 eJ eBd eBd eI eI (eSl .sb) eI (eFr 44 .row) Fx.points) :=
  con (lps := noLps) mixed (.cons cAnch (.cons cPrw (.cons cSub (.cons cCorr .nil)))) Try.func24 (by kernel_rfl) (by kernel_rfl) (noLoops (by kernel_rfl)) (k7 (fun _ _ _ _ _ _ _ => by kernel_rfl))
theorem cWld : Sound Try.prog 10 (c7 eJ eBd eBd eI eI (eSl .sb) eI (eFr 44 .row) Fx.wrows) :=
  con (lps := noLps) mixed (.cons cArw (.cons cPts (.cons cRel (.cons cCorr .nil)))) Try.func10 (by kernel_rfl) (by kernel_rfl) (noLoops (by kernel_rfl)) (g7 Fx.wrowsQ Fx.wrows (fun j a b ia ib s dt _ => Fx.wrowsQ_ok j a b ia ib s dt) (fun _ _ _ _ _ _ _ _ => rfl) (fun _ _ _ _ _ _ _ => by kernel_rfl))
theorem cTrw : Sound Try.prog 26 (c10 eV eI eI (eP .i64) (eP .jnt) (eP .i64) (eP .vec) (eP .bd) (eP .ssb) (eP .i64) eRw (fun n off sum ib j most q b s dt => Fx.trow j b ib s dt q n most off sum)) :=
  con (lps := noLps) mixed (.cons cVcross (.cons cVsub (.cons cWc (.cons cEff (.cons cCorr .nil))))) Try.func26 (by kernel_rfl) (by kernel_rfl) (noLoops (by kernel_rfl)) (k10 (fun _ _ _ _ _ _ _ _ _ _ => by kernel_rfl))
theorem cTgt : Sound Try.prog 11 (c5 eJ eBd eI (eSl .sb) eI (eFr 44 .row) (fun j b ib s dt => Fx.trows j b ib s dt)) :=
  con (lps := noLps) mixed (.cons cAnch (.cons cVsub (.cons cMul (.cons cTrw .nil)))) Try.func11 (by kernel_rfl) (by kernel_rfl) (noLoops (by kernel_rfl)) (k5 (fun _ _ _ _ _ => by kernel_rfl))
end Go.Proofs.Ytnbfkepiolakaaa
