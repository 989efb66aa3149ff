/- The contracts of the rows of joints, program and reference. -/
import Derived.Test.YtbjpfekcghnppaaCst
open Go Go.Eng
namespace Go.Proofs.Ytbjpfekcghnppaa
open Go.Fx (an orr)

theorem cDrw : Sound Try.prog 16 (c7 eJ eBd eBd eI eI (eSl .sb) eI (eFr 44 .row) Fx.drows) :=
  con (lps := noLps) mixed (.cons cLen (.cons cLer (.cons cDif (.cons cPrw (.cons cVnorm (.cons cCorr .nil)))))) Try.func16 (by kernel_rfl) (by kernel_rfl) (noLoops (by kernel_rfl)) (k7 (fun _ _ _ _ _ _ _ => by kernel_rfl))
theorem cArw : Sound Try.prog 36 (c4 eI eI (eSl .sb) eI eRw Fx.arow) :=
  con (lps := noLps) mixed (.cons cEff .nil) Try.func36 (by kernel_rfl) (by kernel_rfl) (noLoops (by kernel_rfl)) (k4 (fun _ _ _ _ => by kernel_rfl))
theorem cMot : Sound Try.prog 37 (c3 eJ eRw eI (eFr 44 .row) (fun j r dt => Fx.motor j dt r)) :=
  con (lps := noLps) mixed (.cons cSub (.cons cMul .nil)) Try.func37 (by kernel_rfl) (by kernel_rfl) (noLoops (by kernel_rfl)) (k3 (fun _ _ _ => by kernel_rfl))
theorem cLim31 : Sound Try.prog 38 (c7 eI eI eI eB eI eI eRw (eFr 44 .row) Fx.limits) :=
  con (lps := noLps) mixed (.cons cSub (.cons cCorr .nil)) Try.func38 (by kernel_rfl) (by kernel_rfl) (noLoops (by kernel_rfl)) (k7 (fun _ _ _ _ _ _ _ => by kernel_rfl))
theorem cPts : Sound Try.prog 40 (c7 eJ eBd eBd eI eI (eSl .sb) eI (eFr 44 .row) Fx.points) :=
  con (lps := noLps) mixed (.cons cAnch (.cons cPrw (.cons cSub (.cons cCorr .nil)))) Try.func40 (by kernel_rfl) (by kernel_rfl) (noLoops (by kernel_rfl)) (k7 (fun _ _ _ _ _ _ _ => by kernel_rfl))
theorem cSrw : Sound Try.prog 44 (c8 eJ eBd eBd eI eI eV eI (eSl .sb) eRw (fun j a b ia ib n so s => Fx.srow j a b ia ib s n so)) :=
  con (lps := noLps) mixed (.cons cAnch (.cons cWc (.cons cVsub (.cons cVadd (.cons cVcross (.cons cEff .nil)))))) Try.func44 (by kernel_rfl) (by kernel_rfl) (noLoops (by kernel_rfl)) (k8 (fun _ _ _ _ _ _ _ _ => by kernel_rfl))
theorem cAxr : Sound Try.prog 42 (c7 eJ eBd eBd eI eI eV (eSl .sb) eRw (fun j a b ia ib n s => Fx.srow j a b ia ib s n 0)) :=
  con (lps := noLps) mixed (.cons cSrw .nil) Try.func42 (by kernel_rfl) (by kernel_rfl) (noLoops (by kernel_rfl)) (k7 (fun _ _ _ _ _ _ _ => by kernel_rfl))
theorem cOff : Sound Try.prog 46 (c3 eJ eBd eBd eI Fx.offset) :=
  con (lps := noLps) mixed (.cons cAnch (.cons cVsub (.cons cVdot (.cons cVperp (.cons cWax .nil))))) Try.func46 (by kernel_rfl) (by kernel_rfl) (noLoops (by kernel_rfl)) (k3 (fun _ _ _ => by kernel_rfl))
theorem cRrw : Sound Try.prog 17 (c7 eJ eBd eBd eI eI (eSl .sb) eI (eFr 44 .row) Fx.rrows) :=
  con (lps := noLps) mixed (.cons cArw (.cons cMot (.cons cLim31 (.cons cPts (.cons cRel .nil))))) Try.func17 (by kernel_rfl) (by kernel_rfl) (noLoops (by kernel_rfl)) (g7 Fx.rrowsQ Fx.rrows (fun j a b ia ib s dt _ => Fx.rrowsQ_ok j a b ia ib s dt) (fun _ _ _ _ _ _ _ _ => rfl) (fun _ _ _ _ _ _ _ => by kernel_rfl))
theorem cPrs : Sound Try.prog 18 (c7 eJ eBd eBd eI eI (eSl .sb) eI (eFr 44 .row) Fx.srows) :=
  con (lps := noLps) mixed (.cons cArw (.cons cMot (.cons cLim31 (.cons cRel (.cons cCorr (.cons cWax (.cons cTrl (.cons cOff (.cons cVperp (.cons cAxr (.cons cSrw .nil))))))))))) Try.func18 (by kernel_rfl) (by kernel_rfl) (noLoops (by kernel_rfl)) (g7 Fx.srowsQ Fx.srows (fun j a b ia ib s dt _ => Fx.srowsQ_ok j a b ia ib s dt) (fun _ _ _ _ _ _ _ _ => rfl) (fun _ _ _ _ _ _ _ => by kernel_rfl))
theorem cWld : Sound Try.prog 19 (c7 eJ eBd eBd eI eI (eSl .sb) eI (eFr 44 .row) Fx.wrows) :=
  con (lps := noLps) mixed (.cons cArw (.cons cPts (.cons cRel (.cons cCorr .nil)))) Try.func19 (by kernel_rfl) (by kernel_rfl) (noLoops (by kernel_rfl)) (g7 Fx.wrowsQ Fx.wrows (fun j a b ia ib s dt _ => Fx.wrowsQ_ok j a b ia ib s dt) (fun _ _ _ _ _ _ _ _ => rfl) (fun _ _ _ _ _ _ _ => by kernel_rfl))
theorem cTrw : Sound Try.prog 49 (c10 eV eI eI (eP .i64) (eP .jnt) (eP .i64) (eP .vec) (eP .bd) (eP .ssb) (eP .i64) eRw (fun n off sum ib j most q b s dt => Fx.trow j b ib s dt q n most off sum)) :=
  con (lps := noLps) mixed (.cons cVcross (.cons cVsub (.cons cWc (.cons cEff (.cons cCorr .nil))))) Try.func49 (by kernel_rfl) (by kernel_rfl) (noLoops (by kernel_rfl)) (k10 (fun _ _ _ _ _ _ _ _ _ _ => by kernel_rfl))
theorem cTgt : Sound Try.prog 20 (c5 eJ eBd eI (eSl .sb) eI (eFr 44 .row) (fun j b ib s dt => Fx.trows j b ib s dt)) :=
  con (lps := noLps) mixed (.cons cAnch (.cons cVsub (.cons cMul (.cons cTrw .nil)))) Try.func20 (by kernel_rfl) (by kernel_rfl) (noLoops (by kernel_rfl)) (k5 (fun _ _ _ _ _ => by kernel_rfl))
end Go.Proofs.Ytbjpfekcghnppaa
