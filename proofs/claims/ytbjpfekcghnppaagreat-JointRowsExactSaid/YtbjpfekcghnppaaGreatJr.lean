/- The contracts of the rows of joints, program and reference. -/
import Derived.Test.YtbjpfekcghnppaaGreatCst
open Go Go.Eng
namespace Go.Proofs.YtbjpfekcghnppaaGreat
open Go.Fx (an orr)

theorem cDrw : Sound Tryz.prog 18 (c7 eJ eBd eBd eI eI (eSl .sb) eI (eFr 51 .row) Fx.drows) :=
  con (lps := noLps) mixed (.cons cLen (.cons cLer (.cons cDif (.cons cPrw (.cons cVnorm (.cons cCorr .nil)))))) Tryz.func18 (by kernel_rfl) (by kernel_rfl) (noLoops (by kernel_rfl)) (k7 (fun _ _ _ _ _ _ _ => by kernel_rfl))
theorem rDrw : Sound Tryz.prog 23 (c7 eJ eBd eBd eI eI (eSl .sb) eI (eFr 51 .row) Fx.drows) :=
  con (lps := noLps) mixed (.cons rLen (.cons rLer (.cons rAnch (.cons rVsub (.cons rPrw (.cons rVnorm (.cons rCorr .nil))))))) Tryz.func23 (by kernel_rfl) (by kernel_rfl) (noLoops (by kernel_rfl)) (g7 (fun _ _ _ _ _ _ _ => []) Fx.drowsR (fun _ _ _ _ _ _ _ _ => trivial) (fun _ _ _ _ _ _ _ _ => Fx.drowsR_eq _ _ _ _ _ _ _) (fun _ _ _ _ _ _ _ => by kernel_rfl))
theorem cArw : Sound Tryz.prog 41 (c4 eI eI (eSl .sb) eI eRw Fx.arow) :=
  con (lps := noLps) mixed (.cons cEff .nil) Tryz.func41 (by kernel_rfl) (by kernel_rfl) (noLoops (by kernel_rfl)) (k4 (fun _ _ _ _ => by kernel_rfl))
theorem rArw : Sound Tryz.prog 64 (c4 eI eI (eSl .sb) eI eRw Fx.arow) :=
  con (lps := noLps) mixed (.cons rEff .nil) Tryz.func64 (by kernel_rfl) (by kernel_rfl) (noLoops (by kernel_rfl)) (k4 (fun _ _ _ _ => by kernel_rfl))
theorem cMot : Sound Tryz.prog 42 (c3 eJ eRw eI (eFr 51 .row) (fun j r dt => Fx.motor j dt r)) :=
  con (lps := noLps) mixed (.cons cSub (.cons cMul .nil)) Tryz.func42 (by kernel_rfl) (by kernel_rfl) (noLoops (by kernel_rfl)) (k3 (fun _ _ _ => by kernel_rfl))
theorem rMot : Sound Tryz.prog 65 (c3 eJ eRw eI (eFr 51 .row) (fun j r dt => Fx.motor j dt r)) :=
  con (lps := noLps) mixed (.cons rSub (.cons rMul .nil)) Tryz.func65 (by kernel_rfl) (by kernel_rfl) (noLoops (by kernel_rfl)) (k3 (fun _ _ _ => by kernel_rfl))
theorem cLim31 : Sound Tryz.prog 43 (c7 eI eI eI eB eI eI eRw (eFr 51 .row) Fx.limits) :=
  con (lps := noLps) mixed (.cons cSub (.cons cCorr .nil)) Tryz.func43 (by kernel_rfl) (by kernel_rfl) (noLoops (by kernel_rfl)) (k7 (fun _ _ _ _ _ _ _ => by kernel_rfl))
theorem rLim31 : Sound Tryz.prog 66 (c7 eI eI eI eB eI eI eRw (eFr 51 .row) Fx.limits) :=
  con (lps := noLps) mixed (.cons rSub (.cons rCorr .nil)) Tryz.func66 (by kernel_rfl) (by kernel_rfl) (noLoops (by kernel_rfl)) (g7 (fun _ _ _ _ _ _ _ => []) Fx.limitsR (fun _ _ _ _ _ _ _ _ => trivial) (fun _ _ _ _ _ _ _ _ => Fx.limitsR_eq _ _ _ _ _ _ _) (fun _ _ _ _ _ _ _ => by kernel_rfl))
theorem cPts : Sound Tryz.prog 45 (c7 eJ eBd eBd eI eI (eSl .sb) eI (eFr 51 .row) Fx.points) :=
  con (lps := noLps) mixed (.cons cAnch (.cons cPrw (.cons cSub (.cons cCorr .nil)))) Tryz.func45 (by kernel_rfl) (by kernel_rfl) (noLoops (by kernel_rfl)) (k7 (fun _ _ _ _ _ _ _ => by kernel_rfl))
theorem rPts : Sound Tryz.prog 67 (c7 eJ eBd eBd eI eI (eSl .sb) eI (eFr 51 .row) Fx.points) :=
  con (lps := noLps) mixed (.cons rAnch (.cons rVsub (.cons rPrw (.cons rCorr .nil)))) Tryz.func67 (by kernel_rfl) (by kernel_rfl) (noLoops (by kernel_rfl)) (k7 (fun _ _ _ _ _ _ _ => by kernel_rfl))
theorem cSrw : Sound Tryz.prog 49 (c8 eJ eBd eBd eI eI eV eI (eSl .sb) eRw (fun j a b ia ib n so s => Fx.srow j a b ia ib s n so)) :=
  con (lps := noLps) mixed (.cons cAnch (.cons cWc (.cons cVsub (.cons cVadd (.cons cVcross (.cons cEff .nil)))))) Tryz.func49 (by kernel_rfl) (by kernel_rfl) (noLoops (by kernel_rfl)) (k8 (fun _ _ _ _ _ _ _ _ => by kernel_rfl))
theorem cAxr : Sound Tryz.prog 47 (c7 eJ eBd eBd eI eI eV (eSl .sb) eRw (fun j a b ia ib n s => Fx.srow j a b ia ib s n 0)) :=
  con (lps := noLps) mixed (.cons cSrw .nil) Tryz.func47 (by kernel_rfl) (by kernel_rfl) (noLoops (by kernel_rfl)) (k7 (fun _ _ _ _ _ _ _ => by kernel_rfl))
theorem rAxr : Sound Tryz.prog 69 (c7 eJ eBd eBd eI eI eV (eSl .sb) eRw (fun j a b ia ib n s => Fx.srow j a b ia ib s n 0)) :=
  con (lps := noLps) mixed (.cons rAnch (.cons rWc (.cons rVsub (.cons rVadd (.cons rVcross (.cons rEff .nil)))))) Tryz.func69 (by kernel_rfl) (by kernel_rfl) (noLoops (by kernel_rfl)) (k7 (fun _ _ _ _ _ _ _ => by kernel_rfl))
theorem cOff : Sound Tryz.prog 51 (c3 eJ eBd eBd eI Fx.offset) :=
  con (lps := noLps) mixed (.cons cAnch (.cons cVsub (.cons cVdot (.cons cVperp (.cons cWax .nil))))) Tryz.func51 (by kernel_rfl) (by kernel_rfl) (noLoops (by kernel_rfl)) (k3 (fun _ _ _ => by kernel_rfl))
theorem rOff : Sound Tryz.prog 72 (c3 eJ eBd eBd eI Fx.offset) :=
  con (lps := noLps) mixed (.cons rAnch (.cons rVsub (.cons rVdot (.cons rVperp (.cons rWax .nil))))) Tryz.func72 (by kernel_rfl) (by kernel_rfl) (noLoops (by kernel_rfl)) (k3 (fun _ _ _ => by kernel_rfl))
theorem cRrw : Sound Tryz.prog 19 (c7 eJ eBd eBd eI eI (eSl .sb) eI (eFr 51 .row) Fx.rrows) :=
  con (lps := noLps) mixed (.cons cArw (.cons cMot (.cons cLim31 (.cons cPts (.cons cRel .nil))))) Tryz.func19 (by kernel_rfl) (by kernel_rfl) (noLoops (by kernel_rfl)) (g7 Fx.rrowsQ Fx.rrows (fun j a b ia ib s dt _ => Fx.rrowsQ_ok j a b ia ib s dt) (fun _ _ _ _ _ _ _ _ => rfl) (fun _ _ _ _ _ _ _ => by kernel_rfl))
theorem rRrw : Sound Tryz.prog 24 (c7 eJ eBd eBd eI eI (eSl .sb) eI (eFr 51 .row) Fx.rrows) :=
  con (lps := noLps) mixed (.cons rArw (.cons rMot (.cons rLim31 (.cons rPts (.cons rRel .nil))))) Tryz.func24 (by kernel_rfl) (by kernel_rfl) (noLoops (by kernel_rfl)) (g7 Fx.rrowsQ Fx.rrows (fun j a b ia ib s dt _ => Fx.rrowsQ_ok j a b ia ib s dt) (fun _ _ _ _ _ _ _ _ => rfl) (fun _ _ _ _ _ _ _ => by kernel_rfl))
theorem cPrs : Sound Tryz.prog 20 (c7 eJ eBd eBd eI eI (eSl .sb) eI (eFr 51 .row) Fx.srows) :=
  con (lps := noLps) mixed (.cons cArw (.cons cMot (.cons cLim31 (.cons cRel (.cons cCorr (.cons cWax (.cons cTrl (.cons cOff (.cons cVperp (.cons cAxr (.cons cSrw .nil))))))))))) Tryz.func20 (by kernel_rfl) (by kernel_rfl) (noLoops (by kernel_rfl)) (g7 Fx.srowsQ Fx.srows (fun j a b ia ib s dt _ => Fx.srowsQ_ok j a b ia ib s dt) (fun _ _ _ _ _ _ _ _ => rfl) (fun _ _ _ _ _ _ _ => by kernel_rfl))
theorem cWld : Sound Tryz.prog 21 (c7 eJ eBd eBd eI eI (eSl .sb) eI (eFr 51 .row) Fx.wrows) :=
  con (lps := noLps) mixed (.cons cArw (.cons cPts (.cons cRel (.cons cCorr .nil)))) Tryz.func21 (by kernel_rfl) (by kernel_rfl) (noLoops (by kernel_rfl)) (g7 Fx.wrowsQ Fx.wrows (fun j a b ia ib s dt _ => Fx.wrowsQ_ok j a b ia ib s dt) (fun _ _ _ _ _ _ _ _ => rfl) (fun _ _ _ _ _ _ _ => by kernel_rfl))
theorem rWld : Sound Tryz.prog 26 (c7 eJ eBd eBd eI eI (eSl .sb) eI (eFr 51 .row) Fx.wrows) :=
  con (lps := noLps) mixed (.cons rArw (.cons rPts (.cons rRel (.cons rCorr .nil)))) Tryz.func26 (by kernel_rfl) (by kernel_rfl) (noLoops (by kernel_rfl)) (g7 Fx.wrowsQ Fx.wrows (fun j a b ia ib s dt _ => Fx.wrowsQ_ok j a b ia ib s dt) (fun _ _ _ _ _ _ _ _ => rfl) (fun _ _ _ _ _ _ _ => by kernel_rfl))
theorem rPrs : Sound Tryz.prog 25 (c7 eJ eBd eBd eI eI (eSl .sb) eI (eFr 51 .row) Fx.srows) :=
  con (lps := noLps) mixed (.cons rArw (.cons rMot (.cons rLim31 (.cons rRel (.cons rCorr (.cons rWax (.cons rTrl (.cons rOff (.cons rVperp (.cons rAxr (.cons rEff .nil))))))))))) Tryz.func25 (by kernel_rfl) (by kernel_rfl) (noLoops (by kernel_rfl)) (g7 Fx.srowsRQ Fx.srowsR (fun j a b ia ib s dt _ => Fx.srowsRQ_ok j a b ia ib s dt) (fun j a b ia ib s dt _ => Fx.srowsR_eq j a b ia ib s dt) (fun _ _ _ _ _ _ _ => by kernel_rfl))
theorem cTrw : Sound Tryz.prog 54 (c10 eV eI eI (eP .i64) (eP .jnt) (eP .i64) (eP .vec) (eP .bd) (eP .ssb) (eP .i64) eRw (fun n off sum ib j most q b s dt => Fx.trow j b ib s dt q n most off sum)) :=
  con (lps := noLps) mixed (.cons cVcross (.cons cVsub (.cons cWc (.cons cEff (.cons cCorr .nil))))) Tryz.func54 (by kernel_rfl) (by kernel_rfl) (noLoops (by kernel_rfl)) (k10 (fun _ _ _ _ _ _ _ _ _ _ => by kernel_rfl))
theorem cTgt : Sound Tryz.prog 22 (c5 eJ eBd eI (eSl .sb) eI (eFr 51 .row) (fun j b ib s dt => Fx.trows j b ib s dt)) :=
  con (lps := noLps) mixed (.cons cAnch (.cons cVsub (.cons cMul (.cons cTrw .nil)))) Tryz.func22 (by kernel_rfl) (by kernel_rfl) (noLoops (by kernel_rfl)) (k5 (fun _ _ _ _ _ => by kernel_rfl))
theorem rTrw : Sound Tryz.prog 73 (c8 eJ eBd eI (eSl .sb) eI eV eI eI eRw (fun j b ib s dt n off sum => Fx.trow j b ib s dt (Fx.anchors j Fx.bd0.t b.t).2 n (Fx.mul j.mf dt) off sum)) :=
  con (lps := noLps) mixed (.cons rAnch (.cons rMul (.cons rVcross (.cons rVsub (.cons rWc (.cons rEff (.cons rCorr .nil))))))) Tryz.func73 (by kernel_rfl) (by kernel_rfl) (noLoops (by kernel_rfl)) (k8 (fun _ _ _ _ _ _ _ _ => by kernel_rfl))
theorem rTgt : Sound Tryz.prog 27 (c5 eJ eBd eI (eSl .sb) eI (eFr 51 .row) (fun j b ib s dt => Fx.trows j b ib s dt)) :=
  con (lps := noLps) mixed (.cons rAnch (.cons rVsub (.cons rTrw .nil))) Tryz.func27 (by kernel_rfl) (by kernel_rfl) (noLoops (by kernel_rfl)) (k5 (fun _ _ _ _ _ => by kernel_rfl))
end Go.Proofs.YtbjpfekcghnppaaGreat
