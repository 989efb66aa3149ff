/- The contracts of the rows of joints, program and reference. -/
import Derived.Test.YtnbfkepiolakaaaGreatCst
open Go Go.Eng
namespace Go.Proofs.YtnbfkepiolakaaaGreat
open Go.Fx (an orr)

theorem cArw : Sound Tryz.prog 25 (c4 eI eI (eSl .sb) eI eRw Fx.arow) :=
  con (lps := noLps) mixed (.cons cEff .nil) Tryz.func25 (by kernel_rfl) (by kernel_rfl) (noLoops (by kernel_rfl)) (k4 (fun _ _ _ _ => by kernel_rfl))
theorem rArw : Sound Tryz.prog 28 (c4 eI eI (eSl .sb) eI eRw Fx.arow) :=
  con (lps := noLps) mixed (.cons rEff .nil) Tryz.func28 (by kernel_rfl) (by kernel_rfl) (noLoops (by kernel_rfl)) (k4 (fun _ _ _ _ => by kernel_rfl))
theorem cPts : Sound Tryz.prog 27 (c7 eJ eBd eBd eI eI (eSl .sb) eI (eFr 45 .row) Fx.points) :=
  con (lps := noLps) mixed (.cons cAnch (.cons cPrw (.cons cSub (.cons cCorr .nil)))) Tryz.func27 (by kernel_rfl) (by kernel_rfl) (noLoops (by kernel_rfl)) (k7 (fun _ _ _ _ _ _ _ => by kernel_rfl))
theorem rPts : Sound Tryz.prog 31 (c7 eJ eBd eBd eI eI (eSl .sb) eI (eFr 45 .row) Fx.points) :=
  con (lps := noLps) mixed (.cons rAnch (.cons rVsub (.cons rPrw (.cons rCorr .nil)))) Tryz.func31 (by kernel_rfl) (by kernel_rfl) (noLoops (by kernel_rfl)) (k7 (fun _ _ _ _ _ _ _ => by kernel_rfl))
theorem cWld : Sound Tryz.prog 10 (c7 eJ eBd eBd eI eI (eSl .sb) eI (eFr 45 .row) Fx.wrows) :=
  con (lps := noLps) mixed (.cons cArw (.cons cPts (.cons cRel (.cons cCorr .nil)))) Tryz.func10 (by kernel_rfl) (by kernel_rfl) (noLoops (by kernel_rfl)) (g7 Fx.wrowsQ Fx.wrows (fun j a b ia ib s dt _ => Fx.wrowsQ_ok j a b ia ib s dt) (fun _ _ _ _ _ _ _ _ => rfl) (fun _ _ _ _ _ _ _ => by kernel_rfl))
theorem rWld : Sound Tryz.prog 11 (c7 eJ eBd eBd eI eI (eSl .sb) eI (eFr 45 .row) Fx.wrows) :=
  con (lps := noLps) mixed (.cons rArw (.cons rPts (.cons rRel (.cons rCorr .nil)))) Tryz.func11 (by kernel_rfl) (by kernel_rfl) (noLoops (by kernel_rfl)) (g7 Fx.wrowsQ Fx.wrows (fun j a b ia ib s dt _ => Fx.wrowsQ_ok j a b ia ib s dt) (fun _ _ _ _ _ _ _ _ => rfl) (fun _ _ _ _ _ _ _ => by kernel_rfl))
theorem cTrw : Sound Tryz.prog 17 (c10 eV eI eI (eP .i64) (eP .jnt) (eP .i64) (eP .vec) (eP .bd) (eP .ssb) (eP .i64) eRw (fun n off sum ib j most q b s dt => Fx.trow j b ib s dt q n most off sum)) :=
  con (lps := noLps) mixed (.cons cVcross (.cons cVsub (.cons cWc (.cons cEff (.cons cCorr .nil))))) Tryz.func17 (by kernel_rfl) (by kernel_rfl) (noLoops (by kernel_rfl)) (k10 (fun _ _ _ _ _ _ _ _ _ _ => by kernel_rfl))
theorem cTgt : Sound Tryz.prog 8 (c5 eJ eBd eI (eSl .sb) eI (eFr 45 .row) (fun j b ib s dt => Fx.trows j b ib s dt)) :=
  con (lps := noLps) mixed (.cons cAnch (.cons cVsub (.cons cMul (.cons cTrw .nil)))) Tryz.func8 (by kernel_rfl) (by kernel_rfl) (noLoops (by kernel_rfl)) (k5 (fun _ _ _ _ _ => by kernel_rfl))
theorem rTrw : Sound Tryz.prog 24 (c8 eJ eBd eI (eSl .sb) eI eV eI eI eRw (fun j b ib s dt n off sum => Fx.trow j b ib s dt (Fx.anchors j Fx.bd0.t b.t).2 n (Fx.mul j.mf dt) off sum)) :=
  con (lps := noLps) mixed (.cons rAnch (.cons rMul (.cons rVcross (.cons rVsub (.cons rWc (.cons rEff (.cons rCorr .nil))))))) Tryz.func24 (by kernel_rfl) (by kernel_rfl) (noLoops (by kernel_rfl)) (k8 (fun _ _ _ _ _ _ _ _ => by kernel_rfl))
theorem rTgt : Sound Tryz.prog 9 (c5 eJ eBd eI (eSl .sb) eI (eFr 45 .row) (fun j b ib s dt => Fx.trows j b ib s dt)) :=
  con (lps := noLps) mixed (.cons rAnch (.cons rVsub (.cons rTrw .nil))) Tryz.func9 (by kernel_rfl) (by kernel_rfl) (noLoops (by kernel_rfl)) (k5 (fun _ _ _ _ _ => by kernel_rfl))
end Go.Proofs.YtnbfkepiolakaaaGreat
