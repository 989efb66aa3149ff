/- The contracts of the rows of joints, program and reference. -/
import Derived.Test.YtmlppmjmgfklnaaGreatCst
open Go Go.Eng
namespace Go.Proofs.YtmlppmjmgfklnaaGreat
open Go.Fx (an orr)

theorem cArw : Sound Tryz.prog 23 (c4 eI eI (eSl .sb) eI eRw Fx.arow) :=
  con (lps := noLps) mixed (.cons cEff .nil) Tryz.func23 (by kernel_rfl) (by kernel_rfl) (noLoops (by kernel_rfl)) (k4 (fun _ _ _ _ => by kernel_rfl))
theorem rArw : Sound Tryz.prog 32 (c4 eI eI (eSl .sb) eI eRw Fx.arow) :=
  con (lps := noLps) mixed (.cons rEff .nil) Tryz.func32 (by kernel_rfl) (by kernel_rfl) (noLoops (by kernel_rfl)) (k4 (fun _ _ _ _ => by kernel_rfl))
theorem cMot : Sound Tryz.prog 20 (c3 eJ eRw eI (eFr 45 .row) (fun j r dt => Fx.motor j dt r)) :=
  con (lps := noLps) mixed (.cons cSub (.cons cMul .nil)) Tryz.func20 (by kernel_rfl) (by kernel_rfl) (noLoops (by kernel_rfl)) (k3 (fun _ _ _ => by kernel_rfl))
theorem rMot : Sound Tryz.prog 29 (c3 eJ eRw eI (eFr 45 .row) (fun j r dt => Fx.motor j dt r)) :=
  con (lps := noLps) mixed (.cons rSub (.cons rMul .nil)) Tryz.func29 (by kernel_rfl) (by kernel_rfl) (noLoops (by kernel_rfl)) (k3 (fun _ _ _ => by kernel_rfl))
theorem cLim31 : Sound Tryz.prog 21 (c7 eI eI eI eB eI eI eRw (eFr 45 .row) Fx.limits) :=
  con (lps := noLps) mixed (.cons cSub (.cons cCorr .nil)) Tryz.func21 (by kernel_rfl) (by kernel_rfl) (noLoops (by kernel_rfl)) (k7 (fun _ _ _ _ _ _ _ => by kernel_rfl))
theorem rLim31 : Sound Tryz.prog 30 (c7 eI eI eI eB eI eI eRw (eFr 45 .row) Fx.limits) :=
  con (lps := noLps) mixed (.cons rSub (.cons rCorr .nil)) Tryz.func30 (by kernel_rfl) (by kernel_rfl) (noLoops (by kernel_rfl)) (g7 (fun _ _ _ _ _ _ _ => []) Fx.limitsR (fun _ _ _ _ _ _ _ _ => trivial) (fun _ _ _ _ _ _ _ _ => Fx.limitsR_eq _ _ _ _ _ _ _) (fun _ _ _ _ _ _ _ => by kernel_rfl))
theorem cSrw : Sound Tryz.prog 26 (c8 eJ eBd eBd eI eI eV eI (eSl .sb) eRw (fun j a b ia ib n so s => Fx.srow j a b ia ib s n so)) :=
  con (lps := noLps) mixed (.cons cAnch (.cons cWc (.cons cVsub (.cons cVadd (.cons cVcross (.cons cEff .nil)))))) Tryz.func26 (by kernel_rfl) (by kernel_rfl) (noLoops (by kernel_rfl)) (k8 (fun _ _ _ _ _ _ _ _ => by kernel_rfl))
theorem cAxr : Sound Tryz.prog 13 (c7 eJ eBd eBd eI eI eV (eSl .sb) eRw (fun j a b ia ib n s => Fx.srow j a b ia ib s n 0)) :=
  con (lps := noLps) mixed (.cons cSrw .nil) Tryz.func13 (by kernel_rfl) (by kernel_rfl) (noLoops (by kernel_rfl)) (k7 (fun _ _ _ _ _ _ _ => by kernel_rfl))
theorem rAxr : Sound Tryz.prog 14 (c7 eJ eBd eBd eI eI eV (eSl .sb) eRw (fun j a b ia ib n s => Fx.srow j a b ia ib s n 0)) :=
  con (lps := noLps) mixed (.cons rAnch (.cons rWc (.cons rVsub (.cons rVadd (.cons rVcross (.cons rEff .nil)))))) Tryz.func14 (by kernel_rfl) (by kernel_rfl) (noLoops (by kernel_rfl)) (k7 (fun _ _ _ _ _ _ _ => by kernel_rfl))
theorem cOff : Sound Tryz.prog 11 (c3 eJ eBd eBd eI Fx.offset) :=
  con (lps := noLps) mixed (.cons cAnch (.cons cVsub (.cons cVdot (.cons cVperp (.cons cWax .nil))))) Tryz.func11 (by kernel_rfl) (by kernel_rfl) (noLoops (by kernel_rfl)) (k3 (fun _ _ _ => by kernel_rfl))
theorem rOff : Sound Tryz.prog 12 (c3 eJ eBd eBd eI Fx.offset) :=
  con (lps := noLps) mixed (.cons rAnch (.cons rVsub (.cons rVdot (.cons rVperp (.cons rWax .nil))))) Tryz.func12 (by kernel_rfl) (by kernel_rfl) (noLoops (by kernel_rfl)) (k3 (fun _ _ _ => by kernel_rfl))
theorem cPrs : Sound Tryz.prog 8 (c7 eJ eBd eBd eI eI (eSl .sb) eI (eFr 45 .row) Fx.srows) :=
  con (lps := noLps) mixed (.cons cArw (.cons cMot (.cons cLim31 (.cons cRel (.cons cCorr (.cons cWax (.cons cTrl (.cons cOff (.cons cVperp (.cons cAxr (.cons cSrw .nil))))))))))) Tryz.func8 (by kernel_rfl) (by kernel_rfl) (noLoops (by kernel_rfl)) (g7 Fx.srowsQ Fx.srows (fun j a b ia ib s dt _ => Fx.srowsQ_ok j a b ia ib s dt) (fun _ _ _ _ _ _ _ _ => rfl) (fun _ _ _ _ _ _ _ => by kernel_rfl))
theorem rPrs : Sound Tryz.prog 9 (c7 eJ eBd eBd eI eI (eSl .sb) eI (eFr 45 .row) Fx.srows) :=
  con (lps := noLps) mixed (.cons rArw (.cons rMot (.cons rLim31 (.cons rRel (.cons rCorr (.cons rWax (.cons rTrl (.cons rOff (.cons rVperp (.cons rAxr (.cons rEff .nil))))))))))) Tryz.func9 (by kernel_rfl) (by kernel_rfl) (noLoops (by kernel_rfl)) (g7 Fx.srowsRQ Fx.srowsR (fun j a b ia ib s dt _ => Fx.srowsRQ_ok j a b ia ib s dt) (fun j a b ia ib s dt _ => Fx.srowsR_eq j a b ia ib s dt) (fun _ _ _ _ _ _ _ => by kernel_rfl))
end Go.Proofs.YtmlppmjmgfklnaaGreat
