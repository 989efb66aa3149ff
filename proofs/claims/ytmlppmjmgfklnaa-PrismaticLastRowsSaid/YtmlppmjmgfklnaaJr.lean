/- The contracts of the rows of joints, program and reference. -/
import Derived.Test.YtmlppmjmgfklnaaCst
open Go Go.Eng
namespace Go.Proofs.Ytmlppmjmgfklnaa
open Go.Fx (an orr)

theorem cArw : Sound Try.prog 8 (c4 eI eI (eSl .sb) eI eRw Fx.arow) :=
  con (lps := noLps) mixed (.cons cEff .nil) Try.func8 (by kernel_rfl) (by kernel_rfl) (noLoops (by kernel_rfl)) (k4 (fun _ _ _ _ => by kernel_rfl))
theorem cMot : Sound Try.prog 15 (c3 eJ eRw eI (eFr 42 .row) (fun j r dt => Fx.motor j dt r)) :=
  con (lps := noLps) mixed (.cons cSub (.cons cMul .nil)) Try.func15 (by kernel_rfl) (by kernel_rfl) (noLoops (by kernel_rfl)) (k3 (fun _ _ _ => by kernel_rfl))
theorem cLim31 : Sound Try.prog 16 (c7 eI eI eI eB eI eI eRw (eFr 42 .row) Fx.limits) :=
  con (lps := noLps) mixed (.cons cSub (.cons cCorr .nil)) Try.func16 (by kernel_rfl) (by kernel_rfl) (noLoops (by kernel_rfl)) (k7 (fun _ _ _ _ _ _ _ => by kernel_rfl))
theorem cSrw : Sound Try.prog 20 (c8 eJ eBd eBd eI eI eV eI (eSl .sb) eRw (fun j a b ia ib n so s => Fx.srow j a b ia ib s n so)) :=
  con (lps := noLps) mixed (.cons cAnch (.cons cWc (.cons cVsub (.cons cVadd (.cons cVcross (.cons cEff .nil)))))) Try.func20 (by kernel_rfl) (by kernel_rfl) (noLoops (by kernel_rfl)) (k8 (fun _ _ _ _ _ _ _ _ => by kernel_rfl))
theorem cAxr : Sound Try.prog 14 (c7 eJ eBd eBd eI eI eV (eSl .sb) eRw (fun j a b ia ib n s => Fx.srow j a b ia ib s n 0)) :=
  con (lps := noLps) mixed (.cons cSrw .nil) Try.func14 (by kernel_rfl) (by kernel_rfl) (noLoops (by kernel_rfl)) (k7 (fun _ _ _ _ _ _ _ => by kernel_rfl))
theorem cOff : Sound Try.prog 12 (c3 eJ eBd eBd eI Fx.offset) :=
  con (lps := noLps) mixed (.cons cAnch (.cons cVsub (.cons cVdot (.cons cVperp (.cons cWax .nil))))) Try.func12 (by kernel_rfl) (by kernel_rfl) (noLoops (by kernel_rfl)) (k3 (fun _ _ _ => by kernel_rfl))
theorem cPrs : Sound Try.prog 7 (c7 eJ eBd eBd eI eI (eSl .sb) eI (eFr 42 .row) Fx.srows) :=
  con (lps := noLps) mixed (.cons cArw (.cons cMot (.cons cLim31 (.cons cRel (.cons cCorr (.cons cWax (.cons cTrl (.cons cOff (.cons cVperp (.cons cAxr (.cons cSrw .nil))))))))))) Try.func7 (by kernel_rfl) (by kernel_rfl) (noLoops (by kernel_rfl)) (g7 Fx.srowsQ Fx.srows (fun j a b ia ib s dt _ => Fx.srowsQ_ok j a b ia ib s dt) (fun _ _ _ _ _ _ _ _ => rfl) (fun _ _ _ _ _ _ _ => by kernel_rfl))
end Go.Proofs.Ytmlppmjmgfklnaa
