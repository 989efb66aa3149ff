/- The contracts of the rows of joints, program and reference. -/
import Derived.Test.YthaoinkbblbijaaGreatCst
open Go Go.Eng
namespace Go.Proofs.YthaoinkbblbijaaGreat
open Go.Fx (an orr)

theorem cArw : Sound Tryz.prog 14 (c4 eI eI (eSl .sb) eI eRw Fx.arow) :=
  con (lps := noLps) mixed (.cons cEff .nil) Tryz.func14 (by kernel_rfl) (by kernel_rfl) (noLoops (by kernel_rfl)) (k4 (fun _ _ _ _ => by kernel_rfl))
theorem rArw : Sound Tryz.prog 17 (c4 eI eI (eSl .sb) eI eRw Fx.arow) :=
  con (lps := noLps) mixed (.cons rEff .nil) Tryz.func17 (by kernel_rfl) (by kernel_rfl) (noLoops (by kernel_rfl)) (k4 (fun _ _ _ _ => by kernel_rfl))
theorem cMot : Sound Tryz.prog 15 (c3 eJ eRw eI (eFr 48 .row) (fun j r dt => Fx.motor j dt r)) :=
  con (lps := noLps) mixed (.cons cSub (.cons cMul .nil)) Tryz.func15 (by kernel_rfl) (by kernel_rfl) (noLoops (by kernel_rfl)) (k3 (fun _ _ _ => by kernel_rfl))
theorem rMot : Sound Tryz.prog 18 (c3 eJ eRw eI (eFr 48 .row) (fun j r dt => Fx.motor j dt r)) :=
  con (lps := noLps) mixed (.cons rSub (.cons rMul .nil)) Tryz.func18 (by kernel_rfl) (by kernel_rfl) (noLoops (by kernel_rfl)) (k3 (fun _ _ _ => by kernel_rfl))
theorem cLim31 : Sound Tryz.prog 13 (c7 eI eI eI eB eI eI eRw (eFr 48 .row) Fx.limits) :=
  con (lps := noLps) mixed (.cons cSub (.cons cCorr .nil)) Tryz.func13 (by kernel_rfl) (by kernel_rfl) (noLoops (by kernel_rfl)) (k7 (fun _ _ _ _ _ _ _ => by kernel_rfl))
theorem rLim31 : Sound Tryz.prog 19 (c7 eI eI eI eB eI eI eRw (eFr 48 .row) Fx.limits) :=
  con (lps := noLps) mixed (.cons rSub (.cons rCorr .nil)) Tryz.func19 (by kernel_rfl) (by kernel_rfl) (noLoops (by kernel_rfl)) (g7 (fun _ _ _ _ _ _ _ => []) Fx.limitsR (fun _ _ _ _ _ _ _ _ => trivial) (fun _ _ _ _ _ _ _ _ => Fx.limitsR_eq _ _ _ _ _ _ _) (fun _ _ _ _ _ _ _ => by kernel_rfl))
theorem cPts : Sound Tryz.prog 10 (c7 eJ eBd eBd eI eI (eSl .sb) eI (eFr 48 .row) Fx.points) :=
  con (lps := noLps) mixed (.cons cAnch (.cons cPrw (.cons cSub (.cons cCorr .nil)))) Tryz.func10 (by kernel_rfl) (by kernel_rfl) (noLoops (by kernel_rfl)) (k7 (fun _ _ _ _ _ _ _ => by kernel_rfl))
theorem rPts : Sound Tryz.prog 11 (c7 eJ eBd eBd eI eI (eSl .sb) eI (eFr 48 .row) Fx.points) :=
  con (lps := noLps) mixed (.cons rAnch (.cons rVsub (.cons rPrw (.cons rCorr .nil)))) Tryz.func11 (by kernel_rfl) (by kernel_rfl) (noLoops (by kernel_rfl)) (k7 (fun _ _ _ _ _ _ _ => by kernel_rfl))
theorem cRrw : Sound Tryz.prog 8 (c7 eJ eBd eBd eI eI (eSl .sb) eI (eFr 48 .row) Fx.rrows) :=
  con (lps := noLps) mixed (.cons cArw (.cons cMot (.cons cLim31 (.cons cPts (.cons cRel .nil))))) Tryz.func8 (by kernel_rfl) (by kernel_rfl) (noLoops (by kernel_rfl)) (g7 Fx.rrowsQ Fx.rrows (fun j a b ia ib s dt _ => Fx.rrowsQ_ok j a b ia ib s dt) (fun _ _ _ _ _ _ _ _ => rfl) (fun _ _ _ _ _ _ _ => by kernel_rfl))
theorem rRrw : Sound Tryz.prog 9 (c7 eJ eBd eBd eI eI (eSl .sb) eI (eFr 48 .row) Fx.rrows) :=
  con (lps := noLps) mixed (.cons rArw (.cons rMot (.cons rLim31 (.cons rPts (.cons rRel .nil))))) Tryz.func9 (by kernel_rfl) (by kernel_rfl) (noLoops (by kernel_rfl)) (g7 Fx.rrowsQ Fx.rrows (fun j a b ia ib s dt _ => Fx.rrowsQ_ok j a b ia ib s dt) (fun _ _ _ _ _ _ _ _ => rfl) (fun _ _ _ _ _ _ _ => by kernel_rfl))
end Go.Proofs.YthaoinkbblbijaaGreat
