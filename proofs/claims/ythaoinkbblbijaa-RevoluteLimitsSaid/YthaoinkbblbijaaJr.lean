/- The contracts of the rows of joints, program and reference. -/
import Derived.Test.YthaoinkbblbijaaCst
open Go Go.Eng
namespace Go.Proofs.Ythaoinkbblbijaa
open Go.Fx (an orr)

theorem cArw : Sound Try.prog 8 (c4 eI eI (eSl .sb) eI eRw Fx.arow) :=
  con (lps := noLps) mixed (.cons cEff .nil) Try.func8 (by kernel_rfl) (by kernel_rfl) (noLoops (by kernel_rfl)) (k4 (fun _ _ _ _ => by kernel_rfl))
theorem rArw : Sound Try.prog 9 (c4 eI eI (eSl .sb) eI eRw Fx.arow) :=
  con (lps := noLps) mixed (.cons rEff .nil) Try.func9 (by kernel_rfl) (by kernel_rfl) (noLoops (by kernel_rfl)) (k4 (fun _ _ _ _ => by kernel_rfl))
theorem cMot : Sound Try.prog 11 (c3 eJ eRw eI (eFr 38 .row) (fun j r dt => Fx.motor j dt r)) :=
  con (lps := noLps) mixed (.cons cSub (.cons cMul .nil)) Try.func11 (by kernel_rfl) (by kernel_rfl) (noLoops (by kernel_rfl)) (k3 (fun _ _ _ => by kernel_rfl))
theorem rMot : Sound Try.prog 12 (c3 eJ eRw eI (eFr 38 .row) (fun j r dt => Fx.motor j dt r)) :=
  con (lps := noLps) mixed (.cons rSub (.cons rMul .nil)) Try.func12 (by kernel_rfl) (by kernel_rfl) (noLoops (by kernel_rfl)) (k3 (fun _ _ _ => by kernel_rfl))
theorem cLim31 : Sound Try.prog 13 (c7 eI eI eI eB eI eI eRw (eFr 38 .row) Fx.limits) :=
  con (lps := noLps) mixed (.cons cSub (.cons cCorr .nil)) Try.func13 (by kernel_rfl) (by kernel_rfl) (noLoops (by kernel_rfl)) (k7 (fun _ _ _ _ _ _ _ => by kernel_rfl))
theorem rLim31 : Sound Try.prog 14 (c7 eI eI eI eB eI eI eRw (eFr 38 .row) Fx.limits) :=
  con (lps := noLps) mixed (.cons rSub (.cons rCorr .nil)) Try.func14 (by kernel_rfl) (by kernel_rfl) (noLoops (by kernel_rfl)) (g7 (fun _ _ _ _ _ _ _ => []) Fx.limitsR (fun _ _ _ _ _ _ _ _ => trivial) (fun _ _ _ _ _ _ _ _ => Fx.limitsR_eq _ _ _ _ _ _ _) (fun _ _ _ _ _ _ _ => by kernel_rfl))
theorem cPts : Sound Try.prog 26 (c7 eJ eBd eBd eI eI (eSl .sb) eI (eFr 38 .row) Fx.points) :=
  con (lps := noLps) mixed (.cons cAnch (.cons cPrw (.cons cSub (.cons cCorr .nil)))) Try.func26 (by kernel_rfl) (by kernel_rfl) (noLoops (by kernel_rfl)) (k7 (fun _ _ _ _ _ _ _ => by kernel_rfl))
theorem cRrw : Sound Try.prog 15 (c7 eJ eBd eBd eI eI (eSl .sb) eI (eFr 38 .row) Fx.rrows) :=
  con (lps := noLps) mixed (.cons cArw (.cons cMot (.cons cLim31 (.cons cPts (.cons cRel .nil))))) Try.func15 (by kernel_rfl) (by kernel_rfl) (noLoops (by kernel_rfl)) (g7 Fx.rrowsQ Fx.rrows (fun j a b ia ib s dt _ => Fx.rrowsQ_ok j a b ia ib s dt) (fun _ _ _ _ _ _ _ _ => rfl) (fun _ _ _ _ _ _ _ => by kernel_rfl))
end Go.Proofs.Ythaoinkbblbijaa
