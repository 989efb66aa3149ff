/- The contracts of the vectors and transforms, program and reference. -/
import Derived.Test.YtooijhaalinaiaaAng
import Derived.Test.YtooijhaalinaiaaEngEnc
open Go Go.Eng
namespace Go.Proofs.Ytooijhaalinaiaa

theorem cLerp : Sound Try.prog 65 (c3 eI eI eI eI Fx.lerp) :=
  con (lps := noLps) mixed (.cons cAdd (.cons cMul (.cons cSub .nil))) Try.func65 (by kernel_rfl) (by kernel_rfl) (noLoops (by kernel_rfl)) (k3 (fun _ _ _ => by kernel_rfl))
theorem rLerp : Sound Try.prog 66 (c3 eI eI eI eI Fx.lerp) :=
  con (lps := noLps) mixed (.cons rAdd (.cons rMul (.cons rSub .nil))) Try.func66 (by kernel_rfl) (by kernel_rfl) (noLoops (by kernel_rfl)) (k3 (fun _ _ _ => by kernel_rfl))
theorem cProd : Sound Try.prog 50 (c1 eI eI Fx.prod) :=
  con (lps := noLps) mixed (.cons cSat (.cons cRdiv .nil)) Try.func50 (by kernel_rfl) (by kernel_rfl) (noLoops (by kernel_rfl)) (k1 (fun _ => by kernel_rfl))
theorem cVsat : Sound Try.prog 49 (c1 eV eV Fx.vsat) :=
  con (lps := noLps) mixed (.cons cSat .nil) Try.func49 (by kernel_rfl) (by kernel_rfl) (noLoops (by kernel_rfl)) (k1 (fun _ => by kernel_rfl))
theorem cVadd : Sound Try.prog 16 (c2 eV eV eV Fx.vadd) :=
  con (lps := noLps) mixed (.cons cAdd .nil) Try.func16 (by kernel_rfl) (by kernel_rfl) (noLoops (by kernel_rfl)) (k2 (fun _ _ => by kernel_rfl))
theorem cVsub : Sound Try.prog 17 (c2 eV eV eV Fx.vsub) :=
  con (lps := noLps) mixed (.cons cSub .nil) Try.func17 (by kernel_rfl) (by kernel_rfl) (noLoops (by kernel_rfl)) (k2 (fun _ _ => by kernel_rfl))
theorem cVscale : Sound Try.prog 39 (c2 eV eI eV Fx.vscale) :=
  con (lps := noLps) mixed (.cons cMul .nil) Try.func39 (by kernel_rfl) (by kernel_rfl) (noLoops (by kernel_rfl)) (k2 (fun _ _ => by kernel_rfl))
theorem cVlerp : Sound Try.prog 45 (c3 eV eV eI eV Fx.vlerp) :=
  con (lps := noLps) mixed (.cons cLerp .nil) Try.func45 (by kernel_rfl) (by kernel_rfl) (noLoops (by kernel_rfl)) (k3 (fun _ _ _ => by kernel_rfl))
theorem cVrot : Sound Try.prog 25 (c2 eV eV eV Fx.vrot) :=
  con (lps := noLps) mixed (.cons cSat (.cons cVsat (.cons cProd .nil))) Try.func25 (by kernel_rfl) (by kernel_rfl) (noLoops (by kernel_rfl)) (k2 (fun _ _ => by kernel_rfl))
theorem cVirot : Sound Try.prog 30 (c2 eV eV eV Fx.virot) :=
  con (lps := noLps) mixed (.cons cSat (.cons cVsat (.cons cProd .nil))) Try.func30 (by kernel_rfl) (by kernel_rfl) (noLoops (by kernel_rfl)) (k2 (fun _ _ => by kernel_rfl))

theorem rVsat : Sound Try.prog 57 (c1 eV eV Fx.vsat) :=
  con (lps := noLps) mixed (.cons rSat .nil) Try.func57 (by kernel_rfl) (by kernel_rfl) (noLoops (by kernel_rfl)) (k1 (fun _ => by kernel_rfl))
theorem rVadd : Sound Try.prog 27 (c2 eV eV eV Fx.vadd) :=
  con (lps := noLps) mixed (.cons rAdd .nil) Try.func27 (by kernel_rfl) (by kernel_rfl) (noLoops (by kernel_rfl)) (k2 (fun _ _ => by kernel_rfl))
theorem rVsub : Sound Try.prog 32 (c2 eV eV eV Fx.vsub) :=
  con (lps := noLps) mixed (.cons rSub .nil) Try.func32 (by kernel_rfl) (by kernel_rfl) (noLoops (by kernel_rfl)) (k2 (fun _ _ => by kernel_rfl))
theorem rVscale : Sound Try.prog 41 (c2 eV eI eV Fx.vscale) :=
  con (lps := noLps) mixed (.cons rMul .nil) Try.func41 (by kernel_rfl) (by kernel_rfl) (noLoops (by kernel_rfl)) (k2 (fun _ _ => by kernel_rfl))
theorem rVlerp : Sound Try.prog 47 (c3 eV eV eI eV Fx.vlerp) :=
  con (lps := noLps) mixed (.cons rLerp .nil) Try.func47 (by kernel_rfl) (by kernel_rfl) (noLoops (by kernel_rfl)) (k3 (fun _ _ _ => by kernel_rfl))
theorem rVrot : Sound Try.prog 28 (c2 eV eV eV Fx.vrot) :=
  con (lps := noLps) mixed (.cons rSat (.cons rVsat (.cons rRdiv .nil))) Try.func28 (by kernel_rfl) (by kernel_rfl) (noLoops (by kernel_rfl)) (k2 (fun _ _ => by kernel_rfl))
theorem rVirot : Sound Try.prog 31 (c2 eV eV eV Fx.virot) :=
  con (lps := noLps) mixed (.cons rSat (.cons rVsat (.cons rRdiv .nil))) Try.func31 (by kernel_rfl) (by kernel_rfl) (noLoops (by kernel_rfl)) (k2 (fun _ _ => by kernel_rfl))

theorem cInW : Sound Try.prog 33 (c1 eI eB Fx.inWorld) :=
  con (lps := noLps) mixed .nil Try.func33 (by kernel_rfl) (by kernel_rfl) (noLoops (by kernel_rfl)) (k1 (fun _ => by kernel_rfl))
theorem cValid : Sound Try.prog 13 (c1 eT eB Fx.Tf.valid) :=
  con (lps := noLps) mixed (.cons cInW .nil) Try.func13 (by kernel_rfl) (by kernel_rfl) (noLoops (by kernel_rfl)) (k1 (fun _ => by kernel_rfl))
theorem cApply : Sound Try.prog 9 (c2 eT eV eV Fx.Tf.apply) :=
  con (lps := noLps) mixed (.cons cRot (.cons cVrot (.cons cVadd .nil))) Try.func9 (by kernel_rfl) (by kernel_rfl) (noLoops (by kernel_rfl)) (k2 (fun _ _ => by kernel_rfl))
theorem cAppInv : Sound Try.prog 11 (c2 eT eV eV Fx.Tf.applyInv) :=
  con (lps := noLps) mixed (.cons cRot (.cons cVirot (.cons cVsub .nil))) Try.func11 (by kernel_rfl) (by kernel_rfl) (noLoops (by kernel_rfl)) (k2 (fun _ _ => by kernel_rfl))
theorem cTurn : Sound Try.prog 37 (c2 eI eI eI Fx.turn) :=
  con (lps := noLps) mixed (.cons cNorm .nil) Try.func37 (by kernel_rfl) (by kernel_rfl) (noLoops (by kernel_rfl)) (k2 (fun _ _ => by kernel_rfl))
theorem cTmul : Sound Try.prog 18 (c2 eT eT eT Fx.Tf.mul) :=
  con (lps := noLps) mixed (.cons cApply (.cons cTurn (.cons cNorm .nil))) Try.func18 (by kernel_rfl) (by kernel_rfl) (noLoops (by kernel_rfl)) (k2 (fun _ _ => by kernel_rfl))
theorem cTlerp : Sound Try.prog 22 (c3 eT eT eI eT Fx.Tf.lerp) :=
  con (lps := noLps) mixed (.cons cDiff (.cons cMul (.cons cVlerp (.cons cTurn .nil)))) Try.func22 (by kernel_rfl) (by kernel_rfl) (noLoops (by kernel_rfl)) (k3 (fun _ _ _ => by kernel_rfl))
theorem cMove : Sound Try.prog 19 (c5 eT eV eV eI eI eT Fx.Tf.move) :=
  con (lps := noLps) mixed (.cons cApply (.cons cVscale (.cons cVadd (.cons cTurn (.cons cMul (.cons cVsub (.cons cVrot (.cons cRot .nil)))))))) Try.func19 (by kernel_rfl) (by kernel_rfl) (noLoops (by kernel_rfl)) (k5 (fun _ _ _ _ _ => by kernel_rfl))
theorem rApply : Sound Try.prog 10 (c2 eT eV eV Fx.Tf.apply) :=
  con (lps := noLps) mixed (.cons rRot (.cons rVrot (.cons rVadd .nil))) Try.func10 (by kernel_rfl) (by kernel_rfl) (noLoops (by kernel_rfl)) (k2 (fun _ _ => by kernel_rfl))
theorem rAppInv : Sound Try.prog 12 (c2 eT eV eV Fx.Tf.applyInv) :=
  con (lps := noLps) mixed (.cons rRot (.cons rVirot (.cons rVsub .nil))) Try.func12 (by kernel_rfl) (by kernel_rfl) (noLoops (by kernel_rfl)) (k2 (fun _ _ => by kernel_rfl))
theorem rTmul : Sound Try.prog 21 (c2 eT eT eT Fx.Tf.mul) :=
  con (lps := noLps) mixed (.cons rApply (.cons rNorm .nil)) Try.func21 (by kernel_rfl) (by kernel_rfl) (noLoops (by kernel_rfl)) (k2 (fun _ _ => by kernel_rfl))
theorem rTlerp : Sound Try.prog 23 (c3 eT eT eI eT Fx.Tf.lerp) :=
  con (lps := noLps) mixed (.cons rDiff (.cons rMul (.cons rVlerp (.cons rNorm .nil)))) Try.func23 (by kernel_rfl) (by kernel_rfl) (noLoops (by kernel_rfl)) (k3 (fun _ _ _ => by kernel_rfl))
theorem rMove : Sound Try.prog 20 (c5 eT eV eV eI eI eT Fx.Tf.move) :=
  con (lps := noLps) mixed (.cons rApply (.cons rVscale (.cons rVadd (.cons rNorm (.cons rMul (.cons rVsub (.cons rVrot (.cons rRot .nil)))))))) Try.func20 (by kernel_rfl) (by kernel_rfl) (noLoops (by kernel_rfl)) (k5 (fun _ _ _ _ _ => by kernel_rfl))

end Go.Proofs.Ytooijhaalinaiaa
