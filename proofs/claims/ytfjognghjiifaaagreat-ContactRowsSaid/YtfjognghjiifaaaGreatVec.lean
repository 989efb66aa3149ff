/- The contracts of the vectors and transforms, program and reference. -/
import Derived.Test.YtfjognghjiifaaaGreatAng
import Derived.Test.YtfjognghjiifaaaGreatEngEnc
open Go Go.Eng
namespace Go.Proofs.YtfjognghjiifaaaGreat

theorem cLerp : Sound Tryz.prog 120 (c3 eI eI eI eI Fx.lerp) :=
  con (lps := noLps) mixed (.cons cAdd (.cons cMul (.cons cSub .nil))) Tryz.func120 (by kernel_rfl) (by kernel_rfl) (noLoops (by kernel_rfl)) (k3 (fun _ _ _ => by kernel_rfl))
theorem rLerp : Sound Tryz.prog 125 (c3 eI eI eI eI Fx.lerp) :=
  con (lps := noLps) mixed (.cons rAdd (.cons rMul (.cons rSub .nil))) Tryz.func125 (by kernel_rfl) (by kernel_rfl) (noLoops (by kernel_rfl)) (k3 (fun _ _ _ => by kernel_rfl))
theorem cProd : Sound Tryz.prog 59 (c1 eI eI Fx.prod) :=
  con (lps := noLps) mixed (.cons cSat (.cons cRdiv .nil)) Tryz.func59 (by kernel_rfl) (by kernel_rfl) (noLoops (by kernel_rfl)) (k1 (fun _ => by kernel_rfl))
theorem cVsat : Sound Tryz.prog 33 (c1 eV eV Fx.vsat) :=
  con (lps := noLps) mixed (.cons cSat .nil) Tryz.func33 (by kernel_rfl) (by kernel_rfl) (noLoops (by kernel_rfl)) (k1 (fun _ => by kernel_rfl))
theorem cVadd : Sound Tryz.prog 55 (c2 eV eV eV Fx.vadd) :=
  con (lps := noLps) mixed (.cons cAdd .nil) Tryz.func55 (by kernel_rfl) (by kernel_rfl) (noLoops (by kernel_rfl)) (k2 (fun _ _ => by kernel_rfl))
theorem cVsub : Sound Tryz.prog 35 (c2 eV eV eV Fx.vsub) :=
  con (lps := noLps) mixed (.cons cSub .nil) Tryz.func35 (by kernel_rfl) (by kernel_rfl) (noLoops (by kernel_rfl)) (k2 (fun _ _ => by kernel_rfl))
theorem cVlerp : Sound Tryz.prog 103 (c3 eV eV eI eV Fx.vlerp) :=
  con (lps := noLps) mixed (.cons cLerp .nil) Tryz.func103 (by kernel_rfl) (by kernel_rfl) (noLoops (by kernel_rfl)) (k3 (fun _ _ _ => by kernel_rfl))
theorem cVrot : Sound Tryz.prog 56 (c2 eV eV eV Fx.vrot) :=
  con (lps := noLps) mixed (.cons cSat (.cons cVsat (.cons cProd .nil))) Tryz.func56 (by kernel_rfl) (by kernel_rfl) (noLoops (by kernel_rfl)) (k2 (fun _ _ => by kernel_rfl))
theorem cVdot : Sound Tryz.prog 62 (c2 eV eV eI Fx.vdot) :=
  con (lps := noLps) mixed (.cons cVsat (.cons cProd .nil)) Tryz.func62 (by kernel_rfl) (by kernel_rfl) (noLoops (by kernel_rfl)) (k2 (fun _ _ => by kernel_rfl))
theorem cVcross : Sound Tryz.prog 34 (c2 eV eV eI Fx.vcross) :=
  con (lps := noLps) mixed (.cons cVsat (.cons cProd .nil)) Tryz.func34 (by kernel_rfl) (by kernel_rfl) (noLoops (by kernel_rfl)) (k2 (fun _ _ => by kernel_rfl))
theorem cVperp : Sound Tryz.prog 19 (c1 eV eV Fx.vperp) :=
  con (lps := noLps) mixed (.cons cVsat .nil) Tryz.func19 (by kernel_rfl) (by kernel_rfl) (noLoops (by kernel_rfl)) (k1 (fun _ => by kernel_rfl))
theorem cVdist : Sound Tryz.prog 116 (c2 eV eV eI Fx.vdist2) :=
  con (lps := noLps) mixed (.cons cVsat .nil) Tryz.func116 (by kernel_rfl) (by kernel_rfl) (noLoops (by kernel_rfl)) (k2 (fun _ _ => by kernel_rfl))
theorem cVlen : Sound Tryz.prog 99 (c1 eV eI Fx.vlen) :=
  con (lps := noLps) mixed (.cons cVdist (.cons cIsqrt .nil)) Tryz.func99 (by kernel_rfl) (by kernel_rfl) (noLoops (by kernel_rfl)) (k1 (fun _ => by kernel_rfl))

theorem rVsat : Sound Tryz.prog 50 (c1 eV eV Fx.vsat) :=
  con (lps := noLps) mixed (.cons rSat .nil) Tryz.func50 (by kernel_rfl) (by kernel_rfl) (noLoops (by kernel_rfl)) (k1 (fun _ => by kernel_rfl))
theorem rVadd : Sound Tryz.prog 79 (c2 eV eV eV Fx.vadd) :=
  con (lps := noLps) mixed (.cons rAdd .nil) Tryz.func79 (by kernel_rfl) (by kernel_rfl) (noLoops (by kernel_rfl)) (k2 (fun _ _ => by kernel_rfl))
theorem rVsub : Sound Tryz.prog 42 (c2 eV eV eV Fx.vsub) :=
  con (lps := noLps) mixed (.cons rSub .nil) Tryz.func42 (by kernel_rfl) (by kernel_rfl) (noLoops (by kernel_rfl)) (k2 (fun _ _ => by kernel_rfl))
theorem rVlerp : Sound Tryz.prog 111 (c3 eV eV eI eV Fx.vlerp) :=
  con (lps := noLps) mixed (.cons rLerp .nil) Tryz.func111 (by kernel_rfl) (by kernel_rfl) (noLoops (by kernel_rfl)) (k3 (fun _ _ _ => by kernel_rfl))
theorem rVrot : Sound Tryz.prog 80 (c2 eV eV eV Fx.vrot) :=
  con (lps := noLps) mixed (.cons rSat (.cons rVsat (.cons rRdiv .nil))) Tryz.func80 (by kernel_rfl) (by kernel_rfl) (noLoops (by kernel_rfl)) (k2 (fun _ _ => by kernel_rfl))
theorem rVdot : Sound Tryz.prog 71 (c2 eV eV eI Fx.vdot) :=
  con (lps := noLps) mixed (.cons rVsat (.cons rSat (.cons rRdiv .nil))) Tryz.func71 (by kernel_rfl) (by kernel_rfl) (noLoops (by kernel_rfl)) (k2 (fun _ _ => by kernel_rfl))
theorem rVcross : Sound Tryz.prog 41 (c2 eV eV eI Fx.vcross) :=
  con (lps := noLps) mixed (.cons rVsat (.cons rSat (.cons rRdiv .nil))) Tryz.func41 (by kernel_rfl) (by kernel_rfl) (noLoops (by kernel_rfl)) (k2 (fun _ _ => by kernel_rfl))
theorem rVperp : Sound Tryz.prog 26 (c1 eV eV Fx.vperp) :=
  con (lps := noLps) mixed (.cons rVsat .nil) Tryz.func26 (by kernel_rfl) (by kernel_rfl) (noLoops (by kernel_rfl)) (k1 (fun _ => by kernel_rfl))
theorem rVlen : Sound Tryz.prog 110 (c1 eV eI Fx.vlenR) :=
  con (lps := noLps) mixed (.cons rVsat (.cons rIsqrt .nil)) Tryz.func110 (by kernel_rfl) (by kernel_rfl) (noLoops (by kernel_rfl)) (k1 (fun _ => by kernel_rfl))

theorem cApply : Sound Tryz.prog 31 (c2 eT eV eV Fx.Tf.apply) :=
  con (lps := noLps) mixed (.cons cRot (.cons cVrot (.cons cVadd .nil))) Tryz.func31 (by kernel_rfl) (by kernel_rfl) (noLoops (by kernel_rfl)) (k2 (fun _ _ => by kernel_rfl))
theorem rApply : Sound Tryz.prog 68 (c2 eT eV eV Fx.Tf.apply) :=
  con (lps := noLps) mixed (.cons rRot (.cons rVrot (.cons rVadd .nil))) Tryz.func68 (by kernel_rfl) (by kernel_rfl) (noLoops (by kernel_rfl)) (k2 (fun _ _ => by kernel_rfl))

end Go.Proofs.YtfjognghjiifaaaGreat
