/- The contracts of the vectors and transforms, program and reference. -/
import Derived.Test.YtbjpfekcghnppaaGreatAng
import Derived.Test.YtbjpfekcghnppaaGreatEngEnc
open Go Go.Eng
namespace Go.Proofs.YtbjpfekcghnppaaGreat

theorem cLerp : Sound Tryz.prog 153 (c3 eI eI eI eI Fx.lerp) :=
  con (lps := noLps) mixed (.cons cAdd (.cons cMul (.cons cSub .nil))) Tryz.func153 (by kernel_rfl) (by kernel_rfl) (noLoops (by kernel_rfl)) (k3 (fun _ _ _ => by kernel_rfl))
theorem rLerp : Sound Tryz.prog 158 (c3 eI eI eI eI Fx.lerp) :=
  con (lps := noLps) mixed (.cons rAdd (.cons rMul (.cons rSub .nil))) Tryz.func158 (by kernel_rfl) (by kernel_rfl) (noLoops (by kernel_rfl)) (k3 (fun _ _ _ => by kernel_rfl))
theorem cProd : Sound Tryz.prog 92 (c1 eI eI Fx.prod) :=
  con (lps := noLps) mixed (.cons cSat (.cons cRdiv .nil)) Tryz.func92 (by kernel_rfl) (by kernel_rfl) (noLoops (by kernel_rfl)) (k1 (fun _ => by kernel_rfl))
theorem cVsat : Sound Tryz.prog 90 (c1 eV eV Fx.vsat) :=
  con (lps := noLps) mixed (.cons cSat .nil) Tryz.func90 (by kernel_rfl) (by kernel_rfl) (noLoops (by kernel_rfl)) (k1 (fun _ => by kernel_rfl))
theorem cVadd : Sound Tryz.prog 89 (c2 eV eV eV Fx.vadd) :=
  con (lps := noLps) mixed (.cons cAdd .nil) Tryz.func89 (by kernel_rfl) (by kernel_rfl) (noLoops (by kernel_rfl)) (k2 (fun _ _ => by kernel_rfl))
theorem cVsub : Sound Tryz.prog 53 (c2 eV eV eV Fx.vsub) :=
  con (lps := noLps) mixed (.cons cSub .nil) Tryz.func53 (by kernel_rfl) (by kernel_rfl) (noLoops (by kernel_rfl)) (k2 (fun _ _ => by kernel_rfl))
theorem cVlerp : Sound Tryz.prog 141 (c3 eV eV eI eV Fx.vlerp) :=
  con (lps := noLps) mixed (.cons cLerp .nil) Tryz.func141 (by kernel_rfl) (by kernel_rfl) (noLoops (by kernel_rfl)) (k3 (fun _ _ _ => by kernel_rfl))
theorem cVrot : Sound Tryz.prog 86 (c2 eV eV eV Fx.vrot) :=
  con (lps := noLps) mixed (.cons cSat (.cons cVsat (.cons cProd .nil))) Tryz.func86 (by kernel_rfl) (by kernel_rfl) (noLoops (by kernel_rfl)) (k2 (fun _ _ => by kernel_rfl))
theorem cVdot : Sound Tryz.prog 88 (c2 eV eV eI Fx.vdot) :=
  con (lps := noLps) mixed (.cons cVsat (.cons cProd .nil)) Tryz.func88 (by kernel_rfl) (by kernel_rfl) (noLoops (by kernel_rfl)) (k2 (fun _ _ => by kernel_rfl))
theorem cVcross : Sound Tryz.prog 55 (c2 eV eV eI Fx.vcross) :=
  con (lps := noLps) mixed (.cons cVsat (.cons cProd .nil)) Tryz.func55 (by kernel_rfl) (by kernel_rfl) (noLoops (by kernel_rfl)) (k2 (fun _ _ => by kernel_rfl))
theorem cVperp : Sound Tryz.prog 50 (c1 eV eV Fx.vperp) :=
  con (lps := noLps) mixed (.cons cVsat .nil) Tryz.func50 (by kernel_rfl) (by kernel_rfl) (noLoops (by kernel_rfl)) (k1 (fun _ => by kernel_rfl))
theorem cVdist : Sound Tryz.prog 79 (c2 eV eV eI Fx.vdist2) :=
  con (lps := noLps) mixed (.cons cVsat .nil) Tryz.func79 (by kernel_rfl) (by kernel_rfl) (noLoops (by kernel_rfl)) (k2 (fun _ _ => by kernel_rfl))
theorem cVlen : Sound Tryz.prog 33 (c1 eV eI Fx.vlen) :=
  con (lps := noLps) mixed (.cons cVdist (.cons cIsqrt .nil)) Tryz.func33 (by kernel_rfl) (by kernel_rfl) (noLoops (by kernel_rfl)) (k1 (fun _ => by kernel_rfl))
theorem cVnorm : Sound Tryz.prog 37 (c1 eV eV Fx.vnorm) :=
  con (lps := noLps) mixed (.cons cVlen (.cons cDiv .nil)) Tryz.func37 (by kernel_rfl) (by kernel_rfl) (noLoops (by kernel_rfl)) (k1 (fun _ => by kernel_rfl))

theorem rVsat : Sound Tryz.prog 107 (c1 eV eV Fx.vsat) :=
  con (lps := noLps) mixed (.cons rSat .nil) Tryz.func107 (by kernel_rfl) (by kernel_rfl) (noLoops (by kernel_rfl)) (k1 (fun _ => by kernel_rfl))
theorem rVadd : Sound Tryz.prog 106 (c2 eV eV eV Fx.vadd) :=
  con (lps := noLps) mixed (.cons rAdd .nil) Tryz.func106 (by kernel_rfl) (by kernel_rfl) (noLoops (by kernel_rfl)) (k2 (fun _ _ => by kernel_rfl))
theorem rVsub : Sound Tryz.prog 60 (c2 eV eV eV Fx.vsub) :=
  con (lps := noLps) mixed (.cons rSub .nil) Tryz.func60 (by kernel_rfl) (by kernel_rfl) (noLoops (by kernel_rfl)) (k2 (fun _ _ => by kernel_rfl))
theorem rVlerp : Sound Tryz.prog 145 (c3 eV eV eI eV Fx.vlerp) :=
  con (lps := noLps) mixed (.cons rLerp .nil) Tryz.func145 (by kernel_rfl) (by kernel_rfl) (noLoops (by kernel_rfl)) (k3 (fun _ _ _ => by kernel_rfl))
theorem rVrot : Sound Tryz.prog 104 (c2 eV eV eV Fx.vrot) :=
  con (lps := noLps) mixed (.cons rSat (.cons rVsat (.cons rRdiv .nil))) Tryz.func104 (by kernel_rfl) (by kernel_rfl) (noLoops (by kernel_rfl)) (k2 (fun _ _ => by kernel_rfl))
theorem rVdot : Sound Tryz.prog 77 (c2 eV eV eI Fx.vdot) :=
  con (lps := noLps) mixed (.cons rVsat (.cons rSat (.cons rRdiv .nil))) Tryz.func77 (by kernel_rfl) (by kernel_rfl) (noLoops (by kernel_rfl)) (k2 (fun _ _ => by kernel_rfl))
theorem rVcross : Sound Tryz.prog 100 (c2 eV eV eI Fx.vcross) :=
  con (lps := noLps) mixed (.cons rVsat (.cons rSat (.cons rRdiv .nil))) Tryz.func100 (by kernel_rfl) (by kernel_rfl) (noLoops (by kernel_rfl)) (k2 (fun _ _ => by kernel_rfl))
theorem rVperp : Sound Tryz.prog 70 (c1 eV eV Fx.vperp) :=
  con (lps := noLps) mixed (.cons rVsat .nil) Tryz.func70 (by kernel_rfl) (by kernel_rfl) (noLoops (by kernel_rfl)) (k1 (fun _ => by kernel_rfl))
theorem rVlen : Sound Tryz.prog 74 (c1 eV eI Fx.vlenR) :=
  con (lps := noLps) mixed (.cons rVsat (.cons rIsqrt .nil)) Tryz.func74 (by kernel_rfl) (by kernel_rfl) (noLoops (by kernel_rfl)) (k1 (fun _ => by kernel_rfl))

theorem cApply : Sound Tryz.prog 91 (c2 eT eV eV Fx.Tf.apply) :=
  con (lps := noLps) mixed (.cons cRot (.cons cVrot (.cons cVadd .nil))) Tryz.func91 (by kernel_rfl) (by kernel_rfl) (noLoops (by kernel_rfl)) (k2 (fun _ _ => by kernel_rfl))
theorem rApply : Sound Tryz.prog 97 (c2 eT eV eV Fx.Tf.apply) :=
  con (lps := noLps) mixed (.cons rRot (.cons rVrot (.cons rVadd .nil))) Tryz.func97 (by kernel_rfl) (by kernel_rfl) (noLoops (by kernel_rfl)) (k2 (fun _ _ => by kernel_rfl))

end Go.Proofs.YtbjpfekcghnppaaGreat
