/- The contracts of the vectors and transforms, program and reference. -/
import Derived.Test.YtpolkkblmcmlnaaGreatAng
import Derived.Test.YtpolkkblmcmlnaaGreatEngEnc
open Go Go.Eng
namespace Go.Proofs.YtpolkkblmcmlnaaGreat

theorem cLerp : Sound Tryz.prog 117 (c3 eI eI eI eI Fx.lerp) :=
  con (lps := noLps) mixed (.cons cAdd (.cons cMul (.cons cSub .nil))) Tryz.func117 (by kernel_rfl) (by kernel_rfl) (noLoops (by kernel_rfl)) (k3 (fun _ _ _ => by kernel_rfl))
theorem rLerp : Sound Tryz.prog 111 (c3 eI eI eI eI Fx.lerp) :=
  con (lps := noLps) mixed (.cons rAdd (.cons rMul (.cons rSub .nil))) Tryz.func111 (by kernel_rfl) (by kernel_rfl) (noLoops (by kernel_rfl)) (k3 (fun _ _ _ => by kernel_rfl))
theorem cProd : Sound Tryz.prog 46 (c1 eI eI Fx.prod) :=
  con (lps := noLps) mixed (.cons cSat (.cons cRdiv .nil)) Tryz.func46 (by kernel_rfl) (by kernel_rfl) (noLoops (by kernel_rfl)) (k1 (fun _ => by kernel_rfl))
theorem cVsat : Sound Tryz.prog 45 (c1 eV eV Fx.vsat) :=
  con (lps := noLps) mixed (.cons cSat .nil) Tryz.func45 (by kernel_rfl) (by kernel_rfl) (noLoops (by kernel_rfl)) (k1 (fun _ => by kernel_rfl))
theorem cVadd : Sound Tryz.prog 67 (c2 eV eV eV Fx.vadd) :=
  con (lps := noLps) mixed (.cons cAdd .nil) Tryz.func67 (by kernel_rfl) (by kernel_rfl) (noLoops (by kernel_rfl)) (k2 (fun _ _ => by kernel_rfl))
theorem cVsub : Sound Tryz.prog 26 (c2 eV eV eV Fx.vsub) :=
  con (lps := noLps) mixed (.cons cSub .nil) Tryz.func26 (by kernel_rfl) (by kernel_rfl) (noLoops (by kernel_rfl)) (k2 (fun _ _ => by kernel_rfl))
theorem cVlerp : Sound Tryz.prog 104 (c3 eV eV eI eV Fx.vlerp) :=
  con (lps := noLps) mixed (.cons cLerp .nil) Tryz.func104 (by kernel_rfl) (by kernel_rfl) (noLoops (by kernel_rfl)) (k3 (fun _ _ _ => by kernel_rfl))
theorem cVrot : Sound Tryz.prog 68 (c2 eV eV eV Fx.vrot) :=
  con (lps := noLps) mixed (.cons cSat (.cons cVsat (.cons cProd .nil))) Tryz.func68 (by kernel_rfl) (by kernel_rfl) (noLoops (by kernel_rfl)) (k2 (fun _ _ => by kernel_rfl))
theorem cVdot : Sound Tryz.prog 50 (c2 eV eV eI Fx.vdot) :=
  con (lps := noLps) mixed (.cons cVsat (.cons cProd .nil)) Tryz.func50 (by kernel_rfl) (by kernel_rfl) (noLoops (by kernel_rfl)) (k2 (fun _ _ => by kernel_rfl))
theorem cVcross : Sound Tryz.prog 25 (c2 eV eV eI Fx.vcross) :=
  con (lps := noLps) mixed (.cons cVsat (.cons cProd .nil)) Tryz.func25 (by kernel_rfl) (by kernel_rfl) (noLoops (by kernel_rfl)) (k2 (fun _ _ => by kernel_rfl))
theorem cVdist : Sound Tryz.prog 60 (c2 eV eV eI Fx.vdist2) :=
  con (lps := noLps) mixed (.cons cVsat .nil) Tryz.func60 (by kernel_rfl) (by kernel_rfl) (noLoops (by kernel_rfl)) (k2 (fun _ _ => by kernel_rfl))
theorem cVlen : Sound Tryz.prog 33 (c1 eV eI Fx.vlen) :=
  con (lps := noLps) mixed (.cons cVdist (.cons cIsqrt .nil)) Tryz.func33 (by kernel_rfl) (by kernel_rfl) (noLoops (by kernel_rfl)) (k1 (fun _ => by kernel_rfl))
theorem cVnorm : Sound Tryz.prog 16 (c1 eV eV Fx.vnorm) :=
  con (lps := noLps) mixed (.cons cVlen (.cons cDiv .nil)) Tryz.func16 (by kernel_rfl) (by kernel_rfl) (noLoops (by kernel_rfl)) (k1 (fun _ => by kernel_rfl))

theorem rVsat : Sound Tryz.prog 52 (c1 eV eV Fx.vsat) :=
  con (lps := noLps) mixed (.cons rSat .nil) Tryz.func52 (by kernel_rfl) (by kernel_rfl) (noLoops (by kernel_rfl)) (k1 (fun _ => by kernel_rfl))
theorem rVadd : Sound Tryz.prog 64 (c2 eV eV eV Fx.vadd) :=
  con (lps := noLps) mixed (.cons rAdd .nil) Tryz.func64 (by kernel_rfl) (by kernel_rfl) (noLoops (by kernel_rfl)) (k2 (fun _ _ => by kernel_rfl))
theorem rVsub : Sound Tryz.prog 21 (c2 eV eV eV Fx.vsub) :=
  con (lps := noLps) mixed (.cons rSub .nil) Tryz.func21 (by kernel_rfl) (by kernel_rfl) (noLoops (by kernel_rfl)) (k2 (fun _ _ => by kernel_rfl))
theorem rVlerp : Sound Tryz.prog 93 (c3 eV eV eI eV Fx.vlerp) :=
  con (lps := noLps) mixed (.cons rLerp .nil) Tryz.func93 (by kernel_rfl) (by kernel_rfl) (noLoops (by kernel_rfl)) (k3 (fun _ _ _ => by kernel_rfl))
theorem rVrot : Sound Tryz.prog 65 (c2 eV eV eV Fx.vrot) :=
  con (lps := noLps) mixed (.cons rSat (.cons rVsat (.cons rRdiv .nil))) Tryz.func65 (by kernel_rfl) (by kernel_rfl) (noLoops (by kernel_rfl)) (k2 (fun _ _ => by kernel_rfl))
theorem rVdot : Sound Tryz.prog 58 (c2 eV eV eI Fx.vdot) :=
  con (lps := noLps) mixed (.cons rVsat (.cons rSat (.cons rRdiv .nil))) Tryz.func58 (by kernel_rfl) (by kernel_rfl) (noLoops (by kernel_rfl)) (k2 (fun _ _ => by kernel_rfl))
theorem rVcross : Sound Tryz.prog 29 (c2 eV eV eI Fx.vcross) :=
  con (lps := noLps) mixed (.cons rVsat (.cons rSat (.cons rRdiv .nil))) Tryz.func29 (by kernel_rfl) (by kernel_rfl) (noLoops (by kernel_rfl)) (k2 (fun _ _ => by kernel_rfl))
theorem rVlen : Sound Tryz.prog 38 (c1 eV eI Fx.vlenR) :=
  con (lps := noLps) mixed (.cons rVsat (.cons rIsqrt .nil)) Tryz.func38 (by kernel_rfl) (by kernel_rfl) (noLoops (by kernel_rfl)) (k1 (fun _ => by kernel_rfl))

theorem cApply : Sound Tryz.prog 44 (c2 eT eV eV Fx.Tf.apply) :=
  con (lps := noLps) mixed (.cons cRot (.cons cVrot (.cons cVadd .nil))) Tryz.func44 (by kernel_rfl) (by kernel_rfl) (noLoops (by kernel_rfl)) (k2 (fun _ _ => by kernel_rfl))
theorem rApply : Sound Tryz.prog 39 (c2 eT eV eV Fx.Tf.apply) :=
  con (lps := noLps) mixed (.cons rRot (.cons rVrot (.cons rVadd .nil))) Tryz.func39 (by kernel_rfl) (by kernel_rfl) (noLoops (by kernel_rfl)) (k2 (fun _ _ => by kernel_rfl))

end Go.Proofs.YtpolkkblmcmlnaaGreat
