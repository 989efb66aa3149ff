/- The contracts of the vectors and transforms, program and reference. -/
import Derived.Test.YthaoinkbblbijaaGreatAng
import Derived.Test.YthaoinkbblbijaaGreatEngEnc
open Go Go.Eng
namespace Go.Proofs.YthaoinkbblbijaaGreat

theorem cLerp : Sound Tryz.prog 121 (c3 eI eI eI eI Fx.lerp) :=
  con (lps := noLps) mixed (.cons cAdd (.cons cMul (.cons cSub .nil))) Tryz.func121 (by kernel_rfl) (by kernel_rfl) (noLoops (by kernel_rfl)) (k3 (fun _ _ _ => by kernel_rfl))
theorem rLerp : Sound Tryz.prog 114 (c3 eI eI eI eI Fx.lerp) :=
  con (lps := noLps) mixed (.cons rAdd (.cons rMul (.cons rSub .nil))) Tryz.func114 (by kernel_rfl) (by kernel_rfl) (noLoops (by kernel_rfl)) (k3 (fun _ _ _ => by kernel_rfl))
theorem cProd : Sound Tryz.prog 64 (c1 eI eI Fx.prod) :=
  con (lps := noLps) mixed (.cons cSat (.cons cRdiv .nil)) Tryz.func64 (by kernel_rfl) (by kernel_rfl) (noLoops (by kernel_rfl)) (k1 (fun _ => by kernel_rfl))
theorem cVsat : Sound Tryz.prog 63 (c1 eV eV Fx.vsat) :=
  con (lps := noLps) mixed (.cons cSat .nil) Tryz.func63 (by kernel_rfl) (by kernel_rfl) (noLoops (by kernel_rfl)) (k1 (fun _ => by kernel_rfl))
theorem cVadd : Sound Tryz.prog 60 (c2 eV eV eV Fx.vadd) :=
  con (lps := noLps) mixed (.cons cAdd .nil) Tryz.func60 (by kernel_rfl) (by kernel_rfl) (noLoops (by kernel_rfl)) (k2 (fun _ _ => by kernel_rfl))
theorem cVsub : Sound Tryz.prog 40 (c2 eV eV eV Fx.vsub) :=
  con (lps := noLps) mixed (.cons cSub .nil) Tryz.func40 (by kernel_rfl) (by kernel_rfl) (noLoops (by kernel_rfl)) (k2 (fun _ _ => by kernel_rfl))
theorem cVlerp : Sound Tryz.prog 107 (c3 eV eV eI eV Fx.vlerp) :=
  con (lps := noLps) mixed (.cons cLerp .nil) Tryz.func107 (by kernel_rfl) (by kernel_rfl) (noLoops (by kernel_rfl)) (k3 (fun _ _ _ => by kernel_rfl))
theorem cVrot : Sound Tryz.prog 61 (c2 eV eV eV Fx.vrot) :=
  con (lps := noLps) mixed (.cons cSat (.cons cVsat (.cons cProd .nil))) Tryz.func61 (by kernel_rfl) (by kernel_rfl) (noLoops (by kernel_rfl)) (k2 (fun _ _ => by kernel_rfl))
theorem cVdot : Sound Tryz.prog 52 (c2 eV eV eI Fx.vdot) :=
  con (lps := noLps) mixed (.cons cVsat (.cons cProd .nil)) Tryz.func52 (by kernel_rfl) (by kernel_rfl) (noLoops (by kernel_rfl)) (k2 (fun _ _ => by kernel_rfl))
theorem cVcross : Sound Tryz.prog 39 (c2 eV eV eI Fx.vcross) :=
  con (lps := noLps) mixed (.cons cVsat (.cons cProd .nil)) Tryz.func39 (by kernel_rfl) (by kernel_rfl) (noLoops (by kernel_rfl)) (k2 (fun _ _ => by kernel_rfl))
theorem cVdist : Sound Tryz.prog 117 (c2 eV eV eI Fx.vdist2) :=
  con (lps := noLps) mixed (.cons cVsat .nil) Tryz.func117 (by kernel_rfl) (by kernel_rfl) (noLoops (by kernel_rfl)) (k2 (fun _ _ => by kernel_rfl))
theorem cVlen : Sound Tryz.prog 103 (c1 eV eI Fx.vlen) :=
  con (lps := noLps) mixed (.cons cVdist (.cons cIsqrt .nil)) Tryz.func103 (by kernel_rfl) (by kernel_rfl) (noLoops (by kernel_rfl)) (k1 (fun _ => by kernel_rfl))

theorem rVsat : Sound Tryz.prog 69 (c1 eV eV Fx.vsat) :=
  con (lps := noLps) mixed (.cons rSat .nil) Tryz.func69 (by kernel_rfl) (by kernel_rfl) (noLoops (by kernel_rfl)) (k1 (fun _ => by kernel_rfl))
theorem rVadd : Sound Tryz.prog 66 (c2 eV eV eV Fx.vadd) :=
  con (lps := noLps) mixed (.cons rAdd .nil) Tryz.func66 (by kernel_rfl) (by kernel_rfl) (noLoops (by kernel_rfl)) (k2 (fun _ _ => by kernel_rfl))
theorem rVsub : Sound Tryz.prog 26 (c2 eV eV eV Fx.vsub) :=
  con (lps := noLps) mixed (.cons rSub .nil) Tryz.func26 (by kernel_rfl) (by kernel_rfl) (noLoops (by kernel_rfl)) (k2 (fun _ _ => by kernel_rfl))
theorem rVlerp : Sound Tryz.prog 95 (c3 eV eV eI eV Fx.vlerp) :=
  con (lps := noLps) mixed (.cons rLerp .nil) Tryz.func95 (by kernel_rfl) (by kernel_rfl) (noLoops (by kernel_rfl)) (k3 (fun _ _ _ => by kernel_rfl))
theorem rVrot : Sound Tryz.prog 67 (c2 eV eV eV Fx.vrot) :=
  con (lps := noLps) mixed (.cons rSat (.cons rVsat (.cons rRdiv .nil))) Tryz.func67 (by kernel_rfl) (by kernel_rfl) (noLoops (by kernel_rfl)) (k2 (fun _ _ => by kernel_rfl))
theorem rVdot : Sound Tryz.prog 57 (c2 eV eV eI Fx.vdot) :=
  con (lps := noLps) mixed (.cons rVsat (.cons rSat (.cons rRdiv .nil))) Tryz.func57 (by kernel_rfl) (by kernel_rfl) (noLoops (by kernel_rfl)) (k2 (fun _ _ => by kernel_rfl))
theorem rVcross : Sound Tryz.prog 46 (c2 eV eV eI Fx.vcross) :=
  con (lps := noLps) mixed (.cons rVsat (.cons rSat (.cons rRdiv .nil))) Tryz.func46 (by kernel_rfl) (by kernel_rfl) (noLoops (by kernel_rfl)) (k2 (fun _ _ => by kernel_rfl))
theorem rVlen : Sound Tryz.prog 94 (c1 eV eI Fx.vlenR) :=
  con (lps := noLps) mixed (.cons rVsat (.cons rIsqrt .nil)) Tryz.func94 (by kernel_rfl) (by kernel_rfl) (noLoops (by kernel_rfl)) (k1 (fun _ => by kernel_rfl))

theorem cApply : Sound Tryz.prog 38 (c2 eT eV eV Fx.Tf.apply) :=
  con (lps := noLps) mixed (.cons cRot (.cons cVrot (.cons cVadd .nil))) Tryz.func38 (by kernel_rfl) (by kernel_rfl) (noLoops (by kernel_rfl)) (k2 (fun _ _ => by kernel_rfl))
theorem rApply : Sound Tryz.prog 45 (c2 eT eV eV Fx.Tf.apply) :=
  con (lps := noLps) mixed (.cons rRot (.cons rVrot (.cons rVadd .nil))) Tryz.func45 (by kernel_rfl) (by kernel_rfl) (noLoops (by kernel_rfl)) (k2 (fun _ _ => by kernel_rfl))

end Go.Proofs.YthaoinkbblbijaaGreat
