/- The contracts of the vectors and transforms, program and reference. -/
import Derived.Test.YtmlppmjmgfklnaaAng
import Derived.Test.YtmlppmjmgfklnaaEngEnc
open Go Go.Eng
namespace Go.Proofs.Ytmlppmjmgfklnaa

theorem cLerp : Sound Try.prog 77 (c3 eI eI eI eI Fx.lerp) :=
  con (lps := noLps) mixed (.cons cAdd (.cons cMul (.cons cSub .nil))) Try.func77 (by kernel_rfl) (by kernel_rfl) (noLoops (by kernel_rfl)) (k3 (fun _ _ _ => by kernel_rfl))
theorem cProd : Sound Try.prog 44 (c1 eI eI Fx.prod) :=
  con (lps := noLps) mixed (.cons cSat (.cons cRdiv .nil)) Try.func44 (by kernel_rfl) (by kernel_rfl) (noLoops (by kernel_rfl)) (k1 (fun _ => by kernel_rfl))
theorem cVsat : Sound Try.prog 38 (c1 eV eV Fx.vsat) :=
  con (lps := noLps) mixed (.cons cSat .nil) Try.func38 (by kernel_rfl) (by kernel_rfl) (noLoops (by kernel_rfl)) (k1 (fun _ => by kernel_rfl))
theorem cVadd : Sound Try.prog 35 (c2 eV eV eV Fx.vadd) :=
  con (lps := noLps) mixed (.cons cAdd .nil) Try.func35 (by kernel_rfl) (by kernel_rfl) (noLoops (by kernel_rfl)) (k2 (fun _ _ => by kernel_rfl))
theorem cVsub : Sound Try.prog 26 (c2 eV eV eV Fx.vsub) :=
  con (lps := noLps) mixed (.cons cSub .nil) Try.func26 (by kernel_rfl) (by kernel_rfl) (noLoops (by kernel_rfl)) (k2 (fun _ _ => by kernel_rfl))
theorem cVlerp : Sound Try.prog 69 (c3 eV eV eI eV Fx.vlerp) :=
  con (lps := noLps) mixed (.cons cLerp .nil) Try.func69 (by kernel_rfl) (by kernel_rfl) (noLoops (by kernel_rfl)) (k3 (fun _ _ _ => by kernel_rfl))
theorem cVrot : Sound Try.prog 27 (c2 eV eV eV Fx.vrot) :=
  con (lps := noLps) mixed (.cons cSat (.cons cVsat (.cons cProd .nil))) Try.func27 (by kernel_rfl) (by kernel_rfl) (noLoops (by kernel_rfl)) (k2 (fun _ _ => by kernel_rfl))
theorem cVdot : Sound Try.prog 25 (c2 eV eV eI Fx.vdot) :=
  con (lps := noLps) mixed (.cons cVsat (.cons cProd .nil)) Try.func25 (by kernel_rfl) (by kernel_rfl) (noLoops (by kernel_rfl)) (k2 (fun _ _ => by kernel_rfl))
theorem cVcross : Sound Try.prog 37 (c2 eV eV eI Fx.vcross) :=
  con (lps := noLps) mixed (.cons cVsat (.cons cProd .nil)) Try.func37 (by kernel_rfl) (by kernel_rfl) (noLoops (by kernel_rfl)) (k2 (fun _ _ => by kernel_rfl))
theorem cVperp : Sound Try.prog 21 (c1 eV eV Fx.vperp) :=
  con (lps := noLps) mixed (.cons cVsat .nil) Try.func21 (by kernel_rfl) (by kernel_rfl) (noLoops (by kernel_rfl)) (k1 (fun _ => by kernel_rfl))
theorem cVdist : Sound Try.prog 73 (c2 eV eV eI Fx.vdist2) :=
  con (lps := noLps) mixed (.cons cVsat .nil) Try.func73 (by kernel_rfl) (by kernel_rfl) (noLoops (by kernel_rfl)) (k2 (fun _ _ => by kernel_rfl))
theorem cVlen : Sound Try.prog 65 (c1 eV eI Fx.vlen) :=
  con (lps := noLps) mixed (.cons cVdist (.cons cIsqrt .nil)) Try.func65 (by kernel_rfl) (by kernel_rfl) (noLoops (by kernel_rfl)) (k1 (fun _ => by kernel_rfl))

theorem rVsat : Sound Try.prog 23 (c1 eV eV Fx.vsat) :=
  con (lps := noLps) mixed (.cons rSat .nil) Try.func23 (by kernel_rfl) (by kernel_rfl) (noLoops (by kernel_rfl)) (k1 (fun _ => by kernel_rfl))
theorem rVperp : Sound Try.prog 9 (c1 eV eV Fx.vperp) :=
  con (lps := noLps) mixed (.cons rVsat .nil) Try.func9 (by kernel_rfl) (by kernel_rfl) (noLoops (by kernel_rfl)) (k1 (fun _ => by kernel_rfl))

theorem cApply : Sound Try.prog 43 (c2 eT eV eV Fx.Tf.apply) :=
  con (lps := noLps) mixed (.cons cRot (.cons cVrot (.cons cVadd .nil))) Try.func43 (by kernel_rfl) (by kernel_rfl) (noLoops (by kernel_rfl)) (k2 (fun _ _ => by kernel_rfl))

end Go.Proofs.Ytmlppmjmgfklnaa
