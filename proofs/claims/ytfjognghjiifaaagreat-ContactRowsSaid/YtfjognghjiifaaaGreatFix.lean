/- The contracts of the fixed-point numbers, program and reference. -/
import Derived.Test.YtfjognghjiifaaaGreatEngCon
import Derived.Test.YtfjognghjiifaaaGreatRows
open Go Go.Eng
namespace Go.Proofs.YtfjognghjiifaaaGreat

theorem mixed : Tryz.prog.follows .mixedOrders = true := by kernel_rfl
noncomputable def lb (fn : Func) : Code := (loopsOf (fn.body.getD .skip)).getD 0 .skip
noncomputable def lbN (n : Nat) (fn : Func) : Code := (loopsOf (fn.body.getD .skip)).getD n .skip
def noLps : Nat → St → Tree := fun _ _ => .fail

theorem cSat : Sound Tryz.prog 53 (f1 Fx.sat) :=
  con (lps := noLps) mixed .nil Tryz.func53 (by kernel_rfl) (by kernel_rfl) (noLoops (by kernel_rfl)) (con1 (fun _ => []) Fx.satP sure1 Fx.satP_eq (fun x => by kernel_rfl))
theorem cAdd : Sound Tryz.prog 39 (f2 Fx.add) :=
  con (lps := noLps) mixed (.cons cSat .nil) Tryz.func39 (by kernel_rfl) (by kernel_rfl) (noLoops (by kernel_rfl)) (con2 (fun _ _ => []) Fx.addP sure2 Fx.addP_eq (fun x y => by kernel_rfl))
theorem cSub : Sound Tryz.prog 60 (f2 Fx.sub) :=
  con (lps := noLps) mixed (.cons cSat .nil) Tryz.func60 (by kernel_rfl) (by kernel_rfl) (noLoops (by kernel_rfl)) (con2 (fun _ _ => []) Fx.subP sure2 Fx.subP_eq (fun x y => by kernel_rfl))
theorem cRdiv : Sound Tryz.prog 54 (f2 Fx.rdiv) :=
  con (lps := noLps) mixed .nil Tryz.func54 (by kernel_rfl) (by kernel_rfl) (noLoops (by kernel_rfl)) (con2 Fx.rdivQ Fx.rdivP Fx.rdivQ_ok Fx.rdivP_eq (fun x y => by kernel_rfl))
theorem cMul : Sound Tryz.prog 30 (f2 Fx.mul) :=
  con (lps := noLps) mixed (.cons cSat (.cons cRdiv .nil)) Tryz.func30 (by kernel_rfl) (by kernel_rfl) (noLoops (by kernel_rfl)) (con2 (fun _ _ => []) Fx.mulP sure2 Fx.mulP_eq (fun x y => by kernel_rfl))
theorem cClamp : Sound Tryz.prog 64 (f3 Fx.clamp) :=
  con (lps := noLps) mixed .nil Tryz.func64 (by kernel_rfl) (by kernel_rfl) (noLoops (by kernel_rfl)) (con3 (fun _ _ _ => []) Fx.clampP sure3 Fx.clampP_eq (fun x y z => by kernel_rfl))
theorem cDiv : Sound Tryz.prog 37 (f2 Fx.div) :=
  con (lps := noLps) mixed (.cons cSat (.cons cRdiv (.cons cClamp .nil))) Tryz.func37 (by kernel_rfl) (by kernel_rfl) (noLoops (by kernel_rfl)) (con2 (fun _ _ => []) Fx.divP sure2 Fx.divP_eq (fun x y => by kernel_rfl))
theorem isqLoop : LoopOk Tryz.prog (isqTree 29) (lb Tryz.f52) :=
  isq_loop mixed (AllSound.nil (P := Tryz.prog)).tbl (by kernel_rfl) (V := isqVT) (fun n r k => by kernel_rfl) isqVT_sat
theorem cIsqrt : Sound Tryz.prog 52 (f1 Fx.isqrt) :=
  con (lps := fun _ => isqTree 29) mixed .nil Tryz.func52 (by kernel_rfl) (by kernel_rfl) (oneLoop (lps := fun _ => isqTree 29) (b := lb Tryz.f52) (by kernel_rfl) isqLoop) (con1 isqQ isqU isqQ_ok isqU_eq (fun x => by kernel_rfl))

theorem rSat : Sound Tryz.prog 65 (f1 Fx.sat) :=
  con (lps := noLps) mixed .nil Tryz.func65 (by kernel_rfl) (by kernel_rfl) (noLoops (by kernel_rfl)) (con1 (fun _ => []) Fx.satR sure1 Fx.satR_eq (fun x => by kernel_rfl))
theorem rAdd : Sound Tryz.prog 47 (f2 Fx.add) :=
  con (lps := noLps) mixed (.cons rSat .nil) Tryz.func47 (by kernel_rfl) (by kernel_rfl) (noLoops (by kernel_rfl)) (con2 (fun _ _ => []) Fx.addP sure2 Fx.addP_eq (fun x y => by kernel_rfl))
theorem rSub : Sound Tryz.prog 67 (f2 Fx.sub) :=
  con (lps := noLps) mixed (.cons rSat .nil) Tryz.func67 (by kernel_rfl) (by kernel_rfl) (noLoops (by kernel_rfl)) (con2 (fun _ _ => []) Fx.subP sure2 Fx.subP_eq (fun x y => by kernel_rfl))
theorem rOut : Sound Tryz.prog 78 (b1 Fx.outR) :=
  con (lps := noLps) mixed .nil Tryz.func78 (by kernel_rfl) (by kernel_rfl) (noLoops (by kernel_rfl)) (conB (fun _ => []) Fx.outR sure1 (fun _ => rfl) (fun x => by kernel_rfl))
theorem rRdiv : Sound Tryz.prog 66 (f2 Fx.rdiv) :=
  con (lps := noLps) mixed (.cons rOut .nil) Tryz.func66 (by kernel_rfl) (by kernel_rfl) (noLoops (by kernel_rfl)) (con2 Fx.rdivRQ Fx.rdivR Fx.rdivRQ_ok Fx.rdivR_eq (fun x y => by kernel_rfl))
theorem rMul : Sound Tryz.prog 49 (f2 Fx.mul) :=
  con (lps := noLps) mixed (.cons rSat (.cons rRdiv .nil)) Tryz.func49 (by kernel_rfl) (by kernel_rfl) (noLoops (by kernel_rfl)) (con2 (fun _ _ => []) Fx.mulP sure2 Fx.mulP_eq (fun x y => by kernel_rfl))
theorem rClamp : Sound Tryz.prog 72 (f3 Fx.clamp) :=
  con (lps := noLps) mixed .nil Tryz.func72 (by kernel_rfl) (by kernel_rfl) (noLoops (by kernel_rfl)) (con3 (fun _ _ _ => []) Fx.clampP sure3 Fx.clampP_eq (fun x y z => by kernel_rfl))
theorem rDiv : Sound Tryz.prog 45 (f2 Fx.div) :=
  con (lps := noLps) mixed (.cons rSat (.cons rRdiv .nil)) Tryz.func45 (by kernel_rfl) (by kernel_rfl) (noLoops (by kernel_rfl)) (con2 (fun _ _ => []) Fx.divR sure2 Fx.divR_eq (fun x y => by kernel_rfl))
theorem isqLoopR : LoopOk Tryz.prog (isqTree 28) (lb Tryz.f73) :=
  isq_loop mixed (AllSound.nil (P := Tryz.prog)).tbl (by kernel_rfl) (V := isqVR) (fun n r k => by kernel_rfl) isqVR_sat
theorem rIsqrt : Sound Tryz.prog 73 (f1 Fx.isqrt) :=
  con (lps := fun _ => isqTree 28) mixed (.cons rOut .nil) Tryz.func73 (by kernel_rfl) (by kernel_rfl) (oneLoop (lps := fun _ => isqTree 28) (b := lb Tryz.f73) (by kernel_rfl) isqLoopR) (con1 isqRQ isqRU isqRQ_ok isqRU_eq (fun x => by kernel_rfl))
end Go.Proofs.YtfjognghjiifaaaGreat
