/- The contracts of the fixed-point numbers, program and reference. -/
import Derived.Test.YtbjpfekcghnppaaEngCon
import Derived.Test.YtbjpfekcghnppaaRows
open Go Go.Eng
namespace Go.Proofs.Ytbjpfekcghnppaa

theorem mixed : Try.prog.follows .mixedOrders = true := by kernel_rfl
noncomputable def lb (fn : Func) : Code := (loopsOf (fn.body.getD .skip)).getD 0 .skip
noncomputable def lbN (n : Nat) (fn : Func) : Code := (loopsOf (fn.body.getD .skip)).getD n .skip
def noLps : Nat → St → Tree := fun _ _ => .fail

theorem cSat : Sound Try.prog 24 (f1 Fx.sat) :=
  con (lps := noLps) mixed .nil Try.func24 (by kernel_rfl) (by kernel_rfl) (noLoops (by kernel_rfl)) (con1 (fun _ => []) Fx.satP sure1 Fx.satP_eq (fun x => by kernel_rfl))
theorem cAdd : Sound Try.prog 73 (f2 Fx.add) :=
  con (lps := noLps) mixed (.cons cSat .nil) Try.func73 (by kernel_rfl) (by kernel_rfl) (noLoops (by kernel_rfl)) (con2 (fun _ _ => []) Fx.addP sure2 Fx.addP_eq (fun x y => by kernel_rfl))
theorem cSub : Sound Try.prog 61 (f2 Fx.sub) :=
  con (lps := noLps) mixed (.cons cSat .nil) Try.func61 (by kernel_rfl) (by kernel_rfl) (noLoops (by kernel_rfl)) (con2 (fun _ _ => []) Fx.subP sure2 Fx.subP_eq (fun x y => by kernel_rfl))
theorem cRdiv : Sound Try.prog 57 (f2 Fx.rdiv) :=
  con (lps := noLps) mixed .nil Try.func57 (by kernel_rfl) (by kernel_rfl) (noLoops (by kernel_rfl)) (con2 Fx.rdivQ Fx.rdivP Fx.rdivQ_ok Fx.rdivP_eq (fun x y => by kernel_rfl))
theorem cMul : Sound Try.prog 28 (f2 Fx.mul) :=
  con (lps := noLps) mixed (.cons cSat (.cons cRdiv .nil)) Try.func28 (by kernel_rfl) (by kernel_rfl) (noLoops (by kernel_rfl)) (con2 (fun _ _ => []) Fx.mulP sure2 Fx.mulP_eq (fun x y => by kernel_rfl))
theorem cClamp : Sound Try.prog 60 (f3 Fx.clamp) :=
  con (lps := noLps) mixed .nil Try.func60 (by kernel_rfl) (by kernel_rfl) (noLoops (by kernel_rfl)) (con3 (fun _ _ _ => []) Fx.clampP sure3 Fx.clampP_eq (fun x y z => by kernel_rfl))
theorem cDiv : Sound Try.prog 59 (f2 Fx.div) :=
  con (lps := noLps) mixed (.cons cSat (.cons cRdiv (.cons cClamp .nil))) Try.func59 (by kernel_rfl) (by kernel_rfl) (noLoops (by kernel_rfl)) (con2 (fun _ _ => []) Fx.divP sure2 Fx.divP_eq (fun x y => by kernel_rfl))
theorem isqLoop : LoopOk Try.prog (isqTree 29) (lb Try.f53) :=
  isq_loop mixed (AllSound.nil (P := Try.prog)).tbl (by kernel_rfl) (V := isqVT) (fun n r k => by kernel_rfl) isqVT_sat
theorem cIsqrt : Sound Try.prog 53 (f1 Fx.isqrt) :=
  con (lps := fun _ => isqTree 29) mixed .nil Try.func53 (by kernel_rfl) (by kernel_rfl) (oneLoop (lps := fun _ => isqTree 29) (b := lb Try.f53) (by kernel_rfl) isqLoop) (con1 isqQ isqU isqQ_ok isqU_eq (fun x => by kernel_rfl))

theorem rSat : Sound Try.prog 26 (f1 Fx.sat) :=
  con (lps := noLps) mixed .nil Try.func26 (by kernel_rfl) (by kernel_rfl) (noLoops (by kernel_rfl)) (con1 (fun _ => []) Fx.satR sure1 Fx.satR_eq (fun x => by kernel_rfl))
theorem rOut : Sound Try.prog 75 (b1 Fx.outR) :=
  con (lps := noLps) mixed .nil Try.func75 (by kernel_rfl) (by kernel_rfl) (noLoops (by kernel_rfl)) (conB (fun _ => []) Fx.outR sure1 (fun _ => rfl) (fun x => by kernel_rfl))
theorem rRdiv : Sound Try.prog 58 (f2 Fx.rdiv) :=
  con (lps := noLps) mixed (.cons rOut .nil) Try.func58 (by kernel_rfl) (by kernel_rfl) (noLoops (by kernel_rfl)) (con2 Fx.rdivRQ Fx.rdivR Fx.rdivRQ_ok Fx.rdivR_eq (fun x y => by kernel_rfl))
theorem rMul : Sound Try.prog 29 (f2 Fx.mul) :=
  con (lps := noLps) mixed (.cons rSat (.cons rRdiv .nil)) Try.func29 (by kernel_rfl) (by kernel_rfl) (noLoops (by kernel_rfl)) (con2 (fun _ _ => []) Fx.mulP sure2 Fx.mulP_eq (fun x y => by kernel_rfl))
theorem isqLoopR : LoopOk Try.prog (isqTree 28) (lb Try.f56) :=
  isq_loop mixed (AllSound.nil (P := Try.prog)).tbl (by kernel_rfl) (V := isqVR) (fun n r k => by kernel_rfl) isqVR_sat
theorem rIsqrt : Sound Try.prog 56 (f1 Fx.isqrt) :=
  con (lps := fun _ => isqTree 28) mixed (.cons rOut .nil) Try.func56 (by kernel_rfl) (by kernel_rfl) (oneLoop (lps := fun _ => isqTree 28) (b := lb Try.f56) (by kernel_rfl) isqLoopR) (con1 isqRQ isqRU isqRQ_ok isqRU_eq (fun x => by kernel_rfl))
end Go.Proofs.Ytbjpfekcghnppaa
