/- The contracts of the fixed-point numbers, program and reference. -/
import Derived.Test.YtpolkkblmcmlnaaEngCon
import Derived.Test.YtpolkkblmcmlnaaRows
open Go Go.Eng
namespace Go.Proofs.Ytpolkkblmcmlnaa

theorem mixed : Try.prog.follows .mixedOrders = true := by kernel_rfl
noncomputable def lb (fn : Func) : Code := (loopsOf (fn.body.getD .skip)).getD 0 .skip
noncomputable def lbN (n : Nat) (fn : Func) : Code := (loopsOf (fn.body.getD .skip)).getD n .skip
def noLps : Nat → St → Tree := fun _ _ => .fail

theorem cSat : Sound Try.prog 41 (f1 Fx.sat) :=
  con (lps := noLps) mixed .nil Try.func41 (by kernel_rfl) (by kernel_rfl) (noLoops (by kernel_rfl)) (con1 (fun _ => []) Fx.satP sure1 Fx.satP_eq (fun x => by kernel_rfl))
theorem cAdd : Sound Try.prog 27 (f2 Fx.add) :=
  con (lps := noLps) mixed (.cons cSat .nil) Try.func27 (by kernel_rfl) (by kernel_rfl) (noLoops (by kernel_rfl)) (con2 (fun _ _ => []) Fx.addP sure2 Fx.addP_eq (fun x y => by kernel_rfl))
theorem cSub : Sound Try.prog 20 (f2 Fx.sub) :=
  con (lps := noLps) mixed (.cons cSat .nil) Try.func20 (by kernel_rfl) (by kernel_rfl) (noLoops (by kernel_rfl)) (con2 (fun _ _ => []) Fx.subP sure2 Fx.subP_eq (fun x y => by kernel_rfl))
theorem cRdiv : Sound Try.prog 49 (f2 Fx.rdiv) :=
  con (lps := noLps) mixed .nil Try.func49 (by kernel_rfl) (by kernel_rfl) (noLoops (by kernel_rfl)) (con2 Fx.rdivQ Fx.rdivP Fx.rdivQ_ok Fx.rdivP_eq (fun x y => by kernel_rfl))
theorem cMul : Sound Try.prog 29 (f2 Fx.mul) :=
  con (lps := noLps) mixed (.cons cSat (.cons cRdiv .nil)) Try.func29 (by kernel_rfl) (by kernel_rfl) (noLoops (by kernel_rfl)) (con2 (fun _ _ => []) Fx.mulP sure2 Fx.mulP_eq (fun x y => by kernel_rfl))
theorem cClamp : Sound Try.prog 31 (f3 Fx.clamp) :=
  con (lps := noLps) mixed .nil Try.func31 (by kernel_rfl) (by kernel_rfl) (noLoops (by kernel_rfl)) (con3 (fun _ _ _ => []) Fx.clampP sure3 Fx.clampP_eq (fun x y z => by kernel_rfl))
theorem cDiv : Sound Try.prog 43 (f2 Fx.div) :=
  con (lps := noLps) mixed (.cons cSat (.cons cRdiv (.cons cClamp .nil))) Try.func43 (by kernel_rfl) (by kernel_rfl) (noLoops (by kernel_rfl)) (con2 (fun _ _ => []) Fx.divP sure2 Fx.divP_eq (fun x y => by kernel_rfl))
theorem isqLoop : LoopOk Try.prog (isqTree 29) (lb Try.f34) :=
  isq_loop mixed (AllSound.nil (P := Try.prog)).tbl (by kernel_rfl) (V := isqVT) (fun n r k => by kernel_rfl) isqVT_sat
theorem cIsqrt : Sound Try.prog 34 (f1 Fx.isqrt) :=
  con (lps := fun _ => isqTree 29) mixed .nil Try.func34 (by kernel_rfl) (by kernel_rfl) (oneLoop (lps := fun _ => isqTree 29) (b := lb Try.f34) (by kernel_rfl) isqLoop) (con1 isqQ isqU isqQ_ok isqU_eq (fun x => by kernel_rfl))

theorem rSat : Sound Try.prog 42 (f1 Fx.sat) :=
  con (lps := noLps) mixed .nil Try.func42 (by kernel_rfl) (by kernel_rfl) (noLoops (by kernel_rfl)) (con1 (fun _ => []) Fx.satR sure1 Fx.satR_eq (fun x => by kernel_rfl))
theorem rAdd : Sound Try.prog 63 (f2 Fx.add) :=
  con (lps := noLps) mixed (.cons rSat .nil) Try.func63 (by kernel_rfl) (by kernel_rfl) (noLoops (by kernel_rfl)) (con2 (fun _ _ => []) Fx.addP sure2 Fx.addP_eq (fun x y => by kernel_rfl))
theorem rSub : Sound Try.prog 21 (f2 Fx.sub) :=
  con (lps := noLps) mixed (.cons rSat .nil) Try.func21 (by kernel_rfl) (by kernel_rfl) (noLoops (by kernel_rfl)) (con2 (fun _ _ => []) Fx.subP sure2 Fx.subP_eq (fun x y => by kernel_rfl))
theorem rOut : Sound Try.prog 57 (b1 Fx.outR) :=
  con (lps := noLps) mixed .nil Try.func57 (by kernel_rfl) (by kernel_rfl) (noLoops (by kernel_rfl)) (conB (fun _ => []) Fx.outR sure1 (fun _ => rfl) (fun x => by kernel_rfl))
theorem rRdiv : Sound Try.prog 64 (f2 Fx.rdiv) :=
  con (lps := noLps) mixed (.cons rOut .nil) Try.func64 (by kernel_rfl) (by kernel_rfl) (noLoops (by kernel_rfl)) (con2 Fx.rdivRQ Fx.rdivR Fx.rdivRQ_ok Fx.rdivR_eq (fun x y => by kernel_rfl))
theorem rMul : Sound Try.prog 78 (f2 Fx.mul) :=
  con (lps := noLps) mixed (.cons rSat (.cons rRdiv .nil)) Try.func78 (by kernel_rfl) (by kernel_rfl) (noLoops (by kernel_rfl)) (con2 (fun _ _ => []) Fx.mulP sure2 Fx.mulP_eq (fun x y => by kernel_rfl))
theorem rDiv : Sound Try.prog 67 (f2 Fx.div) :=
  con (lps := noLps) mixed (.cons rSat (.cons rRdiv .nil)) Try.func67 (by kernel_rfl) (by kernel_rfl) (noLoops (by kernel_rfl)) (con2 (fun _ _ => []) Fx.divR sure2 Fx.divR_eq (fun x y => by kernel_rfl))
theorem isqLoopR : LoopOk Try.prog (isqTree 28) (lb Try.f40) :=
  isq_loop mixed (AllSound.nil (P := Try.prog)).tbl (by kernel_rfl) (V := isqVR) (fun n r k => by kernel_rfl) isqVR_sat
theorem rIsqrt : Sound Try.prog 40 (f1 Fx.isqrt) :=
  con (lps := fun _ => isqTree 28) mixed (.cons rOut .nil) Try.func40 (by kernel_rfl) (by kernel_rfl) (oneLoop (lps := fun _ => isqTree 28) (b := lb Try.f40) (by kernel_rfl) isqLoopR) (con1 isqRQ isqRU isqRQ_ok isqRU_eq (fun x => by kernel_rfl))
end Go.Proofs.Ytpolkkblmcmlnaa
