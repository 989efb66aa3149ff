/- The contracts of the fixed-point numbers, program and reference. -/
import Derived.Test.YtmlppmjmgfklnaaEngCon
import Derived.Test.YtmlppmjmgfklnaaRows
open Go Go.Eng
namespace Go.Proofs.Ytmlppmjmgfklnaa

theorem mixed : Try.prog.follows .mixedOrders = true := by kernel_rfl
noncomputable def lb (fn : Func) : Code := (loopsOf (fn.body.getD .skip)).getD 0 .skip
noncomputable def lbN (n : Nat) (fn : Func) : Code := (loopsOf (fn.body.getD .skip)).getD n .skip
def noLps : Nat → St → Tree := fun _ _ => .fail

theorem cSat : Sound Try.prog 45 (f1 Fx.sat) :=
  con (lps := noLps) mixed .nil Try.func45 (by kernel_rfl) (by kernel_rfl) (noLoops (by kernel_rfl)) (con1 (fun _ => []) Fx.satP sure1 Fx.satP_eq (fun x => by kernel_rfl))
theorem cAdd : Sound Try.prog 40 (f2 Fx.add) :=
  con (lps := noLps) mixed (.cons cSat .nil) Try.func40 (by kernel_rfl) (by kernel_rfl) (noLoops (by kernel_rfl)) (con2 (fun _ _ => []) Fx.addP sure2 Fx.addP_eq (fun x y => by kernel_rfl))
theorem cSub : Sound Try.prog 29 (f2 Fx.sub) :=
  con (lps := noLps) mixed (.cons cSat .nil) Try.func29 (by kernel_rfl) (by kernel_rfl) (noLoops (by kernel_rfl)) (con2 (fun _ _ => []) Fx.subP sure2 Fx.subP_eq (fun x y => by kernel_rfl))
theorem cRdiv : Sound Try.prog 49 (f2 Fx.rdiv) :=
  con (lps := noLps) mixed .nil Try.func49 (by kernel_rfl) (by kernel_rfl) (noLoops (by kernel_rfl)) (con2 Fx.rdivQ Fx.rdivP Fx.rdivQ_ok Fx.rdivP_eq (fun x y => by kernel_rfl))
theorem cMul : Sound Try.prog 30 (f2 Fx.mul) :=
  con (lps := noLps) mixed (.cons cSat (.cons cRdiv .nil)) Try.func30 (by kernel_rfl) (by kernel_rfl) (noLoops (by kernel_rfl)) (con2 (fun _ _ => []) Fx.mulP sure2 Fx.mulP_eq (fun x y => by kernel_rfl))
theorem cClamp : Sound Try.prog 31 (f3 Fx.clamp) :=
  con (lps := noLps) mixed .nil Try.func31 (by kernel_rfl) (by kernel_rfl) (noLoops (by kernel_rfl)) (con3 (fun _ _ _ => []) Fx.clampP sure3 Fx.clampP_eq (fun x y z => by kernel_rfl))
theorem cDiv : Sound Try.prog 32 (f2 Fx.div) :=
  con (lps := noLps) mixed (.cons cSat (.cons cRdiv (.cons cClamp .nil))) Try.func32 (by kernel_rfl) (by kernel_rfl) (noLoops (by kernel_rfl)) (con2 (fun _ _ => []) Fx.divP sure2 Fx.divP_eq (fun x y => by kernel_rfl))
theorem isqLoop : LoopOk Try.prog (isqTree 29) (lb Try.f48) :=
  isq_loop mixed (AllSound.nil (P := Try.prog)).tbl (by kernel_rfl) (V := isqVT) (fun n r k => by kernel_rfl) isqVT_sat
theorem cIsqrt : Sound Try.prog 48 (f1 Fx.isqrt) :=
  con (lps := fun _ => isqTree 29) mixed .nil Try.func48 (by kernel_rfl) (by kernel_rfl) (oneLoop (lps := fun _ => isqTree 29) (b := lb Try.f48) (by kernel_rfl) isqLoop) (con1 isqQ isqU isqQ_ok isqU_eq (fun x => by kernel_rfl))

theorem rSat : Sound Try.prog 42 (f1 Fx.sat) :=
  con (lps := noLps) mixed .nil Try.func42 (by kernel_rfl) (by kernel_rfl) (noLoops (by kernel_rfl)) (con1 (fun _ => []) Fx.satR sure1 Fx.satR_eq (fun x => by kernel_rfl))
end Go.Proofs.Ytmlppmjmgfklnaa
