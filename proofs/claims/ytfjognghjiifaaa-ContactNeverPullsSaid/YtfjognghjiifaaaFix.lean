/- The contracts of the fixed-point numbers, program and reference. -/
import Derived.Test.YtfjognghjiifaaaEngCon
import Derived.Test.YtfjognghjiifaaaRows
open Go Go.Eng
namespace Go.Proofs.Ytfjognghjiifaaa

theorem mixed : Try.prog.follows .mixedOrders = true := by kernel_rfl
noncomputable def lb (fn : Func) : Code := (loopsOf (fn.body.getD .skip)).getD 0 .skip
noncomputable def lbN (n : Nat) (fn : Func) : Code := (loopsOf (fn.body.getD .skip)).getD n .skip
def noLps : Nat → St → Tree := fun _ _ => .fail

theorem cSat : Sound Try.prog 46 (f1 Fx.sat) :=
  con (lps := noLps) mixed .nil Try.func46 (by kernel_rfl) (by kernel_rfl) (noLoops (by kernel_rfl)) (con1 (fun _ => []) Fx.satP sure1 Fx.satP_eq (fun x => by kernel_rfl))
theorem cAdd : Sound Try.prog 40 (f2 Fx.add) :=
  con (lps := noLps) mixed (.cons cSat .nil) Try.func40 (by kernel_rfl) (by kernel_rfl) (noLoops (by kernel_rfl)) (con2 (fun _ _ => []) Fx.addP sure2 Fx.addP_eq (fun x y => by kernel_rfl))
theorem cSub : Sound Try.prog 43 (f2 Fx.sub) :=
  con (lps := noLps) mixed (.cons cSat .nil) Try.func43 (by kernel_rfl) (by kernel_rfl) (noLoops (by kernel_rfl)) (con2 (fun _ _ => []) Fx.subP sure2 Fx.subP_eq (fun x y => by kernel_rfl))
theorem cRdiv : Sound Try.prog 47 (f2 Fx.rdiv) :=
  con (lps := noLps) mixed .nil Try.func47 (by kernel_rfl) (by kernel_rfl) (noLoops (by kernel_rfl)) (con2 Fx.rdivQ Fx.rdivP Fx.rdivQ_ok Fx.rdivP_eq (fun x y => by kernel_rfl))
theorem cMul : Sound Try.prog 25 (f2 Fx.mul) :=
  con (lps := noLps) mixed (.cons cSat (.cons cRdiv .nil)) Try.func25 (by kernel_rfl) (by kernel_rfl) (noLoops (by kernel_rfl)) (con2 (fun _ _ => []) Fx.mulP sure2 Fx.mulP_eq (fun x y => by kernel_rfl))
theorem cClamp : Sound Try.prog 42 (f3 Fx.clamp) :=
  con (lps := noLps) mixed .nil Try.func42 (by kernel_rfl) (by kernel_rfl) (noLoops (by kernel_rfl)) (con3 (fun _ _ _ => []) Fx.clampP sure3 Fx.clampP_eq (fun x y z => by kernel_rfl))
theorem cDiv : Sound Try.prog 55 (f2 Fx.div) :=
  con (lps := noLps) mixed (.cons cSat (.cons cRdiv (.cons cClamp .nil))) Try.func55 (by kernel_rfl) (by kernel_rfl) (noLoops (by kernel_rfl)) (con2 (fun _ _ => []) Fx.divP sure2 Fx.divP_eq (fun x y => by kernel_rfl))
theorem isqLoop : LoopOk Try.prog (isqTree 29) (lb Try.f45) :=
  isq_loop mixed (AllSound.nil (P := Try.prog)).tbl (by kernel_rfl) (V := isqVT) (fun n r k => by kernel_rfl) isqVT_sat
theorem cIsqrt : Sound Try.prog 45 (f1 Fx.isqrt) :=
  con (lps := fun _ => isqTree 29) mixed .nil Try.func45 (by kernel_rfl) (by kernel_rfl) (oneLoop (lps := fun _ => isqTree 29) (b := lb Try.f45) (by kernel_rfl) isqLoop) (con1 isqQ isqU isqQ_ok isqU_eq (fun x => by kernel_rfl))

theorem rSat : Sound Try.prog 36 (f1 Fx.sat) :=
  con (lps := noLps) mixed .nil Try.func36 (by kernel_rfl) (by kernel_rfl) (noLoops (by kernel_rfl)) (con1 (fun _ => []) Fx.satR sure1 Fx.satR_eq (fun x => by kernel_rfl))
theorem rOut : Sound Try.prog 57 (b1 Fx.outR) :=
  con (lps := noLps) mixed .nil Try.func57 (by kernel_rfl) (by kernel_rfl) (noLoops (by kernel_rfl)) (conB (fun _ => []) Fx.outR sure1 (fun _ => rfl) (fun x => by kernel_rfl))
theorem rRdiv : Sound Try.prog 37 (f2 Fx.rdiv) :=
  con (lps := noLps) mixed (.cons rOut .nil) Try.func37 (by kernel_rfl) (by kernel_rfl) (noLoops (by kernel_rfl)) (con2 Fx.rdivRQ Fx.rdivR Fx.rdivRQ_ok Fx.rdivR_eq (fun x y => by kernel_rfl))
theorem rMul : Sound Try.prog 21 (f2 Fx.mul) :=
  con (lps := noLps) mixed (.cons rSat (.cons rRdiv .nil)) Try.func21 (by kernel_rfl) (by kernel_rfl) (noLoops (by kernel_rfl)) (con2 (fun _ _ => []) Fx.mulP sure2 Fx.mulP_eq (fun x y => by kernel_rfl))
theorem isqLoopR : LoopOk Try.prog (isqTree 28) (lb Try.f48) :=
  isq_loop mixed (AllSound.nil (P := Try.prog)).tbl (by kernel_rfl) (V := isqVR) (fun n r k => by kernel_rfl) isqVR_sat
theorem rIsqrt : Sound Try.prog 48 (f1 Fx.isqrt) :=
  con (lps := fun _ => isqTree 28) mixed (.cons rOut .nil) Try.func48 (by kernel_rfl) (by kernel_rfl) (oneLoop (lps := fun _ => isqTree 28) (b := lb Try.f48) (by kernel_rfl) isqLoopR) (con1 isqRQ isqRU isqRQ_ok isqRU_eq (fun x => by kernel_rfl))
end Go.Proofs.Ytfjognghjiifaaa
