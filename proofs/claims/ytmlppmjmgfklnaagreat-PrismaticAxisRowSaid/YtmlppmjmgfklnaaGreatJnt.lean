/- The contracts of the joints, chapter 24, program and reference. -/
import Derived.Test.YtmlppmjmgfklnaaGreatVec
import Derived.Test.YtmlppmjmgfklnaaGreatEngJnt
open Go Go.Eng
namespace Go.Proofs.YtmlppmjmgfklnaaGreat
open Go.Fx (an orr)

theorem reset_eq (c : Bool) (x : Int) : (bif c then x else x) = x := by cases c <;> rfl
theorem reset_eqB (c : Bool) (x : Bool) : (bif c then x else x) = x := by cases c <;> rfl
def resetU (j : Fx.Joint) : Fx.Joint := ⟨bif j.zeroed then j.id else j.id, bif j.zeroed then j.kind else j.kind, bif j.zeroed then j.ba else j.ba, bif j.zeroed then j.bb else j.bb, bif j.zeroed then j.ax else j.ax, bif j.zeroed then j.ay else j.ay, bif j.zeroed then j.bx else j.bx, bif j.zeroed then j.bby else j.bby, bif j.zeroed then j.ux else j.ux, bif j.zeroed then j.uy else j.uy, bif j.zeroed then j.ra else j.ra, bif j.zeroed then j.el else j.el, bif j.zeroed then j.lo else j.lo, bif j.zeroed then j.up else j.up, bif j.zeroed then j.em else j.em, bif j.zeroed then j.ms else j.ms, bif j.zeroed then j.mf else j.mf, bif j.zeroed then j.so else j.so, bif j.zeroed then j.br else j.br, bif j.zeroed then j.cc else j.cc, bif j.zeroed then j.i0 else 0, bif j.zeroed then j.i1 else 0, bif j.zeroed then j.i2 else 0, bif j.zeroed then j.i3 else 0⟩
theorem resetU_eq (j : Fx.Joint) : resetU j = j.reset := by
  unfold resetU Fx.Joint.reset
  cases h : j.zeroed with
  | false => rfl
  | true =>
    unfold Fx.Joint.zeroed at h
    simp only [Bool.and_true, Bool.and_eq_true, beq_iff_eq] at h
    obtain ⟨h0, h1, h2, h3⟩ := h
    simp only [cond_true, h0, h1, h2, h3]
def anchU (j : Fx.Joint) (a b : Fx.Bd) : Fx.Vec × Fx.Vec := (Fx.Vec.sel (j.kind != 5) (a.t.apply j.pa) j.pa, Fx.Vec.sel (j.kind != 5) (b.t.apply j.pb) (b.t.apply j.pb))
theorem sel_self (c : Bool) (v : Fx.Vec) : Fx.Vec.sel c v v = v := by cases c <;> rfl
theorem anchU_eq (j : Fx.Joint) (a b : Fx.Bd) : anchU j a b = Fx.anchors j a.t b.t := by unfold anchU; rw [sel_self]; rfl
theorem cAnch : Sound Tryz.prog 37 (c3 eJ eBd eBd eVV (fun j a b => Fx.anchors j a.t b.t)) :=
  con (lps := noLps) mixed (.cons cApply .nil) Tryz.func37 (by kernel_rfl) (by kernel_rfl) (noLoops (by kernel_rfl)) (g3 (fun _ _ _ => []) anchU (fun _ _ _ _ => trivial) (fun j a b _ => anchU_eq j a b) (fun _ _ _ => by kernel_rfl))
theorem cRel : Sound Tryz.prog 25 (c3 eJ eBd eBd eI (fun j a b => Fx.relAng j a.t b.t)) :=
  con (lps := noLps) mixed (.cons cNorm (.cons cDiff .nil)) Tryz.func25 (by kernel_rfl) (by kernel_rfl) (noLoops (by kernel_rfl)) (k3 (fun _ _ _ => by kernel_rfl))
theorem cWax : Sound Tryz.prog 19 (c2 eJ eBd eV (fun j a => Fx.wAxis j a.t)) :=
  con (lps := noLps) mixed (.cons cRot (.cons cVrot .nil)) Tryz.func19 (by kernel_rfl) (by kernel_rfl) (noLoops (by kernel_rfl)) (k2 (fun _ _ => by kernel_rfl))
theorem cTrl : Sound Tryz.prog 22 (c3 eJ eBd eBd eI (fun j a b => Fx.transl j a.t b.t)) :=
  con (lps := noLps) mixed (.cons cAnch (.cons cWax (.cons cVsub (.cons cVdot .nil)))) Tryz.func22 (by kernel_rfl) (by kernel_rfl) (noLoops (by kernel_rfl)) (k3 (fun _ _ _ => by kernel_rfl))
theorem rAnch : Sound Tryz.prog 40 (c3 eJ eBd eBd eVV (fun j a b => Fx.anchors j a.t b.t)) :=
  con (lps := noLps) mixed (.cons rApply .nil) Tryz.func40 (by kernel_rfl) (by kernel_rfl) (noLoops (by kernel_rfl)) (g3 (fun _ _ _ => []) anchU (fun _ _ _ _ => trivial) (fun j a b _ => anchU_eq j a b) (fun _ _ _ => by kernel_rfl))
theorem rRel : Sound Tryz.prog 34 (c3 eJ eBd eBd eI (fun j a b => Fx.relAng j a.t b.t)) :=
  con (lps := noLps) mixed (.cons rNorm (.cons rDiff .nil)) Tryz.func34 (by kernel_rfl) (by kernel_rfl) (noLoops (by kernel_rfl)) (k3 (fun _ _ _ => by kernel_rfl))
theorem rWax : Sound Tryz.prog 28 (c2 eJ eBd eV (fun j a => Fx.wAxis j a.t)) :=
  con (lps := noLps) mixed (.cons rRot (.cons rVrot .nil)) Tryz.func28 (by kernel_rfl) (by kernel_rfl) (noLoops (by kernel_rfl)) (k2 (fun _ _ => by kernel_rfl))
theorem rTrl : Sound Tryz.prog 31 (c3 eJ eBd eBd eI (fun j a b => Fx.transl j a.t b.t)) :=
  con (lps := noLps) mixed (.cons rAnch (.cons rWax (.cons rVsub (.cons rVdot .nil)))) Tryz.func31 (by kernel_rfl) (by kernel_rfl) (noLoops (by kernel_rfl)) (k3 (fun _ _ _ => by kernel_rfl))
end Go.Proofs.YtmlppmjmgfklnaaGreat
