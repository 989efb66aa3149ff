/- The contracts of the joints, chapter 24, program and reference. -/
import Derived.Test.YtfjognghjiifaaaGreatVec
import Derived.Test.YtfjognghjiifaaaGreatEngJnt
open Go Go.Eng
namespace Go.Proofs.YtfjognghjiifaaaGreat
open Go.Fx (an orr)

theorem reset_eq (c : Bool) (x : Int) : (bif c then x else x) = x := by cases c <;> rfl
theorem reset_eqB (c : Bool) (x : Bool) : (bif c then x else x) = x := by cases c <;> rfl
def resetU (j : Fx.Joint) : Fx.Joint := ⟨bif j.zeroed then j.id else j.id, bif j.zeroed then j.kind else j.kind, bif j.zeroed then j.ba else j.ba, bif j.zeroed then j.bb else j.bb, bif j.zeroed then j.ax else j.ax, bif j.zeroed then j.ay else j.ay, bif j.zeroed then j.bx else j.bx, bif j.zeroed then j.bby else j.bby, bif j.zeroed then j.ux else j.ux, bif j.zeroed then j.uy else j.uy, bif j.zeroed then j.ra else j.ra, bif j.zeroed then j.el else j.el, bif j.zeroed then j.lo else j.lo, bif j.zeroed then j.up else j.up, bif j.zeroed then j.em else j.em, bif j.zeroed then j.ms else j.ms, bif j.zeroed then j.mf else j.mf, bif j.zeroed then j.so else j.so, bif j.zeroed then j.br else j.br, bif j.zeroed then j.cc else j.cc, bif j.zeroed then j.i0 else 0, bif j.zeroed then j.i1 else 0, bif j.zeroed then j.i2 else 0, bif j.zeroed then j.i3 else 0⟩
theorem resetU_eq (j : Fx.Joint) : resetU j = j.reset := by
  unfold resetU Fx.Joint.reset
  cases h : j.zeroed with
  | false => rfl
  | true =>
    unfold Fx.Joint.zeroed at h
    simp only [Bool.and_true, Bool.and_eq_true, beq_iff_eq] at h
    obtain ⟨h0, h1, h2, h3⟩ := h
    simp only [cond_true, h0, h1, h2, h3]
def anchU (j : Fx.Joint) (a b : Fx.Bd) : Fx.Vec × Fx.Vec := (Fx.Vec.sel (j.kind != 5) (a.t.apply j.pa) j.pa, Fx.Vec.sel (j.kind != 5) (b.t.apply j.pb) (b.t.apply j.pb))
theorem sel_self (c : Bool) (v : Fx.Vec) : Fx.Vec.sel c v v = v := by cases c <;> rfl
theorem anchU_eq (j : Fx.Joint) (a b : Fx.Bd) : anchU j a b = Fx.anchors j a.t b.t := by unfold anchU; rw [sel_self]; rfl
end Go.Proofs.YtfjognghjiifaaaGreat
