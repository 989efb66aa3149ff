/- The contracts of the angles, program and reference. -/
import Derived.Test.YtfjognghjiifaaaGreatFix
open Go Go.Eng
namespace Go.Proofs.YtfjognghjiifaaaGreat

def r1 (f g : Int → Int) : Contract := fun | [I a] => some ([], V2 (f a) (g a)) | _ => none

theorem conV {ctrs : FuncId → Option Contract} {lps : Nat → St → Tree} {f : FuncId} {F G : Int → Int} (U V : Int → Int) (hU : ∀ x, U x = F x) (hV : ∀ x, V x = G x) (h : ∀ x, symFn Tryz.prog ctrs lps f [I x] = some ([], V2 (U x) (V x))) :
    ∀ args ps r, r1 F G args = some (ps, r) → Conj ps → ∃ qs, symFn Tryz.prog ctrs lps f args = some (qs, r) ∧ Conj qs := by
  intro args ps r e _
  unfold r1 at e
  split at e
  · cases e; exact ⟨[], (h _).trans (by rw [hU, hV]), trivial⟩
  · cases e

theorem cNorm : Sound Tryz.prog 84 (f1 Fx.norm) :=
  con (lps := noLps) mixed .nil Tryz.func84 (by kernel_rfl) (by kernel_rfl) (noLoops (by kernel_rfl)) (con1 (fun _ => []) Fx.normP sure1 Fx.normP_eq (fun x => by kernel_rfl))
theorem cAbs : Sound Tryz.prog 83 (f1 Fx.absP) :=
  con (lps := noLps) mixed .nil Tryz.func83 (by kernel_rfl) (by kernel_rfl) (noLoops (by kernel_rfl)) (con1 (fun _ => []) Fx.absP sure1 (fun _ => rfl) (fun x => by kernel_rfl))
theorem cSin : Sound Tryz.prog 75 (f1 Fx.sin) :=
  con (lps := noLps) mixed (.cons cNorm (.cons cAbs (.cons cDiv (.cons cMul (.cons cSub .nil))))) Tryz.func75 (by kernel_rfl) (by kernel_rfl) (noLoops (by kernel_rfl)) (con1 (fun _ => []) Fx.sinP sure1 Fx.sinP_eq (fun x => by kernel_rfl))
theorem cCos : Sound Tryz.prog 74 (f1 Fx.cos) :=
  con (lps := noLps) mixed (.cons cNorm (.cons cAbs (.cons cSin .nil))) Tryz.func74 (by kernel_rfl) (by kernel_rfl) (noLoops (by kernel_rfl)) (con1 (fun _ => []) Fx.cosP sure1 Fx.cosP_eq (fun x => by kernel_rfl))
theorem cRot : Sound Tryz.prog 57 (r1 Fx.rotc Fx.rots) :=
  con (lps := noLps) mixed (.cons cSin (.cons cCos (.cons cIsqrt (.cons cDiv .nil)))) Tryz.func57 (by kernel_rfl) (by kernel_rfl) (noLoops (by kernel_rfl)) (conV Fx.rotcP Fx.rotsP Fx.rotcP_eq Fx.rotsP_eq (fun x => by kernel_rfl))

theorem rNorm : Sound Tryz.prog 107 (f1 Fx.norm) :=
  con (lps := noLps) mixed .nil Tryz.func107 (by kernel_rfl) (by kernel_rfl) (noLoops (by kernel_rfl)) (con1 (fun _ => []) Fx.normR sure1 Fx.normR_eq (fun x => by kernel_rfl))
theorem rAbs : Sound Tryz.prog 106 (f1 Fx.absP) :=
  con (lps := noLps) mixed .nil Tryz.func106 (by kernel_rfl) (by kernel_rfl) (noLoops (by kernel_rfl)) (con1 (fun _ => []) Fx.absP sure1 (fun _ => rfl) (fun x => by kernel_rfl))
theorem rFirst : Sound Tryz.prog 108 (f1 Fx.sinq) :=
  con (lps := noLps) mixed (.cons rDiv (.cons rMul (.cons rSub .nil))) Tryz.func108 (by kernel_rfl) (by kernel_rfl) (noLoops (by kernel_rfl)) (con1 (fun _ => []) Fx.sinq sure1 (fun _ => rfl) (fun x => by kernel_rfl))
theorem rSin : Sound Tryz.prog 92 (f1 Fx.sin) :=
  con (lps := noLps) mixed (.cons rNorm (.cons rAbs (.cons rFirst .nil))) Tryz.func92 (by kernel_rfl) (by kernel_rfl) (noLoops (by kernel_rfl)) (con1 (fun _ => []) Fx.sinP sure1 Fx.sinP_eq (fun x => by kernel_rfl))
theorem rCos : Sound Tryz.prog 91 (f1 Fx.cos) :=
  con (lps := noLps) mixed (.cons rNorm (.cons rAbs (.cons rSin .nil))) Tryz.func91 (by kernel_rfl) (by kernel_rfl) (noLoops (by kernel_rfl)) (con1 (fun _ => []) Fx.cosP sure1 Fx.cosP_eq (fun x => by kernel_rfl))
theorem rRot : Sound Tryz.prog 81 (r1 Fx.rotc Fx.rots) :=
  con (lps := noLps) mixed (.cons rSin (.cons rCos (.cons rIsqrt (.cons rDiv .nil)))) Tryz.func81 (by kernel_rfl) (by kernel_rfl) (noLoops (by kernel_rfl)) (conV Fx.rotcP Fx.rotsP Fx.rotcP_eq Fx.rotsP_eq (fun x => by kernel_rfl))
end Go.Proofs.YtfjognghjiifaaaGreat
