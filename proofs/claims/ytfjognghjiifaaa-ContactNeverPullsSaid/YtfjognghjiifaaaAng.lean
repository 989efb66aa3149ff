/- The contracts of the angles, program and reference. -/
import Derived.Test.YtfjognghjiifaaaFix
open Go Go.Eng
namespace Go.Proofs.Ytfjognghjiifaaa

def r1 (f g : Int → Int) : Contract := fun | [I a] => some ([], V2 (f a) (g a)) | _ => none

theorem conV {ctrs : FuncId → Option Contract} {lps : Nat → St → Tree} {f : FuncId} {F G : Int → Int} (U V : Int → Int) (hU : ∀ x, U x = F x) (hV : ∀ x, V x = G x) (h : ∀ x, symFn Try.prog ctrs lps f [I x] = some ([], V2 (U x) (V x))) :
    ∀ args ps r, r1 F G args = some (ps, r) → Conj ps → ∃ qs, symFn Try.prog ctrs lps f args = some (qs, r) ∧ Conj qs := by
  intro args ps r e _
  unfold r1 at e
  split at e
  · cases e; exact ⟨[], (h _).trans (by rw [hU, hV]), trivial⟩
  · cases e

theorem cNorm : Sound Try.prog 72 (f1 Fx.norm) :=
  con (lps := noLps) mixed .nil Try.func72 (by kernel_rfl) (by kernel_rfl) (noLoops (by kernel_rfl)) (con1 (fun _ => []) Fx.normP sure1 Fx.normP_eq (fun x => by kernel_rfl))
theorem cAbs : Sound Try.prog 71 (f1 Fx.absP) :=
  con (lps := noLps) mixed .nil Try.func71 (by kernel_rfl) (by kernel_rfl) (noLoops (by kernel_rfl)) (con1 (fun _ => []) Fx.absP sure1 (fun _ => rfl) (fun x => by kernel_rfl))
theorem cSin : Sound Try.prog 68 (f1 Fx.sin) :=
  con (lps := noLps) mixed (.cons cNorm (.cons cAbs (.cons cDiv (.cons cMul (.cons cSub .nil))))) Try.func68 (by kernel_rfl) (by kernel_rfl) (noLoops (by kernel_rfl)) (con1 (fun _ => []) Fx.sinP sure1 Fx.sinP_eq (fun x => by kernel_rfl))
theorem cCos : Sound Try.prog 67 (f1 Fx.cos) :=
  con (lps := noLps) mixed (.cons cNorm (.cons cAbs (.cons cSin .nil))) Try.func67 (by kernel_rfl) (by kernel_rfl) (noLoops (by kernel_rfl)) (con1 (fun _ => []) Fx.cosP sure1 Fx.cosP_eq (fun x => by kernel_rfl))
theorem cRot : Sound Try.prog 63 (r1 Fx.rotc Fx.rots) :=
  con (lps := noLps) mixed (.cons cSin (.cons cCos (.cons cIsqrt (.cons cDiv .nil)))) Try.func63 (by kernel_rfl) (by kernel_rfl) (noLoops (by kernel_rfl)) (conV Fx.rotcP Fx.rotsP Fx.rotcP_eq Fx.rotsP_eq (fun x => by kernel_rfl))

end Go.Proofs.Ytfjognghjiifaaa
