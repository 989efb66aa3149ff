/- The contracts of the angles, program and reference. -/
import Derived.Test.YtdobgdmehdgmfaaFix
open Go Go.Eng
namespace Go.Proofs.Ytdobgdmehdgmfaa

def r1 (f g : Int → Int) : Contract := fun | [I a] => some ([], V2 (f a) (g a)) | _ => none

theorem conV {ctrs : FuncId → Option Contract} {lps : Nat → St → Tree} {f : FuncId} {F G : Int → Int} (U V : Int → Int) (hU : ∀ x, U x = F x) (hV : ∀ x, V x = G x) (h : ∀ x, symFn Try.prog ctrs lps f [I x] = some ([], V2 (U x) (V x))) :
    ∀ args ps r, r1 F G args = some (ps, r) → Conj ps → ∃ qs, symFn Try.prog ctrs lps f args = some (qs, r) ∧ Conj qs := by
  intro args ps r e _
  unfold r1 at e
  split at e
  · cases e; exact ⟨[], (h _).trans (by rw [hU, hV]), trivial⟩
  · cases e


end Go.Proofs.Ytdobgdmehdgmfaa
