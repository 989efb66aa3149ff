/- Proved here: laws of chapter 29 return true for every input. Conditions: none. -/
import Derived.Test.YtfjognghjiifaaaGreatCrp
import Derived.Test.YtfjognghjiifaaaGreatEngArg
import Derived.Test.YtfjognghjiifaaaGreatEngPl
import Derived.RowKit3
open Go Go.Eng
namespace Go.Proofs.YtfjognghjiifaaaGreat
open Go.Fx (an orr an_true)

theorem own : ownKnob Tryz.prog.godebug = none := by kernel_rfl
def ex29Q : List Prop := [1 ≤ 65536, false = false → 1 ≤ 65536, false = false → (0 : Int) ≤ (0 : Int) ∧ (0 : Int) < (2 : Int), false = false → 0 < 2, false = false → true = true → (0 : Int) ≤ (0 : Int) ∧ (0 : Int) < (2 : Int), false = false → true = true → 0 < 2, false = false → true = true → (0 : Int) ≤ (0 : Int) ∧ (0 : Int) < (2 : Int), false = false → true = true → 0 < 2, false = false → true = true → (0 : Int) ≤ (0 : Int) ∧ (0 : Int) < (2 : Int), false = false → true = true → 0 < 2, false = false → true = true → (0 : Int) ≤ (1 : Int) ∧ (1 : Int) < (2 : Int), false = false → true = true → 1 < 2, false = false → true = true → (0 : Int) ≤ (1 : Int) ∧ (1 : Int) < (2 : Int), false = false → true = true → 1 < 2, false = false → true = true → (0 : Int) ≤ (1 : Int) ∧ (1 : Int) < (2 : Int), false = false → true = true → 1 < 2, false = false → true = true → 1 ≤ 65536]
theorem ex29Q_ok : Conj ex29Q := by simp [ex29Q, Conj]
theorem cEx29 : Sound Tryz.prog 5 (c0 eB true) :=
  con (lps := noLps) mixed (.cons cCont (.cons cDisk (.cons cCtr (.cons cCst (.cons rEqc (.cons cNng (.cons cRes (.cons cFri .nil)))))))) Tryz.func5 (by kernel_rfl) (by kernel_rfl) (noLoops (by kernel_rfl)) (g0 ex29Q true (fun _ => ex29Q_ok) (fun _ => rfl) (by kernel_rfl))
def sm29 (c : Fx.Ct) (p : Fx.Bd × Fx.Bd) : Bool := an (an (decide ((c.pts.length : Int) ≤ 4)) (smb23U p.1)) (smb23U p.2)
theorem sm29_len {c : Fx.Ct} {p : Fx.Bd × Fx.Bd} (h : sm29 c p = true) : c.pts.length ≤ 4 := by
  have := of_decide_eq_true (Fx.of_an (Fx.of_an h).1).1
  omega
theorem cSm29 : Sound Tryz.prog 4 (c2 eCt eBB eB sm29) :=
  con (lps := noLps) mixed (.cons rSmb23 .nil) Tryz.func4 (by kernel_rfl) (by kernel_rfl) (noLoops (by kernel_rfl)) (k2 (fun _ _ => by kernel_rfl))
end Go.Proofs.YtfjognghjiifaaaGreat
