/- Proved here: laws of chapter 29 return true for every input. Conditions: none. -/
import Derived.Test.YtfjognghjiifaaaCrp
import Derived.Test.YtfjognghjiifaaaEngArg
import Derived.Test.YtfjognghjiifaaaEngPl
import Derived.RowKit3
open Go Go.Eng
namespace Go.Proofs.Ytfjognghjiifaaa
open Go.Fx (an orr an_true)

theorem own : ownKnob Try.prog.godebug = none := by kernel_rfl
def ex29Q : List Prop := [1 ≤ 65536, false = false → 1 ≤ 65536, false = false → (0 : Int) ≤ (0 : Int) ∧ (0 : Int) < (2 : Int), false = false → 0 < 2, false = false → true = true → (0 : Int) ≤ (0 : Int) ∧ (0 : Int) < (2 : Int), false = false → true = true → 0 < 2, false = false → true = true → (0 : Int) ≤ (0 : Int) ∧ (0 : Int) < (2 : Int), false = false → true = true → 0 < 2, false = false → true = true → (0 : Int) ≤ (0 : Int) ∧ (0 : Int) < (2 : Int), false = false → true = true → 0 < 2, false = false → true = true → (0 : Int) ≤ (1 : Int) ∧ (1 : Int) < (2 : Int), false = false → true = true → 1 < 2, false = false → true = true → (0 : Int) ≤ (1 : Int) ∧ (1 : Int) < (2 : Int), false = false → true = true → 1 < 2, false = false → true = true → (0 : Int) ≤ (1 : Int) ∧ (1 : Int) < (2 : Int), false = false → true = true → 1 < 2, false = false → true = true → 1 ≤ 65536]
theorem ex29Q_ok : Conj ex29Q := by simp [ex29Q, Conj]
theorem cEx29 : Sound Try.prog 13 (c0 eB true) :=
  con (lps := noLps) mixed (.cons cCont (.cons cDisk (.cons cCtr (.cons cCst (.cons rEqc (.cons cNng (.cons cRes (.cons cFri .nil)))))))) Try.func13 (by kernel_rfl) (by kernel_rfl) (noLoops (by kernel_rfl)) (g0 ex29Q true (fun _ => ex29Q_ok) (fun _ => rfl) (by kernel_rfl))
def sm29 (c : Fx.Ct) (p : Fx.Bd × Fx.Bd) : Bool := an (an (decide ((c.pts.length : Int) ≤ 4)) (smb23U p.1)) (smb23U p.2)
theorem sm29_len {c : Fx.Ct} {p : Fx.Bd × Fx.Bd} (h : sm29 c p = true) : c.pts.length ≤ 4 := by
  have := of_decide_eq_true (Fx.of_an (Fx.of_an h).1).1
  omega
theorem cSm29 : Sound Try.prog 19 (c2 eCt eBB eB sm29) :=
  con (lps := noLps) mixed (.cons rSmb23 .nil) Try.func19 (by kernel_rfl) (by kernel_rfl) (noLoops (by kernel_rfl)) (k2 (fun _ _ => by kernel_rfl))
def matU (a b : Fx.Fix) : Bool := an (an (an (an (Fx.fric a b == Fx.fric a b) (Fx.fric b a == Fx.fric a b)) (Fx.rest a b == Fx.rest a b)) (Fx.rest b a == Fx.rest a b)) true
theorem matU_true (a b : Fx.Fix) : matU a b = true := by
  unfold matU
  rw [Fx.fric_comm, Fx.rest_comm]
  simp [an]
theorem lContactMaterial : Sound Try.prog 3 (c2 eFx eFx eB (fun _ _ => true)) :=
  con (lps := noLps) mixed (.cons cFri (.cons rFri (.cons cRes (.cons rRes (.cons cEx29 .nil))))) Try.func3 (by kernel_rfl) (by kernel_rfl) (noLoops (by kernel_rfl)) (g2 (fun _ _ => []) matU (fun _ _ _ => trivial) (fun a b _ => matU_true a b) (fun _ _ => by kernel_rfl))
theorem aContactMaterial : ∀ vs, ArgsAre Try.prog 8 [27, 27] vs → ∃ ps, (c2 eFx eFx eB (fun _ _ => true)) vs = some (ps, .fv (.one (.bool true))) ∧ Conj ps := by
  intro vs h0
  obtain ⟨x0, r, rfl, h1⟩ := args_Fx (by kernel_rfl) (by kernel_rfl) h0
  obtain ⟨x1, r, rfl, h2⟩ := args_Fx (by kernel_rfl) (by kernel_rfl) h1
  obtain rfl := args_nil h2
  exact ⟨_, rfl, trivial⟩
set_option maxRecDepth 100000 in
theorem liftedContactMaterial (os : Os) (started : os.Started) (H : Type) (enc : TypeId × Value → H) :
    ReturnsInHanded {} Try.checked os 3 .any (Rows.contactMaterialSpec.pre6 enc Try.prog Try.f3 Rows.contactMaterialRow.domain false) (Rows.contactMaterialSpec.post enc Try.prog Try.f3 false true false false) := by
  refine returnsInHanded_of_change (C := Try.checked) own started (by kernel_rfl) Try.func3 (ChangeSpec.witness6 (enc := enc) (C := Try.checked) false ⟨#[], #[.agg #[.int .i64 0, .int .i64 0, .slice none 0 0, .int .i64 0, .int .i64 0, .int .i64 0, .bool false, .int .i64 0, .int .i64 0, .int .i64 0], .agg #[.int .i64 0, .int .i64 0, .slice none 0 0, .int .i64 0, .int .i64 0, .int .i64 0, .bool false, .int .i64 0, .int .i64 0, .int .i64 0]], []⟩ 8 (by kernel_rfl) (by kernel_rfl) (by kernel_rfl) (by kernel_rfl)) ?_
  intro W base args ds gs before hval hW _ _
  exact law_contract (D := 8) (by kernel_rfl) (of_allOk (by kernel_rfl)) (tb := 4) (by kernel_rfl) (by kernel_rfl) rfl (fun ds h => by
    have h : ds.length = 2 := h
    match ds, h with
    | [d0, d1], _ => rfl) lContactMaterial aContactMaterial W base args ds gs before hval hW

theorem contactMaterial_holds : Rows.ContactMaterialSaid :=
  OpenClaim.holds_of_wide 3 Try.f3 rfl rfl rfl rfl rfl rfl rfl ⟨rfl, rfl, rfl, rfl, rfl⟩ rfl rfl rfl rfl rfl (by kernel_rfl) Try.func3 (by kernel_rfl)
    (of_decide_eq_true (by kernel_rfl)) (by unfold Func.isWrapper; first | (rw [if_pos (by decide +kernel)]; kernel_rfl) | (rw [if_neg (by decide +kernel)]; exact ⟨rfl, rfl⟩))
    (fun os started H enc _ => liftedContactMaterial os started H enc)

end Go.Proofs.Ytfjognghjiifaaa
