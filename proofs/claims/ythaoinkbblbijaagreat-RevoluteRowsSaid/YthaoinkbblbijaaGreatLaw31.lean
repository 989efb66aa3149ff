/- Proved here: laws of chapter 31 return true for every input. Conditions: none. -/
import Derived.Test.YthaoinkbblbijaaGreatSml
import Derived.Test.YthaoinkbblbijaaGreatEngTra
import Derived.RowKit3
open Go Go.Eng
namespace Go.Proofs.YthaoinkbblbijaaGreat
open Go.Fx (an orr an_true)

theorem own : ownKnob Tryz.prog.godebug = none := by kernel_rfl
theorem an_self {x y : Bool} (c : Bool) (h : x = true) (h' : y = true) : (bif c then true else an x y) = true := by rw [an_true h h']; cases c <;> rfl
def ex31Q : List Prop := [false = false → (0 : Int) ≤ (0 : Int) ∧ (0 : Int) < (2 : Int), false = false → 0 < 2, false = false → (0 : Int) ≤ (1 : Int) ∧ (1 : Int) < (2 : Int), false = false → 1 < 2, false = false → (0 : Int) ≤ (0 : Int) ∧ (0 : Int) < (2 : Int), false = false → 0 < 2, false = false → true = true → (0 : Int) ≤ (1 : Int) ∧ (1 : Int) < (2 : Int), false = false → true = true → 1 < 2, false = false → true = true → (0 : Int) ≤ (0 : Int) ∧ (0 : Int) < (2 : Int), false = false → true = true → 0 < 2, false = false → true = true → (0 : Int) ≤ (0 : Int) ∧ (0 : Int) < (1 : Int), false = false → true = true → 0 < 1]
theorem ex31Q_ok : Conj ex31Q := by simp [ex31Q, Conj]
theorem cEx31 : Sound Tryz.prog 6 (c0 eB true) :=
  con (lps := noLps) mixed (.cons cRrw (.cons cLim31 .nil)) Tryz.func6 (by kernel_rfl) (by kernel_rfl) (noLoops (by kernel_rfl)) (g0 ex31Q true (fun _ => ex31Q_ok) (fun _ => rfl) (by kernel_rfl))
theorem lRevoluteRows : Sound Tryz.prog 3 (c1 eAr eB (fun _ => true)) :=
  con (lps := noLps) mixed (.cons rSm31 (.cons cRrw (.cons rRrw (.cons rReq (.cons cEx31 .nil))))) Tryz.func3 (by kernel_rfl) (by kernel_rfl) (noLoops (by kernel_rfl)) (g1 (fun _ => []) (fun x => bif !sm31 x.a x.b x.s then true else an (Fx.rowsEq (Fx.rrows x.j x.a x.b x.ia x.ib x.s x.dt) (Fx.rrows x.j x.a x.b x.ia x.ib x.s x.dt)) true) (fun _ _ => trivial) (fun _ _ => an_self _ (Fx.rowsEq_self _) rfl) (fun _ => by kernel_rfl))
theorem aRevoluteRows : ∀ vs, ArgsAre Tryz.prog 8 [36] vs → ∃ ps, (c1 eAr eB (fun _ => true)) vs = some (ps, .fv (.one (.bool true))) ∧ Conj ps := by
  intro vs h0
  obtain ⟨x0, r, rfl, h1⟩ := args_Ar (by kernel_rfl) (by kernel_rfl) h0
  obtain rfl := args_nil h1
  exact ⟨_, rfl, trivial⟩
set_option maxRecDepth 100000 in
theorem liftedRevoluteRows (os : Os) (started : os.Started) (H : Type) (enc : TypeId × Value → H) :
    ReturnsInHanded {} Tryz.checked os 3 .any (Rows.revoluteRowsSpec.pre6 enc Tryz.prog Tryz.f3 Rows.revoluteRowsRow.domain false) (Rows.revoluteRowsSpec.post enc Tryz.prog Tryz.f3 false true false false) := by
  refine returnsInHanded_of_change (C := Tryz.checked) own started (by kernel_rfl) Tryz.func3 (ChangeSpec.witness6 (enc := enc) (C := Tryz.checked) false ⟨#[], #[.agg #[.int .i64 0, .int .i64 0, .int .i64 0, .int .i64 0, .int .i64 0, .int .i64 0, .int .i64 0, .int .i64 0, .int .i64 0, .int .i64 0, .int .i64 0, .bool false, .int .i64 0, .int .i64 0, .bool false, .int .i64 0, .int .i64 0, .int .i64 0, .int .i64 0, .bool false, .int .i64 0, .int .i64 0, .int .i64 0, .int .i64 0, .int .i64 0, .int .i64 0, .int .i64 0, .int .i64 0, .int .i64 0, .int .i64 0, .int .i64 0, .int .i64 0, .int .i64 0, .int .i64 0, .int .i64 0, .int .i64 0, .int .i64 0, .int .i64 0, .bool false, .bool false, .bool false, .bool false, .int .i64 0, .slice none 0 0, .int .i64 0, .int .i64 0, .int .i64 0, .int .i64 0, .int .i64 0, .int .i64 0, .int .i64 0, .int .i64 0, .int .i64 0, .int .i64 0, .int .i64 0, .int .i64 0, .int .i64 0, .int .i64 0, .bool false, .bool false, .bool false, .bool false, .int .i64 0, .slice none 0 0, .int .i64 0, .int .i64 0, .slice none 0 0, .int .i64 0]], []⟩ 8 (by kernel_rfl) (by kernel_rfl) (by kernel_rfl) (by kernel_rfl)) ?_
  intro W base args ds gs before hval hW _ _
  exact law_contract (D := 8) (by kernel_rfl) (of_allOk (by kernel_rfl)) (tb := 4) (by kernel_rfl) (by kernel_rfl) rfl (fun ds h => by
    have h : ds.length = 1 := h
    match ds, h with
    | [d0], _ => rfl) lRevoluteRows aRevoluteRows W base args ds gs before hval hW

theorem revoluteRows_holds : Rows.RevoluteRowsSaid :=
  OpenClaim.holds_of_wide 3 Tryz.f3 rfl rfl rfl rfl rfl rfl rfl ⟨rfl, rfl, rfl, rfl, rfl⟩ rfl rfl rfl rfl rfl (by kernel_rfl) Tryz.func3 (by kernel_rfl)
    (of_decide_eq_true (by kernel_rfl)) (by unfold Func.isWrapper; first | (rw [if_pos (by decide +kernel)]; kernel_rfl) | (rw [if_neg (by decide +kernel)]; exact ⟨rfl, rfl⟩))
    (fun os started H enc _ => liftedRevoluteRows os started H enc)

theorem lRevolutePoints : Sound Tryz.prog 4 (c1 eAr eB (fun _ => true)) :=
  con (lps := noLps) mixed (.cons rSm31 (.cons cPts (.cons rPts (.cons rReq (.cons cEx31 .nil))))) Tryz.func4 (by kernel_rfl) (by kernel_rfl) (noLoops (by kernel_rfl)) (g1 (fun _ => []) (fun x => bif !sm31 x.a x.b x.s then true else an (Fx.rowsEq (Fx.points x.j x.a x.b x.ia x.ib x.s x.dt) (Fx.points x.j x.a x.b x.ia x.ib x.s x.dt)) true) (fun _ _ => trivial) (fun _ _ => an_self _ (Fx.rowsEq_self _) rfl) (fun _ => by kernel_rfl))
theorem aRevolutePoints : ∀ vs, ArgsAre Tryz.prog 8 [36] vs → ∃ ps, (c1 eAr eB (fun _ => true)) vs = some (ps, .fv (.one (.bool true))) ∧ Conj ps := by
  intro vs h0
  obtain ⟨x0, r, rfl, h1⟩ := args_Ar (by kernel_rfl) (by kernel_rfl) h0
  obtain rfl := args_nil h1
  exact ⟨_, rfl, trivial⟩
set_option maxRecDepth 100000 in
theorem liftedRevolutePoints (os : Os) (started : os.Started) (H : Type) (enc : TypeId × Value → H) :
    ReturnsInHanded {} Tryz.checked os 4 .any (Rows.revolutePointsSpec.pre6 enc Tryz.prog Tryz.f4 Rows.revolutePointsRow.domain false) (Rows.revolutePointsSpec.post enc Tryz.prog Tryz.f4 false true false false) := by
  refine returnsInHanded_of_change (C := Tryz.checked) own started (by kernel_rfl) Tryz.func4 (ChangeSpec.witness6 (enc := enc) (C := Tryz.checked) false ⟨#[], #[.agg #[.int .i64 0, .int .i64 0, .int .i64 0, .int .i64 0, .int .i64 0, .int .i64 0, .int .i64 0, .int .i64 0, .int .i64 0, .int .i64 0, .int .i64 0, .bool false, .int .i64 0, .int .i64 0, .bool false, .int .i64 0, .int .i64 0, .int .i64 0, .int .i64 0, .bool false, .int .i64 0, .int .i64 0, .int .i64 0, .int .i64 0, .int .i64 0, .int .i64 0, .int .i64 0, .int .i64 0, .int .i64 0, .int .i64 0, .int .i64 0, .int .i64 0, .int .i64 0, .int .i64 0, .int .i64 0, .int .i64 0, .int .i64 0, .int .i64 0, .bool false, .bool false, .bool false, .bool false, .int .i64 0, .slice none 0 0, .int .i64 0, .int .i64 0, .int .i64 0, .int .i64 0, .int .i64 0, .int .i64 0, .int .i64 0, .int .i64 0, .int .i64 0, .int .i64 0, .int .i64 0, .int .i64 0, .int .i64 0, .int .i64 0, .bool false, .bool false, .bool false, .bool false, .int .i64 0, .slice none 0 0, .int .i64 0, .int .i64 0, .slice none 0 0, .int .i64 0]], []⟩ 8 (by kernel_rfl) (by kernel_rfl) (by kernel_rfl) (by kernel_rfl)) ?_
  intro W base args ds gs before hval hW _ _
  exact law_contract (D := 8) (by kernel_rfl) (of_allOk (by kernel_rfl)) (tb := 4) (by kernel_rfl) (by kernel_rfl) rfl (fun ds h => by
    have h : ds.length = 1 := h
    match ds, h with
    | [d0], _ => rfl) lRevolutePoints aRevolutePoints W base args ds gs before hval hW

theorem revolutePoints_holds : Rows.RevolutePointsSaid :=
  OpenClaim.holds_of_wide 4 Tryz.f4 rfl rfl rfl rfl rfl rfl rfl ⟨rfl, rfl, rfl, rfl, rfl⟩ rfl rfl rfl rfl rfl (by kernel_rfl) Tryz.func4 (by kernel_rfl)
    (of_decide_eq_true (by kernel_rfl)) (by unfold Func.isWrapper; first | (rw [if_pos (by decide +kernel)]; kernel_rfl) | (rw [if_neg (by decide +kernel)]; exact ⟨rfl, rfl⟩))
    (fun os started H enc _ => liftedRevolutePoints os started H enc)

end Go.Proofs.YthaoinkbblbijaaGreat
