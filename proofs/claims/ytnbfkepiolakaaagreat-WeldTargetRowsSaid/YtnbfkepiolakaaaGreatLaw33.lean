/- Proved here: laws of chapter 33 return true for every input. Conditions: none. -/
import Derived.Test.YtnbfkepiolakaaaGreatSm3
import Derived.Test.YtnbfkepiolakaaaGreatEngTra
import Derived.RowKit3
open Go Go.Eng
namespace Go.Proofs.YtnbfkepiolakaaaGreat
open Go.Fx (an orr an_true)

theorem own : ownKnob Tryz.prog.godebug = none := by kernel_rfl
theorem an_self {x y : Bool} (c : Bool) (h : x = true) (h' : y = true) : (bif c then true else an x y) = true := by rw [an_true h h']; cases c <;> rfl
theorem cAer : Sound Tryz.prog 13 (c3 eJ eBd eBd eI Fx.jlen) :=
  con (lps := noLps) mixed (.cons cAnch (.cons cVsub (.cons cVlen .nil))) Tryz.func13 (by kernel_rfl) (by kernel_rfl) (noLoops (by kernel_rfl)) (k3 (fun _ _ _ => by kernel_rfl))
def ex33Q : List Prop := [true = true → (0 : Int) ≤ (0 : Int) ∧ (0 : Int) < (2 : Int), true = true → 0 < 2, true = true → (0 : Int) ≤ (0 : Int) ∧ (0 : Int) < (2 : Int), true = true → 0 < 2, true = true → (0 : Int) ≤ (1 : Int) ∧ (1 : Int) < (2 : Int), true = true → 1 < 2, true = true → (0 : Int) ≤ (1 : Int) ∧ (1 : Int) < (2 : Int), true = true → 1 < 2, true = true → (0 : Int) ≤ (0 : Int) ∧ (0 : Int) < (2 : Int), true = true → 0 < 2, true = true → (0 : Int) ≤ (0 : Int) ∧ (0 : Int) < (2 : Int), true = true → 0 < 2, true = true → (0 : Int) ≤ (1 : Int) ∧ (1 : Int) < (2 : Int), true = true → 1 < 2]
theorem ex33Q_ok : Conj ex33Q := by simp [ex33Q, Conj]
theorem cEx33 : Sound Tryz.prog 6 (c0 eB true) :=
  con (lps := noLps) mixed (.cons cTgt (.cons cAer .nil)) Tryz.func6 (by kernel_rfl) (by kernel_rfl) (noLoops (by kernel_rfl)) (g0 ex33Q true (fun _ => ex33Q_ok) (fun _ => rfl) (by kernel_rfl))
theorem lWeldRows : Sound Tryz.prog 4 (c1 eAr eB (fun _ => true)) :=
  con (lps := noLps) mixed (.cons cSm33 (.cons cWld (.cons rWld (.cons rReq30 (.cons cEx33 .nil))))) Tryz.func4 (by kernel_rfl) (by kernel_rfl) (noLoops (by kernel_rfl)) (g1 (fun _ => []) (fun x => bif !sm3 x then true else an (Fx.rowsEq (Fx.wrows x.j x.a x.b x.ia x.ib x.s x.dt) (Fx.wrows x.j x.a x.b x.ia x.ib x.s x.dt)) true) (fun _ _ => trivial) (fun _ _ => an_self _ (Fx.rowsEq_self _) rfl) (fun _ => by kernel_rfl))
theorem aWeldRows : ∀ vs, ArgsAre Tryz.prog 8 [36] vs → ∃ ps, (c1 eAr eB (fun _ => true)) vs = some (ps, .fv (.one (.bool true))) ∧ Conj ps := by
  intro vs h0
  obtain ⟨x0, r, rfl, h1⟩ := args_Ar (by kernel_rfl) (by kernel_rfl) h0
  obtain rfl := args_nil h1
  exact ⟨_, rfl, trivial⟩
set_option maxRecDepth 100000 in
theorem liftedWeldRows (os : Os) (started : os.Started) (H : Type) (enc : TypeId × Value → H) :
    ReturnsInHanded {} Tryz.checked os 4 .any (Rows.weldRowsSpec.pre6 enc Tryz.prog Tryz.f4 Rows.weldRowsRow.domain false) (Rows.weldRowsSpec.post enc Tryz.prog Tryz.f4 false true false false) := by
  refine returnsInHanded_of_change (C := Tryz.checked) own started (by kernel_rfl) Tryz.func4 (ChangeSpec.witness6 (enc := enc) (C := Tryz.checked) false ⟨#[], #[.agg #[.int .i64 0, .int .i64 0, .int .i64 0, .int .i64 0, .int .i64 0, .int .i64 0, .int .i64 0, .int .i64 0, .int .i64 0, .int .i64 0, .int .i64 0, .bool false, .int .i64 0, .int .i64 0, .bool false, .int .i64 0, .int .i64 0, .int .i64 0, .int .i64 0, .bool false, .int .i64 0, .int .i64 0, .int .i64 0, .int .i64 0, .int .i64 0, .int .i64 0, .int .i64 0, .int .i64 0, .int .i64 0, .int .i64 0, .int .i64 0, .int .i64 0, .int .i64 0, .int .i64 0, .int .i64 0, .int .i64 0, .int .i64 0, .int .i64 0, .bool false, .bool false, .bool false, .bool false, .int .i64 0, .slice none 0 0, .int .i64 0, .int .i64 0, .int .i64 0, .int .i64 0, .int .i64 0, .int .i64 0, .int .i64 0, .int .i64 0, .int .i64 0, .int .i64 0, .int .i64 0, .int .i64 0, .int .i64 0, .int .i64 0, .bool false, .bool false, .bool false, .bool false, .int .i64 0, .slice none 0 0, .int .i64 0, .int .i64 0, .slice none 0 0, .int .i64 0]], []⟩ 8 (by kernel_rfl) (by kernel_rfl) (by kernel_rfl) (by kernel_rfl)) ?_
  intro W base args ds gs before hval hW _ _
  exact law_contract (D := 8) (by kernel_rfl) (of_allOk (by kernel_rfl)) (tb := 4) (by kernel_rfl) (by kernel_rfl) rfl (fun ds h => by
    have h : ds.length = 1 := h
    match ds, h with
    | [d0], _ => rfl) lWeldRows aWeldRows W base args ds gs before hval hW

theorem weldRows_holds : Rows.WeldRowsSaid :=
  OpenClaim.holds_of_wide 4 Tryz.f4 rfl rfl rfl rfl rfl rfl rfl ⟨rfl, rfl, rfl, rfl, rfl⟩ rfl rfl rfl rfl rfl (by kernel_rfl) Tryz.func4 (by kernel_rfl)
    (of_decide_eq_true (by kernel_rfl)) (by unfold Func.isWrapper; first | (rw [if_pos (by decide +kernel)]; kernel_rfl) | (rw [if_neg (by decide +kernel)]; exact ⟨rfl, rfl⟩))
    (fun os started H enc _ => liftedWeldRows os started H enc)

theorem lWeldTargetRows : Sound Tryz.prog 3 (c1 eAr eB (fun _ => true)) :=
  con (lps := noLps) mixed (.cons cSm33 (.cons cTgt (.cons rTgt (.cons rReq30 (.cons cEx33 .nil))))) Tryz.func3 (by kernel_rfl) (by kernel_rfl) (noLoops (by kernel_rfl)) (g1 (fun _ => []) (fun x => bif !sm3 x then true else an (Fx.rowsEq (Fx.trows x.j x.b x.ib x.s x.dt) (Fx.trows x.j x.b x.ib x.s x.dt)) true) (fun _ _ => trivial) (fun _ _ => an_self _ (Fx.rowsEq_self _) rfl) (fun _ => by kernel_rfl))
theorem aWeldTargetRows : ∀ vs, ArgsAre Tryz.prog 8 [36] vs → ∃ ps, (c1 eAr eB (fun _ => true)) vs = some (ps, .fv (.one (.bool true))) ∧ Conj ps := by
  intro vs h0
  obtain ⟨x0, r, rfl, h1⟩ := args_Ar (by kernel_rfl) (by kernel_rfl) h0
  obtain rfl := args_nil h1
  exact ⟨_, rfl, trivial⟩
set_option maxRecDepth 100000 in
theorem liftedWeldTargetRows (os : Os) (started : os.Started) (H : Type) (enc : TypeId × Value → H) :
    ReturnsInHanded {} Tryz.checked os 3 .any (Rows.weldTargetRowsSpec.pre6 enc Tryz.prog Tryz.f3 Rows.weldTargetRowsRow.domain false) (Rows.weldTargetRowsSpec.post enc Tryz.prog Tryz.f3 false true false false) := by
  refine returnsInHanded_of_change (C := Tryz.checked) own started (by kernel_rfl) Tryz.func3 (ChangeSpec.witness6 (enc := enc) (C := Tryz.checked) false ⟨#[], #[.agg #[.int .i64 0, .int .i64 0, .int .i64 0, .int .i64 0, .int .i64 0, .int .i64 0, .int .i64 0, .int .i64 0, .int .i64 0, .int .i64 0, .int .i64 0, .bool false, .int .i64 0, .int .i64 0, .bool false, .int .i64 0, .int .i64 0, .int .i64 0, .int .i64 0, .bool false, .int .i64 0, .int .i64 0, .int .i64 0, .int .i64 0, .int .i64 0, .int .i64 0, .int .i64 0, .int .i64 0, .int .i64 0, .int .i64 0, .int .i64 0, .int .i64 0, .int .i64 0, .int .i64 0, .int .i64 0, .int .i64 0, .int .i64 0, .int .i64 0, .bool false, .bool false, .bool false, .bool false, .int .i64 0, .slice none 0 0, .int .i64 0, .int .i64 0, .int .i64 0, .int .i64 0, .int .i64 0, .int .i64 0, .int .i64 0, .int .i64 0, .int .i64 0, .int .i64 0, .int .i64 0, .int .i64 0, .int .i64 0, .int .i64 0, .bool false, .bool false, .bool false, .bool false, .int .i64 0, .slice none 0 0, .int .i64 0, .int .i64 0, .slice none 0 0, .int .i64 0]], []⟩ 8 (by kernel_rfl) (by kernel_rfl) (by kernel_rfl) (by kernel_rfl)) ?_
  intro W base args ds gs before hval hW _ _
  exact law_contract (D := 8) (by kernel_rfl) (of_allOk (by kernel_rfl)) (tb := 4) (by kernel_rfl) (by kernel_rfl) rfl (fun ds h => by
    have h : ds.length = 1 := h
    match ds, h with
    | [d0], _ => rfl) lWeldTargetRows aWeldTargetRows W base args ds gs before hval hW

theorem weldTargetRows_holds : Rows.WeldTargetRowsSaid :=
  OpenClaim.holds_of_wide 3 Tryz.f3 rfl rfl rfl rfl rfl rfl rfl ⟨rfl, rfl, rfl, rfl, rfl⟩ rfl rfl rfl rfl rfl (by kernel_rfl) Tryz.func3 (by kernel_rfl)
    (of_decide_eq_true (by kernel_rfl)) (by unfold Func.isWrapper; first | (rw [if_pos (by decide +kernel)]; kernel_rfl) | (rw [if_neg (by decide +kernel)]; exact ⟨rfl, rfl⟩))
    (fun os started H enc _ => liftedWeldTargetRows os started H enc)

end Go.Proofs.YtnbfkepiolakaaaGreat
