/- Proved here: laws of chapter 30 return true for every input. Conditions: none. -/
import Derived.Test.YtpolkkblmcmlnaaGreatSm3
import Derived.Test.YtpolkkblmcmlnaaGreatEngTra
import Derived.RowKit3
open Go Go.Eng
namespace Go.Proofs.YtpolkkblmcmlnaaGreat
open Go.Fx (an orr an_true)

theorem own : ownKnob Tryz.prog.godebug = none := by kernel_rfl
theorem an_self {x y : Bool} (c : Bool) (h : x = true) (h' : y = true) : (bif c then true else an x y) = true := by rw [an_true h h']; cases c <;> rfl
def ex30Q : List Prop := [true = true → (0 : Int) ≤ (0 : Int) ∧ (0 : Int) < (1 : Int), true = true → 0 < 1, true = true → (0 : Int) ≤ (0 : Int) ∧ (0 : Int) < (1 : Int), true = true → 0 < 1]
theorem ex30Q_ok : Conj ex30Q := by simp [ex30Q, Conj]
theorem cEx30 : Sound Tryz.prog 6 (c0 eB true) :=
  con (lps := noLps) mixed (.cons cDrw (.cons cLen (.cons cLer .nil))) Tryz.func6 (by kernel_rfl) (by kernel_rfl) (noLoops (by kernel_rfl)) (g0 ex30Q true (fun _ => ex30Q_ok) (fun _ => rfl) (by kernel_rfl))
theorem lDistanceJointRows : Sound Tryz.prog 3 (c1 eAr eB (fun _ => true)) :=
  con (lps := noLps) mixed (.cons cSm30 (.cons cDrw (.cons rDrw (.cons rReq30 (.cons cEx30 .nil))))) Tryz.func3 (by kernel_rfl) (by kernel_rfl) (noLoops (by kernel_rfl)) (g1 (fun _ => []) (fun x => bif !sm3 x then true else an (Fx.rowsEq (Fx.drows x.j x.a x.b x.ia x.ib x.s x.dt) (Fx.drows x.j x.a x.b x.ia x.ib x.s x.dt)) true) (fun _ _ => trivial) (fun _ _ => an_self _ (Fx.rowsEq_self _) rfl) (fun _ => by kernel_rfl))
theorem aDistanceJointRows : ∀ vs, ArgsAre Tryz.prog 8 [36] vs → ∃ ps, (c1 eAr eB (fun _ => true)) vs = some (ps, .fv (.one (.bool true))) ∧ Conj ps := by
  intro vs h0
  obtain ⟨x0, r, rfl, h1⟩ := args_Ar (by kernel_rfl) (by kernel_rfl) h0
  obtain rfl := args_nil h1
  exact ⟨_, rfl, trivial⟩
set_option maxRecDepth 100000 in
theorem liftedDistanceJointRows (os : Os) (started : os.Started) (H : Type) (enc : TypeId × Value → H) :
    ReturnsInHanded {} Tryz.checked os 3 .any (Rows.distanceJointRowsSpec.pre6 enc Tryz.prog Tryz.f3 Rows.distanceJointRowsRow.domain false) (Rows.distanceJointRowsSpec.post enc Tryz.prog Tryz.f3 false true false false) := by
  refine returnsInHanded_of_change (C := Tryz.checked) own started (by kernel_rfl) Tryz.func3 (ChangeSpec.witness6 (enc := enc) (C := Tryz.checked) false ⟨#[], #[.agg #[.int .i64 0, .int .i64 0, .int .i64 0, .int .i64 0, .int .i64 0, .int .i64 0, .int .i64 0, .int .i64 0, .int .i64 0, .int .i64 0, .int .i64 0, .bool false, .int .i64 0, .int .i64 0, .bool false, .int .i64 0, .int .i64 0, .int .i64 0, .int .i64 0, .bool false, .int .i64 0, .int .i64 0, .int .i64 0, .int .i64 0, .int .i64 0, .int .i64 0, .int .i64 0, .int .i64 0, .int .i64 0, .int .i64 0, .int .i64 0, .int .i64 0, .int .i64 0, .int .i64 0, .int .i64 0, .int .i64 0, .int .i64 0, .int .i64 0, .bool false, .bool false, .bool false, .bool false, .int .i64 0, .slice none 0 0, .int .i64 0, .int .i64 0, .int .i64 0, .int .i64 0, .int .i64 0, .int .i64 0, .int .i64 0, .int .i64 0, .int .i64 0, .int .i64 0, .int .i64 0, .int .i64 0, .int .i64 0, .int .i64 0, .bool false, .bool false, .bool false, .bool false, .int .i64 0, .slice none 0 0, .int .i64 0, .int .i64 0, .slice none 0 0, .int .i64 0]], []⟩ 8 (by kernel_rfl) (by kernel_rfl) (by kernel_rfl) (by kernel_rfl)) ?_
  intro W base args ds gs before hval hW _ _
  exact law_contract (D := 8) (by kernel_rfl) (of_allOk (by kernel_rfl)) (tb := 4) (by kernel_rfl) (by kernel_rfl) rfl (fun ds h => by
    have h : ds.length = 1 := h
    match ds, h with
    | [d0], _ => rfl) lDistanceJointRows aDistanceJointRows W base args ds gs before hval hW

theorem distanceJointRows_holds : Rows.DistanceJointRowsSaid :=
  OpenClaim.holds_of_wide 3 Tryz.f3 rfl rfl rfl rfl rfl rfl rfl ⟨rfl, rfl, rfl, rfl, rfl⟩ rfl rfl rfl rfl rfl (by kernel_rfl) Tryz.func3 (by kernel_rfl)
    (of_decide_eq_true (by kernel_rfl)) (by unfold Func.isWrapper; first | (rw [if_pos (by decide +kernel)]; kernel_rfl) | (rw [if_neg (by decide +kernel)]; exact ⟨rfl, rfl⟩))
    (fun os started H enc _ => liftedDistanceJointRows os started H enc)

theorem lDistanceJointPointRow : Sound Tryz.prog 4 (c2 eAr eV eB (fun _ _ => true)) :=
  con (lps := noLps) mixed (.cons cSm30 (.cons cPrw (.cons rPrw (.cons cEx30 .nil)))) Tryz.func4 (by kernel_rfl) (by kernel_rfl) (noLoops (by kernel_rfl)) (g2 (fun _ _ => []) (fun x n => bif !sm3 x then true else an ((Fx.prow x.j x.a x.b x.ia x.ib n x.s).eqb (Fx.prow x.j x.a x.b x.ia x.ib n x.s)) true) (fun _ _ _ => trivial) (fun _ _ _ => an_self _ (Fx.Row.eqb_self _) rfl) (fun _ _ => by kernel_rfl))
theorem aDistanceJointPointRow : ∀ vs, ArgsAre Tryz.prog 8 [36, 24] vs → ∃ ps, (c2 eAr eV eB (fun _ _ => true)) vs = some (ps, .fv (.one (.bool true))) ∧ Conj ps := by
  intro vs h0
  obtain ⟨x0, r, rfl, h1⟩ := args_Ar (by kernel_rfl) (by kernel_rfl) h0
  obtain ⟨x1, r, rfl, h2⟩ := args_V (by kernel_rfl) (by kernel_rfl) h1
  obtain rfl := args_nil h2
  exact ⟨_, rfl, trivial⟩
set_option maxRecDepth 100000 in
theorem liftedDistanceJointPointRow (os : Os) (started : os.Started) (H : Type) (enc : TypeId × Value → H) :
    ReturnsInHanded {} Tryz.checked os 4 .any (Rows.distanceJointPointRowSpec.pre6 enc Tryz.prog Tryz.f4 Rows.distanceJointPointRowRow.domain false) (Rows.distanceJointPointRowSpec.post enc Tryz.prog Tryz.f4 false true false false) := by
  refine returnsInHanded_of_change (C := Tryz.checked) own started (by kernel_rfl) Tryz.func4 (ChangeSpec.witness6 (enc := enc) (C := Tryz.checked) false ⟨#[], #[.agg #[.int .i64 0, .int .i64 0, .int .i64 0, .int .i64 0, .int .i64 0, .int .i64 0, .int .i64 0, .int .i64 0, .int .i64 0, .int .i64 0, .int .i64 0, .bool false, .int .i64 0, .int .i64 0, .bool false, .int .i64 0, .int .i64 0, .int .i64 0, .int .i64 0, .bool false, .int .i64 0, .int .i64 0, .int .i64 0, .int .i64 0, .int .i64 0, .int .i64 0, .int .i64 0, .int .i64 0, .int .i64 0, .int .i64 0, .int .i64 0, .int .i64 0, .int .i64 0, .int .i64 0, .int .i64 0, .int .i64 0, .int .i64 0, .int .i64 0, .bool false, .bool false, .bool false, .bool false, .int .i64 0, .slice none 0 0, .int .i64 0, .int .i64 0, .int .i64 0, .int .i64 0, .int .i64 0, .int .i64 0, .int .i64 0, .int .i64 0, .int .i64 0, .int .i64 0, .int .i64 0, .int .i64 0, .int .i64 0, .int .i64 0, .bool false, .bool false, .bool false, .bool false, .int .i64 0, .slice none 0 0, .int .i64 0, .int .i64 0, .slice none 0 0, .int .i64 0], .agg #[.int .i64 0, .int .i64 0]], []⟩ 8 (by kernel_rfl) (by kernel_rfl) (by kernel_rfl) (by kernel_rfl)) ?_
  intro W base args ds gs before hval hW _ _
  exact law_contract (D := 8) (by kernel_rfl) (of_allOk (by kernel_rfl)) (tb := 4) (by kernel_rfl) (by kernel_rfl) rfl (fun ds h => by
    have h : ds.length = 2 := h
    match ds, h with
    | [d0, d1], _ => rfl) lDistanceJointPointRow aDistanceJointPointRow W base args ds gs before hval hW

theorem distanceJointPointRow_holds : Rows.DistanceJointPointRowSaid :=
  OpenClaim.holds_of_wide 4 Tryz.f4 rfl rfl rfl rfl rfl rfl rfl ⟨rfl, rfl, rfl, rfl, rfl⟩ rfl rfl rfl rfl rfl (by kernel_rfl) Tryz.func4 (by kernel_rfl)
    (of_decide_eq_true (by kernel_rfl)) (by unfold Func.isWrapper; first | (rw [if_pos (by decide +kernel)]; kernel_rfl) | (rw [if_neg (by decide +kernel)]; exact ⟨rfl, rfl⟩))
    (fun os started H enc _ => liftedDistanceJointPointRow os started H enc)

end Go.Proofs.YtpolkkblmcmlnaaGreat
