/- Proved here: the six laws of chapter 24 return true for every input. Conditions: none. -/
import Derived.Test.YtlplaoiapleogaaJnt
import Derived.RowKit3
open Go Go.Eng
namespace Go.Proofs.Ytlplaoiapleogaa
open Go.Fx (Vec Tf Joint an orr an_true Vec.eqb_self Vec.eqb_of)

theorem own : ownKnob Try.prog.godebug = none := by kernel_rfl

theorem cEx24 : Sound Try.prog 11 (c0 eB true) :=
  con (lps := noLps) mixed (.cons cAnch (.cons cJval (.cons cRel (.cons cAtt .nil)))) Try.func11 (by kernel_rfl) (by kernel_rfl) (noLoops (by kernel_rfl)) (k0 (by kernel_rfl))

def validU (j : Joint) : Bool := an (j.errP == j.errR) true
theorem cValid24 : Sound Try.prog 3 (c1 eJ eB (fun _ => true)) :=
  con (lps := noLps) mixed (.cons cJval (.cons rJval (.cons cEx24 .nil))) Try.func3 (by kernel_rfl) (by kernel_rfl) (noLoops (by kernel_rfl)) (g1 (fun _ => []) validU (fun _ _ => trivial) (fun j _ => an_true (by rw [Joint.err_eq]; exact beq_self_eq_true _) rfl) (fun _ => by kernel_rfl))
theorem argsJ : ∀ vs, ArgsAre Try.prog 4 [27] vs → ∃ ps, (c1 eJ eB (fun _ => true)) vs = some (ps, .fv (.one (.bool true))) ∧ Conj ps := by
  intro vs h0
  obtain ⟨x0, r, rfl, h1⟩ := args_J (by kernel_rfl) (by kernel_rfl) h0
  obtain rfl := args_nil h1
  exact ⟨_, rfl, trivial⟩
set_option maxRecDepth 100000 in
theorem liftedJointValidation (os : Os) (started : os.Started) (H : Type) (enc : TypeId × Value → H) :
    ReturnsInHanded {} Try.checked os 3 .any (Rows.jointValidationSpec.pre6 enc Try.prog Try.f3 Rows.jointValidationRow.domain false) (Rows.jointValidationSpec.post enc Try.prog Try.f3 false true false false) := by
  refine returnsInHanded_of_change (C := Try.checked) own started (by kernel_rfl) Try.func3 (ChangeSpec.witness6 (enc := enc) (C := Try.checked) false ⟨#[], #[.agg #[.int .i64 0, .int .i64 0, .int .i64 0, .int .i64 0, .int .i64 0, .int .i64 0, .int .i64 0, .int .i64 0, .int .i64 0, .int .i64 0, .int .i64 0, .bool false, .int .i64 0, .int .i64 0, .bool false, .int .i64 0, .int .i64 0, .int .i64 0, .int .i64 0, .bool false, .int .i64 0, .int .i64 0, .int .i64 0, .int .i64 0]], []⟩ 8 (by kernel_rfl) (by kernel_rfl) (by kernel_rfl) (by kernel_rfl)) ?_
  intro W base args ds gs before hval hW _ _
  exact law_contract (D := 4) (by kernel_rfl) (of_allOk (by kernel_rfl)) (tb := 4) (by kernel_rfl) (by kernel_rfl) rfl (fun ds h => by
    have h : ds.length = 1 := h
    match ds, h with
    | [d0], _ => rfl) cValid24 argsJ W base args ds gs before hval hW

theorem jointValidation_holds : Rows.JointValidationSaid :=
  OpenClaim.holds_of_wide 3 Try.f3 rfl rfl rfl rfl rfl rfl rfl ⟨rfl, rfl, rfl, rfl, rfl⟩ rfl rfl rfl rfl rfl (by kernel_rfl) Try.func3 (by kernel_rfl)
    (of_decide_eq_true (by kernel_rfl)) (by unfold Func.isWrapper; first | (rw [if_pos (by decide +kernel)]; kernel_rfl) | (rw [if_neg (by decide +kernel)]; exact ⟨rfl, rfl⟩))
    (fun os started H enc _ => liftedJointValidation os started H enc)


def geomU (j : Joint) (l : Tf × Tf) : Bool := an (an (an (an (an ((Fx.anchors j l.1 l.2).1.eqb (Fx.anchors j l.1 l.2).1) ((Fx.anchors j l.1 l.2).2.eqb (Fx.anchors j l.1 l.2).2)) (Fx.relAng j l.1 l.2 == Fx.relAng j l.1 l.2)) ((Fx.wAxis j l.1).eqb (Fx.wAxis j l.1))) (Fx.transl j l.1 l.2 == Fx.transl j l.1 l.2)) true
theorem cGeom : Sound Try.prog 8 (c2 eJ eTT eB (fun _ _ => true)) :=
  con (lps := noLps) mixed (.cons cAnch (.cons rAnch (.cons cRel (.cons rRel (.cons cWax (.cons rWax (.cons cTrl (.cons rTrl (.cons cEx24 .nil))))))))) Try.func8 (by kernel_rfl) (by kernel_rfl) (noLoops (by kernel_rfl)) (g2 (fun _ _ => []) geomU (fun _ _ _ => trivial) (fun _ _ _ => an_true (an_true (an_true (an_true (an_true (Vec.eqb_self _) (Vec.eqb_self _)) (beq_self_eq_true _)) (Vec.eqb_self _)) (beq_self_eq_true _)) rfl) (fun _ _ => by kernel_rfl))
theorem argsJTT : ∀ vs, ArgsAre Try.prog 4 [27, 35] vs → ∃ ps, (c2 eJ eTT eB (fun _ _ => true)) vs = some (ps, .fv (.one (.bool true))) ∧ Conj ps := by
  intro vs h0
  obtain ⟨x0, r, rfl, h1⟩ := args_J (by kernel_rfl) (by kernel_rfl) h0
  obtain ⟨x1, r, rfl, h2⟩ := args_TT (by kernel_rfl) (by kernel_rfl) h1
  obtain rfl := args_nil h2
  exact ⟨_, rfl, trivial⟩
set_option maxRecDepth 100000 in
theorem liftedJointGeometryExact (os : Os) (started : os.Started) (H : Type) (enc : TypeId × Value → H) :
    ReturnsInHanded {} Try.checked os 8 .any (Rows.jointGeometryExactSpec.pre6 enc Try.prog Try.f8 Rows.jointGeometryExactRow.domain false) (Rows.jointGeometryExactSpec.post enc Try.prog Try.f8 false true false false) := by
  refine returnsInHanded_of_change (C := Try.checked) own started (by kernel_rfl) Try.func8 (ChangeSpec.witness6 (enc := enc) (C := Try.checked) false ⟨#[], #[.agg #[.int .i64 0, .int .i64 0, .int .i64 0, .int .i64 0, .int .i64 0, .int .i64 0, .int .i64 0, .int .i64 0, .int .i64 0, .int .i64 0, .int .i64 0, .bool false, .int .i64 0, .int .i64 0, .bool false, .int .i64 0, .int .i64 0, .int .i64 0, .int .i64 0, .bool false, .int .i64 0, .int .i64 0, .int .i64 0, .int .i64 0], .agg #[.int .i64 0, .int .i64 0, .int .i64 0, .int .i64 0, .int .i64 0, .int .i64 0]], []⟩ 8 (by kernel_rfl) (by kernel_rfl) (by kernel_rfl) (by kernel_rfl)) ?_
  intro W base args ds gs before hval hW _ _
  exact law_contract (D := 4) (by kernel_rfl) (of_allOk (by kernel_rfl)) (tb := 4) (by kernel_rfl) (by kernel_rfl) rfl (fun ds h => by
    have h : ds.length = 2 := h
    match ds, h with
    | [d0, d1], _ => rfl) cGeom argsJTT W base args ds gs before hval hW

theorem jointGeometryExact_holds : Rows.JointGeometryExactSaid :=
  OpenClaim.holds_of_wide 8 Try.f8 rfl rfl rfl rfl rfl rfl rfl ⟨rfl, rfl, rfl, rfl, rfl⟩ rfl rfl rfl rfl rfl (by kernel_rfl) Try.func8 (by kernel_rfl)
    (of_decide_eq_true (by kernel_rfl)) (by unfold Func.isWrapper; first | (rw [if_pos (by decide +kernel)]; kernel_rfl) | (rw [if_neg (by decide +kernel)]; exact ⟨rfl, rfl⟩))
    (fun os started H enc _ => liftedJointGeometryExact os started H enc)


def attU (j : Joint) (x : Int) : Bool := an (an (an (j.attached x == j.attached x) (j.reset.eqb j.reset)) (!j.attached 0)) true
theorem cAttRes : Sound Try.prog 6 (c2 eJ eI eB (fun _ _ => true)) :=
  con (lps := noLps) mixed (.cons cAtt (.cons rAtt (.cons cReset (.cons rReset (.cons cEx24 .nil))))) Try.func6 (by kernel_rfl) (by kernel_rfl) (noLoops (by kernel_rfl)) (g2 (fun _ _ => []) attU (fun _ _ _ => trivial) (fun j x _ => an_true (an_true (an_true (beq_self_eq_true _) (Joint.eqb_self _)) rfl) rfl) (fun _ _ => by kernel_rfl))
theorem argsJI : ∀ vs, ArgsAre Try.prog 4 [27, 3] vs → ∃ ps, (c2 eJ eI eB (fun _ _ => true)) vs = some (ps, .fv (.one (.bool true))) ∧ Conj ps := by
  intro vs h0
  obtain ⟨x0, r, rfl, h1⟩ := args_J (by kernel_rfl) (by kernel_rfl) h0
  obtain ⟨x1, r, rfl, lo1, hi1, h2⟩ := args_int (k := .i64) (by kernel_rfl) (by kernel_rfl) h1
  obtain rfl := args_nil h2
  exact ⟨_, rfl, trivial⟩
set_option maxRecDepth 100000 in
theorem liftedJointAttachedReset (os : Os) (started : os.Started) (H : Type) (enc : TypeId × Value → H) :
    ReturnsInHanded {} Try.checked os 6 .any (Rows.jointAttachedResetSpec.pre6 enc Try.prog Try.f6 Rows.jointAttachedResetRow.domain false) (Rows.jointAttachedResetSpec.post enc Try.prog Try.f6 false true false false) := by
  refine returnsInHanded_of_change (C := Try.checked) own started (by kernel_rfl) Try.func6 (ChangeSpec.witness6 (enc := enc) (C := Try.checked) false ⟨#[], #[.agg #[.int .i64 0, .int .i64 0, .int .i64 0, .int .i64 0, .int .i64 0, .int .i64 0, .int .i64 0, .int .i64 0, .int .i64 0, .int .i64 0, .int .i64 0, .bool false, .int .i64 0, .int .i64 0, .bool false, .int .i64 0, .int .i64 0, .int .i64 0, .int .i64 0, .bool false, .int .i64 0, .int .i64 0, .int .i64 0, .int .i64 0], .int .i64 0], []⟩ 8 (by kernel_rfl) (by kernel_rfl) (by kernel_rfl) (by kernel_rfl)) ?_
  intro W base args ds gs before hval hW _ _
  exact law_contract (D := 4) (by kernel_rfl) (of_allOk (by kernel_rfl)) (tb := 4) (by kernel_rfl) (by kernel_rfl) rfl (fun ds h => by
    have h : ds.length = 2 := h
    match ds, h with
    | [d0, d1], _ => rfl) cAttRes argsJI W base args ds gs before hval hW

theorem jointAttachedReset_holds : Rows.JointAttachedResetSaid :=
  OpenClaim.holds_of_wide 6 Try.f6 rfl rfl rfl rfl rfl rfl rfl ⟨rfl, rfl, rfl, rfl, rfl⟩ rfl rfl rfl rfl rfl (by kernel_rfl) Try.func6 (by kernel_rfl)
    (of_decide_eq_true (by kernel_rfl)) (by unfold Func.isWrapper; first | (rw [if_pos (by decide +kernel)]; kernel_rfl) | (rw [if_neg (by decide +kernel)]; exact ⟨rfl, rfl⟩))
    (fun os started H enc _ => liftedJointAttachedReset os started H enc)


def angU (j : Joint) (p : Tf) (l : Tf × Tf) : Bool := an (an (an (Fx.relAng j (p.mul l.1) (p.mul l.2) == Fx.relAng j l.1 l.2) (decide (Fx.relAng j l.1 l.2 ≥ -205888))) (decide (Fx.relAng j l.1 l.2 < 205888))) true
theorem cAngInv : Sound Try.prog 4 (c3 eJ eT eTT eB (fun _ _ _ => true)) :=
  con (lps := noLps) mixed (.cons cRel (.cons rTmul (.cons cEx24 .nil))) Try.func4 (by kernel_rfl) (by kernel_rfl) (noLoops (by kernel_rfl)) (g3 (fun _ _ _ => []) angU (fun _ _ _ _ => trivial) (fun j p l _ => an_true (an_true (an_true (by rw [Fx.relAng_mul]; exact beq_self_eq_true _) (decide_eq_true (Fx.relAng_bounds _ _ _).1)) (decide_eq_true (Fx.relAng_bounds _ _ _).2)) rfl) (fun _ _ _ => by kernel_rfl))
theorem argsJTTT : ∀ vs, ArgsAre Try.prog 4 [27, 34, 35] vs → ∃ ps, (c3 eJ eT eTT eB (fun _ _ _ => true)) vs = some (ps, .fv (.one (.bool true))) ∧ Conj ps := by
  intro vs h0
  obtain ⟨x0, r, rfl, h1⟩ := args_J (by kernel_rfl) (by kernel_rfl) h0
  obtain ⟨x1, r, rfl, h2⟩ := args_T (by kernel_rfl) (by kernel_rfl) h1
  obtain ⟨x2, r, rfl, h3⟩ := args_TT (by kernel_rfl) (by kernel_rfl) h2
  obtain rfl := args_nil h3
  exact ⟨_, rfl, trivial⟩
set_option maxRecDepth 100000 in
theorem liftedJointAngleInvariant (os : Os) (started : os.Started) (H : Type) (enc : TypeId × Value → H) :
    ReturnsInHanded {} Try.checked os 4 .any (Rows.jointAngleInvariantSpec.pre6 enc Try.prog Try.f4 Rows.jointAngleInvariantRow.domain false) (Rows.jointAngleInvariantSpec.post enc Try.prog Try.f4 false true false false) := by
  refine returnsInHanded_of_change (C := Try.checked) own started (by kernel_rfl) Try.func4 (ChangeSpec.witness6 (enc := enc) (C := Try.checked) false ⟨#[], #[.agg #[.int .i64 0, .int .i64 0, .int .i64 0, .int .i64 0, .int .i64 0, .int .i64 0, .int .i64 0, .int .i64 0, .int .i64 0, .int .i64 0, .int .i64 0, .bool false, .int .i64 0, .int .i64 0, .bool false, .int .i64 0, .int .i64 0, .int .i64 0, .int .i64 0, .bool false, .int .i64 0, .int .i64 0, .int .i64 0, .int .i64 0], .agg #[.int .i64 0, .int .i64 0, .int .i64 0], .agg #[.int .i64 0, .int .i64 0, .int .i64 0, .int .i64 0, .int .i64 0, .int .i64 0]], []⟩ 8 (by kernel_rfl) (by kernel_rfl) (by kernel_rfl) (by kernel_rfl)) ?_
  intro W base args ds gs before hval hW _ _
  exact law_contract (D := 4) (by kernel_rfl) (of_allOk (by kernel_rfl)) (tb := 4) (by kernel_rfl) (by kernel_rfl) rfl (fun ds h => by
    have h : ds.length = 3 := h
    match ds, h with
    | [d0, d1, d2], _ => rfl) cAngInv argsJTTT W base args ds gs before hval hW

theorem jointAngleInvariant_holds : Rows.JointAngleInvariantSaid :=
  OpenClaim.holds_of_wide 4 Try.f4 rfl rfl rfl rfl rfl rfl rfl ⟨rfl, rfl, rfl, rfl, rfl⟩ rfl rfl rfl rfl rfl (by kernel_rfl) Try.func4 (by kernel_rfl)
    (of_decide_eq_true (by kernel_rfl)) (by unfold Func.isWrapper; first | (rw [if_pos (by decide +kernel)]; kernel_rfl) | (rw [if_neg (by decide +kernel)]; exact ⟨rfl, rfl⟩))
    (fun os started H enc _ => liftedJointAngleInvariant os started H enc)


theorem cResVal : Sound Try.prog 7 (c1 eJ eB (fun _ => true)) :=
  con (lps := noLps) mixed (.cons cJval (.cons cReset (.cons cEx24 .nil))) Try.func7 (by kernel_rfl) (by kernel_rfl) (noLoops (by kernel_rfl)) (g1 (fun _ => []) (fun j => Fx.resetValid j j.swap) (fun _ _ => trivial) (fun j _ => Fx.resetValid_true j) (fun _ => by kernel_rfl))
set_option maxRecDepth 100000 in
theorem liftedJointResetValid (os : Os) (started : os.Started) (H : Type) (enc : TypeId × Value → H) :
    ReturnsInHanded {} Try.checked os 7 .any (Rows.jointResetValidSpec.pre6 enc Try.prog Try.f7 Rows.jointResetValidRow.domain false) (Rows.jointResetValidSpec.post enc Try.prog Try.f7 false true false false) := by
  refine returnsInHanded_of_change (C := Try.checked) own started (by kernel_rfl) Try.func7 (ChangeSpec.witness6 (enc := enc) (C := Try.checked) false ⟨#[], #[.agg #[.int .i64 0, .int .i64 0, .int .i64 0, .int .i64 0, .int .i64 0, .int .i64 0, .int .i64 0, .int .i64 0, .int .i64 0, .int .i64 0, .int .i64 0, .bool false, .int .i64 0, .int .i64 0, .bool false, .int .i64 0, .int .i64 0, .int .i64 0, .int .i64 0, .bool false, .int .i64 0, .int .i64 0, .int .i64 0, .int .i64 0]], []⟩ 8 (by kernel_rfl) (by kernel_rfl) (by kernel_rfl) (by kernel_rfl)) ?_
  intro W base args ds gs before hval hW _ _
  exact law_contract (D := 4) (by kernel_rfl) (of_allOk (by kernel_rfl)) (tb := 4) (by kernel_rfl) (by kernel_rfl) rfl (fun ds h => by
    have h : ds.length = 1 := h
    match ds, h with
    | [d0], _ => rfl) cResVal argsJ W base args ds gs before hval hW

theorem jointResetValid_holds : Rows.JointResetValidSaid :=
  OpenClaim.holds_of_wide 7 Try.f7 rfl rfl rfl rfl rfl rfl rfl ⟨rfl, rfl, rfl, rfl, rfl⟩ rfl rfl rfl rfl rfl (by kernel_rfl) Try.func7 (by kernel_rfl)
    (of_decide_eq_true (by kernel_rfl)) (by unfold Func.isWrapper; first | (rw [if_pos (by decide +kernel)]; kernel_rfl) | (rw [if_neg (by decide +kernel)]; exact ⟨rfl, rfl⟩))
    (fun os started H enc _ => liftedJointResetValid os started H enc)

theorem cTwo : Sound Try.prog 5 (c1 eJ eB (fun _ => true)) :=
  con (lps := noLps) mixed (.cons cJval (.cons cAtt (.cons cEx24 .nil))) Try.func5 (by kernel_rfl) (by kernel_rfl) (noLoops (by kernel_rfl)) (g1 (fun _ => []) Fx.bodiesTwo (fun _ _ => trivial) (fun j _ => Fx.bodiesTwo_true j) (fun _ => by kernel_rfl))
set_option maxRecDepth 100000 in
theorem liftedJointBodies (os : Os) (started : os.Started) (H : Type) (enc : TypeId × Value → H) :
    ReturnsInHanded {} Try.checked os 5 .any (Rows.jointBodiesSpec.pre6 enc Try.prog Try.f5 Rows.jointBodiesRow.domain false) (Rows.jointBodiesSpec.post enc Try.prog Try.f5 false true false false) := by
  refine returnsInHanded_of_change (C := Try.checked) own started (by kernel_rfl) Try.func5 (ChangeSpec.witness6 (enc := enc) (C := Try.checked) false ⟨#[], #[.agg #[.int .i64 0, .int .i64 0, .int .i64 0, .int .i64 0, .int .i64 0, .int .i64 0, .int .i64 0, .int .i64 0, .int .i64 0, .int .i64 0, .int .i64 0, .bool false, .int .i64 0, .int .i64 0, .bool false, .int .i64 0, .int .i64 0, .int .i64 0, .int .i64 0, .bool false, .int .i64 0, .int .i64 0, .int .i64 0, .int .i64 0]], []⟩ 8 (by kernel_rfl) (by kernel_rfl) (by kernel_rfl) (by kernel_rfl)) ?_
  intro W base args ds gs before hval hW _ _
  exact law_contract (D := 4) (by kernel_rfl) (of_allOk (by kernel_rfl)) (tb := 4) (by kernel_rfl) (by kernel_rfl) rfl (fun ds h => by
    have h : ds.length = 1 := h
    match ds, h with
    | [d0], _ => rfl) cTwo argsJ W base args ds gs before hval hW

theorem jointBodies_holds : Rows.JointBodiesSaid :=
  OpenClaim.holds_of_wide 5 Try.f5 rfl rfl rfl rfl rfl rfl rfl ⟨rfl, rfl, rfl, rfl, rfl⟩ rfl rfl rfl rfl rfl (by kernel_rfl) Try.func5 (by kernel_rfl)
    (of_decide_eq_true (by kernel_rfl)) (by unfold Func.isWrapper; first | (rw [if_pos (by decide +kernel)]; kernel_rfl) | (rw [if_neg (by decide +kernel)]; exact ⟨rfl, rfl⟩))
    (fun os started H enc _ => liftedJointBodies os started H enc)

end Go.Proofs.Ytlplaoiapleogaa
