/- Proved here: the six laws of chapter 4 return true for every input. Conditions: none. -/
import Derived.Test.YtooijhaalinaiaaVec
import Derived.RowKit3
open Go Go.Eng
namespace Go.Proofs.Ytooijhaalinaiaa
open Go.Fx (Vec Tf an orr an_true Vec.eqb_self Vec.eqb_of Tf.eqb_self Tf.eqb_of)

theorem own : ownKnob Try.prog.godebug = none := by kernel_rfl

theorem rOutW : Sound Try.prog 34 (c1 eI eB (fun x => orr (decide (x < -268435456)) (decide (x > 268435456)))) :=
  con (lps := noLps) mixed .nil Try.func34 (by kernel_rfl) (by kernel_rfl) (noLoops (by kernel_rfl)) (k1 (fun _ => by kernel_rfl))
def validU (t : Tf) : Bool := an (an (an (!orr (decide (t.px < -268435456)) (decide (t.px > 268435456))) (!orr (decide (t.py < -268435456)) (decide (t.py > 268435456)))) (decide (t.a ≥ -205888))) (decide (t.a < 205888))
theorem out_in (x : Int) : (!orr (decide (x < -268435456)) (decide (x > 268435456))) = Fx.inWorld x := by
  unfold orr Fx.inWorld
  by_cases h1 : x < -268435456
  · have : ¬ x ≥ -268435456 := by omega
    simp [h1, this]
  · have h3 : x ≥ -268435456 := by omega
    by_cases h2 : x > 268435456
    · have : ¬ x ≤ 268435456 := by omega
      simp [h1, h2, this]
    · have : x ≤ 268435456 := by omega
      simp [h1, h2, h3, this]
theorem validU_eq (t : Tf) : validU t = t.valid := by unfold validU; rw [out_in, out_in]; rfl
theorem rValid : Sound Try.prog 14 (c1 eT eB Fx.Tf.valid) :=
  con (lps := noLps) mixed (.cons rOutW .nil) Try.func14 (by kernel_rfl) (by kernel_rfl) (noLoops (by kernel_rfl)) (g1 (fun _ => []) validU (fun _ _ => trivial) (fun t _ => validU_eq t) (fun _ => by kernel_rfl))
theorem cEx04 : Sound Try.prog 15 (c0 eB true) :=
  con (lps := noLps) mixed (.cons cApply (.cons cAppInv (.cons cValid .nil))) Try.func15 (by kernel_rfl) (by kernel_rfl) (noLoops (by kernel_rfl)) (k0 (by kernel_rfl))
theorem cLocal : Sound Try.prog 24 (c1 eV eB (fun c => an (an (an (decide (c.x ≥ -1048576)) (decide (c.x ≤ 1048576))) (decide (c.y ≥ -1048576))) (decide (c.y ≤ 1048576)))) :=
  con (lps := noLps) mixed .nil Try.func24 (by kernel_rfl) (by kernel_rfl) (noLoops (by kernel_rfl)) (k1 (fun _ => by kernel_rfl))

def appliesU (p : Tf) (v : Vec) : Bool := an (an (an ((p.apply v).eqb (p.apply v)) ((p.applyInv v).eqb (p.applyInv v))) (p.valid == p.valid)) true
theorem cApplies : Sound Try.prog 3 (c2 eT eV eB (fun _ _ => true)) :=
  con (lps := noLps) mixed (.cons cApply (.cons rApply (.cons cAppInv (.cons rAppInv (.cons cValid (.cons rValid (.cons cEx04 .nil))))))) Try.func3 (by kernel_rfl) (by kernel_rfl) (noLoops (by kernel_rfl)) (g2 (fun _ _ => []) appliesU (fun _ _ _ => trivial) (fun p v _ => an_true (an_true (an_true (Vec.eqb_self _) (Vec.eqb_self _)) (beq_self_eq_true _)) rfl) (fun _ _ => by kernel_rfl))
theorem appliesArgs : ∀ vs, ArgsAre Try.prog 3 [25, 23] vs → ∃ ps, (c2 eT eV eB (fun _ _ => true)) vs = some (ps, .fv (.one (.bool true))) ∧ Conj ps := by
  intro vs h0
  obtain ⟨x0, r, rfl, h1⟩ := args_T (by kernel_rfl) (by kernel_rfl) h0
  obtain ⟨x1, r, rfl, h2⟩ := args_V (by kernel_rfl) (by kernel_rfl) h1
  obtain rfl := args_nil h2
  exact ⟨_, rfl, trivial⟩
set_option maxRecDepth 100000 in
theorem liftedTransformApplies (os : Os) (started : os.Started) (H : Type) (enc : TypeId × Value → H) :
    ReturnsInHanded {} Try.checked os 3 .any (Rows.transformAppliesSpec.pre6 enc Try.prog Try.f3 Rows.transformAppliesRow.domain false) (Rows.transformAppliesSpec.post enc Try.prog Try.f3 false true false false) := by
  refine returnsInHanded_of_change (C := Try.checked) own started (by kernel_rfl) Try.func3 (ChangeSpec.witness6 (enc := enc) (C := Try.checked) false ⟨#[], #[.agg #[.int .i64 0, .int .i64 0, .int .i64 0], .agg #[.int .i64 0, .int .i64 0]], []⟩ 8 (by kernel_rfl) (by kernel_rfl) (by kernel_rfl) (by kernel_rfl)) ?_
  intro W base args ds gs before hval hW _ _
  exact law_contract (D := 3) (by kernel_rfl) (of_allOk (by kernel_rfl)) (tb := 4) (by kernel_rfl) (by kernel_rfl) rfl (fun ds h => by
    have h : ds.length = 2 := h
    match ds, h with
    | [d0, d1], _ => rfl) cApplies appliesArgs W base args ds gs before hval hW

theorem transformApplies_holds : Rows.TransformAppliesSaid :=
  OpenClaim.holds_of_wide 3 Try.f3 rfl rfl rfl rfl rfl rfl rfl ⟨rfl, rfl, rfl, rfl, rfl⟩ rfl rfl rfl rfl rfl (by kernel_rfl) Try.func3 (by kernel_rfl)
    (of_decide_eq_true (by kernel_rfl)) (by unfold Func.isWrapper; first | (rw [if_pos (by decide +kernel)]; kernel_rfl) | (rw [if_neg (by decide +kernel)]; exact ⟨rfl, rfl⟩))
    (fun os started H enc _ => liftedTransformApplies os started H enc)


def transU (p : Tf) (v : Vec) : Bool := an (an (an ((Tf.apply ⟨p.px, p.py, 0⟩ v).eqb (Fx.vadd v ⟨p.px, p.py⟩)) ((Tf.applyInv ⟨p.px, p.py, 0⟩ v).eqb (Fx.vsub v ⟨p.px, p.py⟩))) (Vec.eqb ⟨(Tf.mul ⟨p.px, p.py, 0⟩ ⟨v.x, v.y, 0⟩).px, (Tf.mul ⟨p.px, p.py, 0⟩ ⟨v.x, v.y, 0⟩).py⟩ (Fx.vadd v ⟨p.px, p.py⟩))) true
theorem transU_true (p : Tf) (v : Vec) : transU p v = true :=
  an_true (an_true (an_true (Vec.eqb_of (Fx.apply_zero _ _ _)) (Vec.eqb_of (Fx.applyInv_zero _ _ _))) (Vec.eqb_of (by unfold Fx.Tf.mul; simp only [Fx.apply_zero]; rfl))) rfl
theorem cTrans : Sound Try.prog 4 (c2 eT eV eB (fun _ _ => true)) :=
  con (lps := noLps) mixed (.cons cApply (.cons cAppInv (.cons cTmul (.cons cVadd (.cons cVsub (.cons cEx04 .nil)))))) Try.func4 (by kernel_rfl) (by kernel_rfl) (noLoops (by kernel_rfl)) (g2 (fun _ _ => []) transU (fun _ _ _ => trivial) (fun p v _ => transU_true p v) (fun _ _ => by kernel_rfl))
set_option maxRecDepth 100000 in
theorem liftedTransformTranslation (os : Os) (started : os.Started) (H : Type) (enc : TypeId × Value → H) :
    ReturnsInHanded {} Try.checked os 4 .any (Rows.transformTranslationSpec.pre6 enc Try.prog Try.f4 Rows.transformTranslationRow.domain false) (Rows.transformTranslationSpec.post enc Try.prog Try.f4 false true false false) := by
  refine returnsInHanded_of_change (C := Try.checked) own started (by kernel_rfl) Try.func4 (ChangeSpec.witness6 (enc := enc) (C := Try.checked) false ⟨#[], #[.agg #[.int .i64 0, .int .i64 0, .int .i64 0], .agg #[.int .i64 0, .int .i64 0]], []⟩ 8 (by kernel_rfl) (by kernel_rfl) (by kernel_rfl) (by kernel_rfl)) ?_
  intro W base args ds gs before hval hW _ _
  exact law_contract (D := 3) (by kernel_rfl) (of_allOk (by kernel_rfl)) (tb := 4) (by kernel_rfl) (by kernel_rfl) rfl (fun ds h => by
    have h : ds.length = 2 := h
    match ds, h with
    | [d0, d1], _ => rfl) cTrans appliesArgs W base args ds gs before hval hW

theorem transformTranslation_holds : Rows.TransformTranslationSaid :=
  OpenClaim.holds_of_wide 4 Try.f4 rfl rfl rfl rfl rfl rfl rfl ⟨rfl, rfl, rfl, rfl, rfl⟩ rfl rfl rfl rfl rfl (by kernel_rfl) Try.func4 (by kernel_rfl)
    (of_decide_eq_true (by kernel_rfl)) (by unfold Func.isWrapper; first | (rw [if_pos (by decide +kernel)]; kernel_rfl) | (rw [if_neg (by decide +kernel)]; exact ⟨rfl, rfl⟩))
    (fun os started H enc _ => liftedTransformTranslation os started H enc)


def integU (p : Tf) (c v : Vec) (w dt : Int) : Bool := an ((p.move c v w dt).eqb (p.move c v w dt)) true
theorem cInteg : Sound Try.prog 5 (c5 eT eV eV eI eI eB (fun _ _ _ _ _ => true)) :=
  con (lps := noLps) mixed (.cons cMove (.cons rMove (.cons cEx04 .nil))) Try.func5 (by kernel_rfl) (by kernel_rfl) (noLoops (by kernel_rfl)) (g5 (fun _ _ _ _ _ => []) integU (fun _ _ _ _ _ _ => trivial) (fun _ _ _ _ _ _ => an_true (Tf.eqb_self _) rfl) (fun _ _ _ _ _ => by kernel_rfl))
theorem integArgs : ∀ vs, ArgsAre Try.prog 3 [25, 23, 23, 3, 3] vs → ∃ ps, (c5 eT eV eV eI eI eB (fun _ _ _ _ _ => true)) vs = some (ps, .fv (.one (.bool true))) ∧ Conj ps := by
  intro vs h0
  obtain ⟨x0, r, rfl, h1⟩ := args_T (by kernel_rfl) (by kernel_rfl) h0
  obtain ⟨x1, r, rfl, h2⟩ := args_V (by kernel_rfl) (by kernel_rfl) h1
  obtain ⟨x2, r, rfl, h3⟩ := args_V (by kernel_rfl) (by kernel_rfl) h2
  obtain ⟨x3, r, rfl, lo3, hi3, h4⟩ := args_int (k := .i64) (by kernel_rfl) (by kernel_rfl) h3
  obtain ⟨x4, r, rfl, lo4, hi4, h5⟩ := args_int (k := .i64) (by kernel_rfl) (by kernel_rfl) h4
  obtain rfl := args_nil h5
  exact ⟨_, rfl, trivial⟩
set_option maxRecDepth 100000 in
theorem liftedTransformIntegration (os : Os) (started : os.Started) (H : Type) (enc : TypeId × Value → H) :
    ReturnsInHanded {} Try.checked os 5 .any (Rows.transformIntegrationSpec.pre6 enc Try.prog Try.f5 Rows.transformIntegrationRow.domain false) (Rows.transformIntegrationSpec.post enc Try.prog Try.f5 false true false false) := by
  refine returnsInHanded_of_change (C := Try.checked) own started (by kernel_rfl) Try.func5 (ChangeSpec.witness6 (enc := enc) (C := Try.checked) false ⟨#[], #[.agg #[.int .i64 0, .int .i64 0, .int .i64 0], .agg #[.int .i64 0, .int .i64 0], .agg #[.int .i64 0, .int .i64 0], .int .i64 0, .int .i64 0], []⟩ 8 (by kernel_rfl) (by kernel_rfl) (by kernel_rfl) (by kernel_rfl)) ?_
  intro W base args ds gs before hval hW _ _
  exact law_contract (D := 3) (by kernel_rfl) (of_allOk (by kernel_rfl)) (tb := 4) (by kernel_rfl) (by kernel_rfl) rfl (fun ds h => by
    have h : ds.length = 5 := h
    match ds, h with
    | [d0, d1, d2, d3, d4], _ => rfl) cInteg integArgs W base args ds gs before hval hW

theorem transformIntegration_holds : Rows.TransformIntegrationSaid :=
  OpenClaim.holds_of_wide 5 Try.f5 rfl rfl rfl rfl rfl rfl rfl ⟨rfl, rfl, rfl, rfl, rfl⟩ rfl rfl rfl rfl rfl (by kernel_rfl) Try.func5 (by kernel_rfl)
    (of_decide_eq_true (by kernel_rfl)) (by unfold Func.isWrapper; first | (rw [if_pos (by decide +kernel)]; kernel_rfl) | (rw [if_neg (by decide +kernel)]; exact ⟨rfl, rfl⟩))
    (fun os started H enc _ => liftedTransformIntegration os started H enc)


def compU (a b : Tf) (t : Int) : Bool := an (an ((a.mul b).eqb (a.mul b)) ((a.lerp b t).eqb (a.lerp b t))) true
theorem cComp : Sound Try.prog 6 (c3 eT eT eI eB (fun _ _ _ => true)) :=
  con (lps := noLps) mixed (.cons cTmul (.cons rTmul (.cons cTlerp (.cons rTlerp (.cons cEx04 .nil))))) Try.func6 (by kernel_rfl) (by kernel_rfl) (noLoops (by kernel_rfl)) (g3 (fun _ _ _ => []) compU (fun _ _ _ _ => trivial) (fun _ _ _ _ => an_true (an_true (Tf.eqb_self _) (Tf.eqb_self _)) rfl) (fun _ _ _ => by kernel_rfl))
theorem compArgs : ∀ vs, ArgsAre Try.prog 3 [25, 25, 3] vs → ∃ ps, (c3 eT eT eI eB (fun _ _ _ => true)) vs = some (ps, .fv (.one (.bool true))) ∧ Conj ps := by
  intro vs h0
  obtain ⟨x0, r, rfl, h1⟩ := args_T (by kernel_rfl) (by kernel_rfl) h0
  obtain ⟨x1, r, rfl, h2⟩ := args_T (by kernel_rfl) (by kernel_rfl) h1
  obtain ⟨x2, r, rfl, lo2, hi2, h3⟩ := args_int (k := .i64) (by kernel_rfl) (by kernel_rfl) h2
  obtain rfl := args_nil h3
  exact ⟨_, rfl, trivial⟩
set_option maxRecDepth 100000 in
theorem liftedTransformComposition (os : Os) (started : os.Started) (H : Type) (enc : TypeId × Value → H) :
    ReturnsInHanded {} Try.checked os 6 .any (Rows.transformCompositionSpec.pre6 enc Try.prog Try.f6 Rows.transformCompositionRow.domain false) (Rows.transformCompositionSpec.post enc Try.prog Try.f6 false true false false) := by
  refine returnsInHanded_of_change (C := Try.checked) own started (by kernel_rfl) Try.func6 (ChangeSpec.witness6 (enc := enc) (C := Try.checked) false ⟨#[], #[.agg #[.int .i64 0, .int .i64 0, .int .i64 0], .agg #[.int .i64 0, .int .i64 0, .int .i64 0], .int .i64 0], []⟩ 8 (by kernel_rfl) (by kernel_rfl) (by kernel_rfl) (by kernel_rfl)) ?_
  intro W base args ds gs before hval hW _ _
  exact law_contract (D := 3) (by kernel_rfl) (of_allOk (by kernel_rfl)) (tb := 4) (by kernel_rfl) (by kernel_rfl) rfl (fun ds h => by
    have h : ds.length = 3 := h
    match ds, h with
    | [d0, d1, d2], _ => rfl) cComp compArgs W base args ds gs before hval hW

theorem transformComposition_holds : Rows.TransformCompositionSaid :=
  OpenClaim.holds_of_wide 6 Try.f6 rfl rfl rfl rfl rfl rfl rfl ⟨rfl, rfl, rfl, rfl, rfl⟩ rfl rfl rfl rfl rfl (by kernel_rfl) Try.func6 (by kernel_rfl)
    (of_decide_eq_true (by kernel_rfl)) (by unfold Func.isWrapper; first | (rw [if_pos (by decide +kernel)]; kernel_rfl) | (rw [if_neg (by decide +kernel)]; exact ⟨rfl, rfl⟩))
    (fun os started H enc _ => liftedTransformComposition os started H enc)


def sameU (a b : Tf) (c : Vec) (t : Int) : Bool :=
  bif orr (orr (!a.valid) (!b.valid)) (!an (an (an (decide (c.x ≥ -1048576)) (decide (c.x ≤ 1048576))) (decide (c.y ≥ -1048576))) (decide (c.y ≤ 1048576))) then true
  else an (an (an ((a.lerp b 0).eqb a) ((a.move c ⟨0, 0⟩ 0 t).eqb a)) ((a.move c ⟨7, -9⟩ 5 0).eqb a)) true
theorem sameU_true (a b : Tf) (c : Vec) (t : Int) : sameU a b c t = true := by
  unfold sameU
  cases h : orr (orr (!a.valid) (!b.valid)) (!an (an (an (decide (c.x ≥ -1048576)) (decide (c.x ≤ 1048576))) (decide (c.y ≥ -1048576))) (decide (c.y ≤ 1048576))) with
  | true => rfl
  | false =>
    obtain ⟨h1, h2⟩ := Fx.of_orr h
    obtain ⟨h3, h4⟩ := Fx.of_orr h1
    simp only [Bool.not_eq_false'] at h2 h3
    obtain ⟨h5, h6⟩ := Fx.of_an h2
    obtain ⟨h7, h8⟩ := Fx.of_an h5
    obtain ⟨h9, h10⟩ := Fx.of_an h7
    simp only [decide_eq_true_eq] at h6 h8 h9 h10
    exact an_true (an_true (an_true (Tf.eqb_of (Fx.lerp_zero _ _ h3)) (Tf.eqb_of (Fx.move_same h3 ⟨h9, h10⟩ ⟨h8, h6⟩ (Fx.mul_zero_l _) (Fx.mul_zero_l _) (Fx.mul_zero_l _)))) (Tf.eqb_of (Fx.move_same h3 ⟨h9, h10⟩ ⟨h8, h6⟩ (Fx.mul_zero_r _) (Fx.mul_zero_r _) (Fx.mul_zero_r _)))) rfl
theorem cSame : Sound Try.prog 7 (c4 eT eT eV eI eB (fun _ _ _ _ => true)) :=
  con (lps := noLps) mixed (.cons cValid (.cons cLocal (.cons cTlerp (.cons cMove (.cons cEx04 .nil))))) Try.func7 (by kernel_rfl) (by kernel_rfl) (noLoops (by kernel_rfl)) (g4 (fun _ _ _ _ => []) sameU (fun _ _ _ _ _ => trivial) (fun a b c t _ => sameU_true a b c t) (fun _ _ _ _ => by kernel_rfl))
theorem sameArgs : ∀ vs, ArgsAre Try.prog 3 [25, 25, 23, 3] vs → ∃ ps, (c4 eT eT eV eI eB (fun _ _ _ _ => true)) vs = some (ps, .fv (.one (.bool true))) ∧ Conj ps := by
  intro vs h0
  obtain ⟨x0, r, rfl, h1⟩ := args_T (by kernel_rfl) (by kernel_rfl) h0
  obtain ⟨x1, r, rfl, h2⟩ := args_T (by kernel_rfl) (by kernel_rfl) h1
  obtain ⟨x2, r, rfl, h3⟩ := args_V (by kernel_rfl) (by kernel_rfl) h2
  obtain ⟨x3, r, rfl, lo3, hi3, h4⟩ := args_int (k := .i64) (by kernel_rfl) (by kernel_rfl) h3
  obtain rfl := args_nil h4
  exact ⟨_, rfl, trivial⟩
set_option maxRecDepth 100000 in
theorem liftedTransformUnchanged (os : Os) (started : os.Started) (H : Type) (enc : TypeId × Value → H) :
    ReturnsInHanded {} Try.checked os 7 .any (Rows.transformUnchangedSpec.pre6 enc Try.prog Try.f7 Rows.transformUnchangedRow.domain false) (Rows.transformUnchangedSpec.post enc Try.prog Try.f7 false true false false) := by
  refine returnsInHanded_of_change (C := Try.checked) own started (by kernel_rfl) Try.func7 (ChangeSpec.witness6 (enc := enc) (C := Try.checked) false ⟨#[], #[.agg #[.int .i64 0, .int .i64 0, .int .i64 0], .agg #[.int .i64 0, .int .i64 0, .int .i64 0], .agg #[.int .i64 0, .int .i64 0], .int .i64 0], []⟩ 8 (by kernel_rfl) (by kernel_rfl) (by kernel_rfl) (by kernel_rfl)) ?_
  intro W base args ds gs before hval hW _ _
  exact law_contract (D := 3) (by kernel_rfl) (of_allOk (by kernel_rfl)) (tb := 4) (by kernel_rfl) (by kernel_rfl) rfl (fun ds h => by
    have h : ds.length = 4 := h
    match ds, h with
    | [d0, d1, d2, d3], _ => rfl) cSame sameArgs W base args ds gs before hval hW

theorem transformUnchanged_holds : Rows.TransformUnchangedSaid :=
  OpenClaim.holds_of_wide 7 Try.f7 rfl rfl rfl rfl rfl rfl rfl ⟨rfl, rfl, rfl, rfl, rfl⟩ rfl rfl rfl rfl rfl (by kernel_rfl) Try.func7 (by kernel_rfl)
    (of_decide_eq_true (by kernel_rfl)) (by unfold Func.isWrapper; first | (rw [if_pos (by decide +kernel)]; kernel_rfl) | (rw [if_neg (by decide +kernel)]; exact ⟨rfl, rfl⟩))
    (fun os started H enc _ => liftedTransformUnchanged os started H enc)


def mn (x y : Int) : Int := if y < x then y else x
def mx (x y : Int) : Int := if y > x then y else x
def rangeU (a b : Tf) (w t : Int) : Bool :=
  an (an (an (decide (mn (mn (a.mul b).a (a.lerp b t).a) (a.move ⟨b.px, b.py⟩ ⟨b.px, b.py⟩ w t).a ≥ -205888)) (decide (mx (mx (a.mul b).a (a.lerp b t).a) (a.move ⟨b.px, b.py⟩ ⟨b.px, b.py⟩ w t).a < 205888))) (Tf.valid ⟨0, 0, (a.mul b).a⟩)) true
theorem rangeU_true (a b : Tf) (w t : Int) : rangeU a b w t = true := by
  have h1 : -205888 ≤ (a.mul b).a ∧ (a.mul b).a < 205888 := Fx.turn_bounds _ _
  have h2 : -205888 ≤ (a.lerp b t).a ∧ (a.lerp b t).a < 205888 := Fx.turn_bounds _ _
  have h3 : -205888 ≤ (a.move ⟨b.px, b.py⟩ ⟨b.px, b.py⟩ w t).a ∧ (a.move ⟨b.px, b.py⟩ ⟨b.px, b.py⟩ w t).a < 205888 := Fx.turn_bounds _ _
  refine an_true (an_true (an_true (decide_eq_true ?_) (decide_eq_true ?_)) ((Fx.valid_iff _).2 ⟨by simp, by simp, h1⟩)) rfl
  · unfold mn; repeat' split
    all_goals omega
  · unfold mx; repeat' split
    all_goals omega
theorem cRange : Sound Try.prog 8 (c4 eT eT eI eI eB (fun _ _ _ _ => true)) :=
  con (lps := noLps) mixed (.cons cTmul (.cons cTlerp (.cons cMove (.cons cValid (.cons cEx04 .nil))))) Try.func8 (by kernel_rfl) (by kernel_rfl) (noLoops (by kernel_rfl)) (g4 (fun _ _ _ _ => []) rangeU (fun _ _ _ _ _ => trivial) (fun a b w t _ => rangeU_true a b w t) (fun _ _ _ _ => by kernel_rfl))
theorem rangeArgs : ∀ vs, ArgsAre Try.prog 3 [25, 25, 3, 3] vs → ∃ ps, (c4 eT eT eI eI eB (fun _ _ _ _ => true)) vs = some (ps, .fv (.one (.bool true))) ∧ Conj ps := by
  intro vs h0
  obtain ⟨x0, r, rfl, h1⟩ := args_T (by kernel_rfl) (by kernel_rfl) h0
  obtain ⟨x1, r, rfl, h2⟩ := args_T (by kernel_rfl) (by kernel_rfl) h1
  obtain ⟨x2, r, rfl, lo2, hi2, h3⟩ := args_int (k := .i64) (by kernel_rfl) (by kernel_rfl) h2
  obtain ⟨x3, r, rfl, lo3, hi3, h4⟩ := args_int (k := .i64) (by kernel_rfl) (by kernel_rfl) h3
  obtain rfl := args_nil h4
  exact ⟨_, rfl, trivial⟩
set_option maxRecDepth 100000 in
theorem liftedTransformAngleRange (os : Os) (started : os.Started) (H : Type) (enc : TypeId × Value → H) :
    ReturnsInHanded {} Try.checked os 8 .any (Rows.transformAngleRangeSpec.pre6 enc Try.prog Try.f8 Rows.transformAngleRangeRow.domain false) (Rows.transformAngleRangeSpec.post enc Try.prog Try.f8 false true false false) := by
  refine returnsInHanded_of_change (C := Try.checked) own started (by kernel_rfl) Try.func8 (ChangeSpec.witness6 (enc := enc) (C := Try.checked) false ⟨#[], #[.agg #[.int .i64 0, .int .i64 0, .int .i64 0], .agg #[.int .i64 0, .int .i64 0, .int .i64 0], .int .i64 0, .int .i64 0], []⟩ 8 (by kernel_rfl) (by kernel_rfl) (by kernel_rfl) (by kernel_rfl)) ?_
  intro W base args ds gs before hval hW _ _
  exact law_contract (D := 3) (by kernel_rfl) (of_allOk (by kernel_rfl)) (tb := 4) (by kernel_rfl) (by kernel_rfl) rfl (fun ds h => by
    have h : ds.length = 4 := h
    match ds, h with
    | [d0, d1, d2, d3], _ => rfl) cRange rangeArgs W base args ds gs before hval hW

theorem transformAngleRange_holds : Rows.TransformAngleRangeSaid :=
  OpenClaim.holds_of_wide 8 Try.f8 rfl rfl rfl rfl rfl rfl rfl ⟨rfl, rfl, rfl, rfl, rfl⟩ rfl rfl rfl rfl rfl (by kernel_rfl) Try.func8 (by kernel_rfl)
    (of_decide_eq_true (by kernel_rfl)) (by unfold Func.isWrapper; first | (rw [if_pos (by decide +kernel)]; kernel_rfl) | (rw [if_neg (by decide +kernel)]; exact ⟨rfl, rfl⟩))
    (fun os started H enc _ => liftedTransformAngleRange os started H enc)

end Go.Proofs.Ytooijhaalinaiaa
