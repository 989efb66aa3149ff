/- Proved here: laws of chapter 34 return true for every input. Conditions: none. -/
import Derived.Test.YtbjpfekcghnppaaGreatJrw
import Derived.Test.YtbjpfekcghnppaaGreatEngArg
import Derived.RowKit3
open Go Go.Eng
namespace Go.Proofs.YtbjpfekcghnppaaGreat
open Go.Fx (an orr an_true Joint.eqb_self)

theorem own : ownKnob Tryz.prog.godebug = none := by kernel_rfl
theorem an_self {x y : Bool} (c : Bool) (h : x = true) (h' : y = true) : (bif c then true else an x y) = true := by rw [an_true h h']; cases c <;> rfl

theorem cEx34 : Sound Tryz.prog 6 (c0 eB true) :=
  con (lps := noLps) mixed (.cons cSlots (.cons cStore (.cons cReact (.cons cBrk (.cons rIeq .nil))))) Tryz.func6 (by kernel_rfl) (by kernel_rfl) (noLoops (by kernel_rfl)) (k0 (by kernel_rfl))
theorem l34E : Sound Tryz.prog 3 (c1 eAr eB (fun _ => true)) :=
  con (lps := noLps) mixed (.cons rSm31 (.cons cJrw (.cons rJrw (.cons rReq (.cons cEx34 .nil))))) Tryz.func3 (by kernel_rfl) (by kernel_rfl) (noLoops (by kernel_rfl)) (g1 (fun _ => []) (fun x => bif !sm31 x.a x.b x.s then true else an (Fx.rowsEq (Fx.jrows x.j x.a x.b x.ia x.ib x.s x.dt) (Fx.jrows x.j x.a x.b x.ia x.ib x.s x.dt)) true) (fun _ _ => trivial) (fun _ _ => an_self _ (Fx.rowsEq_self _) rfl) (fun _ => by kernel_rfl))
theorem argsAr34 : ∀ vs, ArgsAre Tryz.prog 8 [36] vs → ∃ ps, (c1 eAr eB (fun _ => true)) vs = some (ps, .fv (.one (.bool true))) ∧ Conj ps := by
  intro vs h0
  obtain ⟨x0, r, rfl, h1⟩ := args_Ar (by kernel_rfl) (by kernel_rfl) h0
  obtain rfl := args_nil h1
  exact ⟨_, rfl, trivial⟩
set_option maxRecDepth 100000 in
theorem liftedJointRowsExact (os : Os) (started : os.Started) (H : Type) (enc : TypeId × Value → H) :
    ReturnsInHanded {} Tryz.checked os 3 .any (Rows.jointRowsExactSpec.pre6 enc Tryz.prog Tryz.f3 Rows.jointRowsExactRow.domain false) (Rows.jointRowsExactSpec.post enc Tryz.prog Tryz.f3 false true false false) := by
  refine returnsInHanded_of_change (C := Tryz.checked) own started (by kernel_rfl) Tryz.func3 (ChangeSpec.witness6 (enc := enc) (C := Tryz.checked) false ⟨#[], #[.agg #[.int .i64 0, .int .i64 0, .int .i64 0, .int .i64 0, .int .i64 0, .int .i64 0, .int .i64 0, .int .i64 0, .int .i64 0, .int .i64 0, .int .i64 0, .bool false, .int .i64 0, .int .i64 0, .bool false, .int .i64 0, .int .i64 0, .int .i64 0, .int .i64 0, .bool false, .int .i64 0, .int .i64 0, .int .i64 0, .int .i64 0, .int .i64 0, .int .i64 0, .int .i64 0, .int .i64 0, .int .i64 0, .int .i64 0, .int .i64 0, .int .i64 0, .int .i64 0, .int .i64 0, .int .i64 0, .int .i64 0, .int .i64 0, .int .i64 0, .bool false, .bool false, .bool false, .bool false, .int .i64 0, .slice none 0 0, .int .i64 0, .int .i64 0, .int .i64 0, .int .i64 0, .int .i64 0, .int .i64 0, .int .i64 0, .int .i64 0, .int .i64 0, .int .i64 0, .int .i64 0, .int .i64 0, .int .i64 0, .int .i64 0, .bool false, .bool false, .bool false, .bool false, .int .i64 0, .slice none 0 0, .int .i64 0, .int .i64 0, .slice none 0 0, .int .i64 0]], []⟩ 8 (by kernel_rfl) (by kernel_rfl) (by kernel_rfl) (by kernel_rfl)) ?_
  intro W base args ds gs before hval hW _ _
  exact law_contract (D := 8) (by kernel_rfl) (of_allOk (by kernel_rfl)) (tb := 4) (by kernel_rfl) (by kernel_rfl) rfl (fun ds h => by
    have h : ds.length = 1 := h
    match ds, h with
    | [d0], _ => rfl) l34E argsAr34 W base args ds gs before hval hW

theorem jointRowsExact_holds : Rows.JointRowsExactSaid :=
  OpenClaim.holds_of_wide 3 Tryz.f3 rfl rfl rfl rfl rfl rfl rfl ⟨rfl, rfl, rfl, rfl, rfl⟩ rfl rfl rfl rfl rfl (by kernel_rfl) Tryz.func3 (by kernel_rfl)
    (of_decide_eq_true (by kernel_rfl)) (by unfold Func.isWrapper; first | (rw [if_pos (by decide +kernel)]; kernel_rfl) | (rw [if_neg (by decide +kernel)]; exact ⟨rfl, rfl⟩))
    (fun os started H enc _ => liftedJointRowsExact os started H enc)

def slotsU (x : Fx.Ar) (l : List Fx.Row) (n : Int) : Bool := bif orr (!sm31 x.a x.b x.s) (decide ((l.length : Int) > 50)) then true else an (an (Fx.intsEq (Fx.sl x.j x.a x.b) (Fx.sl x.j x.a x.b)) ((Fx.jstore x.j x.a x.b l n).eqb (Fx.jstore x.j x.a x.b l n))) true
theorem slotsU_true (x : Fx.Ar) (l : List Fx.Row) (n : Int) : slotsU x l n = true := an_self _ (an_true (Fx.intsEq_self _) (Joint.eqb_self _)) rfl
def slotsQ (x : Fx.Ar) (l : List Fx.Row) (n : Int) : List Prop := [orr (!sm31 x.a x.b x.s) (decide ((l.length : Int) > 50)) = false → Fx.intsEq (Fx.sl x.j x.a x.b) (Fx.sl x.j x.a x.b) = true → (-9223372036854775808 ≤ n ∧ n ≤ 9223372036854775807) ∧ l.length ≤ 65536]
theorem slotsQ_ok (x : Fx.Ar) (l : List Fx.Row) (n : Int) (h : -9223372036854775808 ≤ n ∧ n ≤ 9223372036854775807) : Conj (slotsQ x l n) :=
  ⟨fun h1 _ => ⟨h, by have := of_decide_eq_false (Fx.of_orr h1).2; omega⟩, trivial⟩
theorem l34S : Sound Tryz.prog 4 (p3 eAr (eSl .row) eI eB (fun _ _ n => [-9223372036854775808 ≤ n ∧ n ≤ 9223372036854775807]) (fun _ _ _ => true)) :=
  con (lps := noLps) mixed (.cons rSm31 (.cons cSlots (.cons rSlots (.cons cStore (.cons rStore (.cons rIeq (.cons cEx34 .nil))))))) Tryz.func4 (by kernel_rfl) (by kernel_rfl) (noLoops (by kernel_rfl)) (g3 slotsQ slotsU (fun x l n h => slotsQ_ok x l n h.1) (fun x l n _ => slotsU_true x l n) (fun _ _ _ => by kernel_rfl))
theorem argsArRI : ∀ vs, ArgsAre Tryz.prog 8 [36, 40, 3] vs → ∃ ps, (p3 eAr (eSl .row) eI eB (fun _ _ n => [-9223372036854775808 ≤ n ∧ n ≤ 9223372036854775807]) (fun _ _ _ => true)) vs = some (ps, .fv (.one (.bool true))) ∧ Conj ps := by
  intro vs h0
  obtain ⟨x0, r, rfl, h1⟩ := args_Ar (by kernel_rfl) (by kernel_rfl) h0
  obtain ⟨x1, r, rfl, h2⟩ := args_Slrow (by kernel_rfl) (by kernel_rfl) h1
  obtain ⟨x2, r, rfl, lo2, hi2, h3⟩ := args_int (k := .i64) (by kernel_rfl) (by kernel_rfl) h2
  obtain rfl := args_nil h3
  exact ⟨_, rfl, ⟨lo2, hi2⟩, trivial⟩
set_option maxRecDepth 100000 in
theorem liftedJointRowsSlots (os : Os) (started : os.Started) (H : Type) (enc : TypeId × Value → H) :
    ReturnsInHanded {} Tryz.checked os 4 .any (Rows.jointRowsSlotsSpec.pre6 enc Tryz.prog Tryz.f4 Rows.jointRowsSlotsRow.domain false) (Rows.jointRowsSlotsSpec.post enc Tryz.prog Tryz.f4 false true false false) := by
  refine returnsInHanded_of_change (C := Tryz.checked) own started (by kernel_rfl) Tryz.func4 (ChangeSpec.witness6 (enc := enc) (C := Tryz.checked) false ⟨#[], #[.agg #[.int .i64 0, .int .i64 0, .int .i64 0, .int .i64 0, .int .i64 0, .int .i64 0, .int .i64 0, .int .i64 0, .int .i64 0, .int .i64 0, .int .i64 0, .bool false, .int .i64 0, .int .i64 0, .bool false, .int .i64 0, .int .i64 0, .int .i64 0, .int .i64 0, .bool false, .int .i64 0, .int .i64 0, .int .i64 0, .int .i64 0, .int .i64 0, .int .i64 0, .int .i64 0, .int .i64 0, .int .i64 0, .int .i64 0, .int .i64 0, .int .i64 0, .int .i64 0, .int .i64 0, .int .i64 0, .int .i64 0, .int .i64 0, .int .i64 0, .bool false, .bool false, .bool false, .bool false, .int .i64 0, .slice none 0 0, .int .i64 0, .int .i64 0, .int .i64 0, .int .i64 0, .int .i64 0, .int .i64 0, .int .i64 0, .int .i64 0, .int .i64 0, .int .i64 0, .int .i64 0, .int .i64 0, .int .i64 0, .int .i64 0, .bool false, .bool false, .bool false, .bool false, .int .i64 0, .slice none 0 0, .int .i64 0, .int .i64 0, .slice none 0 0, .int .i64 0], .slice none 0 0, .int .i64 0], []⟩ 8 (by kernel_rfl) (by kernel_rfl) (by kernel_rfl) (by kernel_rfl)) ?_
  intro W base args ds gs before hval hW _ _
  exact law_contract (D := 8) (by kernel_rfl) (of_allOk (by kernel_rfl)) (tb := 4) (by kernel_rfl) (by kernel_rfl) rfl (fun ds h => by
    have h : ds.length = 3 := h
    match ds, h with
    | [d0, d1, d2], _ => rfl) l34S argsArRI W base args ds gs before hval hW

theorem jointRowsSlots_holds : Rows.JointRowsSlotsSaid :=
  OpenClaim.holds_of_wide 4 Tryz.f4 rfl rfl rfl rfl rfl rfl rfl ⟨rfl, rfl, rfl, rfl, rfl⟩ rfl rfl rfl rfl rfl (by kernel_rfl) Tryz.func4 (by kernel_rfl)
    (of_decide_eq_true (by kernel_rfl)) (by unfold Func.isWrapper; first | (rw [if_pos (by decide +kernel)]; kernel_rfl) | (rw [if_neg (by decide +kernel)]; exact ⟨rfl, rfl⟩))
    (fun os started H enc _ => liftedJointRowsSlots os started H enc)

end Go.Proofs.YtbjpfekcghnppaaGreat
