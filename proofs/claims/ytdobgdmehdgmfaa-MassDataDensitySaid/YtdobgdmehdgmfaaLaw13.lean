/- Proved here: the laws of chapter 13 return true for every input. Conditions: none. -/
import Derived.Test.YtdobgdmehdgmfaaMdC
import Derived.RowKit3
open Go Go.Eng
namespace Go.Proofs.Ytdobgdmehdgmfaa
open Go.Fx (Vec Tf Md Fix an orr an_true Md.eqb_self Md.eqb_of)

theorem own : ownKnob Try.prog.godebug = none := by kernel_rfl

def ex13 : Bool := an (an ((Fx.ofSh Fx.sqr 65536).eqb ⟨65536, 32768, 32768, 10923⟩) ((Fx.inv (Fx.ofSh Fx.sqr 65536) 3 true).1 == 65536)) ((Fx.inv (Fx.ofSh Fx.sqr 65536) 3 true).2 == 0)
theorem ex13_true : ex13 = true := by decide +kernel
theorem ex13Eq (ofs : Shp → Int → Md) (inv : Md → Int → Bool → Int × Int) : symFn Try.prog (tbl [(18, c0 eShN Fx.sqr), (10, c2 eSh eI eMd ofs), (12, c3 eMd eI eB eII inv)]) noLps 9 [] = some ([], eB.pv (an (an ((ofs Fx.sqr 65536).eqb ⟨65536, 32768, 32768, 10923⟩) ((inv (ofs Fx.sqr 65536) 3 true).1 == 65536)) ((inv (ofs Fx.sqr 65536) 3 true).2 == 0))) := by kernel_rfl
theorem cEx13 : Sound Try.prog 9 (c0 eB true) :=
  con (lps := noLps) mixed (AllSound.cons cSqr (.cons cOfSh (.cons cInv .nil))) Try.func9 (by kernel_rfl) (by kernel_rfl) (noLoops (by kernel_rfl)) (g0 [] ex13 (fun _ => trivial) (fun _ => ex13_true) (ex13Eq Fx.ofSh Fx.inv))

theorem exactEq (ofs : Shp → Int → Md) (s : Shp) (d : Int) : symFn Try.prog (tbl [(10, c2 eSh eI eMd ofs), (11, c2 eSh eI eMd ofs), (9, c0 eB true)]) noLps 3 [eSh.pv s, eI.pv d] = some ([], eB.pv (bif decide ((s.vs.length : Int) > 20) then true else an ((ofs s d).eqb (ofs s d)) true)) := by kernel_rfl
theorem lExact : Sound Try.prog 3 (c2 eSh eI eB (fun _ _ => true)) :=
  con (lps := noLps) mixed (AllSound.cons cOfSh (.cons rOfSh (.cons cEx13 .nil))) Try.func3 (by kernel_rfl) (by kernel_rfl) (noLoops (by kernel_rfl)) (g2 (fun _ _ => []) (fun s d => bif decide ((s.vs.length : Int) > 20) then true else an ((Fx.ofSh s d).eqb (Fx.ofSh s d)) true) (fun _ _ _ => trivial) (fun s d _ => by rw [Md.eqb_self]; cases decide ((s.vs.length : Int) > 20) <;> rfl) (fun s d => exactEq Fx.ofSh s d))
theorem argsShI : ∀ vs, ArgsAre Try.prog 4 [25, 3] vs → ∃ ps, (c2 eSh eI eB (fun _ _ => true)) vs = some (ps, .fv (.one (.bool true))) ∧ Conj ps := by
  intro vs h0
  obtain ⟨x0, r, rfl, h1⟩ := args_Sh (by kernel_rfl) (by kernel_rfl) h0
  obtain ⟨x1, r, rfl, lo1, hi1, h2⟩ := args_int (k := .i64) (by kernel_rfl) (by kernel_rfl) h1
  obtain rfl := args_nil h2
  exact ⟨_, rfl, trivial⟩
set_option maxRecDepth 100000 in
theorem liftedMassDataExact (os : Os) (started : os.Started) (H : Type) (enc : TypeId × Value → H) :
    ReturnsInHanded {} Try.checked os 3 .any (Rows.massDataExactSpec.pre6 enc Try.prog Try.f3 Rows.massDataExactRow.domain false) (Rows.massDataExactSpec.post enc Try.prog Try.f3 false true false false) := by
  refine returnsInHanded_of_change (C := Try.checked) own started (by kernel_rfl) Try.func3 (ChangeSpec.witness6 (enc := enc) (C := Try.checked) false ⟨#[], #[.agg #[.int .i64 0, .int .i64 0, .slice none 0 0], .int .i64 0], []⟩ 8 (by kernel_rfl) (by kernel_rfl) (by kernel_rfl) (by kernel_rfl)) ?_
  intro W base args ds gs before hval hW _ _
  exact law_contract (D := 4) (by kernel_rfl) (of_allOk (by kernel_rfl)) (tb := 4) (by kernel_rfl) (by kernel_rfl) rfl (fun ds h => by
    have h : ds.length = 2 := h
    match ds, h with
    | [d0, d1], _ => rfl) lExact argsShI W base args ds gs before hval hW

theorem massDataExact_holds : Rows.MassDataExactSaid :=
  OpenClaim.holds_of_wide 3 Try.f3 rfl rfl rfl rfl rfl rfl rfl ⟨rfl, rfl, rfl, rfl, rfl⟩ rfl rfl rfl rfl rfl (by kernel_rfl) Try.func3 (by kernel_rfl)
    (of_decide_eq_true (by kernel_rfl)) (by unfold Func.isWrapper; first | (rw [if_pos (by decide +kernel)]; kernel_rfl) | (rw [if_neg (by decide +kernel)]; exact ⟨rfl, rfl⟩))
    (fun os started H enc _ => liftedMassDataExact os started H enc)


theorem lComb : Sound Try.prog 6 (c1 (eSl .md) eB (fun _ => true)) :=
  con (lps := noLps) mixed (.cons cComb (.cons rComb (.cons cEx13 .nil))) Try.func6 (by kernel_rfl) (by kernel_rfl) (noLoops (by kernel_rfl)) (g1 (fun _ => []) (fun l => bif decide ((l.length : Int) > 20) then true else an ((Fx.comb l).eqb (Fx.comb l)) true) (fun _ _ => trivial) (fun l _ => by rw [Md.eqb_self]; cases decide ((l.length : Int) > 20) <;> rfl) (fun _ => by kernel_rfl))
theorem argsSlmd : ∀ vs, ArgsAre Try.prog 4 [38] vs → ∃ ps, (c1 (eSl .md) eB (fun _ => true)) vs = some (ps, .fv (.one (.bool true))) ∧ Conj ps := by
  intro vs h0
  obtain ⟨x0, r, rfl, h1⟩ := args_Slmd (by kernel_rfl) (by kernel_rfl) h0
  obtain rfl := args_nil h1
  exact ⟨_, rfl, trivial⟩
set_option maxRecDepth 100000 in
theorem liftedMassDataCombine (os : Os) (started : os.Started) (H : Type) (enc : TypeId × Value → H) :
    ReturnsInHanded {} Try.checked os 6 .any (Rows.massDataCombineSpec.pre6 enc Try.prog Try.f6 Rows.massDataCombineRow.domain false) (Rows.massDataCombineSpec.post enc Try.prog Try.f6 false true false false) := by
  refine returnsInHanded_of_change (C := Try.checked) own started (by kernel_rfl) Try.func6 (ChangeSpec.witness6 (enc := enc) (C := Try.checked) false ⟨#[], #[.slice none 0 0], []⟩ 8 (by kernel_rfl) (by kernel_rfl) (by kernel_rfl) (by kernel_rfl)) ?_
  intro W base args ds gs before hval hW _ _
  exact law_contract (D := 4) (by kernel_rfl) (of_allOk (by kernel_rfl)) (tb := 4) (by kernel_rfl) (by kernel_rfl) rfl (fun ds h => by
    have h : ds.length = 1 := h
    match ds, h with
    | [d0], _ => rfl) lComb argsSlmd W base args ds gs before hval hW

theorem massDataCombine_holds : Rows.MassDataCombineSaid :=
  OpenClaim.holds_of_wide 6 Try.f6 rfl rfl rfl rfl rfl rfl rfl ⟨rfl, rfl, rfl, rfl, rfl⟩ rfl rfl rfl rfl rfl (by kernel_rfl) Try.func6 (by kernel_rfl)
    (of_decide_eq_true (by kernel_rfl)) (by unfold Func.isWrapper; first | (rw [if_pos (by decide +kernel)]; kernel_rfl) | (rw [if_neg (by decide +kernel)]; exact ⟨rfl, rfl⟩))
    (fun os started H enc _ => liftedMassDataCombine os started H enc)


theorem lInv : Sound Try.prog 4 (c3 eMd eI eB eB (fun _ _ _ => true)) :=
  con (lps := noLps) mixed (.cons cInv (.cons rInv (.cons cEx13 .nil))) Try.func4 (by kernel_rfl) (by kernel_rfl) (noLoops (by kernel_rfl)) (g3 (fun _ _ _ => []) Fx.invLaw (fun _ _ _ _ => trivial) (fun m k b _ => Fx.invLaw_true m k b) (fun _ _ _ => by kernel_rfl))
theorem argsMdIB : ∀ vs, ArgsAre Try.prog 4 [30, 33, 4] vs → ∃ ps, (c3 eMd eI eB eB (fun _ _ _ => true)) vs = some (ps, .fv (.one (.bool true))) ∧ Conj ps := by
  intro vs h0
  obtain ⟨x0, r, rfl, h1⟩ := args_Md (by kernel_rfl) (by kernel_rfl) h0
  obtain ⟨x1, r, rfl, lo1, hi1, h2⟩ := args_int (k := .i64) (by kernel_rfl) (by kernel_rfl) h1
  obtain ⟨x2, r, rfl, h3⟩ := args_bool (by kernel_rfl) (by kernel_rfl) h2
  obtain rfl := args_nil h3
  exact ⟨_, rfl, trivial⟩
set_option maxRecDepth 100000 in
theorem liftedMassDataInverse (os : Os) (started : os.Started) (H : Type) (enc : TypeId × Value → H) :
    ReturnsInHanded {} Try.checked os 4 .any (Rows.massDataInverseSpec.pre6 enc Try.prog Try.f4 Rows.massDataInverseRow.domain false) (Rows.massDataInverseSpec.post enc Try.prog Try.f4 false true false false) := by
  refine returnsInHanded_of_change (C := Try.checked) own started (by kernel_rfl) Try.func4 (ChangeSpec.witness6 (enc := enc) (C := Try.checked) false ⟨#[], #[.agg #[.int .i64 0, .int .i64 0, .int .i64 0, .int .i64 0], .int .i64 0, .bool false], []⟩ 8 (by kernel_rfl) (by kernel_rfl) (by kernel_rfl) (by kernel_rfl)) ?_
  intro W base args ds gs before hval hW _ _
  exact law_contract (D := 4) (by kernel_rfl) (of_allOk (by kernel_rfl)) (tb := 4) (by kernel_rfl) (by kernel_rfl) rfl (fun ds h => by
    have h : ds.length = 3 := h
    match ds, h with
    | [d0, d1, d2], _ => rfl) lInv argsMdIB W base args ds gs before hval hW

theorem massDataInverse_holds : Rows.MassDataInverseSaid :=
  OpenClaim.holds_of_wide 4 Try.f4 rfl rfl rfl rfl rfl rfl rfl ⟨rfl, rfl, rfl, rfl, rfl⟩ rfl rfl rfl rfl rfl (by kernel_rfl) Try.func4 (by kernel_rfl)
    (of_decide_eq_true (by kernel_rfl)) (by unfold Func.isWrapper; first | (rw [if_pos (by decide +kernel)]; kernel_rfl) | (rw [if_neg (by decide +kernel)]; exact ⟨rfl, rfl⟩))
    (fun os started H enc _ => liftedMassDataInverse os started H enc)

end Go.Proofs.Ytdobgdmehdgmfaa
