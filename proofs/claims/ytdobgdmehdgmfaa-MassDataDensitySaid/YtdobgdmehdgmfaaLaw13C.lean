/- Proved here: the law MassDataDensity of chapter 13 returns true for every input. Conditions: none. -/
import Derived.Test.YtdobgdmehdgmfaaLaw13
import Derived.Test.YtdobgdmehdgmfaaEngDen
open Go Go.Eng
namespace Go.Proofs.Ytdobgdmehdgmfaa
open Go.Fx (Vec Tf Md Fix an orr an_true Md.eqb_self Md.eqb_of)

theorem denEq (ofs : Shp → Int → Md) (s : Shp) (a b : Int) : symFn Try.prog (tbl [(10, c2 eSh eI eMd ofs), (9, c0 eB true)]) noLps 5 [eSh.pv s, eI.pv a, eI.pv b] = some ([], eB.pv (Fx.denU ofs s a b)) := by kernel_rfl
theorem lDen : Sound Try.prog 5 (c3 eSh eI eI eB (fun _ _ _ => true)) :=
  con (lps := noLps) mixed (AllSound.cons cOfSh (.cons cEx13 .nil)) Try.func5 (by kernel_rfl) (by kernel_rfl) (noLoops (by kernel_rfl)) (g3 (fun _ _ _ => []) (Fx.denU Fx.ofSh) (fun _ _ _ _ => trivial) (fun s a b _ => Fx.den_true s a b) (fun s a b => denEq Fx.ofSh s a b))
theorem argsShII : ∀ vs, ArgsAre Try.prog 4 [25, 3, 3] vs → ∃ ps, (c3 eSh eI eI eB (fun _ _ _ => true)) vs = some (ps, .fv (.one (.bool true))) ∧ Conj ps := by
  intro vs h0
  obtain ⟨x0, r, rfl, h1⟩ := args_Sh (by kernel_rfl) (by kernel_rfl) h0
  obtain ⟨x1, r, rfl, lo1, hi1, h2⟩ := args_int (k := .i64) (by kernel_rfl) (by kernel_rfl) h1
  obtain ⟨x2, r, rfl, lo2, hi2, h3⟩ := args_int (k := .i64) (by kernel_rfl) (by kernel_rfl) h2
  obtain rfl := args_nil h3
  exact ⟨_, rfl, trivial⟩
set_option maxRecDepth 100000 in
theorem liftedMassDataDensity (os : Os) (started : os.Started) (H : Type) (enc : TypeId × Value → H) :
    ReturnsInHanded {} Try.checked os 5 .any (Rows.massDataDensitySpec.pre6 enc Try.prog Try.f5 Rows.massDataDensityRow.domain false) (Rows.massDataDensitySpec.post enc Try.prog Try.f5 false true false false) := by
  refine returnsInHanded_of_change (C := Try.checked) own started (by kernel_rfl) Try.func5 (ChangeSpec.witness6 (enc := enc) (C := Try.checked) false ⟨#[], #[.agg #[.int .i64 0, .int .i64 0, .slice none 0 0], .int .i64 0, .int .i64 0], []⟩ 8 (by kernel_rfl) (by kernel_rfl) (by kernel_rfl) (by kernel_rfl)) ?_
  intro W base args ds gs before hval hW _ _
  exact law_contract (D := 4) (by kernel_rfl) (of_allOk (by kernel_rfl)) (tb := 4) (by kernel_rfl) (by kernel_rfl) rfl (fun ds h => by
    have h : ds.length = 3 := h
    match ds, h with
    | [d0, d1, d2], _ => rfl) lDen argsShII W base args ds gs before hval hW

theorem massDataDensity_holds : Rows.MassDataDensitySaid :=
  OpenClaim.holds_of_wide 5 Try.f5 rfl rfl rfl rfl rfl rfl rfl ⟨rfl, rfl, rfl, rfl, rfl⟩ rfl rfl rfl rfl rfl (by kernel_rfl) Try.func5 (by kernel_rfl)
    (of_decide_eq_true (by kernel_rfl)) (by unfold Func.isWrapper; first | (rw [if_pos (by decide +kernel)]; kernel_rfl) | (rw [if_neg (by decide +kernel)]; exact ⟨rfl, rfl⟩))
    (fun os started H enc _ => liftedMassDataDensity os started H enc)

end Go.Proofs.Ytdobgdmehdgmfaa
