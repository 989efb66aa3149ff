/- The laws of chapter 2. -/
import Derived.Test.YtpjpgfiljedfcaaAng
import Derived.RowKit3
open Go Go.Eng
namespace Go.Proofs.Ytpjpgfiljedfcaa

def exC : Contract := fun | [] => some ([], Bo true) | _ => none
theorem cExample : Sound Try.prog 19 exC :=
  con (lps := noLps) mixed (.cons cSin (.cons cCos (.cons cNorm (.cons cRot (.cons cDiff .nil))))) Try.func19 (by kernel_rfl) (by kernel_rfl) (noLoops (by kernel_rfl)) (fun args ps r e _ => by
    unfold exC at e
    split at e
    · cases e; exact ⟨[], by kernel_rfl, trivial⟩
    · cases e)

theorem own : ownKnob Try.prog.godebug = none := by kernel_rfl

def rangeU (x : Int) : Bool :=
  bif bif bif bif decide (Fx.norm x ≥ -205888) then decide (Fx.norm x < 205888) else false then (IntKind.i64.wrap ((Fx.norm x).tmod 411776 - x.tmod 411776)).tmod 411776 == 0 else false then Fx.norm (Fx.norm x) == Fx.norm x else false then true else false
theorem rangeU_true (x : Int) : rangeU x = true := by
  have h1 := Fx.norm_bounds x
  have h2 := Fx.tmod_bounds x
  have h3 : (Fx.norm x).tmod 411776 = Fx.norm x := by
    rcases Int.lt_or_le (Fx.norm x) 0 with h | h
    · obtain ⟨m, hm⟩ : ∃ m, Fx.norm x = -m := ⟨-Fx.norm x, by omega⟩
      rw [hm, Int.neg_tmod, Int.tmod_eq_emod_of_nonneg (by omega), Int.emod_eq_of_lt (by omega) (by omega)]
    · rw [Int.tmod_eq_emod_of_nonneg h, Int.emod_eq_of_lt h (by omega)]
  have h4 : Fx.norm (Fx.norm x) = Fx.norm x := by
    have h5 : Fx.norm (Fx.norm x) = if (Fx.norm x).tmod 411776 ≥ 205888 then (Fx.norm x).tmod 411776 - 411776 else if (Fx.norm x).tmod 411776 < -205888 then (Fx.norm x).tmod 411776 + 411776 else (Fx.norm x).tmod 411776 := rfl
    rw [h5, h3, if_neg (by omega), if_neg (by omega)]
  have h6 : (IntKind.i64.wrap (Fx.norm x - x.tmod 411776)).tmod 411776 = 0 := by
    have h7 : Fx.norm x - x.tmod 411776 = -411776 ∨ Fx.norm x - x.tmod 411776 = 411776 ∨ Fx.norm x - x.tmod 411776 = 0 := by
      unfold Fx.norm; repeat' split
      all_goals omega
    rcases h7 with h | h | h <;> rw [h] <;> rfl
  unfold rangeU
  simp [h3, h4, h6, h1.1, h1.2]

def rangeC : Contract := fun | [I _] => some ([], Bo true) | _ => none
theorem cRange : Sound Try.prog 4 rangeC :=
  con (lps := noLps) mixed (.cons cNorm (.cons cExample .nil)) Try.func4 (by kernel_rfl) (by kernel_rfl) (noLoops (by kernel_rfl)) (fun args ps r e _ => by
    unfold rangeC at e
    split at e
    · rename_i x; cases e; exact ⟨[], (by kernel_rfl : symFn Try.prog _ noLps 4 [I x] = some ([], Bo (rangeU x))).trans (by rw [rangeU_true]), trivial⟩
    · cases e)

theorem rangeArgs : ∀ vs, ArgsAre Try.prog 1 Try.f4.params.toList vs → ∃ ps, rangeC vs = some (ps, .fv (.one (.bool true))) ∧ Conj ps := by
  intro vs h
  rw [Try.params4] at h
  obtain ⟨x, r, rfl, _, _, h⟩ := args_int (k := .i64) (by kernel_rfl) (by kernel_rfl) h
  obtain rfl := args_nil h
  exact ⟨[], rfl, trivial⟩

set_option maxRecDepth 100000 in
theorem liftedAngleNormalizeRange (os : Os) (started : os.Started) (H : Type) (enc : TypeId × Value → H) :
    ReturnsInHanded {} Try.checked os 4 .any (Rows.angleNormalizeRangeSpec.pre6 enc Try.prog Try.f4 Rows.angleNormalizeRangeRow.domain false) (Rows.angleNormalizeRangeSpec.post enc Try.prog Try.f4 false true false false) := by
  refine returnsInHanded_of_change (C := Try.checked) own started (by kernel_rfl) Try.func4 (ChangeSpec.witness6 (enc := enc) (C := Try.checked) false ⟨#[], #[.int .i64 0], []⟩ 8 (by kernel_rfl) (by kernel_rfl) (by kernel_rfl) (by kernel_rfl)) ?_
  intro W base args ds gs before hval hW _ _
  exact law_contract (D := 1) (by kernel_rfl) (of_allOk (by kernel_rfl)) (tb := 4) (by kernel_rfl) (by kernel_rfl) rfl (fun ds h => by
    have h : ds.length = 1 := h
    match ds, h with
    | [d0], _ => rfl) cRange rangeArgs W base args ds gs before hval hW

theorem angleNormalizeRange_holds : Rows.AngleNormalizeRangeSaid :=
  OpenClaim.holds_of_wide 4 Try.f4 rfl rfl rfl rfl rfl rfl rfl ⟨rfl, rfl, rfl, rfl, rfl⟩ rfl rfl rfl rfl rfl (by kernel_rfl) Try.func4 (by kernel_rfl)
    (of_decide_eq_true (by kernel_rfl)) (by unfold Func.isWrapper; first | (rw [if_pos (by decide +kernel)]; kernel_rfl) | (rw [if_neg (by decide +kernel)]; exact ⟨rfl, rfl⟩))
    (fun os started H enc _ => liftedAngleNormalizeRange os started H enc)


end Go.Proofs.Ytpjpgfiljedfcaa
