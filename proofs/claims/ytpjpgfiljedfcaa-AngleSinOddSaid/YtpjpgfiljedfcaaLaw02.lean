/- Proved here: the six laws of chapter 2 return true for every input. Conditions: none. -/
import Derived.Test.YtpjpgfiljedfcaaAng
import Derived.RowKit3
open Go Go.Eng
namespace Go.Proofs.Ytpjpgfiljedfcaa

def exC : Contract := fun | [] => some ([], Bo true) | _ => none
theorem cExample : Sound Try.prog 19 exC :=
  con (lps := noLps) mixed (.cons cSin (.cons cCos (.cons cNorm (.cons cRot (.cons cDiff .nil))))) Try.func19 (by kernel_rfl) (by kernel_rfl) (noLoops (by kernel_rfl)) (fun args ps r e _ => by
    unfold exC at e
    split at e
    · cases e; exact ⟨[], by kernel_rfl, trivial⟩
    · cases e)

theorem own : ownKnob Try.prog.godebug = none := by kernel_rfl

def rangeU (x : Int) : Bool :=
  bif bif bif bif decide (Fx.norm x ≥ -205888) then decide (Fx.norm x < 205888) else false then (IntKind.i64.wrap ((Fx.norm x).tmod 411776 - x.tmod 411776)).tmod 411776 == 0 else false then Fx.norm (Fx.norm x) == Fx.norm x else false then true else false
theorem rangeU_true (x : Int) : rangeU x = true := by
  have h1 := Fx.norm_bounds x
  have h2 := Fx.tmod_bounds x
  have h3 : (Fx.norm x).tmod 411776 = Fx.norm x := by
    rcases Int.lt_or_le (Fx.norm x) 0 with h | h
    · obtain ⟨m, hm⟩ : ∃ m, Fx.norm x = -m := ⟨-Fx.norm x, by omega⟩
      rw [hm, Int.neg_tmod, Int.tmod_eq_emod_of_nonneg (by omega), Int.emod_eq_of_lt (by omega) (by omega)]
    · rw [Int.tmod_eq_emod_of_nonneg h, Int.emod_eq_of_lt h (by omega)]
  have h4 : Fx.norm (Fx.norm x) = Fx.norm x := by
    have h5 : Fx.norm (Fx.norm x) = if (Fx.norm x).tmod 411776 ≥ 205888 then (Fx.norm x).tmod 411776 - 411776 else if (Fx.norm x).tmod 411776 < -205888 then (Fx.norm x).tmod 411776 + 411776 else (Fx.norm x).tmod 411776 := rfl
    rw [h5, h3, if_neg (by omega), if_neg (by omega)]
  have h6 : (IntKind.i64.wrap (Fx.norm x - x.tmod 411776)).tmod 411776 = 0 := by
    have h7 : Fx.norm x - x.tmod 411776 = -411776 ∨ Fx.norm x - x.tmod 411776 = 411776 ∨ Fx.norm x - x.tmod 411776 = 0 := by
      unfold Fx.norm; repeat' split
      all_goals omega
    rcases h7 with h | h | h <;> rw [h] <;> rfl
  unfold rangeU
  simp [h3, h4, h6, h1.1, h1.2]

def rangeC : Contract := fun | [I x] => some ([-9223372036854775808 ≤ x ∧ x ≤ 9223372036854775807], Bo true) | _ => none
theorem conR {ctrs : FuncId → Option Contract} {lps : Nat → St → Tree} {f : FuncId} (U : Int → Bool) (hU : ∀ x, -9223372036854775808 ≤ x → x ≤ 9223372036854775807 → U x = true) (h : ∀ x, symFn Try.prog ctrs lps f [I x] = some ([], Bo (U x))) :
    ∀ args ps r, rangeC args = some (ps, r) → Conj ps → ∃ qs, symFn Try.prog ctrs lps f args = some (qs, r) ∧ Conj qs := by
  intro args ps r e hc
  unfold rangeC at e
  split at e
  · cases e; exact ⟨[], (h _).trans (by rw [hU _ hc.1.1 hc.1.2]), trivial⟩
  · cases e
def twoC : Contract := fun | [I _, I _] => some ([], Bo true) | _ => none
theorem conT {ctrs : FuncId → Option Contract} {lps : Nat → St → Tree} {f : FuncId} (U : Int → Int → Bool) (hU : ∀ x y, U x y = true) (h : ∀ x y, symFn Try.prog ctrs lps f [I x, I y] = some ([], Bo (U x y))) :
    ∀ args ps r, twoC args = some (ps, r) → Conj ps → ∃ qs, symFn Try.prog ctrs lps f args = some (qs, r) ∧ Conj qs := by
  intro args ps r e _
  unfold twoC at e
  split at e
  · cases e; exact ⟨[], (h _ _).trans (by rw [hU]), trivial⟩
  · cases e
theorem oneArgs : ∀ vs, ArgsAre Try.prog 1 [3] vs → ∃ ps, rangeC vs = some (ps, .fv (.one (.bool true))) ∧ Conj ps := by
  intro vs h
  obtain ⟨x, r, rfl, h0, h1, h⟩ := args_int (k := .i64) (by kernel_rfl) (by kernel_rfl) h
  obtain rfl := args_nil h
  exact ⟨_, rfl, ⟨h0, h1⟩, trivial⟩
theorem twoArgs : ∀ vs, ArgsAre Try.prog 1 [3, 3] vs → ∃ ps, twoC vs = some (ps, .fv (.one (.bool true))) ∧ Conj ps := by
  intro vs h
  obtain ⟨x, r, rfl, _, _, h⟩ := args_int (k := .i64) (by kernel_rfl) (by kernel_rfl) h
  obtain ⟨y, r, rfl, _, _, h⟩ := args_int (k := .i64) (by kernel_rfl) (by kernel_rfl) h
  obtain rfl := args_nil h
  exact ⟨_, rfl, trivial⟩
theorem cRange : Sound Try.prog 4 rangeC :=
  con (lps := noLps) mixed (.cons cNorm (.cons cExample .nil)) Try.func4 (by kernel_rfl) (by kernel_rfl) (noLoops (by kernel_rfl)) (conR rangeU (fun x _ _ => rangeU_true x) (fun x => by kernel_rfl))
set_option maxRecDepth 100000 in
theorem liftedAngleNormalizeRange (os : Os) (started : os.Started) (H : Type) (enc : TypeId × Value → H) :
    ReturnsInHanded {} Try.checked os 4 .any (Rows.angleNormalizeRangeSpec.pre6 enc Try.prog Try.f4 Rows.angleNormalizeRangeRow.domain false) (Rows.angleNormalizeRangeSpec.post enc Try.prog Try.f4 false true false false) := by
  refine returnsInHanded_of_change (C := Try.checked) own started (by kernel_rfl) Try.func4 (ChangeSpec.witness6 (enc := enc) (C := Try.checked) false ⟨#[], #[.int .i64 0], []⟩ 8 (by kernel_rfl) (by kernel_rfl) (by kernel_rfl) (by kernel_rfl)) ?_
  intro W base args ds gs before hval hW _ _
  exact law_contract (D := 1) (by kernel_rfl) (of_allOk (by kernel_rfl)) (tb := 4) (by kernel_rfl) (by kernel_rfl) rfl (fun ds h => by
    have h : ds.length = 1 := h
    match ds, h with
    | [d0], _ => rfl) cRange oneArgs W base args ds gs before hval hW

theorem angleNormalizeRange_holds : Rows.AngleNormalizeRangeSaid :=
  OpenClaim.holds_of_wide 4 Try.f4 rfl rfl rfl rfl rfl rfl rfl ⟨rfl, rfl, rfl, rfl, rfl⟩ rfl rfl rfl rfl rfl (by kernel_rfl) Try.func4 (by kernel_rfl)
    (of_decide_eq_true (by kernel_rfl)) (by unfold Func.isWrapper; first | (rw [if_pos (by decide +kernel)]; kernel_rfl) | (rw [if_neg (by decide +kernel)]; exact ⟨rfl, rfl⟩))
    (fun os started H enc _ => liftedAngleNormalizeRange os started H enc)


def sincosU (x y : Int) : Bool :=
  bif bif bif bif bif Fx.norm x == Fx.norm x then Fx.sin x == Fx.sin x else false then Fx.cos x == Fx.cos x else false then Fx.rotc x == Fx.rotc x && (Fx.rots x == Fx.rots x && true) else false then Fx.diff x y == Fx.diff x y else false then true else false
theorem cSinCos : Sound Try.prog 3 twoC :=
  con (lps := noLps) mixed (.cons cNorm (.cons rNorm (.cons cSin (.cons rSin (.cons cCos (.cons rCos (.cons cRot (.cons rRot (.cons cDiff (.cons rDiff (.cons cExample .nil))))))))))) Try.func3 (by kernel_rfl) (by kernel_rfl) (noLoops (by kernel_rfl))
    (conT sincosU (fun x y => by simp [sincosU]) (fun x y => by kernel_rfl))
set_option maxRecDepth 100000 in
theorem liftedAngleSinCos (os : Os) (started : os.Started) (H : Type) (enc : TypeId × Value → H) :
    ReturnsInHanded {} Try.checked os 3 .any (Rows.angleSinCosSpec.pre6 enc Try.prog Try.f3 Rows.angleSinCosRow.domain false) (Rows.angleSinCosSpec.post enc Try.prog Try.f3 false true false false) := by
  refine returnsInHanded_of_change (C := Try.checked) own started (by kernel_rfl) Try.func3 (ChangeSpec.witness6 (enc := enc) (C := Try.checked) false ⟨#[], #[.int .i64 0, .int .i64 0], []⟩ 8 (by kernel_rfl) (by kernel_rfl) (by kernel_rfl) (by kernel_rfl)) ?_
  intro W base args ds gs before hval hW _ _
  exact law_contract (D := 1) (by kernel_rfl) (of_allOk (by kernel_rfl)) (tb := 4) (by kernel_rfl) (by kernel_rfl) rfl (fun ds h => by
    have h : ds.length = 2 := h
    match ds, h with
    | [d0, d1], _ => rfl) cSinCos twoArgs W base args ds gs before hval hW

theorem angleSinCos_holds : Rows.AngleSinCosSaid :=
  OpenClaim.holds_of_wide 3 Try.f3 rfl rfl rfl rfl rfl rfl rfl ⟨rfl, rfl, rfl, rfl, rfl⟩ rfl rfl rfl rfl rfl (by kernel_rfl) Try.func3 (by kernel_rfl)
    (of_decide_eq_true (by kernel_rfl)) (by unfold Func.isWrapper; first | (rw [if_pos (by decide +kernel)]; kernel_rfl) | (rw [if_neg (by decide +kernel)]; exact ⟨rfl, rfl⟩))
    (fun os started H enc _ => liftedAngleSinCos os started H enc)


def diffU (x y : Int) : Bool :=
  bif bif bif bif decide (Fx.diff x y < -205888) then true else decide (Fx.diff x y ≥ 205888) then true else decide (Fx.norm x < -205888) then true else decide (Fx.norm x ≥ 205888) then false
  else bif bif bif Fx.norm (IntKind.i64.wrap (Fx.norm x + Fx.diff x y)) == Fx.norm y then (bif Fx.diff y x == IntKind.i64.wrap (0 - Fx.diff x y) then true else bif Fx.diff x y == -205888 then Fx.diff y x == Fx.diff x y else false) else false then Fx.diff x x == 0 else false then true else false
theorem diffU_true (x y : Int) : diffU x y = true := by
  have h1 := Fx.norm_bounds x
  have h2 := Fx.diff_bounds x y
  unfold diffU
  rw [Fx.wrap_i64 (n := Fx.norm x + Fx.diff x y) (by omega) (by omega), Fx.diff_adds, Fx.wrap_i64 (n := 0 - Fx.diff x y) (by omega) (by omega), Fx.diff_self, Fx.diff_swap x y]
  have e1 : ¬ Fx.diff x y < -205888 := by omega
  have e2 : ¬ Fx.diff x y ≥ 205888 := by omega
  have e3 : ¬ Fx.norm x < -205888 := by omega
  have e4 : ¬ Fx.norm x ≥ 205888 := by omega
  by_cases h : Fx.diff x y = -205888
  · simp [e3, e4, h]
  · simp [e1, e2, e3, e4, h]
theorem cDiffAdds : Sound Try.prog 5 twoC :=
  con (lps := noLps) mixed (.cons cNorm (.cons cDiff (.cons cExample .nil))) Try.func5 (by kernel_rfl) (by kernel_rfl) (noLoops (by kernel_rfl)) (conT diffU diffU_true (fun x y => by kernel_rfl))
set_option maxRecDepth 100000 in
theorem liftedAngleDiffAdds (os : Os) (started : os.Started) (H : Type) (enc : TypeId × Value → H) :
    ReturnsInHanded {} Try.checked os 5 .any (Rows.angleDiffAddsSpec.pre6 enc Try.prog Try.f5 Rows.angleDiffAddsRow.domain false) (Rows.angleDiffAddsSpec.post enc Try.prog Try.f5 false true false false) := by
  refine returnsInHanded_of_change (C := Try.checked) own started (by kernel_rfl) Try.func5 (ChangeSpec.witness6 (enc := enc) (C := Try.checked) false ⟨#[], #[.int .i64 0, .int .i64 0], []⟩ 8 (by kernel_rfl) (by kernel_rfl) (by kernel_rfl) (by kernel_rfl)) ?_
  intro W base args ds gs before hval hW _ _
  exact law_contract (D := 1) (by kernel_rfl) (of_allOk (by kernel_rfl)) (tb := 4) (by kernel_rfl) (by kernel_rfl) rfl (fun ds h => by
    have h : ds.length = 2 := h
    match ds, h with
    | [d0, d1], _ => rfl) cDiffAdds twoArgs W base args ds gs before hval hW

theorem angleDiffAdds_holds : Rows.AngleDiffAddsSaid :=
  OpenClaim.holds_of_wide 5 Try.f5 rfl rfl rfl rfl rfl rfl rfl ⟨rfl, rfl, rfl, rfl, rfl⟩ rfl rfl rfl rfl rfl (by kernel_rfl) Try.func5 (by kernel_rfl)
    (of_decide_eq_true (by kernel_rfl)) (by unfold Func.isWrapper; first | (rw [if_pos (by decide +kernel)]; kernel_rfl) | (rw [if_neg (by decide +kernel)]; exact ⟨rfl, rfl⟩))
    (fun os started H enc _ => liftedAngleDiffAdds os started H enc)


def oddU (x : Int) : Bool :=
  bif x == -9223372036854775808 then true else bif bif Fx.sin (IntKind.i64.wrap (0 - x)) == IntKind.i64.wrap (0 - Fx.sin x) then Fx.cos (IntKind.i64.wrap (0 - x)) == Fx.cos x else false then true else false
theorem oddU_true (x : Int) (h0 : -9223372036854775808 ≤ x) (h1 : x ≤ 9223372036854775807) : oddU x = true := by
  have h2 := Fx.sin_bounds x
  unfold oddU
  by_cases h : x = -9223372036854775808
  · simp [h]
  · rw [Fx.wrap_i64 (n := 0 - x) (by omega) (by omega), Fx.wrap_i64 (n := 0 - Fx.sin x) (by omega) (by omega), Int.zero_sub, Int.zero_sub, Fx.sin_neg, Fx.cos_neg]
    simp
theorem cSinOdd : Sound Try.prog 6 rangeC :=
  con (lps := noLps) mixed (.cons cSin (.cons cCos (.cons cExample .nil))) Try.func6 (by kernel_rfl) (by kernel_rfl) (noLoops (by kernel_rfl)) (conR oddU oddU_true (fun x => by kernel_rfl))
set_option maxRecDepth 100000 in
theorem liftedAngleSinOdd (os : Os) (started : os.Started) (H : Type) (enc : TypeId × Value → H) :
    ReturnsInHanded {} Try.checked os 6 .any (Rows.angleSinOddSpec.pre6 enc Try.prog Try.f6 Rows.angleSinOddRow.domain false) (Rows.angleSinOddSpec.post enc Try.prog Try.f6 false true false false) := by
  refine returnsInHanded_of_change (C := Try.checked) own started (by kernel_rfl) Try.func6 (ChangeSpec.witness6 (enc := enc) (C := Try.checked) false ⟨#[], #[.int .i64 0], []⟩ 8 (by kernel_rfl) (by kernel_rfl) (by kernel_rfl) (by kernel_rfl)) ?_
  intro W base args ds gs before hval hW _ _
  exact law_contract (D := 1) (by kernel_rfl) (of_allOk (by kernel_rfl)) (tb := 4) (by kernel_rfl) (by kernel_rfl) rfl (fun ds h => by
    have h : ds.length = 1 := h
    match ds, h with
    | [d0], _ => rfl) cSinOdd oneArgs W base args ds gs before hval hW

theorem angleSinOdd_holds : Rows.AngleSinOddSaid :=
  OpenClaim.holds_of_wide 6 Try.f6 rfl rfl rfl rfl rfl rfl rfl ⟨rfl, rfl, rfl, rfl, rfl⟩ rfl rfl rfl rfl rfl (by kernel_rfl) Try.func6 (by kernel_rfl)
    (of_decide_eq_true (by kernel_rfl)) (by unfold Func.isWrapper; first | (rw [if_pos (by decide +kernel)]; kernel_rfl) | (rw [if_neg (by decide +kernel)]; exact ⟨rfl, rfl⟩))
    (fun os started H enc _ => liftedAngleSinOdd os started H enc)


def rotU (x : Int) : Bool :=
  bif bif bif bif decide (Fx.rotc x < -131072) then true else decide (Fx.rotc x > 131072) then true else decide (Fx.rots x < -131072) then true else decide (Fx.rots x > 131072) then false
  else bif bif decide (IntKind.i64.wrap (IntKind.i64.wrap (IntKind.i64.wrap (Fx.rotc x * Fx.rotc x) + IntKind.i64.wrap (Fx.rots x * Fx.rots x)) - 4294967296) < 524288) then decide (IntKind.i64.wrap (IntKind.i64.wrap (IntKind.i64.wrap (Fx.rotc x * Fx.rotc x) + IntKind.i64.wrap (Fx.rots x * Fx.rots x)) - 4294967296) > -524288) else false then true else false
theorem rotU_true (x : Int) : rotU x = true := by
  obtain ⟨h1, h2, h3, h4⟩ := Fx.rot_ok x
  have p1 := Fx.prod_bounds (a := Fx.rotc x) (b := Fx.rotc x) (m := 131072) (by omega) h3.1 h3.2 h3.1 h3.2
  have p2 := Fx.prod_bounds (a := Fx.rots x) (b := Fx.rots x) (m := 131072) (by omega) h4.1 h4.2 h4.1 h4.2
  unfold rotU
  rw [Fx.wrap_i64 (n := Fx.rotc x * Fx.rotc x) (by omega) (by omega), Fx.wrap_i64 (n := Fx.rots x * Fx.rots x) (by omega) (by omega), Fx.wrap_i64 (n := Fx.rotc x * Fx.rotc x + Fx.rots x * Fx.rots x) (by omega) (by omega), Fx.wrap_i64 (n := Fx.rotc x * Fx.rotc x + Fx.rots x * Fx.rots x - 4294967296) (by omega) (by omega)]
  have e1 : ¬ Fx.rotc x < -131072 := by omega
  have e2 : ¬ Fx.rotc x > 131072 := by omega
  have e3 : ¬ Fx.rots x < -131072 := by omega
  have e4 : ¬ Fx.rots x > 131072 := by omega
  rw [decide_eq_false e1, decide_eq_false e2, decide_eq_false e3, decide_eq_false e4, decide_eq_true h2, decide_eq_true h1]
  rfl
theorem cRotUnit : Sound Try.prog 8 rangeC :=
  con (lps := noLps) mixed (.cons cRot (.cons cExample .nil)) Try.func8 (by kernel_rfl) (by kernel_rfl) (noLoops (by kernel_rfl)) (conR rotU (fun x _ _ => rotU_true x) (fun x => by kernel_rfl))
set_option maxRecDepth 100000 in
theorem liftedAngleRotUnit (os : Os) (started : os.Started) (H : Type) (enc : TypeId × Value → H) :
    ReturnsInHanded {} Try.checked os 8 .any (Rows.angleRotUnitSpec.pre6 enc Try.prog Try.f8 Rows.angleRotUnitRow.domain false) (Rows.angleRotUnitSpec.post enc Try.prog Try.f8 false true false false) := by
  refine returnsInHanded_of_change (C := Try.checked) own started (by kernel_rfl) Try.func8 (ChangeSpec.witness6 (enc := enc) (C := Try.checked) false ⟨#[], #[.int .i64 0], []⟩ 8 (by kernel_rfl) (by kernel_rfl) (by kernel_rfl) (by kernel_rfl)) ?_
  intro W base args ds gs before hval hW _ _
  exact law_contract (D := 1) (by kernel_rfl) (of_allOk (by kernel_rfl)) (tb := 4) (by kernel_rfl) (by kernel_rfl) rfl (fun ds h => by
    have h : ds.length = 1 := h
    match ds, h with
    | [d0], _ => rfl) cRotUnit oneArgs W base args ds gs before hval hW

theorem angleRotUnit_holds : Rows.AngleRotUnitSaid :=
  OpenClaim.holds_of_wide 8 Try.f8 rfl rfl rfl rfl rfl rfl rfl ⟨rfl, rfl, rfl, rfl, rfl⟩ rfl rfl rfl rfl rfl (by kernel_rfl) Try.func8 (by kernel_rfl)
    (of_decide_eq_true (by kernel_rfl)) (by unfold Func.isWrapper; first | (rw [if_pos (by decide +kernel)]; kernel_rfl) | (rw [if_neg (by decide +kernel)]; exact ⟨rfl, rfl⟩))
    (fun os started H enc _ => liftedAngleRotUnit os started H enc)


def turnU (x n : Int) (w : Int) : Bool :=
  bif bif bif bif bif Fx.sin n == Fx.sin x then Fx.cos n == Fx.cos x else false then Fx.rotc n == Fx.rotc x && (Fx.rots n == Fx.rots x && true) else false then Fx.diff x n == 0 else false then Fx.cos x == Fx.sin (IntKind.i64.wrap (102944 - w)) else false then true else false
def periodU (x y : Int) : Bool :=
  bif bif decide (x < -4611686018427387904) then true else decide (x > 4611686018427387904) then true
  else bif decide (Fx.norm x < 0) then turnU x (IntKind.i64.wrap (x + IntKind.i64.wrap (IntKind.i64.wrap y * 411776))) (IntKind.i64.wrap (0 - Fx.norm x)) else turnU x (IntKind.i64.wrap (x + IntKind.i64.wrap (IntKind.i64.wrap y * 411776))) (Fx.norm x)
theorem turnU_true {x n w : Int} (h : Fx.norm n = Fx.norm x) (hw : w = Fx.absi (Fx.norm x)) : turnU x n w = true := by
  have h1 : Fx.sin n = Fx.sin x := by unfold Fx.sin; rw [h]
  have h2 : Fx.cos n = Fx.cos x := by unfold Fx.cos; rw [h]
  have h3 : Fx.rotc n = Fx.rotc x := by unfold Fx.rotc; rw [h1, h2]
  have h4 : Fx.rots n = Fx.rots x := by unfold Fx.rots; rw [h1, h2]
  have h5 : Fx.diff x n = 0 := by unfold Fx.diff; rw [h, Int.sub_self]; rfl
  have h6 := Fx.absi_norm x
  have h7 : Fx.cos x = Fx.sin (IntKind.i64.wrap (102944 - w)) := by rw [hw, Fx.wrap_i64 (by omega) (by omega)]; rfl
  unfold turnU
  rw [h1, h2, h3, h4, h5, ← h7]
  simp
theorem periodU_true (x y : Int) (h0 : -128 ≤ y) (h1 : y ≤ 127) : periodU x y = true := by
  unfold periodU
  by_cases a : x < -4611686018427387904
  · simp [a]
  · by_cases b : x > 4611686018427387904
    · simp [b]
    · have h2 := Fx.norm_bounds x
      rw [decide_eq_false a, decide_eq_false b]
      rw [Fx.wrap_i64 (n := y) (by omega) (by omega), Fx.wrap_i64 (n := y * 411776) (by omega) (by omega), Fx.wrap_i64 (n := x + y * 411776) (by omega) (by omega), Fx.wrap_i64 (n := 0 - Fx.norm x) (by omega) (by omega)]
      by_cases c : Fx.norm x < 0
      · rw [decide_eq_true c]
        exact turnU_true (Fx.norm_turns x y) (by unfold Fx.absi; rw [if_pos c]; omega)
      · rw [decide_eq_false c]
        exact turnU_true (Fx.norm_turns x y) (by unfold Fx.absi; rw [if_neg c])
def periodC : Contract := fun | [I _, .fv (.one (.int .i8 y))] => some ([-128 ≤ y ∧ y ≤ 127], Bo true) | _ => none
theorem cPeriod : Sound Try.prog 7 periodC :=
  con (lps := noLps) mixed (.cons cNorm (.cons cSin (.cons cCos (.cons cRot (.cons cDiff (.cons cExample .nil)))))) Try.func7 (by kernel_rfl) (by kernel_rfl) (noLoops (by kernel_rfl)) (fun args ps r e hc => by
    unfold periodC at e
    split at e
    · rename_i x y; cases e
      exact ⟨[], (by kernel_rfl : symFn Try.prog _ noLps 7 [I x, .fv (.one (.int .i8 y))] = some ([], Bo (periodU x y))).trans (by rw [periodU_true x y hc.1.1 hc.1.2]), trivial⟩
    · cases e)
theorem periodArgs : ∀ vs, ArgsAre Try.prog 1 [3, 30] vs → ∃ ps, periodC vs = some (ps, .fv (.one (.bool true))) ∧ Conj ps := by
  intro vs h
  obtain ⟨x, r, rfl, _, _, h⟩ := args_int (k := .i64) (by kernel_rfl) (by kernel_rfl) h
  obtain ⟨y, r, rfl, h0, h1, h⟩ := args_int (k := .i8) (by kernel_rfl) (by kernel_rfl) h
  obtain rfl := args_nil h
  exact ⟨_, rfl, ⟨h0, h1⟩, trivial⟩
set_option maxRecDepth 100000 in
theorem liftedAnglePeriodic (os : Os) (started : os.Started) (H : Type) (enc : TypeId × Value → H) :
    ReturnsInHanded {} Try.checked os 7 .any (Rows.anglePeriodicSpec.pre6 enc Try.prog Try.f7 Rows.anglePeriodicRow.domain false) (Rows.anglePeriodicSpec.post enc Try.prog Try.f7 false true false false) := by
  refine returnsInHanded_of_change (C := Try.checked) own started (by kernel_rfl) Try.func7 (ChangeSpec.witness6 (enc := enc) (C := Try.checked) false ⟨#[], #[.int .i64 0, .int .i8 0], []⟩ 8 (by kernel_rfl) (by kernel_rfl) (by kernel_rfl) (by kernel_rfl)) ?_
  intro W base args ds gs before hval hW _ _
  exact law_contract (D := 1) (by kernel_rfl) (of_allOk (by kernel_rfl)) (tb := 4) (by kernel_rfl) (by kernel_rfl) rfl (fun ds h => by
    have h : ds.length = 2 := h
    match ds, h with
    | [d0, d1], _ => rfl) cPeriod periodArgs W base args ds gs before hval hW

theorem anglePeriodic_holds : Rows.AnglePeriodicSaid :=
  OpenClaim.holds_of_wide 7 Try.f7 rfl rfl rfl rfl rfl rfl rfl ⟨rfl, rfl, rfl, rfl, rfl⟩ rfl rfl rfl rfl rfl (by kernel_rfl) Try.func7 (by kernel_rfl)
    (of_decide_eq_true (by kernel_rfl)) (by unfold Func.isWrapper; first | (rw [if_pos (by decide +kernel)]; kernel_rfl) | (rw [if_neg (by decide +kernel)]; exact ⟨rfl, rfl⟩))
    (fun os started H enc _ => liftedAnglePeriodic os started H enc)

end Go.Proofs.Ytpjpgfiljedfcaa
