/- Proved here: laws of chapter 32 return true for every input. Conditions: none. -/
import Derived.Test.YtmlppmjmgfklnaaGreatSm3
import Derived.Test.YtmlppmjmgfklnaaGreatEngTra
import Derived.RowKit3
open Go Go.Eng
namespace Go.Proofs.YtmlppmjmgfklnaaGreat
open Go.Fx (an orr an_true)

theorem own : ownKnob Tryz.prog.godebug = none := by kernel_rfl
theorem an_self {x y : Bool} (c : Bool) (h : x = true) (h' : y = true) : (bif c then true else an x y) = true := by rw [an_true h h']; cases c <;> rfl
def eBdT : Enc Fx.Bd := ⟨fun _ => none, fun x => .fv (.agg ((bdG x).dropLast ++ [.slc true ⟨.fix, x.fixtures⟩])), fun _ _ h => nomatch h⟩
def dsk (x : Int) : Fx.Bd := ⟨1, 3, x, 0, 0, 0, 0, 0, 0, 0, 0, 0, 0, 0, false, false, false, false, 0, [⟨1, 65536, [⟨0, 0⟩], 65536, 0, 0, false, 0, 0, 0⟩]⟩
theorem cDisk : Sound Tryz.prog 18 (c1 eI eBdT dsk) :=
  con (lps := noLps) mixed .nil Tryz.func18 (by kernel_rfl) (by kernel_rfl) (noLoops (by kernel_rfl)) (k1 (fun _ => by kernel_rfl))
def sm32 (p : Fx.Bd × Fx.Bd) (s : List Fx.Sb) : Bool := an (an (smb23U p.1) (smb23U p.2)) (decide ((s.length : Int) ≤ 8))
theorem cSm32 : Sound Tryz.prog 6 (c2 eBB (eSl .sb) eB sm32) :=
  con (lps := noLps) mixed (.cons rSmb23 .nil) Tryz.func6 (by kernel_rfl) (by kernel_rfl) (noLoops (by kernel_rfl)) (k2 (fun _ _ => by kernel_rfl))
def ex32Q : List Prop := [false = false → (0 : Int) ≤ (0 : Int) ∧ (0 : Int) < (2 : Int), false = false → 0 < 2, false = false → true = true → (0 : Int) ≤ (0 : Int) ∧ (0 : Int) < (2 : Int), false = false → true = true → 0 < 2, false = false → true = true → (0 : Int) ≤ (0 : Int) ∧ (0 : Int) < (2 : Int), false = false → true = true → 0 < 2, false = false → true = true → (0 : Int) ≤ (1 : Int) ∧ (1 : Int) < (2 : Int), false = false → true = true → 1 < 2, false = false → true = true → (0 : Int) ≤ (1 : Int) ∧ (1 : Int) < (2 : Int), false = false → true = true → 1 < 2, false = false → true = true → (0 : Int) ≤ (1 : Int) ∧ (1 : Int) < (2 : Int), false = false → true = true → 1 < 2, false = false → true = true → (0 : Int) ≤ (1 : Int) ∧ (1 : Int) < (2 : Int), false = false → true = true → 1 < 2]
theorem ex32Q_ok : Conj ex32Q := by simp [ex32Q, Conj]
theorem cEx32 : Sound Tryz.prog 7 (c0 eB true) :=
  con (lps := noLps) mixed (.cons cDisk (.cons cPrs (.cons cOff .nil))) Tryz.func7 (by kernel_rfl) (by kernel_rfl) (noLoops (by kernel_rfl)) (g0 ex32Q true (fun _ => ex32Q_ok) (fun _ => rfl) (by kernel_rfl))
theorem lPrismaticRows : Sound Tryz.prog 3 (c5 eJ eBB eI2 (eSl .sb) eI eB (fun _ _ _ _ _ => true)) :=
  con (lps := noLps) mixed (.cons cSm32 (.cons cPrs (.cons rPrs (.cons rReq29 (.cons cOff (.cons rOff (.cons cEx32 .nil))))))) Tryz.func3 (by kernel_rfl) (by kernel_rfl) (noLoops (by kernel_rfl)) (g5 (fun _ _ _ _ _ => []) (fun j p ix s dt => bif !sm32 p s then true else an (an (Fx.rowsEq (Fx.srows j p.1 p.2 ix.1 ix.2 s dt) (Fx.srows j p.1 p.2 ix.1 ix.2 s dt)) (Fx.offset j p.1 p.2 == Fx.offset j p.1 p.2)) true) (fun _ _ _ _ _ _ => trivial) (fun _ _ _ _ _ _ => an_self _ (an_true (Fx.rowsEq_self _) (beq_self_eq_true _)) rfl) (fun _ _ _ _ _ => by kernel_rfl))
theorem aPrismaticRows : ∀ vs, ArgsAre Tryz.prog 8 [27, 34, 35, 36, 3] vs → ∃ ps, (c5 eJ eBB eI2 (eSl .sb) eI eB (fun _ _ _ _ _ => true)) vs = some (ps, .fv (.one (.bool true))) ∧ Conj ps := by
  intro vs h0
  obtain ⟨x0, r, rfl, h1⟩ := args_J (by kernel_rfl) (by kernel_rfl) h0
  obtain ⟨x1, r, rfl, h2⟩ := args_BB (by kernel_rfl) (by kernel_rfl) h1
  obtain ⟨x2, r, rfl, h3⟩ := args_I2 (by kernel_rfl) (by kernel_rfl) h2
  obtain ⟨x3, r, rfl, h4⟩ := args_Slsb (by kernel_rfl) (by kernel_rfl) h3
  obtain ⟨x4, r, rfl, lo4, hi4, h5⟩ := args_int (k := .i64) (by kernel_rfl) (by kernel_rfl) h4
  obtain rfl := args_nil h5
  exact ⟨_, rfl, trivial⟩
set_option maxRecDepth 100000 in
theorem liftedPrismaticRows (os : Os) (started : os.Started) (H : Type) (enc : TypeId × Value → H) :
    ReturnsInHanded {} Tryz.checked os 3 .any (Rows.prismaticRowsSpec.pre6 enc Tryz.prog Tryz.f3 Rows.prismaticRowsRow.domain false) (Rows.prismaticRowsSpec.post enc Tryz.prog Tryz.f3 false true false false) := by
  refine returnsInHanded_of_change (C := Tryz.checked) own started (by kernel_rfl) Tryz.func3 (ChangeSpec.witness6 (enc := enc) (C := Tryz.checked) false ⟨#[], #[.agg #[.int .i64 0, .int .i64 0, .int .i64 0, .int .i64 0, .int .i64 0, .int .i64 0, .int .i64 0, .int .i64 0, .int .i64 0, .int .i64 0, .int .i64 0, .bool false, .int .i64 0, .int .i64 0, .bool false, .int .i64 0, .int .i64 0, .int .i64 0, .int .i64 0, .bool false, .int .i64 0, .int .i64 0, .int .i64 0, .int .i64 0], .agg #[.int .i64 0, .int .i64 0, .int .i64 0, .int .i64 0, .int .i64 0, .int .i64 0, .int .i64 0, .int .i64 0, .int .i64 0, .int .i64 0, .int .i64 0, .int .i64 0, .int .i64 0, .int .i64 0, .bool false, .bool false, .bool false, .bool false, .int .i64 0, .slice none 0 0, .int .i64 0, .int .i64 0, .int .i64 0, .int .i64 0, .int .i64 0, .int .i64 0, .int .i64 0, .int .i64 0, .int .i64 0, .int .i64 0, .int .i64 0, .int .i64 0, .int .i64 0, .int .i64 0, .bool false, .bool false, .bool false, .bool false, .int .i64 0, .slice none 0 0], .agg #[.int .i64 0, .int .i64 0], .slice none 0 0, .int .i64 0], []⟩ 8 (by kernel_rfl) (by kernel_rfl) (by kernel_rfl) (by kernel_rfl)) ?_
  intro W base args ds gs before hval hW _ _
  exact law_contract (D := 8) (by kernel_rfl) (of_allOk (by kernel_rfl)) (tb := 4) (by kernel_rfl) (by kernel_rfl) rfl (fun ds h => by
    have h : ds.length = 5 := h
    match ds, h with
    | [d0, d1, d2, d3, d4], _ => rfl) lPrismaticRows aPrismaticRows W base args ds gs before hval hW

theorem prismaticRows_holds : Rows.PrismaticRowsSaid :=
  OpenClaim.holds_of_wide 3 Tryz.f3 rfl rfl rfl rfl rfl rfl rfl ⟨rfl, rfl, rfl, rfl, rfl⟩ rfl rfl rfl rfl rfl (by kernel_rfl) Tryz.func3 (by kernel_rfl)
    (of_decide_eq_true (by kernel_rfl)) (by unfold Func.isWrapper; first | (rw [if_pos (by decide +kernel)]; kernel_rfl) | (rw [if_neg (by decide +kernel)]; exact ⟨rfl, rfl⟩))
    (fun os started H enc _ => liftedPrismaticRows os started H enc)

theorem lPrismaticAxisRow : Sound Tryz.prog 4 (c5 eJ eBB eI2 eV (eSl .sb) eB (fun _ _ _ _ _ => true)) :=
  con (lps := noLps) mixed (.cons cSm32 (.cons cAxr (.cons rAxr (.cons cEx32 .nil)))) Tryz.func4 (by kernel_rfl) (by kernel_rfl) (noLoops (by kernel_rfl)) (g5 (fun _ _ _ _ _ => []) (fun j p ix n s => bif !sm32 p s then true else an (((Fx.srow j p.1 p.2 ix.1 ix.2 s n 0)).eqb (Fx.srow j p.1 p.2 ix.1 ix.2 s n 0)) true) (fun _ _ _ _ _ _ => trivial) (fun _ _ _ _ _ _ => an_self _ (Fx.Row.eqb_self _) rfl) (fun _ _ _ _ _ => by kernel_rfl))
theorem aPrismaticAxisRow : ∀ vs, ArgsAre Tryz.prog 8 [27, 34, 35, 24, 36] vs → ∃ ps, (c5 eJ eBB eI2 eV (eSl .sb) eB (fun _ _ _ _ _ => true)) vs = some (ps, .fv (.one (.bool true))) ∧ Conj ps := by
  intro vs h0
  obtain ⟨x0, r, rfl, h1⟩ := args_J (by kernel_rfl) (by kernel_rfl) h0
  obtain ⟨x1, r, rfl, h2⟩ := args_BB (by kernel_rfl) (by kernel_rfl) h1
  obtain ⟨x2, r, rfl, h3⟩ := args_I2 (by kernel_rfl) (by kernel_rfl) h2
  obtain ⟨x3, r, rfl, h4⟩ := args_V (by kernel_rfl) (by kernel_rfl) h3
  obtain ⟨x4, r, rfl, h5⟩ := args_Slsb (by kernel_rfl) (by kernel_rfl) h4
  obtain rfl := args_nil h5
  exact ⟨_, rfl, trivial⟩
set_option maxRecDepth 100000 in
theorem liftedPrismaticAxisRow (os : Os) (started : os.Started) (H : Type) (enc : TypeId × Value → H) :
    ReturnsInHanded {} Tryz.checked os 4 .any (Rows.prismaticAxisRowSpec.pre6 enc Tryz.prog Tryz.f4 Rows.prismaticAxisRowRow.domain false) (Rows.prismaticAxisRowSpec.post enc Tryz.prog Tryz.f4 false true false false) := by
  refine returnsInHanded_of_change (C := Tryz.checked) own started (by kernel_rfl) Tryz.func4 (ChangeSpec.witness6 (enc := enc) (C := Tryz.checked) false ⟨#[], #[.agg #[.int .i64 0, .int .i64 0, .int .i64 0, .int .i64 0, .int .i64 0, .int .i64 0, .int .i64 0, .int .i64 0, .int .i64 0, .int .i64 0, .int .i64 0, .bool false, .int .i64 0, .int .i64 0, .bool false, .int .i64 0, .int .i64 0, .int .i64 0, .int .i64 0, .bool false, .int .i64 0, .int .i64 0, .int .i64 0, .int .i64 0], .agg #[.int .i64 0, .int .i64 0, .int .i64 0, .int .i64 0, .int .i64 0, .int .i64 0, .int .i64 0, .int .i64 0, .int .i64 0, .int .i64 0, .int .i64 0, .int .i64 0, .int .i64 0, .int .i64 0, .bool false, .bool false, .bool false, .bool false, .int .i64 0, .slice none 0 0, .int .i64 0, .int .i64 0, .int .i64 0, .int .i64 0, .int .i64 0, .int .i64 0, .int .i64 0, .int .i64 0, .int .i64 0, .int .i64 0, .int .i64 0, .int .i64 0, .int .i64 0, .int .i64 0, .bool false, .bool false, .bool false, .bool false, .int .i64 0, .slice none 0 0], .agg #[.int .i64 0, .int .i64 0], .agg #[.int .i64 0, .int .i64 0], .slice none 0 0], []⟩ 8 (by kernel_rfl) (by kernel_rfl) (by kernel_rfl) (by kernel_rfl)) ?_
  intro W base args ds gs before hval hW _ _
  exact law_contract (D := 8) (by kernel_rfl) (of_allOk (by kernel_rfl)) (tb := 4) (by kernel_rfl) (by kernel_rfl) rfl (fun ds h => by
    have h : ds.length = 5 := h
    match ds, h with
    | [d0, d1, d2, d3, d4], _ => rfl) lPrismaticAxisRow aPrismaticAxisRow W base args ds gs before hval hW

theorem prismaticAxisRow_holds : Rows.PrismaticAxisRowSaid :=
  OpenClaim.holds_of_wide 4 Tryz.f4 rfl rfl rfl rfl rfl rfl rfl ⟨rfl, rfl, rfl, rfl, rfl⟩ rfl rfl rfl rfl rfl (by kernel_rfl) Tryz.func4 (by kernel_rfl)
    (of_decide_eq_true (by kernel_rfl)) (by unfold Func.isWrapper; first | (rw [if_pos (by decide +kernel)]; kernel_rfl) | (rw [if_neg (by decide +kernel)]; exact ⟨rfl, rfl⟩))
    (fun os started H enc _ => liftedPrismaticAxisRow os started H enc)

def nearB (v : Fx.Vec) : Bool := an (an (an (decide (v.x ≥ -33554432)) (decide (v.x ≤ 33554432))) (decide (v.y ≥ -33554432))) (decide (v.y ≤ 33554432))
theorem nearB_of {v : Fx.Vec} (h : nearB v = true) : Fx.Near v := by
  unfold nearB at h
  obtain ⟨h, h4⟩ := Fx.of_an h
  obtain ⟨h, h3⟩ := Fx.of_an h
  obtain ⟨h1, h2⟩ := Fx.of_an h
  exact ⟨⟨of_decide_eq_true h1, of_decide_eq_true h2⟩, of_decide_eq_true h3, of_decide_eq_true h4⟩
theorem cNear32 : Sound Tryz.prog 15 (c1 eV eB nearB) :=
  con (lps := noLps) mixed .nil Tryz.func15 (by kernel_rfl) (by kernel_rfl) (noLoops (by kernel_rfl)) (k1 (fun _ => by kernel_rfl))
def ctr (a : Fx.Bd) : Fx.Vec := ⟨a.md.cx, a.md.cy⟩
def ptG (j : Fx.Joint) (p : Fx.Bd × Fx.Bd) (d : Fx.Vec) (s : List Fx.Sb) : Bool := orr (orr (orr (orr (!sm32 p s) (!nearB p.1.t.p)) (!nearB p.2.t.p)) (!nearB d)) (j.kind == 5)
def ptH (j : Fx.Joint) (p : Fx.Bd × Fx.Bd) (d : Fx.Vec) : Bool := orr (orr (orr (!nearB j.pa) (!nearB j.pb)) (!nearB (ctr (p.1.by d)))) (!nearB (ctr (p.2.by d)))
def ptU (j : Fx.Joint) (p : Fx.Bd × Fx.Bd) (n d : Fx.Vec) (s : List Fx.Sb) : Bool := bif ptG j p d s then true else bif ptH j p d then true else an (an (Fx.offset j (p.1.by d) (p.2.by d) == Fx.offset j p.1 p.2) ((Fx.srow j (p.1.by d) (p.2.by d) 0 1 s n 0).eqb (Fx.srow j p.1 p.2 0 1 s n 0))) true
theorem not_of {b : Bool} (h : (!b) = false) : b = true := by simpa using h
theorem ptU_true (j : Fx.Joint) (p : Fx.Bd × Fx.Bd) (n d : Fx.Vec) (s : List Fx.Sb) : ptU j p n d s = true := by
  unfold ptU
  cases hG : ptG j p d s with
  | true => rfl
  | false =>
    cases hH : ptH j p d with
    | true => rfl
    | false =>
      obtain ⟨g, g5⟩ := Fx.of_orr hG
      obtain ⟨g, g4⟩ := Fx.of_orr g
      obtain ⟨g, g3⟩ := Fx.of_orr g
      obtain ⟨_, g2⟩ := Fx.of_orr g
      obtain ⟨k, k4⟩ := Fx.of_orr hH
      obtain ⟨k, k3⟩ := Fx.of_orr k
      obtain ⟨k1, k2⟩ := Fx.of_orr k
      have a1 := nearB_of (not_of g2); have a2 := nearB_of (not_of g3); have a3 := nearB_of (not_of g4)
      have b1 := nearB_of (not_of k1); have b2 := nearB_of (not_of k2); have b3 := nearB_of (not_of k3); have b4 := nearB_of (not_of k4)
      rw [Fx.offset_moved g5 a1 a2 a3 b1 b2, Fx.srow_moved g5 a1 a2 a3 b1 b2 b3 b4]
      have e : an (an (Fx.offset j p.1 p.2 == Fx.offset j p.1 p.2) ((Fx.srow j p.1 p.2 0 1 s n 0).eqb (Fx.srow j p.1 p.2 0 1 s n 0))) true = true := an_true (an_true (beq_self_eq_true _) (Fx.Row.eqb_self _)) rfl
      rw [e]; rfl
theorem lPrismaticTranslationInvariant : Sound Tryz.prog 5 (c5 eJ eBB eV eV (eSl .sb) eB (fun _ _ _ _ _ => true)) :=
  con (lps := noLps) mixed (.cons cSm32 (.cons cNear32 (.cons rMdB (.cons cOff (.cons cAxr (.cons cEx32 .nil)))))) Tryz.func5 (by kernel_rfl) (by kernel_rfl) (noLoops (by kernel_rfl)) (g5 (fun _ _ _ _ _ => []) ptU (fun _ _ _ _ _ _ => trivial) (fun j p n d s _ => ptU_true j p n d s) (fun _ _ _ _ _ => by kernel_rfl))
theorem aPrismaticTranslationInvariant : ∀ vs, ArgsAre Tryz.prog 8 [27, 34, 24, 24, 36] vs → ∃ ps, (c5 eJ eBB eV eV (eSl .sb) eB (fun _ _ _ _ _ => true)) vs = some (ps, .fv (.one (.bool true))) ∧ Conj ps := by
  intro vs h0
  obtain ⟨x0, r, rfl, h1⟩ := args_J (by kernel_rfl) (by kernel_rfl) h0
  obtain ⟨x1, r, rfl, h2⟩ := args_BB (by kernel_rfl) (by kernel_rfl) h1
  obtain ⟨x2, r, rfl, h3⟩ := args_V (by kernel_rfl) (by kernel_rfl) h2
  obtain ⟨x3, r, rfl, h4⟩ := args_V (by kernel_rfl) (by kernel_rfl) h3
  obtain ⟨x4, r, rfl, h5⟩ := args_Slsb (by kernel_rfl) (by kernel_rfl) h4
  obtain rfl := args_nil h5
  exact ⟨_, rfl, trivial⟩
set_option maxRecDepth 100000 in
theorem liftedPrismaticTranslationInvariant (os : Os) (started : os.Started) (H : Type) (enc : TypeId × Value → H) :
    ReturnsInHanded {} Tryz.checked os 5 .any (Rows.prismaticTranslationInvariantSpec.pre6 enc Tryz.prog Tryz.f5 Rows.prismaticTranslationInvariantRow.domain false) (Rows.prismaticTranslationInvariantSpec.post enc Tryz.prog Tryz.f5 false true false false) := by
  refine returnsInHanded_of_change (C := Tryz.checked) own started (by kernel_rfl) Tryz.func5 (ChangeSpec.witness6 (enc := enc) (C := Tryz.checked) false ⟨#[], #[.agg #[.int .i64 0, .int .i64 0, .int .i64 0, .int .i64 0, .int .i64 0, .int .i64 0, .int .i64 0, .int .i64 0, .int .i64 0, .int .i64 0, .int .i64 0, .bool false, .int .i64 0, .int .i64 0, .bool false, .int .i64 0, .int .i64 0, .int .i64 0, .int .i64 0, .bool false, .int .i64 0, .int .i64 0, .int .i64 0, .int .i64 0], .agg #[.int .i64 0, .int .i64 0, .int .i64 0, .int .i64 0, .int .i64 0, .int .i64 0, .int .i64 0, .int .i64 0, .int .i64 0, .int .i64 0, .int .i64 0, .int .i64 0, .int .i64 0, .int .i64 0, .bool false, .bool false, .bool false, .bool false, .int .i64 0, .slice none 0 0, .int .i64 0, .int .i64 0, .int .i64 0, .int .i64 0, .int .i64 0, .int .i64 0, .int .i64 0, .int .i64 0, .int .i64 0, .int .i64 0, .int .i64 0, .int .i64 0, .int .i64 0, .int .i64 0, .bool false, .bool false, .bool false, .bool false, .int .i64 0, .slice none 0 0], .agg #[.int .i64 0, .int .i64 0], .agg #[.int .i64 0, .int .i64 0], .slice none 0 0], []⟩ 8 (by kernel_rfl) (by kernel_rfl) (by kernel_rfl) (by kernel_rfl)) ?_
  intro W base args ds gs before hval hW _ _
  exact law_contract (D := 8) (by kernel_rfl) (of_allOk (by kernel_rfl)) (tb := 4) (by kernel_rfl) (by kernel_rfl) rfl (fun ds h => by
    have h : ds.length = 5 := h
    match ds, h with
    | [d0, d1, d2, d3, d4], _ => rfl) lPrismaticTranslationInvariant aPrismaticTranslationInvariant W base args ds gs before hval hW

theorem prismaticTranslationInvariant_holds : Rows.PrismaticTranslationInvariantSaid :=
  OpenClaim.holds_of_wide 5 Tryz.f5 rfl rfl rfl rfl rfl rfl rfl ⟨rfl, rfl, rfl, rfl, rfl⟩ rfl rfl rfl rfl rfl (by kernel_rfl) Tryz.func5 (by kernel_rfl)
    (of_decide_eq_true (by kernel_rfl)) (by unfold Func.isWrapper; first | (rw [if_pos (by decide +kernel)]; kernel_rfl) | (rw [if_neg (by decide +kernel)]; exact ⟨rfl, rfl⟩))
    (fun os started H enc _ => liftedPrismaticTranslationInvariant os started H enc)

end Go.Proofs.YtmlppmjmgfklnaaGreat
