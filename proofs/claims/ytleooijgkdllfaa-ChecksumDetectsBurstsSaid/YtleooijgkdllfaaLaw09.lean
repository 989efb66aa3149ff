/- Proved here: laws of chapter 9 return true for every input. Conditions: none. -/
import Derived.Test.YtleooijgkdllfaaChk
import Derived.Test.YtleooijgkdllfaaEngArg
import Derived.Test.YtleooijgkdllfaaEngPl
import Derived.RowKit3
open Go Go.Eng
namespace Go.Proofs.Ytleooijgkdllfaa
open Go.Fx (an orr an_true)

theorem own : ownKnob Try.prog.godebug = none := by kernel_rfl
def fewL (l : List Int) : List Prop := [l.length ≤ 65536]
theorem args_Slu8 {P : Program} {D : Nat} {t : TypeId} {ts : List TypeId} {vs : List PV} (ha : isAggT P t = false) (hl : leafs P D t = [.slc .u8]) (h : ArgsAre P D (t :: ts) vs) : ∃ (v : List (K.Ty .u8)) (rest : _), vs = (eSl .u8).pv v :: rest ∧ ArgsAre P D ts rest := by
  obtain ⟨l, r, h1, _, h2⟩ := args_Sl .u8 ha hl h
  exact ⟨l, r, h1, h2⟩
section
variable (cr hs : List Int → Int) (sl : List Int → List Int) (op : List Int → List Int × Int)
def exA : Bool := an (cr [49, 50, 51, 52, 53, 54, 55, 56, 57] == 3808858755) (hs [] == 0)
def exB : Bool := an (exA cr hs) (((op (sl [7])).1.length : Int) == 1)
def ex09U : Bool := an (an (exB cr hs sl op) ((op (sl [7])).1.getD 0 0 == 7)) ((op (sl [7])).2 == 0)
def ex09Q : List Prop := [([7] : List Int).length ≤ 65536, (sl [7]).length ≤ 65536, 0 < 9, ([49, 50, 51, 52, 53, 54, 55, 56, 57] : List Int).length ≤ 65536, (cr [49, 50, 51, 52, 53, 54, 55, 56, 57] == 3808858755) = true → ([] : List Int).length ≤ 65536, exB cr hs sl op = true → (0 : Int) ≤ 0 ∧ (0 : Int) < ((op (sl [7])).1.length : Int)]
theorem ex09Eq : symFn Try.prog (tbl [(16, p1 (eSl .u8) eU32 fewL cr), (14, p1 (eSl .i64) eU fewL hs), (10, still (p1 (eSl .u8) (eFr 5 .u8) fewL sl)), (11, p1 (eSl .u8) eOpn fewL op)]) noLps 9 [] = some (ex09Q cr hs sl op, eB.pv (ex09U cr hs sl op)) := by kernel_rfl
end
theorem crc9 : Fx.crc [49, 50, 51, 52, 53, 54, 55, 56, 57] = 3808858755 := by decide +kernel
theorem ex09U_true : ex09U Fx.crc Fx.hash Fx.sld Fx.opn = true := by
  unfold ex09U exB exA
  rw [crc9, Fx.opn_sld [7] (by decide)]
  rfl
theorem ex09Q_ok : Conj (ex09Q Fx.crc Fx.hash Fx.sld Fx.opn) := by
  refine ⟨by decide, ?_, by decide, by decide, fun _ => by decide, fun _ => ?_, trivial⟩
  · rw [Fx.sld_len]; decide
  · rw [Fx.opn_sld [7] (by decide)]; decide
theorem cEx09 : Sound Try.prog 9 (c0 eB true) :=
  con (lps := noLps) mixed (AllSound.cons cCrc (.cons cHsh (.cons cSldS (.cons cOpn .nil)))) Try.func9 (by kernel_rfl) (by kernel_rfl) (noLoops (by kernel_rfl))
    (g0 (ex09Q Fx.crc Fx.hash Fx.sld Fx.opn) (ex09U Fx.crc Fx.hash Fx.sld Fx.opn) (fun _ => ex09Q_ok) (fun _ => ex09U_true) (ex09Eq Fx.crc Fx.hash Fx.sld Fx.opn))
section
variable (sl : List Int → List Int) (op : List Int → List Int × Int) (l : List Int)
def seG : Bool := decide ((l.length : Int) > 400)
def seA : Bool := ((sl l).length : Int) != Fx.w64 ((l.length : Int) + 4)
def seB : Bool := orr (orr (orr (seA sl l) (!strEq (strOf (List.take (l.length : Int).toNat (sl l))) (strOf l))) ((op (sl l)).2 != 0)) (!strEq (strOf (op (sl l)).1) (strOf l))
def seU : Bool := bif seG l then true else bif seB sl op l then false else an ((op (List.take (Int.toNat 3) (sl l))).2 == 4) true
def seQ : List Prop := [seG l = false → l.length ≤ 65536, seG l = false → (sl l).length ≤ 65536, seG l = false → seA sl l = false → 0 ≤ (l.length : Int) ∧ (l.length : Int) ≤ ((sl l).length : Int), seG l = false → seB sl op l = false → (0 : Int) ≤ 3 ∧ (3 : Int) ≤ ((sl l).length : Int), seG l = false → seB sl op l = false → (List.take (Int.toNat 3) (sl l)).length ≤ 65536]
theorem seEq : symFn Try.prog (tbl [(10, still (p1 (eSl .u8) (eFr 5 .u8) fewL sl)), (11, p1 (eSl .u8) eOpn fewL op), (9, c0 eB true)]) noLps 3 [(eSl .u8).pv l] = some (seQ sl op l, eB.pv (seU sl op l)) := by kernel_rfl
end
theorem seG_no {l : List Int} (h : seG l = false) : l.length ≤ 400 := by have := of_decide_eq_false h; omega
theorem seU_true (l : List Int) : seU Fx.sld Fx.opn l = true := by
  unfold seU
  cases hG : seG l with
  | true => rfl
  | false =>
    have hl := seG_no hG
    have hA : seA Fx.sld l = false := by
      unfold seA
      rw [Fx.sld_len, Fx.w64_id (by omega) (by omega)]
      simp
    have hB : seB Fx.sld Fx.opn l = false := by
      unfold seB
      rw [hA, Int.toNat_natCast, Fx.sld_take, Fx.opn_sld l (by omega), strEq_self]
      rfl
    have ht : (List.take (Int.toNat 3) (Fx.sld l)).length = 3 := by
      rw [List.length_take, Fx.sld_len]
      show min 3 _ = _
      omega
    have h3 : (Fx.opn (List.take (Int.toNat 3) (Fx.sld l))).2 = 4 := by
      unfold Fx.opn Fx.openN
      rw [ht]
      rfl
    rw [hB, h3]
    rfl
theorem seQ_ok (l : List Int) : Conj (seQ Fx.sld Fx.opn l) := by
  refine ⟨fun h => ?_, fun h => ?_, fun h _ => ?_, fun h _ => ?_, fun h _ => ?_, trivial⟩ <;> have hl := seG_no h
  · omega
  · rw [Fx.sld_len]; omega
  · rw [Fx.sld_len]; omega
  · rw [Fx.sld_len]; omega
  · exact Nat.le_trans (List.length_take_le _ _) (by decide)
theorem lChecksumSeal : Sound Try.prog 3 (c1 (eSl .u8) eB (fun _ => true)) :=
  con (lps := noLps) mixed (AllSound.cons cSldS (.cons cOpn (.cons cEx09 .nil))) Try.func3 (by kernel_rfl) (by kernel_rfl) (noLoops (by kernel_rfl))
    (g1 (fun l => seQ Fx.sld Fx.opn l) (fun l => seU Fx.sld Fx.opn l) (fun l _ => seQ_ok l) (fun l _ => seU_true l) (fun l => seEq Fx.sld Fx.opn l))
theorem aChecksumSeal : ∀ vs, ArgsAre Try.prog 8 [22] vs → ∃ ps, (c1 (eSl .u8) eB (fun _ => true)) vs = some (ps, .fv (.one (.bool true))) ∧ Conj ps := by
  intro vs h0
  obtain ⟨x0, r, rfl, h1⟩ := args_Slu8 (by kernel_rfl) (by kernel_rfl) h0
  obtain rfl := args_nil h1
  exact ⟨_, rfl, trivial⟩
set_option maxRecDepth 100000 in
theorem liftedChecksumSeal (os : Os) (started : os.Started) (H : Type) (enc : TypeId × Value → H) :
    ReturnsInHanded {} Try.checked os 3 .any (Rows.checksumSealSpec.pre6 enc Try.prog Try.f3 Rows.checksumSealRow.domain false) (Rows.checksumSealSpec.post enc Try.prog Try.f3 false true false false) := by
  refine returnsInHanded_of_change (C := Try.checked) own started (by kernel_rfl) Try.func3 (ChangeSpec.witness6 (enc := enc) (C := Try.checked) false ⟨#[], #[.slice none 0 0], []⟩ 8 (by kernel_rfl) (by kernel_rfl) (by kernel_rfl) (by kernel_rfl)) ?_
  intro W base args ds gs before hval hW _ _
  exact law_contract (D := 8) (by kernel_rfl) (of_allOk (by kernel_rfl)) (tb := 4) (by kernel_rfl) (by kernel_rfl) rfl (fun ds h => by
    have h : ds.length = 1 := h
    match ds, h with
    | [d0], _ => rfl) lChecksumSeal aChecksumSeal W base args ds gs before hval hW

theorem checksumSeal_holds : Rows.ChecksumSealSaid :=
  OpenClaim.holds_of_wide 3 Try.f3 rfl rfl rfl rfl rfl rfl rfl ⟨rfl, rfl, rfl, rfl, rfl⟩ rfl rfl rfl rfl rfl (by kernel_rfl) Try.func3 (by kernel_rfl)
    (of_decide_eq_true (by kernel_rfl)) (by unfold Func.isWrapper; first | (rw [if_pos (by decide +kernel)]; kernel_rfl) | (rw [if_neg (by decide +kernel)]; exact ⟨rfl, rfl⟩))
    (fun os started H enc _ => liftedChecksumSeal os started H enc)

section
variable (op : List Int → List Int × Int) (eq : List Int → List Int → Bool) (l : List Int)
def oeU : Bool := bif seG l then true else an (an (eq (op l).1 (op l).1) ((op l).2 == (op l).2)) true
def oeQ : List Prop := [seG l = false → l.length ≤ 65536, seG l = false → l.length ≤ 65536]
theorem oeEq : symFn Try.prog (tbl [(11, p1 (eSl .u8) eOpn fewL op), (20, p1 (eSl .u8) eOpn fewL op), (18, c2 (eSl .u8) (eSl .u8) eB eq), (9, c0 eB true)]) noLps 5 [(eSl .u8).pv l] = some (oeQ l, eB.pv (oeU op eq l)) := by kernel_rfl
end
theorem oeU_true (l : List Int) : oeU Fx.opn (fun l m => strEq (strOf l) (strOf m)) l = true := by
  unfold oeU
  simp only [strEq_self, beq_self_eq_true]
  cases seG l <;> rfl
theorem oeQ_ok (l : List Int) : Conj (oeQ l) := ⟨fun h => by have := seG_no h; omega, fun h => by have := seG_no h; omega, trivial⟩
theorem lChecksumOpenExact : Sound Try.prog 5 (c1 (eSl .u8) eB (fun _ => true)) :=
  con (lps := noLps) mixed (AllSound.cons cOpn (.cons rOpn (.cons rBeq (.cons cEx09 .nil)))) Try.func5 (by kernel_rfl) (by kernel_rfl) (noLoops (by kernel_rfl))
    (g1 (fun l => oeQ l) (fun l => oeU Fx.opn (fun l m => strEq (strOf l) (strOf m)) l) (fun l _ => oeQ_ok l) (fun l _ => oeU_true l) (fun l => oeEq Fx.opn (fun l m => strEq (strOf l) (strOf m)) l))
theorem aChecksumOpenExact : ∀ vs, ArgsAre Try.prog 8 [22] vs → ∃ ps, (c1 (eSl .u8) eB (fun _ => true)) vs = some (ps, .fv (.one (.bool true))) ∧ Conj ps := by
  intro vs h0
  obtain ⟨x0, r, rfl, h1⟩ := args_Slu8 (by kernel_rfl) (by kernel_rfl) h0
  obtain rfl := args_nil h1
  exact ⟨_, rfl, trivial⟩
set_option maxRecDepth 100000 in
theorem liftedChecksumOpenExact (os : Os) (started : os.Started) (H : Type) (enc : TypeId × Value → H) :
    ReturnsInHanded {} Try.checked os 5 .any (Rows.checksumOpenExactSpec.pre6 enc Try.prog Try.f5 Rows.checksumOpenExactRow.domain false) (Rows.checksumOpenExactSpec.post enc Try.prog Try.f5 false true false false) := by
  refine returnsInHanded_of_change (C := Try.checked) own started (by kernel_rfl) Try.func5 (ChangeSpec.witness6 (enc := enc) (C := Try.checked) false ⟨#[], #[.slice none 0 0], []⟩ 8 (by kernel_rfl) (by kernel_rfl) (by kernel_rfl) (by kernel_rfl)) ?_
  intro W base args ds gs before hval hW _ _
  exact law_contract (D := 8) (by kernel_rfl) (of_allOk (by kernel_rfl)) (tb := 4) (by kernel_rfl) (by kernel_rfl) rfl (fun ds h => by
    have h : ds.length = 1 := h
    match ds, h with
    | [d0], _ => rfl) lChecksumOpenExact aChecksumOpenExact W base args ds gs before hval hW

theorem checksumOpenExact_holds : Rows.ChecksumOpenExactSaid :=
  OpenClaim.holds_of_wide 5 Try.f5 rfl rfl rfl rfl rfl rfl rfl ⟨rfl, rfl, rfl, rfl, rfl⟩ rfl rfl rfl rfl rfl (by kernel_rfl) Try.func5 (by kernel_rfl)
    (of_decide_eq_true (by kernel_rfl)) (by unfold Func.isWrapper; first | (rw [if_pos (by decide +kernel)]; kernel_rfl) | (rw [if_neg (by decide +kernel)]; exact ⟨rfl, rfl⟩))
    (fun os started H enc _ => liftedChecksumOpenExact os started H enc)

noncomputable def hstL : List (FuncId × Contract) := [(12, c2 eU eI eU Fx.mix)]
def hstTv (c : (List Int)) (i : Nat) (x : (Int)) : List TV := [.val ((eSl .i64).pv c), .val (Bo false), .val (eU.pv x), .val (I (i : Int))]
def hstMv (_c : (List Int)) (_i : Nat) (_x : (Int)) : List MRes := []
def hstDec : List TV → List MRes → Option (List Prop × ((List Int)) × ((Int)))
  | [.val (.fv (.one (.slc false ⟨.i64, l⟩))), .val (Bo z), .val (.fv (.one (.int .u64 h))), .val (I i)], [] => some ([z = false, i = 0, l.length ≤ 65536], l, h)
  | _, _ => none
def hstOk (c : (List Int)) : Prop := c.length ≤ 65536
def hstInv (_c : (List Int)) (_i : Nat) (_x : (Int)) : Prop := True
theorem hstDec_ok (ts : List TV) (ms : List MRes) (ps : List Prop) (c : (List Int)) (x : (Int)) (h : hstDec ts ms = some (ps, c, x)) (hp : Conj ps) : ts = hstTv c 0 x ∧ ms = hstMv c 0 x ∧ hstOk c ∧ hstInv c 0 x := by
  unfold hstDec at h
  split at h
  · cases h
    obtain ⟨rfl, rfl, hok, _⟩ := hp
    exact ⟨rfl, rfl, hok, trivial⟩
  · cases h
def hstStep (c : (List Int)) (i : Nat) (x : (Int)) : (Int) := ((Fx.mix x (c.getD i 0)))
def hstV (c : (List Int)) (i : Nat) (x : (Int)) : VT := VT.ite (decide ((i : Int) < (c.length : Int))) (VT.pre [0 ≤ (i : Int) ∧ (i : Int) < ((c).length : Int)] (VT.leaf Ex.norm 31 [.val ((eSl .i64).pv c), .val (Bo false), .val (eU.pv (Fx.mix x (c.getD i 0))), .val (I (IntKind.i64.wrap ((i : Int) + 1)))] [])) (VT.leaf (Ex.exit 0) 31 [.val ((eSl .i64).pv c), .val (Bo false), .val (eU.pv x), .val (I (i : Int))] [])
theorem hstV_eq (c : (List Int)) (i : Nat) (x : (Int)) : viewT [0, 2, 3, 4] [] (sexec Try.prog (tbl hstL) (noLps) (lbN 0 Try.f8) (headSt 31 9 [0, 2, 3, 4] [] (hstTv c i x) (hstMv c i x))) = hstV c i x := by kernel_rfl
noncomputable def hstT : St → Tree := forT0 31 9 [0, 2, 3, 4] [] hstDec (fun c => c.length) hstTv hstMv hstStep 0
theorem hstA : AllSound Try.prog hstL := (.cons cMix .nil)
theorem hstLoop : LoopOk Try.prog hstT (lbN 0 Try.f8) :=
  forT0_ok mixed hstA.tbl (noLoops (by kernel_rfl)) [] (bn := fun c => True) (inv := hstInv) hstDec_ok (fun _ _ => ⟨⟨.inr rfl, .inr rfl, .inr rfl, .inr rfl, trivial⟩, trivial, rfl, rfl, rfl⟩)
    (fun _ _ _ _ _ _ hr h1 h2 => by
      trivial)
    (fun c i x hok hn hinv hi => ⟨_, hstV_eq c i x, by
      refine ⟨fun h => ?_, fun h => ?_⟩
      · have h : i < c.length := by simpa using h
        refine ⟨⟨⟨by omega, by first | omega | (have := h; omega)⟩, trivial⟩, ?_⟩
        rw [wrap_succ h (by have h2 : c.length ≤ 65536 := hok; simp only [maxLen]; omega)]
        exact ⟨rfl, ((Fx.mix x (c.getD i 0))), [], h, by unfold hstStep; rfl, trivial, ⟨.inr rfl, .inr rfl, .inr rfl, .inr rfl, trivial⟩, trivial, rfl, rfl, rfl⟩
      · have h : ¬ i < c.length := by simpa using h
        exact ⟨rfl, .inl ⟨rfl, by omega, [], ⟨.inr rfl, .inr rfl, .inr rfl, .inr rfl, trivial⟩, trivial, rfl, rfl, rfl⟩⟩⟩)
section
variable (hs : List Int → Int) (l : List Int)
def hsG : Bool := decide ((l.length : Int) > 60)
def hsU : Bool := bif hsG l then true else an (hs l == foldN (hstStep l) l.length 0 (Fx.wU (l.length : Int))) true
def hsQ : List Prop := [hsG l = false → false = false, hsG l = false → (0 : Int) = 0, hsG l = false → l.length ≤ 65536, hsG l = false → l.length ≤ 65536]
theorem hsEq : symFn Try.prog (tbl [(14, p1 (eSl .i64) eU fewL hs), (9, c0 eB true)]) (fun _ => hstT) 8 [(eSl .i64).pv l] = some (hsQ l, eB.pv (hsU hs l)) := by kernel_rfl
end
theorem hsG_no {l : List Int} (h : hsG l = false) : l.length ≤ 60 := by have := of_decide_eq_false h; omega
theorem hsU_true (l : List Int) : hsU Fx.hash l = true := by
  unfold hsU
  have e : foldN (hstStep l) l.length 0 (Fx.wU (l.length : Int)) = Fx.hash l := rfl
  rw [e, beq_self_eq_true]
  cases hsG l <;> rfl
theorem hsQ_ok (l : List Int) : Conj (hsQ l) := ⟨fun _ => rfl, fun _ => rfl, fun h => by have := hsG_no h; omega, fun h => by have := hsG_no h; omega, trivial⟩
theorem lChecksumHashSteps : Sound Try.prog 8 (c1 (eSl .i64) eB (fun _ => true)) :=
  con (lps := fun _ => hstT) mixed (AllSound.cons cHsh (.cons cEx09 .nil)) Try.func8 (by kernel_rfl) (by kernel_rfl) (oneLoop (lps := fun _ => hstT) (b := lbN 0 Try.f8) (by kernel_rfl) hstLoop)
    (g1 (fun l => hsQ l) (fun l => hsU Fx.hash l) (fun l _ => hsQ_ok l) (fun l _ => hsU_true l) (fun l => hsEq Fx.hash l))
theorem aChecksumHashSteps : ∀ vs, ArgsAre Try.prog 8 [30] vs → ∃ ps, (c1 (eSl .i64) eB (fun _ => true)) vs = some (ps, .fv (.one (.bool true))) ∧ Conj ps := by
  intro vs h0
  obtain ⟨x0, r, rfl, h1⟩ := args_Sli64 (by kernel_rfl) (by kernel_rfl) h0
  obtain rfl := args_nil h1
  exact ⟨_, rfl, trivial⟩
set_option maxRecDepth 100000 in
theorem liftedChecksumHashSteps (os : Os) (started : os.Started) (H : Type) (enc : TypeId × Value → H) :
    ReturnsInHanded {} Try.checked os 8 .any (Rows.checksumHashStepsSpec.pre6 enc Try.prog Try.f8 Rows.checksumHashStepsRow.domain false) (Rows.checksumHashStepsSpec.post enc Try.prog Try.f8 false true false false) := by
  refine returnsInHanded_of_change (C := Try.checked) own started (by kernel_rfl) Try.func8 (ChangeSpec.witness6 (enc := enc) (C := Try.checked) false ⟨#[], #[.slice none 0 0], []⟩ 8 (by kernel_rfl) (by kernel_rfl) (by kernel_rfl) (by kernel_rfl)) ?_
  intro W base args ds gs before hval hW _ _
  exact law_contract (D := 8) (by kernel_rfl) (of_allOk (by kernel_rfl)) (tb := 4) (by kernel_rfl) (by kernel_rfl) rfl (fun ds h => by
    have h : ds.length = 1 := h
    match ds, h with
    | [d0], _ => rfl) lChecksumHashSteps aChecksumHashSteps W base args ds gs before hval hW

theorem checksumHashSteps_holds : Rows.ChecksumHashStepsSaid :=
  OpenClaim.holds_of_wide 8 Try.f8 rfl rfl rfl rfl rfl rfl rfl ⟨rfl, rfl, rfl, rfl, rfl⟩ rfl rfl rfl rfl rfl (by kernel_rfl) Try.func8 (by kernel_rfl)
    (of_decide_eq_true (by kernel_rfl)) (by unfold Func.isWrapper; first | (rw [if_pos (by decide +kernel)]; kernel_rfl) | (rw [if_neg (by decide +kernel)]; exact ⟨rfl, rfl⟩))
    (fun os started H enc _ => liftedChecksumHashSteps os started H enc)

noncomputable def exlL : List (FuncId × Contract) := [(12, c2 eU eI eU Fx.mix), (13, c2 eU eI eU Fx.mix)]
def exlTv (c : (Int) × (List Int) × (List Int)) (i : Nat) (_x : Unit) : List TV := [.val (eU.pv c.1), .val ((eSl .i64).pv c.2.1), .val ((eSl .u8).pv c.2.2), .val (Bo false), .val (I (i : Int))]
def exlMv (_c : (Int) × (List Int) × (List Int)) (_i : Nat) (_x : Unit) : List MRes := []
def exlEtv (_c : (Int) × (List Int) × (List Int)) (_e : Unit) : List TV := [.any, .any, .any, .val (Bo false), .any]
def exlEmv (_c : (Int) × (List Int) × (List Int)) (_e : Unit) : List MRes := []
def exlDec : List TV → List MRes → Option (List Prop × ((Int) × (List Int) × (List Int)) × (Unit))
  | [.val (.fv (.one (.int .u64 h))), .val (.fv (.one (.slc false ⟨.i64, l⟩))), .val (.fv (.one (.slc false ⟨.u8, b⟩))), .val (Bo z), .val (I i)], [] => some ([z = false, i = 0, l.length ≤ 65536], (h, l, b), ())
  | _, _ => none
def exlOk (c : (Int) × (List Int) × (List Int)) : Prop := c.2.1.length ≤ 65536
def exlInv (_c : (Int) × (List Int) × (List Int)) (_i : Nat) (_x : Unit) : Prop := True
theorem exlDec_ok (ts : List TV) (ms : List MRes) (ps : List Prop) (c : (Int) × (List Int) × (List Int)) (x : Unit) (h : exlDec ts ms = some (ps, c, x)) (hp : Conj ps) : ts = exlTv c 0 x ∧ ms = exlMv c 0 x ∧ exlOk c ∧ exlInv c 0 x := by
  unfold exlDec at h
  split at h
  · cases h
    obtain ⟨rfl, rfl, hok, _⟩ := hp
    exact ⟨rfl, rfl, hok, trivial⟩
  · cases h
def exlStep (c : (Int) × (List Int) × (List Int)) (i : Nat) (_x : Unit) : Sum (Unit) (Unit) := bif (Fx.mix c.1 (c.2.1.getD i 0) != Fx.mix c.1 (c.2.1.getD i 0)) then .inr () else .inl ()
def exlV (c : (Int) × (List Int) × (List Int)) (i : Nat) (_x : Unit) : VT := VT.ite (decide ((i : Int) < (c.2.1.length : Int))) (VT.pre [0 ≤ (i : Int) ∧ (i : Int) < (c.2.1.length : Int), 0 ≤ (i : Int) ∧ (i : Int) < (c.2.1.length : Int)] (VT.ite ((Fx.mix c.1 (c.2.1.getD i 0) != Fx.mix c.1 (c.2.1.getD i 0))) (VT.leaf (Ex.ret) 58 [.val (eU.pv c.1), .val ((eSl .i64).pv c.2.1), .val ((eSl .u8).pv c.2.2), .val (Bo false), .val (I (i : Int))] []) (VT.leaf Ex.norm 58 [.val (eU.pv c.1), .val ((eSl .i64).pv c.2.1), .val ((eSl .u8).pv c.2.2), .val (Bo false), .val (I (IntKind.i64.wrap ((i : Int) + 1)))] []))) (VT.leaf (Ex.exit 0) 58 [.val (eU.pv c.1), .val ((eSl .i64).pv c.2.1), .val ((eSl .u8).pv c.2.2), .val (Bo false), .val (I (i : Int))] [])
theorem exlV_eq (c : (Int) × (List Int) × (List Int)) (i : Nat) (x : Unit) : viewT [0, 1, 2, 6, 7] [] (sexec Try.prog (tbl exlL) (noLps) (lbN 0 Try.f4) (headSt 58 10 [0, 1, 2, 6, 7] [] (exlTv c i x) (exlMv c i x))) = exlV c i x := by kernel_rfl
noncomputable def exlT : St → Tree := forT 58 10 [0, 1, 2, 6, 7] [] exlDec (fun c => c.2.1.length) exlTv exlMv exlEtv exlEmv exlStep () 0 .ret
theorem exlA : AllSound Try.prog exlL := (.cons cMix (.cons rMix .nil))
theorem exlLoop : LoopOk Try.prog exlT (lbN 0 Try.f4) :=
  forT_ok mixed exlA.tbl (noLoops (by kernel_rfl)) [] (bn := fun c => True) (inv := exlInv) exlDec_ok (fun _ _ => ⟨⟨.inr rfl, .inr rfl, .inr rfl, .inr rfl, .inr rfl, trivial⟩, trivial, rfl, rfl, rfl⟩)
    (fun _ _ _ _ _ _ hr h1 h2 => by
      trivial)
    (fun c i x hok hn hinv hi => ⟨_, exlV_eq c i x, by
      refine ⟨fun h => ?_, fun h => ?_⟩
      · have h : i < c.2.1.length := by simpa using h
        refine ⟨⟨⟨by omega, by omega⟩, ⟨by omega, by omega⟩, trivial⟩, ?_⟩
        refine ⟨fun hb2 => ?_, fun hb2 => ?_⟩
        · exact ⟨rfl, .inr ⟨rfl, h, (), [], by unfold exlStep; first | rfl | ((try dsimp only); (try rw [hb2]); rfl), ⟨.inl rfl, .inl rfl, .inl rfl, .inr rfl, .inl rfl, trivial⟩, trivial, rfl, rfl, rfl⟩⟩
        · rw [wrap_succ h (by have h2 : c.2.1.length ≤ 65536 := hok; simp only [maxLen]; omega)]
          exact ⟨rfl, (), [], h, by unfold exlStep; first | rfl | ((try dsimp only); (try rw [hb2]); rfl), trivial, ⟨.inr rfl, .inr rfl, .inr rfl, .inr rfl, .inr rfl, trivial⟩, trivial, rfl, rfl, rfl⟩
      · have h : ¬ i < c.2.1.length := by simpa using h
        exact ⟨rfl, .inl ⟨rfl, by omega, [], ⟨.inr rfl, .inr rfl, .inr rfl, .inr rfl, .inr rfl, trivial⟩, trivial, rfl, rfl, rfl⟩⟩⟩)
section
variable (hs cr : List Int → Int) (sl : List Int → List Int) (eq : List Int → List Int → Bool) (h : Int) (l b : List Int)
def eaG : Bool := orr (decide ((l.length : Int) > 60)) (decide ((b.length : Int) > 400))
def eaL : Bool := isL (runF (exlStep (h, l, b)) l.length 0 ())
def eaH : Bool := an (hs l == hs l) (cr b == cr b)
def eaU : Bool := bif eaG l b then true else bif eaL h l b then (an (an (eaH hs cr l b) (eq (sl b) (sl b))) true) else false
def eaQ : List Prop := [eaG l b = false → false = false, eaG l b = false → (0 : Int) = 0, eaG l b = false → l.length ≤ 65536, eaG l b = false → eaL h l b = true → l.length ≤ 65536, eaG l b = false → eaL h l b = true → l.length ≤ 65536, eaG l b = false → eaL h l b = true → (hs l == hs l) = true → b.length ≤ 65536, eaG l b = false → eaL h l b = true → (hs l == hs l) = true → b.length ≤ 65536, eaG l b = false → eaL h l b = true → eaH hs cr l b = true → b.length ≤ 65536, eaG l b = false → eaL h l b = true → eaH hs cr l b = true → b.length ≤ 65536]
theorem eaEq : symFn Try.prog (tbl [(14, p1 (eSl .i64) eU fewL hs), (15, p1 (eSl .i64) eU fewL hs), (16, p1 (eSl .u8) eU32 fewL cr), (17, p1 (eSl .u8) eU32 fewL cr), (10, still (p1 (eSl .u8) (eFr 5 .u8) fewL sl)), (19, still (p1 (eSl .u8) (eFr 5 .u8) fewL sl)), (18, c2 (eSl .u8) (eSl .u8) eB eq), (9, c0 eB true)]) (fun _ => exlT) 4 [eU.pv h, (eSl .i64).pv l, (eSl .u8).pv b] = some (eaQ hs cr h l b, eB.pv (eaU hs cr sl eq h l b)) := by kernel_rfl
end
theorem eaL_true (h : Int) (l b : List Int) : eaL h l b = true := Fx.isL_all _ _ fun j _ _ => by simp
theorem eaG_no {l b : List Int} (h : eaG l b = false) : l.length ≤ 60 ∧ b.length ≤ 400 := by
  obtain ⟨h1, h2⟩ := Fx.of_orr h
  have h1 := of_decide_eq_false h1; have h2 := of_decide_eq_false h2
  omega
theorem eaU_true (h : Int) (l b : List Int) : eaU Fx.hash Fx.crc Fx.sld (fun l m => strEq (strOf l) (strOf m)) h l b = true := by
  unfold eaU eaH
  simp only [eaL_true, strEq_self, beq_self_eq_true]
  cases eaG l b <;> rfl
theorem eaQ_ok (h : Int) (l b : List Int) : Conj (eaQ Fx.hash Fx.crc h l b) := by
  refine ⟨fun _ => rfl, fun _ => rfl, fun g => ?_, fun g _ => ?_, fun g _ => ?_, fun g _ _ => ?_, fun g _ _ => ?_, fun g _ _ => ?_, fun g _ _ => ?_, trivial⟩ <;> obtain ⟨h1, h2⟩ := eaG_no g <;> omega
theorem lChecksumExact : Sound Try.prog 4 (c3 eU (eSl .i64) (eSl .u8) eB (fun _ _ _ => true)) :=
  con (lps := fun _ => exlT) mixed (AllSound.cons cHsh (.cons rHsh (.cons cCrc (.cons rCrc (.cons cSldS (.cons rSldS (.cons rBeq (.cons cEx09 .nil)))))))) Try.func4 (by kernel_rfl) (by kernel_rfl) (oneLoop (lps := fun _ => exlT) (b := lbN 0 Try.f4) (by kernel_rfl) exlLoop)
    (g3 (fun h l b => eaQ Fx.hash Fx.crc h l b) (fun h l b => eaU Fx.hash Fx.crc Fx.sld (fun l m => strEq (strOf l) (strOf m)) h l b) (fun h l b _ => eaQ_ok h l b) (fun h l b _ => eaU_true h l b) (fun h l b => eaEq Fx.hash Fx.crc Fx.sld (fun l m => strEq (strOf l) (strOf m)) h l b))
theorem aChecksumExact : ∀ vs, ArgsAre Try.prog 8 [29, 30, 22] vs → ∃ ps, (c3 eU (eSl .i64) (eSl .u8) eB (fun _ _ _ => true)) vs = some (ps, .fv (.one (.bool true))) ∧ Conj ps := by
  intro vs h0
  obtain ⟨x0, r, rfl, lo0, hi0, h1⟩ := args_int (k := .u64) (by kernel_rfl) (by kernel_rfl) h0
  obtain ⟨x1, r, rfl, h2⟩ := args_Sli64 (by kernel_rfl) (by kernel_rfl) h1
  obtain ⟨x2, r, rfl, h3⟩ := args_Slu8 (by kernel_rfl) (by kernel_rfl) h2
  obtain rfl := args_nil h3
  exact ⟨_, rfl, trivial⟩
set_option maxRecDepth 100000 in
theorem liftedChecksumExact (os : Os) (started : os.Started) (H : Type) (enc : TypeId × Value → H) :
    ReturnsInHanded {} Try.checked os 4 .any (Rows.checksumExactSpec.pre6 enc Try.prog Try.f4 Rows.checksumExactRow.domain false) (Rows.checksumExactSpec.post enc Try.prog Try.f4 false true false false) := by
  refine returnsInHanded_of_change (C := Try.checked) own started (by kernel_rfl) Try.func4 (ChangeSpec.witness6 (enc := enc) (C := Try.checked) false ⟨#[], #[.int .u64 0, .slice none 0 0, .slice none 0 0], []⟩ 8 (by kernel_rfl) (by kernel_rfl) (by kernel_rfl) (by kernel_rfl)) ?_
  intro W base args ds gs before hval hW _ _
  exact law_contract (D := 8) (by kernel_rfl) (of_allOk (by kernel_rfl)) (tb := 4) (by kernel_rfl) (by kernel_rfl) rfl (fun ds h => by
    have h : ds.length = 3 := h
    match ds, h with
    | [d0, d1, d2], _ => rfl) lChecksumExact aChecksumExact W base args ds gs before hval hW

theorem checksumExact_holds : Rows.ChecksumExactSaid :=
  OpenClaim.holds_of_wide 4 Try.f4 rfl rfl rfl rfl rfl rfl rfl ⟨rfl, rfl, rfl, rfl, rfl⟩ rfl rfl rfl rfl rfl (by kernel_rfl) Try.func4 (by kernel_rfl)
    (of_decide_eq_true (by kernel_rfl)) (by unfold Func.isWrapper; first | (rw [if_pos (by decide +kernel)]; kernel_rfl) | (rw [if_neg (by decide +kernel)]; exact ⟨rfl, rfl⟩))
    (fun os started H enc _ => liftedChecksumExact os started H enc)

end Go.Proofs.Ytleooijgkdllfaa
