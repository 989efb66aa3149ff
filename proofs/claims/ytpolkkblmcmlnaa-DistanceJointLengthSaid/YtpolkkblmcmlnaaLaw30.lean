/- Proved here: laws of chapter 30 return true for every input. Conditions: none. -/
import Derived.Test.YtpolkkblmcmlnaaSm3
import Derived.Test.YtpolkkblmcmlnaaEngTra
import Derived.RowKit3
open Go Go.Eng
namespace Go.Proofs.Ytpolkkblmcmlnaa
open Go.Fx (an orr an_true)

theorem own : ownKnob Try.prog.godebug = none := by kernel_rfl
theorem an_self {x y : Bool} (c : Bool) (h : x = true) (h' : y = true) : (bif c then true else an x y) = true := by rw [an_true h h']; cases c <;> rfl
def ex30Q : List Prop := [true = true → (0 : Int) ≤ (0 : Int) ∧ (0 : Int) < (1 : Int), true = true → 0 < 1, true = true → (0 : Int) ≤ (0 : Int) ∧ (0 : Int) < (1 : Int), true = true → 0 < 1]
theorem ex30Q_ok : Conj ex30Q := by simp [ex30Q, Conj]
theorem cEx30 : Sound Try.prog 7 (c0 eB true) :=
  con (lps := noLps) mixed (.cons cDrw (.cons cLen (.cons cLer .nil))) Try.func7 (by kernel_rfl) (by kernel_rfl) (noLoops (by kernel_rfl)) (g0 ex30Q true (fun _ => ex30Q_ok) (fun _ => rfl) (by kernel_rfl))
theorem lDistanceJointLength : Sound Try.prog 3 (c1 eAr eB (fun _ => true)) :=
  con (lps := noLps) mixed (.cons cSm30 (.cons cLen (.cons rLen (.cons cLer (.cons rLer (.cons cEx30 .nil)))))) Try.func3 (by kernel_rfl) (by kernel_rfl) (noLoops (by kernel_rfl)) (g1 (fun _ => []) (fun x => bif !sm3 x then true else an (an (Fx.jlen x.j x.a x.b == Fx.jlen x.j x.a x.b) (Fx.jlerr x.j x.a x.b == Fx.jlerr x.j x.a x.b)) true) (fun _ _ => trivial) (fun x _ => an_self _ (an_true (beq_self_eq_true _) (beq_self_eq_true _)) rfl) (fun _ => by kernel_rfl))
theorem aDistanceJointLength : ∀ vs, ArgsAre Try.prog 8 [36] vs → ∃ ps, (c1 eAr eB (fun _ => true)) vs = some (ps, .fv (.one (.bool true))) ∧ Conj ps := by
  intro vs h0
  obtain ⟨x0, r, rfl, h1⟩ := args_Ar (by kernel_rfl) (by kernel_rfl) h0
  obtain rfl := args_nil h1
  exact ⟨_, rfl, trivial⟩
set_option maxRecDepth 100000 in
theorem liftedDistanceJointLength (os : Os) (started : os.Started) (H : Type) (enc : TypeId × Value → H) :
    ReturnsInHanded {} Try.checked os 3 .any (Rows.distanceJointLengthSpec.pre6 enc Try.prog Try.f3 Rows.distanceJointLengthRow.domain false) (Rows.distanceJointLengthSpec.post enc Try.prog Try.f3 false true false false) := by
  refine returnsInHanded_of_change (C := Try.checked) own started (by kernel_rfl) Try.func3 (ChangeSpec.witness6 (enc := enc) (C := Try.checked) false ⟨#[], #[.agg #[.int .i64 0, .int .i64 0, .int .i64 0, .int .i64 0, .int .i64 0, .int .i64 0, .int .i64 0, .int .i64 0, .int .i64 0, .int .i64 0, .int .i64 0, .bool false, .int .i64 0, .int .i64 0, .bool false, .int .i64 0, .int .i64 0, .int .i64 0, .int .i64 0, .bool false, .int .i64 0, .int .i64 0, .int .i64 0, .int .i64 0, .int .i64 0, .int .i64 0, .int .i64 0, .int .i64 0, .int .i64 0, .int .i64 0, .int .i64 0, .int .i64 0, .int .i64 0, .int .i64 0, .int .i64 0, .int .i64 0, .int .i64 0, .int .i64 0, .bool false, .bool false, .bool false, .bool false, .int .i64 0, .slice none 0 0, .int .i64 0, .int .i64 0, .int .i64 0, .int .i64 0, .int .i64 0, .int .i64 0, .int .i64 0, .int .i64 0, .int .i64 0, .int .i64 0, .int .i64 0, .int .i64 0, .int .i64 0, .int .i64 0, .bool false, .bool false, .bool false, .bool false, .int .i64 0, .slice none 0 0, .int .i64 0, .int .i64 0, .slice none 0 0, .int .i64 0]], []⟩ 8 (by kernel_rfl) (by kernel_rfl) (by kernel_rfl) (by kernel_rfl)) ?_
  intro W base args ds gs before hval hW _ _
  exact law_contract (D := 8) (by kernel_rfl) (of_allOk (by kernel_rfl)) (tb := 4) (by kernel_rfl) (by kernel_rfl) rfl (fun ds h => by
    have h : ds.length = 1 := h
    match ds, h with
    | [d0], _ => rfl) lDistanceJointLength aDistanceJointLength W base args ds gs before hval hW

theorem distanceJointLength_holds : Rows.DistanceJointLengthSaid :=
  OpenClaim.holds_of_wide 3 Try.f3 rfl rfl rfl rfl rfl rfl rfl ⟨rfl, rfl, rfl, rfl, rfl⟩ rfl rfl rfl rfl rfl (by kernel_rfl) Try.func3 (by kernel_rfl)
    (of_decide_eq_true (by kernel_rfl)) (by unfold Func.isWrapper; first | (rw [if_pos (by decide +kernel)]; kernel_rfl) | (rw [if_neg (by decide +kernel)]; exact ⟨rfl, rfl⟩))
    (fun os started H enc _ => liftedDistanceJointLength os started H enc)

section
variable (sm : Fx.Ar → Bool) (dr : Fx.Joint → Fx.Bd → Fx.Bd → Int → Int → List Fx.Sb → Int → List Fx.Row) (x : Fx.Ar)
def dfL : List Fx.Row := dr x.j x.a x.b x.ia x.ib x.s x.dt
def df1 (l : List Fx.Row) (x : Fx.Ar) : Bool := an (an (an (an (an ((l.length : Int) == 1) ((l.getD 0 Fx.row0).im == x.j.i0)) ((l.getD 0 Fx.row0).a == x.ia)) ((l.getD 0 Fx.row0).b == x.ib)) ((l.getD 0 Fx.row0).so == x.j.so)) ((l.getD 0 Fx.row0).fo == -1)
def dfU : Bool := bif !sm x then true else bif x.j.kind != 1 then an (((dfL dr x).length : Int) == 0) true else an (orr (((dfL dr x).length : Int) == 0) (df1 (dfL dr x) x)) true
end
theorem dfU_true (sm : Fx.Ar → Bool) (x : Fx.Ar) : dfU sm Fx.drows x = true := by
  unfold dfU dfL
  cases !sm x with
  | true => rfl
  | false =>
    cases hk : (x.j.kind != 1) with
    | true => rw [Fx.drows_none hk]; rfl
    | false =>
      rcases Fx.drows_cases x.j x.a x.b x.ia x.ib x.s x.dt with h | ⟨n, lo, up, h⟩ <;> rw [h]
      · rfl
      · simp [df1, an, orr, Fx.drow]
section
variable (sm : Fx.Ar → Bool) (dr : Fx.Joint → Fx.Bd → Fx.Bd → Int → Int → List Fx.Sb → Int → List Fx.Row) (x : Fx.Ar)
def dfI (l : List Fx.Row) : Prop := (0 : Int) ≤ (0 : Int) ∧ (0 : Int) < ((l.length : Nat) : Int)
def dp1 (l : List Fx.Row) : Bool := (l.length : Int) == 1
def dp2 (l : List Fx.Row) (x : Fx.Ar) : Bool := an (dp1 l) ((l.getD 0 Fx.row0).im == x.j.i0)
def dp3 (l : List Fx.Row) (x : Fx.Ar) : Bool := an (dp2 l x) ((l.getD 0 Fx.row0).a == x.ia)
def dp4 (l : List Fx.Row) (x : Fx.Ar) : Bool := an (dp3 l x) ((l.getD 0 Fx.row0).b == x.ib)
def dp5 (l : List Fx.Row) (x : Fx.Ar) : Bool := an (dp4 l x) ((l.getD 0 Fx.row0).so == x.j.so)
def dfC (b : Bool) (p : Prop) : Prop := (!sm x) = false → (x.j.kind != 1) = false → b = true → p
def dfQ : List Prop := [dfC sm x (dp1 (dfL dr x)) (dfI (dfL dr x)), dfC sm x (dp1 (dfL dr x)) (0 < (dfL dr x).length), dfC sm x (dp2 (dfL dr x) x) (dfI (dfL dr x)), dfC sm x (dp2 (dfL dr x) x) (0 < (dfL dr x).length), dfC sm x (dp3 (dfL dr x) x) (dfI (dfL dr x)), dfC sm x (dp3 (dfL dr x) x) (0 < (dfL dr x).length),
  dfC sm x (dp4 (dfL dr x) x) (dfI (dfL dr x)), dfC sm x (dp4 (dfL dr x) x) (0 < (dfL dr x).length), dfC sm x (dp5 (dfL dr x) x) (dfI (dfL dr x)), dfC sm x (dp5 (dfL dr x) x) (0 < (dfL dr x).length)]
theorem dfEq : symFn Try.prog (tbl [(6, c1 eAr eB sm), (12, c7 eJ eBd eBd eI eI (eSl .sb) eI (eFr 43 .row) dr), (7, c0 eB true)]) noLps 4 [eAr.pv x] = some (dfQ sm dr x, eB.pv (dfU sm dr x)) := by kernel_rfl
theorem dfQ_ok : Conj (dfQ sm dr x) := by
  have h1 : ∀ b, (b = true → dp1 (dfL dr x) = true) → dfC sm x b (dfI (dfL dr x)) ∧ dfC sm x b (0 < (dfL dr x).length) := fun b hb => by
    have key : b = true → (dfL dr x).length = 1 := fun h => by
      have := hb h
      unfold dp1 at this
      simp at this
      omega
    exact ⟨fun _ _ h => ⟨by decide, by rw [key h]; decide⟩, fun _ _ h => by rw [key h]; decide⟩
  have p2 : dp2 (dfL dr x) x = true → dp1 (dfL dr x) = true := fun h => (Fx.of_an h).1
  have p3 : dp3 (dfL dr x) x = true → dp1 (dfL dr x) = true := fun h => p2 (Fx.of_an h).1
  have p4 : dp4 (dfL dr x) x = true → dp1 (dfL dr x) = true := fun h => p3 (Fx.of_an h).1
  have p5 : dp5 (dfL dr x) x = true → dp1 (dfL dr x) = true := fun h => p4 (Fx.of_an h).1
  exact ⟨(h1 _ id).1, (h1 _ id).2, (h1 _ p2).1, (h1 _ p2).2, (h1 _ p3).1, (h1 _ p3).2, (h1 _ p4).1, (h1 _ p4).2, (h1 _ p5).1, (h1 _ p5).2, trivial⟩
end
theorem lDistanceJointRowFields : Sound Try.prog 4 (c1 eAr eB (fun _ => true)) :=
  con (lps := noLps) mixed (AllSound.cons cSm30 (.cons cDrw (.cons cEx30 .nil))) Try.func4 (by kernel_rfl) (by kernel_rfl) (noLoops (by kernel_rfl))
    (g1 (fun x => dfQ sm3 Fx.drows x) (fun x => dfU sm3 Fx.drows x) (fun x _ => dfQ_ok sm3 Fx.drows x) (fun x _ => dfU_true sm3 x) (fun x => dfEq sm3 Fx.drows x))
theorem aDistanceJointRowFields : ∀ vs, ArgsAre Try.prog 8 [36] vs → ∃ ps, (c1 eAr eB (fun _ => true)) vs = some (ps, .fv (.one (.bool true))) ∧ Conj ps := by
  intro vs h0
  obtain ⟨x0, r, rfl, h1⟩ := args_Ar (by kernel_rfl) (by kernel_rfl) h0
  obtain rfl := args_nil h1
  exact ⟨_, rfl, trivial⟩
set_option maxRecDepth 100000 in
theorem liftedDistanceJointRowFields (os : Os) (started : os.Started) (H : Type) (enc : TypeId × Value → H) :
    ReturnsInHanded {} Try.checked os 4 .any (Rows.distanceJointRowFieldsSpec.pre6 enc Try.prog Try.f4 Rows.distanceJointRowFieldsRow.domain false) (Rows.distanceJointRowFieldsSpec.post enc Try.prog Try.f4 false true false false) := by
  refine returnsInHanded_of_change (C := Try.checked) own started (by kernel_rfl) Try.func4 (ChangeSpec.witness6 (enc := enc) (C := Try.checked) false ⟨#[], #[.agg #[.int .i64 0, .int .i64 0, .int .i64 0, .int .i64 0, .int .i64 0, .int .i64 0, .int .i64 0, .int .i64 0, .int .i64 0, .int .i64 0, .int .i64 0, .bool false, .int .i64 0, .int .i64 0, .bool false, .int .i64 0, .int .i64 0, .int .i64 0, .int .i64 0, .bool false, .int .i64 0, .int .i64 0, .int .i64 0, .int .i64 0, .int .i64 0, .int .i64 0, .int .i64 0, .int .i64 0, .int .i64 0, .int .i64 0, .int .i64 0, .int .i64 0, .int .i64 0, .int .i64 0, .int .i64 0, .int .i64 0, .int .i64 0, .int .i64 0, .bool false, .bool false, .bool false, .bool false, .int .i64 0, .slice none 0 0, .int .i64 0, .int .i64 0, .int .i64 0, .int .i64 0, .int .i64 0, .int .i64 0, .int .i64 0, .int .i64 0, .int .i64 0, .int .i64 0, .int .i64 0, .int .i64 0, .int .i64 0, .int .i64 0, .bool false, .bool false, .bool false, .bool false, .int .i64 0, .slice none 0 0, .int .i64 0, .int .i64 0, .slice none 0 0, .int .i64 0]], []⟩ 8 (by kernel_rfl) (by kernel_rfl) (by kernel_rfl) (by kernel_rfl)) ?_
  intro W base args ds gs before hval hW _ _
  exact law_contract (D := 8) (by kernel_rfl) (of_allOk (by kernel_rfl)) (tb := 4) (by kernel_rfl) (by kernel_rfl) rfl (fun ds h => by
    have h : ds.length = 1 := h
    match ds, h with
    | [d0], _ => rfl) lDistanceJointRowFields aDistanceJointRowFields W base args ds gs before hval hW

theorem distanceJointRowFields_holds : Rows.DistanceJointRowFieldsSaid :=
  OpenClaim.holds_of_wide 4 Try.f4 rfl rfl rfl rfl rfl rfl rfl ⟨rfl, rfl, rfl, rfl, rfl⟩ rfl rfl rfl rfl rfl (by kernel_rfl) Try.func4 (by kernel_rfl)
    (of_decide_eq_true (by kernel_rfl)) (by unfold Func.isWrapper; first | (rw [if_pos (by decide +kernel)]; kernel_rfl) | (rw [if_neg (by decide +kernel)]; exact ⟨rfl, rfl⟩))
    (fun os started H enc _ => liftedDistanceJointRowFields os started H enc)

end Go.Proofs.Ytpolkkblmcmlnaa
