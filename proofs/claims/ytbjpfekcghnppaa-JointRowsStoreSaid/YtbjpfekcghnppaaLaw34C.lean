/- Proved here: JointRowsStore of chapter 34 returns true for every input. Conditions: none. -/
import Derived.Test.YtbjpfekcghnppaaSt34
import Derived.RowKit3
open Go Go.Eng
namespace Go.Proofs.Ytbjpfekcghnppaa
open Go.Fx (an orr an_true)

theorem own : ownKnob Try.prog.godebug = none := by kernel_rfl
theorem cEx34 : Sound Try.prog 8 (c0 eB true) :=
  con (lps := noLps) mixed (.cons cSlots (.cons cStore (.cons cReact (.cons cBrk (.cons rIeq .nil))))) Try.func8 (by kernel_rfl) (by kernel_rfl) (noLoops (by kernel_rfl)) (k0 (by kernel_rfl))
def a4 (a b c d : Int) (w : Int × Int × Int × Int) : Bool := a == w.1 && (b == w.2.1 && (c == w.2.2.1 && (d == w.2.2.2 && true)))
section
variable (sm : Fx.Bd → Fx.Bd → List Fx.Sb → Bool) (jr : Fx.Joint → Fx.Bd → Fx.Bd → Int → Int → List Fx.Sb → Int → List Fx.Row) (sl : Fx.Joint → Fx.Bd → Fx.Bd → List Int) (st : Fx.Joint → Fx.Bd → Fx.Bd → List Fx.Row → Int → Fx.Joint) (x : Fx.Ar)
def stRw : List Fx.Row := foldN (staStep (sl x.j x.a x.b, jr x.j x.a x.b x.ia x.ib x.s x.dt, x)) (jr x.j x.a x.b x.ia x.ib x.s x.dt).length 0 (jr x.j x.a x.b x.ia x.ib x.s x.dt)
def stTk : Fx.Joint := st x.j x.a x.b (stRw jr sl x) 0
def stW := runF (wntStep (sl x.j x.a x.b, x, stTk jr sl st x)) (sl x.j x.a x.b).length 0 (0, 0, 0, 0)
def stBad : Bool := orr (((sl x.j x.a x.b).length : Int) != (jr x.j x.a x.b x.ia x.ib x.s x.dt).length) (decide (((sl x.j x.a x.b).length : Int) > 4))
def stU : Bool := bif !sm x.a x.b x.s then true else bif stBad jr sl x then false else bif isL (stW jr sl st x) then (bif !(a4 (stTk jr sl st x).i0 (stTk jr sl st x).i1 (stTk jr sl st x).i2 (stTk jr sl st x).i3 (getL (0, 0, 0, 0) (stW jr sl st x))) then false else an (((stTk jr sl st x).wimps (x.j.i0, x.j.i1, x.j.i2, x.j.i3)).eqb x.j) true) else false
def stQ : List Prop := [(!sm x.a x.b x.s) = false → stBad jr sl x = false → false = false, (!sm x.a x.b x.s) = false → stBad jr sl x = false → (0 : Int) = 0, (!sm x.a x.b x.s) = false → stBad jr sl x = false → Fx.SlOk (sl x.j x.a x.b) ∧ (jr x.j x.a x.b x.ia x.ib x.s x.dt).length = (sl x.j x.a x.b).length,
  (!sm x.a x.b x.s) = false → stBad jr sl x = false → false = false, (!sm x.a x.b x.s) = false → stBad jr sl x = false → (0 : Int) = 0, (!sm x.a x.b x.s) = false → stBad jr sl x = false → Fx.SlOk (sl x.j x.a x.b)]
theorem stEq : symFn Try.prog (tbl [(7, c3 eBd eBd (eSl .sb) eB sm), (9, c7 eJ eBd eBd eI eI (eSl .sb) eI (eFr 44 .row) jr), (10, c3 eJ eBd eBd (eFr 3 .i64) sl), (11, c5 eJ eBd eBd (eSl .row) eI eJ st), (8, c0 eB true)]) stLps 3 [eAr.pv x] =
    some (stQ sm jr sl x, eB.pv (stU sm jr sl st x)) := by kernel_rfl
end
theorem stQ_ok (x : Fx.Ar) : Conj (stQ sm31 Fx.jrows Fx.sl x) := ⟨fun _ _ => rfl, fun _ _ => rfl, fun _ _ => ⟨Fx.sl_ok _ _ _, Fx.jrows_len _ _ _ _ _ _ _⟩, fun _ _ => rfl, fun _ _ => rfl, fun _ _ => Fx.sl_ok _ _ _, trivial⟩
theorem a4_self (a b c d : Int) : a4 a b c d (a, b, c, d) = true := by simp [a4]
theorem stU_true (x : Fx.Ar) : stU sm31 Fx.jrows Fx.sl Fx.jstore x = true := by
  have hl := Fx.jrows_len x.j x.a x.b x.ia x.ib x.s x.dt
  have h4 := Fx.sl_len x.j x.a x.b
  have e1 : stBad Fx.jrows Fx.sl x = false := by
    unfold stBad
    rw [hl, decide_eq_false (by omega)]
    simp [orr]
  have e2 : stW Fx.jrows Fx.sl Fx.jstore x = .inl (Fx.sto (Fx.stP (stRw Fx.jrows Fx.sl x) 0) (stRw Fx.jrows Fx.sl x) 0 (Fx.sl x.j x.a x.b)) := by
    refine Fx.store_want x.j x.a x.b (stRw Fx.jrows Fx.sl x) ?_ ?_
    · rw [← hl]; exact Fx.mark_len _ _ _
    · intro m hm
      have hm' : m < (Fx.jrows x.j x.a x.b x.ia x.ib x.s x.dt).length := by rw [show (stRw Fx.jrows Fx.sl x).length = _ from Fx.mark_len _ _ _] at hm; exact hm
      exact Fx.mark_get [] (Fx.jrows x.j x.a x.b x.ia x.ib x.s x.dt).length 0 (Fx.jrows x.j x.a x.b x.ia x.ib x.s x.dt) (by omega) (fun _ h => absurd h (by omega)) m hm'
  unfold stU
  rw [e1, e2]
  have e3 : a4 (stTk Fx.jrows Fx.sl Fx.jstore x).i0 (stTk Fx.jrows Fx.sl Fx.jstore x).i1 (stTk Fx.jrows Fx.sl Fx.jstore x).i2 (stTk Fx.jrows Fx.sl Fx.jstore x).i3 (getL (ε := Unit) (0, 0, 0, 0) (Sum.inl (β := Unit) (Fx.sto (Fx.stP (stRw Fx.jrows Fx.sl x) 0) (stRw Fx.jrows Fx.sl x) 0 (Fx.sl x.j x.a x.b)))) = true := a4_self _ _ _ _
  have e4 : ((stTk Fx.jrows Fx.sl Fx.jstore x).wimps (x.j.i0, x.j.i1, x.j.i2, x.j.i3)).eqb x.j = true := Fx.Joint.eqb_self _
  rw [e3, e4]
  cases !sm31 x.a x.b x.s <;> rfl
theorem l34St : Sound Try.prog 3 (c1 eAr eB (fun _ => true)) :=
  con (lps := stLps) mixed (AllSound.cons rSm31 (.cons cJrw (.cons cSlots (.cons cStore (.cons cEx34 .nil))))) Try.func3 (by kernel_rfl) (by kernel_rfl)
    (loops2 (lps := stLps) (b := lbN 0 Try.f3) (b' := lbN 1 Try.f3) (by kernel_rfl) (by kernel_rfl) (by kernel_rfl) staLoop wntLoop)
    (g1 (fun x => stQ sm31 Fx.jrows Fx.sl x) (fun x => stU sm31 Fx.jrows Fx.sl Fx.jstore x) (fun x _ => stQ_ok x) (fun x _ => stU_true x) (fun x => stEq sm31 Fx.jrows Fx.sl Fx.jstore x))
theorem argsAr34 : ∀ vs, ArgsAre Try.prog 8 [36] vs → ∃ ps, (c1 eAr eB (fun _ => true)) vs = some (ps, .fv (.one (.bool true))) ∧ Conj ps := by
  intro vs h0
  obtain ⟨x0, r, rfl, h1⟩ := args_Ar (by kernel_rfl) (by kernel_rfl) h0
  obtain rfl := args_nil h1
  exact ⟨_, rfl, trivial⟩
set_option maxRecDepth 100000 in
theorem liftedJointRowsStore (os : Os) (started : os.Started) (H : Type) (enc : TypeId × Value → H) :
    ReturnsInHanded {} Try.checked os 3 .any (Rows.jointRowsStoreSpec.pre6 enc Try.prog Try.f3 Rows.jointRowsStoreRow.domain false) (Rows.jointRowsStoreSpec.post enc Try.prog Try.f3 false true false false) := by
  refine returnsInHanded_of_change (C := Try.checked) own started (by kernel_rfl) Try.func3 (ChangeSpec.witness6 (enc := enc) (C := Try.checked) false ⟨#[], #[.agg #[.int .i64 0, .int .i64 0, .int .i64 0, .int .i64 0, .int .i64 0, .int .i64 0, .int .i64 0, .int .i64 0, .int .i64 0, .int .i64 0, .int .i64 0, .bool false, .int .i64 0, .int .i64 0, .bool false, .int .i64 0, .int .i64 0, .int .i64 0, .int .i64 0, .bool false, .int .i64 0, .int .i64 0, .int .i64 0, .int .i64 0, .int .i64 0, .int .i64 0, .int .i64 0, .int .i64 0, .int .i64 0, .int .i64 0, .int .i64 0, .int .i64 0, .int .i64 0, .int .i64 0, .int .i64 0, .int .i64 0, .int .i64 0, .int .i64 0, .bool false, .bool false, .bool false, .bool false, .int .i64 0, .slice none 0 0, .int .i64 0, .int .i64 0, .int .i64 0, .int .i64 0, .int .i64 0, .int .i64 0, .int .i64 0, .int .i64 0, .int .i64 0, .int .i64 0, .int .i64 0, .int .i64 0, .int .i64 0, .int .i64 0, .bool false, .bool false, .bool false, .bool false, .int .i64 0, .slice none 0 0, .int .i64 0, .int .i64 0, .slice none 0 0, .int .i64 0]], []⟩ 8 (by kernel_rfl) (by kernel_rfl) (by kernel_rfl) (by kernel_rfl)) ?_
  intro W base args ds gs before hval hW _ _
  exact law_contract (D := 8) (by kernel_rfl) (of_allOk (by kernel_rfl)) (tb := 4) (by kernel_rfl) (by kernel_rfl) rfl (fun ds h => by
    have h : ds.length = 1 := h
    match ds, h with
    | [d0], _ => rfl) l34St argsAr34 W base args ds gs before hval hW

theorem jointRowsStore_holds : Rows.JointRowsStoreSaid :=
  OpenClaim.holds_of_wide 3 Try.f3 rfl rfl rfl rfl rfl rfl rfl ⟨rfl, rfl, rfl, rfl, rfl⟩ rfl rfl rfl rfl rfl (by kernel_rfl) Try.func3 (by kernel_rfl)
    (of_decide_eq_true (by kernel_rfl)) (by unfold Func.isWrapper; first | (rw [if_pos (by decide +kernel)]; kernel_rfl) | (rw [if_neg (by decide +kernel)]; exact ⟨rfl, rfl⟩))
    (fun os started H enc _ => liftedJointRowsStore os started H enc)

end Go.Proofs.Ytbjpfekcghnppaa
