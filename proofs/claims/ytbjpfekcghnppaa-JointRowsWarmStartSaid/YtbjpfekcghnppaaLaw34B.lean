/- Proved here: more laws of chapter 34 return true for every input. Conditions: none. -/
import Derived.Test.YtbjpfekcghnppaaJrw
import Derived.Test.YtbjpfekcghnppaaEngArg
import Derived.RowKit3
open Go Go.Eng
namespace Go.Proofs.Ytbjpfekcghnppaa
open Go.Fx (an orr an_true Joint.eqb_self)

theorem own : ownKnob Try.prog.godebug = none := by kernel_rfl
theorem an_self {x y : Bool} (c : Bool) (h : x = true) (h' : y = true) : (bif c then true else an x y) = true := by rw [an_true h h']; cases c <;> rfl
theorem cEx34 : Sound Try.prog 8 (c0 eB true) :=
  con (lps := noLps) mixed (.cons cSlots (.cons cStore (.cons cReact (.cons cBrk (.cons rIeq .nil))))) Try.func8 (by kernel_rfl) (by kernel_rfl) (noLoops (by kernel_rfl)) (k0 (by kernel_rfl))

def brkU (j : Fx.Joint) (dt : Int) : Bool := an (an (an (an (Fx.react j == Fx.react j) (decide (Fx.react j ≥ 0))) (Fx.broken j dt == Fx.broken j dt)) (orr (decide (j.br > 0)) (!Fx.broken j dt))) true
theorem brkU_true (j : Fx.Joint) (dt : Int) : brkU j dt = true := by
  refine an_true (an_true (an_true (an_true (beq_self_eq_true _) (decide_eq_true (Fx.react_nn j))) (beq_self_eq_true _)) ?_) rfl
  unfold Fx.broken orr an
  cases decide (j.br > 0) <;> rfl
theorem l34Br : Sound Try.prog 4 (c2 eJ eI eB (fun _ _ => true)) :=
  con (lps := noLps) mixed (.cons cReact (.cons rReact (.cons cBrk (.cons rBrk (.cons cEx34 .nil))))) Try.func4 (by kernel_rfl) (by kernel_rfl) (noLoops (by kernel_rfl)) (g2 (fun _ _ => []) brkU (fun _ _ _ => trivial) (fun j dt _ => brkU_true j dt) (fun _ _ => by kernel_rfl))
theorem argsJI34 : ∀ vs, ArgsAre Try.prog 4 [27, 3] vs → ∃ ps, (c2 eJ eI eB (fun _ _ => true)) vs = some (ps, .fv (.one (.bool true))) ∧ Conj ps := by
  intro vs h0
  obtain ⟨x0, r, rfl, h1⟩ := args_J (by kernel_rfl) (by kernel_rfl) h0
  obtain ⟨x1, r, rfl, lo1, hi1, h2⟩ := args_int (k := .i64) (by kernel_rfl) (by kernel_rfl) h1
  obtain rfl := args_nil h2
  exact ⟨_, rfl, trivial⟩
set_option maxRecDepth 100000 in
theorem liftedJointRowsBreaking (os : Os) (started : os.Started) (H : Type) (enc : TypeId × Value → H) :
    ReturnsInHanded {} Try.checked os 4 .any (Rows.jointRowsBreakingSpec.pre6 enc Try.prog Try.f4 Rows.jointRowsBreakingRow.domain false) (Rows.jointRowsBreakingSpec.post enc Try.prog Try.f4 false true false false) := by
  refine returnsInHanded_of_change (C := Try.checked) own started (by kernel_rfl) Try.func4 (ChangeSpec.witness6 (enc := enc) (C := Try.checked) false ⟨#[], #[.agg #[.int .i64 0, .int .i64 0, .int .i64 0, .int .i64 0, .int .i64 0, .int .i64 0, .int .i64 0, .int .i64 0, .int .i64 0, .int .i64 0, .int .i64 0, .bool false, .int .i64 0, .int .i64 0, .bool false, .int .i64 0, .int .i64 0, .int .i64 0, .int .i64 0, .bool false, .int .i64 0, .int .i64 0, .int .i64 0, .int .i64 0], .int .i64 0], []⟩ 8 (by kernel_rfl) (by kernel_rfl) (by kernel_rfl) (by kernel_rfl)) ?_
  intro W base args ds gs before hval hW _ _
  exact law_contract (D := 4) (by kernel_rfl) (of_allOk (by kernel_rfl)) (tb := 4) (by kernel_rfl) (by kernel_rfl) rfl (fun ds h => by
    have h : ds.length = 2 := h
    match ds, h with
    | [d0, d1], _ => rfl) l34Br argsJI34 W base args ds gs before hval hW

theorem jointRowsBreaking_holds : Rows.JointRowsBreakingSaid :=
  OpenClaim.holds_of_wide 4 Try.f4 rfl rfl rfl rfl rfl rfl rfl ⟨rfl, rfl, rfl, rfl, rfl⟩ rfl rfl rfl rfl rfl (by kernel_rfl) Try.func4 (by kernel_rfl)
    (of_decide_eq_true (by kernel_rfl)) (by unfold Func.isWrapper; first | (rw [if_pos (by decide +kernel)]; kernel_rfl) | (rw [if_neg (by decide +kernel)]; exact ⟨rfl, rfl⟩))
    (fun os started H enc _ => liftedJointRowsBreaking os started H enc)


def kindU (x : Fx.Ar) : Bool :=
  bif !sm31 x.a x.b x.s then true else bif x.j.kind == 1 then an (Fx.rowsEq (Fx.jrows x.j x.a x.b x.ia x.ib x.s x.dt) (Fx.drows x.j x.a x.b x.ia x.ib x.s x.dt)) true else bif x.j.kind == 2 then an (Fx.rowsEq (Fx.jrows x.j x.a x.b x.ia x.ib x.s x.dt) (Fx.rrows x.j x.a x.b x.ia x.ib x.s x.dt)) true
  else bif x.j.kind == 3 then an (Fx.rowsEq (Fx.jrows x.j x.a x.b x.ia x.ib x.s x.dt) (Fx.srows x.j x.a x.b x.ia x.ib x.s x.dt)) true else bif x.j.kind == 4 then an (Fx.rowsEq (Fx.jrows x.j x.a x.b x.ia x.ib x.s x.dt) (Fx.wrows x.j x.a x.b x.ia x.ib x.s x.dt)) true
  else bif x.j.kind == 5 then an (Fx.rowsEq (Fx.jrows x.j x.a x.b x.ia x.ib x.s x.dt) (Fx.trows x.j x.b x.ib x.s x.dt)) true else an (Fx.rowsEq (Fx.jrows x.j x.a x.b x.ia x.ib x.s x.dt) []) true
theorem kindU_true (x : Fx.Ar) : kindU x = true := by
  unfold kindU Fx.jrows
  cases !sm31 x.a x.b x.s with
  | true => rfl
  | false =>
    cases (x.j.kind == 1) with
    | true => exact an_true (Fx.rowsEq_self _) rfl
    | false =>
      cases (x.j.kind == 2) with
      | true => exact an_true (Fx.rowsEq_self _) rfl
      | false =>
        cases (x.j.kind == 3) with
        | true => exact an_true (Fx.rowsEq_self _) rfl
        | false =>
          cases (x.j.kind == 4) with
          | true => exact an_true (Fx.rowsEq_self _) rfl
          | false =>
            cases (x.j.kind == 5) with
            | true => exact an_true (Fx.rowsEq_self _) rfl
            | false => simp only [cond_false]; exact an_true (Fx.rowsEq_self _) rfl
theorem l34K : Sound Try.prog 5 (c1 eAr eB (fun _ => true)) :=
  con (lps := noLps) mixed (.cons rSm31 (.cons cJrw (.cons cDrw (.cons cRrw (.cons cPrs (.cons cWld (.cons cTgt (.cons rReq (.cons cEx34 .nil))))))))) Try.func5 (by kernel_rfl) (by kernel_rfl) (noLoops (by kernel_rfl)) (g1 (fun _ => []) kindU (fun _ _ => trivial) (fun x _ => kindU_true x) (fun _ => by kernel_rfl))
theorem argsAr34 : ∀ vs, ArgsAre Try.prog 8 [36] vs → ∃ ps, (c1 eAr eB (fun _ => true)) vs = some (ps, .fv (.one (.bool true))) ∧ Conj ps := by
  intro vs h0
  obtain ⟨x0, r, rfl, h1⟩ := args_Ar (by kernel_rfl) (by kernel_rfl) h0
  obtain rfl := args_nil h1
  exact ⟨_, rfl, trivial⟩
set_option maxRecDepth 100000 in
theorem liftedJointRowsByKind (os : Os) (started : os.Started) (H : Type) (enc : TypeId × Value → H) :
    ReturnsInHanded {} Try.checked os 5 .any (Rows.jointRowsByKindSpec.pre6 enc Try.prog Try.f5 Rows.jointRowsByKindRow.domain false) (Rows.jointRowsByKindSpec.post enc Try.prog Try.f5 false true false false) := by
  refine returnsInHanded_of_change (C := Try.checked) own started (by kernel_rfl) Try.func5 (ChangeSpec.witness6 (enc := enc) (C := Try.checked) false ⟨#[], #[.agg #[.int .i64 0, .int .i64 0, .int .i64 0, .int .i64 0, .int .i64 0, .int .i64 0, .int .i64 0, .int .i64 0, .int .i64 0, .int .i64 0, .int .i64 0, .bool false, .int .i64 0, .int .i64 0, .bool false, .int .i64 0, .int .i64 0, .int .i64 0, .int .i64 0, .bool false, .int .i64 0, .int .i64 0, .int .i64 0, .int .i64 0, .int .i64 0, .int .i64 0, .int .i64 0, .int .i64 0, .int .i64 0, .int .i64 0, .int .i64 0, .int .i64 0, .int .i64 0, .int .i64 0, .int .i64 0, .int .i64 0, .int .i64 0, .int .i64 0, .bool false, .bool false, .bool false, .bool false, .int .i64 0, .slice none 0 0, .int .i64 0, .int .i64 0, .int .i64 0, .int .i64 0, .int .i64 0, .int .i64 0, .int .i64 0, .int .i64 0, .int .i64 0, .int .i64 0, .int .i64 0, .int .i64 0, .int .i64 0, .int .i64 0, .bool false, .bool false, .bool false, .bool false, .int .i64 0, .slice none 0 0, .int .i64 0, .int .i64 0, .slice none 0 0, .int .i64 0]], []⟩ 8 (by kernel_rfl) (by kernel_rfl) (by kernel_rfl) (by kernel_rfl)) ?_
  intro W base args ds gs before hval hW _ _
  exact law_contract (D := 8) (by kernel_rfl) (of_allOk (by kernel_rfl)) (tb := 4) (by kernel_rfl) (by kernel_rfl) rfl (fun ds h => by
    have h : ds.length = 1 := h
    match ds, h with
    | [d0], _ => rfl) l34K argsAr34 W base args ds gs before hval hW

theorem jointRowsByKind_holds : Rows.JointRowsByKindSaid :=
  OpenClaim.holds_of_wide 5 Try.f5 rfl rfl rfl rfl rfl rfl rfl ⟨rfl, rfl, rfl, rfl, rfl⟩ rfl rfl rfl rfl rfl (by kernel_rfl) Try.func5 (by kernel_rfl)
    (of_decide_eq_true (by kernel_rfl)) (by unfold Func.isWrapper; first | (rw [if_pos (by decide +kernel)]; kernel_rfl) | (rw [if_neg (by decide +kernel)]; exact ⟨rfl, rfl⟩))
    (fun os started H enc _ => liftedJointRowsByKind os started H enc)


noncomputable def wstL : List (FuncId × Contract) := []
def wstTv (_c : (List Int) × (List Fx.Row) × (Fx.Ar)) (i : Nat) (_x : Unit) : List TV := [.val (.fv (.one (.ref 0 0))), .val (Bo false), .val (.fv (.one (.own 24))), .val (.fv (.one (.own 32))), .val (I (i : Int))]
def wstMv (c : (List Int) × (List Fx.Row) × (Fx.Ar)) (_i : Nat) (_x : Unit) : List MRes := [.val (.blk 36 (arG c.2.2)), .val (.row 44 ⟨.row, c.2.1⟩), .val (.row 3 ⟨.i64, c.1⟩)]
def wstEtv (_c : (List Int) × (List Fx.Row) × (Fx.Ar)) (_e : Unit) : List TV := [.any, .val (Bo false), .any, .any, .any]
def wstEmv (_c : (List Int) × (List Fx.Row) × (Fx.Ar)) (_e : Unit) : List MRes := [.lost, .lost, .lost]
def wstDec : List TV → List MRes → Option (List Prop × ((List Int) × (List Fx.Row) × (Fx.Ar)) × (Unit))
  | [.val (.fv (.one (.ref 0 0))), .val (Bo b), .val (.fv (.one (.own 24))), .val (.fv (.one (.own 32))), .val (I i)], [.val (.blk 36 ys), .val (.row 44 ⟨.row, r⟩), .val (.row 3 ⟨.i64, l⟩)] => (match arOf ys with
    | some y => some ([b = false, i = 0, Fx.SlOk l ∧ l.length = r.length], (l, r, y), ())
    | _ => none)
  | _, _ => none
def wstOk (c : (List Int) × (List Fx.Row) × (Fx.Ar)) : Prop := Fx.SlOk c.1 ∧ c.1.length = c.2.1.length
def wstInv (_c : (List Int) × (List Fx.Row) × (Fx.Ar)) (_i : Nat) (_x : Unit) : Prop := True
theorem wstDec_ok (ts : List TV) (ms : List MRes) (ps : List Prop) (c : (List Int) × (List Fx.Row) × (Fx.Ar)) (x : Unit) (h : wstDec ts ms = some (ps, c, x)) (hp : Conj ps) : ts = wstTv c 0 x ∧ ms = wstMv c 0 x ∧ wstOk c ∧ wstInv c 0 x := by
  unfold wstDec at h
  split at h
  · split at h
    · rename_i y ey
      have ey := arOf_eq ey
      cases h
      subst ey
      obtain ⟨rfl, rfl, hok, _⟩ := hp
      exact ⟨rfl, rfl, hok, trivial⟩
    · cases h
  · cases h
def wstStep (c : (List Int) × (List Fx.Row) × (Fx.Ar)) (i : Nat) (_x : Unit) : Sum (Unit) (Unit) := bif orr (orr (decide (c.1.getD i 0 < 0)) (decide (c.1.getD i 0 > 3))) ((c.2.1.getD i Fx.row0).im != [c.2.2.j.i0, c.2.2.j.i1, c.2.2.j.i2, c.2.2.j.i3].getD (c.1.getD i 0).toNat 0) then .inr () else .inl ()
def wstV (c : (List Int) × (List Fx.Row) × (Fx.Ar)) (i : Nat) (_x : Unit) : VT := VT.ite (decide ((i : Int) < (c.1.length : Int))) (VT.pre [0 ≤ (i : Int) ∧ (i : Int) < (c.1.length : Int), i < c.1.length, decide (c.1.getD i 0 < 0) = false → 0 ≤ (i : Int) ∧ (i : Int) < (c.1.length : Int), decide (c.1.getD i 0 < 0) = false → i < c.1.length, orr (decide (c.1.getD i 0 < 0)) (decide (c.1.getD i 0 > 3)) = false → 0 ≤ (i : Int) ∧ (i : Int) < (c.2.1.length : Int), orr (decide (c.1.getD i 0 < 0)) (decide (c.1.getD i 0 > 3)) = false → i < c.2.1.length, orr (decide (c.1.getD i 0 < 0)) (decide (c.1.getD i 0 > 3)) = false → 0 ≤ (i : Int) ∧ (i : Int) < (c.1.length : Int), orr (decide (c.1.getD i 0 < 0)) (decide (c.1.getD i 0 > 3)) = false → i < c.1.length, orr (decide (c.1.getD i 0 < 0)) (decide (c.1.getD i 0 > 3)) = false → 0 ≤ c.1.getD i 0 ∧ c.1.getD i 0 < ((4 : Nat) : Int)] (VT.ite (orr (orr (decide (c.1.getD i 0 < 0)) (decide (c.1.getD i 0 > 3))) ((c.2.1.getD i Fx.row0).im != [c.2.2.j.i0, c.2.2.j.i1, c.2.2.j.i2, c.2.2.j.i3].getD (c.1.getD i 0).toNat 0)) (VT.leaf (Ex.ret) 77 [.val (.fv (.one (.ref 0 0))), .val (Bo false), .val (.fv (.one (.own 24))), .val (.fv (.one (.own 32))), .val (I (i : Int))] [.val (.blk 36 (arG c.2.2)), .val (.row 44 ⟨.row, c.2.1⟩), .val (.row 3 ⟨.i64, c.1⟩)]) (VT.leaf Ex.norm 77 [.val (.fv (.one (.ref 0 0))), .val (Bo false), .val (.fv (.one (.own 24))), .val (.fv (.one (.own 32))), .val (I (IntKind.i64.wrap ((i : Int) + 1)))] [.val (.blk 36 (arG c.2.2)), .val (.row 44 ⟨.row, c.2.1⟩), .val (.row 3 ⟨.i64, c.1⟩)]))) (VT.leaf (Ex.exit 0) 77 [.val (.fv (.one (.ref 0 0))), .val (Bo false), .val (.fv (.one (.own 24))), .val (.fv (.one (.own 32))), .val (I (i : Int))] [.val (.blk 36 (arG c.2.2)), .val (.row 44 ⟨.row, c.2.1⟩), .val (.row 3 ⟨.i64, c.1⟩)])
theorem wstV_eq (c : (List Int) × (List Fx.Row) × (Fx.Ar)) (i : Nat) (x : Unit) : viewT [1, 2, 3, 4, 5] [0, 24, 32] (sexec Try.prog (tbl wstL) (noLps) (lbN 0 Try.f6) (headSt 77 40 [1, 2, 3, 4, 5] [0, 24, 32] (wstTv c i x) (wstMv c i x))) = wstV c i x := by kernel_rfl
noncomputable def wstT : St → Tree := forT 77 40 [1, 2, 3, 4, 5] [0, 24, 32] wstDec (fun c => c.1.length) wstTv wstMv wstEtv wstEmv wstStep () 0 .ret
theorem wstA : AllSound Try.prog wstL := .nil
theorem wstLoop : LoopOk Try.prog wstT (lbN 0 Try.f6) :=
  forT_ok mixed wstA.tbl (noLoops (by kernel_rfl)) [0, 24, 32] (bn := fun c => True) (inv := wstInv) wstDec_ok (fun _ _ => ⟨⟨.inr rfl, .inr rfl, .inr rfl, .inr rfl, .inr rfl, trivial⟩, ⟨.inr rfl, .inr rfl, .inr rfl, trivial⟩, rfl, rfl, rfl⟩)
    (fun _ _ _ _ _ _ hr h1 h2 => by
      trivial)
    (fun c i x hok hn hinv hi => ⟨_, wstV_eq c i x, by
      refine ⟨fun h => ?_, fun h => ?_⟩
      · have h : i < c.1.length := by simpa using h
        refine ⟨(have e := hok.2; ⟨⟨by omega, by omega⟩, h, fun _ => ⟨by omega, by omega⟩, fun _ => h, fun _ => ⟨by omega, by omega⟩, fun _ => by omega, fun _ => ⟨by omega, by omega⟩, fun _ => h, fun _ => Fx.getD_slot hok.1.1 h, trivial⟩), ?_⟩
        refine ⟨fun hb2 => ?_, fun hb2 => ?_⟩
        · exact ⟨rfl, .inr ⟨rfl, h, (), [], by unfold wstStep; first | rfl | ((try dsimp only); (try rw [hb2]); rfl), ⟨.inl rfl, .inr rfl, .inl rfl, .inl rfl, .inl rfl, trivial⟩, ⟨.inl rfl, .inl rfl, .inl rfl, trivial⟩, rfl, rfl, rfl⟩⟩
        · rw [wrap_succ h (by have := hok.1.2; simp only [maxLen]; omega)]
          exact ⟨rfl, (), [], h, by unfold wstStep; first | rfl | ((try dsimp only); (try rw [hb2]); rfl), trivial, ⟨.inr rfl, .inr rfl, .inr rfl, .inr rfl, .inr rfl, trivial⟩, ⟨.inr rfl, .inr rfl, .inr rfl, trivial⟩, rfl, rfl, rfl⟩
      · have h : ¬ i < c.1.length := by simpa using h
        exact ⟨rfl, .inl ⟨rfl, by omega, [], ⟨.inr rfl, .inr rfl, .inr rfl, .inr rfl, .inr rfl, trivial⟩, ⟨.inr rfl, .inr rfl, .inr rfl, trivial⟩, rfl, rfl, rfl⟩⟩⟩)
def warmU (x : Fx.Ar) : Bool := bif !sm31 x.a x.b x.s then true else bif ((Fx.sl x.j x.a x.b).length : Int) != (Fx.jrows x.j x.a x.b x.ia x.ib x.s x.dt).length then false
  else bif isL (runF (wstStep (Fx.sl x.j x.a x.b, Fx.jrows x.j x.a x.b x.ia x.ib x.s x.dt, x)) (Fx.sl x.j x.a x.b).length 0 ()) then true else false
def warmQ (x : Fx.Ar) : List Prop := [(!sm31 x.a x.b x.s) = false → (((Fx.sl x.j x.a x.b).length : Int) != (Fx.jrows x.j x.a x.b x.ia x.ib x.s x.dt).length) = false → false = false, (!sm31 x.a x.b x.s) = false → (((Fx.sl x.j x.a x.b).length : Int) != (Fx.jrows x.j x.a x.b x.ia x.ib x.s x.dt).length) = false → (0 : Int) = 0,
  (!sm31 x.a x.b x.s) = false → (((Fx.sl x.j x.a x.b).length : Int) != (Fx.jrows x.j x.a x.b x.ia x.ib x.s x.dt).length) = false → Fx.SlOk (Fx.sl x.j x.a x.b) ∧ (Fx.sl x.j x.a x.b).length = (Fx.jrows x.j x.a x.b x.ia x.ib x.s x.dt).length]
theorem warmQ_ok (x : Fx.Ar) : Conj (warmQ x) := ⟨fun _ _ => rfl, fun _ _ => rfl, fun _ _ => ⟨Fx.sl_ok _ _ _, (Fx.jrows_len _ _ _ _ _ _ _).symm⟩, trivial⟩
theorem warmU_true (x : Fx.Ar) : warmU x = true := by
  unfold warmU
  have e1 : (((Fx.sl x.j x.a x.b).length : Int) != (Fx.jrows x.j x.a x.b x.ia x.ib x.s x.dt).length) = false := by rw [Fx.jrows_len]; simp
  have e2 : isL (runF (wstStep (Fx.sl x.j x.a x.b, Fx.jrows x.j x.a x.b x.ia x.ib x.s x.dt, x)) (Fx.sl x.j x.a x.b).length 0 ()) = true := by
    refine Fx.isL_all (p := fun i => orr (orr (decide ((Fx.sl x.j x.a x.b).getD i 0 < 0)) (decide ((Fx.sl x.j x.a x.b).getD i 0 > 3))) (((Fx.jrows x.j x.a x.b x.ia x.ib x.s x.dt).getD i Fx.row0).im != [x.j.i0, x.j.i1, x.j.i2, x.j.i3].getD ((Fx.sl x.j x.a x.b).getD i 0).toNat 0)) (e := fun _ => ()) _ _ fun i _ hi => ?_
    have hi : i < (Fx.sl x.j x.a x.b).length := by omega
    have hs := Fx.getD_slot (Fx.sl_ok x.j x.a x.b).1 hi
    have hg : ((Fx.jrows x.j x.a x.b x.ia x.ib x.s x.dt).getD i Fx.row0).im = [x.j.i0, x.j.i1, x.j.i2, x.j.i3].getD ((Fx.sl x.j x.a x.b).getD i 0).toNat 0 := Fx.jrows_get x.j x.a x.b x.ia x.ib x.s x.dt hi
    rw [hg, decide_eq_false (show ¬ (Fx.sl x.j x.a x.b).getD i 0 < 0 by omega), decide_eq_false (show ¬ (Fx.sl x.j x.a x.b).getD i 0 > 3 by omega)]
    simp [orr]
  rw [e1, e2]
  cases !sm31 x.a x.b x.s <;> rfl
theorem warmEq (sm : Fx.Bd → Fx.Bd → List Fx.Sb → Bool) (jr : Fx.Joint → Fx.Bd → Fx.Bd → Int → Int → List Fx.Sb → Int → List Fx.Row) (sl : Fx.Joint → Fx.Bd → Fx.Bd → List Int) (x : Fx.Ar) :
    symFn Try.prog (tbl [(7, c3 eBd eBd (eSl .sb) eB sm), (9, c7 eJ eBd eBd eI eI (eSl .sb) eI (eFr 44 .row) jr), (10, c3 eJ eBd eBd (eFr 3 .i64) sl), (8, c0 eB true)]) (fun _ => wstT) 6 [eAr.pv x] =
      some ([(!sm x.a x.b x.s) = false → (((sl x.j x.a x.b).length : Int) != (jr x.j x.a x.b x.ia x.ib x.s x.dt).length) = false → false = false, (!sm x.a x.b x.s) = false → (((sl x.j x.a x.b).length : Int) != (jr x.j x.a x.b x.ia x.ib x.s x.dt).length) = false → (0 : Int) = 0,
  (!sm x.a x.b x.s) = false → (((sl x.j x.a x.b).length : Int) != (jr x.j x.a x.b x.ia x.ib x.s x.dt).length) = false → Fx.SlOk (sl x.j x.a x.b) ∧ (sl x.j x.a x.b).length = (jr x.j x.a x.b x.ia x.ib x.s x.dt).length],
       eB.pv (bif !sm x.a x.b x.s then true else bif ((sl x.j x.a x.b).length : Int) != (jr x.j x.a x.b x.ia x.ib x.s x.dt).length then false else bif isL (runF (wstStep (sl x.j x.a x.b, jr x.j x.a x.b x.ia x.ib x.s x.dt, x)) (sl x.j x.a x.b).length 0 ()) then true else false)) := by kernel_rfl
theorem l34W : Sound Try.prog 6 (c1 eAr eB (fun _ => true)) :=
  con (lps := fun _ => wstT) mixed (AllSound.cons rSm31 (.cons cJrw (.cons cSlots (.cons cEx34 .nil)))) Try.func6 (by kernel_rfl) (by kernel_rfl) (oneLoop (lps := fun _ => wstT) (b := lbN 0 Try.f6) (by kernel_rfl) wstLoop) (g1 warmQ warmU (fun x _ => warmQ_ok x) (fun x _ => warmU_true x) (fun x => warmEq sm31 Fx.jrows Fx.sl x))
set_option maxRecDepth 100000 in
theorem liftedJointRowsWarmStart (os : Os) (started : os.Started) (H : Type) (enc : TypeId × Value → H) :
    ReturnsInHanded {} Try.checked os 6 .any (Rows.jointRowsWarmStartSpec.pre6 enc Try.prog Try.f6 Rows.jointRowsWarmStartRow.domain false) (Rows.jointRowsWarmStartSpec.post enc Try.prog Try.f6 false true false false) := by
  refine returnsInHanded_of_change (C := Try.checked) own started (by kernel_rfl) Try.func6 (ChangeSpec.witness6 (enc := enc) (C := Try.checked) false ⟨#[], #[.agg #[.int .i64 0, .int .i64 0, .int .i64 0, .int .i64 0, .int .i64 0, .int .i64 0, .int .i64 0, .int .i64 0, .int .i64 0, .int .i64 0, .int .i64 0, .bool false, .int .i64 0, .int .i64 0, .bool false, .int .i64 0, .int .i64 0, .int .i64 0, .int .i64 0, .bool false, .int .i64 0, .int .i64 0, .int .i64 0, .int .i64 0, .int .i64 0, .int .i64 0, .int .i64 0, .int .i64 0, .int .i64 0, .int .i64 0, .int .i64 0, .int .i64 0, .int .i64 0, .int .i64 0, .int .i64 0, .int .i64 0, .int .i64 0, .int .i64 0, .bool false, .bool false, .bool false, .bool false, .int .i64 0, .slice none 0 0, .int .i64 0, .int .i64 0, .int .i64 0, .int .i64 0, .int .i64 0, .int .i64 0, .int .i64 0, .int .i64 0, .int .i64 0, .int .i64 0, .int .i64 0, .int .i64 0, .int .i64 0, .int .i64 0, .bool false, .bool false, .bool false, .bool false, .int .i64 0, .slice none 0 0, .int .i64 0, .int .i64 0, .slice none 0 0, .int .i64 0]], []⟩ 8 (by kernel_rfl) (by kernel_rfl) (by kernel_rfl) (by kernel_rfl)) ?_
  intro W base args ds gs before hval hW _ _
  exact law_contract (D := 8) (by kernel_rfl) (of_allOk (by kernel_rfl)) (tb := 4) (by kernel_rfl) (by kernel_rfl) rfl (fun ds h => by
    have h : ds.length = 1 := h
    match ds, h with
    | [d0], _ => rfl) l34W argsAr34 W base args ds gs before hval hW

theorem jointRowsWarmStart_holds : Rows.JointRowsWarmStartSaid :=
  OpenClaim.holds_of_wide 6 Try.f6 rfl rfl rfl rfl rfl rfl rfl ⟨rfl, rfl, rfl, rfl, rfl⟩ rfl rfl rfl rfl rfl (by kernel_rfl) Try.func6 (by kernel_rfl)
    (of_decide_eq_true (by kernel_rfl)) (by unfold Func.isWrapper; first | (rw [if_pos (by decide +kernel)]; kernel_rfl) | (rw [if_neg (by decide +kernel)]; exact ⟨rfl, rfl⟩))
    (fun os started H enc _ => liftedJointRowsWarmStart os started H enc)

end Go.Proofs.Ytbjpfekcghnppaa
