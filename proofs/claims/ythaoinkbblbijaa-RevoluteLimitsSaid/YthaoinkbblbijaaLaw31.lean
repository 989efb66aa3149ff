/- Proved here: laws of chapter 31 return true for every input. Conditions: none. -/
import Derived.Test.YthaoinkbblbijaaSml
import Derived.Test.YthaoinkbblbijaaEngTra
import Derived.RowKit3
open Go Go.Eng
namespace Go.Proofs.Ythaoinkbblbijaa
open Go.Fx (an orr an_true)

theorem own : ownKnob Try.prog.godebug = none := by kernel_rfl
theorem an_self {x y : Bool} (c : Bool) (h : x = true) (h' : y = true) : (bif c then true else an x y) = true := by rw [an_true h h']; cases c <;> rfl
def ex31Q : List Prop := [false = false → (0 : Int) ≤ (0 : Int) ∧ (0 : Int) < (2 : Int), false = false → 0 < 2, false = false → (0 : Int) ≤ (1 : Int) ∧ (1 : Int) < (2 : Int), false = false → 1 < 2, false = false → (0 : Int) ≤ (0 : Int) ∧ (0 : Int) < (2 : Int), false = false → 0 < 2, false = false → true = true → (0 : Int) ≤ (1 : Int) ∧ (1 : Int) < (2 : Int), false = false → true = true → 1 < 2, false = false → true = true → (0 : Int) ≤ (0 : Int) ∧ (0 : Int) < (2 : Int), false = false → true = true → 0 < 2, false = false → true = true → (0 : Int) ≤ (0 : Int) ∧ (0 : Int) < (1 : Int), false = false → true = true → 0 < 1]
theorem ex31Q_ok : Conj ex31Q := by simp [ex31Q, Conj]
theorem cEx31 : Sound Try.prog 7 (c0 eB true) :=
  con (lps := noLps) mixed (.cons cRrw (.cons cLim31 .nil)) Try.func7 (by kernel_rfl) (by kernel_rfl) (noLoops (by kernel_rfl)) (g0 ex31Q true (fun _ => ex31Q_ok) (fun _ => rfl) (by kernel_rfl))
def motU (x : Fx.Ar) (so : Int) (r : Fx.Row) : Bool := bif !sm31 x.a x.b x.s then true else an (an ((Fx.arow x.ia x.ib x.s so).eqb (Fx.arow x.ia x.ib x.s so)) (Fx.rowsEq (Fx.motor x.j x.dt r) (Fx.motor x.j x.dt r))) true
theorem motU_true (x : Fx.Ar) (so : Int) (r : Fx.Row) : motU x so r = true := an_self _ (an_true (Fx.Row.eqb_self _) (Fx.rowsEq_self _)) rfl
theorem lRevoluteMotor : Sound Try.prog 3 (c3 eAr eI eRw eB (fun _ _ _ => true)) :=
  con (lps := noLps) mixed (.cons rSm31 (.cons cArw (.cons rArw (.cons cMot (.cons rMot (.cons rReq (.cons cEx31 .nil))))))) Try.func3 (by kernel_rfl) (by kernel_rfl) (noLoops (by kernel_rfl)) (g3 (fun _ _ _ => []) motU (fun _ _ _ _ => trivial) (fun x so r _ => motU_true x so r) (fun _ _ _ => by kernel_rfl))
theorem aRevoluteMotor : ∀ vs, ArgsAre Try.prog 8 [36, 3, 38] vs → ∃ ps, (c3 eAr eI eRw eB (fun _ _ _ => true)) vs = some (ps, .fv (.one (.bool true))) ∧ Conj ps := by
  intro vs h0
  obtain ⟨x0, r, rfl, h1⟩ := args_Ar (by kernel_rfl) (by kernel_rfl) h0
  obtain ⟨x1, r, rfl, lo1, hi1, h2⟩ := args_int (k := .i64) (by kernel_rfl) (by kernel_rfl) h1
  obtain ⟨x2, r, rfl, h3⟩ := args_Rw (by kernel_rfl) (by kernel_rfl) h2
  obtain rfl := args_nil h3
  exact ⟨_, rfl, trivial⟩
set_option maxRecDepth 100000 in
theorem liftedRevoluteMotor (os : Os) (started : os.Started) (H : Type) (enc : TypeId × Value → H) :
    ReturnsInHanded {} Try.checked os 3 .any (Rows.revoluteMotorSpec.pre6 enc Try.prog Try.f3 Rows.revoluteMotorRow.domain false) (Rows.revoluteMotorSpec.post enc Try.prog Try.f3 false true false false) := by
  refine returnsInHanded_of_change (C := Try.checked) own started (by kernel_rfl) Try.func3 (ChangeSpec.witness6 (enc := enc) (C := Try.checked) false ⟨#[], #[.agg #[.int .i64 0, .int .i64 0, .int .i64 0, .int .i64 0, .int .i64 0, .int .i64 0, .int .i64 0, .int .i64 0, .int .i64 0, .int .i64 0, .int .i64 0, .bool false, .int .i64 0, .int .i64 0, .bool false, .int .i64 0, .int .i64 0, .int .i64 0, .int .i64 0, .bool false, .int .i64 0, .int .i64 0, .int .i64 0, .int .i64 0, .int .i64 0, .int .i64 0, .int .i64 0, .int .i64 0, .int .i64 0, .int .i64 0, .int .i64 0, .int .i64 0, .int .i64 0, .int .i64 0, .int .i64 0, .int .i64 0, .int .i64 0, .int .i64 0, .bool false, .bool false, .bool false, .bool false, .int .i64 0, .slice none 0 0, .int .i64 0, .int .i64 0, .int .i64 0, .int .i64 0, .int .i64 0, .int .i64 0, .int .i64 0, .int .i64 0, .int .i64 0, .int .i64 0, .int .i64 0, .int .i64 0, .int .i64 0, .int .i64 0, .bool false, .bool false, .bool false, .bool false, .int .i64 0, .slice none 0 0, .int .i64 0, .int .i64 0, .slice none 0 0, .int .i64 0], .int .i64 0, .agg #[.int .i64 0, .int .i64 0, .int .i64 0, .int .i64 0, .int .i64 0, .int .i64 0, .int .i64 0, .int .i64 0, .int .i64 0, .int .i64 0, .int .i64 0, .int .i64 0, .int .i64 0, .int .i64 0]], []⟩ 8 (by kernel_rfl) (by kernel_rfl) (by kernel_rfl) (by kernel_rfl)) ?_
  intro W base args ds gs before hval hW _ _
  exact law_contract (D := 8) (by kernel_rfl) (of_allOk (by kernel_rfl)) (tb := 4) (by kernel_rfl) (by kernel_rfl) rfl (fun ds h => by
    have h : ds.length = 3 := h
    match ds, h with
    | [d0, d1, d2], _ => rfl) lRevoluteMotor aRevoluteMotor W base args ds gs before hval hW

theorem revoluteMotor_holds : Rows.RevoluteMotorSaid :=
  OpenClaim.holds_of_wide 3 Try.f3 rfl rfl rfl rfl rfl rfl rfl ⟨rfl, rfl, rfl, rfl, rfl⟩ rfl rfl rfl rfl rfl (by kernel_rfl) Try.func3 (by kernel_rfl)
    (of_decide_eq_true (by kernel_rfl)) (by unfold Func.isWrapper; first | (rw [if_pos (by decide +kernel)]; kernel_rfl) | (rw [if_neg (by decide +kernel)]; exact ⟨rfl, rfl⟩))
    (fun os started H enc _ => liftedRevoluteMotor os started H enc)

def limU (v lo up : Int) (en : Bool) (im dt : Int) (r : Fx.Row) : Bool := an (an (Fx.rowsEq (Fx.limits v lo up en im dt r) (Fx.limits v lo up en im dt r)) (decide (((Fx.limits v lo up en im dt r).length : Int) > 0) == an en (orr (decide (v ≤ lo)) (decide (v ≥ up))))) true
theorem limU_true (v lo up : Int) (en : Bool) (im dt : Int) (r : Fx.Row) : limU v lo up en im dt r = true := by
  refine an_true (an_true (Fx.rowsEq_self _) ?_) rfl
  unfold Fx.limits an orr
  rw [show decide (v ≤ lo) = !decide (lo < v) by by_cases h : lo < v <;> simp [h, Int.not_le.2, Int.not_lt.1], show decide (v ≥ up) = !decide (v < up) by by_cases h : v < up <;> simp [h, Int.not_le.2, Int.not_lt.1]]
  cases en <;> cases decide (lo < v) <;> cases decide (v < up) <;> cases (lo == up) <;> simp
theorem lRevoluteLimits : Sound Try.prog 4 (c7 eI eI eI eB eI eI eRw eB (fun _ _ _ _ _ _ _ => true)) :=
  con (lps := noLps) mixed (.cons cLim31 (.cons rLim31 (.cons rReq (.cons cEx31 .nil)))) Try.func4 (by kernel_rfl) (by kernel_rfl) (noLoops (by kernel_rfl)) (g7 (fun _ _ _ _ _ _ _ => []) limU (fun _ _ _ _ _ _ _ _ => trivial) (fun v lo up en im dt r _ => limU_true v lo up en im dt r) (fun _ _ _ _ _ _ _ => by kernel_rfl))
theorem aRevoluteLimits : ∀ vs, ArgsAre Try.prog 8 [3, 3, 3, 4, 3, 3, 38] vs → ∃ ps, (c7 eI eI eI eB eI eI eRw eB (fun _ _ _ _ _ _ _ => true)) vs = some (ps, .fv (.one (.bool true))) ∧ Conj ps := by
  intro vs h0
  obtain ⟨x0, r, rfl, lo0, hi0, h1⟩ := args_int (k := .i64) (by kernel_rfl) (by kernel_rfl) h0
  obtain ⟨x1, r, rfl, lo1, hi1, h2⟩ := args_int (k := .i64) (by kernel_rfl) (by kernel_rfl) h1
  obtain ⟨x2, r, rfl, lo2, hi2, h3⟩ := args_int (k := .i64) (by kernel_rfl) (by kernel_rfl) h2
  obtain ⟨x3, r, rfl, h4⟩ := args_bool (by kernel_rfl) (by kernel_rfl) h3
  obtain ⟨x4, r, rfl, lo4, hi4, h5⟩ := args_int (k := .i64) (by kernel_rfl) (by kernel_rfl) h4
  obtain ⟨x5, r, rfl, lo5, hi5, h6⟩ := args_int (k := .i64) (by kernel_rfl) (by kernel_rfl) h5
  obtain ⟨x6, r, rfl, h7⟩ := args_Rw (by kernel_rfl) (by kernel_rfl) h6
  obtain rfl := args_nil h7
  exact ⟨_, rfl, trivial⟩
set_option maxRecDepth 100000 in
theorem liftedRevoluteLimits (os : Os) (started : os.Started) (H : Type) (enc : TypeId × Value → H) :
    ReturnsInHanded {} Try.checked os 4 .any (Rows.revoluteLimitsSpec.pre6 enc Try.prog Try.f4 Rows.revoluteLimitsRow.domain false) (Rows.revoluteLimitsSpec.post enc Try.prog Try.f4 false true false false) := by
  refine returnsInHanded_of_change (C := Try.checked) own started (by kernel_rfl) Try.func4 (ChangeSpec.witness6 (enc := enc) (C := Try.checked) false ⟨#[], #[.int .i64 0, .int .i64 0, .int .i64 0, .bool false, .int .i64 0, .int .i64 0, .agg #[.int .i64 0, .int .i64 0, .int .i64 0, .int .i64 0, .int .i64 0, .int .i64 0, .int .i64 0, .int .i64 0, .int .i64 0, .int .i64 0, .int .i64 0, .int .i64 0, .int .i64 0, .int .i64 0]], []⟩ 8 (by kernel_rfl) (by kernel_rfl) (by kernel_rfl) (by kernel_rfl)) ?_
  intro W base args ds gs before hval hW _ _
  exact law_contract (D := 8) (by kernel_rfl) (of_allOk (by kernel_rfl)) (tb := 4) (by kernel_rfl) (by kernel_rfl) rfl (fun ds h => by
    have h : ds.length = 7 := h
    match ds, h with
    | [d0, d1, d2, d3, d4, d5, d6], _ => rfl) lRevoluteLimits aRevoluteLimits W base args ds gs before hval hW

theorem revoluteLimits_holds : Rows.RevoluteLimitsSaid :=
  OpenClaim.holds_of_wide 4 Try.f4 rfl rfl rfl rfl rfl rfl rfl ⟨rfl, rfl, rfl, rfl, rfl⟩ rfl rfl rfl rfl rfl (by kernel_rfl) Try.func4 (by kernel_rfl)
    (of_decide_eq_true (by kernel_rfl)) (by unfold Func.isWrapper; first | (rw [if_pos (by decide +kernel)]; kernel_rfl) | (rw [if_neg (by decide +kernel)]; exact ⟨rfl, rfl⟩))
    (fun os started H enc _ => liftedRevoluteLimits os started H enc)

noncomputable def rctL : List (FuncId × Contract) := [(16, c2 eRw (eSl .sb) eI Fx.eff)]
def rctTv (_c : (List Fx.Row) × (Fx.Ar)) (i : Nat) (_x : Unit) : List TV := [.val (.fv (.one (.ref 0 0))), .val (Bo false), .val (.fv (.one (.own 24))), .val (I (i : Int))]
def rctMv (c : (List Fx.Row) × (Fx.Ar)) (_i : Nat) (_x : Unit) : List MRes := [.val (.blk 36 (arG c.2)), .val (.row 38 ⟨.row, c.1⟩)]
def rctEtv (_c : (List Fx.Row) × (Fx.Ar)) (_e : Unit) : List TV := [.any, .val (Bo false), .any, .any]
def rctEmv (_c : (List Fx.Row) × (Fx.Ar)) (_e : Unit) : List MRes := [.lost, .lost]
def rctDec : List TV → List MRes → Option (List Prop × ((List Fx.Row) × (Fx.Ar)) × (Unit))
  | [.val (.fv (.one (.ref 0 0))), .val (Bo b), .val (.fv (.one (.own 24))), .val (I i)], [.val (.blk 36 ys), .val (.row 38 ⟨.row, l⟩)] => (match arOf ys with
    | some y => some ([b = false, i = 0, l.length ≤ 4], (l, y), ())
    | _ => none)
  | _, _ => none
def rctOk (c : (List Fx.Row) × (Fx.Ar)) : Prop := c.1.length ≤ 4
def rctInv (_c : (List Fx.Row) × (Fx.Ar)) (_i : Nat) (_x : Unit) : Prop := True
theorem rctDec_ok (ts : List TV) (ms : List MRes) (ps : List Prop) (c : (List Fx.Row) × (Fx.Ar)) (x : Unit) (h : rctDec ts ms = some (ps, c, x)) (hp : Conj ps) : ts = rctTv c 0 x ∧ ms = rctMv c 0 x ∧ rctOk c ∧ rctInv c 0 x := by
  unfold rctDec at h
  split at h
  · split at h
    · rename_i y ey
      have ey := arOf_eq ey
      cases h
      subst ey
      obtain ⟨rfl, rfl, hok, _⟩ := hp
      exact ⟨rfl, rfl, hok, trivial⟩
    · cases h
  · cases h
def rctStep (c : (List Fx.Row) × (Fx.Ar)) (i : Nat) (_x : Unit) : Sum (Unit) (Unit) := bif orr (orr (orr ((c.1.getD i Fx.row0).a != c.2.ia) ((c.1.getD i Fx.row0).b != c.2.ib)) ((c.1.getD i Fx.row0).fo != -1)) ((c.1.getD i Fx.row0).em != Fx.eff (c.1.getD i Fx.row0) c.2.s) then .inr () else .inl ()
def rctV (c : (List Fx.Row) × (Fx.Ar)) (i : Nat) (_x : Unit) : VT := VT.ite (decide ((i : Int) < (c.1.length : Int))) (VT.pre [0 ≤ (i : Int) ∧ (i : Int) < (c.1.length : Int), i < c.1.length, ((c.1.getD i Fx.row0).a != c.2.ia) = false → 0 ≤ (i : Int) ∧ (i : Int) < (c.1.length : Int), ((c.1.getD i Fx.row0).a != c.2.ia) = false → i < c.1.length, orr ((c.1.getD i Fx.row0).a != c.2.ia) ((c.1.getD i Fx.row0).b != c.2.ib) = false → 0 ≤ (i : Int) ∧ (i : Int) < (c.1.length : Int), orr ((c.1.getD i Fx.row0).a != c.2.ia) ((c.1.getD i Fx.row0).b != c.2.ib) = false → i < c.1.length, orr (orr ((c.1.getD i Fx.row0).a != c.2.ia) ((c.1.getD i Fx.row0).b != c.2.ib)) ((c.1.getD i Fx.row0).fo != -1) = false → 0 ≤ (i : Int) ∧ (i : Int) < (c.1.length : Int), orr (orr ((c.1.getD i Fx.row0).a != c.2.ia) ((c.1.getD i Fx.row0).b != c.2.ib)) ((c.1.getD i Fx.row0).fo != -1) = false → i < c.1.length, orr (orr ((c.1.getD i Fx.row0).a != c.2.ia) ((c.1.getD i Fx.row0).b != c.2.ib)) ((c.1.getD i Fx.row0).fo != -1) = false → 0 ≤ (i : Int) ∧ (i : Int) < (c.1.length : Int), orr (orr ((c.1.getD i Fx.row0).a != c.2.ia) ((c.1.getD i Fx.row0).b != c.2.ib)) ((c.1.getD i Fx.row0).fo != -1) = false → i < c.1.length] (VT.ite (orr (orr (orr ((c.1.getD i Fx.row0).a != c.2.ia) ((c.1.getD i Fx.row0).b != c.2.ib)) ((c.1.getD i Fx.row0).fo != -1)) ((c.1.getD i Fx.row0).em != Fx.eff (c.1.getD i Fx.row0) c.2.s)) (VT.leaf (Ex.ret) 138 [.val (.fv (.one (.ref 0 0))), .val (Bo false), .val (.fv (.one (.own 24))), .val (I (i : Int))] [.val (.blk 36 (arG c.2)), .val (.row 38 ⟨.row, c.1⟩)]) (VT.leaf Ex.norm 138 [.val (.fv (.one (.ref 0 0))), .val (Bo false), .val (.fv (.one (.own 24))), .val (I (IntKind.i64.wrap ((i : Int) + 1)))] [.val (.blk 36 (arG c.2)), .val (.row 38 ⟨.row, c.1⟩)]))) (VT.leaf (Ex.exit 0) 138 [.val (.fv (.one (.ref 0 0))), .val (Bo false), .val (.fv (.one (.own 24))), .val (I (i : Int))] [.val (.blk 36 (arG c.2)), .val (.row 38 ⟨.row, c.1⟩)])
theorem rctV_eq (c : (List Fx.Row) × (Fx.Ar)) (i : Nat) (x : Unit) : viewT [1, 2, 3, 4] [0, 24] (sexec Try.prog (tbl rctL) (noLps) (lbN 0 Try.f5) (headSt 138 60 [1, 2, 3, 4] [0, 24] (rctTv c i x) (rctMv c i x))) = rctV c i x := by kernel_rfl
noncomputable def rctT : St → Tree := forT 138 60 [1, 2, 3, 4] [0, 24] rctDec (fun c => c.1.length) rctTv rctMv rctEtv rctEmv rctStep () 0 .ret
theorem rctA : AllSound Try.prog rctL := (.cons cEff .nil)
theorem rctLoop : LoopOk Try.prog rctT (lbN 0 Try.f5) :=
  forT_ok mixed rctA.tbl (noLoops (by kernel_rfl)) [0, 24] (bn := fun c => True) (inv := rctInv) rctDec_ok (fun _ _ => ⟨⟨.inr rfl, .inr rfl, .inr rfl, .inr rfl, trivial⟩, ⟨.inr rfl, .inr rfl, trivial⟩, rfl, rfl, rfl⟩)
    (fun _ _ _ _ _ _ hr h1 h2 => by
      trivial)
    (fun c i x hok hn hinv hi => ⟨_, rctV_eq c i x, by
      refine ⟨fun h => ?_, fun h => ?_⟩
      · have h : i < c.1.length := by simpa using h
        refine ⟨(have e : 0 ≤ (i : Int) ∧ (i : Int) < (c.1.length : Int) := ⟨by omega, by omega⟩; ⟨e, h, fun _ => e, fun _ => h, fun _ => e, fun _ => h, fun _ => e, fun _ => h, fun _ => e, fun _ => h, trivial⟩), ?_⟩
        refine ⟨fun hb2 => ?_, fun hb2 => ?_⟩
        · exact ⟨rfl, .inr ⟨rfl, h, (), [], by unfold rctStep; first | rfl | ((try dsimp only); (try rw [hb2]); rfl), ⟨.inl rfl, .inr rfl, .inl rfl, .inl rfl, trivial⟩, ⟨.inl rfl, .inl rfl, trivial⟩, rfl, rfl, rfl⟩⟩
        · rw [wrap_succ h (by have h1 : c.1.length ≤ 4 := hok; simp only [maxLen]; omega)]
          exact ⟨rfl, (), [], h, by unfold rctStep; first | rfl | ((try dsimp only); (try rw [hb2]); rfl), trivial, ⟨.inr rfl, .inr rfl, .inr rfl, .inr rfl, trivial⟩, ⟨.inr rfl, .inr rfl, trivial⟩, rfl, rfl, rfl⟩
      · have h : ¬ i < c.1.length := by simpa using h
        exact ⟨rfl, .inl ⟨rfl, by omega, [], ⟨.inr rfl, .inr rfl, .inr rfl, .inr rfl, trivial⟩, ⟨.inr rfl, .inr rfl, trivial⟩, rfl, rfl, rfl⟩⟩⟩)
def nm1 (r : Fx.Row) (v : Fx.Vec) : Bool := r.nx == v.x && (r.ny == v.y && true)
def rcBad (l : List Fx.Row) (em : Bool) : Bool := orr (orr (orr (decide ((l.length : Int) < 2)) (decide ((l.length : Int) > 4))) (an (!em) (decide ((l.length : Int) > 3)))) (an em (decide ((l.length : Int) < 3)))
def rcEnd (l : List Fx.Row) : Bool := an (an (nm1 (l.getD (Fx.w64 ((l.length : Int) - 2)).toNat Fx.row0) ⟨65536, 0⟩) (nm1 (l.getD (Fx.w64 ((l.length : Int) - 1)).toNat Fx.row0) ⟨0, 65536⟩)) true
section
variable (sm : Fx.Bd → Fx.Bd → List Fx.Sb → Bool) (rr : Fx.Joint → Fx.Bd → Fx.Bd → Int → Int → List Fx.Sb → Int → List Fx.Row) (x : Fx.Ar)
def rcL : List Fx.Row := rr x.j x.a x.b x.ia x.ib x.s x.dt
def rcW := runF (rctStep (rcL rr x, x)) (rcL rr x).length 0 ()
def rcU : Bool := bif !sm x.a x.b x.s then true else bif x.j.kind != 2 then an (((rcL rr x).length : Int) == 0) true else bif rcBad (rcL rr x) x.j.em then false else bif isL (rcW rr x) then rcEnd (rcL rr x) else false
end
section
variable (sm : Fx.Bd → Fx.Bd → List Fx.Sb → Bool) (rr : Fx.Joint → Fx.Bd → Fx.Bd → Int → Int → List Fx.Sb → Int → List Fx.Row) (x : Fx.Ar)
def rcI (k : Int) : Prop := 0 ≤ Fx.w64 (((rcL rr x).length : Int) - k) ∧ Fx.w64 (((rcL rr x).length : Int) - k) < ((rcL rr x).length : Int)
def rcN (k : Int) : Prop := (Fx.w64 (((rcL rr x).length : Int) - k)).toNat < (rcL rr x).length
def rcC (p : Prop) : Prop := (!sm x.a x.b x.s) = false → (x.j.kind != 2) = false → rcBad (rcL rr x) x.j.em = false → p
def rcQ : List Prop := [rcC sm rr x (false = false), rcC sm rr x ((0 : Int) = 0), rcC sm rr x ((rcL rr x).length ≤ 4), rcC sm rr x (isL (rcW rr x) = true → rcI rr x 2), rcC sm rr x (isL (rcW rr x) = true → rcN rr x 2),
  rcC sm rr x (isL (rcW rr x) = true → nm1 ((rcL rr x).getD (Fx.w64 (((rcL rr x).length : Int) - 2)).toNat Fx.row0) ⟨65536, 0⟩ = true → rcI rr x 1), rcC sm rr x (isL (rcW rr x) = true → nm1 ((rcL rr x).getD (Fx.w64 (((rcL rr x).length : Int) - 2)).toNat Fx.row0) ⟨65536, 0⟩ = true → rcN rr x 1)]
theorem rcEq : symFn Try.prog (tbl [(6, c3 eBd eBd (eSl .sb) eB sm), (15, c7 eJ eBd eBd eI eI (eSl .sb) eI (eFr 38 .row) rr), (7, c0 eB true), (16, c2 eRw (eSl .sb) eI Fx.eff)]) (fun _ => rctT) 5 [eAr.pv x] = some (rcQ sm rr x, eB.pv (rcU sm rr x)) := by kernel_rfl
end
theorem rcLen (x : Fx.Ar) (h : (x.j.kind != 2) = false) : (rcL Fx.rrows x).length = (bif x.j.em then 1 else 0) + (Fx.limits (Fx.relAng x.j x.a.t x.b.t) x.j.lo x.j.up x.j.el x.j.i3 x.dt (Fx.arow x.ia x.ib x.s 0)).length + 2 := by
  unfold rcL Fx.rrows
  rw [h]
  simp only [cond_false, List.length_append, Fx.motor_len']
  rfl
theorem rcBad_no (x : Fx.Ar) (h : (x.j.kind != 2) = false) : rcBad (rcL Fx.rrows x) x.j.em = false := by
  have h1 := Fx.limits_len (Fx.relAng x.j x.a.t x.b.t) x.j.lo x.j.up x.j.el x.j.i3 x.dt (Fx.arow x.ia x.ib x.s 0)
  have h2 := rcLen x h
  unfold rcBad
  generalize (rcL Fx.rrows x).length = n at h2
  cases hm : x.j.em <;> rw [hm] at h2 <;> simp only [cond_true, cond_false] at h2
  · rw [decide_eq_false (show ¬ (n : Int) < 2 by omega), decide_eq_false (show ¬ (n : Int) > 4 by omega), decide_eq_false (show ¬ (n : Int) > 3 by omega)]; rfl
  · rw [decide_eq_false (show ¬ (n : Int) < 2 by omega), decide_eq_false (show ¬ (n : Int) > 4 by omega), decide_eq_false (show ¬ (n : Int) < 3 by omega)]; rfl
theorem rcBounds {l : List Fx.Row} {em : Bool} (h : rcBad l em = false) : 2 ≤ l.length ∧ l.length ≤ 4 := by
  unfold rcBad at h
  obtain ⟨h, _⟩ := Fx.of_orr h
  obtain ⟨h, _⟩ := Fx.of_orr h
  obtain ⟨h1, h2⟩ := Fx.of_orr h
  have := of_decide_eq_false h1; have := of_decide_eq_false h2
  omega
theorem rcIdx (x : Fx.Ar) (h : rcBad (rcL Fx.rrows x) x.j.em = false) {k : Int} (h1 : 0 < k) (h2 : k ≤ 2) : rcI Fx.rrows x k ∧ rcN Fx.rrows x k := by
  have hb := rcBounds h
  unfold rcI rcN
  rw [Fx.w64_id (by omega) (by omega)]
  omega
theorem rcQ_ok (x : Fx.Ar) : Conj (rcQ sm31 Fx.rrows x) :=
  ⟨fun _ _ _ => rfl, fun _ _ _ => rfl, fun _ _ h => (rcBounds h).2, fun _ _ h _ => (rcIdx x h (by decide) (by decide)).1, fun _ _ h _ => (rcIdx x h (by decide) (by decide)).2, fun _ _ h _ _ => (rcIdx x h (by decide) (by decide)).1, fun _ _ h _ _ => (rcIdx x h (by decide) (by decide)).2, trivial⟩
theorem rcEnd_true (x : Fx.Ar) (h : (x.j.kind != 2) = false) : rcEnd (rcL Fx.rrows x) = true := by
  have hb := rcBounds (rcBad_no x h)
  unfold rcEnd
  rw [Fx.w64_id (by omega) (by omega), Fx.w64_id (by omega) (by omega), show (((rcL Fx.rrows x).length : Int) - 2).toNat = (rcL Fx.rrows x).length - 2 by omega, show (((rcL Fx.rrows x).length : Int) - 1).toNat = (rcL Fx.rrows x).length - 1 by omega]
  have e : rcL Fx.rrows x = (Fx.motor x.j x.dt (Fx.arow x.ia x.ib x.s 0) ++ Fx.limits (Fx.relAng x.j x.a.t x.b.t) x.j.lo x.j.up x.j.el x.j.i3 x.dt (Fx.arow x.ia x.ib x.s 0)) ++ [Fx.pt1 x.j x.a x.b x.ia x.ib x.s x.dt, Fx.pt2 x.j x.a x.b x.ia x.ib x.s x.dt] := by
    unfold rcL Fx.rrows
    rw [h]; rfl
  rw [e, (Fx.last2 _ _ _ _).1, (Fx.last2 _ _ _ _).2]
  simp [nm1, Fx.pt1, Fx.pt2, an]
theorem rcU_true (x : Fx.Ar) : rcU sm31 Fx.rrows x = true := by
  unfold rcU
  cases !sm31 x.a x.b x.s with
  | true => rfl
  | false =>
    cases hk : (x.j.kind != 2) with
    | true =>
      have e : rcL Fx.rrows x = [] := by unfold rcL Fx.rrows; rw [hk]; rfl
      rw [e]; rfl
    | false =>
      have e : isL (rcW Fx.rrows x) = true := by
        refine Fx.isL_all (p := fun i => orr (orr (orr (((rcL Fx.rrows x).getD i Fx.row0).a != x.ia) (((rcL Fx.rrows x).getD i Fx.row0).b != x.ib)) (((rcL Fx.rrows x).getD i Fx.row0).fo != -1)) (((rcL Fx.rrows x).getD i Fx.row0).em != Fx.eff ((rcL Fx.rrows x).getD i Fx.row0) x.s)) (e := fun _ => ()) _ _ fun i _ hi => ?_
        obtain ⟨q1, q2, q3, q4⟩ := Fx.rrows_ok x.j x.a x.b x.ia x.ib x.s x.dt (Fx.getD_mem (d := Fx.row0) (show i < (Fx.rrows x.j x.a x.b x.ia x.ib x.s x.dt).length by have hi : i < 0 + (rcL Fx.rrows x).length := hi; unfold rcL at hi; omega))
        unfold rcL
        rw [q4, q1, q2, q3]
        simp [orr]
      rw [rcBad_no x hk, e, rcEnd_true x hk]
      rfl
theorem lRevoluteRowCount : Sound Try.prog 5 (c1 eAr eB (fun _ => true)) :=
  con (lps := fun _ => rctT) mixed (AllSound.cons rSm31 (.cons cRrw (.cons cEx31 (.cons cEff .nil)))) Try.func5 (by kernel_rfl) (by kernel_rfl) (oneLoop (lps := fun _ => rctT) (b := lbN 0 Try.f5) (by kernel_rfl) rctLoop)
    (g1 (fun x => rcQ sm31 Fx.rrows x) (fun x => rcU sm31 Fx.rrows x) (fun x _ => rcQ_ok x) (fun x _ => rcU_true x) (fun x => rcEq sm31 Fx.rrows x))
theorem aRevoluteRowCount : ∀ vs, ArgsAre Try.prog 8 [36] vs → ∃ ps, (c1 eAr eB (fun _ => true)) vs = some (ps, .fv (.one (.bool true))) ∧ Conj ps := by
  intro vs h0
  obtain ⟨x0, r, rfl, h1⟩ := args_Ar (by kernel_rfl) (by kernel_rfl) h0
  obtain rfl := args_nil h1
  exact ⟨_, rfl, trivial⟩
set_option maxRecDepth 100000 in
theorem liftedRevoluteRowCount (os : Os) (started : os.Started) (H : Type) (enc : TypeId × Value → H) :
    ReturnsInHanded {} Try.checked os 5 .any (Rows.revoluteRowCountSpec.pre6 enc Try.prog Try.f5 Rows.revoluteRowCountRow.domain false) (Rows.revoluteRowCountSpec.post enc Try.prog Try.f5 false true false false) := by
  refine returnsInHanded_of_change (C := Try.checked) own started (by kernel_rfl) Try.func5 (ChangeSpec.witness6 (enc := enc) (C := Try.checked) false ⟨#[], #[.agg #[.int .i64 0, .int .i64 0, .int .i64 0, .int .i64 0, .int .i64 0, .int .i64 0, .int .i64 0, .int .i64 0, .int .i64 0, .int .i64 0, .int .i64 0, .bool false, .int .i64 0, .int .i64 0, .bool false, .int .i64 0, .int .i64 0, .int .i64 0, .int .i64 0, .bool false, .int .i64 0, .int .i64 0, .int .i64 0, .int .i64 0, .int .i64 0, .int .i64 0, .int .i64 0, .int .i64 0, .int .i64 0, .int .i64 0, .int .i64 0, .int .i64 0, .int .i64 0, .int .i64 0, .int .i64 0, .int .i64 0, .int .i64 0, .int .i64 0, .bool false, .bool false, .bool false, .bool false, .int .i64 0, .slice none 0 0, .int .i64 0, .int .i64 0, .int .i64 0, .int .i64 0, .int .i64 0, .int .i64 0, .int .i64 0, .int .i64 0, .int .i64 0, .int .i64 0, .int .i64 0, .int .i64 0, .int .i64 0, .int .i64 0, .bool false, .bool false, .bool false, .bool false, .int .i64 0, .slice none 0 0, .int .i64 0, .int .i64 0, .slice none 0 0, .int .i64 0]], []⟩ 8 (by kernel_rfl) (by kernel_rfl) (by kernel_rfl) (by kernel_rfl)) ?_
  intro W base args ds gs before hval hW _ _
  exact law_contract (D := 8) (by kernel_rfl) (of_allOk (by kernel_rfl)) (tb := 4) (by kernel_rfl) (by kernel_rfl) rfl (fun ds h => by
    have h : ds.length = 1 := h
    match ds, h with
    | [d0], _ => rfl) lRevoluteRowCount aRevoluteRowCount W base args ds gs before hval hW

theorem revoluteRowCount_holds : Rows.RevoluteRowCountSaid :=
  OpenClaim.holds_of_wide 5 Try.f5 rfl rfl rfl rfl rfl rfl rfl ⟨rfl, rfl, rfl, rfl, rfl⟩ rfl rfl rfl rfl rfl (by kernel_rfl) Try.func5 (by kernel_rfl)
    (of_decide_eq_true (by kernel_rfl)) (by unfold Func.isWrapper; first | (rw [if_pos (by decide +kernel)]; kernel_rfl) | (rw [if_neg (by decide +kernel)]; exact ⟨rfl, rfl⟩))
    (fun os started H enc _ => liftedRevoluteRowCount os started H enc)

end Go.Proofs.Ythaoinkbblbijaa
