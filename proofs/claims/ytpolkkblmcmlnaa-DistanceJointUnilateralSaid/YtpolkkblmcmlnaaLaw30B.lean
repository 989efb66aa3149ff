/- Proved here: laws of chapter 30 return true for every input. Conditions: none. -/
import Derived.Test.YtpolkkblmcmlnaaSm3
import Derived.Test.YtpolkkblmcmlnaaSol
import Derived.Test.YtpolkkblmcmlnaaEngUni
import Derived.RowKit3
open Go Go.Eng
namespace Go.Proofs.Ytpolkkblmcmlnaa
open Go.Fx (an orr an_true)

theorem own : ownKnob Try.prog.godebug = none := by kernel_rfl
theorem an_self {x y : Bool} (c : Bool) (h : x = true) (h' : y = true) : (bif c then true else an x y) = true := by rw [an_true h h']; cases c <;> rfl
def ex30Q : List Prop := [true = true → (0 : Int) ≤ (0 : Int) ∧ (0 : Int) < (1 : Int), true = true → 0 < 1, true = true → (0 : Int) ≤ (0 : Int) ∧ (0 : Int) < (1 : Int), true = true → 0 < 1]
theorem ex30Q_ok : Conj ex30Q := by simp [ex30Q, Conj]
theorem cEx30 : Sound Try.prog 7 (c0 eB true) :=
  con (lps := noLps) mixed (.cons cDrw (.cons cLen (.cons cLer .nil))) Try.func7 (by kernel_rfl) (by kernel_rfl) (noLoops (by kernel_rfl)) (g0 ex30Q true (fun _ => ex30Q_ok) (fun _ => rfl) (by kernel_rfl))
section
variable (sm : Fx.Ar → Bool) (dr : Fx.Joint → Fx.Bd → Fx.Bd → Int → Int → List Fx.Sb → Int → List Fx.Row) (ln : Fx.Joint → Fx.Bd → Fx.Bd → Int) (s1 : List Fx.Row → Int → List Fx.Sb → List Fx.Row) (s2 : List Fx.Row → Int → List Fx.Sb → List Fx.Sb) (x : Fx.Ar)
def unG : Bool := orr (orr (!sm x) (x.j.kind != 1)) (decide (x.j.lo > x.j.up))
def unL : List Fx.Row := dr x.j x.a x.b x.ia x.ib x.s x.dt
def unM : List Fx.Row := s1 (unL dr x) 0 x.s
def unU : Bool := bif unG sm x then true else Fx.uniG (ln x.j x.a x.b) x.j.lo x.j.up (unL dr x) ((unM dr s1 x).getD 0 Fx.row0) (unM dr s1 x).length
def unLS : List (FuncId × Contract) := [(6, c1 eAr eB sm), (12, c7 eJ eBd eBd eI eI (eSl .sb) eI (eFr 43 .row) dr), (8, c3 eJ eBd eBd eI ln), (13, p3 (eSl .row) eI (eSl .sb) eSS (fun l _ s => [l.length * 112 ≤ 140737488355328, s.length * 40 ≤ 140737488355328]) (fun l i s => (s1 l i s, s2 l i s))), (7, c0 eB true)]
def unC (p : Prop) : Prop := unG sm x = false → (((unL dr x).length : Int) != 1) = false → p
def unD (p : Prop) : Prop := unC sm dr x ((((unM dr s1 x).length : Int) != 1) = false → p)
def unI (l : List Fx.Row) : Prop := (0 : Int) ≤ (0 : Int) ∧ (0 : Int) < ((l.length : Nat) : Int)
def unQ : List Prop := [unC sm dr x ((unL dr x).length * 112 ≤ 140737488355328), unC sm dr x (x.s.length * 40 ≤ 140737488355328),
  unD sm dr s1 x ((x.j.lo == x.j.up) = true → unI (unL dr x)), unD sm dr s1 x ((x.j.lo == x.j.up) = true → 0 < (unL dr x).length),
  unD sm dr s1 x ((x.j.lo == x.j.up) = true → (((unL dr x).getD 0 Fx.row0).lo == -536870911) = true → unI (unL dr x)), unD sm dr s1 x ((x.j.lo == x.j.up) = true → (((unL dr x).getD 0 Fx.row0).lo == -536870911) = true → 0 < (unL dr x).length),
  unD sm dr s1 x ((x.j.lo == x.j.up) = false → decide (ln x.j x.a x.b > x.j.lo) = false → unI (unM dr s1 x)), unD sm dr s1 x ((x.j.lo == x.j.up) = false → decide (ln x.j x.a x.b < x.j.up) = false → unI (unM dr s1 x))]
theorem unEq : symFn Try.prog (tbl (unLS sm dr ln s1 s2)) noLps 5 [eAr.pv x] = some (unQ sm dr ln s1 x, eB.pv (unU sm dr ln s1 x)) := by kernel_rfl
end
theorem unL_one {x : Fx.Ar} (h : (((unL Fx.drows x).length : Int) != 1) = false) : (unL Fx.drows x).length = 1 := by simp at h; omega
theorem unM_one {x : Fx.Ar} (h : (((unL Fx.drows x).length : Int) != 1) = false) : (unM Fx.drows Fx.solved1 x).length = 1 := by unfold unM; rw [Fx.solved1_len]; exact unL_one h
theorem unG_of {x : Fx.Ar} (h : unG sm3 x = false) : x.s.length ≤ 20 ∧ (x.j.kind != 1) = false ∧ x.j.lo ≤ x.j.up := by
  obtain ⟨h, h3⟩ := Fx.of_orr h
  obtain ⟨h1, h2⟩ := Fx.of_orr h
  have h3 := of_decide_eq_false h3
  have h1 : sm3 x = true := by simpa using h1
  have := of_decide_eq_true (Fx.of_an h1).1
  exact ⟨by omega, h2, by omega⟩
theorem unQ_ok (x : Fx.Ar) : Conj (unQ sm3 Fx.drows Fx.jlen Fx.solved1 x) := by
  have IL : ∀ {p : Prop}, p → unC sm3 Fx.drows x (p ∧ unI (unL Fx.drows x) ∧ 0 < (unL Fx.drows x).length ∧ unI (unM Fx.drows Fx.solved1 x)) := fun {p} hp _ h => by
    have h1 := unL_one h; have h2 := unM_one h
    exact ⟨hp, ⟨by decide, by omega⟩, by omega, ⟨by decide, by omega⟩⟩
  exact ⟨fun _ h => by rw [unL_one h]; decide, fun g _ => by have := (unG_of g).1; omega, fun g h _ _ => (IL trivial g h).2.1, fun g h _ _ => (IL trivial g h).2.2.1, fun g h _ _ _ => (IL trivial g h).2.1, fun g h _ _ _ => (IL trivial g h).2.2.1, fun g h _ _ _ => (IL trivial g h).2.2.2, fun g h _ _ _ => (IL trivial g h).2.2.2, trivial⟩
theorem unU_true (x : Fx.Ar) : unU sm3 Fx.drows Fx.jlen Fx.solved1 x = true := by
  unfold unU
  cases hg : unG sm3 x with
  | true => rfl
  | false =>
    obtain ⟨_, h2, h3⟩ := unG_of hg
    exact Fx.uni_true x.j x.a x.b x.ia x.ib x.s x.dt h2 h3
theorem lDistanceJointUnilateral : Sound Try.prog 5 (c1 eAr eB (fun _ => true)) :=
  con (lps := noLps) mixed (l := unLS sm3 Fx.drows Fx.jlen Fx.solved1 Fx.solved2) (AllSound.cons cSm30 (.cons cDrw (.cons cLen (.cons cSlv (.cons cEx30 .nil))))) Try.func5 (by kernel_rfl) (by kernel_rfl) (noLoops (by kernel_rfl))
    (g1 (fun x => unQ sm3 Fx.drows Fx.jlen Fx.solved1 x) (fun x => unU sm3 Fx.drows Fx.jlen Fx.solved1 x) (fun x _ => unQ_ok x) (fun x _ => unU_true x) (fun x => unEq sm3 Fx.drows Fx.jlen Fx.solved1 Fx.solved2 x))
theorem aDistanceJointUnilateral : ∀ vs, ArgsAre Try.prog 8 [36] vs → ∃ ps, (c1 eAr eB (fun _ => true)) vs = some (ps, .fv (.one (.bool true))) ∧ Conj ps := by
  intro vs h0
  obtain ⟨x0, r, rfl, h1⟩ := args_Ar (by kernel_rfl) (by kernel_rfl) h0
  obtain rfl := args_nil h1
  exact ⟨_, rfl, trivial⟩
set_option maxRecDepth 100000 in
theorem liftedDistanceJointUnilateral (os : Os) (started : os.Started) (H : Type) (enc : TypeId × Value → H) :
    ReturnsInHanded {} Try.checked os 5 .any (Rows.distanceJointUnilateralSpec.pre6 enc Try.prog Try.f5 Rows.distanceJointUnilateralRow.domain false) (Rows.distanceJointUnilateralSpec.post enc Try.prog Try.f5 false true false false) := by
  refine returnsInHanded_of_change (C := Try.checked) own started (by kernel_rfl) Try.func5 (ChangeSpec.witness6 (enc := enc) (C := Try.checked) false ⟨#[], #[.agg #[.int .i64 0, .int .i64 0, .int .i64 0, .int .i64 0, .int .i64 0, .int .i64 0, .int .i64 0, .int .i64 0, .int .i64 0, .int .i64 0, .int .i64 0, .bool false, .int .i64 0, .int .i64 0, .bool false, .int .i64 0, .int .i64 0, .int .i64 0, .int .i64 0, .bool false, .int .i64 0, .int .i64 0, .int .i64 0, .int .i64 0, .int .i64 0, .int .i64 0, .int .i64 0, .int .i64 0, .int .i64 0, .int .i64 0, .int .i64 0, .int .i64 0, .int .i64 0, .int .i64 0, .int .i64 0, .int .i64 0, .int .i64 0, .int .i64 0, .bool false, .bool false, .bool false, .bool false, .int .i64 0, .slice none 0 0, .int .i64 0, .int .i64 0, .int .i64 0, .int .i64 0, .int .i64 0, .int .i64 0, .int .i64 0, .int .i64 0, .int .i64 0, .int .i64 0, .int .i64 0, .int .i64 0, .int .i64 0, .int .i64 0, .bool false, .bool false, .bool false, .bool false, .int .i64 0, .slice none 0 0, .int .i64 0, .int .i64 0, .slice none 0 0, .int .i64 0]], []⟩ 8 (by kernel_rfl) (by kernel_rfl) (by kernel_rfl) (by kernel_rfl)) ?_
  intro W base args ds gs before hval hW _ _
  exact law_contract (D := 8) (by kernel_rfl) (of_allOk (by kernel_rfl)) (tb := 4) (by kernel_rfl) (by kernel_rfl) rfl (fun ds h => by
    have h : ds.length = 1 := h
    match ds, h with
    | [d0], _ => rfl) lDistanceJointUnilateral aDistanceJointUnilateral W base args ds gs before hval hW

theorem distanceJointUnilateral_holds : Rows.DistanceJointUnilateralSaid :=
  OpenClaim.holds_of_wide 5 Try.f5 rfl rfl rfl rfl rfl rfl rfl ⟨rfl, rfl, rfl, rfl, rfl⟩ rfl rfl rfl rfl rfl (by kernel_rfl) Try.func5 (by kernel_rfl)
    (of_decide_eq_true (by kernel_rfl)) (by unfold Func.isWrapper; first | (rw [if_pos (by decide +kernel)]; kernel_rfl) | (rw [if_neg (by decide +kernel)]; exact ⟨rfl, rfl⟩))
    (fun os started H enc _ => liftedDistanceJointUnilateral os started H enc)

end Go.Proofs.Ytpolkkblmcmlnaa
