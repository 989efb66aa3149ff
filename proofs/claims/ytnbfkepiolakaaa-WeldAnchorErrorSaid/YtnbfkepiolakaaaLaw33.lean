/- Proved here: laws of chapter 33 return true for every input. Conditions: none. -/
import Derived.Test.YtnbfkepiolakaaaSm3
import Derived.Test.YtnbfkepiolakaaaEngTra
import Derived.RowKit3
open Go Go.Eng
namespace Go.Proofs.Ytnbfkepiolakaaa
open Go.Fx (an orr an_true)

theorem own : ownKnob Try.prog.godebug = none := by kernel_rfl
theorem an_self {x y : Bool} (c : Bool) (h : x = true) (h' : y = true) : (bif c then true else an x y) = true := by rw [an_true h h']; cases c <;> rfl
theorem cAer : Sound Try.prog 8 (c3 eJ eBd eBd eI Fx.jlen) :=
  con (lps := noLps) mixed (.cons cAnch (.cons cVsub (.cons cVlen .nil))) Try.func8 (by kernel_rfl) (by kernel_rfl) (noLoops (by kernel_rfl)) (k3 (fun _ _ _ => by kernel_rfl))
theorem rAer : Sound Try.prog 9 (c3 eJ eBd eBd eI Fx.jlen) :=
  con (lps := noLps) mixed (.cons rAnch (.cons rVsub (.cons rVlen .nil))) Try.func9 (by kernel_rfl) (by kernel_rfl) (noLoops (by kernel_rfl)) (g3 (fun _ _ _ => []) (fun j a b => Fx.vlenR (Fx.jdiff j a b)) (fun _ _ _ _ => trivial) (fun _ _ _ _ => Fx.vlenR_eq _) (fun _ _ _ => by kernel_rfl))
def ex33Q : List Prop := [true = true → (0 : Int) ≤ (0 : Int) ∧ (0 : Int) < (2 : Int), true = true → 0 < 2, true = true → (0 : Int) ≤ (0 : Int) ∧ (0 : Int) < (2 : Int), true = true → 0 < 2, true = true → (0 : Int) ≤ (1 : Int) ∧ (1 : Int) < (2 : Int), true = true → 1 < 2, true = true → (0 : Int) ≤ (1 : Int) ∧ (1 : Int) < (2 : Int), true = true → 1 < 2, true = true → (0 : Int) ≤ (0 : Int) ∧ (0 : Int) < (2 : Int), true = true → 0 < 2, true = true → (0 : Int) ≤ (0 : Int) ∧ (0 : Int) < (2 : Int), true = true → 0 < 2, true = true → (0 : Int) ≤ (1 : Int) ∧ (1 : Int) < (2 : Int), true = true → 1 < 2]
theorem ex33Q_ok : Conj ex33Q := by simp [ex33Q, Conj]
theorem cEx33 : Sound Try.prog 7 (c0 eB true) :=
  con (lps := noLps) mixed (.cons cTgt (.cons cAer .nil)) Try.func7 (by kernel_rfl) (by kernel_rfl) (noLoops (by kernel_rfl)) (g0 ex33Q true (fun _ => ex33Q_ok) (fun _ => rfl) (by kernel_rfl))
theorem lWeldAnchorError : Sound Try.prog 3 (c1 eAr eB (fun _ => true)) :=
  con (lps := noLps) mixed (.cons cSm33 (.cons cAer (.cons rAer (.cons cEx33 .nil)))) Try.func3 (by kernel_rfl) (by kernel_rfl) (noLoops (by kernel_rfl)) (g1 (fun _ => []) (fun x => bif !sm3 x then true else an (an (Fx.jlen x.j x.a x.b == Fx.jlen x.j x.a x.b) (decide (Fx.jlen x.j x.a x.b ≥ 0))) true) (fun _ _ => trivial) (fun x _ => an_self _ (an_true (beq_self_eq_true _) (decide_eq_true (Fx.vlen_nn _))) rfl) (fun _ => by kernel_rfl))
theorem aWeldAnchorError : ∀ vs, ArgsAre Try.prog 8 [36] vs → ∃ ps, (c1 eAr eB (fun _ => true)) vs = some (ps, .fv (.one (.bool true))) ∧ Conj ps := by
  intro vs h0
  obtain ⟨x0, r, rfl, h1⟩ := args_Ar (by kernel_rfl) (by kernel_rfl) h0
  obtain rfl := args_nil h1
  exact ⟨_, rfl, trivial⟩
set_option maxRecDepth 100000 in
theorem liftedWeldAnchorError (os : Os) (started : os.Started) (H : Type) (enc : TypeId × Value → H) :
    ReturnsInHanded {} Try.checked os 3 .any (Rows.weldAnchorErrorSpec.pre6 enc Try.prog Try.f3 Rows.weldAnchorErrorRow.domain false) (Rows.weldAnchorErrorSpec.post enc Try.prog Try.f3 false true false false) := by
  refine returnsInHanded_of_change (C := Try.checked) own started (by kernel_rfl) Try.func3 (ChangeSpec.witness6 (enc := enc) (C := Try.checked) false ⟨#[], #[.agg #[.int .i64 0, .int .i64 0, .int .i64 0, .int .i64 0, .int .i64 0, .int .i64 0, .int .i64 0, .int .i64 0, .int .i64 0, .int .i64 0, .int .i64 0, .bool false, .int .i64 0, .int .i64 0, .bool false, .int .i64 0, .int .i64 0, .int .i64 0, .int .i64 0, .bool false, .int .i64 0, .int .i64 0, .int .i64 0, .int .i64 0, .int .i64 0, .int .i64 0, .int .i64 0, .int .i64 0, .int .i64 0, .int .i64 0, .int .i64 0, .int .i64 0, .int .i64 0, .int .i64 0, .int .i64 0, .int .i64 0, .int .i64 0, .int .i64 0, .bool false, .bool false, .bool false, .bool false, .int .i64 0, .slice none 0 0, .int .i64 0, .int .i64 0, .int .i64 0, .int .i64 0, .int .i64 0, .int .i64 0, .int .i64 0, .int .i64 0, .int .i64 0, .int .i64 0, .int .i64 0, .int .i64 0, .int .i64 0, .int .i64 0, .bool false, .bool false, .bool false, .bool false, .int .i64 0, .slice none 0 0, .int .i64 0, .int .i64 0, .slice none 0 0, .int .i64 0]], []⟩ 8 (by kernel_rfl) (by kernel_rfl) (by kernel_rfl) (by kernel_rfl)) ?_
  intro W base args ds gs before hval hW _ _
  exact law_contract (D := 8) (by kernel_rfl) (of_allOk (by kernel_rfl)) (tb := 4) (by kernel_rfl) (by kernel_rfl) rfl (fun ds h => by
    have h : ds.length = 1 := h
    match ds, h with
    | [d0], _ => rfl) lWeldAnchorError aWeldAnchorError W base args ds gs before hval hW

theorem weldAnchorError_holds : Rows.WeldAnchorErrorSaid :=
  OpenClaim.holds_of_wide 3 Try.f3 rfl rfl rfl rfl rfl rfl rfl ⟨rfl, rfl, rfl, rfl, rfl⟩ rfl rfl rfl rfl rfl (by kernel_rfl) Try.func3 (by kernel_rfl)
    (of_decide_eq_true (by kernel_rfl)) (by unfold Func.isWrapper; first | (rw [if_pos (by decide +kernel)]; kernel_rfl) | (rw [if_neg (by decide +kernel)]; exact ⟨rfl, rfl⟩))
    (fun os started H enc _ => liftedWeldAnchorError os started H enc)

def nm1 (r : Fx.Row) (v : Fx.Vec) : Bool := r.nx == v.x && (r.ny == v.y && true)
section
variable (sm : Fx.Ar → Bool) (wr : Fx.Joint → Fx.Bd → Fx.Bd → Int → Int → List Fx.Sb → Int → List Fx.Row) (tr : Fx.Joint → Fx.Bd → Int → List Fx.Sb → Int → List Fx.Row) (x : Fx.Ar)
def wcL : List Fx.Row := wr x.j x.a x.b x.ia x.ib x.s x.dt
def wcG : List Fx.Row := tr x.j x.b x.ib x.s x.dt
def wc4 (l g : List Fx.Row) (j : Fx.Joint) : Bool := an (an (an (an (an (an (an ((l.length : Int) == 3) ((g.length : Int) == 0)) ((l.getD 0 Fx.row0).im == j.i2)) ((l.getD 1 Fx.row0).im == j.i0)) ((l.getD 2 Fx.row0).im == j.i1)) ((l.getD 0 Fx.row0).aa == 65536)) (nm1 (l.getD 0 Fx.row0) ⟨0, 0⟩)) true
def wc5 (l g : List Fx.Row) (j : Fx.Joint) : Bool := an (an (an (an (an (an ((l.length : Int) == 0) ((g.length : Int) == 2)) ((g.getD 0 Fx.row0).im == j.i0)) ((g.getD 1 Fx.row0).im == j.i1)) ((g.getD 0 Fx.row0).a == -1)) ((g.getD 1 Fx.row0).aa == 0)) true
def wcU : Bool := bif !sm x then true else bif x.j.kind == 4 then wc4 (wcL wr x) (wcG tr x) x.j else bif x.j.kind == 5 then wc5 (wcL wr x) (wcG tr x) x.j else an (an (((wcL wr x).length : Int) == 0) (((wcG tr x).length : Int) == 0)) true
end
theorem wcU_true (sm : Fx.Ar → Bool) (x : Fx.Ar) : wcU sm Fx.wrows Fx.trows x = true := by
  unfold wcU wcL wcG Fx.wrows Fx.trows
  cases !sm x with
  | true => rfl
  | false =>
    cases h4 : (x.j.kind == 4) with
    | true =>
      rw [show (x.j.kind != 4) = false by rw [bne, h4]; rfl, show (x.j.kind != 5) = true by rw [bne, Fx.beq_ne h4 (by decide : (4 : Int) ≠ 5)]; rfl]
      simp [wc4, an, nm1, Fx.wang, Fx.points, Fx.pt1, Fx.pt2]
    | false =>
      rw [show (x.j.kind != 4) = true by rw [bne, h4]; rfl]
      cases h5 : (x.j.kind == 5) with
      | true =>
        rw [show (x.j.kind != 5) = false by rw [bne, h5]; rfl]
        simp [wc5, an, Fx.trow]
      | false =>
        rw [show (x.j.kind != 5) = true by rw [bne, h5]; rfl]
        rfl
section
variable (sm : Fx.Ar → Bool) (wr : Fx.Joint → Fx.Bd → Fx.Bd → Int → Int → List Fx.Sb → Int → List Fx.Row) (tr : Fx.Joint → Fx.Bd → Int → List Fx.Sb → Int → List Fx.Row) (x : Fx.Ar)
def wcI (l : List Fx.Row) (k : Nat) : Prop := (0 : Int) ≤ ((k : Nat) : Int) ∧ ((k : Nat) : Int) < ((l.length : Nat) : Int)
def wp1 (l g : List Fx.Row) : Bool := an ((l.length : Int) == 3) ((g.length : Int) == 0)
def wp2 (l g : List Fx.Row) (j : Fx.Joint) : Bool := an (wp1 l g) ((l.getD 0 Fx.row0).im == j.i2)
def wp3 (l g : List Fx.Row) (j : Fx.Joint) : Bool := an (wp2 l g j) ((l.getD 1 Fx.row0).im == j.i0)
def wp4 (l g : List Fx.Row) (j : Fx.Joint) : Bool := an (wp3 l g j) ((l.getD 2 Fx.row0).im == j.i1)
def wp5 (l g : List Fx.Row) (j : Fx.Joint) : Bool := an (wp4 l g j) ((l.getD 0 Fx.row0).aa == 65536)
def wq1 (l g : List Fx.Row) : Bool := an ((l.length : Int) == 0) ((g.length : Int) == 2)
def wq2 (l g : List Fx.Row) (j : Fx.Joint) : Bool := an (wq1 l g) ((g.getD 0 Fx.row0).im == j.i0)
def wq3 (l g : List Fx.Row) (j : Fx.Joint) : Bool := an (wq2 l g j) ((g.getD 1 Fx.row0).im == j.i1)
def wq4 (l g : List Fx.Row) (j : Fx.Joint) : Bool := an (wq3 l g j) ((g.getD 0 Fx.row0).a == -1)
def wc4C (b : Bool) (p : Prop) : Prop := (!sm x) = false → (x.j.kind == 4) = true → b = true → p
def wc5C (b : Bool) (p : Prop) : Prop := (!sm x) = false → (x.j.kind == 4) = false → (x.j.kind == 5) = true → b = true → p
def wcQ : List Prop := [wc4C sm x (wp1 (wcL wr x) (wcG tr x)) (wcI (wcL wr x) 0), wc4C sm x (wp1 (wcL wr x) (wcG tr x)) (0 < (wcL wr x).length),
  wc4C sm x (wp2 (wcL wr x) (wcG tr x) x.j) (wcI (wcL wr x) 1), wc4C sm x (wp2 (wcL wr x) (wcG tr x) x.j) (1 < (wcL wr x).length),
  wc4C sm x (wp3 (wcL wr x) (wcG tr x) x.j) (wcI (wcL wr x) 2), wc4C sm x (wp3 (wcL wr x) (wcG tr x) x.j) (2 < (wcL wr x).length),
  wc4C sm x (wp4 (wcL wr x) (wcG tr x) x.j) (wcI (wcL wr x) 0), wc4C sm x (wp4 (wcL wr x) (wcG tr x) x.j) (0 < (wcL wr x).length),
  wc4C sm x (wp5 (wcL wr x) (wcG tr x) x.j) (wcI (wcL wr x) 0), wc4C sm x (wp5 (wcL wr x) (wcG tr x) x.j) (0 < (wcL wr x).length),
  wc5C sm x (wq1 (wcL wr x) (wcG tr x)) (wcI (wcG tr x) 0), wc5C sm x (wq1 (wcL wr x) (wcG tr x)) (0 < (wcG tr x).length),
  wc5C sm x (wq2 (wcL wr x) (wcG tr x) x.j) (wcI (wcG tr x) 1), wc5C sm x (wq2 (wcL wr x) (wcG tr x) x.j) (1 < (wcG tr x).length),
  wc5C sm x (wq3 (wcL wr x) (wcG tr x) x.j) (wcI (wcG tr x) 0), wc5C sm x (wq3 (wcL wr x) (wcG tr x) x.j) (0 < (wcG tr x).length),
  wc5C sm x (wq4 (wcL wr x) (wcG tr x) x.j) (wcI (wcG tr x) 1), wc5C sm x (wq4 (wcL wr x) (wcG tr x) x.j) (1 < (wcG tr x).length)]
theorem wcEq : symFn Try.prog (tbl [(6, c1 eAr eB sm), (10, c7 eJ eBd eBd eI eI (eSl .sb) eI (eFr 44 .row) wr), (11, c5 eJ eBd eI (eSl .sb) eI (eFr 44 .row) tr), (7, c0 eB true)]) noLps 4 [eAr.pv x] = some (wcQ sm wr tr x, eB.pv (wcU sm wr tr x)) := by kernel_rfl
end
theorem wcL3 (x : Fx.Ar) (h : (x.j.kind == 4) = true) : (wcL Fx.wrows x).length = 3 := by
  unfold wcL Fx.wrows
  rw [show (x.j.kind != 4) = false by rw [bne, h]; rfl]; rfl
theorem wcG2 (x : Fx.Ar) (h : (x.j.kind == 5) = true) : (wcG Fx.trows x).length = 2 := by
  unfold wcG Fx.trows
  rw [show (x.j.kind != 5) = false by rw [bne, h]; rfl]; rfl
theorem wcQ_ok (x : Fx.Ar) : Conj (wcQ sm3 Fx.wrows Fx.trows x) := by
  have I3 : ∀ k, k < 3 → ∀ b, wc4C sm3 x b (wcI (wcL Fx.wrows x) k) := fun k hk b _ h _ => by unfold wcI; rw [wcL3 x h]; omega
  have N3 : ∀ k, k < 3 → ∀ b, wc4C sm3 x b (k < (wcL Fx.wrows x).length) := fun k hk b _ h _ => by rw [wcL3 x h]; exact hk
  have I2 : ∀ k, k < 2 → ∀ b, wc5C sm3 x b (wcI (wcG Fx.trows x) k) := fun k hk b _ _ h _ => by unfold wcI; rw [wcG2 x h]; omega
  have N2 : ∀ k, k < 2 → ∀ b, wc5C sm3 x b (k < (wcG Fx.trows x).length) := fun k hk b _ _ h _ => by rw [wcG2 x h]; exact hk
  exact ⟨I3 0 (by decide) _, N3 0 (by decide) _, I3 1 (by decide) _, N3 1 (by decide) _, I3 2 (by decide) _, N3 2 (by decide) _, I3 0 (by decide) _, N3 0 (by decide) _, I3 0 (by decide) _, N3 0 (by decide) _,
    I2 0 (by decide) _, N2 0 (by decide) _, I2 1 (by decide) _, N2 1 (by decide) _, I2 0 (by decide) _, N2 0 (by decide) _, I2 1 (by decide) _, N2 1 (by decide) _, trivial⟩
theorem lWeldRowCounts : Sound Try.prog 4 (c1 eAr eB (fun _ => true)) :=
  con (lps := noLps) mixed (AllSound.cons cSm33 (.cons cWld (.cons cTgt (.cons cEx33 .nil)))) Try.func4 (by kernel_rfl) (by kernel_rfl) (noLoops (by kernel_rfl))
    (g1 (fun x => wcQ sm3 Fx.wrows Fx.trows x) (fun x => wcU sm3 Fx.wrows Fx.trows x) (fun x _ => wcQ_ok x) (fun x _ => wcU_true sm3 x) (fun x => wcEq sm3 Fx.wrows Fx.trows x))
theorem aWeldRowCounts : ∀ vs, ArgsAre Try.prog 8 [36] vs → ∃ ps, (c1 eAr eB (fun _ => true)) vs = some (ps, .fv (.one (.bool true))) ∧ Conj ps := by
  intro vs h0
  obtain ⟨x0, r, rfl, h1⟩ := args_Ar (by kernel_rfl) (by kernel_rfl) h0
  obtain rfl := args_nil h1
  exact ⟨_, rfl, trivial⟩
set_option maxRecDepth 100000 in
theorem liftedWeldRowCounts (os : Os) (started : os.Started) (H : Type) (enc : TypeId × Value → H) :
    ReturnsInHanded {} Try.checked os 4 .any (Rows.weldRowCountsSpec.pre6 enc Try.prog Try.f4 Rows.weldRowCountsRow.domain false) (Rows.weldRowCountsSpec.post enc Try.prog Try.f4 false true false false) := by
  refine returnsInHanded_of_change (C := Try.checked) own started (by kernel_rfl) Try.func4 (ChangeSpec.witness6 (enc := enc) (C := Try.checked) false ⟨#[], #[.agg #[.int .i64 0, .int .i64 0, .int .i64 0, .int .i64 0, .int .i64 0, .int .i64 0, .int .i64 0, .int .i64 0, .int .i64 0, .int .i64 0, .int .i64 0, .bool false, .int .i64 0, .int .i64 0, .bool false, .int .i64 0, .int .i64 0, .int .i64 0, .int .i64 0, .bool false, .int .i64 0, .int .i64 0, .int .i64 0, .int .i64 0, .int .i64 0, .int .i64 0, .int .i64 0, .int .i64 0, .int .i64 0, .int .i64 0, .int .i64 0, .int .i64 0, .int .i64 0, .int .i64 0, .int .i64 0, .int .i64 0, .int .i64 0, .int .i64 0, .bool false, .bool false, .bool false, .bool false, .int .i64 0, .slice none 0 0, .int .i64 0, .int .i64 0, .int .i64 0, .int .i64 0, .int .i64 0, .int .i64 0, .int .i64 0, .int .i64 0, .int .i64 0, .int .i64 0, .int .i64 0, .int .i64 0, .int .i64 0, .int .i64 0, .bool false, .bool false, .bool false, .bool false, .int .i64 0, .slice none 0 0, .int .i64 0, .int .i64 0, .slice none 0 0, .int .i64 0]], []⟩ 8 (by kernel_rfl) (by kernel_rfl) (by kernel_rfl) (by kernel_rfl)) ?_
  intro W base args ds gs before hval hW _ _
  exact law_contract (D := 8) (by kernel_rfl) (of_allOk (by kernel_rfl)) (tb := 4) (by kernel_rfl) (by kernel_rfl) rfl (fun ds h => by
    have h : ds.length = 1 := h
    match ds, h with
    | [d0], _ => rfl) lWeldRowCounts aWeldRowCounts W base args ds gs before hval hW

theorem weldRowCounts_holds : Rows.WeldRowCountsSaid :=
  OpenClaim.holds_of_wide 4 Try.f4 rfl rfl rfl rfl rfl rfl rfl ⟨rfl, rfl, rfl, rfl, rfl⟩ rfl rfl rfl rfl rfl (by kernel_rfl) Try.func4 (by kernel_rfl)
    (of_decide_eq_true (by kernel_rfl)) (by unfold Func.isWrapper; first | (rw [if_pos (by decide +kernel)]; kernel_rfl) | (rw [if_neg (by decide +kernel)]; exact ⟨rfl, rfl⟩))
    (fun os started H enc _ => liftedWeldRowCounts os started H enc)

end Go.Proofs.Ytnbfkepiolakaaa
