/- Proved here: laws of chapter 06 return true for every input. Conditions: none. -/
import Derived.Test.YtpfaenikcpplfaaPer
import Derived.Test.YtpfaenikcpplfaaEngArg
import Derived.RowKit3
open Go Go.Eng
namespace Go.Proofs.Ytpfaenikcpplfaa
open Go.Fx (an orr an_true)

theorem own : ownKnob Try.prog.godebug = none := by kernel_rfl
def ex06Q : List Prop := [3 ≤ 65536, true = true → (0 : Int) ≤ (0 : Int) ∧ (0 : Int) < (1 : Int), true = true → (0 : Int) ≤ (0 : Int) ∧ (0 : Int) < (3 : Int), true = true → 0 < 3, true = true → (0 : Int) ≤ (1 : Int) ∧ (1 : Int) < (3 : Int), true = true → 1 < 3, true = true → (0 : Int) ≤ (2 : Int) ∧ (2 : Int) < (3 : Int), true = true → 2 < 3, true = true → 2 ≤ 65536]
theorem ex06Q_ok : Conj ex06Q := by simp [ex06Q, Conj]
theorem cEx06 : Sound Try.prog 8 (c0 eB true) :=
  con (lps := noLps) mixed (.cons cPerm (.cons cApv (.cons cIsP .nil))) Try.func8 (by kernel_rfl) (by kernel_rfl) (noLoops (by kernel_rfl)) (g0 ex06Q true (fun _ => ex06Q_ok) (fun _ => rfl) (by kernel_rfl))
def niQ (n _s : Int) : List Prop := [n ≤ 9223372036854775807, n ≤ 9223372036854775807]
def niU (n s : Int) : Bool := an (an (an (an (an (Fx.nextU s == Fx.nextU s) (Fx.nextT s == Fx.nextT s)) ((Fx.intn n s).1 == (Fx.intn n s).1)) ((Fx.intn n s).2 == (Fx.intn n s).2)) (orr (decide (n < 1)) (an (decide ((Fx.intn n s).1 ≥ 0)) (decide ((Fx.intn n s).1 < n))))) true
theorem niU_true (n s : Int) (h : n ≤ 9223372036854775807) : niU n s = true := by
  refine an_true (an_true (an_true (an_true (an_true (beq_self_eq_true _) (beq_self_eq_true _)) (beq_self_eq_true _)) (beq_self_eq_true _)) ?_) rfl
  by_cases h1 : n < 1
  · rw [decide_eq_true h1]; rfl
  · obtain ⟨e1, e2⟩ := Fx.intn_range (n := n) (s := s) (by omega) h
    rw [decide_eq_true (show (Fx.intn n s).1 ≥ 0 from e1), decide_eq_true e2]
    cases decide (n < 1) <;> rfl
theorem lPermuteNextIntn : Sound Try.prog 4 (p2 eI eU eB (fun n _ => [n ≤ 9223372036854775807]) (fun _ _ => true)) :=
  con (lps := noLps) mixed (.cons cNx (.cons rNx (.cons cInt (.cons rInt (.cons cEx06 .nil))))) Try.func4 (by kernel_rfl) (by kernel_rfl) (noLoops (by kernel_rfl)) (g2 niQ niU (fun n s h => ⟨h.1, h.1, trivial⟩) (fun n s h => niU_true n s h.1) (fun _ _ => by kernel_rfl))
theorem aPermuteNextIntn : ∀ vs, ArgsAre Try.prog 4 [3, 22] vs → ∃ ps, (p2 eI eU eB (fun n _ => [n ≤ 9223372036854775807]) (fun _ _ => true)) vs = some (ps, .fv (.one (.bool true))) ∧ Conj ps := by
  intro vs h0
  obtain ⟨x0, r, rfl, lo0, hi0, h1⟩ := args_int (k := .i64) (by kernel_rfl) (by kernel_rfl) h0
  obtain ⟨x1, r, rfl, lo1, hi1, h2⟩ := args_int (k := .u64) (by kernel_rfl) (by kernel_rfl) h1
  obtain rfl := args_nil h2
  exact ⟨_, rfl, hi0, trivial⟩
set_option maxRecDepth 100000 in
theorem liftedPermuteNextIntn (os : Os) (started : os.Started) (H : Type) (enc : TypeId × Value → H) :
    ReturnsInHanded {} Try.checked os 4 .any (Rows.permuteNextIntnSpec.pre6 enc Try.prog Try.f4 Rows.permuteNextIntnRow.domain false) (Rows.permuteNextIntnSpec.post enc Try.prog Try.f4 false true false false) := by
  refine returnsInHanded_of_change (C := Try.checked) own started (by kernel_rfl) Try.func4 (ChangeSpec.witness6 (enc := enc) (C := Try.checked) false ⟨#[], #[.int .i64 0, .int .u64 0], []⟩ 8 (by kernel_rfl) (by kernel_rfl) (by kernel_rfl) (by kernel_rfl)) ?_
  intro W base args ds gs before hval hW _ _
  exact law_contract (D := 4) (by kernel_rfl) (of_allOk (by kernel_rfl)) (tb := 4) (by kernel_rfl) (by kernel_rfl) rfl (fun ds h => by
    have h : ds.length = 2 := h
    match ds, h with
    | [d0, d1], _ => rfl) lPermuteNextIntn aPermuteNextIntn W base args ds gs before hval hW

theorem permuteNextIntn_holds : Rows.PermuteNextIntnSaid :=
  OpenClaim.holds_of_wide 4 Try.f4 rfl rfl rfl rfl rfl rfl rfl ⟨rfl, rfl, rfl, rfl, rfl⟩ rfl rfl rfl rfl rfl (by kernel_rfl) Try.func4 (by kernel_rfl)
    (of_decide_eq_true (by kernel_rfl)) (by unfold Func.isWrapper; first | (rw [if_pos (by decide +kernel)]; kernel_rfl) | (rw [if_neg (by decide +kernel)]; exact ⟨rfl, rfl⟩))
    (fun os started H enc _ => liftedPermuteNextIntn os started H enc)

section
variable (a b : List Int)
def poG : Bool := orr (decide ((a.length : Int) > 60)) (decide ((b.length : Int) > 60))
def po1 : Bool := Fx.isP a == Fx.isP a
def po2 : Bool := an (po1 a) (Fx.intsEq (Fx.pinv a) (Fx.pinv a))
def po3 : Bool := an (po2 a) (Fx.intsEq (Fx.comp a b) (Fx.comp a b))
def poQ : List Prop := [poG a b = false → a.length ≤ 65536, poG a b = false → po1 a = true → a.length ≤ 65536, poG a b = false → po1 a = true → a.length ≤ 65536, poG a b = false → po2 a = true → a.length ≤ 65536, poG a b = false → po2 a = true → b.length ≤ 65536,
  poG a b = false → po2 a = true → b.length ≤ 65536, poG a b = false → po3 a b = true → b.length ≤ 65536, poG a b = false → po3 a b = true → b.length ≤ 65536]
def poU : Bool := bif poG a b then true else an (an (po3 a b) (Fx.intsEq (Fx.appl (0 : Int) a b) (Fx.appl (0 : Int) a b))) true
theorem poQ_ok : Conj (poQ a b) := by
  have h : poG a b = false → a.length ≤ 65536 ∧ b.length ≤ 65536 := fun g => by
    obtain ⟨h1, h2⟩ := Fx.of_orr g
    have h1 := of_decide_eq_false h1; have h2 := of_decide_eq_false h2
    omega
  exact ⟨fun g => (h g).1, fun g _ => (h g).1, fun g _ => (h g).1, fun g _ => (h g).1, fun g _ => (h g).2, fun g _ => (h g).2, fun g _ => (h g).2, fun g _ => (h g).2, trivial⟩
theorem poU_true : poU a b = true := by
  have : an (an (po3 a b) (Fx.intsEq (Fx.appl (0 : Int) a b) (Fx.appl (0 : Int) a b))) true = true := an_true (an_true (an_true (an_true (beq_self_eq_true _) (Fx.intsEq_self _)) (Fx.intsEq_self _)) (Fx.intsEq_self _)) rfl
  unfold poU
  rw [this]
  cases poG a b <;> rfl
end
theorem lPermuteOperations : Sound Try.prog 5 (c2 (eSl .i64) (eSl .i64) eB (fun _ _ => true)) :=
  con (lps := noLps) mixed (.cons cIsP (.cons rIsP (.cons cInv (.cons rInv (.cons cComp (.cons rComp (.cons cApq (.cons rApp (.cons rEqi (.cons cEx06 .nil)))))))))) Try.func5 (by kernel_rfl) (by kernel_rfl) (noLoops (by kernel_rfl)) (g2 poQ poU (fun a b _ => poQ_ok a b) (fun a b _ => poU_true a b) (fun _ _ => by kernel_rfl))
theorem aPermuteOperations : ∀ vs, ArgsAre Try.prog 4 [24, 24] vs → ∃ ps, (c2 (eSl .i64) (eSl .i64) eB (fun _ _ => true)) vs = some (ps, .fv (.one (.bool true))) ∧ Conj ps := by
  intro vs h0
  obtain ⟨x0, r, rfl, h1⟩ := args_Sli64 (by kernel_rfl) (by kernel_rfl) h0
  obtain ⟨x1, r, rfl, h2⟩ := args_Sli64 (by kernel_rfl) (by kernel_rfl) h1
  obtain rfl := args_nil h2
  exact ⟨_, rfl, trivial⟩
set_option maxRecDepth 100000 in
theorem liftedPermuteOperations (os : Os) (started : os.Started) (H : Type) (enc : TypeId × Value → H) :
    ReturnsInHanded {} Try.checked os 5 .any (Rows.permuteOperationsSpec.pre6 enc Try.prog Try.f5 Rows.permuteOperationsRow.domain false) (Rows.permuteOperationsSpec.post enc Try.prog Try.f5 false true false false) := by
  refine returnsInHanded_of_change (C := Try.checked) own started (by kernel_rfl) Try.func5 (ChangeSpec.witness6 (enc := enc) (C := Try.checked) false ⟨#[], #[.slice none 0 0, .slice none 0 0], []⟩ 8 (by kernel_rfl) (by kernel_rfl) (by kernel_rfl) (by kernel_rfl)) ?_
  intro W base args ds gs before hval hW _ _
  exact law_contract (D := 4) (by kernel_rfl) (of_allOk (by kernel_rfl)) (tb := 4) (by kernel_rfl) (by kernel_rfl) rfl (fun ds h => by
    have h : ds.length = 2 := h
    match ds, h with
    | [d0, d1], _ => rfl) lPermuteOperations aPermuteOperations W base args ds gs before hval hW

theorem permuteOperations_holds : Rows.PermuteOperationsSaid :=
  OpenClaim.holds_of_wide 5 Try.f5 rfl rfl rfl rfl rfl rfl rfl ⟨rfl, rfl, rfl, rfl, rfl⟩ rfl rfl rfl rfl rfl (by kernel_rfl) Try.func5 (by kernel_rfl)
    (of_decide_eq_true (by kernel_rfl)) (by unfold Func.isWrapper; first | (rw [if_pos (by decide +kernel)]; kernel_rfl) | (rw [if_neg (by decide +kernel)]; exact ⟨rfl, rfl⟩))
    (fun os started H enc _ => liftedPermuteOperations os started H enc)

section
variable (l : List Int) (s u : Int)
def pA (n s : Int) : List Int := (Fx.perm n s).1
def caG : Bool := decide ((l.length : Int) > 60)
def ca1 : Bool := Fx.intsEq (Fx.appl (0 : Int) (Fx.appl (0 : Int) l (pA l.length s)) (pA l.length u)) (Fx.appl (0 : Int) l (Fx.comp (pA l.length s) (pA l.length u)))
def caQ : List Prop := [caG l = false → (pA l.length s).length ≤ 65536, caG l = false → (pA l.length u).length ≤ 65536, caG l = false → (pA l.length s).length ≤ 65536, caG l = false → (pA l.length u).length ≤ 65536, caG l = false → (Fx.comp (pA l.length s) (pA l.length u)).length ≤ 65536,
  caG l = false → ca1 l s u = true → (pA l.length s).length ≤ 65536, caG l = false → ca1 l s u = true → (pA l.length u).length ≤ 65536, caG l = false → ca1 l s u = true → (Fx.comp (pA l.length s) (pA l.length u)).length ≤ 65536, caG l = false → ca1 l s u = true → (pA l.length u).length ≤ 65536,
  caG l = false → ca1 l s u = true → (pA l.length s).length ≤ 65536, caG l = false → ca1 l s u = true → (Fx.pinv (pA l.length u)).length ≤ 65536, caG l = false → ca1 l s u = true → (Fx.pinv (pA l.length s)).length ≤ 65536]
def caU : Bool := bif caG l then true else an (an (ca1 l s u) (Fx.intsEq (Fx.pinv (Fx.comp (pA l.length s) (pA l.length u))) (Fx.comp (Fx.pinv (pA l.length u)) (Fx.pinv (pA l.length s))))) true
theorem pA_ok (n : Nat) (s : Int) (h : n ≤ 60) : Fx.IsPm (pA n s) (pA n s).length ∧ (pA n s).length = n := by
  have hp := Fx.perm_ok (n : Int) s
  refine ⟨hp.1, ?_⟩
  have e : Fx.permBad (n : Int) = false := by
    unfold Fx.permBad
    rw [decide_eq_false (show ¬ (n : Int) < 0 by omega), decide_eq_false (show ¬ (n : Int) > 4096 by omega)]; rfl
  exact (hp.2 e).trans (Int.toNat_natCast n)
theorem caG_of (g : caG l = false) : l.length ≤ 60 := by have := of_decide_eq_false g; omega
theorem caQ_ok : Conj (caQ l s u) := by
  have h1 : ∀ s, caG l = false → (pA l.length s).length ≤ 65536 := fun s g => by rw [(pA_ok l.length s (caG_of l g)).2]; have := caG_of l g; omega
  have h2 : caG l = false → (Fx.comp (pA l.length s) (pA l.length u)).length ≤ 65536 := fun g => by
    have a := pA_ok l.length s (caG_of l g); have b := pA_ok l.length u (caG_of l g)
    rw [(Fx.comp_of a.1 b.1 (a.2.trans b.2.symm)).1, Fx.mapN_len]; exact h1 u g
  have h3 : ∀ s, caG l = false → (Fx.pinv (pA l.length s)).length ≤ 65536 := fun s g => by
    rw [(Fx.pinv_of (pA_ok l.length s (caG_of l g)).1).len]; exact h1 s g
  exact ⟨h1 s, h1 u, h1 s, h1 u, h2, fun g _ => h1 s g, fun g _ => h1 u g, fun g _ => h2 g, fun g _ => h1 u g, fun g _ => h1 s g, fun g _ => h3 u g, fun g _ => h3 s g, trivial⟩
theorem caU_true : caU l s u = true := by
  unfold caU
  cases hg : caG l with
  | true => rfl
  | false =>
    have a := pA_ok l.length s (caG_of l hg); have b := pA_ok l.length u (caG_of l hg)
    refine an_true (an_true ?_ ?_) rfl
    · unfold ca1
      rw [Fx.app_comp a.1 b.1 a.2.symm (a.2.trans b.2.symm)]
      exact Fx.intsEq_self _
    · rw [Fx.inv_comp a.1 b.1 (a.2.trans b.2.symm)]
      exact Fx.intsEq_self _
end
theorem lPermuteComposeApply : Sound Try.prog 7 (c3 (eSl .i64) eU eU eB (fun _ _ _ => true)) :=
  con (lps := noLps) mixed (.cons cPerm (.cons cApq (.cons cComp (.cons cInv (.cons rEqi (.cons cEx06 .nil)))))) Try.func7 (by kernel_rfl) (by kernel_rfl) (noLoops (by kernel_rfl)) (g3 caQ caU (fun l s u _ => caQ_ok l s u) (fun l s u _ => caU_true l s u) (fun _ _ _ => by kernel_rfl))
theorem aPermuteComposeApply : ∀ vs, ArgsAre Try.prog 4 [24, 22, 22] vs → ∃ ps, (c3 (eSl .i64) eU eU eB (fun _ _ _ => true)) vs = some (ps, .fv (.one (.bool true))) ∧ Conj ps := by
  intro vs h0
  obtain ⟨x0, r, rfl, h1⟩ := args_Sli64 (by kernel_rfl) (by kernel_rfl) h0
  obtain ⟨x1, r, rfl, lo1, hi1, h2⟩ := args_int (k := .u64) (by kernel_rfl) (by kernel_rfl) h1
  obtain ⟨x2, r, rfl, lo2, hi2, h3⟩ := args_int (k := .u64) (by kernel_rfl) (by kernel_rfl) h2
  obtain rfl := args_nil h3
  exact ⟨_, rfl, trivial⟩
set_option maxRecDepth 100000 in
theorem liftedPermuteComposeApply (os : Os) (started : os.Started) (H : Type) (enc : TypeId × Value → H) :
    ReturnsInHanded {} Try.checked os 7 .any (Rows.permuteComposeApplySpec.pre6 enc Try.prog Try.f7 Rows.permuteComposeApplyRow.domain false) (Rows.permuteComposeApplySpec.post enc Try.prog Try.f7 false true false false) := by
  refine returnsInHanded_of_change (C := Try.checked) own started (by kernel_rfl) Try.func7 (ChangeSpec.witness6 (enc := enc) (C := Try.checked) false ⟨#[], #[.slice none 0 0, .int .u64 0, .int .u64 0], []⟩ 8 (by kernel_rfl) (by kernel_rfl) (by kernel_rfl) (by kernel_rfl)) ?_
  intro W base args ds gs before hval hW _ _
  exact law_contract (D := 4) (by kernel_rfl) (of_allOk (by kernel_rfl)) (tb := 4) (by kernel_rfl) (by kernel_rfl) rfl (fun ds h => by
    have h : ds.length = 3 := h
    match ds, h with
    | [d0, d1, d2], _ => rfl) lPermuteComposeApply aPermuteComposeApply W base args ds gs before hval hW

theorem permuteComposeApply_holds : Rows.PermuteComposeApplySaid :=
  OpenClaim.holds_of_wide 7 Try.f7 rfl rfl rfl rfl rfl rfl rfl ⟨rfl, rfl, rfl, rfl, rfl⟩ rfl rfl rfl rfl rfl (by kernel_rfl) Try.func7 (by kernel_rfl)
    (of_decide_eq_true (by kernel_rfl)) (by unfold Func.isWrapper; first | (rw [if_pos (by decide +kernel)]; kernel_rfl) | (rw [if_neg (by decide +kernel)]; exact ⟨rfl, rfl⟩))
    (fun os started H enc _ => liftedPermuteComposeApply os started H enc)

noncomputable def irsL : List (FuncId × Contract) := []
def irsTv (c : (List Fx.Vec) × (List Fx.Vec) × (List Int)) (i : Nat) (_x : Unit) : List TV := [.val ((eSl .vec).pv c.1), .val (Bo false), .val (.fv (.one (.own 20))), .val (.fv (.one (.own 24))), .val (I (i : Int))]
def irsMv (c : (List Fx.Vec) × (List Fx.Vec) × (List Int)) (_i : Nat) (_x : Unit) : List MRes := [.val (.row 40 ⟨.vec, c.2.1⟩), .val (.row 3 ⟨.i64, c.2.2⟩)]
def irsEtv (_c : (List Fx.Vec) × (List Fx.Vec) × (List Int)) (_e : Unit) : List TV := [.any, .val (Bo false), .any, .any, .any]
def irsEmv (_c : (List Fx.Vec) × (List Fx.Vec) × (List Int)) (_e : Unit) : List MRes := [.lost, .lost]
def irsDec : List TV → List MRes → Option (List Prop × ((List Fx.Vec) × (List Fx.Vec) × (List Int)) × (Unit))
  | [.val (.fv (.one (.slc false ⟨.vec, l⟩))), .val (Bo b), .val (.fv (.one (.own 20))), .val (.fv (.one (.own 24))), .val (I i)], [.val (.row 40 ⟨.vec, p⟩), .val (.row 3 ⟨.i64, q⟩)] => some ([b = false, i = 0, (p.length = l.length ∧ q.length = l.length) ∧ l.length ≤ 60], (l, p, q), ())
  | _, _ => none
def irsOk (c : (List Fx.Vec) × (List Fx.Vec) × (List Int)) : Prop := (c.2.1.length = c.1.length ∧ c.2.2.length = c.1.length) ∧ c.1.length ≤ 60
def irsInv (_c : (List Fx.Vec) × (List Fx.Vec) × (List Int)) (_i : Nat) (_x : Unit) : Prop := True
theorem irsDec_ok (ts : List TV) (ms : List MRes) (ps : List Prop) (c : (List Fx.Vec) × (List Fx.Vec) × (List Int)) (x : Unit) (h : irsDec ts ms = some (ps, c, x)) (hp : Conj ps) : ts = irsTv c 0 x ∧ ms = irsMv c 0 x ∧ irsOk c ∧ irsInv c 0 x := by
  unfold irsDec at h
  split at h
  · cases h
    obtain ⟨rfl, rfl, hok, _⟩ := hp
    exact ⟨rfl, rfl, hok, trivial⟩
  · cases h
def irsStep (c : (List Fx.Vec) × (List Fx.Vec) × (List Int)) (i : Nat) (_x : Unit) : Sum (Unit) (Unit) := bif orr (!(c.2.1.getD i (⟨0, 0⟩ : Fx.Vec)).eqb (c.1.getD i (⟨0, 0⟩ : Fx.Vec))) (c.2.2.getD i 0 != (i : Int)) then .inr () else .inl ()
def irsV (c : (List Fx.Vec) × (List Fx.Vec) × (List Int)) (i : Nat) (_x : Unit) : VT := VT.ite (decide ((i : Int) < (c.1.length : Int))) (VT.pre [0 ≤ (i : Int) ∧ (i : Int) < (c.2.1.length : Int), i < c.2.1.length, 0 ≤ (i : Int) ∧ (i : Int) < (c.1.length : Int), (!(c.2.1.getD i (⟨0, 0⟩ : Fx.Vec)).eqb (c.1.getD i (⟨0, 0⟩ : Fx.Vec))) = false → 0 ≤ (i : Int) ∧ (i : Int) < (c.2.2.length : Int), (!(c.2.1.getD i (⟨0, 0⟩ : Fx.Vec)).eqb (c.1.getD i (⟨0, 0⟩ : Fx.Vec))) = false → i < c.2.2.length] (VT.ite (orr (!(c.2.1.getD i (⟨0, 0⟩ : Fx.Vec)).eqb (c.1.getD i (⟨0, 0⟩ : Fx.Vec))) (c.2.2.getD i 0 != (i : Int))) (VT.leaf (Ex.ret) 75 [.val ((eSl .vec).pv c.1), .val (Bo false), .val (.fv (.one (.own 20))), .val (.fv (.one (.own 24))), .val (I (i : Int))] [.val (.row 40 ⟨.vec, c.2.1⟩), .val (.row 3 ⟨.i64, c.2.2⟩)]) (VT.leaf Ex.norm 75 [.val ((eSl .vec).pv c.1), .val (Bo false), .val (.fv (.one (.own 20))), .val (.fv (.one (.own 24))), .val (I (IntKind.i64.wrap ((i : Int) + 1)))] [.val (.row 40 ⟨.vec, c.2.1⟩), .val (.row 3 ⟨.i64, c.2.2⟩)]))) (VT.leaf (Ex.exit 0) 75 [.val ((eSl .vec).pv c.1), .val (Bo false), .val (.fv (.one (.own 20))), .val (.fv (.one (.own 24))), .val (I (i : Int))] [.val (.row 40 ⟨.vec, c.2.1⟩), .val (.row 3 ⟨.i64, c.2.2⟩)])
theorem irsV_eq (c : (List Fx.Vec) × (List Fx.Vec) × (List Int)) (i : Nat) (x : Unit) : viewT [0, 4, 8, 9, 10] [20, 24] (sexec Try.prog (tbl irsL) (noLps) (lbN 0 Try.f6) (headSt 75 46 [0, 4, 8, 9, 10] [20, 24] (irsTv c i x) (irsMv c i x))) = irsV c i x := by kernel_rfl
noncomputable def irsT : St → Tree := forT 75 46 [0, 4, 8, 9, 10] [20, 24] irsDec (fun c => c.1.length) irsTv irsMv irsEtv irsEmv irsStep () 0 .ret
theorem irsA : AllSound Try.prog irsL := .nil
theorem irsLoop : LoopOk Try.prog irsT (lbN 0 Try.f6) :=
  forT_ok mixed irsA.tbl (noLoops (by kernel_rfl)) [20, 24] (bn := fun c => True) (inv := irsInv) irsDec_ok (fun _ _ => ⟨⟨.inr rfl, .inr rfl, .inr rfl, .inr rfl, .inr rfl, trivial⟩, ⟨.inr rfl, .inr rfl, trivial⟩, rfl, rfl, rfl⟩)
    (fun _ _ _ _ _ _ hr h1 h2 => by
      trivial)
    (fun c i x hok hn hinv hi => ⟨_, irsV_eq c i x, by
      refine ⟨fun h => ?_, fun h => ?_⟩
      · have h : i < c.1.length := by simpa using h
        refine ⟨(have h1 : c.2.1.length = c.1.length := hok.1.1; have h2 : c.2.2.length = c.1.length := hok.1.2; ⟨⟨by omega, by omega⟩, by omega, ⟨by omega, by omega⟩, fun _ => ⟨by omega, by omega⟩, fun _ => by omega, trivial⟩), ?_⟩
        refine ⟨fun hb2 => ?_, fun hb2 => ?_⟩
        · exact ⟨rfl, .inr ⟨rfl, h, (), [], by unfold irsStep; first | rfl | ((try dsimp only); (try rw [hb2]); rfl), ⟨.inl rfl, .inr rfl, .inl rfl, .inl rfl, .inl rfl, trivial⟩, ⟨.inl rfl, .inl rfl, trivial⟩, rfl, rfl, rfl⟩⟩
        · rw [wrap_succ h (by have := hok.2; simp only [maxLen]; omega)]
          exact ⟨rfl, (), [], h, by unfold irsStep; first | rfl | ((try dsimp only); (try rw [hb2]); rfl), trivial, ⟨.inr rfl, .inr rfl, .inr rfl, .inr rfl, .inr rfl, trivial⟩, ⟨.inr rfl, .inr rfl, trivial⟩, rfl, rfl, rfl⟩
      · have h : ¬ i < c.1.length := by simpa using h
        exact ⟨rfl, .inl ⟨rfl, by omega, [], ⟨.inr rfl, .inr rfl, .inr rfl, .inr rfl, .inr rfl, trivial⟩, ⟨.inr rfl, .inr rfl, trivial⟩, rfl, rfl, rfl⟩⟩⟩)
section
variable (l : List Fx.Vec) (s : Int)
def irA : List Int := (Fx.perm l.length s).1
def irP : List Fx.Vec := Fx.appl (⟨0, 0⟩ : Fx.Vec) (Fx.appl (⟨0, 0⟩ : Fx.Vec) l (irA l s)) (Fx.pinv (irA l s))
def irN : List Int := Fx.comp (irA l s) (Fx.pinv (irA l s))
def irG : Bool := decide ((l.length : Int) > 60)
def irB : Bool := orr (orr (((irP l s).length : Int) != l.length) (((irN l s).length : Int) != l.length)) (((Fx.pinv (irA l s)).length : Int) != l.length)
def irU : Bool := bif irG l then true else bif irB l s then false else bif isL (runF (irsStep (l, irP l s, irN l s)) l.length 0 ()) then true else false
def irQ : List Prop := [irG l = false → (irA l s).length ≤ 65536, irG l = false → (irA l s).length ≤ 65536, irG l = false → (Fx.pinv (irA l s)).length ≤ 65536, irG l = false → (irA l s).length ≤ 65536, irG l = false → (Fx.pinv (irA l s)).length ≤ 65536,
  irG l = false → irB l s = false → false = false, irG l = false → irB l s = false → (0 : Int) = 0, irG l = false → irB l s = false → ((irP l s).length = l.length ∧ (irN l s).length = l.length) ∧ l.length ≤ 60]
theorem irA_ok (h : l.length ≤ 60) : Fx.IsPm (irA l s) (irA l s).length ∧ (irA l s).length = l.length := by
  have hp := Fx.perm_ok (l.length : Int) s
  refine ⟨hp.1, ?_⟩
  have e : Fx.permBad (l.length : Int) = false := by
    unfold Fx.permBad
    rw [decide_eq_false (show ¬ (l.length : Int) < 0 by omega), decide_eq_false (show ¬ (l.length : Int) > 4096 by omega)]; rfl
  exact (hp.2 e).trans (Int.toNat_natCast _)
theorem irG_of (g : irG l = false) : l.length ≤ 60 := by have := of_decide_eq_false g; omega
theorem irP_eq (g : irG l = false) : irP l s = l := by
  have a := irA_ok l s (irG_of l g)
  exact Fx.restores a.1 a.2.symm
theorem irN_eq (g : irG l = false) : irN l s = Fx.mapN l.length (fun i => (i : Int)) := by
  have a := irA_ok l s (irG_of l g)
  unfold irN
  rw [Fx.comp_inv a.1, a.2]
theorem irI_len (g : irG l = false) : (Fx.pinv (irA l s)).length = l.length := by
  have a := irA_ok l s (irG_of l g)
  exact (Fx.pinv_of a.1).len.trans a.2
theorem irQ_ok : Conj (irQ l s) := by
  have h1 : irG l = false → (irA l s).length ≤ 65536 := fun g => by have := (irA_ok l s (irG_of l g)).2; have := irG_of l g; omega
  have h2 : irG l = false → (Fx.pinv (irA l s)).length ≤ 65536 := fun g => by have := irI_len l s g; have := irG_of l g; omega
  exact ⟨h1, h1, h2, h1, h2, fun _ _ => rfl, fun _ _ => rfl, fun g _ => ⟨⟨by rw [irP_eq l s g], by rw [irN_eq l s g, Fx.mapN_len]⟩, irG_of l g⟩, trivial⟩
theorem irU_true : irU l s = true := by
  unfold irU
  cases g : irG l with
  | true => rfl
  | false =>
    have hB : irB l s = false := by
      unfold irB
      rw [irP_eq l s g, irN_eq l s g, Fx.mapN_len, irI_len l s g]
      simp [orr]
    have hR : isL (runF (irsStep (l, irP l s, irN l s)) l.length 0 ()) = true := by
      rw [irP_eq l s g, irN_eq l s g]
      refine Fx.isL_all (p := fun i => orr (!(l.getD i (⟨0, 0⟩ : Fx.Vec)).eqb (l.getD i (⟨0, 0⟩ : Fx.Vec))) ((Fx.mapN l.length (fun i => (i : Int))).getD i 0 != (i : Int))) (e := fun _ => ()) _ _ fun i _ hi => ?_
      rw [Fx.mapN_get (fun i => (i : Int)) 0 (by omega), Fx.Vec.eqb_self]
      simp [orr]
    rw [hB, hR]; rfl
end
theorem lPermuteInverseRestores : Sound Try.prog 6 (c2 (eSl .vec) eU eB (fun _ _ => true)) :=
  con (lps := fun _ => irsT) mixed (AllSound.cons cPerm (.cons cInv (.cons cApv (.cons cComp (.cons cEx06 .nil))))) Try.func6 (by kernel_rfl) (by kernel_rfl) (oneLoop (lps := fun _ => irsT) (b := (lbN 0 Try.f6)) (by kernel_rfl) irsLoop) (g2 irQ irU (fun l s _ => irQ_ok l s) (fun l s _ => irU_true l s) (fun _ _ => by kernel_rfl))
theorem aPermuteInverseRestores : ∀ vs, ArgsAre Try.prog 4 [37, 22] vs → ∃ ps, (c2 (eSl .vec) eU eB (fun _ _ => true)) vs = some (ps, .fv (.one (.bool true))) ∧ Conj ps := by
  intro vs h0
  obtain ⟨x0, r, rfl, h1⟩ := args_Slvec (by kernel_rfl) (by kernel_rfl) h0
  obtain ⟨x1, r, rfl, lo1, hi1, h2⟩ := args_int (k := .u64) (by kernel_rfl) (by kernel_rfl) h1
  obtain rfl := args_nil h2
  exact ⟨_, rfl, trivial⟩
set_option maxRecDepth 100000 in
theorem liftedPermuteInverseRestores (os : Os) (started : os.Started) (H : Type) (enc : TypeId × Value → H) :
    ReturnsInHanded {} Try.checked os 6 .any (Rows.permuteInverseRestoresSpec.pre6 enc Try.prog Try.f6 Rows.permuteInverseRestoresRow.domain false) (Rows.permuteInverseRestoresSpec.post enc Try.prog Try.f6 false true false false) := by
  refine returnsInHanded_of_change (C := Try.checked) own started (by kernel_rfl) Try.func6 (ChangeSpec.witness6 (enc := enc) (C := Try.checked) false ⟨#[], #[.slice none 0 0, .int .u64 0], []⟩ 8 (by kernel_rfl) (by kernel_rfl) (by kernel_rfl) (by kernel_rfl)) ?_
  intro W base args ds gs before hval hW _ _
  exact law_contract (D := 4) (by kernel_rfl) (of_allOk (by kernel_rfl)) (tb := 4) (by kernel_rfl) (by kernel_rfl) rfl (fun ds h => by
    have h : ds.length = 2 := h
    match ds, h with
    | [d0, d1], _ => rfl) lPermuteInverseRestores aPermuteInverseRestores W base args ds gs before hval hW

theorem permuteInverseRestores_holds : Rows.PermuteInverseRestoresSaid :=
  OpenClaim.holds_of_wide 6 Try.f6 rfl rfl rfl rfl rfl rfl rfl ⟨rfl, rfl, rfl, rfl, rfl⟩ rfl rfl rfl rfl rfl (by kernel_rfl) Try.func6 (by kernel_rfl)
    (of_decide_eq_true (by kernel_rfl)) (by unfold Func.isWrapper; first | (rw [if_pos (by decide +kernel)]; kernel_rfl) | (rw [if_neg (by decide +kernel)]; exact ⟨rfl, rfl⟩))
    (fun os started H enc _ => liftedPermuteInverseRestores os started H enc)

theorem shl_in {x : Int} {k : Nat} (g : orr (decide (x < 0)) (decide (x ≥ (k : Int))) = false) : 0 ≤ x ∧ x < (k : Int) := by
  obtain ⟨g1, g2⟩ := Fx.of_orr g
  have g1 := of_decide_eq_false g1; have g2 := of_decide_eq_false g2
  omega
noncomputable def shlL : List (FuncId × Contract) := []
def shlTv (c : (List Int) × (List Int) × (Int) × (Int) × (List Bool)) (i : Nat) (_x : (List Bool)) : List TV := [.val (Bo false), .val (.fv (.one (.slc true ⟨.i64, c.1⟩))), .val (.fv (.one (.int .u64 c.2.2.1))), .val (.fv (.one (.slc true ⟨.i64, c.2.1⟩))), .val (.fv (.one (.int .u64 c.2.2.2.1))), .val (.fv (.one (.own 25))), .val (I (i : Int))]
def shlMv (_c : (List Int) × (List Int) × (Int) × (Int) × (List Bool)) (_i : Nat) (x : (List Bool)) : List MRes := [.val (.row 4 ⟨.bl, x⟩)]
def shlEtv (_c : (List Int) × (List Int) × (Int) × (Int) × (List Bool)) (_e : Unit) : List TV := [.val (Bo false), .any, .any, .any, .any, .any, .any]
def shlEmv (_c : (List Int) × (List Int) × (Int) × (Int) × (List Bool)) (_e : Unit) : List MRes := [.lost]
def shlDec : List TV → List MRes → Option (List Prop × ((List Int) × (List Int) × (Int) × (Int) × (List Bool)) × ((List Bool)))
  | [.val (Bo k), .val (.fv (.one (.slc true ⟨.i64, l⟩))), .val (.fv (.one (.int .u64 a))), .val (.fv (.one (.slc true ⟨.i64, m⟩))), .val (.fv (.one (.int .u64 b))), .val (.fv (.one (.own 25))), .val (I i)], [.val (.row 4 ⟨.bl, q⟩)] => some ([k = false, i = 0, l.length ≤ 65536], (l, m, a, b, q), q)
  | _, _ => none
def shlOk (c : (List Int) × (List Int) × (Int) × (Int) × (List Bool)) : Prop := c.1.length ≤ 65536
def shlInv (_c : (List Int) × (List Int) × (Int) × (Int) × (List Bool)) (_i : Nat) (_x : (List Bool)) : Prop := True
theorem shlDec_ok (ts : List TV) (ms : List MRes) (ps : List Prop) (c : (List Int) × (List Int) × (Int) × (Int) × (List Bool)) (x : (List Bool)) (h : shlDec ts ms = some (ps, c, x)) (hp : Conj ps) : ts = shlTv c 0 x ∧ ms = shlMv c 0 x ∧ shlOk c ∧ shlInv c 0 x := by
  unfold shlDec at h
  split at h
  · cases h
    obtain ⟨rfl, rfl, hok, _⟩ := hp
    exact ⟨rfl, rfl, hok, trivial⟩
  · cases h
def shlStep (c : (List Int) × (List Int) × (Int) × (Int) × (List Bool)) (i : Nat) (x : (List Bool)) : Sum ((List Bool)) (Unit) := bif orr (orr (decide (c.1.getD i 0 < 0)) (decide (c.1.getD i 0 ≥ (x.length : Int)))) (x.getD (c.1.getD i 0).toNat false) then .inr () else .inl ((x.set (c.1.getD i 0).toNat true))
def shlV (c : (List Int) × (List Int) × (Int) × (Int) × (List Bool)) (i : Nat) (x : (List Bool)) : VT := VT.ite (decide ((i : Int) < (c.1.length : Int))) (VT.pre [0 ≤ (i : Int) ∧ (i : Int) < (c.1.length : Int), decide (c.1.getD i 0 < 0) = false → 0 ≤ (i : Int) ∧ (i : Int) < (c.1.length : Int), orr (decide (c.1.getD i 0 < 0)) (decide (c.1.getD i 0 ≥ (x.length : Int))) = false → 0 ≤ (i : Int) ∧ (i : Int) < (c.1.length : Int), orr (decide (c.1.getD i 0 < 0)) (decide (c.1.getD i 0 ≥ (x.length : Int))) = false → 0 ≤ c.1.getD i 0 ∧ c.1.getD i 0 < (x.length : Int), orr (decide (c.1.getD i 0 < 0)) (decide (c.1.getD i 0 ≥ (x.length : Int))) = false → (c.1.getD i 0).toNat < x.length] (VT.ite (orr (orr (decide (c.1.getD i 0 < 0)) (decide (c.1.getD i 0 ≥ (x.length : Int)))) (x.getD (c.1.getD i 0).toNat false)) (VT.leaf (Ex.ret) 83 [.val (Bo false), .val (.fv (.one (.slc true ⟨.i64, c.1⟩))), .val (.fv (.one (.int .u64 c.2.2.1))), .val (.fv (.one (.slc true ⟨.i64, c.2.1⟩))), .val (.fv (.one (.int .u64 c.2.2.2.1))), .val (.fv (.one (.own 25))), .val (I (i : Int))] [.val (.row 4 ⟨.bl, x⟩)]) (VT.pre [0 ≤ (i : Int) ∧ (i : Int) < (c.1.length : Int), 0 ≤ c.1.getD i 0 ∧ c.1.getD i 0 < (x.length : Int), (c.1.getD i 0).toNat < x.length] (VT.leaf Ex.norm 83 [.val (Bo false), .val (.fv (.one (.slc true ⟨.i64, c.1⟩))), .val (.fv (.one (.int .u64 c.2.2.1))), .val (.fv (.one (.slc true ⟨.i64, c.2.1⟩))), .val (.fv (.one (.int .u64 c.2.2.2.1))), .val (.fv (.one (.own 25))), .val (I (IntKind.i64.wrap ((i : Int) + 1)))] [.val (.row 4 ⟨.bl, (x.set (c.1.getD i 0).toNat true)⟩)])))) (VT.leaf (Ex.exit 0) 83 [.val (Bo false), .val (.fv (.one (.slc true ⟨.i64, c.1⟩))), .val (.fv (.one (.int .u64 c.2.2.1))), .val (.fv (.one (.slc true ⟨.i64, c.2.1⟩))), .val (.fv (.one (.int .u64 c.2.2.2.1))), .val (.fv (.one (.own 25))), .val (I (i : Int))] [.val (.row 4 ⟨.bl, x⟩)])
theorem shlV_eq (c : (List Int) × (List Int) × (Int) × (Int) × (List Bool)) (i : Nat) (x : (List Bool)) : viewT [4, 5, 6, 7, 8, 9, 10] [25] (sexec Try.prog (tbl shlL) (noLps) (lbN 0 Try.f3) (headSt 83 28 [4, 5, 6, 7, 8, 9, 10] [25] (shlTv c i x) (shlMv c i x))) = shlV c i x := by kernel_rfl
noncomputable def shlT : St → Tree := forT 83 28 [4, 5, 6, 7, 8, 9, 10] [25] shlDec (fun c => c.1.length) shlTv shlMv shlEtv shlEmv shlStep () 0 .ret
theorem shlA : AllSound Try.prog shlL := .nil
theorem shlLoop : LoopOk Try.prog shlT (lbN 0 Try.f3) :=
  forT_ok mixed shlA.tbl (noLoops (by kernel_rfl)) [25] (bn := fun c => True) (inv := shlInv) shlDec_ok (fun _ _ => ⟨⟨.inr rfl, .inr rfl, .inr rfl, .inr rfl, .inr rfl, .inr rfl, .inr rfl, trivial⟩, ⟨.inr rfl, trivial⟩, rfl, rfl, rfl⟩)
    (fun _ _ _ _ _ _ hr h1 h2 => by
      trivial)
    (fun c i x hok hn hinv hi => ⟨_, shlV_eq c i x, by
      refine ⟨fun h => ?_, fun h => ?_⟩
      · have h : i < c.1.length := by simpa using h
        refine ⟨⟨⟨by omega, by omega⟩, fun _ => ⟨by omega, by omega⟩, fun _ => ⟨by omega, by omega⟩, fun g => shl_in g, fun g => by have := shl_in g; omega, trivial⟩, ?_⟩
        refine ⟨fun hb2 => ?_, fun hb2 => ?_⟩
        · exact ⟨rfl, .inr ⟨rfl, h, (), [], by unfold shlStep; first | rfl | ((try dsimp only); (try rw [hb2]); rfl), ⟨.inr rfl, .inl rfl, .inl rfl, .inl rfl, .inl rfl, .inl rfl, .inl rfl, trivial⟩, ⟨.inl rfl, trivial⟩, rfl, rfl, rfl⟩⟩
        · refine ⟨(have h5 := shl_in (Fx.of_orr hb2).1; ⟨⟨by omega, by omega⟩, h5, by omega, trivial⟩), ?_⟩
          rw [wrap_succ h (by have h2 : c.1.length ≤ 65536 := hok; simp only [maxLen]; omega)]
          exact ⟨rfl, ((x.set (c.1.getD i 0).toNat true)), [], h, by unfold shlStep; first | rfl | ((try dsimp only); (try rw [hb2]); rfl), trivial, ⟨.inr rfl, .inr rfl, .inr rfl, .inr rfl, .inr rfl, .inr rfl, .inr rfl, trivial⟩, ⟨.inr rfl, trivial⟩, rfl, rfl, rfl⟩
      · have h : ¬ i < c.1.length := by simpa using h
        exact ⟨rfl, .inl ⟨rfl, by omega, [], ⟨.inr rfl, .inr rfl, .inr rfl, .inr rfl, .inr rfl, .inr rfl, .inr rfl, trivial⟩, ⟨.inr rfl, trivial⟩, rfl, rfl, rfl⟩⟩⟩)
theorem runF_same {β ε : Type} {f g : Nat → β → Sum β ε} (p : β → Prop) : ∀ (k i : Nat) (x : β), p x → (∀ j x, p x → f j x = g j x) → (∀ j x y, p x → g j x = .inl y → p y) → runF f k i x = runF g k i x
  | 0, _, _, _, _, _ => rfl
  | k + 1, i, x, hp, h1, h2 => by
    simp only [runF, h1 i x hp]
    cases hs : g i x with
    | inl y => exact runF_same p k (i + 1) y (h2 i x y hp hs) h1 h2
    | inr e => rfl
section
variable (n s : Int)
def shP : List Int × Int := Fx.perm n s
def shG : Bool := an (decide (n > 60)) (decide (n ≤ 4096))
def shR := runF (shlStep ((shP n s).1, (shP n s).1, (shP n s).2, (shP n s).2, List.replicate (shP n s).1.length false)) (shP n s).1.length 0 (List.replicate (shP n s).1.length false)
def sh2 : Bool := an (Fx.intsEq (shP n s).1 (shP n s).1) ((shP n s).2 == (shP n s).2)
def shU : Bool := bif shG n then true else bif isL (shR n s) then an (an (sh2 n s) (Fx.isP (shP n s).1)) true else false
def shQ : List Prop := [shG n = false → 0 ≤ ((shP n s).1.length : Int) ∧ ((shP n s).1.length : Int) ≤ ((shP n s).1.length : Int) ∧ ((shP n s).1.length : Int) * (1 : Nat) ≤ 140737488355328, shG n = false → false = false, shG n = false → (0 : Int) = 0, shG n = false → (shP n s).1.length ≤ 65536,
  shG n = false → isL (shR n s) = true → sh2 n s = true → (shP n s).1.length ≤ 65536]
theorem shLen : (shP n s).1.length ≤ 4096 := by
  have hp := Fx.perm_ok n s
  cases hb : Fx.permBad n with
  | true => unfold shP Fx.perm; rw [hb]; exact Nat.zero_le _
  | false =>
    have h1 := Fx.permBad_no hb
    have h2 : (shP n s).1.length = n.toNat := hp.2 hb
    omega
theorem shQ_ok : Conj (shQ n s) := by
  have h := shLen n s
  exact ⟨fun _ => by omega, fun _ => rfl, fun _ => rfl, fun _ => by omega, fun _ _ _ => by omega, trivial⟩
theorem shU_true : shU n s = true := by
  have hm : Fx.IsPm (shP n s).1 (shP n s).1.length := (Fx.perm_ok n s).1
  have e : isL (shR n s) = true := by
    unfold shR
    rw [runF_same (f := shlStep ((shP n s).1, (shP n s).1, (shP n s).2, (shP n s).2, List.replicate (shP n s).1.length false)) (g := Fx.seenS (shP n s).1 (shP n s).1.length) (fun q => q.length = (shP n s).1.length) _ _ _ (List.length_replicate ..) (fun j q hq => by
      unfold shlStep Fx.seenS
      simp only [hq]) (fun j q y hq hy => by
      unfold Fx.seenS at hy
      cases hb : orr (orr (decide ((shP n s).1.getD j 0 < 0)) (decide ((shP n s).1.getD j 0 ≥ ((shP n s).1.length : Int)))) (q.getD ((shP n s).1.getD j 0).toNat false) <;> rw [hb] at hy <;> cases hy
      rw [List.length_set]; exact hq)]
    exact (Fx.isPn_iff (shP n s).1 (shP n s).1.length).2 hm
  unfold shU
  rw [e]
  have : an (an (sh2 n s) (Fx.isP (shP n s).1)) true = true := an_true (an_true (an_true (Fx.intsEq_self _) (beq_self_eq_true _)) (Fx.isP_of hm)) rfl
  rw [this]
  cases shG n <;> rfl
end
theorem lPermuteShuffles : Sound Try.prog 3 (c2 eI eU eB (fun _ _ => true)) :=
  con (lps := fun _ => shlT) mixed (AllSound.cons cPerm (.cons rPerm (.cons cIsP (.cons rEqi (.cons cEx06 .nil))))) Try.func3 (by kernel_rfl) (by kernel_rfl) (oneLoop (lps := fun _ => shlT) (b := (lbN 0 Try.f3)) (by kernel_rfl) shlLoop) (g2 shQ shU (fun n s _ => shQ_ok n s) (fun n s _ => shU_true n s) (fun _ _ => by kernel_rfl))
theorem aPermuteShuffles : ∀ vs, ArgsAre Try.prog 4 [3, 22] vs → ∃ ps, (c2 eI eU eB (fun _ _ => true)) vs = some (ps, .fv (.one (.bool true))) ∧ Conj ps := by
  intro vs h0
  obtain ⟨x0, r, rfl, lo0, hi0, h1⟩ := args_int (k := .i64) (by kernel_rfl) (by kernel_rfl) h0
  obtain ⟨x1, r, rfl, lo1, hi1, h2⟩ := args_int (k := .u64) (by kernel_rfl) (by kernel_rfl) h1
  obtain rfl := args_nil h2
  exact ⟨_, rfl, trivial⟩
set_option maxRecDepth 100000 in
theorem liftedPermuteShuffles (os : Os) (started : os.Started) (H : Type) (enc : TypeId × Value → H) :
    ReturnsInHanded {} Try.checked os 3 .any (Rows.permuteShufflesSpec.pre6 enc Try.prog Try.f3 Rows.permuteShufflesRow.domain false) (Rows.permuteShufflesSpec.post enc Try.prog Try.f3 false true false false) := by
  refine returnsInHanded_of_change (C := Try.checked) own started (by kernel_rfl) Try.func3 (ChangeSpec.witness6 (enc := enc) (C := Try.checked) false ⟨#[], #[.int .i64 0, .int .u64 0], []⟩ 8 (by kernel_rfl) (by kernel_rfl) (by kernel_rfl) (by kernel_rfl)) ?_
  intro W base args ds gs before hval hW _ _
  exact law_contract (D := 4) (by kernel_rfl) (of_allOk (by kernel_rfl)) (tb := 4) (by kernel_rfl) (by kernel_rfl) rfl (fun ds h => by
    have h : ds.length = 2 := h
    match ds, h with
    | [d0, d1], _ => rfl) lPermuteShuffles aPermuteShuffles W base args ds gs before hval hW

theorem permuteShuffles_holds : Rows.PermuteShufflesSaid :=
  OpenClaim.holds_of_wide 3 Try.f3 rfl rfl rfl rfl rfl rfl rfl ⟨rfl, rfl, rfl, rfl, rfl⟩ rfl rfl rfl rfl rfl (by kernel_rfl) Try.func3 (by kernel_rfl)
    (of_decide_eq_true (by kernel_rfl)) (by unfold Func.isWrapper; first | (rw [if_pos (by decide +kernel)]; kernel_rfl) | (rw [if_neg (by decide +kernel)]; exact ⟨rfl, rfl⟩))
    (fun os started H enc _ => liftedPermuteShuffles os started H enc)

end Go.Proofs.Ytpfaenikcpplfaa
