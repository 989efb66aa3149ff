/- Proved here: laws of chapter 29 return true for every input. Conditions: none. -/
import Derived.Test.YtfjognghjiifaaaLaw29
open Go Go.Eng
namespace Go.Proofs.Ytfjognghjiifaaa
open Go.Fx (an orr an_true)

section
variable (sm : Fx.Ct → Fx.Bd × Fx.Bd → Bool) (rows : Fx.Ct → Fx.Bd → Fx.Bd → Int → Int → Int → List Fx.Sb → Int → List Fx.Row)
def mfG (c : Fx.Ct) (p : Fx.Bd × Fx.Bd) (s : List Fx.Sb) : Bool := orr (!(sm c p)) (decide ((s.length : Int) > 8))
def mfE (c : Fx.Ct) (p : Fx.Bd × Fx.Bd) : Bool := an (an (an (decide (c.fa ≥ 0)) (decide (c.fa < (p.1.fixtures.length : Int)))) (decide (c.fb ≥ 0))) (decide (c.fb < (p.2.fixtures.length : Int)))
def mfU (c : Fx.Ct) (p : Fx.Bd × Fx.Bd) (s : List Fx.Sb) : Bool := bif mfG sm c p s then true else an (orr (an (mfE c p) (((rows c p.1 p.2 0 1 0 s 1024).length : Int) == Fx.w64 (2 * (c.pts.length : Int)))) (an (!(mfE c p)) (((rows c p.1 p.2 0 1 0 s 1024).length : Int) == 0))) true
def mfQ (c : Fx.Ct) (p : Fx.Bd × Fx.Bd) (s : List Fx.Sb) : List Prop := [mfG sm c p s = false → c.pts.length ≤ 65536]
theorem mfEq (c : Fx.Ct) (p : Fx.Bd × Fx.Bd) (s : List Fx.Sb) : symFn Try.prog (tbl [(19, c2 eCt eBB eB sm), (20, p8 eCt eBd eBd eI eI eI (eSl .sb) eI (eFr 59 .row) (fun c _ _ _ _ _ _ _ => [c.pts.length ≤ 65536]) rows), (13, c0 eB true)]) noLps 6 [eCt.pv c, eBB.pv p, (eSl .sb).pv s] = some (mfQ sm c p s, eB.pv (mfU sm rows c p s)) := by kernel_rfl
end
theorem mfU_true (c : Fx.Ct) (p : Fx.Bd × Fx.Bd) (s : List Fx.Sb) : mfU sm29 crows c p s = true := by
  unfold mfU
  cases hG : mfG sm29 c p s with
  | true => rfl
  | false =>
    rw [cond_false]
    refine an_true ?_ rfl
    have hl : c.pts.length ≤ 4 := sm29_len (by have := (Fx.of_orr hG).1; revert this; cases sm29 c p <;> simp)
    have e : mfE c p = cok c p.1 p.2 := (cok_eq c p.1 p.2).symm
    rw [e, Fx.w64_id (by omega) (by omega)]
    cases h : cok c p.1 p.2 with
    | false => rw [crows_no h]; rfl
    | true => rw [crows_len h]; simp [an, orr]
theorem mfQ_ok (c : Fx.Ct) (p : Fx.Bd × Fx.Bd) (s : List Fx.Sb) : Conj (mfQ sm29 c p s) := ⟨fun hG => by
  have hl : c.pts.length ≤ 4 := sm29_len (by have := (Fx.of_orr hG).1; revert this; cases sm29 c p <;> simp)
  omega, trivial⟩
theorem lContactMissingFixture : Sound Try.prog 6 (c3 eCt eBB (eSl .sb) eB (fun _ _ _ => true)) :=
  con (lps := noLps) mixed (AllSound.cons cSm29 (.cons cCtr (.cons cEx29 .nil))) Try.func6 (by kernel_rfl) (by kernel_rfl) (noLoops (by kernel_rfl))
    (g3 (fun c p s => mfQ sm29 c p s) (fun c p s => mfU sm29 crows c p s) (fun c p s _ => mfQ_ok c p s) (fun c p s _ => mfU_true c p s) (fun c p s => mfEq sm29 crows c p s))
theorem aContactMissingFixture : ∀ vs, ArgsAre Try.prog 8 [39, 51, 52] vs → ∃ ps, (c3 eCt eBB (eSl .sb) eB (fun _ _ _ => true)) vs = some (ps, .fv (.one (.bool true))) ∧ Conj ps := by
  intro vs h0
  obtain ⟨x0, r, rfl, h1⟩ := args_Ct (by kernel_rfl) (by kernel_rfl) h0
  obtain ⟨x1, r, rfl, h2⟩ := args_BB (by kernel_rfl) (by kernel_rfl) h1
  obtain ⟨x2, r, rfl, h3⟩ := args_Slsb (by kernel_rfl) (by kernel_rfl) h2
  obtain rfl := args_nil h3
  exact ⟨_, rfl, trivial⟩
set_option maxRecDepth 100000 in
theorem liftedContactMissingFixture (os : Os) (started : os.Started) (H : Type) (enc : TypeId × Value → H) :
    ReturnsInHanded {} Try.checked os 6 .any (Rows.contactMissingFixtureSpec.pre6 enc Try.prog Try.f6 Rows.contactMissingFixtureRow.domain false) (Rows.contactMissingFixtureSpec.post enc Try.prog Try.f6 false true false false) := by
  refine returnsInHanded_of_change (C := Try.checked) own started (by kernel_rfl) Try.func6 (ChangeSpec.witness6 (enc := enc) (C := Try.checked) false ⟨#[], #[.agg #[.int .i64 0, .int .i64 0, .int .i64 0, .int .i64 0, .int .i64 0, .int .i64 0, .slice none 0 0], .agg #[.int .i64 0, .int .i64 0, .int .i64 0, .int .i64 0, .int .i64 0, .int .i64 0, .int .i64 0, .int .i64 0, .int .i64 0, .int .i64 0, .int .i64 0, .int .i64 0, .int .i64 0, .int .i64 0, .bool false, .bool false, .bool false, .bool false, .int .i64 0, .slice none 0 0, .int .i64 0, .int .i64 0, .int .i64 0, .int .i64 0, .int .i64 0, .int .i64 0, .int .i64 0, .int .i64 0, .int .i64 0, .int .i64 0, .int .i64 0, .int .i64 0, .int .i64 0, .int .i64 0, .bool false, .bool false, .bool false, .bool false, .int .i64 0, .slice none 0 0], .slice none 0 0], []⟩ 8 (by kernel_rfl) (by kernel_rfl) (by kernel_rfl) (by kernel_rfl)) ?_
  intro W base args ds gs before hval hW _ _
  exact law_contract (D := 8) (by kernel_rfl) (of_allOk (by kernel_rfl)) (tb := 4) (by kernel_rfl) (by kernel_rfl) rfl (fun ds h => by
    have h : ds.length = 3 := h
    match ds, h with
    | [d0, d1, d2], _ => rfl) lContactMissingFixture aContactMissingFixture W base args ds gs before hval hW

theorem contactMissingFixture_holds : Rows.ContactMissingFixtureSaid :=
  OpenClaim.holds_of_wide 6 Try.f6 rfl rfl rfl rfl rfl rfl rfl ⟨rfl, rfl, rfl, rfl, rfl⟩ rfl rfl rfl rfl rfl (by kernel_rfl) Try.func6 (by kernel_rfl)
    (of_decide_eq_true (by kernel_rfl)) (by unfold Func.isWrapper; first | (rw [if_pos (by decide +kernel)]; kernel_rfl) | (rw [if_neg (by decide +kernel)]; exact ⟨rfl, rfl⟩))
    (fun os started H enc _ => liftedContactMissingFixture os started H enc)

section
variable (sm : Fx.Ct → Fx.Bd × Fx.Bd → Bool) (rows : Fx.Ct → Fx.Bd → Fx.Bd → Int → Int → Int → List Fx.Sb → Int → List Fx.Row) (sto : Fx.Ct → List Fx.Row → Int → Fx.Ct) (eq : Fx.Ct → Fx.Ct → Bool) (c : Fx.Ct) (p : Fx.Bd × Fx.Bd) (l : List Fx.Row) (s : List Fx.Sb) (dt : Int)
def srG : Bool := orr (orr (!(sm c p)) (decide ((l.length : Int) > 8))) (decide ((s.length : Int) > 8))
def srR : List Fx.Row := rows c p.1 p.2 0 1 l.length s dt
def srH : Bool := an (((srR rows c p l s dt).length : Int) != 0) (((srR rows c p l s dt).length : Int) != Fx.w64 (2 * (c.pts.length : Int)))
def srU : Bool := bif srG sm c p l s then true else bif srH rows c p l s dt then false else an (eq (sto c (([] ++ l) ++ srR rows c p l s dt) l.length) c) true
def srQ : List Prop := [srG sm c p l s = false → c.pts.length ≤ 65536, srG sm c p l s = false → srH rows c p l s dt = false → (([] : List Fx.Row).length + l.length) * 112 ≤ 140737488355328, srG sm c p l s = false → srH rows c p l s dt = false → (([] ++ l).length + (srR rows c p l s dt).length) * 112 ≤ 140737488355328, srG sm c p l s = false → srH rows c p l s dt = false → c.pts.length ≤ 65536, srG sm c p l s = false → srH rows c p l s dt = false → (sto c (([] ++ l) ++ srR rows c p l s dt) l.length).pts.length ≤ 65536]
theorem srEq : symFn Try.prog (tbl [(19, c2 eCt eBB eB sm), (20, p8 eCt eBd eBd eI eI eI (eSl .sb) eI (eFr 59 .row) (fun c _ _ _ _ _ _ _ => [c.pts.length ≤ 65536]) rows), (15, p3 eCt (eSl .row) eI eCtT (fun c _ _ => [c.pts.length ≤ 65536]) sto), (14, p2 eCt eCt eB (fun k _ => [k.pts.length ≤ 65536]) eq), (13, c0 eB true)]) noLps 5 [eCt.pv c, eBB.pv p, (eSl .row).pv l, (eSl .sb).pv s, eI.pv dt] = some (srQ sm rows sto c p l s dt, eB.pv (srU sm rows sto eq c p l s dt)) := by kernel_rfl
end
theorem srG_no {c : Fx.Ct} {p : Fx.Bd × Fx.Bd} {l : List Fx.Row} {s : List Fx.Sb} (h : srG sm29 c p l s = false) : c.pts.length ≤ 4 ∧ l.length ≤ 8 ∧ s.length ≤ 8 := by
  obtain ⟨h, h3⟩ := Fx.of_orr h
  obtain ⟨h1, h2⟩ := Fx.of_orr h
  have h2 := of_decide_eq_false h2; have h3 := of_decide_eq_false h3
  have h0 : sm29 c p = true := by simpa using h1
  exact ⟨sm29_len h0, by omega, by omega⟩
theorem store_rows (c : Fx.Ct) (a b : Fx.Bd) (ia ib : Int) (l : List Fx.Row) (s : List Fx.Sb) (dt : Int) (hc : c.pts.length ≤ 4) (hl : l.length ≤ 8) : cstore c (([] ++ l) ++ crows c a b ia ib l.length s dt) l.length = c := by
  rw [List.nil_append]
  refine cstore_same c _ _ (by rw [List.length_append]; omega) fun i hi => ?_
  have e1 : Fx.stFst (l.length : Int) i = ((l.length + 2 * i : Nat) : Int) := by
    unfold Fx.stFst
    rw [Fx.w64_id (n := 2 * (i : Int)) (by omega) (by omega), Fx.w64_id (by omega) (by omega)]
    omega
  have e2 : Fx.w64 (Fx.stFst (l.length : Int) i + 1) = ((l.length + (2 * i + 1) : Nat) : Int) := by
    rw [e1, Fx.w64_id (by omega) (by omega)]
    omega
  have key : ∀ (m : Nat) (z : Int), (m < (crows c a b ia ib l.length s dt).length → ((crows c a b ia ib l.length s dt).getD m Fx.row0).im = z) → Fx.rimp (l ++ crows c a b ia ib l.length s dt) ((l.length + m : Nat) : Int) z = z := fun m z h => by
    unfold Fx.rimp
    cases ho : Fx.outOf (l ++ crows c a b ia ib l.length s dt) ((l.length + m : Nat) : Int) with
    | true => rfl
    | false =>
      have := (Fx.outOf_false ho).2
      rw [List.length_append] at this
      rw [cond_false]
      unfold Fx.rowAt
      rw [Int.toNat_natCast, getD_app2]
      exact h (by omega)
  refine upd_same ?_ ?_
  · rw [e1]
    refine key _ _ fun hm => ?_
    cases h : cok c a b with
    | false => rw [crows_no h] at hm; exact absurd hm (Nat.not_lt_zero _)
    | true => rw [(crows_at h ia ib l.length s dt i hi).1]; rfl
  · rw [e2]
    refine key _ _ fun hm => ?_
    cases h : cok c a b with
    | false => rw [crows_no h] at hm; exact absurd hm (Nat.not_lt_zero _)
    | true => rw [(crows_at h ia ib l.length s dt i hi).2]; rfl
theorem srU_true (c : Fx.Ct) (p : Fx.Bd × Fx.Bd) (l : List Fx.Row) (s : List Fx.Sb) (dt : Int) : srU sm29 crows cstore ceq c p l s dt = true := by
  unfold srU
  cases hG : srG sm29 c p l s with
  | true => rfl
  | false =>
    obtain ⟨hc, hl, hs⟩ := srG_no hG
    have hH : srH crows c p l s dt = false := by
      unfold srH srR
      rw [Fx.w64_id (by omega) (by omega)]
      cases h : cok c p.1 p.2 with
      | false => rw [crows_no h]; rfl
      | true => rw [crows_len h]; simp [an]
    rw [hH, cond_false, cond_false]
    unfold srR
    rw [store_rows c p.1 p.2 0 1 l s dt hc hl, ceq_self]
    rfl
theorem srQ_ok (c : Fx.Ct) (p : Fx.Bd × Fx.Bd) (l : List Fx.Row) (s : List Fx.Sb) (dt : Int) : Conj (srQ sm29 crows cstore c p l s dt) := by
  refine ⟨fun hG => ?_, fun hG _ => ?_, fun hG _ => ?_, fun hG _ => ?_, fun hG _ => ?_, trivial⟩ <;> obtain ⟨hc, hl, hs⟩ := srG_no hG
  · omega
  · rw [List.length_nil]; omega
  · have := crows_bound c p.1 p.2 0 1 l.length s dt
    unfold srR
    rw [List.nil_append]; omega
  · omega
  · unfold srR
    rw [store_rows c p.1 p.2 0 1 l s dt hc hl]; omega
theorem lContactStoreRows : Sound Try.prog 5 (c5 eCt eBB (eSl .row) (eSl .sb) eI eB (fun _ _ _ _ _ => true)) :=
  con (lps := noLps) mixed (AllSound.cons cSm29 (.cons cCtr (.cons cCst (.cons rEqc (.cons cEx29 .nil))))) Try.func5 (by kernel_rfl) (by kernel_rfl) (noLoops (by kernel_rfl))
    (g5 (fun c p l s dt => srQ sm29 crows cstore c p l s dt) (fun c p l s dt => srU sm29 crows cstore ceq c p l s dt) (fun c p l s dt _ => srQ_ok c p l s dt) (fun c p l s dt _ => srU_true c p l s dt) (fun c p l s dt => srEq sm29 crows cstore ceq c p l s dt))
theorem aContactStoreRows : ∀ vs, ArgsAre Try.prog 8 [39, 51, 40, 52, 3] vs → ∃ ps, (c5 eCt eBB (eSl .row) (eSl .sb) eI eB (fun _ _ _ _ _ => true)) vs = some (ps, .fv (.one (.bool true))) ∧ Conj ps := by
  intro vs h0
  obtain ⟨x0, r, rfl, h1⟩ := args_Ct (by kernel_rfl) (by kernel_rfl) h0
  obtain ⟨x1, r, rfl, h2⟩ := args_BB (by kernel_rfl) (by kernel_rfl) h1
  obtain ⟨x2, r, rfl, h3⟩ := args_Slrow (by kernel_rfl) (by kernel_rfl) h2
  obtain ⟨x3, r, rfl, h4⟩ := args_Slsb (by kernel_rfl) (by kernel_rfl) h3
  obtain ⟨x4, r, rfl, lo4, hi4, h5⟩ := args_int (k := .i64) (by kernel_rfl) (by kernel_rfl) h4
  obtain rfl := args_nil h5
  exact ⟨_, rfl, trivial⟩
set_option maxRecDepth 100000 in
theorem liftedContactStoreRows (os : Os) (started : os.Started) (H : Type) (enc : TypeId × Value → H) :
    ReturnsInHanded {} Try.checked os 5 .any (Rows.contactStoreRowsSpec.pre6 enc Try.prog Try.f5 Rows.contactStoreRowsRow.domain false) (Rows.contactStoreRowsSpec.post enc Try.prog Try.f5 false true false false) := by
  refine returnsInHanded_of_change (C := Try.checked) own started (by kernel_rfl) Try.func5 (ChangeSpec.witness6 (enc := enc) (C := Try.checked) false ⟨#[], #[.agg #[.int .i64 0, .int .i64 0, .int .i64 0, .int .i64 0, .int .i64 0, .int .i64 0, .slice none 0 0], .agg #[.int .i64 0, .int .i64 0, .int .i64 0, .int .i64 0, .int .i64 0, .int .i64 0, .int .i64 0, .int .i64 0, .int .i64 0, .int .i64 0, .int .i64 0, .int .i64 0, .int .i64 0, .int .i64 0, .bool false, .bool false, .bool false, .bool false, .int .i64 0, .slice none 0 0, .int .i64 0, .int .i64 0, .int .i64 0, .int .i64 0, .int .i64 0, .int .i64 0, .int .i64 0, .int .i64 0, .int .i64 0, .int .i64 0, .int .i64 0, .int .i64 0, .int .i64 0, .int .i64 0, .bool false, .bool false, .bool false, .bool false, .int .i64 0, .slice none 0 0], .slice none 0 0, .slice none 0 0, .int .i64 0], []⟩ 8 (by kernel_rfl) (by kernel_rfl) (by kernel_rfl) (by kernel_rfl)) ?_
  intro W base args ds gs before hval hW _ _
  exact law_contract (D := 8) (by kernel_rfl) (of_allOk (by kernel_rfl)) (tb := 4) (by kernel_rfl) (by kernel_rfl) rfl (fun ds h => by
    have h : ds.length = 5 := h
    match ds, h with
    | [d0, d1, d2, d3, d4], _ => rfl) lContactStoreRows aContactStoreRows W base args ds gs before hval hW

theorem contactStoreRows_holds : Rows.ContactStoreRowsSaid :=
  OpenClaim.holds_of_wide 5 Try.f5 rfl rfl rfl rfl rfl rfl rfl ⟨rfl, rfl, rfl, rfl, rfl⟩ rfl rfl rfl rfl rfl (by kernel_rfl) Try.func5 (by kernel_rfl)
    (of_decide_eq_true (by kernel_rfl)) (by unfold Func.isWrapper; first | (rw [if_pos (by decide +kernel)]; kernel_rfl) | (rw [if_neg (by decide +kernel)]; exact ⟨rfl, rfl⟩))
    (fun os started H enc _ => liftedContactStoreRows os started H enc)

end Go.Proofs.Ytfjognghjiifaaa
