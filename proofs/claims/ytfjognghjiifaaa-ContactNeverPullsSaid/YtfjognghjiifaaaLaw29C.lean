/- Proved here: laws of chapter 29 return true for every input. Conditions: none. -/
import Derived.Test.YtfjognghjiifaaaLaw29
open Go Go.Eng
namespace Go.Proofs.Ytfjognghjiifaaa
open Go.Fx (an orr an_true)

def bbOf (cs : List Cell) : Option (Fx.Bd × Fx.Bd) := (bbC.dec cs).map bbF
theorem bbOf_eq {cs : List Cell} {x : Fx.Bd × Fx.Bd} (h : bbOf cs = some x) : cs = bbG x := by
  unfold bbOf at h
  cases e : bbC.dec cs with
  | none => rw [e] at h; cases h
  | some y => rw [e] at h; cases h; rw [bbFG]; exact bbC.ok _ _ e
theorem w2i {i n : Nat} (h : i < n / 2) (hn : n ≤ 65536) : IntKind.i64.wrap (2 * (i : Int) + 2) = 2 * ((i + 1 : Nat) : Int) := by
  have : Fx.w64 (2 * (i : Int) + 2) = 2 * (i : Int) + 2 := Fx.w64_id (by omega) (by omega)
  exact this.trans (by omega)
noncomputable def fbdL : List (FuncId × Contract) := [(9, c2 eFxW eFxW eI (fun x y => Fx.fric x.1 y.1)), (22, c2 (eSl .row) eI eII Fx.bounds), (21, f2 Fx.mul)]
def fbdTv (c : (Fx.Ct) × (Fx.Bd × Fx.Bd) × (Int) × (List Fx.Row) × (List Fx.Row)) (i : Nat) (_x : Unit) : List TV := [.val (.fv (.one (.ref 0 0))), .val (.fv (.one (.ref 1 0))), .val (Bo false), .val (I c.2.2.1), .val (.fv (.one (.own 28))), .val (.fv (.one (.own 72))), .val (I (2 * (i : Int)))]
def fbdMv (c : (Fx.Ct) × (Fx.Bd × Fx.Bd) × (Int) × (List Fx.Row) × (List Fx.Row)) (_i : Nat) (_x : Unit) : List MRes := [.val (.blk 39 (ctG c.1)), .val (.blk 51 (bbG c.2.1)), .val (.row 59 ⟨.row, c.2.2.2.1⟩), .val (.row 59 ⟨.row, c.2.2.2.2⟩)]
def fbdEtv (_c : (Fx.Ct) × (Fx.Bd × Fx.Bd) × (Int) × (List Fx.Row) × (List Fx.Row)) (_e : Unit) : List TV := [.any, .any, .val (Bo false), .any, .any, .any, .any]
def fbdEmv (_c : (Fx.Ct) × (Fx.Bd × Fx.Bd) × (Int) × (List Fx.Row) × (List Fx.Row)) (_e : Unit) : List MRes := [.lost, .lost, .lost, .lost]
def fbdDec : List TV → List MRes → Option (List Prop × ((Fx.Ct) × (Fx.Bd × Fx.Bd) × (Int) × (List Fx.Row) × (List Fx.Row)) × (Unit))
  | [.val (.fv (.one (.ref 0 0))), .val (.fv (.one (.ref 1 0))), .val (Bo b), .val (I m), .val (.fv (.one (.own 28))), .val (.fv (.one (.own 72))), .val (I i)], [.val (.blk 39 [.int .i64 k1, .int .i64 k2, .int .i64 k3, .int .i64 k4, .int .i64 k5, .int .i64 k6, .slc false ⟨.cp, k7⟩]), .val (.blk 51 us), .val (.row 59 ⟨.row, r⟩), .val (.row 59 ⟨.row, a⟩)] => (match bbOf us with
    | some u => some ([b = false, i = 2 * ((0 : Nat) : Int), r.length ≤ 65536 ∧ (0 < r.length → (0 ≤ k2 ∧ k2 < (u.1.fixtures.length : Int)) ∧ (0 ≤ k4 ∧ k4 < (u.2.fixtures.length : Int)))], (⟨k1, k2, k3, k4, k5, k6, k7⟩, u, m, r, a), ())
    | _ => none)
  | _, _ => none
def fbdOk (c : (Fx.Ct) × (Fx.Bd × Fx.Bd) × (Int) × (List Fx.Row) × (List Fx.Row)) : Prop := c.2.2.2.1.length ≤ 65536 ∧ (0 < c.2.2.2.1.length → (0 ≤ c.1.fa ∧ c.1.fa < (c.2.1.1.fixtures.length : Int)) ∧ (0 ≤ c.1.fb ∧ c.1.fb < (c.2.1.2.fixtures.length : Int)))
def fbdInv (_c : (Fx.Ct) × (Fx.Bd × Fx.Bd) × (Int) × (List Fx.Row) × (List Fx.Row)) (_i : Nat) (_x : Unit) : Prop := True
theorem fbdDec_ok (ts : List TV) (ms : List MRes) (ps : List Prop) (c : (Fx.Ct) × (Fx.Bd × Fx.Bd) × (Int) × (List Fx.Row) × (List Fx.Row)) (x : Unit) (h : fbdDec ts ms = some (ps, c, x)) (hp : Conj ps) : ts = fbdTv c 0 x ∧ ms = fbdMv c 0 x ∧ fbdOk c ∧ fbdInv c 0 x := by
  unfold fbdDec at h
  split at h
  · split at h
    · rename_i u eu
      have eu := bbOf_eq eu
      cases h
      subst eu
      obtain ⟨rfl, rfl, hok, _⟩ := hp
      exact ⟨rfl, rfl, hok, trivial⟩
    · cases h
  · cases h
def fbdStep (c : (Fx.Ct) × (Fx.Bd × Fx.Bd) × (Int) × (List Fx.Row) × (List Fx.Row)) (i : Nat) (_x : Unit) : Sum (Unit) (Unit) := bif orr (orr (orr ((Fx.bounds c.2.2.2.2 (Fx.w64 (Fx.w64 (c.2.2.1 + 2 * (i : Int)) + 1))).1 != Fx.w64 (0 - (Fx.maxZ (Fx.mul (Fx.fric (c.2.1.1.fixtures.getD c.1.fa.toNat Fx.fix0) (c.2.1.2.fixtures.getD c.1.fb.toNat Fx.fix0)) (c.2.2.2.1.getD (2 * (i : Int)).toNat Fx.row0).im)))) ((Fx.bounds c.2.2.2.2 (Fx.w64 (Fx.w64 (c.2.2.1 + 2 * (i : Int)) + 1))).2 != (Fx.maxZ (Fx.mul (Fx.fric (c.2.1.1.fixtures.getD c.1.fa.toNat Fx.fix0) (c.2.1.2.fixtures.getD c.1.fb.toNat Fx.fix0)) (c.2.2.2.1.getD (2 * (i : Int)).toNat Fx.row0).im)))) ((Fx.bounds c.2.2.2.2 (Fx.w64 (c.2.2.1 + 2 * (i : Int)))).1 != 0)) ((Fx.bounds c.2.2.2.2 (Fx.w64 (c.2.2.1 + 2 * (i : Int)))).2 != 536870911) then .inr () else .inl ()
def fbdV (c : (Fx.Ct) × (Fx.Bd × Fx.Bd) × (Int) × (List Fx.Row) × (List Fx.Row)) (i : Nat) (_x : Unit) : VT := VT.ite (decide (Fx.w64 (2 * (i : Int) + 1) < (c.2.2.2.1.length : Int))) (VT.pre [0 ≤ c.1.fa ∧ c.1.fa < (c.2.1.1.fixtures.length : Int), 0 ≤ c.1.fb ∧ c.1.fb < (c.2.1.2.fixtures.length : Int)] (VT.pre [0 ≤ 2 * (i : Int) ∧ 2 * (i : Int) < (c.2.2.2.1.length : Int), (2 * (i : Int)).toNat < c.2.2.2.1.length] (VT.ite (orr (orr (orr ((Fx.bounds c.2.2.2.2 (Fx.w64 (Fx.w64 (c.2.2.1 + 2 * (i : Int)) + 1))).1 != Fx.w64 (0 - (Fx.maxZ (Fx.mul (Fx.fric (c.2.1.1.fixtures.getD c.1.fa.toNat Fx.fix0) (c.2.1.2.fixtures.getD c.1.fb.toNat Fx.fix0)) (c.2.2.2.1.getD (2 * (i : Int)).toNat Fx.row0).im)))) ((Fx.bounds c.2.2.2.2 (Fx.w64 (Fx.w64 (c.2.2.1 + 2 * (i : Int)) + 1))).2 != (Fx.maxZ (Fx.mul (Fx.fric (c.2.1.1.fixtures.getD c.1.fa.toNat Fx.fix0) (c.2.1.2.fixtures.getD c.1.fb.toNat Fx.fix0)) (c.2.2.2.1.getD (2 * (i : Int)).toNat Fx.row0).im)))) ((Fx.bounds c.2.2.2.2 (Fx.w64 (c.2.2.1 + 2 * (i : Int)))).1 != 0)) ((Fx.bounds c.2.2.2.2 (Fx.w64 (c.2.2.1 + 2 * (i : Int)))).2 != 536870911)) (VT.leaf (Ex.ret) 157 [.val (.fv (.one (.ref 0 0))), .val (.fv (.one (.ref 1 0))), .val (Bo false), .val (I c.2.2.1), .val (.fv (.one (.own 28))), .val (.fv (.one (.own 72))), .val (I (2 * (i : Int)))] [.val (.blk 39 (ctG c.1)), .val (.blk 51 (bbG c.2.1)), .val (.row 59 ⟨.row, c.2.2.2.1⟩), .val (.row 59 ⟨.row, c.2.2.2.2⟩)]) (VT.leaf Ex.norm 157 [.val (.fv (.one (.ref 0 0))), .val (.fv (.one (.ref 1 0))), .val (Bo false), .val (I c.2.2.1), .val (.fv (.one (.own 28))), .val (.fv (.one (.own 72))), .val (I (IntKind.i64.wrap ((2 * (i : Int)) + 2)))] [.val (.blk 39 (ctG c.1)), .val (.blk 51 (bbG c.2.1)), .val (.row 59 ⟨.row, c.2.2.2.1⟩), .val (.row 59 ⟨.row, c.2.2.2.2⟩)])))) (VT.leaf (Ex.exit 0) 157 [.val (.fv (.one (.ref 0 0))), .val (.fv (.one (.ref 1 0))), .val (Bo false), .val (I c.2.2.1), .val (.fv (.one (.own 28))), .val (.fv (.one (.own 72))), .val (I (2 * (i : Int)))] [.val (.blk 39 (ctG c.1)), .val (.blk 51 (bbG c.2.1)), .val (.row 59 ⟨.row, c.2.2.2.1⟩), .val (.row 59 ⟨.row, c.2.2.2.2⟩)])
theorem fbdV_eq (c : (Fx.Ct) × (Fx.Bd × Fx.Bd) × (Int) × (List Fx.Row) × (List Fx.Row)) (i : Nat) (x : Unit) : viewT [5, 6, 10, 11, 12, 13, 14] [0, 1, 28, 72] (sexec Try.prog (tbl fbdL) (noLps) (lbN 0 Try.f7) (headSt 157 75 [5, 6, 10, 11, 12, 13, 14] [0, 1, 28, 72] (fbdTv c i x) (fbdMv c i x))) = fbdV c i x := by kernel_rfl
noncomputable def fbdT : St → Tree := forT 157 75 [5, 6, 10, 11, 12, 13, 14] [0, 1, 28, 72] fbdDec (fun c => c.2.2.2.1.length / 2) fbdTv fbdMv fbdEtv fbdEmv fbdStep () 0 .ret
theorem fbdA : AllSound Try.prog fbdL := (.cons cFri (.cons cBnd (.cons rMul .nil)))
theorem fbdLoop : LoopOk Try.prog fbdT (lbN 0 Try.f7) :=
  forT_ok mixed fbdA.tbl (noLoops (by kernel_rfl)) [0, 1, 28, 72] (bn := fun c => True) (inv := fbdInv) fbdDec_ok (fun _ _ => ⟨⟨.inr rfl, .inr rfl, .inr rfl, .inr rfl, .inr rfl, .inr rfl, .inr rfl, trivial⟩, ⟨.inr rfl, .inr rfl, .inr rfl, .inr rfl, trivial⟩, rfl, rfl, rfl⟩)
    (fun _ _ _ _ _ _ hr h1 h2 => by
      trivial)
    (fun c i x hok hn hinv hi => ⟨_, fbdV_eq c i x, by
      refine ⟨fun h => ?_, fun h => ?_⟩
      · have h : i < c.2.2.2.1.length / 2 := by (have h2 := h; have h3 := hok.1; rw [Fx.w64_id (by omega) (by omega)] at h2; simp at h2; omega)
        refine ⟨(have h4 := hok.2 (by omega); ⟨h4.1, h4.2, trivial⟩), ?_⟩
        refine ⟨⟨⟨by omega, by omega⟩, by omega, trivial⟩, ?_⟩
        refine ⟨fun hb3 => ?_, fun hb3 => ?_⟩
        · exact ⟨rfl, .inr ⟨rfl, h, (), [], by unfold fbdStep; first | rfl | ((try dsimp only); (try rw [hb3]); rfl), ⟨.inl rfl, .inl rfl, .inr rfl, .inl rfl, .inl rfl, .inl rfl, .inl rfl, trivial⟩, ⟨.inl rfl, .inl rfl, .inl rfl, .inl rfl, trivial⟩, rfl, rfl, rfl⟩⟩
        · rw [w2i h hok.1]
          exact ⟨rfl, (), [], h, by unfold fbdStep; first | rfl | ((try dsimp only); (try rw [hb3]); rfl), trivial, ⟨.inr rfl, .inr rfl, .inr rfl, .inr rfl, .inr rfl, .inr rfl, .inr rfl, trivial⟩, ⟨.inr rfl, .inr rfl, .inr rfl, .inr rfl, trivial⟩, rfl, rfl, rfl⟩
      · have h : ¬ i < c.2.2.2.1.length / 2 := by (have h2 := h; have h3 := hok.1; rw [Fx.w64_id (by omega) (by omega)] at h2; simp at h2; omega)
        exact ⟨rfl, .inl ⟨rfl, by omega, [], ⟨.inr rfl, .inr rfl, .inr rfl, .inr rfl, .inr rfl, .inr rfl, .inr rfl, trivial⟩, ⟨.inr rfl, .inr rfl, .inr rfl, .inr rfl, trivial⟩, rfl, rfl, rfl⟩⟩⟩)
section
variable (sm : Fx.Ct → Fx.Bd × Fx.Bd → Bool) (rows : Fx.Ct → Fx.Bd → Fx.Bd → Int → Int → Int → List Fx.Sb → Int → List Fx.Row) (c : Fx.Ct) (p : Fx.Bd × Fx.Bd) (l : List Fx.Row) (s : List Fx.Sb) (dt : Int)
def fbG : Bool := orr (orr (!(sm c p)) (decide ((l.length : Int) > 8))) (decide ((s.length : Int) > 8))
def fbR : List Fx.Row := rows c p.1 p.2 0 1 l.length s dt
def fbH : Bool := an (decide (((fbR rows c p l s dt).length : Int) > 0)) (orr (orr (orr (decide (c.fa < 0)) (decide (c.fa ≥ (p.1.fixtures.length : Int)))) (decide (c.fb < 0))) (decide (c.fb ≥ (p.2.fixtures.length : Int))))
def fbU : Bool := bif fbG sm c p l s then true else bif fbH rows c p l s dt then false else bif isL (runF (fbdStep (c, p, (l.length : Int), fbR rows c p l s dt, ([] ++ l) ++ fbR rows c p l s dt)) ((fbR rows c p l s dt).length / 2) 0 ()) then true else false
def fbQ : List Prop := [fbG sm c p l s = false → c.pts.length ≤ 65536, fbG sm c p l s = false → fbH rows c p l s dt = false → (([] : List Fx.Row).length + l.length) * 112 ≤ 140737488355328, fbG sm c p l s = false → fbH rows c p l s dt = false → (([] ++ l).length + (fbR rows c p l s dt).length) * 112 ≤ 140737488355328,
  fbG sm c p l s = false → fbH rows c p l s dt = false → false = false, fbG sm c p l s = false → fbH rows c p l s dt = false → (0 : Int) = 2 * ((0 : Nat) : Int),
  fbG sm c p l s = false → fbH rows c p l s dt = false → (fbR rows c p l s dt).length ≤ 65536 ∧ (0 < (fbR rows c p l s dt).length → (0 ≤ c.fa ∧ c.fa < (p.1.fixtures.length : Int)) ∧ (0 ≤ c.fb ∧ c.fb < (p.2.fixtures.length : Int)))]
theorem fbEq : symFn Try.prog (tbl [(19, c2 eCt eBB eB sm), (20, p8 eCt eBd eBd eI eI eI (eSl .sb) eI (eFr 59 .row) (fun c _ _ _ _ _ _ _ => [c.pts.length ≤ 65536]) rows), (13, c0 eB true), (9, c2 eFxW eFxW eI (fun x y => Fx.fric x.1 y.1)), (22, c2 (eSl .row) eI eII Fx.bounds), (21, f2 Fx.mul)]) (fun _ => fbdT) 7 [eCt.pv c, eBB.pv p, (eSl .row).pv l, (eSl .sb).pv s, eI.pv dt] = some (fbQ sm rows c p l s dt, eB.pv (fbU sm rows c p l s dt)) := by kernel_rfl
end
theorem fbG_no {c : Fx.Ct} {p : Fx.Bd × Fx.Bd} {l : List Fx.Row} {s : List Fx.Sb} (h : fbG sm29 c p l s = false) : c.pts.length ≤ 4 ∧ l.length ≤ 8 ∧ s.length ≤ 8 := by
  obtain ⟨h, h3⟩ := Fx.of_orr h
  obtain ⟨h1, h2⟩ := Fx.of_orr h
  have h2 := of_decide_eq_false h2; have h3 := of_decide_eq_false h3
  have h0 : sm29 c p = true := by simpa using h1
  exact ⟨sm29_len h0, by omega, by omega⟩
theorem fix_fri {b : Fx.Bd} {i : Int} (h : Fx.fxOut b i = false) : (vless (Fx.fxAt b i).1).fri = (b.fixtures.getD i.toNat Fx.fix0).fri := by
  show (bif Fx.fxOut b i then Fx.fix0.fri else (b.fixtures.getD i.toNat Fx.fix0).fri) = _
  rw [h]; rfl
theorem cok_in {c : Fx.Ct} {a b : Fx.Bd} (h : cok c a b = true) : Fx.fxOut a c.fa = false ∧ Fx.fxOut b c.fb = false := by
  rw [cok_eq] at h
  obtain ⟨h, h4⟩ := Fx.of_an h
  obtain ⟨h, h3⟩ := Fx.of_an h
  obtain ⟨h1, h2⟩ := Fx.of_an h
  have h1 := of_decide_eq_true h1; have h2 := of_decide_eq_true h2; have h3 := of_decide_eq_true h3; have h4 := of_decide_eq_true h4
  unfold Fx.fxOut orr
  simp
  omega
theorem bounds_own {A : List Fx.Row} {i : Int} (h1 : Fx.outOf A i = false) (h2 : Fx.own1 A i = true) : Fx.bounds A i = ((Fx.rowAt A i).lo, (Fx.rowAt A i).up) := by
  unfold Fx.bounds Fx.bnd
  rw [h1, h2]; rfl
theorem bounds_fri {A : List Fx.Row} {i : Int} (h1 : Fx.outOf A i = false) (h2 : Fx.own1 A i = false) : Fx.bounds A i = (Fx.w64 (0 - Fx.maxZ (Fx.mul (Fx.rowAt A i).fr (Fx.rowAt A (Fx.rowAt A i).fo).im)), Fx.maxZ (Fx.mul (Fx.rowAt A i).fr (Fx.rowAt A (Fx.rowAt A i).fo).im)) := by
  unfold Fx.bounds Fx.bnd
  rw [h1, h2]; rfl
theorem out_in {A : List Fx.Row} {m : Nat} (h : m < A.length) : Fx.outOf A (m : Int) = false := by
  unfold Fx.outOf orr
  simp
  omega
theorem fb_ok (c : Fx.Ct) (p : Fx.Bd × Fx.Bd) (l : List Fx.Row) (s : List Fx.Sb) (dt : Int) (hc : c.pts.length ≤ 4) (hl : l.length ≤ 8) : isL (runF (fbdStep (c, p, (l.length : Int), fbR crows c p l s dt, ([] ++ l) ++ fbR crows c p l s dt)) ((fbR crows c p l s dt).length / 2) 0 ()) = true := by
  refine Fx.isL_all _ _ fun j _ hj => ?_
  have hok : cok c p.1 p.2 = true := by
    cases h : cok c p.1 p.2 with
    | true => rfl
    | false =>
      unfold fbR at hj
      rw [crows_no h] at hj
      exact absurd hj (by simp)
  have hlen : (fbR crows c p l s dt).length = 2 * c.pts.length := crows_len hok ..
  have hj : j < c.pts.length := by omega
  obtain ⟨o1, o2⟩ := cok_in hok
  obtain ⟨r0, r1⟩ := crows_at hok 0 1 l.length s dt j hj
  have hfri : Fx.fric (vless (Fx.fxAt p.1 c.fa).1) (vless (Fx.fxAt p.2 c.fb).1) = Fx.fric (p.1.fixtures.getD c.fa.toNat Fx.fix0) (p.2.fixtures.getD c.fb.toNat Fx.fix0) := by
    unfold Fx.fric
    rw [fix_fri o1, fix_fri o2]
  generalize hR : fbR crows c p l s dt = R at *
  have hR' : crows c p.1 p.2 0 1 l.length s dt = R := hR
  rw [hR'] at r0 r1
  have hrow : ∀ m : Nat, Fx.rowAt ([] ++ l ++ R) ((l.length + m : Nat) : Int) = R.getD m Fx.row0 := fun m => by
    unfold Fx.rowAt
    rw [List.nil_append, Int.toNat_natCast, getD_app2]
  have hout : ∀ m : Nat, m < R.length → Fx.outOf ([] ++ l ++ R) ((l.length + m : Nat) : Int) = false := fun m hm => out_in (by rw [List.nil_append, List.length_append]; omega)
  have e0 : Fx.w64 ((l.length : Int) + 2 * (j : Int)) = ((l.length + 2 * j : Nat) : Int) := by
    rw [Fx.w64_id (by omega) (by omega)]; omega
  have e1 : Fx.w64 (Fx.w64 ((l.length : Int) + 2 * (j : Int)) + 1) = ((l.length + (2 * j + 1) : Nat) : Int) := by
    rw [e0, Fx.w64_id (by omega) (by omega)]; omega
  have b0 : Fx.bounds ([] ++ l ++ R) (Fx.w64 ((l.length : Int) + 2 * (j : Int))) = (0, 536870911) := by
    rw [e0, bounds_own (hout _ (by omega)) (by unfold Fx.own1; rw [hrow, r0]; rfl), hrow, r0]
    rfl
  have hfo : (R.getD (2 * j + 1) Fx.row0).fo = ((l.length + 2 * j : Nat) : Int) := by
    rw [r1]
    show Fx.w64 ((l.length : Int) + ((2 * j : Nat) : Int)) = _
    rw [Fx.w64_id (by omega) (by omega)]; omega
  have hfr : (R.getD (2 * j + 1) Fx.row0).fr = Fx.fric (p.1.fixtures.getD c.fa.toNat Fx.fix0) (p.2.fixtures.getD c.fb.toNat Fx.fix0) := by
    rw [r1]
    exact hfri
  have b1 : Fx.bounds ([] ++ l ++ R) (Fx.w64 (Fx.w64 ((l.length : Int) + 2 * (j : Int)) + 1)) = (Fx.w64 (0 - Fx.maxZ (Fx.mul (Fx.fric (p.1.fixtures.getD c.fa.toNat Fx.fix0) (p.2.fixtures.getD c.fb.toNat Fx.fix0)) (R.getD (2 * (j : Int)).toNat Fx.row0).im)), Fx.maxZ (Fx.mul (Fx.fric (p.1.fixtures.getD c.fa.toNat Fx.fix0) (p.2.fixtures.getD c.fb.toNat Fx.fix0)) (R.getD (2 * (j : Int)).toNat Fx.row0).im)) := by
    rw [e1, bounds_fri (hout _ (by omega)) (by
      unfold Fx.own1
      rw [hrow, hfo, hout _ (by omega)]
      unfold orr
      simp
      omega), hrow, hfo, hrow, show (2 * (j : Int)).toNat = 2 * j from by omega, hfr]
  dsimp only
  rw [b0, b1]
  simp [orr]
theorem fbU_true (c : Fx.Ct) (p : Fx.Bd × Fx.Bd) (l : List Fx.Row) (s : List Fx.Sb) (dt : Int) : fbU sm29 crows c p l s dt = true := by
  unfold fbU
  cases hG : fbG sm29 c p l s with
  | true => rfl
  | false =>
    obtain ⟨hc, hl, hs⟩ := fbG_no hG
    have hH : fbH crows c p l s dt = false := by
      unfold fbH fbR
      cases h : cok c p.1 p.2 with
      | false => rw [crows_no h]; rfl
      | true =>
        rw [cok_eq] at h
        obtain ⟨h, h4⟩ := Fx.of_an h
        obtain ⟨h, h3⟩ := Fx.of_an h
        obtain ⟨h1, h2⟩ := Fx.of_an h
        have h1 := of_decide_eq_true h1; have h2 := of_decide_eq_true h2; have h3 := of_decide_eq_true h3; have h4 := of_decide_eq_true h4
        unfold an orr
        simp
        omega
    rw [hH, cond_false, cond_false, fb_ok c p l s dt hc hl]
    rfl
theorem fbQ_ok (c : Fx.Ct) (p : Fx.Bd × Fx.Bd) (l : List Fx.Row) (s : List Fx.Sb) (dt : Int) : Conj (fbQ sm29 crows c p l s dt) := by
  refine ⟨fun hG => ?_, fun hG _ => ?_, fun hG _ => ?_, fun _ _ => rfl, fun _ _ => rfl, fun hG hH => ⟨?_, fun h0 => ?_⟩, trivial⟩ <;> obtain ⟨hc, hl, hs⟩ := fbG_no hG
  · omega
  · rw [List.length_nil]; omega
  · have := crows_bound c p.1 p.2 0 1 l.length s dt
    unfold fbR
    rw [List.nil_append]; omega
  · have := crows_bound c p.1 p.2 0 1 l.length s dt
    unfold fbR
    omega
  · unfold fbH at hH
    rw [show decide (((fbR crows c p l s dt).length : Int) > 0) = true from decide_eq_true (by omega)] at hH
    unfold an orr at hH
    simp at hH
    omega
theorem lContactFrictionBounds : Sound Try.prog 7 (c5 eCt eBB (eSl .row) (eSl .sb) eI eB (fun _ _ _ _ _ => true)) :=
  con (lps := fun _ => fbdT) mixed (AllSound.cons cSm29 (.cons cCtr (.cons cEx29 (.cons cFri (.cons cBnd (.cons rMul .nil)))))) Try.func7 (by kernel_rfl) (by kernel_rfl) (oneLoop (lps := fun _ => fbdT) (b := (lbN 0 Try.f7)) (by kernel_rfl) fbdLoop)
    (g5 (fun c p l s dt => fbQ sm29 crows c p l s dt) (fun c p l s dt => fbU sm29 crows c p l s dt) (fun c p l s dt _ => fbQ_ok c p l s dt) (fun c p l s dt _ => fbU_true c p l s dt) (fun c p l s dt => fbEq sm29 crows c p l s dt))
theorem aContactFrictionBounds : ∀ vs, ArgsAre Try.prog 8 [39, 51, 40, 52, 3] vs → ∃ ps, (c5 eCt eBB (eSl .row) (eSl .sb) eI eB (fun _ _ _ _ _ => true)) vs = some (ps, .fv (.one (.bool true))) ∧ Conj ps := by
  intro vs h0
  obtain ⟨x0, r, rfl, h1⟩ := args_Ct (by kernel_rfl) (by kernel_rfl) h0
  obtain ⟨x1, r, rfl, h2⟩ := args_BB (by kernel_rfl) (by kernel_rfl) h1
  obtain ⟨x2, r, rfl, h3⟩ := args_Slrow (by kernel_rfl) (by kernel_rfl) h2
  obtain ⟨x3, r, rfl, h4⟩ := args_Slsb (by kernel_rfl) (by kernel_rfl) h3
  obtain ⟨x4, r, rfl, lo4, hi4, h5⟩ := args_int (k := .i64) (by kernel_rfl) (by kernel_rfl) h4
  obtain rfl := args_nil h5
  exact ⟨_, rfl, trivial⟩
set_option maxRecDepth 100000 in
theorem liftedContactFrictionBounds (os : Os) (started : os.Started) (H : Type) (enc : TypeId × Value → H) :
    ReturnsInHanded {} Try.checked os 7 .any (Rows.contactFrictionBoundsSpec.pre6 enc Try.prog Try.f7 Rows.contactFrictionBoundsRow.domain false) (Rows.contactFrictionBoundsSpec.post enc Try.prog Try.f7 false true false false) := by
  refine returnsInHanded_of_change (C := Try.checked) own started (by kernel_rfl) Try.func7 (ChangeSpec.witness6 (enc := enc) (C := Try.checked) false ⟨#[], #[.agg #[.int .i64 0, .int .i64 0, .int .i64 0, .int .i64 0, .int .i64 0, .int .i64 0, .slice none 0 0], .agg #[.int .i64 0, .int .i64 0, .int .i64 0, .int .i64 0, .int .i64 0, .int .i64 0, .int .i64 0, .int .i64 0, .int .i64 0, .int .i64 0, .int .i64 0, .int .i64 0, .int .i64 0, .int .i64 0, .bool false, .bool false, .bool false, .bool false, .int .i64 0, .slice none 0 0, .int .i64 0, .int .i64 0, .int .i64 0, .int .i64 0, .int .i64 0, .int .i64 0, .int .i64 0, .int .i64 0, .int .i64 0, .int .i64 0, .int .i64 0, .int .i64 0, .int .i64 0, .int .i64 0, .bool false, .bool false, .bool false, .bool false, .int .i64 0, .slice none 0 0], .slice none 0 0, .slice none 0 0, .int .i64 0], []⟩ 8 (by kernel_rfl) (by kernel_rfl) (by kernel_rfl) (by kernel_rfl)) ?_
  intro W base args ds gs before hval hW _ _
  exact law_contract (D := 8) (by kernel_rfl) (of_allOk (by kernel_rfl)) (tb := 4) (by kernel_rfl) (by kernel_rfl) rfl (fun ds h => by
    have h : ds.length = 5 := h
    match ds, h with
    | [d0, d1, d2, d3, d4], _ => rfl) lContactFrictionBounds aContactFrictionBounds W base args ds gs before hval hW

theorem contactFrictionBounds_holds : Rows.ContactFrictionBoundsSaid :=
  OpenClaim.holds_of_wide 7 Try.f7 rfl rfl rfl rfl rfl rfl rfl ⟨rfl, rfl, rfl, rfl, rfl⟩ rfl rfl rfl rfl rfl (by kernel_rfl) Try.func7 (by kernel_rfl)
    (of_decide_eq_true (by kernel_rfl)) (by unfold Func.isWrapper; first | (rw [if_pos (by decide +kernel)]; kernel_rfl) | (rw [if_neg (by decide +kernel)]; exact ⟨rfl, rfl⟩))
    (fun os started H enc _ => liftedContactFrictionBounds os started H enc)

end Go.Proofs.Ytfjognghjiifaaa
