/- Proved here: laws of chapter 29 return true for every input. Conditions: none. -/
import Derived.Test.YtfjognghjiifaaaGreatLaw29
open Go Go.Eng
namespace Go.Proofs.YtfjognghjiifaaaGreat
open Go.Fx (an orr an_true)

theorem rBrw : Sound Tryz.prog 23 (c7 eCp eV eBd eBd eI eI (eSl .sb) eRw (fun p n a b ia ib s => Fx.crow0 ia ib a.wc b.wc s p.p n)) :=
  con (lps := noLps) mixed (.cons rVcross (.cons rVsub (.cons rWc (.cons rEff .nil)))) Tryz.func23 (by kernel_rfl) (by kernel_rfl) (noLoops (by kernel_rfl)) (k7 (fun _ _ _ _ _ _ _ => by kernel_rfl))
def rbias (r : Fx.Row) (p : Fx.Cp) (re : Int) (s : List Fx.Sb) (dt : Int) : Int :=
  bif decide (p.sep < 0) then (bif decide (Fx.relV r s < -65536) then Fx.cmin (Fx.cmin 0 (Fx.corr (Fx.add p.sep 512) dt)) (Fx.mul re (Fx.relV r s)) else Fx.cmin 0 (Fx.corr (Fx.add p.sep 512) dt))
  else bif decide (Fx.relV r s < -65536) then Fx.cmin (Fx.div p.sep dt) (Fx.mul re (Fx.relV r s)) else Fx.div p.sep dt
theorem rBis : Sound Tryz.prog 24 (c5 eRw eCp eI (eSl .sb) eI eI rbias) :=
  con (lps := noLps) mixed (.cons rDiv (.cons rCorr (.cons rAdd (.cons rRelV (.cons rMul .nil))))) Tryz.func24 (by kernel_rfl) (by kernel_rfl) (noLoops (by kernel_rfl)) (k5 (fun _ _ _ _ _ => by kernel_rfl))
def fX (r : Fx.Row) (p : Fx.Cp) (re : Int) (s : List Fx.Sb) (dt : Int) : Fx.Row := ⟨r.a, r.b, r.nx, r.ny, r.aa, r.ab, r.em, rbias ⟨r.a, r.b, r.nx, r.ny, r.aa, r.ab, r.em, r.bi, r.lo, 536870911, r.so, p.ni, -1, r.fr⟩ p re s dt, r.lo, 536870911, r.so, p.ni, -1, r.fr⟩
def fY (r : Fx.Row) (p : Fx.Cp) (fo fr : Int) : Fx.Row := ⟨r.a, r.b, r.nx, r.ny, r.aa, r.ab, r.em, r.bi, r.lo, r.up, r.so, p.ti, fo, fr⟩
noncomputable def rrlL : List (FuncId × Contract) := [(23, c7 eCp eV eBd eBd eI eI (eSl .sb) eRw (fun p n a b ia ib s => Fx.crow0 ia ib a.wc b.wc s p.p n)), (24, c5 eRw eCp eI (eSl .sb) eI eI rbias), (26, c1 eV eV Fx.vperp), (25, c2 eFxW eFxW eI (fun x y => Fx.rest x.1 y.1)), (27, c2 eFxW eFxW eI (fun x y => Fx.fric x.1 y.1))]
def rrlTv (c : (Fx.Ct) × (Fx.Bd) × (Fx.Bd) × (Int) × (Int) × (Int) × (List Fx.Sb) × (Int) × (Fx.Fix) × (Fx.Fix)) (i : Nat) (_x : (List Fx.Row)) : List TV := [.val (I c.2.2.2.1), .val (I c.2.2.2.2.1), .val (I c.2.2.2.2.2.1), .val ((eSl .sb).pv c.2.2.2.2.2.2.1), .val (I c.2.2.2.2.2.2.2.1), .val (.fv (.one (.ref 0 0))), .val (.fv (.one (.ref 1 0))), .val (.fv (.one (.ref 2 0))), .val (.fv (.one (.ref 32 0))), .val (.fv (.one (.ref 33 0))), .val (.fv (.one (.own 36))), .val (I (i : Int))]
def rrlMv (c : (Fx.Ct) × (Fx.Bd) × (Fx.Bd) × (Int) × (Int) × (Int) × (List Fx.Sb) × (Int) × (Fx.Fix) × (Fx.Fix)) (_i : Nat) (x : (List Fx.Row)) : List MRes := [.val (.blk 30 (ctG c.1)), .val (.blk 36 (bdG c.2.1)), .val (.blk 36 (bdG c.2.2.1)), .val (.blk 60 (fxG c.2.2.2.2.2.2.2.2.1)), .val (.blk 60 (fxG c.2.2.2.2.2.2.2.2.2)), .val (.row 51 ⟨.row, x⟩)]
def rrlDec : List TV → List MRes → Option (List Prop × ((Fx.Ct) × (Fx.Bd) × (Fx.Bd) × (Int) × (Int) × (Int) × (List Fx.Sb) × (Int) × (Fx.Fix) × (Fx.Fix)) × ((List Fx.Row)))
  | [.val (I ia), .val (I ib), .val (I base), .val (.fv (.one (.slc false ⟨.sb, s⟩))), .val (I dt), .val (.fv (.one (.ref 0 0))), .val (.fv (.one (.ref 1 0))), .val (.fv (.one (.ref 2 0))), .val (.fv (.one (.ref 32 0))), .val (.fv (.one (.ref 33 0))), .val (.fv (.one (.own 36))), .val (I i)], [.val (.blk 30 [.int .i64 k1, .int .i64 k2, .int .i64 k3, .int .i64 k4, .int .i64 k5, .int .i64 k6, .slc false ⟨.cp, k7⟩]), .val (.blk 36 xa), .val (.blk 36 xb), .val (.blk 60 xf), .val (.blk 60 xg), .val (.row 51 ⟨.row, w⟩)] => (match K.of .bd xa, K.of .bd xb, K.of .fix xf, K.of .fix xg with
    | some a, some b, some fx, some gx => some ([w = [], i = 0, k7.length ≤ 65536], (⟨k1, k2, k3, k4, k5, k6, k7⟩, a, b, ia, ib, base, s, dt, fx, gx), [])
    | _, _, _, _ => none)
  | _, _ => none
def rrlOk (c : (Fx.Ct) × (Fx.Bd) × (Fx.Bd) × (Int) × (Int) × (Int) × (List Fx.Sb) × (Int) × (Fx.Fix) × (Fx.Fix)) : Prop := c.1.pts.length ≤ 65536
def rrlInv (_c : (Fx.Ct) × (Fx.Bd) × (Fx.Bd) × (Int) × (Int) × (Int) × (List Fx.Sb) × (Int) × (Fx.Fix) × (Fx.Fix)) (i : Nat) (x : (List Fx.Row)) : Prop := x.length ≤ 2 * i
theorem rrlDec_ok (ts : List TV) (ms : List MRes) (ps : List Prop) (c : (Fx.Ct) × (Fx.Bd) × (Fx.Bd) × (Int) × (Int) × (Int) × (List Fx.Sb) × (Int) × (Fx.Fix) × (Fx.Fix)) (x : (List Fx.Row)) (h : rrlDec ts ms = some (ps, c, x)) (hp : Conj ps) : ts = rrlTv c 0 x ∧ ms = rrlMv c 0 x ∧ rrlOk c ∧ rrlInv c 0 x := by
  unfold rrlDec at h
  split at h
  · split at h
    · rename_i a b fx gx ea eb efx egx
      have ea := K.of_eq ea; have eb := K.of_eq eb; have efx := K.of_eq efx; have egx := K.of_eq egx
      cases h
      subst ea; subst eb; subst efx; subst egx
      obtain ⟨rfl, rfl, hok, _⟩ := hp
      exact ⟨rfl, rfl, hok, (Nat.le_refl 0)⟩
    · cases h
  · cases h
def rrlStep (c : (Fx.Ct) × (Fx.Bd) × (Fx.Bd) × (Int) × (Int) × (Int) × (List Fx.Sb) × (Int) × (Fx.Fix) × (Fx.Fix)) (i : Nat) (x : (List Fx.Row)) : (List Fx.Row) := (((x ++ [fX (Fx.crow0 c.2.2.2.1 c.2.2.2.2.1 c.2.1.wc c.2.2.1.wc c.2.2.2.2.2.2.1 (c.1.pts.getD i Fx.cp0).p c.1.n) (c.1.pts.getD i Fx.cp0) (Fx.rest c.2.2.2.2.2.2.2.2.1 c.2.2.2.2.2.2.2.2.2) c.2.2.2.2.2.2.1 c.2.2.2.2.2.2.2.1]) ++ [fY (Fx.crow0 c.2.2.2.1 c.2.2.2.2.1 c.2.1.wc c.2.2.1.wc c.2.2.2.2.2.2.1 (c.1.pts.getD i Fx.cp0).p (Fx.vperp c.1.n)) (c.1.pts.getD i Fx.cp0) (Fx.w64 (c.2.2.2.2.2.1 + Fx.w64 (2 * (i : Int)))) (Fx.fric c.2.2.2.2.2.2.2.2.1 c.2.2.2.2.2.2.2.2.2)]))
def rrlV (c : (Fx.Ct) × (Fx.Bd) × (Fx.Bd) × (Int) × (Int) × (Int) × (List Fx.Sb) × (Int) × (Fx.Fix) × (Fx.Fix)) (i : Nat) (x : (List Fx.Row)) : VT := VT.ite (decide ((i : Int) < (c.1.pts.length : Int))) (VT.pre [0 ≤ (i : Int) ∧ (i : Int) < ((c.1.pts).length : Int)] (VT.pre [(x.length + 1) * 112 ≤ 140737488355328] (VT.pre [((x ++ [fX (Fx.crow0 c.2.2.2.1 c.2.2.2.2.1 c.2.1.wc c.2.2.1.wc c.2.2.2.2.2.2.1 (c.1.pts.getD i Fx.cp0).p c.1.n) (c.1.pts.getD i Fx.cp0) (Fx.rest c.2.2.2.2.2.2.2.2.1 c.2.2.2.2.2.2.2.2.2) c.2.2.2.2.2.2.1 c.2.2.2.2.2.2.2.1]).length + 1) * 112 ≤ 140737488355328] (VT.leaf Ex.norm 122 [.val (I c.2.2.2.1), .val (I c.2.2.2.2.1), .val (I c.2.2.2.2.2.1), .val ((eSl .sb).pv c.2.2.2.2.2.2.1), .val (I c.2.2.2.2.2.2.2.1), .val (.fv (.one (.ref 0 0))), .val (.fv (.one (.ref 1 0))), .val (.fv (.one (.ref 2 0))), .val (.fv (.one (.ref 32 0))), .val (.fv (.one (.ref 33 0))), .val (.fv (.one (.own 118))), .val (I (IntKind.i64.wrap ((i : Int) + 1)))] [.val (.blk 30 (ctG c.1)), .val (.blk 36 (bdG c.2.1)), .val (.blk 36 (bdG c.2.2.1)), .val (.blk 60 (fxG c.2.2.2.2.2.2.2.2.1)), .val (.blk 60 (fxG c.2.2.2.2.2.2.2.2.2)), .lost, .val (.row 51 ⟨.row, ((x ++ [fX (Fx.crow0 c.2.2.2.1 c.2.2.2.2.1 c.2.1.wc c.2.2.1.wc c.2.2.2.2.2.2.1 (c.1.pts.getD i Fx.cp0).p c.1.n) (c.1.pts.getD i Fx.cp0) (Fx.rest c.2.2.2.2.2.2.2.2.1 c.2.2.2.2.2.2.2.2.2) c.2.2.2.2.2.2.1 c.2.2.2.2.2.2.2.1]) ++ [fY (Fx.crow0 c.2.2.2.1 c.2.2.2.2.1 c.2.1.wc c.2.2.1.wc c.2.2.2.2.2.2.1 (c.1.pts.getD i Fx.cp0).p (Fx.vperp c.1.n)) (c.1.pts.getD i Fx.cp0) (Fx.w64 (c.2.2.2.2.2.1 + Fx.w64 (2 * (i : Int)))) (Fx.fric c.2.2.2.2.2.2.2.2.1 c.2.2.2.2.2.2.2.2.2)])⟩)])))) (VT.leaf (Ex.exit 0) 122 [.val (I c.2.2.2.1), .val (I c.2.2.2.2.1), .val (I c.2.2.2.2.2.1), .val ((eSl .sb).pv c.2.2.2.2.2.2.1), .val (I c.2.2.2.2.2.2.2.1), .val (.fv (.one (.ref 0 0))), .val (.fv (.one (.ref 1 0))), .val (.fv (.one (.ref 2 0))), .val (.fv (.one (.ref 32 0))), .val (.fv (.one (.ref 33 0))), .val (.fv (.one (.own 36))), .val (I (i : Int))] [.val (.blk 30 (ctG c.1)), .val (.blk 36 (bdG c.2.1)), .val (.blk 36 (bdG c.2.2.1)), .val (.blk 60 (fxG c.2.2.2.2.2.2.2.2.1)), .val (.blk 60 (fxG c.2.2.2.2.2.2.2.2.2)), .val (.row 51 ⟨.row, x⟩), .free])
theorem rrlV_eq (c : (Fx.Ct) × (Fx.Bd) × (Fx.Bd) × (Int) × (Int) × (Int) × (List Fx.Sb) × (Int) × (Fx.Fix) × (Fx.Fix)) (i : Nat) (x : (List Fx.Row)) : viewT [3, 4, 5, 6, 7, 8, 9, 10, 17, 18, 19, 20] [0, 1, 2, 32, 33, 36, 118] (sexec Tryz.prog (tbl rrlL) (noLps) (lbN 0 Tryz.f7) (headSt 122 38 [3, 4, 5, 6, 7, 8, 9, 10, 17, 18, 19, 20] [0, 1, 2, 32, 33, 36] (rrlTv c i x) (rrlMv c i x))) = rrlV c i x := by kernel_rfl
noncomputable def rrlT : St → Tree := forT0 122 38 [3, 4, 5, 6, 7, 8, 9, 10, 17, 18, 19, 20] [0, 1, 2, 32, 33, 36] rrlDec (fun c => c.1.pts.length) rrlTv rrlMv rrlStep 0
theorem rrlA : AllSound Tryz.prog rrlL := (.cons rBrw (.cons rBis (.cons rVperp (.cons rRes (.cons rFri .nil)))))
theorem rrlLoop : LoopOk Tryz.prog rrlT (lbN 0 Tryz.f7) :=
  forT0_ok mixed rrlA.tbl (noLoops (by kernel_rfl)) [0, 1, 2, 32, 33, 36, 118] (bn := fun c => True) (inv := rrlInv) rrlDec_ok (fun _ _ => ⟨⟨.inr rfl, .inr rfl, .inr rfl, .inr rfl, .inr rfl, .inr rfl, .inr rfl, .inr rfl, .inr rfl, .inr rfl, .inr rfl, .inr rfl, trivial⟩, ⟨.inr rfl, .inr rfl, .inr rfl, .inr rfl, .inr rfl, .inr rfl, trivial⟩, rfl, rfl, rfl⟩)
    (fun _ _ _ _ _ _ hr h1 h2 => by
      trivial)
    (fun c i x hok hn hinv hi => ⟨_, rrlV_eq c i x, by
      refine ⟨fun h => ?_, fun h => ?_⟩
      · have h : i < c.1.pts.length := by simpa using h
        refine ⟨⟨⟨by omega, by first | omega | (have := h; omega)⟩, trivial⟩, ?_⟩
        refine ⟨(have h1 : x.length ≤ 2 * i := hinv; have h2 : c.1.pts.length ≤ 65536 := hok; ⟨by omega, trivial⟩), ?_⟩
        refine ⟨(have h1 : x.length ≤ 2 * i := hinv; have h2 : c.1.pts.length ≤ 65536 := hok; ⟨by rw [List.length_append]; simp only [List.length_cons, List.length_nil]; omega, trivial⟩), ?_⟩
        rw [wrap_succ h (by have h2 : c.1.pts.length ≤ 65536 := hok; simp only [maxLen]; omega)]
        exact ⟨rfl, (((x ++ [fX (Fx.crow0 c.2.2.2.1 c.2.2.2.2.1 c.2.1.wc c.2.2.1.wc c.2.2.2.2.2.2.1 (c.1.pts.getD i Fx.cp0).p c.1.n) (c.1.pts.getD i Fx.cp0) (Fx.rest c.2.2.2.2.2.2.2.2.1 c.2.2.2.2.2.2.2.2.2) c.2.2.2.2.2.2.1 c.2.2.2.2.2.2.2.1]) ++ [fY (Fx.crow0 c.2.2.2.1 c.2.2.2.2.1 c.2.1.wc c.2.2.1.wc c.2.2.2.2.2.2.1 (c.1.pts.getD i Fx.cp0).p (Fx.vperp c.1.n)) (c.1.pts.getD i Fx.cp0) (Fx.w64 (c.2.2.2.2.2.1 + Fx.w64 (2 * (i : Int)))) (Fx.fric c.2.2.2.2.2.2.2.2.1 c.2.2.2.2.2.2.2.2.2)])), [(36, 118)], h, by unfold rrlStep; rfl, (by have h1 : x.length ≤ 2 * i := hinv; show ((x ++ [_]) ++ [_]).length ≤ 2 * (i + 1); rw [List.length_append, List.length_append]; simp only [List.length_cons, List.length_nil]; omega), ⟨.inr rfl, .inr rfl, .inr rfl, .inr rfl, .inr rfl, .inr rfl, .inr rfl, .inr rfl, .inr rfl, .inr rfl, .inr rfl, .inr rfl, trivial⟩, ⟨.inr rfl, .inr rfl, .inr rfl, .inr rfl, .inr rfl, .inr rfl, trivial⟩, rfl, rfl, rfl⟩
      · have h : ¬ i < c.1.pts.length := by simpa using h
        exact ⟨rfl, .inl ⟨rfl, by omega, [], ⟨.inr rfl, .inr rfl, .inr rfl, .inr rfl, .inr rfl, .inr rfl, .inr rfl, .inr rfl, .inr rfl, .inr rfl, .inr rfl, .inr rfl, trivial⟩, ⟨.inr rfl, .inr rfl, .inr rfl, .inr rfl, .inr rfl, .inr rfl, trivial⟩, rfl, rfl, rfl⟩⟩⟩)
def rrows (c : Fx.Ct) (a b : Fx.Bd) (ia ib base : Int) (s : List Fx.Sb) (dt : Int) : List Fx.Row :=
  bif orr (!Fx.fxHas a c.fa) (!Fx.fxHas b c.fb) then [] else foldN (rrlStep (c, a, b, ia, ib, base, s, dt, a.fixtures.getD c.fa.toNat Fx.fix0, b.fixtures.getD c.fb.toNat Fx.fix0)) c.pts.length 0 []
def rrowsQ (c : Fx.Ct) (a b : Fx.Bd) (_ia _ib _base : Int) (_s : List Fx.Sb) (_dt : Int) : List Prop := [orr (!Fx.fxHas a c.fa) (!Fx.fxHas b c.fb) = false → 0 ≤ c.fa ∧ c.fa < (a.fixtures.length : Int), orr (!Fx.fxHas a c.fa) (!Fx.fxHas b c.fb) = false → 0 ≤ c.fb ∧ c.fb < (b.fixtures.length : Int), orr (!Fx.fxHas a c.fa) (!Fx.fxHas b c.fb) = false → ([] : List Fx.Row) = [], orr (!Fx.fxHas a c.fa) (!Fx.fxHas b c.fb) = false → (0 : Int) = 0, orr (!Fx.fxHas a c.fa) (!Fx.fxHas b c.fb) = false → c.pts.length ≤ 65536]
theorem has_in {b : Fx.Bd} {i : Int} (h : (!Fx.fxHas b i) = false) : Fx.fxOut b i = false := by
  rw [Fx.fxHas_eq] at h
  revert h
  cases Fx.fxOut b i <;> simp
theorem rrowsQ_ok (c : Fx.Ct) (a b : Fx.Bd) (ia ib base : Int) (s : List Fx.Sb) (dt : Int) (h : c.pts.length ≤ 65536) : Conj (rrowsQ c a b ia ib base s dt) :=
  ⟨fun g => Fx.fxOut_no (has_in (Fx.of_orr g).1), fun g => Fx.fxOut_no (has_in (Fx.of_orr g).2), fun _ => rfl, fun _ => rfl, fun _ => h, trivial⟩
theorem fx_res {b : Fx.Bd} {i : Int} (h : Fx.fxOut b i = false) : (vless (Fx.fxAt b i).1).res = (b.fixtures.getD i.toNat Fx.fix0).res ∧ (vless (Fx.fxAt b i).1).fri = (b.fixtures.getD i.toNat Fx.fix0).fri := by
  constructor
  · show (bif Fx.fxOut b i then Fx.fix0.res else (b.fixtures.getD i.toNat Fx.fix0).res) = _
    rw [h]; rfl
  · show (bif Fx.fxOut b i then Fx.fix0.fri else (b.fixtures.getD i.toNat Fx.fix0).fri) = _
    rw [h]; rfl
theorem bias_eq (q : Fx.Pr) (r : Fx.Row) (p : Fx.Cp) (re dt : Int) : rbias r p re q.s dt = Fx.cbias q r p.sep re dt := by
  unfold rbias Fx.cbias
  by_cases h : p.sep < 0
  · have h2 : ¬ p.sep ≥ 0 := by omega
    rw [decide_eq_true h, decide_eq_false h2]; rfl
  · have h2 : p.sep ≥ 0 := by omega
    rw [decide_eq_false h, decide_eq_true h2]; rfl
theorem fX_eq (q : Fx.Pr) (n : Fx.Vec) (re dt : Int) (p : Fx.Cp) : fX (Fx.crow0 q.ia q.ib q.ca q.cb q.s p.p n) p re q.s dt = Fx.cnrm q n re dt p := by
  unfold fX
  rw [bias_eq]
  rfl
theorem fY_eq (q : Fx.Pr) (u : Fx.Vec) (fo fr : Int) (p : Fx.Cp) : fY (Fx.crow0 q.ia q.ib q.ca q.cb q.s p.p u) p fo fr = Fx.cside q u fo fr p := rfl
theorem rrl_fold (c : Fx.Ct) (a b : Fx.Bd) (ia ib base : Int) (s : List Fx.Sb) (dt : Int) (o1 : Fx.fxOut a c.fa = false) (o2 : Fx.fxOut b c.fb = false) : ∀ (n i : Nat) (l : List Fx.Row), l.length = 2 * i → i + n ≤ 4 →
    foldN (rrlStep (c, a, b, ia, ib, base, s, dt, a.fixtures.getD c.fa.toNat Fx.fix0, b.fixtures.getD c.fb.toNat Fx.fix0)) n i l = foldN (crlStep (cCC c a b ia ib base s dt)) n i l
  | 0, _, _, _, _ => rfl
  | n + 1, i, l, hl, hn => by
    have hfri : Fx.fric (vless (Fx.fxAt a c.fa).1) (vless (Fx.fxAt b c.fb).1) = Fx.fric (a.fixtures.getD c.fa.toNat Fx.fix0) (b.fixtures.getD c.fb.toNat Fx.fix0) := by
      unfold Fx.fric
      rw [(fx_res o1).2, (fx_res o2).2]
    have hres : Fx.rest (vless (Fx.fxAt a c.fa).1) (vless (Fx.fxAt b c.fb).1) = Fx.rest (a.fixtures.getD c.fa.toNat Fx.fix0) (b.fixtures.getD c.fb.toNat Fx.fix0) := by
      unfold Fx.rest
      rw [(fx_res o1).1, (fx_res o2).1]
    have e1 : crlStep (cCC c a b ia ib base s dt) i l = l ++ [nrmAt (cCC c a b ia ib base s dt) i, sidAt (cCC c a b ia ib base s dt) i] := by
      show l ++ [_, Fx.cside _ _ (Fx.w64 (base + (l.length : Int))) _ _] = _
      rw [hl]; rfl
    have e2 : rrlStep (c, a, b, ia, ib, base, s, dt, a.fixtures.getD c.fa.toNat Fx.fix0, b.fixtures.getD c.fb.toNat Fx.fix0) i l = l ++ [nrmAt (cCC c a b ia ib base s dt) i, sidAt (cCC c a b ia ib base s dt) i] := by
      have x1 : fX (Fx.crow0 ia ib a.wc b.wc s (c.pts.getD i Fx.cp0).p c.n) (c.pts.getD i Fx.cp0) (Fx.rest (a.fixtures.getD c.fa.toNat Fx.fix0) (b.fixtures.getD c.fb.toNat Fx.fix0)) s dt = nrmAt (cCC c a b ia ib base s dt) i := by
        rw [← hres]
        exact fX_eq ⟨ia, ib, a.wc, b.wc, s⟩ c.n _ dt (c.pts.getD i Fx.cp0)
      have x2 : fY (Fx.crow0 ia ib a.wc b.wc s (c.pts.getD i Fx.cp0).p (Fx.vperp c.n)) (c.pts.getD i Fx.cp0) (Fx.w64 (base + Fx.w64 (2 * (i : Int)))) (Fx.fric (a.fixtures.getD c.fa.toNat Fx.fix0) (b.fixtures.getD c.fb.toNat Fx.fix0)) = sidAt (cCC c a b ia ib base s dt) i := by
        rw [← hfri, Fx.w64_id (n := 2 * (i : Int)) (by omega) (by omega), show 2 * (i : Int) = ((2 * i : Nat) : Int) from by omega]
        exact fY_eq ⟨ia, ib, a.wc, b.wc, s⟩ (Fx.vperp c.n) _ _ (c.pts.getD i Fx.cp0)
      show (l ++ [fX (Fx.crow0 ia ib a.wc b.wc s (c.pts.getD i Fx.cp0).p c.n) (c.pts.getD i Fx.cp0) (Fx.rest (a.fixtures.getD c.fa.toNat Fx.fix0) (b.fixtures.getD c.fb.toNat Fx.fix0)) s dt]) ++ [fY (Fx.crow0 ia ib a.wc b.wc s (c.pts.getD i Fx.cp0).p (Fx.vperp c.n)) (c.pts.getD i Fx.cp0) (Fx.w64 (base + Fx.w64 (2 * (i : Int)))) (Fx.fric (a.fixtures.getD c.fa.toNat Fx.fix0) (b.fixtures.getD c.fb.toNat Fx.fix0))] = _
      rw [x1, x2, List.append_assoc]
      rfl
    show foldN _ n (i + 1) (rrlStep _ i l) = foldN _ n (i + 1) (crlStep _ i l)
    rw [e2, e1]
    exact rrl_fold c a b ia ib base s dt o1 o2 n (i + 1) _ (by rw [List.length_append, hl]; rfl) (by omega)
theorem rrows_eq (c : Fx.Ct) (a b : Fx.Bd) (ia ib base : Int) (s : List Fx.Sb) (dt : Int) (hc : c.pts.length ≤ 4) : rrows c a b ia ib base s dt = crows c a b ia ib base s dt := by
  have h2 : ∀ (x : Fx.Bd) (i : Int), (Fx.fxAt x i).2 = Fx.fxHas x i := fun x i => by
    rw [Fx.fxHas_eq]
    show (bif Fx.fxOut x i then false else true) = _
    cases Fx.fxOut x i <;> rfl
  have hk : cok c a b = !orr (!Fx.fxHas a c.fa) (!Fx.fxHas b c.fb) := by
    unfold cok
    rw [h2, h2]
  unfold rrows
  cases h : orr (!Fx.fxHas a c.fa) (!Fx.fxHas b c.fb) with
  | true =>
    rw [h] at hk
    rw [crows_no hk]; rfl
  | false =>
    rw [h] at hk
    obtain ⟨g1, g2⟩ := Fx.of_orr h
    rw [crows_yes hk, cond_false]
    exact rrl_fold c a b ia ib base s dt (has_in g1) (has_in g2) c.pts.length 0 [] rfl (by omega)
theorem rCtr : Sound Tryz.prog 7 (p8 eCt eBd eBd eI eI eI (eSl .sb) eI (eFr 51 .row) (fun c _ _ _ _ _ _ _ => [c.pts.length ≤ 65536]) rrows) :=
  con (lps := fun _ => rrlT) mixed (AllSound.cons rHas .nil) Tryz.func7 (by kernel_rfl) (by kernel_rfl) (oneLoop (lps := fun _ => rrlT) (b := (lbN 0 Tryz.f7)) (by kernel_rfl) rrlLoop) (g8 rrowsQ rrows (fun c a b ia ib base s dt h => rrowsQ_ok c a b ia ib base s dt h.1) (fun _ _ _ _ _ _ _ _ _ => rfl) (fun _ _ _ _ _ _ _ _ => by kernel_rfl))
section
variable (sm : Fx.Ct → Fx.Bd × Fx.Bd → Bool) (rows rrow : Fx.Ct → Fx.Bd → Fx.Bd → Int → Int → Int → List Fx.Sb → Int → List Fx.Row) (req : List Fx.Row → List Fx.Row → Bool) (c : Fx.Ct) (p : Fx.Bd × Fx.Bd) (n : Int × Int × Int) (s : List Fx.Sb) (dt : Int)
def crG : Bool := orr (orr (orr (!(sm c p)) (decide ((s.length : Int) > 8))) (decide (n.2.2 < 0))) (decide (n.2.2 ≥ 2147483648))
def crU : Bool := bif crG sm c p n s then true else an (req (rows c p.1 p.2 n.1 n.2.1 n.2.2 s dt) (rrow c p.1 p.2 n.1 n.2.1 n.2.2 s dt)) true
def crQ : List Prop := [crG sm c p n s = false → c.pts.length ≤ 65536, crG sm c p n s = false → c.pts.length ≤ 65536]
theorem crEq : symFn Tryz.prog (tbl [(4, c2 eCt eBB eB sm), (6, p8 eCt eBd eBd eI eI eI (eSl .sb) eI (eFr 51 .row) (fun c _ _ _ _ _ _ _ => [c.pts.length ≤ 65536]) rows), (7, p8 eCt eBd eBd eI eI eI (eSl .sb) eI (eFr 51 .row) (fun c _ _ _ _ _ _ _ => [c.pts.length ≤ 65536]) rrow), (8, c2 (eSl .row) (eSl .row) eB req), (5, c0 eB true)]) noLps 3 [eCt.pv c, eBB.pv p, eI3.pv n, (eSl .sb).pv s, eI.pv dt] = some (crQ sm c p n s, eB.pv (crU sm rows rrow req c p n s dt)) := by kernel_rfl
end
theorem crG_no {c : Fx.Ct} {p : Fx.Bd × Fx.Bd} {n : Int × Int × Int} {s : List Fx.Sb} (h : crG sm29 c p n s = false) : c.pts.length ≤ 4 := by
  have h1 := (Fx.of_orr (Fx.of_orr (Fx.of_orr h).1).1).1
  have h0 : sm29 c p = true := by simpa using h1
  exact sm29_len h0
theorem crU_true (c : Fx.Ct) (p : Fx.Bd × Fx.Bd) (n : Int × Int × Int) (s : List Fx.Sb) (dt : Int) : crU sm29 crows rrows Fx.rowsEq c p n s dt = true := by
  unfold crU
  cases hG : crG sm29 c p n s with
  | true => rfl
  | false =>
    rw [rrows_eq _ _ _ _ _ _ _ _ (crG_no hG), Fx.rowsEq_self]
    rfl
theorem crQ_ok (c : Fx.Ct) (p : Fx.Bd × Fx.Bd) (n : Int × Int × Int) (s : List Fx.Sb) : Conj (crQ sm29 c p n s) :=
  ⟨fun hG => by have := crG_no hG; omega, fun hG => by have := crG_no hG; omega, trivial⟩
theorem lContactRows : Sound Tryz.prog 3 (c5 eCt eBB eI3 (eSl .sb) eI eB (fun _ _ _ _ _ => true)) :=
  con (lps := noLps) mixed (AllSound.cons cSm29 (.cons cCtr (.cons rCtr (.cons rReq29 (.cons cEx29 .nil))))) Tryz.func3 (by kernel_rfl) (by kernel_rfl) (noLoops (by kernel_rfl))
    (g5 (fun c p n s _ => crQ sm29 c p n s) (fun c p n s dt => crU sm29 crows rrows Fx.rowsEq c p n s dt) (fun c p n s _ _ => crQ_ok c p n s) (fun c p n s dt _ => crU_true c p n s dt) (fun c p n s dt => crEq sm29 crows rrows Fx.rowsEq c p n s dt))
theorem aContactRows : ∀ vs, ArgsAre Tryz.prog 8 [30, 37, 38, 39, 3] vs → ∃ ps, (c5 eCt eBB eI3 (eSl .sb) eI eB (fun _ _ _ _ _ => true)) vs = some (ps, .fv (.one (.bool true))) ∧ Conj ps := by
  intro vs h0
  obtain ⟨x0, r, rfl, h1⟩ := args_Ct (by kernel_rfl) (by kernel_rfl) h0
  obtain ⟨x1, r, rfl, h2⟩ := args_BB (by kernel_rfl) (by kernel_rfl) h1
  obtain ⟨x2, r, rfl, h3⟩ := args_I3 (by kernel_rfl) (by kernel_rfl) h2
  obtain ⟨x3, r, rfl, h4⟩ := args_Slsb (by kernel_rfl) (by kernel_rfl) h3
  obtain ⟨x4, r, rfl, lo4, hi4, h5⟩ := args_int (k := .i64) (by kernel_rfl) (by kernel_rfl) h4
  obtain rfl := args_nil h5
  exact ⟨_, rfl, trivial⟩
set_option maxRecDepth 100000 in
theorem liftedContactRows (os : Os) (started : os.Started) (H : Type) (enc : TypeId × Value → H) :
    ReturnsInHanded {} Tryz.checked os 3 .any (Rows.contactRowsSpec.pre6 enc Tryz.prog Tryz.f3 Rows.contactRowsRow.domain false) (Rows.contactRowsSpec.post enc Tryz.prog Tryz.f3 false true false false) := by
  refine returnsInHanded_of_change (C := Tryz.checked) own started (by kernel_rfl) Tryz.func3 (ChangeSpec.witness6 (enc := enc) (C := Tryz.checked) false ⟨#[], #[.agg #[.int .i64 0, .int .i64 0, .int .i64 0, .int .i64 0, .int .i64 0, .int .i64 0, .slice none 0 0], .agg #[.int .i64 0, .int .i64 0, .int .i64 0, .int .i64 0, .int .i64 0, .int .i64 0, .int .i64 0, .int .i64 0, .int .i64 0, .int .i64 0, .int .i64 0, .int .i64 0, .int .i64 0, .int .i64 0, .bool false, .bool false, .bool false, .bool false, .int .i64 0, .slice none 0 0, .int .i64 0, .int .i64 0, .int .i64 0, .int .i64 0, .int .i64 0, .int .i64 0, .int .i64 0, .int .i64 0, .int .i64 0, .int .i64 0, .int .i64 0, .int .i64 0, .int .i64 0, .int .i64 0, .bool false, .bool false, .bool false, .bool false, .int .i64 0, .slice none 0 0], .agg #[.int .i64 0, .int .i64 0, .int .i64 0], .slice none 0 0, .int .i64 0], []⟩ 8 (by kernel_rfl) (by kernel_rfl) (by kernel_rfl) (by kernel_rfl)) ?_
  intro W base args ds gs before hval hW _ _
  exact law_contract (D := 8) (by kernel_rfl) (of_allOk (by kernel_rfl)) (tb := 4) (by kernel_rfl) (by kernel_rfl) rfl (fun ds h => by
    have h : ds.length = 5 := h
    match ds, h with
    | [d0, d1, d2, d3, d4], _ => rfl) lContactRows aContactRows W base args ds gs before hval hW

theorem contactRows_holds : Rows.ContactRowsSaid :=
  OpenClaim.holds_of_wide 3 Tryz.f3 rfl rfl rfl rfl rfl rfl rfl ⟨rfl, rfl, rfl, rfl, rfl⟩ rfl rfl rfl rfl rfl (by kernel_rfl) Tryz.func3 (by kernel_rfl)
    (of_decide_eq_true (by kernel_rfl)) (by unfold Func.isWrapper; first | (rw [if_pos (by decide +kernel)]; kernel_rfl) | (rw [if_neg (by decide +kernel)]; exact ⟨rfl, rfl⟩))
    (fun os started H enc _ => liftedContactRows os started H enc)

end Go.Proofs.YtfjognghjiifaaaGreat
