/- The contracts of contacts' rows, program and reference. -/
import Derived.Test.YtfjognghjiifaaaGreatSm3
import Derived.Test.YtfjognghjiifaaaGreatSol
import Derived.Test.YtfjognghjiifaaaGreatEngCt
open Go Go.Eng
namespace Go.Proofs.YtfjognghjiifaaaGreat
open Go.Fx (an orr)

theorem cSqrt : Sound Tryz.prog 29 (c1 eI eI Fx.sqrt1) :=
  con (lps := noLps) mixed (.cons cSat (.cons cIsqrt .nil)) Tryz.func29 (by kernel_rfl) (by kernel_rfl) (noLoops (by kernel_rfl)) (k1 (fun _ => by kernel_rfl))
theorem rSqrt : Sound Tryz.prog 51 (c1 eI eI Fx.sqrt1) :=
  con (lps := noLps) mixed (.cons rSat (.cons rIsqrt .nil)) Tryz.func51 (by kernel_rfl) (by kernel_rfl) (noLoops (by kernel_rfl)) (g1 (fun _ => []) Fx.sqrt1R (fun _ _ => trivial) (fun x _ => Fx.sqrt1R_eq x) (fun _ => by kernel_rfl))
theorem cFriEq (x y : Fx.Fix × Bool) : symFn Tryz.prog (tbl [(29, c1 eI eI Fx.sqrt1), (30, f2 Fx.mul)]) noLps 16 [eFxW.pv x, eFxW.pv y] = some ([], eI.pv (Fx.fric x.1 y.1)) := by
  obtain ⟨x, p⟩ := x; obtain ⟨y, q⟩ := y
  cases p <;> cases q <;> kernel_rfl
theorem cFri : Sound Tryz.prog 16 (c2 eFxW eFxW eI (fun x y => Fx.fric x.1 y.1)) :=
  con (lps := noLps) mixed (.cons cSqrt (.cons cMul .nil)) Tryz.func16 (by kernel_rfl) (by kernel_rfl) (noLoops (by kernel_rfl)) (k2 cFriEq)
theorem rFriEq (x y : Fx.Fix × Bool) : symFn Tryz.prog (tbl [(51, c1 eI eI Fx.sqrt1), (49, f2 Fx.mul)]) noLps 27 [eFxW.pv x, eFxW.pv y] = some ([], eI.pv (Fx.fric x.1 y.1)) := by
  obtain ⟨x, p⟩ := x; obtain ⟨y, q⟩ := y
  cases p <;> cases q <;> kernel_rfl
theorem rFri : Sound Tryz.prog 27 (c2 eFxW eFxW eI (fun x y => Fx.fric x.1 y.1)) :=
  con (lps := noLps) mixed (.cons rSqrt (.cons rMul .nil)) Tryz.func27 (by kernel_rfl) (by kernel_rfl) (noLoops (by kernel_rfl)) (k2 rFriEq)
theorem cResEq (x y : Fx.Fix × Bool) : symFn Tryz.prog (tbl []) noLps 15 [eFxW.pv x, eFxW.pv y] = some ([], eI.pv (Fx.rest x.1 y.1)) := by
  obtain ⟨x, p⟩ := x; obtain ⟨y, q⟩ := y
  cases p <;> cases q <;> kernel_rfl
theorem cRes : Sound Tryz.prog 15 (c2 eFxW eFxW eI (fun x y => Fx.rest x.1 y.1)) :=
  con (lps := noLps) mixed .nil Tryz.func15 (by kernel_rfl) (by kernel_rfl) (noLoops (by kernel_rfl)) (k2 cResEq)
theorem rResEq (x y : Fx.Fix × Bool) : symFn Tryz.prog (tbl []) noLps 25 [eFxW.pv x, eFxW.pv y] = some ([], eI.pv (Fx.rest x.1 y.1)) := by
  obtain ⟨x, p⟩ := x; obtain ⟨y, q⟩ := y
  cases p <;> cases q <;> kernel_rfl
theorem rRes : Sound Tryz.prog 25 (c2 eFxW eFxW eI (fun x y => Fx.rest x.1 y.1)) :=
  con (lps := noLps) mixed .nil Tryz.func25 (by kernel_rfl) (by kernel_rfl) (noLoops (by kernel_rfl)) (k2 rResEq)
theorem cFxt : Sound Tryz.prog 17 (c2 eBd eI eFxB Fx.fxAt) :=
  con (lps := noLps) mixed .nil Tryz.func17 (by kernel_rfl) (by kernel_rfl) (noLoops (by kernel_rfl)) (g2 Fx.fxtQ Fx.fxAt (fun b i _ => Fx.fxtQ_ok b i) (fun _ _ _ => rfl) (fun _ _ => by kernel_rfl))
theorem rHas : Sound Tryz.prog 22 (c2 eBd eI eB Fx.fxHas) :=
  con (lps := noLps) mixed .nil Tryz.func22 (by kernel_rfl) (by kernel_rfl) (noLoops (by kernel_rfl)) (k2 (fun _ _ => by kernel_rfl))
theorem cRowM : Sound Tryz.prog 20 (c3 ePr eV eV eRw Fx.crow) :=
  con (lps := noLps) mixed (.cons cVcross (.cons cVsub (.cons cEff .nil))) Tryz.func20 (by kernel_rfl) (by kernel_rfl) (noLoops (by kernel_rfl)) (k3 (fun _ _ _ => by kernel_rfl))
theorem cBia : Sound Tryz.prog 21 (c5 ePr eRw eI eI eI eI Fx.cbias) :=
  con (lps := noLps) mixed (.cons cDiv (.cons cCorr (.cons cAdd (.cons cRelV (.cons cMul .nil))))) Tryz.func21 (by kernel_rfl) (by kernel_rfl) (noLoops (by kernel_rfl)) (k5 (fun _ _ _ _ _ => by kernel_rfl))
theorem cImp : Sound Tryz.prog 28 (c3 (eSl .row) eI eI eI Fx.rimp) :=
  con (lps := noLps) mixed .nil Tryz.func28 (by kernel_rfl) (by kernel_rfl) (noLoops (by kernel_rfl)) (g3 Fx.rimpQ Fx.rimp (fun l i p _ => Fx.rimpQ_ok l i p) (fun _ _ _ _ => rfl) (fun _ _ _ => by kernel_rfl))
noncomputable def nngL : List (FuncId × Contract) := []
def nngTv (c : (List Fx.Row)) (i : Nat) (_x : Unit) : List TV := [.val (Bo false), .val ((eSl .row).pv c), .val (I c.length), .val (I (i : Int))]
def nngMv (_c : (List Fx.Row)) (_i : Nat) (_x : Unit) : List MRes := []
def nngEtv (_c : (List Fx.Row)) (_e : Unit) : List TV := [.val (Bo false), .any, .any, .any]
def nngEmv (_c : (List Fx.Row)) (_e : Unit) : List MRes := []
def nngDec : List TV → List MRes → Option (List Prop × ((List Fx.Row)) × (Unit))
  | [.val (Bo b), .val (.fv (.one (.slc false ⟨.row, l⟩))), .val (I m), .val (I i)], [] => some ([b = false, m = l.length, i = 0], l, ())
  | _, _ => none
def nngOk (_c : (List Fx.Row)) : Prop := True
def nngInv (_c : (List Fx.Row)) (_i : Nat) (_x : Unit) : Prop := True
theorem nngDec_ok (ts : List TV) (ms : List MRes) (ps : List Prop) (c : (List Fx.Row)) (x : Unit) (h : nngDec ts ms = some (ps, c, x)) (hp : Conj ps) : ts = nngTv c 0 x ∧ ms = nngMv c 0 x ∧ nngOk c ∧ nngInv c 0 x := by
  unfold nngDec at h
  split at h
  · cases h
    obtain ⟨rfl, rfl, rfl, _⟩ := hp
    exact ⟨rfl, rfl, trivial, trivial⟩
  · cases h
def nngStep (c : (List Fx.Row)) (i : Nat) (_x : Unit) : Sum (Unit) (Unit) := bif Fx.nnBad (c.getD i Fx.row0) then .inr () else .inl ()
def nngV (c : (List Fx.Row)) (i : Nat) (_x : Unit) : VT := VT.ite (decide ((i : Int) < (c.length : Int))) (VT.pre [0 ≤ (i : Int) ∧ (i : Int) < ((c).length : Int)] (VT.ite (Fx.nnBad (c.getD i Fx.row0)) (VT.leaf (Ex.ret) 25 [.val (Bo false), .val ((eSl .row).pv c), .val (I c.length), .val (I (i : Int))] []) (VT.leaf Ex.norm 25 [.val (Bo false), .val ((eSl .row).pv c), .val (I c.length), .val (I (IntKind.i64.wrap ((i : Int) + 1)))] []))) (VT.leaf (Ex.exit 0) 25 [.val (Bo false), .val ((eSl .row).pv c), .val (I c.length), .val (I (i : Int))] [])
theorem nngV_eq (c : (List Fx.Row)) (i : Nat) (x : Unit) : viewT [2, 5, 6, 7] [] (sexec Tryz.prog (tbl nngL) (noLps) (lbN 0 Tryz.f14) (headSt 25 4 [2, 5, 6, 7] [] (nngTv c i x) (nngMv c i x))) = nngV c i x := by kernel_rfl
noncomputable def nngT : St → Tree := forT 25 4 [2, 5, 6, 7] [] nngDec (fun c => c.length) nngTv nngMv nngEtv nngEmv nngStep () 0 .ret
theorem nngA : AllSound Tryz.prog nngL := .nil
theorem nngLoop : LoopOk Tryz.prog nngT (lbN 0 Tryz.f14) :=
  forT_ok mixed nngA.tbl (noLoops (by kernel_rfl)) [] (bn := fun c => c.length ≤ maxLen) (inv := nngInv) nngDec_ok (fun _ _ => ⟨⟨.inr rfl, .inr rfl, .inr rfl, .inr rfl, trivial⟩, trivial, rfl, rfl, rfl⟩)
    (fun _ _ _ _ _ _ hr h1 h2 => by
      simp only [List.map_cons, nngTv, List.cons.injEq] at h1; exact len_le hr h1.2.1)
    (fun c i x hok hn hinv hi => ⟨_, nngV_eq c i x, by
      refine ⟨fun h => ?_, fun h => ?_⟩
      · have h : i < c.length := by simpa using h
        refine ⟨⟨⟨by omega, by first | omega | (have := h; omega)⟩, trivial⟩, ?_⟩
        refine ⟨fun hb2 => ?_, fun hb2 => ?_⟩
        · exact ⟨rfl, .inr ⟨rfl, h, (), [], by unfold nngStep; first | rfl | ((try dsimp only); (try rw [hb2]); rfl), ⟨.inr rfl, .inl rfl, .inl rfl, .inl rfl, trivial⟩, trivial, rfl, rfl, rfl⟩⟩
        · rw [wrap_succ h hn]
          exact ⟨rfl, (), [], h, by unfold nngStep; first | rfl | ((try dsimp only); (try rw [hb2]); rfl), trivial, ⟨.inr rfl, .inr rfl, .inr rfl, .inr rfl, trivial⟩, trivial, rfl, rfl, rfl⟩
      · have h : ¬ i < c.length := by simpa using h
        exact ⟨rfl, .inl ⟨rfl, by omega, [], ⟨.inr rfl, .inr rfl, .inr rfl, .inr rfl, trivial⟩, trivial, rfl, rfl, rfl⟩⟩⟩)
def nngQ (l : List Fx.Row) : List Prop := [false = false, (l.length : Int) = l.length, (0 : Int) = 0]
theorem cNng : Sound Tryz.prog 14 (c1 (eSl .row) eB Fx.nonNeg) :=
  con (lps := fun _ => nngT) mixed .nil Tryz.func14 (by kernel_rfl) (by kernel_rfl) (oneLoop (lps := fun _ => nngT) (b := (lbN 0 Tryz.f14)) (by kernel_rfl) nngLoop) (g1 nngQ Fx.nonNeg (fun _ _ => ⟨rfl, rfl, rfl, trivial⟩) (fun _ _ => rfl) (fun _ => by kernel_rfl))
noncomputable def crlL : List (FuncId × Contract) := [(20, c3 ePr eV eV eRw Fx.crow), (21, c5 ePr eRw eI eI eI eI Fx.cbias)]
def crlTv (c : (Fx.Ct) × (Fx.Pr) × (Fx.Vec) × (Int) × (Int) × (Int) × (Int) × (List Fx.Cp)) (i : Nat) (_x : (List Fx.Row)) : List TV := [.val (I c.2.2.2.1), .val (I c.2.2.2.2.1), .val (.fv (.one (.ref 0 0))), .val (.fv (.one (.ref 40 0))), .val (I c.2.2.2.2.2.1), .val (I c.2.2.2.2.2.2.1), .val (.fv (.one (.ref 54 0))), .val (.fv (.one (.own 56))), .val ((eSl .cp).pv c.2.2.2.2.2.2.2), .val (I c.2.2.2.2.2.2.2.length), .val (I (i : Int))]
def crlMv (c : (Fx.Ct) × (Fx.Pr) × (Fx.Vec) × (Int) × (Int) × (Int) × (Int) × (List Fx.Cp)) (_i : Nat) (x : (List Fx.Row)) : List MRes := [.val (.blk 30 (ctG c.1)), .val (.blk 65 (prG c.2.1)), .val (.blk 25 [.int .i64 c.2.2.1.x, .int .i64 c.2.2.1.y]), .val (.row 51 ⟨.row, x⟩)]
def crlDec : List TV → List MRes → Option (List Prop × ((Fx.Ct) × (Fx.Pr) × (Fx.Vec) × (Int) × (Int) × (Int) × (Int) × (List Fx.Cp)) × ((List Fx.Row)))
  | [.val (I base), .val (I dt), .val (.fv (.one (.ref 0 0))), .val (.fv (.one (.ref 40 0))), .val (I fr), .val (I re), .val (.fv (.one (.ref 54 0))), .val (.fv (.one (.own 56))), .val (.fv (.one (.slc false ⟨.cp, pts⟩))), .val (I m), .val (I i)], [.val (.blk 30 [.int .i64 k1, .int .i64 k2, .int .i64 k3, .int .i64 k4, .int .i64 k5, .int .i64 k6, .slc false ⟨.cp, k7⟩]), .val (.blk 65 [.int .i64 p1, .int .i64 p2, .int .i64 p3, .int .i64 p4, .int .i64 p5, .int .i64 p6, .slc false ⟨.sb, p7⟩]), .val (.blk 25 [.int .i64 u1, .int .i64 u2]), .val (.row 51 ⟨.row, w⟩)] => some ([w = [], m = pts.length, i = 0, pts.length ≤ 65536], (⟨k1, k2, k3, k4, k5, k6, k7⟩, ⟨p1, p2, ⟨p3, p4⟩, ⟨p5, p6⟩, p7⟩, ⟨u1, u2⟩, base, dt, fr, re, pts), [])
  | _, _ => none
def crlOk (c : (Fx.Ct) × (Fx.Pr) × (Fx.Vec) × (Int) × (Int) × (Int) × (Int) × (List Fx.Cp)) : Prop := c.2.2.2.2.2.2.2.length ≤ 65536
def crlInv (_c : (Fx.Ct) × (Fx.Pr) × (Fx.Vec) × (Int) × (Int) × (Int) × (Int) × (List Fx.Cp)) (i : Nat) (x : (List Fx.Row)) : Prop := x.length ≤ 2 * i
theorem crlDec_ok (ts : List TV) (ms : List MRes) (ps : List Prop) (c : (Fx.Ct) × (Fx.Pr) × (Fx.Vec) × (Int) × (Int) × (Int) × (Int) × (List Fx.Cp)) (x : (List Fx.Row)) (h : crlDec ts ms = some (ps, c, x)) (hp : Conj ps) : ts = crlTv c 0 x ∧ ms = crlMv c 0 x ∧ crlOk c ∧ crlInv c 0 x := by
  unfold crlDec at h
  split at h
  · cases h
    obtain ⟨rfl, rfl, rfl, hok, _⟩ := hp
    exact ⟨rfl, rfl, hok, (Nat.le_refl 0)⟩
  · cases h
def crlStep (c : (Fx.Ct) × (Fx.Pr) × (Fx.Vec) × (Int) × (Int) × (Int) × (Int) × (List Fx.Cp)) (i : Nat) (x : (List Fx.Row)) : (List Fx.Row) := ((x ++ [Fx.cnrm c.2.1 c.1.n c.2.2.2.2.2.2.1 c.2.2.2.2.1 (c.2.2.2.2.2.2.2.getD i Fx.cp0), Fx.cside c.2.1 c.2.2.1 (Fx.w64 (c.2.2.2.1 + x.length)) c.2.2.2.2.2.1 (c.2.2.2.2.2.2.2.getD i Fx.cp0)]))
def crlV (c : (Fx.Ct) × (Fx.Pr) × (Fx.Vec) × (Int) × (Int) × (Int) × (Int) × (List Fx.Cp)) (i : Nat) (x : (List Fx.Row)) : VT := VT.ite (decide ((i : Int) < (c.2.2.2.2.2.2.2.length : Int))) (VT.pre [0 ≤ (i : Int) ∧ (i : Int) < ((c.2.2.2.2.2.2.2).length : Int)] (VT.pre [(x.length + 2) * 112 ≤ 140737488355328] (VT.leaf Ex.norm 119 [.val (I c.2.2.2.1), .val (I c.2.2.2.2.1), .val (.fv (.one (.ref 0 0))), .val (.fv (.one (.ref 40 0))), .val (I c.2.2.2.2.2.1), .val (I c.2.2.2.2.2.2.1), .val (.fv (.one (.ref 54 0))), .val (.fv (.one (.own 115))), .val ((eSl .cp).pv c.2.2.2.2.2.2.2), .val (I c.2.2.2.2.2.2.2.length), .val (I (IntKind.i64.wrap ((i : Int) + 1)))] [.val (.blk 30 (ctG c.1)), .val (.blk 65 (prG c.2.1)), .val (.blk 25 [.int .i64 c.2.2.1.x, .int .i64 c.2.2.1.y]), .lost, .val (.row 51 ⟨.row, (x ++ [Fx.cnrm c.2.1 c.1.n c.2.2.2.2.2.2.1 c.2.2.2.2.1 (c.2.2.2.2.2.2.2.getD i Fx.cp0), Fx.cside c.2.1 c.2.2.1 (Fx.w64 (c.2.2.2.1 + x.length)) c.2.2.2.2.2.1 (c.2.2.2.2.2.2.2.getD i Fx.cp0)])⟩)]))) (VT.leaf (Ex.exit 0) 119 [.val (I c.2.2.2.1), .val (I c.2.2.2.2.1), .val (.fv (.one (.ref 0 0))), .val (.fv (.one (.ref 40 0))), .val (I c.2.2.2.2.2.1), .val (I c.2.2.2.2.2.2.1), .val (.fv (.one (.ref 54 0))), .val (.fv (.one (.own 56))), .val ((eSl .cp).pv c.2.2.2.2.2.2.2), .val (I c.2.2.2.2.2.2.2.length), .val (I (i : Int))] [.val (.blk 30 (ctG c.1)), .val (.blk 65 (prG c.2.1)), .val (.blk 25 [.int .i64 c.2.2.1.x, .int .i64 c.2.2.1.y]), .val (.row 51 ⟨.row, x⟩), .free])
theorem crlV_eq (c : (Fx.Ct) × (Fx.Pr) × (Fx.Vec) × (Int) × (Int) × (Int) × (Int) × (List Fx.Cp)) (i : Nat) (x : (List Fx.Row)) : viewT [5, 7, 8, 21, 22, 23, 24, 25, 72, 73, 74] [0, 40, 54, 56, 115] (sexec Tryz.prog (tbl crlL) (noLps) (lbN 0 Tryz.f6) (headSt 119 62 [5, 7, 8, 21, 22, 23, 24, 25, 72, 73, 74] [0, 40, 54, 56] (crlTv c i x) (crlMv c i x))) = crlV c i x := by kernel_rfl
noncomputable def crlT : St → Tree := forT0 119 62 [5, 7, 8, 21, 22, 23, 24, 25, 72, 73, 74] [0, 40, 54, 56] crlDec (fun c => c.2.2.2.2.2.2.2.length) crlTv crlMv crlStep 0
theorem crlA : AllSound Tryz.prog crlL := (.cons cRowM (.cons cBia .nil))
theorem crlLoop : LoopOk Tryz.prog crlT (lbN 0 Tryz.f6) :=
  forT0_ok mixed crlA.tbl (noLoops (by kernel_rfl)) [0, 40, 54, 56, 115] (bn := fun c => True) (inv := crlInv) crlDec_ok (fun _ _ => ⟨⟨.inr rfl, .inr rfl, .inr rfl, .inr rfl, .inr rfl, .inr rfl, .inr rfl, .inr rfl, .inr rfl, .inr rfl, .inr rfl, trivial⟩, ⟨.inr rfl, .inr rfl, .inr rfl, .inr rfl, trivial⟩, rfl, rfl, rfl⟩)
    (fun _ _ _ _ _ _ hr h1 h2 => by
      trivial)
    (fun c i x hok hn hinv hi => ⟨_, crlV_eq c i x, by
      refine ⟨fun h => ?_, fun h => ?_⟩
      · have h : i < c.2.2.2.2.2.2.2.length := by simpa using h
        refine ⟨⟨⟨by omega, by first | omega | (have := h; omega)⟩, trivial⟩, ?_⟩
        refine ⟨(have h1 : x.length ≤ 2 * i := hinv; have h2 : c.2.2.2.2.2.2.2.length ≤ 65536 := hok; ⟨by omega, trivial⟩), ?_⟩
        rw [wrap_succ h (by have h2 : c.2.2.2.2.2.2.2.length ≤ 65536 := hok; simp only [maxLen]; omega)]
        exact ⟨rfl, ((x ++ [Fx.cnrm c.2.1 c.1.n c.2.2.2.2.2.2.1 c.2.2.2.2.1 (c.2.2.2.2.2.2.2.getD i Fx.cp0), Fx.cside c.2.1 c.2.2.1 (Fx.w64 (c.2.2.2.1 + x.length)) c.2.2.2.2.2.1 (c.2.2.2.2.2.2.2.getD i Fx.cp0)])), [(56, 115)], h, by unfold crlStep; rfl, (by have h1 : x.length ≤ 2 * i := hinv; show (x ++ [_, _]).length ≤ 2 * (i + 1); rw [List.length_append]; simp only [List.length_cons, List.length_nil]; omega), ⟨.inr rfl, .inr rfl, .inr rfl, .inr rfl, .inr rfl, .inr rfl, .inr rfl, .inr rfl, .inr rfl, .inr rfl, .inr rfl, trivial⟩, ⟨.inr rfl, .inr rfl, .inr rfl, .inr rfl, trivial⟩, rfl, rfl, rfl⟩
      · have h : ¬ i < c.2.2.2.2.2.2.2.length := by simpa using h
        exact ⟨rfl, .inl ⟨rfl, by omega, [], ⟨.inr rfl, .inr rfl, .inr rfl, .inr rfl, .inr rfl, .inr rfl, .inr rfl, .inr rfl, .inr rfl, .inr rfl, .inr rfl, trivial⟩, ⟨.inr rfl, .inr rfl, .inr rfl, .inr rfl, trivial⟩, rfl, rfl, rfl⟩⟩⟩)
def vless (x : Fx.Fix) : Fx.Fix := ⟨x.kind, x.radius, [], x.den, x.fri, x.res, x.sen, x.cat, x.mask, x.grp⟩
def crows (c : Fx.Ct) (a b : Fx.Bd) (ia ib base : Int) (s : List Fx.Sb) (dt : Int) : List Fx.Row :=
  bif orr (!(Fx.fxAt a c.fa).2) (!(Fx.fxAt b c.fb).2) then [] else foldN (crlStep (c, ⟨ia, ib, a.wc, b.wc, s⟩, Fx.vperp c.n, base, dt, Fx.fric (vless (Fx.fxAt a c.fa).1) (vless (Fx.fxAt b c.fb).1), Fx.rest (vless (Fx.fxAt a c.fa).1) (vless (Fx.fxAt b c.fb).1), c.pts)) c.pts.length 0 []
def crowsQ (c : Fx.Ct) (a b : Fx.Bd) (_ia _ib _base : Int) (_s : List Fx.Sb) (_dt : Int) : List Prop := [orr (!(Fx.fxAt a c.fa).2) (!(Fx.fxAt b c.fb).2) = false → ([] : List Fx.Row) = [], orr (!(Fx.fxAt a c.fa).2) (!(Fx.fxAt b c.fb).2) = false → (c.pts.length : Int) = c.pts.length, orr (!(Fx.fxAt a c.fa).2) (!(Fx.fxAt b c.fb).2) = false → (0 : Int) = 0, orr (!(Fx.fxAt a c.fa).2) (!(Fx.fxAt b c.fb).2) = false → c.pts.length ≤ 65536]
theorem cCtr : Sound Tryz.prog 6 (p8 eCt eBd eBd eI eI eI (eSl .sb) eI (eFr 51 .row) (fun c _ _ _ _ _ _ _ => [c.pts.length ≤ 65536]) crows) :=
  con (lps := fun _ => crlT) mixed (AllSound.cons cFxt (.cons cWc (.cons cFri (.cons cRes (.cons cVperp (.cons cRowM (.cons cBia .nil))))))) Tryz.func6 (by kernel_rfl) (by kernel_rfl) (oneLoop (lps := fun _ => crlT) (b := (lbN 0 Tryz.f6)) (by kernel_rfl) crlLoop) (g8 crowsQ crows (fun _ _ _ _ _ _ _ _ h => ⟨fun _ => rfl, fun _ => rfl, fun _ => rfl, fun _ => h.1, trivial⟩) (fun _ _ _ _ _ _ _ _ _ => rfl) (fun _ _ _ _ _ _ _ _ => by kernel_rfl))
noncomputable def cstL : List (FuncId × Contract) := [(28, c3 (eSl .row) eI eI eI Fx.rimp)]
def cstTv (c : (Fx.Ct) × (Fx.Ct) × (List Fx.Row) × (Int) × (List Fx.Cp)) (i : Nat) (_x : (List Fx.Cp)) : List TV := [.val ((eSl .row).pv c.2.2.1), .val (I c.2.2.2.1), .val (.fv (.one (.ref 0 0))), .val (.fv (.one (.ref 1 0))), .val (.fv (.one (.own 6))), .val (I c.2.2.2.2.length), .val (I (i : Int))]
def cstMv (c : (Fx.Ct) × (Fx.Ct) × (List Fx.Row) × (Int) × (List Fx.Cp)) (_i : Nat) (x : (List Fx.Cp)) : List MRes := [.val (.blk 30 (ctG c.1)), .val (.blk 30 ((ctG c.2.1).dropLast ++ [.slc true ⟨.cp, c.2.1.pts⟩])), .val (.row 68 ⟨.cp, x⟩)]
def cstEtv (c : (Fx.Ct) × (Fx.Ct) × (List Fx.Row) × (Int) × (List Fx.Cp)) (_e : List Fx.Cp) : List TV := [.val ((eSl .row).pv c.2.2.1), .val (I c.2.2.2.1), .val (.fv (.one (.ref 0 0))), .val (.fv (.one (.ref 1 0))), .val (.fv (.one (.own 6))), .any, .any]
def cstEmv (c : (Fx.Ct) × (Fx.Ct) × (List Fx.Row) × (Int) × (List Fx.Cp)) (e : List Fx.Cp) : List MRes := [.val (.blk 30 (ctG c.1)), .val (.blk 30 ((ctG c.2.1).dropLast ++ [.slc true ⟨.cp, c.2.1.pts⟩])), .val (.row 68 ⟨.cp, e⟩)]
def cstDec : List TV → List MRes → Option (List Prop × ((Fx.Ct) × (Fx.Ct) × (List Fx.Row) × (Int) × (List Fx.Cp)) × ((List Fx.Cp)))
  | [.val (.fv (.one (.slc false ⟨.row, l⟩))), .val (I b), .val (.fv (.one (.ref 0 0))), .val (.fv (.one (.ref 1 0))), .val (.fv (.one (.own 6))), .val (I m), .val (I i)], [.val (.blk 30 [.int .i64 k1, .int .i64 k2, .int .i64 k3, .int .i64 k4, .int .i64 k5, .int .i64 k6, .slc false ⟨.cp, k7⟩]), .val (.blk 30 [.int .i64 d1, .int .i64 d2, .int .i64 d3, .int .i64 d4, .int .i64 d5, .int .i64 d6, .slc true ⟨.cp, d7⟩]), .val (.row 68 ⟨.cp, q⟩)] => some ([m = q.length, i = 0, q.length ≤ 65536], (⟨k1, k2, k3, k4, k5, k6, k7⟩, ⟨d1, d2, d3, d4, d5, d6, d7⟩, l, b, q), q)
  | _, _ => none
def cstOk (c : (Fx.Ct) × (Fx.Ct) × (List Fx.Row) × (Int) × (List Fx.Cp)) : Prop := c.2.2.2.2.length ≤ 65536
def cstInv (c : (Fx.Ct) × (Fx.Ct) × (List Fx.Row) × (Int) × (List Fx.Cp)) (_i : Nat) (x : (List Fx.Cp)) : Prop := x.length = c.2.2.2.2.length
theorem cstDec_ok (ts : List TV) (ms : List MRes) (ps : List Prop) (c : (Fx.Ct) × (Fx.Ct) × (List Fx.Row) × (Int) × (List Fx.Cp)) (x : (List Fx.Cp)) (h : cstDec ts ms = some (ps, c, x)) (hp : Conj ps) : ts = cstTv c 0 x ∧ ms = cstMv c 0 x ∧ cstOk c ∧ cstInv c 0 x := by
  unfold cstDec at h
  split at h
  · cases h
    obtain ⟨rfl, rfl, hok, _⟩ := hp
    exact ⟨rfl, rfl, hok, rfl⟩
  · cases h
def cstStep (c : (Fx.Ct) × (Fx.Ct) × (List Fx.Row) × (Int) × (List Fx.Cp)) (i : Nat) (x : (List Fx.Cp)) : Sum ((List Fx.Cp)) (List Fx.Cp) := bif decide (c.2.2.2.1 > (c.2.2.1.length : Int)) then .inr x else .inl ((Fx.st2 c.2.2.1 c.2.2.2.1 i x))
def cstV (c : (Fx.Ct) × (Fx.Ct) × (List Fx.Row) × (Int) × (List Fx.Cp)) (i : Nat) (x : (List Fx.Cp)) : VT := VT.ite (decide ((i : Int) < (c.2.2.2.2.length : Int))) (VT.ite (decide (c.2.2.2.1 > (c.2.2.1.length : Int))) (VT.leaf (Ex.exit 0) 63 [.val ((eSl .row).pv c.2.2.1), .val (I c.2.2.2.1), .val (.fv (.one (.ref 0 0))), .val (.fv (.one (.ref 1 0))), .val (.fv (.one (.own 6))), .val (I c.2.2.2.2.length), .val (I (i : Int))] [.val (.blk 30 (ctG c.1)), .val (.blk 30 ((ctG c.2.1).dropLast ++ [.slc true ⟨.cp, c.2.1.pts⟩])), .val (.row 68 ⟨.cp, x⟩)]) (VT.pre [0 ≤ (i : Int) ∧ (i : Int) < (x.length : Int), i < x.length, 0 ≤ (i : Int) ∧ (i : Int) < (x.length : Int), i < x.length] (VT.pre [0 ≤ (i : Int) ∧ (i : Int) < ((Fx.st1 c.2.2.1 c.2.2.2.1 i x).length : Int), i < (Fx.st1 c.2.2.1 c.2.2.2.1 i x).length, 0 ≤ (i : Int) ∧ (i : Int) < ((Fx.st1 c.2.2.1 c.2.2.2.1 i x).length : Int), i < (Fx.st1 c.2.2.1 c.2.2.2.1 i x).length] (VT.leaf Ex.norm 63 [.val ((eSl .row).pv c.2.2.1), .val (I c.2.2.2.1), .val (.fv (.one (.ref 0 0))), .val (.fv (.one (.ref 1 0))), .val (.fv (.one (.own 6))), .val (I c.2.2.2.2.length), .val (I (IntKind.i64.wrap ((i : Int) + 1)))] [.val (.blk 30 (ctG c.1)), .val (.blk 30 ((ctG c.2.1).dropLast ++ [.slc true ⟨.cp, c.2.1.pts⟩])), .val (.row 68 ⟨.cp, (Fx.st2 c.2.2.1 c.2.2.2.1 i x)⟩)])))) (VT.leaf (Ex.exit 0) 63 [.val ((eSl .row).pv c.2.2.1), .val (I c.2.2.2.1), .val (.fv (.one (.ref 0 0))), .val (.fv (.one (.ref 1 0))), .val (.fv (.one (.own 6))), .val (I c.2.2.2.2.length), .val (I (i : Int))] [.val (.blk 30 (ctG c.1)), .val (.blk 30 ((ctG c.2.1).dropLast ++ [.slc true ⟨.cp, c.2.1.pts⟩])), .val (.row 68 ⟨.cp, x⟩)])
theorem cstV_eq (c : (Fx.Ct) × (Fx.Ct) × (List Fx.Row) × (Int) × (List Fx.Cp)) (i : Nat) (x : (List Fx.Cp)) : viewT [1, 2, 3, 6, 7, 21, 22] [0, 1, 6] (sexec Tryz.prog (tbl cstL) (noLps) (lbN 0 Tryz.f12) (headSt 63 16 [1, 2, 3, 6, 7, 21, 22] [0, 1, 6] (cstTv c i x) (cstMv c i x))) = cstV c i x := by kernel_rfl
noncomputable def cstT : St → Tree := forT 63 16 [1, 2, 3, 6, 7, 21, 22] [0, 1, 6] cstDec (fun c => c.2.2.2.2.length) cstTv cstMv cstEtv cstEmv cstStep [] 0 (.exit 0)
theorem cstA : AllSound Tryz.prog cstL := (.cons cImp .nil)
theorem cstLoop : LoopOk Tryz.prog cstT (lbN 0 Tryz.f12) :=
  forT_ok mixed cstA.tbl (noLoops (by kernel_rfl)) [0, 1, 6] (bn := fun c => True) (inv := cstInv) cstDec_ok (fun _ _ => ⟨⟨.inr rfl, .inr rfl, .inr rfl, .inr rfl, .inr rfl, .inr rfl, .inr rfl, trivial⟩, ⟨.inr rfl, .inr rfl, .inr rfl, trivial⟩, rfl, rfl, rfl⟩)
    (fun _ _ _ _ _ _ hr h1 h2 => by
      trivial)
    (fun c i x hok hn hinv hi => ⟨_, cstV_eq c i x, by
      refine ⟨fun h => ?_, fun h => ?_⟩
      · have h : i < c.2.2.2.2.length := by simpa using h
        refine ⟨fun hb1 => ?_, fun hb1 => ?_⟩
        · exact ⟨rfl, .inr ⟨rfl, h, x, [], by unfold cstStep; first | rfl | ((try dsimp only); (try rw [hb1]); rfl), ⟨.inr rfl, .inr rfl, .inr rfl, .inr rfl, .inr rfl, .inl rfl, .inl rfl, trivial⟩, ⟨.inr rfl, .inr rfl, .inr rfl, trivial⟩, rfl, rfl, rfl⟩⟩
        · refine ⟨(have h1 : x.length = c.2.2.2.2.length := hinv; ⟨⟨by omega, by omega⟩, by omega, ⟨by omega, by omega⟩, by omega, trivial⟩), ?_⟩
          refine ⟨(have h1 : x.length = c.2.2.2.2.length := hinv; have h2 := Fx.st1_len c.2.2.1 c.2.2.2.1 i x; ⟨⟨by omega, by omega⟩, by omega, ⟨by omega, by omega⟩, by omega, trivial⟩), ?_⟩
          rw [wrap_succ h (by have h2 : c.2.2.2.2.length ≤ 65536 := hok; simp only [maxLen]; omega)]
          exact ⟨rfl, ((Fx.st2 c.2.2.1 c.2.2.2.1 i x)), [], h, by unfold cstStep; first | rfl | ((try dsimp only); (try rw [hb1]); rfl), (by have h1 : x.length = c.2.2.2.2.length := hinv; exact (Fx.st2_len _ _ _ _).trans h1), ⟨.inr rfl, .inr rfl, .inr rfl, .inr rfl, .inr rfl, .inr rfl, .inr rfl, trivial⟩, ⟨.inr rfl, .inr rfl, .inr rfl, trivial⟩, rfl, rfl, rfl⟩
      · have h : ¬ i < c.2.2.2.2.length := by simpa using h
        exact ⟨rfl, .inl ⟨rfl, by omega, [], ⟨.inr rfl, .inr rfl, .inr rfl, .inr rfl, .inr rfl, .inr rfl, .inr rfl, trivial⟩, ⟨.inr rfl, .inr rfl, .inr rfl, trivial⟩, rfl, rfl, rfl⟩⟩⟩)
section
variable (c : Fx.Ct) (l : List Fx.Row) (n : Int)
def cp1 : List Fx.Cp := List.take (List.replicate (c.pts.length : Int).toNat Fx.cp0).length c.pts ++ List.drop c.pts.length (List.replicate (c.pts.length : Int).toNat Fx.cp0)
def csR := runF (cstStep (c, ⟨0, 0, 0, 0, 0, 0, []⟩, l, n, cp1 c)) (cp1 c).length 0 (cp1 c)
def csP : List Fx.Cp := bif isL (csR c l n) then getL (cp1 c) (csR c l n) else getR [] (csR c l n)
def csU : Fx.Ct := ⟨bif isL (csR c l n) then c.ba else c.ba, bif isL (csR c l n) then c.fa else c.fa, bif isL (csR c l n) then c.bb else c.bb, bif isL (csR c l n) then c.fb else c.fb, bif isL (csR c l n) then c.nx else c.nx, bif isL (csR c l n) then c.ny else c.ny, csP c l n⟩
def cstore : Fx.Ct := ⟨c.ba, c.fa, c.bb, c.fb, c.nx, c.ny, csP c l n⟩
def csQ : List Prop := [0 ≤ (c.pts.length : Int) ∧ (c.pts.length : Int) ≤ (c.pts.length : Int) ∧ (c.pts.length : Int) * (48 : Nat) ≤ 140737488355328, ((cp1 c).length : Int) = (cp1 c).length, (0 : Int) = 0, (cp1 c).length ≤ 65536]
theorem csU_eq : csU c l n = cstore c l n := by
  unfold csU cstore
  cases isL (csR c l n) <;> rfl
theorem cp1_eq : cp1 c = c.pts := by
  unfold cp1
  rw [Int.toNat_natCast, List.length_replicate, List.take_length, List.drop_replicate, Nat.sub_self, List.replicate_zero, List.append_nil]
theorem csQ_ok (h : c.pts.length ≤ 65536) : Conj (csQ c) := ⟨⟨by omega, by omega, by omega⟩, rfl, rfl, by rw [cp1_eq]; exact h, trivial⟩
end
theorem cCst : Sound Tryz.prog 12 (p3 eCt (eSl .row) eI eCtT (fun c _ _ => [c.pts.length ≤ 65536]) cstore) :=
  con (lps := fun _ => cstT) mixed (AllSound.cons cImp .nil) Tryz.func12 (by kernel_rfl) (by kernel_rfl) (oneLoop (lps := fun _ => cstT) (b := (lbN 0 Tryz.f12)) (by kernel_rfl) cstLoop) (g3 (fun c _ _ => csQ c) csU (fun c _ _ h => csQ_ok c h.1) (fun c l n _ => csU_eq c l n) (fun _ _ _ => by kernel_rfl))
def eBdT : Enc Fx.Bd := ⟨fun _ => none, fun x => .fv (.agg ((bdG x).dropLast ++ [.slc true ⟨.fix, x.fixtures⟩])), fun _ _ h => nomatch h⟩
def dsk (y : Int) : Fx.Bd := ⟨1, 3, 0, y, 0, 0, 0, 0, 0, 0, 0, 0, 0, 0, false, false, false, false, 0, [⟨1, 65536, [⟨0, 0⟩], 65536, 65536, 32768, false, 0, 0, 0⟩]⟩
def cnt (s : Int) : Fx.Ct := ⟨1, 0, 2, 0, 0, 65536, [⟨0, 65536, s, 0, 5, -3⟩]⟩
theorem cDisk : Sound Tryz.prog 11 (c1 eI eBdT dsk) :=
  con (lps := noLps) mixed .nil Tryz.func11 (by kernel_rfl) (by kernel_rfl) (noLoops (by kernel_rfl)) (k1 (fun _ => by kernel_rfl))
theorem cCont : Sound Tryz.prog 10 (c1 eI eCtT cnt) :=
  con (lps := noLps) mixed .nil Tryz.func10 (by kernel_rfl) (by kernel_rfl) (noLoops (by kernel_rfl)) (k1 (fun _ => by kernel_rfl))
noncomputable def eqcL : List (FuncId × Contract) := []
def eqcTv (_c : (Fx.Ct) × (Fx.Ct)) (i : Nat) (_x : Unit) : List TV := [.val (.fv (.one (.ref 0 0))), .val (.fv (.one (.ref 1 0))), .val (Bo false), .val (I (i : Int))]
def eqcMv (c : (Fx.Ct) × (Fx.Ct)) (_i : Nat) (_x : Unit) : List MRes := [.val (.blk 30 (ctG c.1)), .val (.blk 30 (ctG c.2))]
def eqcEtv (_c : (Fx.Ct) × (Fx.Ct)) (_e : Unit) : List TV := [.any, .any, .val (Bo false), .any]
def eqcEmv (_c : (Fx.Ct) × (Fx.Ct)) (_e : Unit) : List MRes := [.lost, .lost]
def eqcDec : List TV → List MRes → Option (List Prop × ((Fx.Ct) × (Fx.Ct)) × (Unit))
  | [.val (.fv (.one (.ref 0 0))), .val (.fv (.one (.ref 1 0))), .val (Bo b), .val (I i)], [.val (.blk 30 [.int .i64 k1, .int .i64 k2, .int .i64 k3, .int .i64 k4, .int .i64 k5, .int .i64 k6, .slc false ⟨.cp, k7⟩]), .val (.blk 30 [.int .i64 d1, .int .i64 d2, .int .i64 d3, .int .i64 d4, .int .i64 d5, .int .i64 d6, .slc false ⟨.cp, d7⟩])] => some ([b = false, i = 0, k7.length = d7.length ∧ k7.length ≤ 65536], (⟨k1, k2, k3, k4, k5, k6, k7⟩, ⟨d1, d2, d3, d4, d5, d6, d7⟩), ())
  | _, _ => none
def eqcOk (c : (Fx.Ct) × (Fx.Ct)) : Prop := c.1.pts.length = c.2.pts.length ∧ c.1.pts.length ≤ 65536
def eqcInv (_c : (Fx.Ct) × (Fx.Ct)) (_i : Nat) (_x : Unit) : Prop := True
theorem eqcDec_ok (ts : List TV) (ms : List MRes) (ps : List Prop) (c : (Fx.Ct) × (Fx.Ct)) (x : Unit) (h : eqcDec ts ms = some (ps, c, x)) (hp : Conj ps) : ts = eqcTv c 0 x ∧ ms = eqcMv c 0 x ∧ eqcOk c ∧ eqcInv c 0 x := by
  unfold eqcDec at h
  split at h
  · cases h
    obtain ⟨rfl, rfl, hok, _⟩ := hp
    exact ⟨rfl, rfl, hok, trivial⟩
  · cases h
def eqcStep (c : (Fx.Ct) × (Fx.Ct)) (i : Nat) (_x : Unit) : Sum (Unit) (Unit) := bif !(c.1.pts.getD i Fx.cp0).eqb (c.2.pts.getD i Fx.cp0) then .inr () else .inl ()
def eqcV (c : (Fx.Ct) × (Fx.Ct)) (i : Nat) (_x : Unit) : VT := VT.ite (an (decide ((i : Int) < (c.1.pts.length : Int))) (decide ((i : Int) < (c.2.pts.length : Int)))) (VT.pre [0 ≤ (i : Int) ∧ (i : Int) < (c.1.pts.length : Int), 0 ≤ (i : Int) ∧ (i : Int) < (c.2.pts.length : Int)] (VT.ite (!(c.1.pts.getD i Fx.cp0).eqb (c.2.pts.getD i Fx.cp0)) (VT.leaf (Ex.ret) 60 [.val (.fv (.one (.ref 0 0))), .val (.fv (.one (.ref 1 0))), .val (Bo false), .val (I (i : Int))] [.val (.blk 30 (ctG c.1)), .val (.blk 30 (ctG c.2))]) (VT.leaf Ex.norm 60 [.val (.fv (.one (.ref 0 0))), .val (.fv (.one (.ref 1 0))), .val (Bo false), .val (I (IntKind.i64.wrap ((i : Int) + 1)))] [.val (.blk 30 (ctG c.1)), .val (.blk 30 (ctG c.2))]))) (VT.leaf (Ex.exit 0) 60 [.val (.fv (.one (.ref 0 0))), .val (.fv (.one (.ref 1 0))), .val (Bo false), .val (I (i : Int))] [.val (.blk 30 (ctG c.1)), .val (.blk 30 (ctG c.2))])
theorem eqcV_eq (c : (Fx.Ct) × (Fx.Ct)) (i : Nat) (x : Unit) : viewT [2, 3, 4, 5] [0, 1] (sexec Tryz.prog (tbl eqcL) (noLps) (lbN 0 Tryz.f13) (headSt 60 29 [2, 3, 4, 5] [0, 1] (eqcTv c i x) (eqcMv c i x))) = eqcV c i x := by kernel_rfl
noncomputable def eqcT : St → Tree := forT 60 29 [2, 3, 4, 5] [0, 1] eqcDec (fun c => c.1.pts.length) eqcTv eqcMv eqcEtv eqcEmv eqcStep () 0 .ret
theorem eqcA : AllSound Tryz.prog eqcL := .nil
theorem eqcLoop : LoopOk Tryz.prog eqcT (lbN 0 Tryz.f13) :=
  forT_ok mixed eqcA.tbl (noLoops (by kernel_rfl)) [0, 1] (bn := fun c => True) (inv := eqcInv) eqcDec_ok (fun _ _ => ⟨⟨.inr rfl, .inr rfl, .inr rfl, .inr rfl, trivial⟩, ⟨.inr rfl, .inr rfl, trivial⟩, rfl, rfl, rfl⟩)
    (fun _ _ _ _ _ _ hr h1 h2 => by
      trivial)
    (fun c i x hok hn hinv hi => ⟨_, eqcV_eq c i x, by
      refine ⟨fun h => ?_, fun h => ?_⟩
      · have h : i < c.1.pts.length := by (have e : (c.2.pts.length : Int) = c.1.pts.length := (by have := hok.1; omega); have h2 := h; rw [e] at h2; by_cases h3 : (i : Int) < (c.1.pts.length : Int) <;> simp [an, h3] at h2 <;> omega)
        refine ⟨⟨⟨by omega, by omega⟩, ⟨by omega, by have := hok.1; omega⟩, trivial⟩, ?_⟩
        refine ⟨fun hb2 => ?_, fun hb2 => ?_⟩
        · exact ⟨rfl, .inr ⟨rfl, h, (), [], by unfold eqcStep; first | rfl | ((try dsimp only); (try rw [hb2]); rfl), ⟨.inl rfl, .inl rfl, .inr rfl, .inl rfl, trivial⟩, ⟨.inl rfl, .inl rfl, trivial⟩, rfl, rfl, rfl⟩⟩
        · rw [wrap_succ h (by have := hok.2; simp only [maxLen]; omega)]
          exact ⟨rfl, (), [], h, by unfold eqcStep; first | rfl | ((try dsimp only); (try rw [hb2]); rfl), trivial, ⟨.inr rfl, .inr rfl, .inr rfl, .inr rfl, trivial⟩, ⟨.inr rfl, .inr rfl, trivial⟩, rfl, rfl, rfl⟩
      · have h : ¬ i < c.1.pts.length := by (have e : (c.2.pts.length : Int) = c.1.pts.length := (by have := hok.1; omega); have h2 := h; rw [e] at h2; by_cases h3 : (i : Int) < (c.1.pts.length : Int) <;> simp [an, h3] at h2 <;> omega)
        exact ⟨rfl, .inl ⟨rfl, by omega, [], ⟨.inr rfl, .inr rfl, .inr rfl, .inr rfl, trivial⟩, ⟨.inr rfl, .inr rfl, trivial⟩, rfl, rfl, rfl⟩⟩⟩)
def ceqG (k d : Fx.Ct) : Bool := orr (orr (!(k.ba == d.ba && (k.fa == d.fa && (k.bb == d.bb && (k.fb == d.fb && true))))) (!(k.nx == d.nx && (k.ny == d.ny && true)))) ((k.pts.length : Int) != d.pts.length)
def ceq (k d : Fx.Ct) : Bool := bif ceqG k d then false else bif isL (runF (eqcStep (k, d)) k.pts.length 0 ()) then true else false
def ceqQ (k d : Fx.Ct) : List Prop := [ceqG k d = false → false = false, ceqG k d = false → (0 : Int) = 0, ceqG k d = false → k.pts.length = d.pts.length ∧ k.pts.length ≤ 65536]
theorem ceqQ_ok (k d : Fx.Ct) (h : k.pts.length ≤ 65536) : Conj (ceqQ k d) := ⟨fun _ => rfl, fun _ => rfl, fun g => ⟨by have := (Fx.of_orr g).2; simp at this; omega, h⟩, trivial⟩
theorem ceq_self (k : Fx.Ct) : ceq k k = true := by
  have hG : ceqG k k = false := by simp [ceqG, orr]
  have : isL (runF (eqcStep (k, k)) k.pts.length 0 ()) = true := Fx.isL_all _ _ fun j _ _ => by simp [Fx.Cp.eqb_self]
  unfold ceq
  rw [hG, this]; rfl
theorem rEqc : Sound Tryz.prog 13 (p2 eCt eCt eB (fun k _ => [k.pts.length ≤ 65536]) ceq) :=
  con (lps := fun _ => eqcT) mixed .nil Tryz.func13 (by kernel_rfl) (by kernel_rfl) (oneLoop (lps := fun _ => eqcT) (b := (lbN 0 Tryz.f13)) (by kernel_rfl) eqcLoop) (g2 ceqQ ceq (fun k d h => ceqQ_ok k d h.1) (fun _ _ _ => rfl) (fun _ _ => by kernel_rfl))
end Go.Proofs.YtfjognghjiifaaaGreat
