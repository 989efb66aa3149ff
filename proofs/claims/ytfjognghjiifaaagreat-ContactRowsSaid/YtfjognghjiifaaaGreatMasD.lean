/- The contracts of polygons, fourth part. -/
import Derived.Test.YtfjognghjiifaaaGreatMasC
import Derived.Test.YtfjognghjiifaaaGreatEngMasB
open Go Go.Eng
namespace Go.Proofs.YtfjognghjiifaaaGreat
open Go.Fx (an orr)

theorem cShort : Sound Tryz.prog 101 (c1 (eSl .vec) eI Fx.shortP) :=
  con (lps := fun _ => sedT) mixed (AllSound.cons cCvx (.cons cVsub (.cons cVlen .nil))) Tryz.func101 (by kernel_rfl) (by kernel_rfl) (oneLoop (lps := fun _ => sedT) (b := (lbN 0 Tryz.f101)) (by kernel_rfl) sedLoop) (g1 (fun l => [(!Fx.cvx l) = false → l = l, (!Fx.cvx l) = false → (l.length : Int) = l.length, (!Fx.cvx l) = false → (0 : Int) = 0]) Fx.shortP (fun _ _ => ⟨fun _ => rfl, fun _ => rfl, fun _ => rfl, trivial⟩) (fun _ _ => rfl) (fun _ => by kernel_rfl))
theorem cFan : Sound Tryz.prog 119 (p1 (eSl .vec) eFan (fun l => [3 ≤ l.length ∧ l.length ≤ 8]) Fx.fan) :=
  con (lps := fun _ => fanT) mixed (AllSound.cons cRdiv .nil) Tryz.func119 (by kernel_rfl) (by kernel_rfl) (oneLoop (lps := fun _ => fanT) (b := (lbN 0 Tryz.f119)) (by kernel_rfl) fanLoop) (g1 (fun l => [0 ≤ (0 : Int) ∧ (0 : Int) < (l.length : Int), ([] : List Fx.Sb) = [], (1 : Int) = 1, l.length ≤ 8]) Fx.fan (fun l h => ⟨⟨by omega, by have := h.1.1; omega⟩, rfl, rfl, h.1.2, trivial⟩) (fun _ _ => rfl) (fun _ => by kernel_rfl))
theorem cArea : Sound Tryz.prog 102 (c1 (eSl .vec) eI Fx.areaP) :=
  con (lps := noLps) mixed (.cons cCvx (.cons cFan (.cons cRdiv .nil))) Tryz.func102 (by kernel_rfl) (by kernel_rfl) (noLoops (by kernel_rfl)) (g1 (fun l => [(!Fx.cvx l) = false → 3 ≤ l.length ∧ l.length ≤ 8]) Fx.areaP (fun l _ => ⟨fun h => Fx.cvx_len (by simpa using h), trivial⟩) (fun _ _ => rfl) (fun _ => by kernel_rfl))
noncomputable def cenL : List (FuncId × Contract) := []
def cenTv (c : (List Fx.Vec) × (List Fx.Sb) × (Int)) (i : Nat) (x : (Int) × (Int)) : List TV := [.val ((eSl .vec).pv c.1), .val (.fv (.one (.ref 0 0))), .val (I c.2.2), .val (I x.1), .val (I x.2), .val (.fv (.one (.slc true ⟨.sb, c.2.1⟩))), .val (I c.2.1.length), .val (I (i : Int))]
def cenMv (_c : (List Fx.Vec) × (List Fx.Sb) × (Int)) (_i : Nat) (_x : (Int) × (Int)) : List MRes := [.val (.blk 25 [.int .i64 0, .int .i64 0])]
def cenDec : List TV → List MRes → Option (List Prop × ((List Fx.Vec) × (List Fx.Sb) × (Int)) × ((Int) × (Int)))
  | [.val (.fv (.one (.slc false ⟨.vec, l⟩))), .val (.fv (.one (.ref 0 0))), .val (I s), .val (I x), .val (I y), .val (.fv (.one (.slc true ⟨.sb, tr⟩))), .val (I n), .val (I i)], [.val (.blk 25 [.int .i64 0, .int .i64 0])] => some ([n = tr.length, i = 0], (l, tr, s), (x, y))
  | _, _ => none
def cenOk (_c : (List Fx.Vec) × (List Fx.Sb) × (Int)) : Prop := True
def cenInv (_c : (List Fx.Vec) × (List Fx.Sb) × (Int)) (_i : Nat) (_x : (Int) × (Int)) : Prop := True
theorem cenDec_ok (ts : List TV) (ms : List MRes) (ps : List Prop) (c : (List Fx.Vec) × (List Fx.Sb) × (Int)) (x : (Int) × (Int)) (h : cenDec ts ms = some (ps, c, x)) (hp : Conj ps) : ts = cenTv c 0 x ∧ ms = cenMv c 0 x ∧ cenOk c ∧ cenInv c 0 x := by
  unfold cenDec at h
  split at h
  · cases h
    obtain ⟨rfl, rfl, _⟩ := hp
    exact ⟨rfl, rfl, trivial, trivial⟩
  · cases h
def cenStep (c : (List Fx.Vec) × (List Fx.Sb) × (Int)) (i : Nat) (x : (Int) × (Int)) : (Int) × (Int) := ((Fx.cenX (c.2.1.getD i ⟨0, 0, 0, 0, 0⟩) x.1), (Fx.cenY (c.2.1.getD i ⟨0, 0, 0, 0, 0⟩) x.2))
def cenV (c : (List Fx.Vec) × (List Fx.Sb) × (Int)) (i : Nat) (x : (Int) × (Int)) : VT := VT.ite (decide ((i : Int) < (c.2.1.length : Int))) (VT.pre [0 ≤ (i : Int) ∧ (i : Int) < ((c.2.1).length : Int)] (VT.leaf Ex.norm 73 [.val ((eSl .vec).pv c.1), .val (.fv (.one (.ref 0 0))), .val (I c.2.2), .val (I (Fx.cenX (c.2.1.getD i ⟨0, 0, 0, 0, 0⟩) x.1)), .val (I (Fx.cenY (c.2.1.getD i ⟨0, 0, 0, 0, 0⟩) x.2)), .val (.fv (.one (.slc true ⟨.sb, c.2.1⟩))), .val (I c.2.1.length), .val (I (IntKind.i64.wrap ((i : Int) + 1)))] [.val (.blk 25 [.int .i64 0, .int .i64 0])])) (VT.leaf (Ex.exit 0) 73 [.val ((eSl .vec).pv c.1), .val (.fv (.one (.ref 0 0))), .val (I c.2.2), .val (I x.1), .val (I x.2), .val (.fv (.one (.slc true ⟨.sb, c.2.1⟩))), .val (I c.2.1.length), .val (I (i : Int))] [.val (.blk 25 [.int .i64 0, .int .i64 0])])
theorem cenV_eq (c : (List Fx.Vec) × (List Fx.Sb) × (Int)) (i : Nat) (x : (Int) × (Int)) : viewT [0, 2, 4, 5, 6, 23, 24, 25] [0] (sexec Tryz.prog (tbl cenL) (noLps) (lbN 0 Tryz.f104) (headSt 73 8 [0, 2, 4, 5, 6, 23, 24, 25] [0] (cenTv c i x) (cenMv c i x))) = cenV c i x := by kernel_rfl
noncomputable def cenT : St → Tree := forT0 73 8 [0, 2, 4, 5, 6, 23, 24, 25] [0] cenDec (fun c => c.2.1.length) cenTv cenMv cenStep 0
theorem cenA : AllSound Tryz.prog cenL := .nil
theorem cenLoop : LoopOk Tryz.prog cenT (lbN 0 Tryz.f104) :=
  forT0_ok mixed cenA.tbl (noLoops (by kernel_rfl)) [0] (bn := fun c => c.2.1.length ≤ maxLen) (inv := cenInv) cenDec_ok (fun _ _ => ⟨⟨.inr rfl, .inr rfl, .inr rfl, .inr rfl, .inr rfl, .inr rfl, .inr rfl, .inr rfl, trivial⟩, ⟨.inr rfl, trivial⟩, rfl, rfl, rfl⟩)
    (fun _ _ _ _ _ _ hr h1 h2 => by
      simp only [List.map_cons, cenTv, List.cons.injEq] at h1; exact len_le hr h1.2.2.2.2.2.1)
    (fun c i x hok hn hinv hi => ⟨_, cenV_eq c i x, by
      refine ⟨fun h => ?_, fun h => ?_⟩
      · have h : i < c.2.1.length := by simpa using h
        refine ⟨⟨⟨by omega, by first | omega | (have := h; omega)⟩, trivial⟩, ?_⟩
        rw [wrap_succ h hn]
        exact ⟨rfl, ((Fx.cenX (c.2.1.getD i ⟨0, 0, 0, 0, 0⟩) x.1), (Fx.cenY (c.2.1.getD i ⟨0, 0, 0, 0, 0⟩) x.2)), [], h, by unfold cenStep; rfl, trivial, ⟨.inr rfl, .inr rfl, .inr rfl, .inr rfl, .inr rfl, .inr rfl, .inr rfl, .inr rfl, trivial⟩, ⟨.inr rfl, trivial⟩, rfl, rfl, rfl⟩
      · have h : ¬ i < c.2.1.length := by simpa using h
        exact ⟨rfl, .inl ⟨rfl, by omega, [], ⟨.inr rfl, .inr rfl, .inr rfl, .inr rfl, .inr rfl, .inr rfl, .inr rfl, .inr rfl, trivial⟩, ⟨.inr rfl, trivial⟩, rfl, rfl, rfl⟩⟩⟩)
noncomputable def rseL : List (FuncId × Contract) := [(42, c2 eV eV eV Fx.vsub), (110, c1 eV eI Fx.vlenR)]
def rseTv (c : (List Fx.Vec)) (i : Nat) (x : (Int)) : List TV := [.val ((eSl .vec).pv c), .val (I x), .val (I (i : Int))]
def rseMv (_c : (List Fx.Vec)) (_i : Nat) (_x : (Int)) : List MRes := []
def rseDec : List TV → List MRes → Option (List Prop × ((List Fx.Vec)) × ((Int)))
  | [.val (.fv (.one (.slc false ⟨.vec, l⟩))), .val (I s), .val (I i)], [] => some ([i = 0], (l), (s))
  | _, _ => none
def rseOk (_c : (List Fx.Vec)) : Prop := True
def rseInv (_c : (List Fx.Vec)) (_i : Nat) (_x : (Int)) : Prop := True
theorem rseDec_ok (ts : List TV) (ms : List MRes) (ps : List Prop) (c : (List Fx.Vec)) (x : (Int)) (h : rseDec ts ms = some (ps, c, x)) (hp : Conj ps) : ts = rseTv c 0 x ∧ ms = rseMv c 0 x ∧ rseOk c ∧ rseInv c 0 x := by
  unfold rseDec at h
  split at h
  · cases h
    obtain ⟨rfl, _⟩ := hp
    exact ⟨rfl, rfl, trivial, trivial⟩
  · cases h
def rseStep (c : (List Fx.Vec)) (i : Nat) (x : (Int)) : (Int) := bif orr (decide (x < 0)) (decide (Fx.edgeR c i < x)) then ((Fx.edgeR c i)) else (x)
def rseV (c : (List Fx.Vec)) (i : Nat) (x : (Int)) : VT := VT.ite (decide ((i : Int) < (c.length : Int))) (VT.pre [(c.length : Int) ≠ 0, 0 ≤ Fx.nxt c i ∧ Fx.nxt c i < (c.length : Int), 0 ≤ (i : Int) ∧ (i : Int) < (c.length : Int)] (VT.ite (orr (decide (x < 0)) (decide (Fx.edgeR c i < x))) (VT.leaf Ex.norm 38 [.val ((eSl .vec).pv c), .val (I (Fx.edgeR c i)), .val (I (IntKind.i64.wrap ((i : Int) + 1)))] []) (VT.leaf Ex.norm 38 [.val ((eSl .vec).pv c), .val (I x), .val (I (IntKind.i64.wrap ((i : Int) + 1)))] []))) (VT.leaf (Ex.exit 0) 38 [.val ((eSl .vec).pv c), .val (I x), .val (I (i : Int))] [])
theorem rseV_eq (c : (List Fx.Vec)) (i : Nat) (x : (Int)) : viewT [0, 3, 4] [] (sexec Tryz.prog (tbl rseL) (noLps) (lbN 0 Tryz.f124) (headSt 38 0 [0, 3, 4] [] (rseTv c i x) (rseMv c i x))) = rseV c i x := by kernel_rfl
noncomputable def rseT : St → Tree := forT0 38 0 [0, 3, 4] [] rseDec (fun c => c.length) rseTv rseMv rseStep 0
theorem rseA : AllSound Tryz.prog rseL := (.cons rVsub (.cons rVlen .nil))
theorem rseLoop : LoopOk Tryz.prog rseT (lbN 0 Tryz.f124) :=
  forT0_ok mixed rseA.tbl (noLoops (by kernel_rfl)) [] (bn := fun c => c.length ≤ maxLen) (inv := rseInv) rseDec_ok (fun _ _ => ⟨⟨.inr rfl, .inr rfl, .inr rfl, trivial⟩, trivial, rfl, rfl, rfl⟩)
    (fun _ _ _ _ _ _ hr h1 h2 => by
      simp only [List.map_cons, rseTv, List.cons.injEq] at h1; exact len_le hr h1.1)
    (fun c i x hok hn hinv hi => ⟨_, rseV_eq c i x, by
      refine ⟨fun h => ?_, fun h => ?_⟩
      · have h : i < c.length := by simpa using h
        refine ⟨⟨by omega, Fx.nxt_ok h hn, ⟨by omega, by omega⟩, trivial⟩, ?_⟩
        refine ⟨fun hb2 => ?_, fun hb2 => ?_⟩
        · rw [wrap_succ h hn]
          exact ⟨rfl, ((Fx.edgeR c i)), [], h, by unfold rseStep; first | rfl | ((try dsimp only); (try rw [hb2]); rfl), trivial, ⟨.inr rfl, .inr rfl, .inr rfl, trivial⟩, trivial, rfl, rfl, rfl⟩
        · rw [wrap_succ h hn]
          exact ⟨rfl, (x), [], h, by unfold rseStep; first | rfl | ((try dsimp only); (try rw [hb2]); rfl), trivial, ⟨.inr rfl, .inr rfl, .inr rfl, trivial⟩, trivial, rfl, rfl, rfl⟩
      · have h : ¬ i < c.length := by simpa using h
        exact ⟨rfl, .inl ⟨rfl, by omega, [], ⟨.inr rfl, .inr rfl, .inr rfl, trivial⟩, trivial, rfl, rfl, rfl⟩⟩⟩)
theorem rCross : Sound Tryz.prog 126 (p2 (eSl .vec) eI eI (fun l i => [1 ≤ i ∧ i + 1 < (l.length : Int) ∧ l.length ≤ 8]) Fx.crossR) :=
  con (lps := noLps) mixed (.cons rRdiv .nil) Tryz.func126 (by kernel_rfl) (by kernel_rfl) (noLoops (by kernel_rfl)) (g2 (fun l i => [0 ≤ i ∧ i < (l.length : Int), 0 ≤ (0 : Int) ∧ (0 : Int) < (l.length : Int), 0 ≤ i ∧ i < (l.length : Int), 0 ≤ (0 : Int) ∧ (0 : Int) < (l.length : Int), 0 ≤ Fx.w64 (i + 1) ∧ Fx.w64 (i + 1) < (l.length : Int), 0 ≤ (0 : Int) ∧ (0 : Int) < (l.length : Int), 0 ≤ Fx.w64 (i + 1) ∧ Fx.w64 (i + 1) < (l.length : Int), 0 ≤ (0 : Int) ∧ (0 : Int) < (l.length : Int)]) Fx.crossR (fun _ _ h => Fx.cross_ok h.1) (fun _ _ _ => rfl) (fun _ _ => by kernel_rfl))
noncomputable def rarL : List (FuncId × Contract) := [(126, p2 (eSl .vec) eI eI (fun l i => [1 ≤ i ∧ i + 1 < (l.length : Int) ∧ l.length ≤ 8]) Fx.crossR)]
def rarTv (c : (List Fx.Vec)) (i : Nat) (x : (Int)) : List TV := [.val ((eSl .vec).pv c), .val (I x), .val (I ((i : Int) + 1))]
def rarMv (_c : (List Fx.Vec)) (_i : Nat) (_x : (Int)) : List MRes := []
def rarDec : List TV → List MRes → Option (List Prop × ((List Fx.Vec)) × ((Int)))
  | [.val (.fv (.one (.slc false ⟨.vec, l⟩))), .val (I s), .val (I i)], [] => some ([i = 1, l.length ≤ 8], (l), (s))
  | _, _ => none
def rarOk (c : (List Fx.Vec)) : Prop := c.length ≤ 8
def rarInv (_c : (List Fx.Vec)) (_i : Nat) (_x : (Int)) : Prop := True
theorem rarDec_ok (ts : List TV) (ms : List MRes) (ps : List Prop) (c : (List Fx.Vec)) (x : (Int)) (h : rarDec ts ms = some (ps, c, x)) (hp : Conj ps) : ts = rarTv c 0 x ∧ ms = rarMv c 0 x ∧ rarOk c ∧ rarInv c 0 x := by
  unfold rarDec at h
  split at h
  · cases h
    obtain ⟨rfl, hok, _⟩ := hp
    exact ⟨rfl, rfl, hok, trivial⟩
  · cases h
def rarStep (c : (List Fx.Vec)) (i : Nat) (x : (Int)) : (Int) := ((Fx.w64 (x + Fx.crossR c ((i : Int) + 1))))
def rarV (c : (List Fx.Vec)) (i : Nat) (x : (Int)) : VT := VT.ite (decide (IntKind.i64.wrap ((i : Int) + 1 + 1) < (c.length : Int))) (VT.pre [1 ≤ (i : Int) + 1 ∧ (i : Int) + 1 + 1 < (c.length : Int) ∧ c.length ≤ 8] (VT.leaf Ex.norm 22 [.val ((eSl .vec).pv c), .val (I (Fx.w64 (x + Fx.crossR c ((i : Int) + 1)))), .val (I (IntKind.i64.wrap (((i : Int) + 1) + 1)))] [])) (VT.leaf (Ex.exit 0) 22 [.val ((eSl .vec).pv c), .val (I x), .val (I ((i : Int) + 1))] [])
theorem rarV_eq (c : (List Fx.Vec)) (i : Nat) (x : (Int)) : viewT [0, 3, 4] [] (sexec Tryz.prog (tbl rarL) (noLps) (lbN 0 Tryz.f112) (headSt 22 0 [0, 3, 4] [] (rarTv c i x) (rarMv c i x))) = rarV c i x := by kernel_rfl
noncomputable def rarT : St → Tree := forT0 22 0 [0, 3, 4] [] rarDec (fun c => c.length - 2) rarTv rarMv rarStep 0
theorem rarA : AllSound Tryz.prog rarL := (.cons rCross .nil)
theorem rarLoop : LoopOk Tryz.prog rarT (lbN 0 Tryz.f112) :=
  forT0_ok mixed rarA.tbl (noLoops (by kernel_rfl)) [] (bn := fun c => c.length ≤ maxLen) (inv := rarInv) rarDec_ok (fun _ _ => ⟨⟨.inr rfl, .inr rfl, .inr rfl, trivial⟩, trivial, rfl, rfl, rfl⟩)
    (fun _ _ _ _ _ _ hr h1 h2 => by
      simp only [List.map_cons, rarTv, List.cons.injEq] at h1; exact len_le hr h1.1)
    (fun c i x hok hn hinv hi => ⟨_, rarV_eq c i x, by
      refine ⟨fun h => ?_, fun h => ?_⟩
      · have h : i < c.length - 2 := by rw [Fx.cond_two hi hn] at h; simpa using h
        refine ⟨⟨⟨by omega, by omega, hok⟩, trivial⟩, ?_⟩
        rw [Fx.wrap_two' h hn]
        exact ⟨rfl, ((Fx.w64 (x + Fx.crossR c ((i : Int) + 1)))), [], h, by unfold rarStep; rfl, trivial, ⟨.inr rfl, .inr rfl, .inr rfl, trivial⟩, trivial, rfl, rfl, rfl⟩
      · have h : ¬ i < c.length - 2 := by rw [Fx.cond_two hi hn] at h; simpa using h
        exact ⟨rfl, .inl ⟨rfl, by omega, [], ⟨.inr rfl, .inr rfl, .inr rfl, trivial⟩, trivial, rfl, rfl, rfl⟩⟩⟩)
noncomputable def rceL : List (FuncId × Contract) := [(126, p2 (eSl .vec) eI eI (fun l i => [1 ≤ i ∧ i + 1 < (l.length : Int) ∧ l.length ≤ 8]) Fx.crossR)]
def rceTv (c : (List Fx.Vec) × (Fx.Vec)) (i : Nat) (x : (Int) × (Int) × (Int)) : List TV := [.val ((eSl .vec).pv c.1), .val (.fv (.one (.ref 0 0))), .val (.fv (.one (.ref 7 0))), .val (I x.1), .val (I x.2.1), .val (I x.2.2), .val (I ((i : Int) + 1))]
def rceMv (c : (List Fx.Vec) × (Fx.Vec)) (_i : Nat) (_x : (Int) × (Int) × (Int)) : List MRes := [.val (.blk 25 [.int .i64 0, .int .i64 0]), .val (.blk 25 [.int .i64 c.2.x, .int .i64 c.2.y])]
def rceDec : List TV → List MRes → Option (List Prop × ((List Fx.Vec) × (Fx.Vec)) × ((Int) × (Int) × (Int)))
  | [.val (.fv (.one (.slc false ⟨.vec, l⟩))), .val (.fv (.one (.ref 0 0))), .val (.fv (.one (.ref 7 0))), .val (I s), .val (I x), .val (I y), .val (I i)], [.val (.blk 25 [.int .i64 0, .int .i64 0]), .val (.blk 25 [.int .i64 ox, .int .i64 oy])] => some ([i = 1, l.length ≤ 8], (l, ⟨ox, oy⟩), (s, x, y))
  | _, _ => none
def rceOk (c : (List Fx.Vec) × (Fx.Vec)) : Prop := c.1.length ≤ 8
def rceInv (_c : (List Fx.Vec) × (Fx.Vec)) (_i : Nat) (_x : (Int) × (Int) × (Int)) : Prop := True
theorem rceDec_ok (ts : List TV) (ms : List MRes) (ps : List Prop) (c : (List Fx.Vec) × (Fx.Vec)) (x : (Int) × (Int) × (Int)) (h : rceDec ts ms = some (ps, c, x)) (hp : Conj ps) : ts = rceTv c 0 x ∧ ms = rceMv c 0 x ∧ rceOk c ∧ rceInv c 0 x := by
  unfold rceDec at h
  split at h
  · cases h
    obtain ⟨rfl, hok, _⟩ := hp
    exact ⟨rfl, rfl, hok, trivial⟩
  · cases h
def rceStep (c : (List Fx.Vec) × (Fx.Vec)) (i : Nat) (x : (Int) × (Int) × (Int)) : (Int) × (Int) × (Int) := ((Fx.w64 (x.1 + Fx.crossR c.1 ((i : Int) + 1))), (Fx.cenRX c.1 c.2 i x.2.1), (Fx.cenRY c.1 c.2 i x.2.2))
def rceV (c : (List Fx.Vec) × (Fx.Vec)) (i : Nat) (x : (Int) × (Int) × (Int)) : VT := VT.ite (decide (IntKind.i64.wrap ((i : Int) + 1 + 1) < (c.1.length : Int))) (VT.pre [0 ≤ (i : Int) + 1 ∧ (i : Int) + 1 < (c.1.length : Int), 0 ≤ Fx.w64 ((i : Int) + 1 + 1) ∧ Fx.w64 ((i : Int) + 1 + 1) < (c.1.length : Int), 1 ≤ (i : Int) + 1 ∧ (i : Int) + 1 + 1 < (c.1.length : Int) ∧ c.1.length ≤ 8] (VT.leaf Ex.norm 88 [.val ((eSl .vec).pv c.1), .val (.fv (.one (.ref 0 0))), .val (.fv (.one (.ref 7 0))), .val (I (Fx.w64 (x.1 + Fx.crossR c.1 ((i : Int) + 1)))), .val (I (Fx.cenRX c.1 c.2 i x.2.1)), .val (I (Fx.cenRY c.1 c.2 i x.2.2)), .val (I (IntKind.i64.wrap (((i : Int) + 1) + 1)))] [.val (.blk 25 [.int .i64 0, .int .i64 0]), .val (.blk 25 [.int .i64 c.2.x, .int .i64 c.2.y])])) (VT.leaf (Ex.exit 0) 88 [.val ((eSl .vec).pv c.1), .val (.fv (.one (.ref 0 0))), .val (.fv (.one (.ref 7 0))), .val (I x.1), .val (I x.2.1), .val (I x.2.2), .val (I ((i : Int) + 1))] [.val (.blk 25 [.int .i64 0, .int .i64 0]), .val (.blk 25 [.int .i64 c.2.x, .int .i64 c.2.y])])
theorem rceV_eq (c : (List Fx.Vec) × (Fx.Vec)) (i : Nat) (x : (Int) × (Int) × (Int)) : viewT [0, 2, 3, 4, 5, 6, 7] [0, 7] (sexec Tryz.prog (tbl rceL) (noLps) (lbN 0 Tryz.f113) (headSt 88 10 [0, 2, 3, 4, 5, 6, 7] [0, 7] (rceTv c i x) (rceMv c i x))) = rceV c i x := by kernel_rfl
noncomputable def rceT : St → Tree := forT0 88 10 [0, 2, 3, 4, 5, 6, 7] [0, 7] rceDec (fun c => c.1.length - 2) rceTv rceMv rceStep 0
theorem rceA : AllSound Tryz.prog rceL := (.cons rCross .nil)
theorem rceLoop : LoopOk Tryz.prog rceT (lbN 0 Tryz.f113) :=
  forT0_ok mixed rceA.tbl (noLoops (by kernel_rfl)) [0, 7] (bn := fun c => c.1.length ≤ maxLen) (inv := rceInv) rceDec_ok (fun _ _ => ⟨⟨.inr rfl, .inr rfl, .inr rfl, .inr rfl, .inr rfl, .inr rfl, .inr rfl, trivial⟩, ⟨.inr rfl, .inr rfl, trivial⟩, rfl, rfl, rfl⟩)
    (fun _ _ _ _ _ _ hr h1 h2 => by
      simp only [List.map_cons, rceTv, List.cons.injEq] at h1; exact len_le hr h1.1)
    (fun c i x hok hn hinv hi => ⟨_, rceV_eq c i x, by
      refine ⟨fun h => ?_, fun h => ?_⟩
      · have h : i < c.1.length - 2 := by rw [Fx.cond_two hi hn] at h; simpa using h
        refine ⟨(by unfold Fx.w64; rw [Fx.wrap_two hi hn]; exact ⟨⟨by omega, by omega⟩, ⟨by omega, by omega⟩, ⟨by omega, by omega, hok⟩, trivial⟩), ?_⟩
        rw [Fx.wrap_two' h hn]
        exact ⟨rfl, ((Fx.w64 (x.1 + Fx.crossR c.1 ((i : Int) + 1))), (Fx.cenRX c.1 c.2 i x.2.1), (Fx.cenRY c.1 c.2 i x.2.2)), [], h, by unfold rceStep; rfl, trivial, ⟨.inr rfl, .inr rfl, .inr rfl, .inr rfl, .inr rfl, .inr rfl, .inr rfl, trivial⟩, ⟨.inr rfl, .inr rfl, trivial⟩, rfl, rfl, rfl⟩
      · have h : ¬ i < c.1.length - 2 := by rw [Fx.cond_two hi hn] at h; simpa using h
        exact ⟨rfl, .inl ⟨rfl, by omega, [], ⟨.inr rfl, .inr rfl, .inr rfl, .inr rfl, .inr rfl, .inr rfl, .inr rfl, trivial⟩, ⟨.inr rfl, .inr rfl, trivial⟩, rfl, rfl, rfl⟩⟩⟩)
theorem cCen : Sound Tryz.prog 104 (c1 (eSl .vec) eV Fx.cen) :=
  con (lps := fun _ => cenT) mixed (AllSound.cons cCvx (.cons cFan (.cons cRdiv .nil))) Tryz.func104 (by kernel_rfl) (by kernel_rfl) (oneLoop (lps := fun _ => cenT) (b := (lbN 0 Tryz.f104)) (by kernel_rfl) cenLoop) (g1 (fun l => [(!Fx.cvx l) = false → 3 ≤ l.length ∧ l.length ≤ 8, (!Fx.cvx l) = false → ((Fx.fan l).2 == 0) = true → 0 ≤ (0 : Int) ∧ (0 : Int) < (l.length : Int), (!Fx.cvx l) = false → ((Fx.fan l).2 == 0) = false → ((Fx.fan l).1.length : Int) = (Fx.fan l).1.length, (!Fx.cvx l) = false → ((Fx.fan l).2 == 0) = false → (0 : Int) = 0, (!Fx.cvx l) = false → ((Fx.fan l).2 == 0) = false → 0 ≤ (0 : Int) ∧ (0 : Int) < (l.length : Int), (!Fx.cvx l) = false → ((Fx.fan l).2 == 0) = false → 0 ≤ (0 : Int) ∧ (0 : Int) < (l.length : Int)]) Fx.cen (fun l _ => have k := fun h : (!Fx.cvx l) = false => (show 3 ≤ l.length ∧ l.length ≤ 8 from Fx.cvx_len (l := l) (by simpa using h)); ⟨fun h => k h, fun h _ => ⟨by omega, by have := k h; omega⟩, fun _ _ => rfl, fun _ _ => rfl, fun h _ => ⟨by omega, by have := k h; omega⟩, fun h _ => ⟨by omega, by have := k h; omega⟩, trivial⟩) (fun _ _ => rfl) (fun _ => by kernel_rfl))
theorem rShort : Sound Tryz.prog 124 (c1 (eSl .vec) eI Fx.shortP) :=
  con (lps := fun _ => rseT) mixed (AllSound.cons rCvx (.cons rVsub (.cons rVlen .nil))) Tryz.func124 (by kernel_rfl) (by kernel_rfl) (oneLoop (lps := fun _ => rseT) (b := (lbN 0 Tryz.f124)) (by kernel_rfl) rseLoop) (g1 (fun l => [(!Fx.cvx l) = false → (0 : Int) = 0]) Fx.shortR (fun _ _ => ⟨fun _ => rfl, trivial⟩) (fun l _ => Fx.short_eq l) (fun _ => by kernel_rfl))
theorem rArea : Sound Tryz.prog 112 (c1 (eSl .vec) eI Fx.areaP) :=
  con (lps := fun _ => rarT) mixed (AllSound.cons rCvx (.cons rCross (.cons rRdiv .nil))) Tryz.func112 (by kernel_rfl) (by kernel_rfl) (oneLoop (lps := fun _ => rarT) (b := (lbN 0 Tryz.f112)) (by kernel_rfl) rarLoop) (g1 (fun l => [(!Fx.cvx l) = false → (1 : Int) = 1, (!Fx.cvx l) = false → l.length ≤ 8]) Fx.areaR (fun l _ => have k := fun h : (!Fx.cvx l) = false => (show 3 ≤ l.length ∧ l.length ≤ 8 from Fx.cvx_len (l := l) (by simpa using h)); ⟨fun _ => rfl, fun h => (k h).2, trivial⟩) (fun l _ => Fx.area_eq l) (fun _ => by kernel_rfl))
theorem rCen : Sound Tryz.prog 113 (c1 (eSl .vec) eV Fx.cen) :=
  con (lps := fun _ => rceT) mixed (AllSound.cons rCvx (.cons rCross (.cons rRdiv .nil))) Tryz.func113 (by kernel_rfl) (by kernel_rfl) (oneLoop (lps := fun _ => rceT) (b := (lbN 0 Tryz.f113)) (by kernel_rfl) rceLoop) (g1 (fun l => [(!Fx.cvx l) = false → 0 ≤ (0 : Int) ∧ (0 : Int) < (l.length : Int), (!Fx.cvx l) = false → (1 : Int) = 1, (!Fx.cvx l) = false → l.length ≤ 8]) Fx.cenRef (fun l _ => have k := fun h : (!Fx.cvx l) = false => (show 3 ≤ l.length ∧ l.length ≤ 8 from Fx.cvx_len (l := l) (by simpa using h)); ⟨fun h => ⟨by omega, by have := k h; omega⟩, fun _ => rfl, fun h => (k h).2, trivial⟩) (fun l _ => Fx.cen_eq l) (fun _ => by kernel_rfl))
end Go.Proofs.YtfjognghjiifaaaGreat
