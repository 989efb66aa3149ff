/- The contracts of shapes, program and reference. -/
import Derived.Test.YtfjognghjiifaaaGreatMasD
import Derived.Test.YtfjognghjiifaaaGreatEngShp
open Go Go.Eng
namespace Go.Proofs.YtfjognghjiifaaaGreat
open Go.Fx (an orr)

theorem cCnt : Sound Tryz.prog 95 (c1 eSh eB Fx.validN) :=
  con (lps := noLps) mixed .nil Tryz.func95 (by kernel_rfl) (by kernel_rfl) (noLoops (by kernel_rfl)) (k1 (fun _ => by kernel_rfl))
theorem cOor : Sound Tryz.prog 98 (c1 eI eB Fx.oor) :=
  con (lps := noLps) mixed .nil Tryz.func98 (by kernel_rfl) (by kernel_rfl) (noLoops (by kernel_rfl)) (k1 (fun _ => by kernel_rfl))
theorem cFar : Sound Tryz.prog 97 (c1 eV eB Fx.vfar) :=
  con (lps := noLps) mixed (.cons cOor .nil) Tryz.func97 (by kernel_rfl) (by kernel_rfl) (noLoops (by kernel_rfl)) (k1 (fun _ => by kernel_rfl))
noncomputable def ixvL : List (FuncId × Contract) := [(97, c1 eV eB Fx.vfar)]
def ixvTv (c : (List Fx.Vec)) (i : Nat) (_x : Unit) : List TV := [.val ((eSl .vec).pv c), .val ((eFn 97).pv ()), .val (I 0), .val ((eSl .vec).pv c), .val (I c.length), .val (I (i : Int))]
def ixvMv (_c : (List Fx.Vec)) (_i : Nat) (_x : Unit) : List MRes := []
def ixvEtv (_c : (List Fx.Vec)) (e : Int) : List TV := [.any, .any, .val (I e), .any, .any, .any]
def ixvEmv (_c : (List Fx.Vec)) (_e : Int) : List MRes := []
def ixvDec : List TV → List MRes → Option (List Prop × ((List Fx.Vec)) × (Unit))
  | [.val (.fv (.one (.slc false ⟨.vec, l⟩))), .val v, .val (I r), .val (.fv (.one (.slc false ⟨.vec, m⟩))), .val (I n), .val (I i)], [] => some ([v = (eFn 97).pv (), r = 0, m = l, n = l.length, i = 0], (l), ())
  | _, _ => none
def ixvOk (_c : (List Fx.Vec)) : Prop := True
def ixvInv (_c : (List Fx.Vec)) (_i : Nat) (_x : Unit) : Prop := True
theorem ixvDec_ok (ts : List TV) (ms : List MRes) (ps : List Prop) (c : (List Fx.Vec)) (x : Unit) (h : ixvDec ts ms = some (ps, c, x)) (hp : Conj ps) : ts = ixvTv c 0 x ∧ ms = ixvMv c 0 x ∧ ixvOk c ∧ ixvInv c 0 x := by
  unfold ixvDec at h
  split at h
  · cases h
    obtain ⟨rfl, rfl, rfl, rfl, rfl, _⟩ := hp
    exact ⟨rfl, rfl, trivial, trivial⟩
  · cases h
def ixvStep (c : (List Fx.Vec)) (i : Nat) (_x : Unit) : Sum (Unit) (Int) := bif Fx.vfar (c.getD i ⟨0, 0⟩) then .inr (i : Int) else .inl ()
def ixvV (c : (List Fx.Vec)) (i : Nat) (_x : Unit) : VT := VT.ite (decide ((i : Int) < (c.length : Int))) (VT.pre [0 ≤ (i : Int) ∧ (i : Int) < ((c).length : Int)] (VT.ite (Fx.vfar (c.getD i ⟨0, 0⟩)) (VT.leaf (Ex.ret) 19 [.val ((eSl .vec).pv c), .val ((eFn 97).pv ()), .val (I (i : Int)), .val ((eSl .vec).pv c), .val (I c.length), .val (I (i : Int))] []) (VT.leaf Ex.norm 19 [.val ((eSl .vec).pv c), .val ((eFn 97).pv ()), .val (I 0), .val ((eSl .vec).pv c), .val (I c.length), .val (I (IntKind.i64.wrap ((i : Int) + 1)))] []))) (VT.leaf (Ex.exit 0) 19 [.val ((eSl .vec).pv c), .val ((eFn 97).pv ()), .val (I 0), .val ((eSl .vec).pv c), .val (I c.length), .val (I (i : Int))] [])
theorem ixvV_eq (c : (List Fx.Vec)) (i : Nat) (x : Unit) : viewT [0, 1, 4, 6, 7, 8] [] (sexec Tryz.prog (tbl ixvL) (noLps) (lbN 0 Tryz.f115) (headSt 19 4 [0, 1, 4, 6, 7, 8] [] (ixvTv c i x) (ixvMv c i x))) = ixvV c i x := by kernel_rfl
noncomputable def ixvT : St → Tree := forT 19 4 [0, 1, 4, 6, 7, 8] [] ixvDec (fun c => c.length) ixvTv ixvMv ixvEtv ixvEmv ixvStep 0 0 .ret
theorem ixvA : AllSound Tryz.prog ixvL := (.cons cFar .nil)
theorem ixvLoop : LoopOk Tryz.prog ixvT (lbN 0 Tryz.f115) :=
  forT_ok mixed ixvA.tbl (noLoops (by kernel_rfl)) [] (bn := fun c => c.length ≤ maxLen) (inv := ixvInv) ixvDec_ok (fun _ _ => ⟨⟨.inr rfl, .inr rfl, .inr rfl, .inr rfl, .inr rfl, .inr rfl, trivial⟩, trivial, rfl, rfl, rfl⟩)
    (fun _ _ _ _ _ _ hr h1 h2 => by
      simp only [List.map_cons, ixvTv, List.cons.injEq] at h1; exact len_le hr h1.1)
    (fun c i x hok hn hinv hi => ⟨_, ixvV_eq c i x, by
      refine ⟨fun h => ?_, fun h => ?_⟩
      · have h : i < c.length := by simpa using h
        refine ⟨⟨⟨by omega, by first | omega | (have := h; omega)⟩, trivial⟩, ?_⟩
        refine ⟨fun hb2 => ?_, fun hb2 => ?_⟩
        · exact ⟨rfl, .inr ⟨rfl, h, (i : Int), [], by unfold ixvStep; first | rfl | ((try dsimp only); (try rw [hb2]); rfl), ⟨.inl rfl, .inl rfl, .inr rfl, .inl rfl, .inl rfl, .inl rfl, trivial⟩, trivial, rfl, rfl, rfl⟩⟩
        · rw [wrap_succ h hn]
          exact ⟨rfl, (), [], h, by unfold ixvStep; first | rfl | ((try dsimp only); (try rw [hb2]); rfl), trivial, ⟨.inr rfl, .inr rfl, .inr rfl, .inr rfl, .inr rfl, .inr rfl, trivial⟩, trivial, rfl, rfl, rfl⟩
      · have h : ¬ i < c.length := by simpa using h
        exact ⟨rfl, .inl ⟨rfl, by omega, [], ⟨.inr rfl, .inr rfl, .inr rfl, .inr rfl, .inr rfl, .inr rfl, trivial⟩, trivial, rfl, rfl, rfl⟩⟩⟩)
theorem cIxv : Sound Tryz.prog 115 (c2 (eSl .vec) (eFn 97) eI Fx.farIdx) :=
  con (lps := fun _ => ixvT) mixed (AllSound.cons cFar .nil) Tryz.func115 (by kernel_rfl) (by kernel_rfl) (oneLoop (lps := fun _ => ixvT) (b := (lbN 0 Tryz.f115)) (by kernel_rfl) ixvLoop) (g2 (fun l _ => [(eFn 97).pv () = (eFn 97).pv (), (0 : Int) = 0, l = l, (l.length : Int) = l.length, (0 : Int) = 0]) Fx.farIdx (fun _ _ _ => ⟨rfl, rfl, rfl, rfl, rfl, trivial⟩) (fun _ _ _ => rfl) (fun _ _ => by kernel_rfl))
theorem cAnyv : Sound Tryz.prog 96 (c2 (eSl .vec) (eFn 97) eB Fx.farAny2) :=
  con (lps := noLps) mixed (.cons cIxv .nil) Tryz.func96 (by kernel_rfl) (by kernel_rfl) (noLoops (by kernel_rfl)) (g2 (fun _ _ => []) (fun l u => decide (Fx.farIdx l u ≥ 0)) (fun _ _ _ => trivial) (fun l u _ => Fx.far_any l u) (fun _ _ => by kernel_rfl))
theorem rCnt : Sound Tryz.prog 121 (c1 eSh eB Fx.cntR) :=
  con (lps := noLps) mixed .nil Tryz.func121 (by kernel_rfl) (by kernel_rfl) (noLoops (by kernel_rfl)) (k1 (fun _ => by kernel_rfl))
theorem rWth : Sound Tryz.prog 122 (c2 eI eI eB Fx.wthn) :=
  con (lps := noLps) mixed .nil Tryz.func122 (by kernel_rfl) (by kernel_rfl) (noLoops (by kernel_rfl)) (k2 (fun _ _ => by kernel_rfl))
noncomputable def rvlL : List (FuncId × Contract) := [(122, c2 eI eI eB Fx.wthn)]
def rvlTv (_c : (Shp)) (i : Nat) (_x : Unit) : List TV := [.val (.fv (.one (.ref 0 0))), .val (I 0), .val (I (i : Int))]
def rvlMv (c : (Shp)) (_i : Nat) (_x : Unit) : List MRes := [.val (.blk 58 (shG c))]
def rvlEtv (_c : (Shp)) (_e : Unit) : List TV := [.any, .val (I 6), .any]
def rvlEmv (_c : (Shp)) (_e : Unit) : List MRes := [.lost]
def rvlDec : List TV → List MRes → Option (List Prop × ((Shp)) × (Unit))
  | [.val (.fv (.one (.ref 0 0))), .val (I r), .val (I i)], [.val (.blk 58 [.int .i64 k, .int .i64 ra, .slc false ⟨.vec, vs⟩])] => some ([r = 0, i = 0], ⟨k, ra, vs⟩, ())
  | _, _ => none
def rvlOk (_c : (Shp)) : Prop := True
def rvlInv (_c : (Shp)) (_i : Nat) (_x : Unit) : Prop := True
theorem rvlDec_ok (ts : List TV) (ms : List MRes) (ps : List Prop) (c : (Shp)) (x : Unit) (h : rvlDec ts ms = some (ps, c, x)) (hp : Conj ps) : ts = rvlTv c 0 x ∧ ms = rvlMv c 0 x ∧ rvlOk c ∧ rvlInv c 0 x := by
  unfold rvlDec at h
  split at h
  · cases h
    obtain ⟨rfl, rfl, _⟩ := hp
    exact ⟨rfl, rfl, trivial, trivial⟩
  · cases h
def rvlStep (c : (Shp)) (i : Nat) (_x : Unit) : Sum (Unit) (Unit) := bif orr (!Fx.wthn (c.vs.getD i ⟨0, 0⟩).x 1048576) (!Fx.wthn (c.vs.getD i ⟨0, 0⟩).y 1048576) then .inr () else .inl ()
def rvlV (c : (Shp)) (i : Nat) (_x : Unit) : VT := VT.ite (decide ((i : Int) < (c.vs.length : Int))) (VT.pre [0 ≤ (i : Int) ∧ (i : Int) < (c.vs.length : Int), (!Fx.wthn (c.vs.getD i ⟨0, 0⟩).x 1048576) = false → 0 ≤ (i : Int) ∧ (i : Int) < (c.vs.length : Int)] (VT.ite (orr (!Fx.wthn (c.vs.getD i ⟨0, 0⟩).x 1048576) (!Fx.wthn (c.vs.getD i ⟨0, 0⟩).y 1048576)) (VT.leaf (Ex.ret) 100 [.val (.fv (.one (.ref 0 0))), .val (I 6), .val (I (i : Int))] [.val (.blk 58 (shG c))]) (VT.leaf Ex.norm 100 [.val (.fv (.one (.ref 0 0))), .val (I 0), .val (I (IntKind.i64.wrap ((i : Int) + 1)))] [.val (.blk 58 (shG c))]))) (VT.leaf (Ex.exit 0) 100 [.val (.fv (.one (.ref 0 0))), .val (I 0), .val (I (i : Int))] [.val (.blk 58 (shG c))])
theorem rvlV_eq (c : (Shp)) (i : Nat) (x : Unit) : viewT [1, 2, 3] [0] (sexec Tryz.prog (tbl rvlL) (noLps) (lbN 0 Tryz.f109) (headSt 100 14 [1, 2, 3] [0] (rvlTv c i x) (rvlMv c i x))) = rvlV c i x := by kernel_rfl
noncomputable def rvlT : St → Tree := forT 100 14 [1, 2, 3] [0] rvlDec (fun c => c.vs.length) rvlTv rvlMv rvlEtv rvlEmv rvlStep () 0 .ret
theorem rvlA : AllSound Tryz.prog rvlL := (.cons rWth .nil)
theorem rvlLoop : LoopOk Tryz.prog rvlT (lbN 0 Tryz.f109) :=
  forT_ok mixed rvlA.tbl (noLoops (by kernel_rfl)) [0] (bn := fun c => c.vs.length ≤ maxLen) (inv := rvlInv) rvlDec_ok (fun _ _ => ⟨⟨.inr rfl, .inr rfl, .inr rfl, trivial⟩, ⟨.inr rfl, trivial⟩, rfl, rfl, rfl⟩)
    (fun _ _ _ _ _ _ hr h1 h2 => by
      simp only [List.map_cons, rvlMv, List.cons.injEq] at h2; exact blk_le (j := 2) hr h2.1 rfl)
    (fun c i x hok hn hinv hi => ⟨_, rvlV_eq c i x, by
      refine ⟨fun h => ?_, fun h => ?_⟩
      · have h : i < c.vs.length := by simpa using h
        refine ⟨⟨⟨by omega, by omega⟩, fun _ => ⟨by omega, by omega⟩, trivial⟩, ?_⟩
        refine ⟨fun hb2 => ?_, fun hb2 => ?_⟩
        · exact ⟨rfl, .inr ⟨rfl, h, (), [], by unfold rvlStep; first | rfl | ((try dsimp only); (try rw [hb2]); rfl), ⟨.inl rfl, .inr rfl, .inl rfl, trivial⟩, ⟨.inl rfl, trivial⟩, rfl, rfl, rfl⟩⟩
        · rw [wrap_succ h hn]
          exact ⟨rfl, (), [], h, by unfold rvlStep; first | rfl | ((try dsimp only); (try rw [hb2]); rfl), trivial, ⟨.inr rfl, .inr rfl, .inr rfl, trivial⟩, ⟨.inr rfl, trivial⟩, rfl, rfl, rfl⟩
      · have h : ¬ i < c.vs.length := by simpa using h
        exact ⟨rfl, .inl ⟨rfl, by omega, [], ⟨.inr rfl, .inr rfl, .inr rfl, trivial⟩, ⟨.inr rfl, trivial⟩, rfl, rfl, rfl⟩⟩⟩)
theorem svalEq (cm : Shp → Bool) (far : List Fx.Vec → Bool) (vl : Fx.Vec → Int) (cv : List Fx.Vec → Bool) (sh ar : List Fx.Vec → Int) (s : Shp) : symFn Tryz.prog (tbl [(95, c1 eSh eB cm), (96, c2 (eSl .vec) (eFn 97) eB (fun l _ => far l)), (35, c2 eV eV eV Fx.vsub), (99, c1 eV eI vl), (100, c1 (eSl .vec) eB cv), (101, c1 (eSl .vec) eI sh), (102, c1 (eSl .vec) eI ar)]) noLps 85 [eSh.pv s] = some (Fx.serrPQ cm far s, eI.pv (Fx.serrP cm far vl cv sh ar s)) := by kernel_rfl
theorem cSval : Sound Tryz.prog 85 (c1 eSh eI Fx.shErr) :=
  con (lps := noLps) mixed (l := [(95, c1 eSh eB Fx.validN), (96, c2 (eSl .vec) (eFn 97) eB (fun l _ => Fx.farAny l)), (35, c2 eV eV eV Fx.vsub), (99, c1 eV eI Fx.vlen), (100, c1 (eSl .vec) eB Fx.cvx), (101, c1 (eSl .vec) eI Fx.shortP), (102, c1 (eSl .vec) eI Fx.areaP)]) (.cons cCnt (.cons cAnyv (.cons cVsub (.cons cVlen (.cons cCvx (.cons cShort (.cons cArea .nil))))))) Tryz.func85 (by kernel_rfl) (by kernel_rfl) (noLoops (by kernel_rfl)) (g1 (fun s => Fx.serrPQ Fx.validN Fx.farAny s) Fx.shErr (fun s _ => Fx.serrPQ_ok s) (fun _ _ => rfl) (fun s => svalEq Fx.validN Fx.farAny Fx.vlen Fx.cvx Fx.shortP Fx.areaP s))
theorem svalREq (cm : Shp → Bool) (vl : Fx.Vec → Int) (cv : List Fx.Vec → Bool) (sh ar : List Fx.Vec → Int) (s : Shp) : symFn Tryz.prog (tbl [(121, c1 eSh eB cm), (42, c2 eV eV eV Fx.vsub), (110, c1 eV eI vl), (123, c1 (eSl .vec) eB cv), (124, c1 (eSl .vec) eI sh), (112, c1 (eSl .vec) eI ar)]) (fun _ => rvlT) 109 [eSh.pv s] = some (Fx.serrRQ cm Fx.nearAll s, eI.pv (Fx.serrR cm Fx.nearAll vl cv sh ar s)) := by kernel_rfl
theorem rSval : Sound Tryz.prog 109 (c1 eSh eI Fx.shErr) :=
  con (lps := fun _ => rvlT) mixed (l := [(121, c1 eSh eB Fx.cntR), (42, c2 eV eV eV Fx.vsub), (110, c1 eV eI Fx.vlenR), (123, c1 (eSl .vec) eB Fx.cvx), (124, c1 (eSl .vec) eI Fx.shortP), (112, c1 (eSl .vec) eI Fx.areaP)]) (.cons rCnt (.cons rVsub (.cons rVlen (.cons rCvx (.cons rShort (.cons rArea .nil)))))) Tryz.func109 (by kernel_rfl) (by kernel_rfl) (oneLoop (lps := fun _ => rvlT) (b := lbN 0 Tryz.f109) (by kernel_rfl) rvlLoop) (g1 (fun s => Fx.serrRQ Fx.cntR Fx.nearAll s) Fx.shErrR (fun s _ => Fx.serrRQ_ok s) (fun s _ => Fx.shErr_eq s) (fun s => svalREq Fx.cntR Fx.vlenR Fx.cvx Fx.shortP Fx.areaP s))
end Go.Proofs.YtfjognghjiifaaaGreat
