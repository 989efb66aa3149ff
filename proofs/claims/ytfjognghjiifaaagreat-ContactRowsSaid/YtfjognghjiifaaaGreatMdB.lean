/- The contracts of masses, second part. -/
import Derived.Test.YtfjognghjiifaaaGreatMd
open Go Go.Eng
namespace Go.Proofs.YtfjognghjiifaaaGreat
open Go.Fx (an orr)

noncomputable def rcmL : List (FuncId × Contract) := [(65, f1 Fx.sat), (47, f2 Fx.add)]
def rcmTv (c : (List Fx.Md)) (i : Nat) (x : (Int) × (Int) × (Int) × (Int)) : List TV := [.val ((eSl .md).pv c), .val (.fv (.one (.ref 0 0))), .val (.fv (.one (.ref 4 0))), .val (I x.2.1), .val (I x.2.2.1), .val (I x.2.2.2), .val (I (i : Int))]
def rcmMv (_c : (List Fx.Md)) (_i : Nat) (x : (Int) × (Int) × (Int) × (Int)) : List MRes := [.val (.blk 79 [.int .i64 0, .int .i64 0, .int .i64 0, .int .i64 0]), .val (.blk 79 [.int .i64 x.1, .int .i64 0, .int .i64 0, .int .i64 0])]
def rcmEtv (_c : (List Fx.Md)) (_e : Unit) : List TV := [.any, .val (.fv (.one (.ref 0 0))), .any, .any, .any, .any, .any]
def rcmEmv (_c : (List Fx.Md)) (_e : Unit) : List MRes := [.val (.blk 79 [.int .i64 0, .int .i64 0, .int .i64 0, .int .i64 0]), .lost]
def rcmDec : List TV → List MRes → Option (List Prop × ((List Fx.Md)) × ((Int) × (Int) × (Int) × (Int)))
  | [.val (.fv (.one (.slc false ⟨.md, l⟩))), .val (.fv (.one (.ref 0 0))), .val (.fv (.one (.ref 4 0))), .val (I m), .val (I x), .val (I y), .val (I i)], [.val (.blk 79 [.int .i64 0, .int .i64 0, .int .i64 0, .int .i64 0]), .val (.blk 79 [.int .i64 g, .int .i64 0, .int .i64 0, .int .i64 0])] => some ([i = 0], (l), (g, m, x, y))
  | _, _ => none
def rcmOk (_c : (List Fx.Md)) : Prop := True
def rcmInv (_c : (List Fx.Md)) (_i : Nat) (_x : (Int) × (Int) × (Int) × (Int)) : Prop := True
theorem rcmDec_ok (ts : List TV) (ms : List MRes) (ps : List Prop) (c : (List Fx.Md)) (x : (Int) × (Int) × (Int) × (Int)) (h : rcmDec ts ms = some (ps, c, x)) (hp : Conj ps) : ts = rcmTv c 0 x ∧ ms = rcmMv c 0 x ∧ rcmOk c ∧ rcmInv c 0 x := by
  unfold rcmDec at h
  split at h
  · cases h
    obtain ⟨rfl, _⟩ := hp
    exact ⟨rfl, rfl, trivial, trivial⟩
  · cases h
def rcmStep (c : (List Fx.Md)) (i : Nat) (x : (Int) × (Int) × (Int) × (Int)) : Sum ((Int) × (Int) × (Int) × (Int)) (Unit) := bif Fx.mneg (c.getD i ⟨0, 0, 0, 0⟩) then .inr () else .inl ((Fx.add x.1 (Fx.sat (c.getD i ⟨0, 0, 0, 0⟩).m)), (Fx.w64 (x.2.1 + Fx.sat (c.getD i ⟨0, 0, 0, 0⟩).m)), (Fx.w64 (x.2.2.1 + Fx.w64 (Fx.sat (c.getD i ⟨0, 0, 0, 0⟩).m * Fx.sat (c.getD i ⟨0, 0, 0, 0⟩).cx))), (Fx.w64 (x.2.2.2 + Fx.w64 (Fx.sat (c.getD i ⟨0, 0, 0, 0⟩).m * Fx.sat (c.getD i ⟨0, 0, 0, 0⟩).cy))))
def rcmV (c : (List Fx.Md)) (i : Nat) (x : (Int) × (Int) × (Int) × (Int)) : VT := VT.ite (decide ((i : Int) < (c.length : Int))) (VT.pre [0 ≤ (i : Int) ∧ (i : Int) < ((c).length : Int)] (VT.ite (Fx.mneg (c.getD i ⟨0, 0, 0, 0⟩)) (VT.leaf (Ex.ret) 111 [.val ((eSl .md).pv c), .val (.fv (.one (.ref 0 0))), .val (.fv (.one (.ref 4 0))), .val (I x.2.1), .val (I x.2.2.1), .val (I x.2.2.2), .val (I (i : Int))] [.val (.blk 79 [.int .i64 0, .int .i64 0, .int .i64 0, .int .i64 0]), .val (.blk 79 [.int .i64 x.1, .int .i64 0, .int .i64 0, .int .i64 0])]) (VT.pre [0 ≤ (i : Int) ∧ (i : Int) < ((c).length : Int)] (VT.pre [0 ≤ (i : Int) ∧ (i : Int) < ((c).length : Int)] (VT.pre [0 ≤ (i : Int) ∧ (i : Int) < ((c).length : Int)] (VT.leaf Ex.norm 111 [.val ((eSl .md).pv c), .val (.fv (.one (.ref 0 0))), .val (.fv (.one (.ref 4 0))), .val (I (Fx.w64 (x.2.1 + Fx.sat (c.getD i ⟨0, 0, 0, 0⟩).m))), .val (I (Fx.w64 (x.2.2.1 + Fx.w64 (Fx.sat (c.getD i ⟨0, 0, 0, 0⟩).m * Fx.sat (c.getD i ⟨0, 0, 0, 0⟩).cx)))), .val (I (Fx.w64 (x.2.2.2 + Fx.w64 (Fx.sat (c.getD i ⟨0, 0, 0, 0⟩).m * Fx.sat (c.getD i ⟨0, 0, 0, 0⟩).cy)))), .val (I (IntKind.i64.wrap ((i : Int) + 1)))] [.val (.blk 79 [.int .i64 0, .int .i64 0, .int .i64 0, .int .i64 0]), .val (.blk 79 [.int .i64 (Fx.add x.1 (Fx.sat (c.getD i ⟨0, 0, 0, 0⟩).m)), .int .i64 0, .int .i64 0, .int .i64 0])])))))) (VT.leaf (Ex.exit 0) 111 [.val ((eSl .md).pv c), .val (.fv (.one (.ref 0 0))), .val (.fv (.one (.ref 4 0))), .val (I x.2.1), .val (I x.2.2.1), .val (I x.2.2.2), .val (I (i : Int))] [.val (.blk 79 [.int .i64 0, .int .i64 0, .int .i64 0, .int .i64 0]), .val (.blk 79 [.int .i64 x.1, .int .i64 0, .int .i64 0, .int .i64 0])])
theorem rcmV_eq (c : (List Fx.Md)) (i : Nat) (x : (Int) × (Int) × (Int) × (Int)) : viewT [0, 2, 3, 4, 5, 6, 7] [0, 4] (sexec Tryz.prog (tbl rcmL) (noLps) (lbN 0 Tryz.f94) (headSt 111 9 [0, 2, 3, 4, 5, 6, 7] [0, 4] (rcmTv c i x) (rcmMv c i x))) = rcmV c i x := by kernel_rfl
noncomputable def rcmT : St → Tree := forT 111 9 [0, 2, 3, 4, 5, 6, 7] [0, 4] rcmDec (fun c => c.length) rcmTv rcmMv rcmEtv rcmEmv rcmStep () 0 .ret
theorem rcmA : AllSound Tryz.prog rcmL := (.cons rSat (.cons rAdd .nil))
theorem rcmLoop : LoopOk Tryz.prog rcmT (lbN 0 Tryz.f94) :=
  forT_ok mixed rcmA.tbl (noLoops (by kernel_rfl)) [0, 4] (bn := fun c => c.length ≤ maxLen) (inv := rcmInv) rcmDec_ok (fun _ _ => ⟨⟨.inr rfl, .inr rfl, .inr rfl, .inr rfl, .inr rfl, .inr rfl, .inr rfl, trivial⟩, ⟨.inr rfl, .inr rfl, trivial⟩, rfl, rfl, rfl⟩)
    (fun _ _ _ _ _ _ hr h1 h2 => by
      simp only [List.map_cons, rcmTv, List.cons.injEq] at h1; exact len_le hr h1.1)
    (fun c i x hok hn hinv hi => ⟨_, rcmV_eq c i x, by
      refine ⟨fun h => ?_, fun h => ?_⟩
      · have h : i < c.length := by simpa using h
        refine ⟨⟨⟨by omega, by first | omega | (have := h; omega)⟩, trivial⟩, ?_⟩
        refine ⟨fun hb2 => ?_, fun hb2 => ?_⟩
        · exact ⟨rfl, .inr ⟨rfl, h, (), [], by unfold rcmStep; first | rfl | ((try dsimp only); (try rw [hb2]); rfl), ⟨.inl rfl, .inr rfl, .inl rfl, .inl rfl, .inl rfl, .inl rfl, .inl rfl, trivial⟩, ⟨.inr rfl, .inl rfl, trivial⟩, rfl, rfl, rfl⟩⟩
        · refine ⟨⟨⟨by omega, by first | omega | (have := h; omega)⟩, trivial⟩, ?_⟩
          refine ⟨⟨⟨by omega, by first | omega | (have := h; omega)⟩, trivial⟩, ?_⟩
          refine ⟨⟨⟨by omega, by first | omega | (have := h; omega)⟩, trivial⟩, ?_⟩
          rw [wrap_succ h hn]
          exact ⟨rfl, ((Fx.add x.1 (Fx.sat (c.getD i ⟨0, 0, 0, 0⟩).m)), (Fx.w64 (x.2.1 + Fx.sat (c.getD i ⟨0, 0, 0, 0⟩).m)), (Fx.w64 (x.2.2.1 + Fx.w64 (Fx.sat (c.getD i ⟨0, 0, 0, 0⟩).m * Fx.sat (c.getD i ⟨0, 0, 0, 0⟩).cx))), (Fx.w64 (x.2.2.2 + Fx.w64 (Fx.sat (c.getD i ⟨0, 0, 0, 0⟩).m * Fx.sat (c.getD i ⟨0, 0, 0, 0⟩).cy)))), [], h, by unfold rcmStep; first | rfl | ((try dsimp only); (try rw [hb2]); rfl), trivial, ⟨.inr rfl, .inr rfl, .inr rfl, .inr rfl, .inr rfl, .inr rfl, .inr rfl, trivial⟩, ⟨.inr rfl, .inr rfl, trivial⟩, rfl, rfl, rfl⟩
      · have h : ¬ i < c.length := by simpa using h
        exact ⟨rfl, .inl ⟨rfl, by omega, [], ⟨.inr rfl, .inr rfl, .inr rfl, .inr rfl, .inr rfl, .inr rfl, .inr rfl, trivial⟩, ⟨.inr rfl, .inr rfl, trivial⟩, rfl, rfl, rfl⟩⟩⟩)
noncomputable def cm2L : List (FuncId × Contract) := [(35, c2 eV eV eV Fx.vsub), (62, c2 eV eV eI Fx.vdot), (39, f2 Fx.add), (30, f2 Fx.mul)]
def cm2Tv (c : (List Fx.Md) × (Int) × (Fx.Vec)) (i : Nat) (_x : (Int)) : List TV := [.val (.fv (.one (.ref 0 0))), .val (.fv (.one (.ref 8 0))), .val ((eSl .md).pv c.1), .val (I c.1.length), .val (I (i : Int))]
def cm2Mv (c : (List Fx.Md) × (Int) × (Fx.Vec)) (_i : Nat) (x : (Int)) : List MRes := [.val (.blk 79 [.int .i64 0, .int .i64 0, .int .i64 0, .int .i64 0]), .val (.blk 79 [.int .i64 c.2.1, .int .i64 c.2.2.x, .int .i64 c.2.2.y, .int .i64 x])]
def cm2Dec : List TV → List MRes → Option (List Prop × ((List Fx.Md) × (Int) × (Fx.Vec)) × ((Int)))
  | [.val (.fv (.one (.ref 0 0))), .val (.fv (.one (.ref 8 0))), .val (.fv (.one (.slc false ⟨.md, l⟩))), .val (I n), .val (I i)], [.val (.blk 79 [.int .i64 0, .int .i64 0, .int .i64 0, .int .i64 0]), .val (.blk 79 [.int .i64 g, .int .i64 ox, .int .i64 oy, .int .i64 r])] => some ([n = l.length, i = 0], (l, g, ⟨ox, oy⟩), (r))
  | _, _ => none
def cm2Ok (_c : (List Fx.Md) × (Int) × (Fx.Vec)) : Prop := True
def cm2Inv (_c : (List Fx.Md) × (Int) × (Fx.Vec)) (_i : Nat) (_x : (Int)) : Prop := True
theorem cm2Dec_ok (ts : List TV) (ms : List MRes) (ps : List Prop) (c : (List Fx.Md) × (Int) × (Fx.Vec)) (x : (Int)) (h : cm2Dec ts ms = some (ps, c, x)) (hp : Conj ps) : ts = cm2Tv c 0 x ∧ ms = cm2Mv c 0 x ∧ cm2Ok c ∧ cm2Inv c 0 x := by
  unfold cm2Dec at h
  split at h
  · cases h
    obtain ⟨rfl, rfl, _⟩ := hp
    exact ⟨rfl, rfl, trivial, trivial⟩
  · cases h
def cm2Step (c : (List Fx.Md) × (Int) × (Fx.Vec)) (i : Nat) (x : (Int)) : (Int) := ((Fx.comb2 c.1 c.2.2 i x))
def cm2V (c : (List Fx.Md) × (Int) × (Fx.Vec)) (i : Nat) (x : (Int)) : VT := VT.ite (decide ((i : Int) < (c.1.length : Int))) (VT.pre [0 ≤ (i : Int) ∧ (i : Int) < ((c.1).length : Int)] (VT.leaf Ex.norm 91 [.val (.fv (.one (.ref 0 0))), .val (.fv (.one (.ref 8 0))), .val ((eSl .md).pv c.1), .val (I c.1.length), .val (I (IntKind.i64.wrap ((i : Int) + 1)))] [.val (.blk 79 [.int .i64 0, .int .i64 0, .int .i64 0, .int .i64 0]), .val (.blk 79 [.int .i64 c.2.1, .int .i64 c.2.2.x, .int .i64 c.2.2.y, .int .i64 (Fx.comb2 c.1 c.2.2 i x)])])) (VT.leaf (Ex.exit 2) 91 [.val (.fv (.one (.ref 0 0))), .val (.fv (.one (.ref 8 0))), .val ((eSl .md).pv c.1), .val (I c.1.length), .val (I (i : Int))] [.val (.blk 79 [.int .i64 0, .int .i64 0, .int .i64 0, .int .i64 0]), .val (.blk 79 [.int .i64 c.2.1, .int .i64 c.2.2.x, .int .i64 c.2.2.y, .int .i64 x])])
theorem cm2V_eq (c : (List Fx.Md) × (Int) × (Fx.Vec)) (i : Nat) (x : (Int)) : viewT [2, 3, 65, 66, 67] [0, 8] (sexec Tryz.prog (tbl cm2L) (noLps) (lbN 1 Tryz.f77) (headSt 91 20 [2, 3, 65, 66, 67] [0, 8] (cm2Tv c i x) (cm2Mv c i x))) = cm2V c i x := by kernel_rfl
noncomputable def cm2T : St → Tree := forT0 91 20 [2, 3, 65, 66, 67] [0, 8] cm2Dec (fun c => c.1.length) cm2Tv cm2Mv cm2Step 2
theorem cm2A : AllSound Tryz.prog cm2L := (.cons cVsub (.cons cVdot (.cons cAdd (.cons cMul .nil))))
theorem cm2Loop : LoopOk Tryz.prog cm2T (lbN 1 Tryz.f77) :=
  forT0_ok mixed cm2A.tbl (noLoops (by kernel_rfl)) [0, 8] (bn := fun c => c.1.length ≤ maxLen) (inv := cm2Inv) cm2Dec_ok (fun _ _ => ⟨⟨.inr rfl, .inr rfl, .inr rfl, .inr rfl, .inr rfl, trivial⟩, ⟨.inr rfl, .inr rfl, trivial⟩, rfl, rfl, rfl⟩)
    (fun _ _ _ _ _ _ hr h1 h2 => by
      simp only [List.map_cons, cm2Tv, List.cons.injEq] at h1; exact len_le hr h1.2.2.1)
    (fun c i x hok hn hinv hi => ⟨_, cm2V_eq c i x, by
      refine ⟨fun h => ?_, fun h => ?_⟩
      · have h : i < c.1.length := by simpa using h
        refine ⟨⟨⟨by omega, by first | omega | (have := h; omega)⟩, trivial⟩, ?_⟩
        rw [wrap_succ h hn]
        exact ⟨rfl, ((Fx.comb2 c.1 c.2.2 i x)), [], h, by unfold cm2Step; rfl, trivial, ⟨.inr rfl, .inr rfl, .inr rfl, .inr rfl, .inr rfl, trivial⟩, ⟨.inr rfl, .inr rfl, trivial⟩, rfl, rfl, rfl⟩
      · have h : ¬ i < c.1.length := by simpa using h
        exact ⟨rfl, .inl ⟨rfl, by omega, [], ⟨.inr rfl, .inr rfl, .inr rfl, .inr rfl, .inr rfl, trivial⟩, ⟨.inr rfl, .inr rfl, trivial⟩, rfl, rfl, rfl⟩⟩⟩)
noncomputable def rcnL : List (FuncId × Contract) := [(42, c2 eV eV eV Fx.vsub), (71, c2 eV eV eI Fx.vdot), (47, f2 Fx.add), (49, f2 Fx.mul)]
def rcnTv (c : (List Fx.Md) × (Int) × (Fx.Vec)) (i : Nat) (_x : (Int)) : List TV := [.val ((eSl .md).pv c.1), .val (.fv (.one (.ref 0 0))), .val (.fv (.one (.ref 4 0))), .val (I (i : Int))]
def rcnMv (c : (List Fx.Md) × (Int) × (Fx.Vec)) (_i : Nat) (x : (Int)) : List MRes := [.val (.blk 79 [.int .i64 0, .int .i64 0, .int .i64 0, .int .i64 0]), .val (.blk 79 [.int .i64 c.2.1, .int .i64 c.2.2.x, .int .i64 c.2.2.y, .int .i64 x])]
def rcnDec : List TV → List MRes → Option (List Prop × ((List Fx.Md) × (Int) × (Fx.Vec)) × ((Int)))
  | [.val (.fv (.one (.slc false ⟨.md, l⟩))), .val (.fv (.one (.ref 0 0))), .val (.fv (.one (.ref 4 0))), .val (I i)], [.val (.blk 79 [.int .i64 0, .int .i64 0, .int .i64 0, .int .i64 0]), .val (.blk 79 [.int .i64 g, .int .i64 ox, .int .i64 oy, .int .i64 r])] => some ([i = 0], (l, g, ⟨ox, oy⟩), (r))
  | _, _ => none
def rcnOk (_c : (List Fx.Md) × (Int) × (Fx.Vec)) : Prop := True
def rcnInv (_c : (List Fx.Md) × (Int) × (Fx.Vec)) (_i : Nat) (_x : (Int)) : Prop := True
theorem rcnDec_ok (ts : List TV) (ms : List MRes) (ps : List Prop) (c : (List Fx.Md) × (Int) × (Fx.Vec)) (x : (Int)) (h : rcnDec ts ms = some (ps, c, x)) (hp : Conj ps) : ts = rcnTv c 0 x ∧ ms = rcnMv c 0 x ∧ rcnOk c ∧ rcnInv c 0 x := by
  unfold rcnDec at h
  split at h
  · cases h
    obtain ⟨rfl, _⟩ := hp
    exact ⟨rfl, rfl, trivial, trivial⟩
  · cases h
def rcnStep (c : (List Fx.Md) × (Int) × (Fx.Vec)) (i : Nat) (x : (Int)) : (Int) := ((Fx.comb2 c.1 c.2.2 i x))
def rcnV (c : (List Fx.Md) × (Int) × (Fx.Vec)) (i : Nat) (x : (Int)) : VT := VT.ite (decide ((i : Int) < (c.1.length : Int))) (VT.pre [0 ≤ (i : Int) ∧ (i : Int) < ((c.1).length : Int)] (VT.pre [0 ≤ (i : Int) ∧ (i : Int) < ((c.1).length : Int)] (VT.pre [0 ≤ (i : Int) ∧ (i : Int) < ((c.1).length : Int)] (VT.leaf Ex.norm 111 [.val ((eSl .md).pv c.1), .val (.fv (.one (.ref 0 0))), .val (.fv (.one (.ref 4 0))), .val (I (IntKind.i64.wrap ((i : Int) + 1)))] [.val (.blk 79 [.int .i64 0, .int .i64 0, .int .i64 0, .int .i64 0]), .val (.blk 79 [.int .i64 c.2.1, .int .i64 c.2.2.x, .int .i64 c.2.2.y, .int .i64 (Fx.comb2 c.1 c.2.2 i x)])])))) (VT.leaf (Ex.exit 2) 111 [.val ((eSl .md).pv c.1), .val (.fv (.one (.ref 0 0))), .val (.fv (.one (.ref 4 0))), .val (I (i : Int))] [.val (.blk 79 [.int .i64 0, .int .i64 0, .int .i64 0, .int .i64 0]), .val (.blk 79 [.int .i64 c.2.1, .int .i64 c.2.2.x, .int .i64 c.2.2.y, .int .i64 x])])
theorem rcnV_eq (c : (List Fx.Md) × (Int) × (Fx.Vec)) (i : Nat) (x : (Int)) : viewT [0, 2, 3, 9] [0, 4] (sexec Tryz.prog (tbl rcnL) (noLps) (lbN 1 Tryz.f94) (headSt 111 9 [0, 2, 3, 9] [0, 4] (rcnTv c i x) (rcnMv c i x))) = rcnV c i x := by kernel_rfl
noncomputable def rcnT : St → Tree := forT0 111 9 [0, 2, 3, 9] [0, 4] rcnDec (fun c => c.1.length) rcnTv rcnMv rcnStep 2
theorem rcnA : AllSound Tryz.prog rcnL := (.cons rVsub (.cons rVdot (.cons rAdd (.cons rMul .nil))))
theorem rcnLoop : LoopOk Tryz.prog rcnT (lbN 1 Tryz.f94) :=
  forT0_ok mixed rcnA.tbl (noLoops (by kernel_rfl)) [0, 4] (bn := fun c => c.1.length ≤ maxLen) (inv := rcnInv) rcnDec_ok (fun _ _ => ⟨⟨.inr rfl, .inr rfl, .inr rfl, .inr rfl, trivial⟩, ⟨.inr rfl, .inr rfl, trivial⟩, rfl, rfl, rfl⟩)
    (fun _ _ _ _ _ _ hr h1 h2 => by
      simp only [List.map_cons, rcnTv, List.cons.injEq] at h1; exact len_le hr h1.1)
    (fun c i x hok hn hinv hi => ⟨_, rcnV_eq c i x, by
      refine ⟨fun h => ?_, fun h => ?_⟩
      · have h : i < c.1.length := by simpa using h
        refine ⟨⟨⟨by omega, by first | omega | (have := h; omega)⟩, trivial⟩, ?_⟩
        refine ⟨⟨⟨by omega, by first | omega | (have := h; omega)⟩, trivial⟩, ?_⟩
        refine ⟨⟨⟨by omega, by first | omega | (have := h; omega)⟩, trivial⟩, ?_⟩
        rw [wrap_succ h hn]
        exact ⟨rfl, ((Fx.comb2 c.1 c.2.2 i x)), [], h, by unfold rcnStep; rfl, trivial, ⟨.inr rfl, .inr rfl, .inr rfl, .inr rfl, trivial⟩, ⟨.inr rfl, .inr rfl, trivial⟩, rfl, rfl, rfl⟩
      · have h : ¬ i < c.1.length := by simpa using h
        exact ⟨rfl, .inl ⟨rfl, by omega, [], ⟨.inr rfl, .inr rfl, .inr rfl, .inr rfl, trivial⟩, ⟨.inr rfl, .inr rfl, trivial⟩, rfl, rfl, rfl⟩⟩⟩)
theorem cPol : Sound Tryz.prog 88 (p2 eSh eI eMd (fun s _ => [3 ≤ s.vs.length ∧ s.vs.length ≤ 8]) Fx.polM) :=
  con (lps := fun _ => polT) mixed (AllSound.cons cVsub (.cons cVcross (.cons cVdot (.cons cArea (.cons cCen (.cons cMul (.cons cRdiv .nil))))))) Tryz.func88 (by kernel_rfl) (by kernel_rfl) (oneLoop (lps := fun _ => polT) (b := (lbN 0 Tryz.f88)) (by kernel_rfl) polLoop) (g2 (fun s _ => [0 ≤ Fx.w64 ((s.vs.length : Int) - 1) ∧ Fx.w64 ((s.vs.length : Int) - 1) < (s.vs.length : Int), (s.vs.length : Int) = s.vs.length, (0 : Int) = 0]) Fx.polU (fun s _ h => Fx.last_ok h.1) (fun s d _ => Fx.polU_eq s d) (fun _ _ => by kernel_rfl))
theorem rPoi : Sound Tryz.prog 114 (c3 (eSl .vec) eV eI eI Fx.polIR) :=
  con (lps := fun _ => rpiT) mixed (AllSound.cons rVsub (.cons rVcross (.cons rVdot (.cons rMul (.cons rRdiv .nil))))) Tryz.func114 (by kernel_rfl) (by kernel_rfl) (oneLoop (lps := fun _ => rpiT) (b := (lbN 0 Tryz.f114)) (by kernel_rfl) rpiLoop) (g3 (fun _ _ _ => [(0 : Int) = 0]) Fx.polIR (fun _ _ _ _ => ⟨rfl, trivial⟩) (fun _ _ _ _ => rfl) (fun _ _ _ => by kernel_rfl))
theorem ofEq (sv : Shp → Int) (ci ca po : Shp → Int → Fx.Md) (s : Shp) (d : Int) : symFn Tryz.prog (tbl [(85, c1 eSh eI sv), (86, p2 eSh eI eMd (fun s _ => [1 ≤ s.vs.length]) ci), (87, p2 eSh eI eMd (fun s _ => [2 ≤ s.vs.length]) ca), (88, p2 eSh eI eMd (fun s _ => [3 ≤ s.vs.length ∧ s.vs.length ≤ 8]) po)]) noLps 76 [eSh.pv s, eI.pv d] = some (Fx.ofGQ sv s d, eMd.pv (Fx.ofG sv ci ca po s d)) := by kernel_rfl
theorem cOfSh : Sound Tryz.prog 76 (c2 eSh eI eMd Fx.ofSh) :=
  con (lps := noLps) mixed (AllSound.cons cSval (.cons cCirc (.cons cCaps (.cons cPol .nil)))) Tryz.func76 (by kernel_rfl) (by kernel_rfl) (noLoops (by kernel_rfl)) (g2 (fun s d => Fx.ofGQ Fx.shErr s d) Fx.ofSh (fun s d _ => Fx.ofGQ_ok s d) (fun _ _ _ => rfl) (fun s d => ofEq Fx.shErr Fx.circ Fx.caps Fx.polM s d))
theorem ofREq (sv : Shp → Int) (mul add rdiv : Int → Int → Int) (vl : Fx.Vec → Int) (le : Fx.Vec → Fx.Vec → Int → Fx.Vec) (ar : List Fx.Vec → Int) (ce : List Fx.Vec → Fx.Vec) (pi : List Fx.Vec → Fx.Vec → Int → Int) (s : Shp) (d : Int) :
    symFn Tryz.prog (tbl [(109, c1 eSh eI sv), (49, f2 mul), (66, f2 rdiv), (47, f2 add), (42, c2 eV eV eV Fx.vsub), (110, c1 eV eI vl), (111, c3 eV eV eI eV le), (112, c1 (eSl .vec) eI ar), (113, c1 (eSl .vec) eV ce), (114, c3 (eSl .vec) eV eI eI pi)]) noLps 93 [eSh.pv s, eI.pv d] =
      some (Fx.ofRQ sv s d, eMd.pv (Fx.ofG sv (Fx.circG mul rdiv) (Fx.capG mul add rdiv vl le) (Fx.polR mul ar ce pi) s d)) := by kernel_rfl
theorem rOfSh : Sound Tryz.prog 93 (c2 eSh eI eMd Fx.ofSh) :=
  con (lps := noLps) mixed (AllSound.cons rSval (.cons rMul (.cons rRdiv (.cons rAdd (.cons rVsub (.cons rVlen (.cons rVlerp (.cons rArea (.cons rCen (.cons rPoi .nil)))))))))) Tryz.func93 (by kernel_rfl) (by kernel_rfl) (noLoops (by kernel_rfl)) (g2 (fun s d => Fx.ofRQ Fx.shErr s d) Fx.ofShR (fun s d _ => Fx.ofRQ_ok s d) (fun s d _ => Fx.ofSh_eq s d) (fun s d => ofREq Fx.shErr Fx.mul Fx.add Fx.rdiv Fx.vlenR Fx.vlerp Fx.areaP Fx.cen Fx.polIR s d))
end Go.Proofs.YtfjognghjiifaaaGreat
