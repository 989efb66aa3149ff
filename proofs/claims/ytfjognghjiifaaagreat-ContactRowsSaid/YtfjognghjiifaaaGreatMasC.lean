/- The contracts of polygons, third part. -/
import Derived.Test.YtfjognghjiifaaaGreatMasB
open Go Go.Eng
namespace Go.Proofs.YtfjognghjiifaaaGreat
open Go.Fx (an orr)

noncomputable def sedL : List (FuncId × Contract) := [(35, c2 eV eV eV Fx.vsub), (99, c1 eV eI Fx.vlen)]
def sedTv (c : (List Fx.Vec)) (i : Nat) (x : (Int)) : List TV := [.val ((eSl .vec).pv c), .val (I x), .val ((eSl .vec).pv c), .val (I c.length), .val (I (i : Int))]
def sedMv (_c : (List Fx.Vec)) (_i : Nat) (_x : (Int)) : List MRes := []
def sedDec : List TV → List MRes → Option (List Prop × ((List Fx.Vec)) × ((Int)))
  | [.val (.fv (.one (.slc false ⟨.vec, l⟩))), .val (I s), .val (.fv (.one (.slc false ⟨.vec, l2⟩))), .val (I n), .val (I i)], [] => some ([l2 = l, n = l.length, i = 0], (l), (s))
  | _, _ => none
def sedOk (_c : (List Fx.Vec)) : Prop := True
def sedInv (_c : (List Fx.Vec)) (_i : Nat) (_x : (Int)) : Prop := True
theorem sedDec_ok (ts : List TV) (ms : List MRes) (ps : List Prop) (c : (List Fx.Vec)) (x : (Int)) (h : sedDec ts ms = some (ps, c, x)) (hp : Conj ps) : ts = sedTv c 0 x ∧ ms = sedMv c 0 x ∧ sedOk c ∧ sedInv c 0 x := by
  unfold sedDec at h
  split at h
  · cases h
    obtain ⟨rfl, rfl, rfl, _⟩ := hp
    exact ⟨rfl, rfl, trivial, trivial⟩
  · cases h
def sedStep (c : (List Fx.Vec)) (i : Nat) (x : (Int)) : (Int) := ((if Fx.edge c i < x then Fx.edge c i else x))
def sedV (c : (List Fx.Vec)) (i : Nat) (x : (Int)) : VT := VT.ite (decide ((i : Int) < (c.length : Int))) (VT.pre [0 ≤ (i : Int) ∧ (i : Int) < ((c).length : Int)] (VT.pre [(c.length : Int) ≠ 0, 0 ≤ Fx.nxt c i ∧ Fx.nxt c i < (c.length : Int)] (VT.leaf Ex.norm 31 [.val ((eSl .vec).pv c), .val (I (if Fx.edge c i < x then Fx.edge c i else x)), .val ((eSl .vec).pv c), .val (I c.length), .val (I (IntKind.i64.wrap ((i : Int) + 1)))] []))) (VT.leaf (Ex.exit 0) 31 [.val ((eSl .vec).pv c), .val (I x), .val ((eSl .vec).pv c), .val (I c.length), .val (I (i : Int))] [])
theorem sedV_eq (c : (List Fx.Vec)) (i : Nat) (x : (Int)) : viewT [0, 3, 9, 10, 11] [] (sexec Tryz.prog (tbl sedL) (noLps) (lbN 0 Tryz.f101) (headSt 31 0 [0, 3, 9, 10, 11] [] (sedTv c i x) (sedMv c i x))) = sedV c i x := by kernel_rfl
noncomputable def sedT : St → Tree := forT0 31 0 [0, 3, 9, 10, 11] [] sedDec (fun c => c.length) sedTv sedMv sedStep 0
theorem sedA : AllSound Tryz.prog sedL := (.cons cVsub (.cons cVlen .nil))
theorem sedLoop : LoopOk Tryz.prog sedT (lbN 0 Tryz.f101) :=
  forT0_ok mixed sedA.tbl (noLoops (by kernel_rfl)) [] (bn := fun c => c.length ≤ maxLen) (inv := sedInv) sedDec_ok (fun _ _ => ⟨⟨.inr rfl, .inr rfl, .inr rfl, .inr rfl, .inr rfl, trivial⟩, trivial, rfl, rfl, rfl⟩)
    (fun _ _ _ _ _ _ hr h1 h2 => by
      simp only [List.map_cons, sedTv, List.cons.injEq] at h1; exact len_le hr h1.1)
    (fun c i x hok hn hinv hi => ⟨_, sedV_eq c i x, by
      refine ⟨fun h => ?_, fun h => ?_⟩
      · have h : i < c.length := by simpa using h
        refine ⟨⟨⟨by omega, by first | omega | (have := h; omega)⟩, trivial⟩, ?_⟩
        refine ⟨⟨by omega, Fx.nxt_ok h hn, trivial⟩, ?_⟩
        rw [wrap_succ h hn]
        exact ⟨rfl, ((if Fx.edge c i < x then Fx.edge c i else x)), [], h, by unfold sedStep; rfl, trivial, ⟨.inr rfl, .inr rfl, .inr rfl, .inr rfl, .inr rfl, trivial⟩, trivial, rfl, rfl, rfl⟩
      · have h : ¬ i < c.length := by simpa using h
        exact ⟨rfl, .inl ⟨rfl, by omega, [], ⟨.inr rfl, .inr rfl, .inr rfl, .inr rfl, .inr rfl, trivial⟩, trivial, rfl, rfl, rfl⟩⟩⟩)
noncomputable def fanL : List (FuncId × Contract) := [(54, f2 Fx.rdiv)]
def fanTv (c : (List Fx.Vec) × (Fx.Vec)) (i : Nat) (x : (List Fx.Sb) × (Int)) : List TV := [.val ((eSl .vec).pv c.1), .val (.fv (.one (.own 2))), .val (I x.2), .val (.fv (.one (.ref 7 0))), .val (I ((i : Int) + 1))]
def fanMv (c : (List Fx.Vec) × (Fx.Vec)) (_i : Nat) (x : (List Fx.Sb) × (Int)) : List MRes := [.val (.row 121 ⟨.sb, x.1⟩), .val (.blk 25 [.int .i64 c.2.x, .int .i64 c.2.y])]
def fanDec : List TV → List MRes → Option (List Prop × ((List Fx.Vec) × (Fx.Vec)) × ((List Fx.Sb) × (Int)))
  | [.val (.fv (.one (.slc false ⟨.vec, l⟩))), .val (.fv (.one (.own 2))), .val (I s), .val (.fv (.one (.ref 7 0))), .val (I i)], [.val (.row 121 ⟨.sb, t⟩), .val (.blk 25 [.int .i64 ox, .int .i64 oy])] => some ([t = [], i = 1, l.length ≤ 8], (l, ⟨ox, oy⟩), ([], s))
  | _, _ => none
def fanOk (c : (List Fx.Vec) × (Fx.Vec)) : Prop := c.1.length ≤ 8
def fanInv (_c : (List Fx.Vec) × (Fx.Vec)) (i : Nat) (x : (List Fx.Sb) × (Int)) : Prop := x.1.length = i
theorem fanDec_ok (ts : List TV) (ms : List MRes) (ps : List Prop) (c : (List Fx.Vec) × (Fx.Vec)) (x : (List Fx.Sb) × (Int)) (h : fanDec ts ms = some (ps, c, x)) (hp : Conj ps) : ts = fanTv c 0 x ∧ ms = fanMv c 0 x ∧ fanOk c ∧ fanInv c 0 x := by
  unfold fanDec at h
  split at h
  · cases h
    obtain ⟨rfl, rfl, hok, _⟩ := hp
    exact ⟨rfl, rfl, hok, rfl⟩
  · cases h
def fanStep (c : (List Fx.Vec) × (Fx.Vec)) (i : Nat) (x : (List Fx.Sb) × (Int)) : (List Fx.Sb) × (Int) := ((x.1 ++ [Fx.tri c.1 c.2 i]), (Fx.w64 (x.2 + (Fx.tri c.1 c.2 i).ii)))
def fanV (c : (List Fx.Vec) × (Fx.Vec)) (i : Nat) (x : (List Fx.Sb) × (Int)) : VT := VT.ite (decide (IntKind.i64.wrap ((i : Int) + 1 + 1) < (c.1.length : Int))) (VT.pre [0 ≤ (i : Int) + 1 ∧ (i : Int) + 1 < (c.1.length : Int), 0 ≤ (i : Int) + 1 ∧ (i : Int) + 1 < (c.1.length : Int)] (VT.pre [0 ≤ Fx.w64 ((i : Int) + 1 + 1) ∧ Fx.w64 ((i : Int) + 1 + 1) < (c.1.length : Int), 0 ≤ Fx.w64 ((i : Int) + 1 + 1) ∧ Fx.w64 ((i : Int) + 1 + 1) < (c.1.length : Int)] (VT.pre [(x.1.length + 1) * 40 ≤ 140737488355328] (VT.leaf Ex.norm 81 [.val ((eSl .vec).pv c.1), .val (.fv (.one (.own 74))), .val (I (Fx.w64 (x.2 + (Fx.tri c.1 c.2 i).ii))), .val (.fv (.one (.ref 7 0))), .val (I (IntKind.i64.wrap (((i : Int) + 1) + 1)))] [.lost, .val (.blk 25 [.int .i64 c.2.x, .int .i64 c.2.y]), .val (.row 121 ⟨.sb, (x.1 ++ [Fx.tri c.1 c.2 i])⟩)])))) (VT.leaf (Ex.exit 0) 81 [.val ((eSl .vec).pv c.1), .val (.fv (.one (.own 2))), .val (I x.2), .val (.fv (.one (.ref 7 0))), .val (I ((i : Int) + 1))] [.val (.row 121 ⟨.sb, x.1⟩), .val (.blk 25 [.int .i64 c.2.x, .int .i64 c.2.y]), .free])
theorem fanV_eq (c : (List Fx.Vec) × (Fx.Vec)) (i : Nat) (x : (List Fx.Sb) × (Int)) : viewT [0, 4, 5, 6, 7] [2, 7, 74] (sexec Tryz.prog (tbl fanL) (noLps) (lbN 0 Tryz.f119) (headSt 81 10 [0, 4, 5, 6, 7] [2, 7] (fanTv c i x) (fanMv c i x))) = fanV c i x := by kernel_rfl
noncomputable def fanT : St → Tree := forT0 81 10 [0, 4, 5, 6, 7] [2, 7] fanDec (fun c => c.1.length - 2) fanTv fanMv fanStep 0
theorem fanA : AllSound Tryz.prog fanL := (.cons cRdiv .nil)
theorem fanLoop : LoopOk Tryz.prog fanT (lbN 0 Tryz.f119) :=
  forT0_ok mixed fanA.tbl (noLoops (by kernel_rfl)) [2, 7, 74] (bn := fun c => c.1.length ≤ maxLen) (inv := fanInv) fanDec_ok (fun _ _ => ⟨⟨.inr rfl, .inr rfl, .inr rfl, .inr rfl, .inr rfl, trivial⟩, ⟨.inr rfl, .inr rfl, trivial⟩, rfl, rfl, rfl⟩)
    (fun _ _ _ _ _ _ hr h1 h2 => by
      simp only [List.map_cons, fanTv, List.cons.injEq] at h1; exact len_le hr h1.1)
    (fun c i x hok hn hinv hi => ⟨_, fanV_eq c i x, by
      refine ⟨fun h => ?_, fun h => ?_⟩
      · have h : i < c.1.length - 2 := by rw [Fx.cond_two hi hn] at h; simpa using h
        refine ⟨⟨⟨by omega, by omega⟩, ⟨by omega, by omega⟩, trivial⟩, ?_⟩
        refine ⟨(by unfold Fx.w64; rw [Fx.wrap_two hi hn]; exact ⟨⟨by omega, by omega⟩, ⟨by omega, by omega⟩, trivial⟩), ?_⟩
        refine ⟨⟨by have h1 : x.1.length = i := hinv; have h2 : c.1.length ≤ 8 := hok; omega, trivial⟩, ?_⟩
        rw [Fx.wrap_two' h hn]
        exact ⟨rfl, ((x.1 ++ [Fx.tri c.1 c.2 i]), (Fx.w64 (x.2 + (Fx.tri c.1 c.2 i).ii))), [(2, 74)], h, by unfold fanStep; rfl, (by show (x.1 ++ [_]).length = i + 1; rw [List.length_append, show x.1.length = i from hinv]; rfl), ⟨.inr rfl, .inr rfl, .inr rfl, .inr rfl, .inr rfl, trivial⟩, ⟨.inr rfl, .inr rfl, trivial⟩, rfl, rfl, rfl⟩
      · have h : ¬ i < c.1.length - 2 := by rw [Fx.cond_two hi hn] at h; simpa using h
        exact ⟨rfl, .inl ⟨rfl, by omega, [], ⟨.inr rfl, .inr rfl, .inr rfl, .inr rfl, .inr rfl, trivial⟩, ⟨.inr rfl, .inr rfl, trivial⟩, rfl, rfl, rfl⟩⟩⟩)
end Go.Proofs.YtfjognghjiifaaaGreat
