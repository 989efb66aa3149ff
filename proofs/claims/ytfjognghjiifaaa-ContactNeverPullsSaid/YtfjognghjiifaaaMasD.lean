/- The contracts of polygons, fourth part. -/
import Derived.Test.YtfjognghjiifaaaMasC
import Derived.Test.YtfjognghjiifaaaEngMasB
open Go Go.Eng
namespace Go.Proofs.Ytfjognghjiifaaa
open Go.Fx (an orr)

theorem cShort : Sound Try.prog 85 (c1 (eSl .vec) eI Fx.shortP) :=
  con (lps := fun _ => sedT) mixed (AllSound.cons cCvx (.cons cVsub (.cons cVlen .nil))) Try.func85 (by kernel_rfl) (by kernel_rfl) (oneLoop (lps := fun _ => sedT) (b := (lbN 0 Try.f85)) (by kernel_rfl) sedLoop) (g1 (fun l => [(!Fx.cvx l) = false → l = l, (!Fx.cvx l) = false → (l.length : Int) = l.length, (!Fx.cvx l) = false → (0 : Int) = 0]) Fx.shortP (fun _ _ => ⟨fun _ => rfl, fun _ => rfl, fun _ => rfl, trivial⟩) (fun _ _ => rfl) (fun _ => by kernel_rfl))
theorem cFan : Sound Try.prog 94 (p1 (eSl .vec) eFan (fun l => [3 ≤ l.length ∧ l.length ≤ 8]) Fx.fan) :=
  con (lps := fun _ => fanT) mixed (AllSound.cons cRdiv .nil) Try.func94 (by kernel_rfl) (by kernel_rfl) (oneLoop (lps := fun _ => fanT) (b := (lbN 0 Try.f94)) (by kernel_rfl) fanLoop) (g1 (fun l => [0 ≤ (0 : Int) ∧ (0 : Int) < (l.length : Int), ([] : List Fx.Sb) = [], (1 : Int) = 1, l.length ≤ 8]) Fx.fan (fun l h => ⟨⟨by omega, by have := h.1.1; omega⟩, rfl, rfl, h.1.2, trivial⟩) (fun _ _ => rfl) (fun _ => by kernel_rfl))
theorem cArea : Sound Try.prog 86 (c1 (eSl .vec) eI Fx.areaP) :=
  con (lps := noLps) mixed (.cons cCvx (.cons cFan (.cons cRdiv .nil))) Try.func86 (by kernel_rfl) (by kernel_rfl) (noLoops (by kernel_rfl)) (g1 (fun l => [(!Fx.cvx l) = false → 3 ≤ l.length ∧ l.length ≤ 8]) Fx.areaP (fun l _ => ⟨fun h => Fx.cvx_len (by simpa using h), trivial⟩) (fun _ _ => rfl) (fun _ => by kernel_rfl))
noncomputable def cenL : List (FuncId × Contract) := []
def cenTv (c : (List Fx.Vec) × (List Fx.Sb) × (Int)) (i : Nat) (x : (Int) × (Int)) : List TV := [.val ((eSl .vec).pv c.1), .val (.fv (.one (.ref 0 0))), .val (I c.2.2), .val (I x.1), .val (I x.2), .val (.fv (.one (.slc true ⟨.sb, c.2.1⟩))), .val (I c.2.1.length), .val (I (i : Int))]
def cenMv (_c : (List Fx.Vec) × (List Fx.Sb) × (Int)) (_i : Nat) (_x : (Int) × (Int)) : List MRes := [.val (.blk 34 [.int .i64 0, .int .i64 0])]
def cenDec : List TV → List MRes → Option (List Prop × ((List Fx.Vec) × (List Fx.Sb) × (Int)) × ((Int) × (Int)))
  | [.val (.fv (.one (.slc false ⟨.vec, l⟩))), .val (.fv (.one (.ref 0 0))), .val (I s), .val (I x), .val (I y), .val (.fv (.one (.slc true ⟨.sb, tr⟩))), .val (I n), .val (I i)], [.val (.blk 34 [.int .i64 0, .int .i64 0])] => some ([n = tr.length, i = 0], (l, tr, s), (x, y))
  | _, _ => none
def cenOk (_c : (List Fx.Vec) × (List Fx.Sb) × (Int)) : Prop := True
def cenInv (_c : (List Fx.Vec) × (List Fx.Sb) × (Int)) (_i : Nat) (_x : (Int) × (Int)) : Prop := True
theorem cenDec_ok (ts : List TV) (ms : List MRes) (ps : List Prop) (c : (List Fx.Vec) × (List Fx.Sb) × (Int)) (x : (Int) × (Int)) (h : cenDec ts ms = some (ps, c, x)) (hp : Conj ps) : ts = cenTv c 0 x ∧ ms = cenMv c 0 x ∧ cenOk c ∧ cenInv c 0 x := by
  unfold cenDec at h
  split at h
  · cases h
    obtain ⟨rfl, rfl, _⟩ := hp
    exact ⟨rfl, rfl, trivial, trivial⟩
  · cases h
def cenStep (c : (List Fx.Vec) × (List Fx.Sb) × (Int)) (i : Nat) (x : (Int) × (Int)) : (Int) × (Int) := ((Fx.cenX (c.2.1.getD i ⟨0, 0, 0, 0, 0⟩) x.1), (Fx.cenY (c.2.1.getD i ⟨0, 0, 0, 0, 0⟩) x.2))
def cenV (c : (List Fx.Vec) × (List Fx.Sb) × (Int)) (i : Nat) (x : (Int) × (Int)) : VT := VT.ite (decide ((i : Int) < (c.2.1.length : Int))) (VT.pre [0 ≤ (i : Int) ∧ (i : Int) < ((c.2.1).length : Int)] (VT.leaf Ex.norm 73 [.val ((eSl .vec).pv c.1), .val (.fv (.one (.ref 0 0))), .val (I c.2.2), .val (I (Fx.cenX (c.2.1.getD i ⟨0, 0, 0, 0, 0⟩) x.1)), .val (I (Fx.cenY (c.2.1.getD i ⟨0, 0, 0, 0, 0⟩) x.2)), .val (.fv (.one (.slc true ⟨.sb, c.2.1⟩))), .val (I c.2.1.length), .val (I (IntKind.i64.wrap ((i : Int) + 1)))] [.val (.blk 34 [.int .i64 0, .int .i64 0])])) (VT.leaf (Ex.exit 0) 73 [.val ((eSl .vec).pv c.1), .val (.fv (.one (.ref 0 0))), .val (I c.2.2), .val (I x.1), .val (I x.2), .val (.fv (.one (.slc true ⟨.sb, c.2.1⟩))), .val (I c.2.1.length), .val (I (i : Int))] [.val (.blk 34 [.int .i64 0, .int .i64 0])])
theorem cenV_eq (c : (List Fx.Vec) × (List Fx.Sb) × (Int)) (i : Nat) (x : (Int) × (Int)) : viewT [0, 2, 4, 5, 6, 23, 24, 25] [0] (sexec Try.prog (tbl cenL) (noLps) (lbN 0 Try.f88) (headSt 73 8 [0, 2, 4, 5, 6, 23, 24, 25] [0] (cenTv c i x) (cenMv c i x))) = cenV c i x := by kernel_rfl
noncomputable def cenT : St → Tree := forT0 73 8 [0, 2, 4, 5, 6, 23, 24, 25] [0] cenDec (fun c => c.2.1.length) cenTv cenMv cenStep 0
theorem cenA : AllSound Try.prog cenL := .nil
theorem cenLoop : LoopOk Try.prog cenT (lbN 0 Try.f88) :=
  forT0_ok mixed cenA.tbl (noLoops (by kernel_rfl)) [0] (bn := fun c => c.2.1.length ≤ maxLen) (inv := cenInv) cenDec_ok (fun _ _ => ⟨⟨.inr rfl, .inr rfl, .inr rfl, .inr rfl, .inr rfl, .inr rfl, .inr rfl, .inr rfl, trivial⟩, ⟨.inr rfl, trivial⟩, rfl, rfl, rfl⟩)
    (fun _ _ _ _ _ _ hr h1 h2 => by
      simp only [List.map_cons, cenTv, List.cons.injEq] at h1; exact len_le hr h1.2.2.2.2.2.1)
    (fun c i x hok hn hinv hi => ⟨_, cenV_eq c i x, by
      refine ⟨fun h => ?_, fun h => ?_⟩
      · have h : i < c.2.1.length := by simpa using h
        refine ⟨⟨⟨by omega, by first | omega | (have := h; omega)⟩, trivial⟩, ?_⟩
        rw [wrap_succ h hn]
        exact ⟨rfl, ((Fx.cenX (c.2.1.getD i ⟨0, 0, 0, 0, 0⟩) x.1), (Fx.cenY (c.2.1.getD i ⟨0, 0, 0, 0, 0⟩) x.2)), [], h, by unfold cenStep; rfl, trivial, ⟨.inr rfl, .inr rfl, .inr rfl, .inr rfl, .inr rfl, .inr rfl, .inr rfl, .inr rfl, trivial⟩, ⟨.inr rfl, trivial⟩, rfl, rfl, rfl⟩
      · have h : ¬ i < c.2.1.length := by simpa using h
        exact ⟨rfl, .inl ⟨rfl, by omega, [], ⟨.inr rfl, .inr rfl, .inr rfl, .inr rfl, .inr rfl, .inr rfl, .inr rfl, .inr rfl, trivial⟩, ⟨.inr rfl, trivial⟩, rfl, rfl, rfl⟩⟩⟩)
theorem cCen : Sound Try.prog 88 (c1 (eSl .vec) eV Fx.cen) :=
  con (lps := fun _ => cenT) mixed (AllSound.cons cCvx (.cons cFan (.cons cRdiv .nil))) Try.func88 (by kernel_rfl) (by kernel_rfl) (oneLoop (lps := fun _ => cenT) (b := (lbN 0 Try.f88)) (by kernel_rfl) cenLoop) (g1 (fun l => [(!Fx.cvx l) = false → 3 ≤ l.length ∧ l.length ≤ 8, (!Fx.cvx l) = false → ((Fx.fan l).2 == 0) = true → 0 ≤ (0 : Int) ∧ (0 : Int) < (l.length : Int), (!Fx.cvx l) = false → ((Fx.fan l).2 == 0) = false → ((Fx.fan l).1.length : Int) = (Fx.fan l).1.length, (!Fx.cvx l) = false → ((Fx.fan l).2 == 0) = false → (0 : Int) = 0, (!Fx.cvx l) = false → ((Fx.fan l).2 == 0) = false → 0 ≤ (0 : Int) ∧ (0 : Int) < (l.length : Int), (!Fx.cvx l) = false → ((Fx.fan l).2 == 0) = false → 0 ≤ (0 : Int) ∧ (0 : Int) < (l.length : Int)]) Fx.cen (fun l _ => have k := fun h : (!Fx.cvx l) = false => (show 3 ≤ l.length ∧ l.length ≤ 8 from Fx.cvx_len (l := l) (by simpa using h)); ⟨fun h => k h, fun h _ => ⟨by omega, by have := k h; omega⟩, fun _ _ => rfl, fun _ _ => rfl, fun h _ => ⟨by omega, by have := k h; omega⟩, fun h _ => ⟨by omega, by have := k h; omega⟩, trivial⟩) (fun _ _ => rfl) (fun _ => by kernel_rfl))
end Go.Proofs.Ytfjognghjiifaaa
