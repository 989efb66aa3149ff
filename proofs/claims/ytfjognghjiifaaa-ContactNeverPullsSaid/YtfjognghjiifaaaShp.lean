/- The contracts of shapes, program and reference. -/
import Derived.Test.YtfjognghjiifaaaMasD
import Derived.Test.YtfjognghjiifaaaEngShp
open Go Go.Eng
namespace Go.Proofs.Ytfjognghjiifaaa
open Go.Fx (an orr)

theorem cCnt : Sound Try.prog 79 (c1 eSh eB Fx.validN) :=
  con (lps := noLps) mixed .nil Try.func79 (by kernel_rfl) (by kernel_rfl) (noLoops (by kernel_rfl)) (k1 (fun _ => by kernel_rfl))
theorem cOor : Sound Try.prog 82 (c1 eI eB Fx.oor) :=
  con (lps := noLps) mixed .nil Try.func82 (by kernel_rfl) (by kernel_rfl) (noLoops (by kernel_rfl)) (k1 (fun _ => by kernel_rfl))
theorem cFar : Sound Try.prog 81 (c1 eV eB Fx.vfar) :=
  con (lps := noLps) mixed (.cons cOor .nil) Try.func81 (by kernel_rfl) (by kernel_rfl) (noLoops (by kernel_rfl)) (k1 (fun _ => by kernel_rfl))
noncomputable def ixvL : List (FuncId × Contract) := [(81, c1 eV eB Fx.vfar)]
def ixvTv (c : (List Fx.Vec)) (i : Nat) (_x : Unit) : List TV := [.val ((eSl .vec).pv c), .val ((eFn 81).pv ()), .val (I 0), .val ((eSl .vec).pv c), .val (I c.length), .val (I (i : Int))]
def ixvMv (_c : (List Fx.Vec)) (_i : Nat) (_x : Unit) : List MRes := []
def ixvEtv (_c : (List Fx.Vec)) (e : Int) : List TV := [.any, .any, .val (I e), .any, .any, .any]
def ixvEmv (_c : (List Fx.Vec)) (_e : Int) : List MRes := []
def ixvDec : List TV → List MRes → Option (List Prop × ((List Fx.Vec)) × (Unit))
  | [.val (.fv (.one (.slc false ⟨.vec, l⟩))), .val v, .val (I r), .val (.fv (.one (.slc false ⟨.vec, m⟩))), .val (I n), .val (I i)], [] => some ([v = (eFn 81).pv (), r = 0, m = l, n = l.length, i = 0], (l), ())
  | _, _ => none
def ixvOk (_c : (List Fx.Vec)) : Prop := True
def ixvInv (_c : (List Fx.Vec)) (_i : Nat) (_x : Unit) : Prop := True
theorem ixvDec_ok (ts : List TV) (ms : List MRes) (ps : List Prop) (c : (List Fx.Vec)) (x : Unit) (h : ixvDec ts ms = some (ps, c, x)) (hp : Conj ps) : ts = ixvTv c 0 x ∧ ms = ixvMv c 0 x ∧ ixvOk c ∧ ixvInv c 0 x := by
  unfold ixvDec at h
  split at h
  · cases h
    obtain ⟨rfl, rfl, rfl, rfl, rfl, _⟩ := hp
    exact ⟨rfl, rfl, trivial, trivial⟩
  · cases h
def ixvStep (c : (List Fx.Vec)) (i : Nat) (_x : Unit) : Sum (Unit) (Int) := bif Fx.vfar (c.getD i ⟨0, 0⟩) then .inr (i : Int) else .inl ()
def ixvV (c : (List Fx.Vec)) (i : Nat) (_x : Unit) : VT := VT.ite (decide ((i : Int) < (c.length : Int))) (VT.pre [0 ≤ (i : Int) ∧ (i : Int) < ((c).length : Int)] (VT.ite (Fx.vfar (c.getD i ⟨0, 0⟩)) (VT.leaf (Ex.ret) 19 [.val ((eSl .vec).pv c), .val ((eFn 81).pv ()), .val (I (i : Int)), .val ((eSl .vec).pv c), .val (I c.length), .val (I (i : Int))] []) (VT.leaf Ex.norm 19 [.val ((eSl .vec).pv c), .val ((eFn 81).pv ()), .val (I 0), .val ((eSl .vec).pv c), .val (I c.length), .val (I (IntKind.i64.wrap ((i : Int) + 1)))] []))) (VT.leaf (Ex.exit 0) 19 [.val ((eSl .vec).pv c), .val ((eFn 81).pv ()), .val (I 0), .val ((eSl .vec).pv c), .val (I c.length), .val (I (i : Int))] [])
theorem ixvV_eq (c : (List Fx.Vec)) (i : Nat) (x : Unit) : viewT [0, 1, 4, 6, 7, 8] [] (sexec Try.prog (tbl ixvL) (noLps) (lbN 0 Try.f90) (headSt 19 4 [0, 1, 4, 6, 7, 8] [] (ixvTv c i x) (ixvMv c i x))) = ixvV c i x := by kernel_rfl
noncomputable def ixvT : St → Tree := forT 19 4 [0, 1, 4, 6, 7, 8] [] ixvDec (fun c => c.length) ixvTv ixvMv ixvEtv ixvEmv ixvStep 0 0 .ret
theorem ixvA : AllSound Try.prog ixvL := (.cons cFar .nil)
theorem ixvLoop : LoopOk Try.prog ixvT (lbN 0 Try.f90) :=
  forT_ok mixed ixvA.tbl (noLoops (by kernel_rfl)) [] (bn := fun c => c.length ≤ maxLen) (inv := ixvInv) ixvDec_ok (fun _ _ => ⟨⟨.inr rfl, .inr rfl, .inr rfl, .inr rfl, .inr rfl, .inr rfl, trivial⟩, trivial, rfl, rfl, rfl⟩)
    (fun _ _ _ _ _ _ hr h1 h2 => by
      simp only [List.map_cons, ixvTv, List.cons.injEq] at h1; exact len_le hr h1.1)
    (fun c i x hok hn hinv hi => ⟨_, ixvV_eq c i x, by
      refine ⟨fun h => ?_, fun h => ?_⟩
      · have h : i < c.length := by simpa using h
        refine ⟨⟨⟨by omega, by first | omega | (have := h; omega)⟩, trivial⟩, ?_⟩
        refine ⟨fun hb2 => ?_, fun hb2 => ?_⟩
        · exact ⟨rfl, .inr ⟨rfl, h, (i : Int), [], by unfold ixvStep; first | rfl | ((try dsimp only); (try rw [hb2]); rfl), ⟨.inl rfl, .inl rfl, .inr rfl, .inl rfl, .inl rfl, .inl rfl, trivial⟩, trivial, rfl, rfl, rfl⟩⟩
        · rw [wrap_succ h hn]
          exact ⟨rfl, (), [], h, by unfold ixvStep; first | rfl | ((try dsimp only); (try rw [hb2]); rfl), trivial, ⟨.inr rfl, .inr rfl, .inr rfl, .inr rfl, .inr rfl, .inr rfl, trivial⟩, trivial, rfl, rfl, rfl⟩
      · have h : ¬ i < c.length := by simpa using h
        exact ⟨rfl, .inl ⟨rfl, by omega, [], ⟨.inr rfl, .inr rfl, .inr rfl, .inr rfl, .inr rfl, .inr rfl, trivial⟩, trivial, rfl, rfl, rfl⟩⟩⟩)
theorem cIxv : Sound Try.prog 90 (c2 (eSl .vec) (eFn 81) eI Fx.farIdx) :=
  con (lps := fun _ => ixvT) mixed (AllSound.cons cFar .nil) Try.func90 (by kernel_rfl) (by kernel_rfl) (oneLoop (lps := fun _ => ixvT) (b := (lbN 0 Try.f90)) (by kernel_rfl) ixvLoop) (g2 (fun l _ => [(eFn 81).pv () = (eFn 81).pv (), (0 : Int) = 0, l = l, (l.length : Int) = l.length, (0 : Int) = 0]) Fx.farIdx (fun _ _ _ => ⟨rfl, rfl, rfl, rfl, rfl, trivial⟩) (fun _ _ _ => rfl) (fun _ _ => by kernel_rfl))
theorem cAnyv : Sound Try.prog 80 (c2 (eSl .vec) (eFn 81) eB Fx.farAny2) :=
  con (lps := noLps) mixed (.cons cIxv .nil) Try.func80 (by kernel_rfl) (by kernel_rfl) (noLoops (by kernel_rfl)) (g2 (fun _ _ => []) (fun l u => decide (Fx.farIdx l u ≥ 0)) (fun _ _ _ => trivial) (fun l u _ => Fx.far_any l u) (fun _ _ => by kernel_rfl))
theorem svalEq (cm : Shp → Bool) (far : List Fx.Vec → Bool) (vl : Fx.Vec → Int) (cv : List Fx.Vec → Bool) (sh ar : List Fx.Vec → Int) (s : Shp) : symFn Try.prog (tbl [(79, c1 eSh eB cm), (80, c2 (eSl .vec) (eFn 81) eB (fun l _ => far l)), (53, c2 eV eV eV Fx.vsub), (83, c1 eV eI vl), (84, c1 (eSl .vec) eB cv), (85, c1 (eSl .vec) eI sh), (86, c1 (eSl .vec) eI ar)]) noLps 73 [eSh.pv s] = some (Fx.serrPQ cm far s, eI.pv (Fx.serrP cm far vl cv sh ar s)) := by kernel_rfl
theorem cSval : Sound Try.prog 73 (c1 eSh eI Fx.shErr) :=
  con (lps := noLps) mixed (l := [(79, c1 eSh eB Fx.validN), (80, c2 (eSl .vec) (eFn 81) eB (fun l _ => Fx.farAny l)), (53, c2 eV eV eV Fx.vsub), (83, c1 eV eI Fx.vlen), (84, c1 (eSl .vec) eB Fx.cvx), (85, c1 (eSl .vec) eI Fx.shortP), (86, c1 (eSl .vec) eI Fx.areaP)]) (.cons cCnt (.cons cAnyv (.cons cVsub (.cons cVlen (.cons cCvx (.cons cShort (.cons cArea .nil))))))) Try.func73 (by kernel_rfl) (by kernel_rfl) (noLoops (by kernel_rfl)) (g1 (fun s => Fx.serrPQ Fx.validN Fx.farAny s) Fx.shErr (fun s _ => Fx.serrPQ_ok s) (fun _ _ => rfl) (fun s => svalEq Fx.validN Fx.farAny Fx.vlen Fx.cvx Fx.shortP Fx.areaP s))
end Go.Proofs.Ytfjognghjiifaaa
