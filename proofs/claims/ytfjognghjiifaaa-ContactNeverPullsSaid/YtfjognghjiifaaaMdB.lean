/- The contracts of masses, second part. -/
import Derived.Test.YtfjognghjiifaaaMd
open Go Go.Eng
namespace Go.Proofs.Ytfjognghjiifaaa
open Go.Fx (an orr)

noncomputable def cm2L : List (FuncId × Contract) := [(53, c2 eV eV eV Fx.vsub), (59, c2 eV eV eI Fx.vdot), (40, f2 Fx.add), (25, f2 Fx.mul)]
def cm2Tv (c : (List Fx.Md) × (Int) × (Fx.Vec)) (i : Nat) (_x : (Int)) : List TV := [.val (.fv (.one (.ref 0 0))), .val (.fv (.one (.ref 8 0))), .val ((eSl .md).pv c.1), .val (I c.1.length), .val (I (i : Int))]
def cm2Mv (c : (List Fx.Md) × (Int) × (Fx.Vec)) (_i : Nat) (x : (Int)) : List MRes := [.val (.blk 91 [.int .i64 0, .int .i64 0, .int .i64 0, .int .i64 0]), .val (.blk 91 [.int .i64 c.2.1, .int .i64 c.2.2.x, .int .i64 c.2.2.y, .int .i64 x])]
def cm2Dec : List TV → List MRes → Option (List Prop × ((List Fx.Md) × (Int) × (Fx.Vec)) × ((Int)))
  | [.val (.fv (.one (.ref 0 0))), .val (.fv (.one (.ref 8 0))), .val (.fv (.one (.slc false ⟨.md, l⟩))), .val (I n), .val (I i)], [.val (.blk 91 [.int .i64 0, .int .i64 0, .int .i64 0, .int .i64 0]), .val (.blk 91 [.int .i64 g, .int .i64 ox, .int .i64 oy, .int .i64 r])] => some ([n = l.length, i = 0], (l, g, ⟨ox, oy⟩), (r))
  | _, _ => none
def cm2Ok (_c : (List Fx.Md) × (Int) × (Fx.Vec)) : Prop := True
def cm2Inv (_c : (List Fx.Md) × (Int) × (Fx.Vec)) (_i : Nat) (_x : (Int)) : Prop := True
theorem cm2Dec_ok (ts : List TV) (ms : List MRes) (ps : List Prop) (c : (List Fx.Md) × (Int) × (Fx.Vec)) (x : (Int)) (h : cm2Dec ts ms = some (ps, c, x)) (hp : Conj ps) : ts = cm2Tv c 0 x ∧ ms = cm2Mv c 0 x ∧ cm2Ok c ∧ cm2Inv c 0 x := by
  unfold cm2Dec at h
  split at h
  · cases h
    obtain ⟨rfl, rfl, _⟩ := hp
    exact ⟨rfl, rfl, trivial, trivial⟩
  · cases h
def cm2Step (c : (List Fx.Md) × (Int) × (Fx.Vec)) (i : Nat) (x : (Int)) : (Int) := ((Fx.comb2 c.1 c.2.2 i x))
def cm2V (c : (List Fx.Md) × (Int) × (Fx.Vec)) (i : Nat) (x : (Int)) : VT := VT.ite (decide ((i : Int) < (c.1.length : Int))) (VT.pre [0 ≤ (i : Int) ∧ (i : Int) < ((c.1).length : Int)] (VT.leaf Ex.norm 91 [.val (.fv (.one (.ref 0 0))), .val (.fv (.one (.ref 8 0))), .val ((eSl .md).pv c.1), .val (I c.1.length), .val (I (IntKind.i64.wrap ((i : Int) + 1)))] [.val (.blk 91 [.int .i64 0, .int .i64 0, .int .i64 0, .int .i64 0]), .val (.blk 91 [.int .i64 c.2.1, .int .i64 c.2.2.x, .int .i64 c.2.2.y, .int .i64 (Fx.comb2 c.1 c.2.2 i x)])])) (VT.leaf (Ex.exit 2) 91 [.val (.fv (.one (.ref 0 0))), .val (.fv (.one (.ref 8 0))), .val ((eSl .md).pv c.1), .val (I c.1.length), .val (I (i : Int))] [.val (.blk 91 [.int .i64 0, .int .i64 0, .int .i64 0, .int .i64 0]), .val (.blk 91 [.int .i64 c.2.1, .int .i64 c.2.2.x, .int .i64 c.2.2.y, .int .i64 x])])
theorem cm2V_eq (c : (List Fx.Md) × (Int) × (Fx.Vec)) (i : Nat) (x : (Int)) : viewT [2, 3, 65, 66, 67] [0, 8] (sexec Try.prog (tbl cm2L) (noLps) (lbN 1 Try.f70) (headSt 91 20 [2, 3, 65, 66, 67] [0, 8] (cm2Tv c i x) (cm2Mv c i x))) = cm2V c i x := by kernel_rfl
noncomputable def cm2T : St → Tree := forT0 91 20 [2, 3, 65, 66, 67] [0, 8] cm2Dec (fun c => c.1.length) cm2Tv cm2Mv cm2Step 2
theorem cm2A : AllSound Try.prog cm2L := (.cons cVsub (.cons cVdot (.cons cAdd (.cons cMul .nil))))
theorem cm2Loop : LoopOk Try.prog cm2T (lbN 1 Try.f70) :=
  forT0_ok mixed cm2A.tbl (noLoops (by kernel_rfl)) [0, 8] (bn := fun c => c.1.length ≤ maxLen) (inv := cm2Inv) cm2Dec_ok (fun _ _ => ⟨⟨.inr rfl, .inr rfl, .inr rfl, .inr rfl, .inr rfl, trivial⟩, ⟨.inr rfl, .inr rfl, trivial⟩, rfl, rfl, rfl⟩)
    (fun _ _ _ _ _ _ hr h1 h2 => by
      simp only [List.map_cons, cm2Tv, List.cons.injEq] at h1; exact len_le hr h1.2.2.1)
    (fun c i x hok hn hinv hi => ⟨_, cm2V_eq c i x, by
      refine ⟨fun h => ?_, fun h => ?_⟩
      · have h : i < c.1.length := by simpa using h
        refine ⟨⟨⟨by omega, by first | omega | (have := h; omega)⟩, trivial⟩, ?_⟩
        rw [wrap_succ h hn]
        exact ⟨rfl, ((Fx.comb2 c.1 c.2.2 i x)), [], h, by unfold cm2Step; rfl, trivial, ⟨.inr rfl, .inr rfl, .inr rfl, .inr rfl, .inr rfl, trivial⟩, ⟨.inr rfl, .inr rfl, trivial⟩, rfl, rfl, rfl⟩
      · have h : ¬ i < c.1.length := by simpa using h
        exact ⟨rfl, .inl ⟨rfl, by omega, [], ⟨.inr rfl, .inr rfl, .inr rfl, .inr rfl, .inr rfl, trivial⟩, ⟨.inr rfl, .inr rfl, trivial⟩, rfl, rfl, rfl⟩⟩⟩)
theorem cPol : Sound Try.prog 76 (p2 eSh eI eMd (fun s _ => [3 ≤ s.vs.length ∧ s.vs.length ≤ 8]) Fx.polM) :=
  con (lps := fun _ => polT) mixed (AllSound.cons cVsub (.cons cVcross (.cons cVdot (.cons cArea (.cons cCen (.cons cMul (.cons cRdiv .nil))))))) Try.func76 (by kernel_rfl) (by kernel_rfl) (oneLoop (lps := fun _ => polT) (b := (lbN 0 Try.f76)) (by kernel_rfl) polLoop) (g2 (fun s _ => [0 ≤ Fx.w64 ((s.vs.length : Int) - 1) ∧ Fx.w64 ((s.vs.length : Int) - 1) < (s.vs.length : Int), (s.vs.length : Int) = s.vs.length, (0 : Int) = 0]) Fx.polU (fun s _ h => Fx.last_ok h.1) (fun s d _ => Fx.polU_eq s d) (fun _ _ => by kernel_rfl))
theorem ofEq (sv : Shp → Int) (ci ca po : Shp → Int → Fx.Md) (s : Shp) (d : Int) : symFn Try.prog (tbl [(73, c1 eSh eI sv), (74, p2 eSh eI eMd (fun s _ => [1 ≤ s.vs.length]) ci), (75, p2 eSh eI eMd (fun s _ => [2 ≤ s.vs.length]) ca), (76, p2 eSh eI eMd (fun s _ => [3 ≤ s.vs.length ∧ s.vs.length ≤ 8]) po)]) noLps 69 [eSh.pv s, eI.pv d] = some (Fx.ofGQ sv s d, eMd.pv (Fx.ofG sv ci ca po s d)) := by kernel_rfl
theorem cOfSh : Sound Try.prog 69 (c2 eSh eI eMd Fx.ofSh) :=
  con (lps := noLps) mixed (AllSound.cons cSval (.cons cCirc (.cons cCaps (.cons cPol .nil)))) Try.func69 (by kernel_rfl) (by kernel_rfl) (noLoops (by kernel_rfl)) (g2 (fun s d => Fx.ofGQ Fx.shErr s d) Fx.ofSh (fun s d _ => Fx.ofGQ_ok s d) (fun _ _ _ => rfl) (fun s d => ofEq Fx.shErr Fx.circ Fx.caps Fx.polM s d))
end Go.Proofs.Ytfjognghjiifaaa
