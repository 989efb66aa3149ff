/- The contracts of polygons, second part. -/
import Derived.Test.YtfjognghjiifaaaMas
open Go Go.Eng
namespace Go.Proofs.Ytfjognghjiifaaa
open Go.Fx (an orr)

noncomputable def cvoL : List (FuncId × Contract) := [(93, c3 eV eV eV eI Fx.ort)]
def cvoTv (c : (List Fx.Vec)) (i : Nat) (_x : Unit) : List TV := [.val ((eSl .vec).pv c), .val (Bo false), .val (I c.length), .val ((eSl .vec).pv c), .val (I c.length), .val (I (i : Int))]
def cvoMv (_c : (List Fx.Vec)) (_i : Nat) (_x : Unit) : List MRes := []
def cvoEtv (_c : (List Fx.Vec)) (_e : Unit) : List TV := [.any, .val (Bo false), .any, .any, .any, .any]
def cvoEmv (_c : (List Fx.Vec)) (_e : Unit) : List MRes := []
def cvoDec : List TV → List MRes → Option (List Prop × ((List Fx.Vec)) × (Unit))
  | [.val (.fv (.one (.slc false ⟨.vec, l⟩))), .val (Bo b), .val (I n3), .val (.fv (.one (.slc false ⟨.vec, l2⟩))), .val (I n23), .val (I i)], [] => some ([b = false, n3 = l.length, l2 = l, n23 = l.length, i = 0], l, ())
  | _, _ => none
def cvoOk (_c : (List Fx.Vec)) : Prop := True
def cvoInv (_c : (List Fx.Vec)) (_i : Nat) (_x : Unit) : Prop := True
theorem cvoDec_ok (ts : List TV) (ms : List MRes) (ps : List Prop) (c : (List Fx.Vec)) (x : Unit) (h : cvoDec ts ms = some (ps, c, x)) (hp : Conj ps) : ts = cvoTv c 0 x ∧ ms = cvoMv c 0 x ∧ cvoOk c ∧ cvoInv c 0 x := by
  unfold cvoDec at h
  split at h
  · cases h
    obtain ⟨rfl, rfl, rfl, rfl, rfl, _⟩ := hp
    exact ⟨rfl, rfl, trivial, trivial⟩
  · cases h
def cvoStep (c : (List Fx.Vec)) (i : Nat) (_x : Unit) : Sum (Unit) (Unit) := bif Fx.cvxE c i (Fx.nxt c i) (c.getD i ⟨0, 0⟩) then .inl () else .inr ()
def cvoV (c : (List Fx.Vec)) (i : Nat) (_x : Unit) : VT := VT.ite (decide ((i : Int) < (c.length : Int))) (VT.pre [0 ≤ (i : Int) ∧ (i : Int) < ((c).length : Int)] (VT.pre [(c.length : Int) ≠ 0] (VT.pre [false = false, (c.length : Int) = c.length, c = c, (c.length : Int) = c.length, (i : Int) = i, c = c, (c.length : Int) = c.length, (0 : Int) = 0, 0 ≤ Fx.nxt c i ∧ Fx.nxt c i < (c.length : Int)] (VT.ite (Fx.cvxE c i (Fx.nxt c i) (c.getD i ⟨0, 0⟩)) (VT.leaf Ex.norm 60 [.val ((eSl .vec).pv c), .val (Bo false), .val (I c.length), .val ((eSl .vec).pv c), .val (I c.length), .val (I (IntKind.i64.wrap ((i : Int) + 1)))] []) (VT.leaf (Ex.ret) 60 [.any, .val (Bo false), .any, .any, .any, .any] []))))) (VT.leaf (Ex.exit 0) 60 [.val ((eSl .vec).pv c), .val (Bo false), .val (I c.length), .val ((eSl .vec).pv c), .val (I c.length), .val (I (i : Int))] [])
theorem cvoV_eq (c : (List Fx.Vec)) (i : Nat) (x : Unit) : viewT [0, 2, 3, 22, 23, 24] [] (sexec Try.prog (tbl cvoL) (fun _ => cviT) (lbN 0 Try.f84) (headSt 60 0 [0, 2, 3, 22, 23, 24] [] (cvoTv c i x) (cvoMv c i x))) = cvoV c i x := by kernel_rfl
noncomputable def cvoT : St → Tree := forT 60 0 [0, 2, 3, 22, 23, 24] [] cvoDec (fun c => c.length) cvoTv cvoMv cvoEtv cvoEmv cvoStep () 0 .ret
theorem cvoA : AllSound Try.prog cvoL := (.cons cOrt .nil)
theorem cvoLoop : LoopOk Try.prog cvoT (lbN 0 Try.f84) :=
  forT_ok mixed cvoA.tbl (oneLoop (lps := fun _ => cviT) (b := (loopsOf (lbN 0 Try.f84)).getD 0 .skip) (by kernel_rfl) cviLoop) [] (bn := fun c => c.length ≤ maxLen) (inv := cvoInv) cvoDec_ok (fun _ _ => ⟨⟨.inr rfl, .inr rfl, .inr rfl, .inr rfl, .inr rfl, .inr rfl, trivial⟩, trivial, rfl, rfl, rfl⟩)
    (fun _ _ _ _ _ _ hr h1 h2 => by
      simp only [List.map_cons, cvoTv, List.cons.injEq] at h1; exact len_le hr h1.1)
    (fun c i x hok hn hinv hi => ⟨_, cvoV_eq c i x, by
      refine ⟨fun h => ?_, fun h => ?_⟩
      · have h : i < c.length := by simpa using h
        refine ⟨⟨⟨by omega, by first | omega | (have := h; omega)⟩, trivial⟩, ?_⟩
        refine ⟨⟨by omega, trivial⟩, ?_⟩
        refine ⟨⟨rfl, rfl, rfl, rfl, rfl, rfl, rfl, rfl, Fx.nxt_ok h hn, trivial⟩, ?_⟩
        refine ⟨fun hb4 => ?_, fun hb4 => ?_⟩
        · rw [wrap_succ h hn]
          exact ⟨rfl, (), [], h, by unfold cvoStep; first | rfl | ((try dsimp only); (try rw [hb4]); rfl), trivial, ⟨.inr rfl, .inr rfl, .inr rfl, .inr rfl, .inr rfl, .inr rfl, trivial⟩, trivial, rfl, rfl, rfl⟩
        · exact ⟨rfl, .inr ⟨rfl, h, (), [], by unfold cvoStep; first | rfl | ((try dsimp only); (try rw [hb4]); rfl), ⟨.inl rfl, .inr rfl, .inl rfl, .inl rfl, .inl rfl, .inl rfl, trivial⟩, trivial, rfl, rfl, rfl⟩⟩
      · have h : ¬ i < c.length := by simpa using h
        exact ⟨rfl, .inl ⟨rfl, by omega, [], ⟨.inr rfl, .inr rfl, .inr rfl, .inr rfl, .inr rfl, .inr rfl, trivial⟩, trivial, rfl, rfl, rfl⟩⟩⟩)
theorem cCvx : Sound Try.prog 84 (c1 (eSl .vec) eB Fx.cvx) :=
  con (lps := fun _ => cvoT) mixed (AllSound.cons cAllR (.cons cOrt .nil)) Try.func84 (by kernel_rfl) (by kernel_rfl) (oneLoop (lps := fun _ => cvoT) (b := lbN 0 Try.f84) (by kernel_rfl) cvoLoop)
    (g1 (fun l => [Fx.cvxBad l = false → false = false, Fx.cvxBad l = false → (l.length : Int) = l.length, Fx.cvxBad l = false → l = l, Fx.cvxBad l = false → (l.length : Int) = l.length, Fx.cvxBad l = false → (0 : Int) = 0]) (fun l => bif Fx.cvxBad l then false else bif Fx.cvxA l then true else false) (fun _ _ => ⟨fun _ => rfl, fun _ => rfl, fun _ => rfl, fun _ => rfl, fun _ => rfl, trivial⟩) (fun l _ => Fx.cvx_eq l) (fun _ => by kernel_rfl))
end Go.Proofs.Ytfjognghjiifaaa
