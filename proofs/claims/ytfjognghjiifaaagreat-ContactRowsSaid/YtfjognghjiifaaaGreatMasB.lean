/- The contracts of polygons, second part. -/
import Derived.Test.YtfjognghjiifaaaGreatMas
open Go Go.Eng
namespace Go.Proofs.YtfjognghjiifaaaGreat
open Go.Fx (an orr)

noncomputable def cvoL : List (FuncId × Contract) := [(118, c3 eV eV eV eI Fx.ort)]
def cvoTv (c : (List Fx.Vec)) (i : Nat) (_x : Unit) : List TV := [.val ((eSl .vec).pv c), .val (Bo false), .val (I c.length), .val ((eSl .vec).pv c), .val (I c.length), .val (I (i : Int))]
def cvoMv (_c : (List Fx.Vec)) (_i : Nat) (_x : Unit) : List MRes := []
def cvoEtv (_c : (List Fx.Vec)) (_e : Unit) : List TV := [.any, .val (Bo false), .any, .any, .any, .any]
def cvoEmv (_c : (List Fx.Vec)) (_e : Unit) : List MRes := []
def cvoDec : List TV → List MRes → Option (List Prop × ((List Fx.Vec)) × (Unit))
  | [.val (.fv (.one (.slc false ⟨.vec, l⟩))), .val (Bo b), .val (I n3), .val (.fv (.one (.slc false ⟨.vec, l2⟩))), .val (I n23), .val (I i)], [] => some ([b = false, n3 = l.length, l2 = l, n23 = l.length, i = 0], l, ())
  | _, _ => none
def cvoOk (_c : (List Fx.Vec)) : Prop := True
def cvoInv (_c : (List Fx.Vec)) (_i : Nat) (_x : Unit) : Prop := True
theorem cvoDec_ok (ts : List TV) (ms : List MRes) (ps : List Prop) (c : (List Fx.Vec)) (x : Unit) (h : cvoDec ts ms = some (ps, c, x)) (hp : Conj ps) : ts = cvoTv c 0 x ∧ ms = cvoMv c 0 x ∧ cvoOk c ∧ cvoInv c 0 x := by
  unfold cvoDec at h
  split at h
  · cases h
    obtain ⟨rfl, rfl, rfl, rfl, rfl, _⟩ := hp
    exact ⟨rfl, rfl, trivial, trivial⟩
  · cases h
def cvoStep (c : (List Fx.Vec)) (i : Nat) (_x : Unit) : Sum (Unit) (Unit) := bif Fx.cvxE c i (Fx.nxt c i) (c.getD i ⟨0, 0⟩) then .inl () else .inr ()
def cvoV (c : (List Fx.Vec)) (i : Nat) (_x : Unit) : VT := VT.ite (decide ((i : Int) < (c.length : Int))) (VT.pre [0 ≤ (i : Int) ∧ (i : Int) < ((c).length : Int)] (VT.pre [(c.length : Int) ≠ 0] (VT.pre [false = false, (c.length : Int) = c.length, c = c, (c.length : Int) = c.length, (i : Int) = i, c = c, (c.length : Int) = c.length, (0 : Int) = 0, 0 ≤ Fx.nxt c i ∧ Fx.nxt c i < (c.length : Int)] (VT.ite (Fx.cvxE c i (Fx.nxt c i) (c.getD i ⟨0, 0⟩)) (VT.leaf Ex.norm 60 [.val ((eSl .vec).pv c), .val (Bo false), .val (I c.length), .val ((eSl .vec).pv c), .val (I c.length), .val (I (IntKind.i64.wrap ((i : Int) + 1)))] []) (VT.leaf (Ex.ret) 60 [.any, .val (Bo false), .any, .any, .any, .any] []))))) (VT.leaf (Ex.exit 0) 60 [.val ((eSl .vec).pv c), .val (Bo false), .val (I c.length), .val ((eSl .vec).pv c), .val (I c.length), .val (I (i : Int))] [])
theorem cvoV_eq (c : (List Fx.Vec)) (i : Nat) (x : Unit) : viewT [0, 2, 3, 22, 23, 24] [] (sexec Tryz.prog (tbl cvoL) (fun _ => cviT) (lbN 0 Tryz.f100) (headSt 60 0 [0, 2, 3, 22, 23, 24] [] (cvoTv c i x) (cvoMv c i x))) = cvoV c i x := by kernel_rfl
noncomputable def cvoT : St → Tree := forT 60 0 [0, 2, 3, 22, 23, 24] [] cvoDec (fun c => c.length) cvoTv cvoMv cvoEtv cvoEmv cvoStep () 0 .ret
theorem cvoA : AllSound Tryz.prog cvoL := (.cons cOrt .nil)
theorem cvoLoop : LoopOk Tryz.prog cvoT (lbN 0 Tryz.f100) :=
  forT_ok mixed cvoA.tbl (oneLoop (lps := fun _ => cviT) (b := (loopsOf (lbN 0 Tryz.f100)).getD 0 .skip) (by kernel_rfl) cviLoop) [] (bn := fun c => c.length ≤ maxLen) (inv := cvoInv) cvoDec_ok (fun _ _ => ⟨⟨.inr rfl, .inr rfl, .inr rfl, .inr rfl, .inr rfl, .inr rfl, trivial⟩, trivial, rfl, rfl, rfl⟩)
    (fun _ _ _ _ _ _ hr h1 h2 => by
      simp only [List.map_cons, cvoTv, List.cons.injEq] at h1; exact len_le hr h1.1)
    (fun c i x hok hn hinv hi => ⟨_, cvoV_eq c i x, by
      refine ⟨fun h => ?_, fun h => ?_⟩
      · have h : i < c.length := by simpa using h
        refine ⟨⟨⟨by omega, by first | omega | (have := h; omega)⟩, trivial⟩, ?_⟩
        refine ⟨⟨by omega, trivial⟩, ?_⟩
        refine ⟨⟨rfl, rfl, rfl, rfl, rfl, rfl, rfl, rfl, Fx.nxt_ok h hn, trivial⟩, ?_⟩
        refine ⟨fun hb4 => ?_, fun hb4 => ?_⟩
        · rw [wrap_succ h hn]
          exact ⟨rfl, (), [], h, by unfold cvoStep; first | rfl | ((try dsimp only); (try rw [hb4]); rfl), trivial, ⟨.inr rfl, .inr rfl, .inr rfl, .inr rfl, .inr rfl, .inr rfl, trivial⟩, trivial, rfl, rfl, rfl⟩
        · exact ⟨rfl, .inr ⟨rfl, h, (), [], by unfold cvoStep; first | rfl | ((try dsimp only); (try rw [hb4]); rfl), ⟨.inl rfl, .inr rfl, .inl rfl, .inl rfl, .inl rfl, .inl rfl, trivial⟩, trivial, rfl, rfl, rfl⟩⟩
      · have h : ¬ i < c.length := by simpa using h
        exact ⟨rfl, .inl ⟨rfl, by omega, [], ⟨.inr rfl, .inr rfl, .inr rfl, .inr rfl, .inr rfl, .inr rfl, trivial⟩, trivial, rfl, rfl, rfl⟩⟩⟩)
theorem cCvx : Sound Tryz.prog 100 (c1 (eSl .vec) eB Fx.cvx) :=
  con (lps := fun _ => cvoT) mixed (AllSound.cons cAllR (.cons cOrt .nil)) Tryz.func100 (by kernel_rfl) (by kernel_rfl) (oneLoop (lps := fun _ => cvoT) (b := lbN 0 Tryz.f100) (by kernel_rfl) cvoLoop)
    (g1 (fun l => [Fx.cvxBad l = false → false = false, Fx.cvxBad l = false → (l.length : Int) = l.length, Fx.cvxBad l = false → l = l, Fx.cvxBad l = false → (l.length : Int) = l.length, Fx.cvxBad l = false → (0 : Int) = 0]) (fun l => bif Fx.cvxBad l then false else bif Fx.cvxA l then true else false) (fun _ _ => ⟨fun _ => rfl, fun _ => rfl, fun _ => rfl, fun _ => rfl, fun _ => rfl, trivial⟩) (fun l _ => Fx.cvx_eq l) (fun _ => by kernel_rfl))
noncomputable def rcrL : List (FuncId × Contract) := [(128, c1 eV eB Fx.inRch)]
def rcrTv (c : (List Fx.Vec)) (i : Nat) (_x : Unit) : List TV := [.val ((eSl .vec).pv c), .val (Bo false), .val (I c.length), .val (I (i : Int))]
def rcrMv (_c : (List Fx.Vec)) (_i : Nat) (_x : Unit) : List MRes := []
def rcrEtv (_c : (List Fx.Vec)) (_e : Unit) : List TV := [.any, .val (Bo false), .any, .any]
def rcrEmv (_c : (List Fx.Vec)) (_e : Unit) : List MRes := []
def rcrDec : List TV → List MRes → Option (List Prop × ((List Fx.Vec)) × (Unit))
  | [.val (.fv (.one (.slc false ⟨.vec, l⟩))), .val (Bo b), .val (I n3), .val (I i)], [] => some ([b = false, n3 = l.length, i = 0], (l), ())
  | _, _ => none
def rcrOk (_c : (List Fx.Vec)) : Prop := True
def rcrInv (_c : (List Fx.Vec)) (_i : Nat) (_x : Unit) : Prop := True
theorem rcrDec_ok (ts : List TV) (ms : List MRes) (ps : List Prop) (c : (List Fx.Vec)) (x : Unit) (h : rcrDec ts ms = some (ps, c, x)) (hp : Conj ps) : ts = rcrTv c 0 x ∧ ms = rcrMv c 0 x ∧ rcrOk c ∧ rcrInv c 0 x := by
  unfold rcrDec at h
  split at h
  · cases h
    obtain ⟨rfl, rfl, rfl, _⟩ := hp
    exact ⟨rfl, rfl, trivial, trivial⟩
  · cases h
def rcrStep (c : (List Fx.Vec)) (i : Nat) (_x : Unit) : Sum (Unit) (Unit) := bif !Fx.inRch (c.getD i ⟨0, 0⟩) then .inr () else .inl ()
def rcrV (c : (List Fx.Vec)) (i : Nat) (_x : Unit) : VT := VT.ite (decide ((i : Int) < (c.length : Int))) (VT.pre [0 ≤ (i : Int) ∧ (i : Int) < ((c).length : Int)] (VT.ite (!Fx.inRch (c.getD i ⟨0, 0⟩)) (VT.leaf (Ex.ret) 65 [.val ((eSl .vec).pv c), .val (Bo false), .val (I c.length), .val (I (i : Int))] []) (VT.leaf Ex.norm 65 [.val ((eSl .vec).pv c), .val (Bo false), .val (I c.length), .val (I (IntKind.i64.wrap ((i : Int) + 1)))] []))) (VT.leaf (Ex.exit 0) 65 [.val ((eSl .vec).pv c), .val (Bo false), .val (I c.length), .val (I (i : Int))] [])
theorem rcrV_eq (c : (List Fx.Vec)) (i : Nat) (x : Unit) : viewT [0, 2, 3, 4] [] (sexec Tryz.prog (tbl rcrL) (noLps) (lbN 0 Tryz.f123) (headSt 65 0 [0, 2, 3, 4] [] (rcrTv c i x) (rcrMv c i x))) = rcrV c i x := by kernel_rfl
noncomputable def rcrT : St → Tree := forT 65 0 [0, 2, 3, 4] [] rcrDec (fun c => c.length) rcrTv rcrMv rcrEtv rcrEmv rcrStep () 0 .ret
theorem rcrA : AllSound Tryz.prog rcrL := (.cons rInReach .nil)
theorem rcrLoop : LoopOk Tryz.prog rcrT (lbN 0 Tryz.f123) :=
  forT_ok mixed rcrA.tbl (noLoops (by kernel_rfl)) [] (bn := fun c => c.length ≤ maxLen) (inv := rcrInv) rcrDec_ok (fun _ _ => ⟨⟨.inr rfl, .inr rfl, .inr rfl, .inr rfl, trivial⟩, trivial, rfl, rfl, rfl⟩)
    (fun _ _ _ _ _ _ hr h1 h2 => by
      simp only [List.map_cons, rcrTv, List.cons.injEq] at h1; exact len_le hr h1.1)
    (fun c i x hok hn hinv hi => ⟨_, rcrV_eq c i x, by
      refine ⟨fun h => ?_, fun h => ?_⟩
      · have h : i < c.length := by simpa using h
        refine ⟨⟨⟨by omega, by first | omega | (have := h; omega)⟩, trivial⟩, ?_⟩
        refine ⟨fun hb2 => ?_, fun hb2 => ?_⟩
        · exact ⟨rfl, .inr ⟨rfl, h, (), [], by unfold rcrStep; first | rfl | ((try dsimp only); (try rw [hb2]); rfl), ⟨.inl rfl, .inr rfl, .inl rfl, .inl rfl, trivial⟩, trivial, rfl, rfl, rfl⟩⟩
        · rw [wrap_succ h hn]
          exact ⟨rfl, (), [], h, by unfold rcrStep; first | rfl | ((try dsimp only); (try rw [hb2]); rfl), trivial, ⟨.inr rfl, .inr rfl, .inr rfl, .inr rfl, trivial⟩, trivial, rfl, rfl, rfl⟩
      · have h : ¬ i < c.length := by simpa using h
        exact ⟨rfl, .inl ⟨rfl, by omega, [], ⟨.inr rfl, .inr rfl, .inr rfl, .inr rfl, trivial⟩, trivial, rfl, rfl, rfl⟩⟩⟩)
noncomputable def rciL : List (FuncId × Contract) := [(129, c3 eV eV eV eI Fx.ort)]
def rciTv (c : (List Fx.Vec) × (Int) × (Int)) (i : Nat) (_x : Unit) : List TV := [.val ((eSl .vec).pv c.1), .val (Bo false), .val (I c.1.length), .val (I c.2.1), .val (I c.2.2), .val (I (i : Int))]
def rciMv (_c : (List Fx.Vec) × (Int) × (Int)) (_i : Nat) (_x : Unit) : List MRes := []
def rciEtv (_c : (List Fx.Vec) × (Int) × (Int)) (_e : Unit) : List TV := [.any, .val (Bo false), .any, .any, .any, .any]
def rciEmv (_c : (List Fx.Vec) × (Int) × (Int)) (_e : Unit) : List MRes := []
def rciDec : List TV → List MRes → Option (List Prop × ((List Fx.Vec) × (Int) × (Int)) × (Unit))
  | [.val (.fv (.one (.slc false ⟨.vec, l⟩))), .val (Bo b), .val (I n3), .val (I j), .val (I nx), .val (I i)], [] => some ([b = false, n3 = l.length, i = 0, (0 ≤ j ∧ j < (l.length : Int)) ∧ (0 ≤ nx ∧ nx < (l.length : Int))], (l, j, nx), ())
  | _, _ => none
def rciOk (c : (List Fx.Vec) × (Int) × (Int)) : Prop := (0 ≤ c.2.1 ∧ c.2.1 < (c.1.length : Int)) ∧ (0 ≤ c.2.2 ∧ c.2.2 < (c.1.length : Int))
def rciInv (_c : (List Fx.Vec) × (Int) × (Int)) (_i : Nat) (_x : Unit) : Prop := True
theorem rciDec_ok (ts : List TV) (ms : List MRes) (ps : List Prop) (c : (List Fx.Vec) × (Int) × (Int)) (x : Unit) (h : rciDec ts ms = some (ps, c, x)) (hp : Conj ps) : ts = rciTv c 0 x ∧ ms = rciMv c 0 x ∧ rciOk c ∧ rciInv c 0 x := by
  unfold rciDec at h
  split at h
  · cases h
    obtain ⟨rfl, rfl, rfl, hok, _⟩ := hp
    exact ⟨rfl, rfl, hok, trivial⟩
  · cases h
def rciStep (c : (List Fx.Vec) × (Int) × (Int)) (i : Nat) (_x : Unit) : Sum (Unit) (Unit) := bif bif bif (i : Int) != c.2.1 then (i : Int) != c.2.2 else false then Fx.ort (c.1.getD c.2.1.toNat ⟨0, 0⟩) (c.1.getD c.2.2.toNat ⟨0, 0⟩) (c.1.getD i ⟨0, 0⟩) != 1 else false then .inr () else .inl ()
def rciV (c : (List Fx.Vec) × (Int) × (Int)) (i : Nat) (_x : Unit) : VT := VT.ite (decide ((i : Int) < (c.1.length : Int))) (VT.pre [(bif (i : Int) != c.2.1 then (i : Int) != c.2.2 else false) = true → 0 ≤ c.2.1 ∧ c.2.1 < (c.1.length : Int), (bif (i : Int) != c.2.1 then (i : Int) != c.2.2 else false) = true → 0 ≤ c.2.2 ∧ c.2.2 < (c.1.length : Int), (bif (i : Int) != c.2.1 then (i : Int) != c.2.2 else false) = true → 0 ≤ (i : Int) ∧ (i : Int) < (c.1.length : Int)] (VT.ite (bif bif (i : Int) != c.2.1 then (i : Int) != c.2.2 else false then Fx.ort (c.1.getD c.2.1.toNat ⟨0, 0⟩) (c.1.getD c.2.2.toNat ⟨0, 0⟩) (c.1.getD i ⟨0, 0⟩) != 1 else false) (VT.leaf (Ex.ret) 65 [.val ((eSl .vec).pv c.1), .val (Bo false), .val (I c.1.length), .val (I c.2.1), .val (I c.2.2), .val (I (i : Int))] []) (VT.leaf Ex.norm 65 [.val ((eSl .vec).pv c.1), .val (Bo false), .val (I c.1.length), .val (I c.2.1), .val (I c.2.2), .val (I (IntKind.i64.wrap ((i : Int) + 1)))] []))) (VT.leaf (Ex.exit 4) 65 [.val ((eSl .vec).pv c.1), .val (Bo false), .val (I c.1.length), .val (I c.2.1), .val (I c.2.2), .val (I (i : Int))] [])
theorem rciV_eq (c : (List Fx.Vec) × (Int) × (Int)) (i : Nat) (x : Unit) : viewT [0, 2, 3, 5, 6, 7] [] (sexec Tryz.prog (tbl rciL) (noLps) ((loopsOf (lbN 1 Tryz.f123)).getD 0 .skip) (headSt 65 0 [0, 2, 3, 5, 6, 7] [] (rciTv c i x) (rciMv c i x))) = rciV c i x := by kernel_rfl
noncomputable def rciT : St → Tree := forT 65 0 [0, 2, 3, 5, 6, 7] [] rciDec (fun c => c.1.length) rciTv rciMv rciEtv rciEmv rciStep () 4 .ret
theorem rciA : AllSound Tryz.prog rciL := (.cons rOrt .nil)
theorem rciLoop : LoopOk Tryz.prog rciT ((loopsOf (lbN 1 Tryz.f123)).getD 0 .skip) :=
  forT_ok mixed rciA.tbl (noLoops (by kernel_rfl)) [] (bn := fun c => c.1.length ≤ maxLen) (inv := rciInv) rciDec_ok (fun _ _ => ⟨⟨.inr rfl, .inr rfl, .inr rfl, .inr rfl, .inr rfl, .inr rfl, trivial⟩, trivial, rfl, rfl, rfl⟩)
    (fun _ _ _ _ _ _ hr h1 h2 => by
      simp only [List.map_cons, rciTv, List.cons.injEq] at h1; exact len_le hr h1.1)
    (fun c i x hok hn hinv hi => ⟨_, rciV_eq c i x, by
      refine ⟨fun h => ?_, fun h => ?_⟩
      · have h : i < c.1.length := by simpa using h
        refine ⟨⟨fun _ => hok.1, fun _ => hok.2, fun _ => ⟨by omega, by omega⟩, trivial⟩, ?_⟩
        refine ⟨fun hb2 => ?_, fun hb2 => ?_⟩
        · exact ⟨rfl, .inr ⟨rfl, h, (), [], by unfold rciStep; first | rfl | ((try dsimp only); (try rw [hb2]); rfl), ⟨.inl rfl, .inr rfl, .inl rfl, .inl rfl, .inl rfl, .inl rfl, trivial⟩, trivial, rfl, rfl, rfl⟩⟩
        · rw [wrap_succ h hn]
          exact ⟨rfl, (), [], h, by unfold rciStep; first | rfl | ((try dsimp only); (try rw [hb2]); rfl), trivial, ⟨.inr rfl, .inr rfl, .inr rfl, .inr rfl, .inr rfl, .inr rfl, trivial⟩, trivial, rfl, rfl, rfl⟩
      · have h : ¬ i < c.1.length := by simpa using h
        exact ⟨rfl, .inl ⟨rfl, by omega, [], ⟨.inr rfl, .inr rfl, .inr rfl, .inr rfl, .inr rfl, .inr rfl, trivial⟩, trivial, rfl, rfl, rfl⟩⟩⟩)
noncomputable def rcoL : List (FuncId × Contract) := [(129, c3 eV eV eV eI Fx.ort)]
def rcoTv (c : (List Fx.Vec)) (i : Nat) (_x : Unit) : List TV := [.val ((eSl .vec).pv c), .val (Bo false), .val (I c.length), .val (I (i : Int))]
def rcoMv (_c : (List Fx.Vec)) (_i : Nat) (_x : Unit) : List MRes := []
def rcoEtv (_c : (List Fx.Vec)) (_e : Unit) : List TV := [.any, .val (Bo false), .any, .any]
def rcoEmv (_c : (List Fx.Vec)) (_e : Unit) : List MRes := []
def rcoDec : List TV → List MRes → Option (List Prop × ((List Fx.Vec)) × (Unit))
  | [.val (.fv (.one (.slc false ⟨.vec, l⟩))), .val (Bo b), .val (I n3), .val (I i)], [] => some ([b = false, n3 = l.length, i = 0], (l), ())
  | _, _ => none
def rcoOk (_c : (List Fx.Vec)) : Prop := True
def rcoInv (_c : (List Fx.Vec)) (_i : Nat) (_x : Unit) : Prop := True
theorem rcoDec_ok (ts : List TV) (ms : List MRes) (ps : List Prop) (c : (List Fx.Vec)) (x : Unit) (h : rcoDec ts ms = some (ps, c, x)) (hp : Conj ps) : ts = rcoTv c 0 x ∧ ms = rcoMv c 0 x ∧ rcoOk c ∧ rcoInv c 0 x := by
  unfold rcoDec at h
  split at h
  · cases h
    obtain ⟨rfl, rfl, rfl, _⟩ := hp
    exact ⟨rfl, rfl, trivial, trivial⟩
  · cases h
def rcoStep (c : (List Fx.Vec)) (i : Nat) (_x : Unit) : Sum (Unit) (Unit) := bif Fx.cvxE c i (Fx.nxt c i) (c.getD i ⟨0, 0⟩) then .inl () else .inr ()
def rcoV (c : (List Fx.Vec)) (i : Nat) (_x : Unit) : VT := VT.ite (decide ((i : Int) < (c.length : Int))) (VT.pre [(c.length : Int) ≠ 0] (VT.pre [false = false, (c.length : Int) = c.length, (0 : Int) = 0, (0 ≤ (i : Int) ∧ (i : Int) < (c.length : Int)) ∧ (0 ≤ Fx.nxt c i ∧ Fx.nxt c i < (c.length : Int))] (VT.ite (Fx.cvxE c i (Fx.nxt c i) (c.getD i ⟨0, 0⟩)) (VT.leaf Ex.norm 65 [.val ((eSl .vec).pv c), .val (Bo false), .val (I c.length), .val (I (IntKind.i64.wrap ((i : Int) + 1)))] []) (VT.leaf (Ex.ret) 65 [.any, .val (Bo false), .any, .any] [])))) (VT.leaf (Ex.exit 2) 65 [.val ((eSl .vec).pv c), .val (Bo false), .val (I c.length), .val (I (i : Int))] [])
theorem rcoV_eq (c : (List Fx.Vec)) (i : Nat) (x : Unit) : viewT [0, 2, 3, 5] [] (sexec Tryz.prog (tbl rcoL) (fun _ => rciT) (lbN 1 Tryz.f123) (headSt 65 0 [0, 2, 3, 5] [] (rcoTv c i x) (rcoMv c i x))) = rcoV c i x := by kernel_rfl
noncomputable def rcoT : St → Tree := forT 65 0 [0, 2, 3, 5] [] rcoDec (fun c => c.length) rcoTv rcoMv rcoEtv rcoEmv rcoStep () 2 .ret
theorem rcoA : AllSound Tryz.prog rcoL := (.cons rOrt .nil)
theorem rcoLoop : LoopOk Tryz.prog rcoT (lbN 1 Tryz.f123) :=
  forT_ok mixed rcoA.tbl (oneLoop (lps := fun _ => rciT) (b := (loopsOf (lbN 1 Tryz.f123)).getD 0 .skip) (by kernel_rfl) rciLoop) [] (bn := fun c => c.length ≤ maxLen) (inv := rcoInv) rcoDec_ok (fun _ _ => ⟨⟨.inr rfl, .inr rfl, .inr rfl, .inr rfl, trivial⟩, trivial, rfl, rfl, rfl⟩)
    (fun _ _ _ _ _ _ hr h1 h2 => by
      simp only [List.map_cons, rcoTv, List.cons.injEq] at h1; exact len_le hr h1.1)
    (fun c i x hok hn hinv hi => ⟨_, rcoV_eq c i x, by
      refine ⟨fun h => ?_, fun h => ?_⟩
      · have h : i < c.length := by simpa using h
        refine ⟨⟨by omega, trivial⟩, ?_⟩
        refine ⟨⟨rfl, rfl, rfl, ⟨⟨by omega, by omega⟩, Fx.nxt_ok h hn⟩, trivial⟩, ?_⟩
        refine ⟨fun hb3 => ?_, fun hb3 => ?_⟩
        · rw [wrap_succ h hn]
          exact ⟨rfl, (), [], h, by unfold rcoStep; first | rfl | ((try dsimp only); (try rw [hb3]); rfl), trivial, ⟨.inr rfl, .inr rfl, .inr rfl, .inr rfl, trivial⟩, trivial, rfl, rfl, rfl⟩
        · exact ⟨rfl, .inr ⟨rfl, h, (), [], by unfold rcoStep; first | rfl | ((try dsimp only); (try rw [hb3]); rfl), ⟨.inl rfl, .inr rfl, .inl rfl, .inl rfl, trivial⟩, trivial, rfl, rfl, rfl⟩⟩
      · have h : ¬ i < c.length := by simpa using h
        exact ⟨rfl, .inl ⟨rfl, by omega, [], ⟨.inr rfl, .inr rfl, .inr rfl, .inr rfl, trivial⟩, trivial, rfl, rfl, rfl⟩⟩⟩)
noncomputable def rcL : Nat → St → Tree := fun k => bif Nat.beq k 5 then rcrT else rcoT
theorem rCvx : Sound Tryz.prog 123 (c1 (eSl .vec) eB Fx.cvx) :=
  con (lps := rcL) mixed (AllSound.cons rOrt .nil) Tryz.func123 (by kernel_rfl) (by kernel_rfl) (loops2 (lps := rcL) (b := lbN 0 Tryz.f123) (b' := lbN 1 Tryz.f123) (by kernel_rfl) (by kernel_rfl) (by kernel_rfl) rcrLoop rcoLoop)
    (g1 (fun l => [Fx.cvxFew l = false → false = false, Fx.cvxFew l = false → (l.length : Int) = l.length, Fx.cvxFew l = false → (0 : Int) = 0, Fx.cvxFew l = false → Fx.allRch l = true → false = false, Fx.cvxFew l = false → Fx.allRch l = true → (l.length : Int) = l.length, Fx.cvxFew l = false → Fx.allRch l = true → (0 : Int) = 0])
      (fun l => bif Fx.cvxFew l then false else bif Fx.allRch l then bif Fx.cvxA l then true else false else false) (fun _ _ => ⟨fun _ => rfl, fun _ => rfl, fun _ => rfl, fun _ _ => rfl, fun _ _ => rfl, fun _ _ => rfl, trivial⟩) (fun l _ => Fx.cvxR_eq l) (fun _ => by kernel_rfl))
end Go.Proofs.YtfjognghjiifaaaGreat
