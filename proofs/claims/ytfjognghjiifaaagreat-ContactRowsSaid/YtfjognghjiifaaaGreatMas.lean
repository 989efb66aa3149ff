/- The contracts of polygons, shapes and masses, chapter 13, program and reference. -/
import Derived.Test.YtfjognghjiifaaaGreatVec
import Derived.Test.YtfjognghjiifaaaGreatEngMas
open Go Go.Eng
namespace Go.Proofs.YtfjognghjiifaaaGreat
open Go.Fx (an orr)

theorem cOrt : Sound Tryz.prog 118 (c3 eV eV eV eI Fx.ort) :=
  con (lps := noLps) mixed (.cons cVsat .nil) Tryz.func118 (by kernel_rfl) (by kernel_rfl) (noLoops (by kernel_rfl)) (g3 (fun _ _ _ => []) Fx.ortP (fun _ _ _ _ => trivial) (fun a b c _ => Fx.ortP_eq a b c) (fun _ _ _ => by kernel_rfl))
theorem rOrt : Sound Tryz.prog 129 (c3 eV eV eV eI Fx.ort) :=
  con (lps := noLps) mixed (.cons rVsat .nil) Tryz.func129 (by kernel_rfl) (by kernel_rfl) (noLoops (by kernel_rfl)) (k3 (fun _ _ _ => by kernel_rfl))
theorem cInReach : Sound Tryz.prog 127 (c1 eV eB Fx.inRch) :=
  con (lps := noLps) mixed .nil Tryz.func127 (by kernel_rfl) (by kernel_rfl) (noLoops (by kernel_rfl)) (k1 (fun _ => by kernel_rfl))
theorem rInReach : Sound Tryz.prog 128 (c1 eV eB Fx.inRch) :=
  con (lps := noLps) mixed .nil Tryz.func128 (by kernel_rfl) (by kernel_rfl) (noLoops (by kernel_rfl)) (k1 (fun _ => by kernel_rfl))
noncomputable def airL : List (FuncId × Contract) := [(127, c1 eV eB Fx.inRch)]
def airTv (c : (List Fx.Vec)) (i : Nat) (_x : Unit) : List TV := [.val (Bo false), .val ((eSl .vec).pv c), .val (I c.length), .val (I (i : Int))]
def airMv (_c : (List Fx.Vec)) (_i : Nat) (_x : Unit) : List MRes := []
def airEtv (_c : (List Fx.Vec)) (_e : Unit) : List TV := [.val (Bo false), .any, .any, .any]
def airEmv (_c : (List Fx.Vec)) (_e : Unit) : List MRes := []
def airDec : List TV → List MRes → Option (List Prop × ((List Fx.Vec)) × (Unit))
  | [.val (Bo b), .val (.fv (.one (.slc false ⟨.vec, l⟩))), .val (I n), .val (I i)], [] => some ([b = false, n = l.length, i = 0], (l), ())
  | _, _ => none
def airOk (_c : (List Fx.Vec)) : Prop := True
def airInv (_c : (List Fx.Vec)) (_i : Nat) (_x : Unit) : Prop := True
theorem airDec_ok (ts : List TV) (ms : List MRes) (ps : List Prop) (c : (List Fx.Vec)) (x : Unit) (h : airDec ts ms = some (ps, c, x)) (hp : Conj ps) : ts = airTv c 0 x ∧ ms = airMv c 0 x ∧ airOk c ∧ airInv c 0 x := by
  unfold airDec at h
  split at h
  · cases h
    obtain ⟨rfl, rfl, rfl, _⟩ := hp
    exact ⟨rfl, rfl, trivial, trivial⟩
  · cases h
def airStep (c : (List Fx.Vec)) (i : Nat) (_x : Unit) : Sum (Unit) (Unit) := bif !Fx.inRch (c.getD i ⟨0, 0⟩) then .inr () else .inl ()
def airV (c : (List Fx.Vec)) (i : Nat) (_x : Unit) : VT := VT.ite (decide ((i : Int) < (c.length : Int))) (VT.pre [0 ≤ (i : Int) ∧ (i : Int) < ((c).length : Int)] (VT.ite (!Fx.inRch (c.getD i ⟨0, 0⟩)) (VT.leaf (Ex.ret) 15 [.val (Bo false), .val ((eSl .vec).pv c), .val (I c.length), .val (I (i : Int))] []) (VT.leaf Ex.norm 15 [.val (Bo false), .val ((eSl .vec).pv c), .val (I c.length), .val (I (IntKind.i64.wrap ((i : Int) + 1)))] []))) (VT.leaf (Ex.exit 0) 15 [.val (Bo false), .val ((eSl .vec).pv c), .val (I c.length), .val (I (i : Int))] [])
theorem airV_eq (c : (List Fx.Vec)) (i : Nat) (x : Unit) : viewT [2, 5, 6, 7] [] (sexec Tryz.prog (tbl airL) (noLps) (lbN 0 Tryz.f117) (headSt 15 0 [2, 5, 6, 7] [] (airTv c i x) (airMv c i x))) = airV c i x := by kernel_rfl
noncomputable def airT : St → Tree := forT 15 0 [2, 5, 6, 7] [] airDec (fun c => c.length) airTv airMv airEtv airEmv airStep () 0 .ret
theorem airA : AllSound Tryz.prog airL := (.cons cInReach .nil)
theorem airLoop : LoopOk Tryz.prog airT (lbN 0 Tryz.f117) :=
  forT_ok mixed airA.tbl (noLoops (by kernel_rfl)) [] (bn := fun c => c.length ≤ maxLen) (inv := airInv) airDec_ok (fun _ _ => ⟨⟨.inr rfl, .inr rfl, .inr rfl, .inr rfl, trivial⟩, trivial, rfl, rfl, rfl⟩)
    (fun _ _ _ _ _ _ hr h1 h2 => by
      simp only [List.map_cons, airTv, List.cons.injEq] at h1; exact len_le hr h1.2.1)
    (fun c i x hok hn hinv hi => ⟨_, airV_eq c i x, by
      refine ⟨fun h => ?_, fun h => ?_⟩
      · have h : i < c.length := by simpa using h
        refine ⟨⟨⟨by omega, by first | omega | (have := h; omega)⟩, trivial⟩, ?_⟩
        refine ⟨fun hb2 => ?_, fun hb2 => ?_⟩
        · exact ⟨rfl, .inr ⟨rfl, h, (), [], by unfold airStep; first | rfl | ((try dsimp only); (try rw [hb2]); rfl), ⟨.inr rfl, .inl rfl, .inl rfl, .inl rfl, trivial⟩, trivial, rfl, rfl, rfl⟩⟩
        · rw [wrap_succ h hn]
          exact ⟨rfl, (), [], h, by unfold airStep; first | rfl | ((try dsimp only); (try rw [hb2]); rfl), trivial, ⟨.inr rfl, .inr rfl, .inr rfl, .inr rfl, trivial⟩, trivial, rfl, rfl, rfl⟩
      · have h : ¬ i < c.length := by simpa using h
        exact ⟨rfl, .inl ⟨rfl, by omega, [], ⟨.inr rfl, .inr rfl, .inr rfl, .inr rfl, trivial⟩, trivial, rfl, rfl, rfl⟩⟩⟩)
theorem cAllR : Sound Tryz.prog 117 (c1 (eSl .vec) eB Fx.allRch) :=
  con (lps := fun _ => airT) mixed airA Tryz.func117 (by kernel_rfl) (by kernel_rfl) (oneLoop (lps := fun _ => airT) (b := lbN 0 Tryz.f117) (by kernel_rfl) airLoop)
    (g1 (fun l => [false = false, (l.length : Int) = l.length, (0 : Int) = 0]) (fun l => bif Fx.allRch l then true else false) (fun _ _ => ⟨rfl, rfl, rfl, trivial⟩) (fun l _ => by cases Fx.allRch l <;> rfl) (fun _ => by kernel_rfl))
noncomputable def cviL : List (FuncId × Contract) := [(118, c3 eV eV eV eI Fx.ort)]
def cviTv (c : (List Fx.Vec) × (Int) × (Int) × (Fx.Vec)) (i : Nat) (_x : Unit) : List TV := [.val ((eSl .vec).pv c.1), .val (Bo false), .val (I c.1.length), .val (I c.2.1), .val (.fv (.one (.ref 4 0))), .val (I c.2.2.1), .val ((eSl .vec).pv c.1), .val (I c.1.length), .val (I c.2.1), .val ((eSl .vec).pv c.1), .val (I c.1.length), .val (I (i : Int))]
def cviMv (c : (List Fx.Vec) × (Int) × (Int) × (Fx.Vec)) (_i : Nat) (_x : Unit) : List MRes := [.val (.blk 25 [.int .i64 c.2.2.2.x, .int .i64 c.2.2.2.y])]
def cviEtv (_c : (List Fx.Vec) × (Int) × (Int) × (Fx.Vec)) (_e : Unit) : List TV := [.any, .val (Bo false), .any, .any, .any, .any, .any, .any, .any, .any, .any, .any]
def cviEmv (_c : (List Fx.Vec) × (Int) × (Int) × (Fx.Vec)) (_e : Unit) : List MRes := [.lost]
def cviDec : List TV → List MRes → Option (List Prop × ((List Fx.Vec) × (Int) × (Int) × (Fx.Vec)) × (Unit))
  | [.val (.fv (.one (.slc false ⟨.vec, l⟩))), .val (Bo b), .val (I n3), .val (I j), .val (.fv (.one (.ref 4 0))), .val (I nx), .val (.fv (.one (.slc false ⟨.vec, l2⟩))), .val (I n23), .val (I j24), .val (.fv (.one (.slc false ⟨.vec, m⟩))), .val (I n34), .val (I i)], [.val (.blk 25 [.int .i64 ax, .int .i64 ay])] => some ([b = false, n3 = l.length, l2 = l, n23 = l.length, j24 = j, m = l, n34 = l.length, i = 0, 0 ≤ nx ∧ nx < (l.length : Int)], (l, j, nx, ⟨ax, ay⟩), ())
  | _, _ => none
def cviOk (c : (List Fx.Vec) × (Int) × (Int) × (Fx.Vec)) : Prop := 0 ≤ c.2.2.1 ∧ c.2.2.1 < (c.1.length : Int)
def cviInv (_c : (List Fx.Vec) × (Int) × (Int) × (Fx.Vec)) (_i : Nat) (_x : Unit) : Prop := True
theorem cviDec_ok (ts : List TV) (ms : List MRes) (ps : List Prop) (c : (List Fx.Vec) × (Int) × (Int) × (Fx.Vec)) (x : Unit) (h : cviDec ts ms = some (ps, c, x)) (hp : Conj ps) : ts = cviTv c 0 x ∧ ms = cviMv c 0 x ∧ cviOk c ∧ cviInv c 0 x := by
  unfold cviDec at h
  split at h
  · cases h
    obtain ⟨rfl, rfl, rfl, rfl, rfl, rfl, rfl, rfl, hok, _⟩ := hp
    exact ⟨rfl, rfl, hok, trivial⟩
  · cases h
def cviStep (c : (List Fx.Vec) × (Int) × (Int) × (Fx.Vec)) (i : Nat) (_x : Unit) : Sum (Unit) (Unit) := bif bif bif (i : Int) != c.2.1 then (i : Int) != c.2.2.1 else false then Fx.ort c.2.2.2 (c.1.getD c.2.2.1.toNat ⟨0, 0⟩) (c.1.getD i ⟨0, 0⟩) != 1 else false then .inr () else .inl ()
def cviV (c : (List Fx.Vec) × (Int) × (Int) × (Fx.Vec)) (i : Nat) (_x : Unit) : VT := VT.ite (decide ((i : Int) < (c.1.length : Int))) (VT.pre [0 ≤ (i : Int) ∧ (i : Int) < ((c.1).length : Int)] (VT.pre [(bif (i : Int) != c.2.1 then (i : Int) != c.2.2.1 else false) = true → 0 ≤ c.2.2.1 ∧ c.2.2.1 < (c.1.length : Int)] (VT.ite (bif bif (i : Int) != c.2.1 then (i : Int) != c.2.2.1 else false then Fx.ort c.2.2.2 (c.1.getD c.2.2.1.toNat ⟨0, 0⟩) (c.1.getD i ⟨0, 0⟩) != 1 else false) (VT.leaf (Ex.ret) 60 [.val ((eSl .vec).pv c.1), .val (Bo false), .val (I c.1.length), .val (I c.2.1), .val (.fv (.one (.ref 4 0))), .val (I c.2.2.1), .val ((eSl .vec).pv c.1), .val (I c.1.length), .val (I c.2.1), .val ((eSl .vec).pv c.1), .val (I c.1.length), .val (I (i : Int))] [.val (.blk 25 [.int .i64 c.2.2.2.x, .int .i64 c.2.2.2.y])]) (VT.leaf Ex.norm 60 [.val ((eSl .vec).pv c.1), .val (Bo false), .val (I c.1.length), .val (I c.2.1), .val (.fv (.one (.ref 4 0))), .val (I c.2.2.1), .val ((eSl .vec).pv c.1), .val (I c.1.length), .val (I c.2.1), .val ((eSl .vec).pv c.1), .val (I c.1.length), .val (I (IntKind.i64.wrap ((i : Int) + 1)))] [.val (.blk 25 [.int .i64 c.2.2.2.x, .int .i64 c.2.2.2.y])])))) (VT.leaf (Ex.exit 2) 60 [.val ((eSl .vec).pv c.1), .val (Bo false), .val (I c.1.length), .val (I c.2.1), .val (.fv (.one (.ref 4 0))), .val (I c.2.2.1), .val ((eSl .vec).pv c.1), .val (I c.1.length), .val (I c.2.1), .val ((eSl .vec).pv c.1), .val (I c.1.length), .val (I (i : Int))] [.val (.blk 25 [.int .i64 c.2.2.2.x, .int .i64 c.2.2.2.y])])
theorem cviV_eq (c : (List Fx.Vec) × (Int) × (Int) × (Fx.Vec)) (i : Nat) (x : Unit) : viewT [0, 2, 3, 4, 5, 6, 22, 23, 24, 33, 34, 35] [4] (sexec Tryz.prog (tbl cviL) (noLps) ((loopsOf (lbN 0 Tryz.f100)).getD 0 .skip) (headSt 60 15 [0, 2, 3, 4, 5, 6, 22, 23, 24, 33, 34, 35] [4] (cviTv c i x) (cviMv c i x))) = cviV c i x := by kernel_rfl
noncomputable def cviT : St → Tree := forT 60 15 [0, 2, 3, 4, 5, 6, 22, 23, 24, 33, 34, 35] [4] cviDec (fun c => c.1.length) cviTv cviMv cviEtv cviEmv cviStep () 2 .ret
theorem cviA : AllSound Tryz.prog cviL := (.cons cOrt .nil)
theorem cviLoop : LoopOk Tryz.prog cviT ((loopsOf (lbN 0 Tryz.f100)).getD 0 .skip) :=
  forT_ok mixed cviA.tbl (noLoops (by kernel_rfl)) [4] (bn := fun c => c.1.length ≤ maxLen) (inv := cviInv) cviDec_ok (fun _ _ => ⟨⟨.inr rfl, .inr rfl, .inr rfl, .inr rfl, .inr rfl, .inr rfl, .inr rfl, .inr rfl, .inr rfl, .inr rfl, .inr rfl, .inr rfl, trivial⟩, ⟨.inr rfl, trivial⟩, rfl, rfl, rfl⟩)
    (fun _ _ _ _ _ _ hr h1 h2 => by
      simp only [List.map_cons, cviTv, List.cons.injEq] at h1; exact len_le hr h1.1)
    (fun c i x hok hn hinv hi => ⟨_, cviV_eq c i x, by
      refine ⟨fun h => ?_, fun h => ?_⟩
      · have h : i < c.1.length := by simpa using h
        refine ⟨⟨⟨by omega, by first | omega | (have := h; omega)⟩, trivial⟩, ?_⟩
        refine ⟨⟨fun _ => hok, trivial⟩, ?_⟩
        refine ⟨fun hb3 => ?_, fun hb3 => ?_⟩
        · exact ⟨rfl, .inr ⟨rfl, h, (), [], by unfold cviStep; first | rfl | ((try dsimp only); (try rw [hb3]); rfl), ⟨.inl rfl, .inr rfl, .inl rfl, .inl rfl, .inl rfl, .inl rfl, .inl rfl, .inl rfl, .inl rfl, .inl rfl, .inl rfl, .inl rfl, trivial⟩, ⟨.inl rfl, trivial⟩, rfl, rfl, rfl⟩⟩
        · rw [wrap_succ h hn]
          exact ⟨rfl, (), [], h, by unfold cviStep; first | rfl | ((try dsimp only); (try rw [hb3]); rfl), trivial, ⟨.inr rfl, .inr rfl, .inr rfl, .inr rfl, .inr rfl, .inr rfl, .inr rfl, .inr rfl, .inr rfl, .inr rfl, .inr rfl, .inr rfl, trivial⟩, ⟨.inr rfl, trivial⟩, rfl, rfl, rfl⟩
      · have h : ¬ i < c.1.length := by simpa using h
        exact ⟨rfl, .inl ⟨rfl, by omega, [], ⟨.inr rfl, .inr rfl, .inr rfl, .inr rfl, .inr rfl, .inr rfl, .inr rfl, .inr rfl, .inr rfl, .inr rfl, .inr rfl, .inr rfl, trivial⟩, ⟨.inr rfl, trivial⟩, rfl, rfl, rfl⟩⟩⟩)
end Go.Proofs.YtfjognghjiifaaaGreat
