/- The contracts of the guards and of the comparisons of the laws on joints. -/
import Derived.Test.YthaoinkbblbijaaGreatJr
import Derived.Test.YthaoinkbblbijaaGreatEngSol
open Go Go.Eng
namespace Go.Proofs.YthaoinkbblbijaaGreat
open Go.Fx (an orr)

noncomputable def fwiL : List (FuncId × Contract) := []
def fwiTv (c : (List Fx.Bd) × (Int)) (i : Nat) (_x : Unit) : List TV := [.val ((eSl .bd).pv c.1), .val (Bo false), .val (I c.2), .val (I (i : Int))]
def fwiMv (_c : (List Fx.Bd) × (Int)) (_i : Nat) (_x : Unit) : List MRes := []
def fwiEtv (_c : (List Fx.Bd) × (Int)) (_e : Unit) : List TV := [.any, .val (Bo false), .any, .any]
def fwiEmv (_c : (List Fx.Bd) × (Int)) (_e : Unit) : List MRes := []
def fwiDec : List TV → List MRes → Option (List Prop × ((List Fx.Bd) × (Int)) × (Unit))
  | [.val (.fv (.one (.slc false ⟨.bd, l⟩))), .val (Bo b), .val (I j), .val (I i)], [] => some ([b = false, i = 0, (0 ≤ j ∧ j < (l.length : Int)) ∧ (l.getD j.toNat Fx.bd0).fixtures.length ≤ 8], (l, j), ())
  | _, _ => none
def fwiOk (c : (List Fx.Bd) × (Int)) : Prop := (0 ≤ c.2 ∧ c.2 < (c.1.length : Int)) ∧ (c.1.getD c.2.toNat Fx.bd0).fixtures.length ≤ 8
def fwiInv (_c : (List Fx.Bd) × (Int)) (_i : Nat) (_x : Unit) : Prop := True
theorem fwiDec_ok (ts : List TV) (ms : List MRes) (ps : List Prop) (c : (List Fx.Bd) × (Int)) (x : Unit) (h : fwiDec ts ms = some (ps, c, x)) (hp : Conj ps) : ts = fwiTv c 0 x ∧ ms = fwiMv c 0 x ∧ fwiOk c ∧ fwiInv c 0 x := by
  unfold fwiDec at h
  split at h
  · cases h
    obtain ⟨rfl, rfl, hok, _⟩ := hp
    exact ⟨rfl, rfl, hok, trivial⟩
  · cases h
def fwiStep (c : (List Fx.Bd) × (Int)) (i : Nat) (_x : Unit) : Sum (Unit) (Unit) := bif decide ((((c.1.getD c.2.toNat Fx.bd0).fixtures.getD i Fx.fx0).vs.length : Int) > 20) then .inr () else .inl ()
def fwiV (c : (List Fx.Bd) × (Int)) (i : Nat) (_x : Unit) : VT := VT.pre [0 ≤ c.2 ∧ c.2 < (c.1.length : Int)] (VT.ite (decide ((i : Int) < ((c.1.getD c.2.toNat Fx.bd0).fixtures.length : Int))) (VT.pre [0 ≤ c.2 ∧ c.2 < (c.1.length : Int), 0 ≤ (i : Int) ∧ (i : Int) < ((c.1.getD c.2.toNat Fx.bd0).fixtures.length : Int)] (VT.ite (decide ((((c.1.getD c.2.toNat Fx.bd0).fixtures.getD i Fx.fx0).vs.length : Int) > 20)) (VT.leaf (Ex.ret) 46 [.val ((eSl .bd).pv c.1), .val (Bo false), .val (I c.2), .val (I (i : Int))] []) (VT.leaf Ex.norm 46 [.val ((eSl .bd).pv c.1), .val (Bo false), .val (I c.2), .val (I (IntKind.i64.wrap ((i : Int) + 1)))] []))) (VT.leaf (Ex.exit 2) 46 [.val ((eSl .bd).pv c.1), .val (Bo false), .val (I c.2), .val (I (i : Int))] []))
theorem fwiV_eq (c : (List Fx.Bd) × (Int)) (i : Nat) (x : Unit) : viewT [0, 4, 5, 6] [] (sexec Tryz.prog (tbl fwiL) (noLps) ((loopsOf (lbN 0 Tryz.f12)).getD 0 .skip) (headSt 46 0 [0, 4, 5, 6] [] (fwiTv c i x) (fwiMv c i x))) = fwiV c i x := by kernel_rfl
noncomputable def fwiT : St → Tree := forT 46 0 [0, 4, 5, 6] [] fwiDec (fun c => (c.1.getD c.2.toNat Fx.bd0).fixtures.length) fwiTv fwiMv fwiEtv fwiEmv fwiStep () 2 .ret
theorem fwiA : AllSound Tryz.prog fwiL := .nil
theorem fwiLoop : LoopOk Tryz.prog fwiT ((loopsOf (lbN 0 Tryz.f12)).getD 0 .skip) :=
  forT_ok mixed fwiA.tbl (noLoops (by kernel_rfl)) [] (bn := fun c => True) (inv := fwiInv) fwiDec_ok (fun _ _ => ⟨⟨.inr rfl, .inr rfl, .inr rfl, .inr rfl, trivial⟩, trivial, rfl, rfl, rfl⟩)
    (fun _ _ _ _ _ _ hr h1 h2 => by
      trivial)
    (fun c i x hok hn hinv hi => ⟨_, fwiV_eq c i x, by
      refine ⟨⟨hok.1, trivial⟩, fun h => ?_, fun h => ?_⟩
      · have h : i < (c.1.getD c.2.toNat Fx.bd0).fixtures.length := by simpa using h
        refine ⟨⟨hok.1, ⟨by omega, by omega⟩, trivial⟩, ?_⟩
        refine ⟨fun hb2 => ?_, fun hb2 => ?_⟩
        · exact ⟨rfl, .inr ⟨rfl, h, (), [], by unfold fwiStep; first | rfl | ((try dsimp only); (try rw [hb2]); rfl), ⟨.inl rfl, .inr rfl, .inl rfl, .inl rfl, trivial⟩, trivial, rfl, rfl, rfl⟩⟩
        · rw [wrap_succ h (by have := hok.2; simp only [maxLen]; omega)]
          exact ⟨rfl, (), [], h, by unfold fwiStep; first | rfl | ((try dsimp only); (try rw [hb2]); rfl), trivial, ⟨.inr rfl, .inr rfl, .inr rfl, .inr rfl, trivial⟩, trivial, rfl, rfl, rfl⟩
      · have h : ¬ i < (c.1.getD c.2.toNat Fx.bd0).fixtures.length := by simpa using h
        exact ⟨rfl, .inl ⟨rfl, by omega, [], ⟨.inr rfl, .inr rfl, .inr rfl, .inr rfl, trivial⟩, trivial, rfl, rfl, rfl⟩⟩⟩)
noncomputable def fwoL : List (FuncId × Contract) := []
def fwoTv (c : (List Fx.Bd)) (i : Nat) (_x : Unit) : List TV := [.val ((eSl .bd).pv c), .val (Bo false), .val (I (i : Int))]
def fwoMv (_c : (List Fx.Bd)) (_i : Nat) (_x : Unit) : List MRes := []
def fwoEtv (_c : (List Fx.Bd)) (_e : Unit) : List TV := [.any, .val (Bo false), .any]
def fwoEmv (_c : (List Fx.Bd)) (_e : Unit) : List MRes := []
def fwoDec : List TV → List MRes → Option (List Prop × ((List Fx.Bd)) × (Unit))
  | [.val (.fv (.one (.slc false ⟨.bd, l⟩))), .val (Bo b), .val (I i)], [] => some ([b = false, i = 0], (l), ())
  | _, _ => none
def fwoOk (_c : (List Fx.Bd)) : Prop := True
def fwoInv (_c : (List Fx.Bd)) (_i : Nat) (_x : Unit) : Prop := True
theorem fwoDec_ok (ts : List TV) (ms : List MRes) (ps : List Prop) (c : (List Fx.Bd)) (x : Unit) (h : fwoDec ts ms = some (ps, c, x)) (hp : Conj ps) : ts = fwoTv c 0 x ∧ ms = fwoMv c 0 x ∧ fwoOk c ∧ fwoInv c 0 x := by
  unfold fwoDec at h
  split at h
  · cases h
    obtain ⟨rfl, rfl, _⟩ := hp
    exact ⟨rfl, rfl, trivial, trivial⟩
  · cases h
def fwoStep (c : (List Fx.Bd)) (i : Nat) (_x : Unit) : Sum (Unit) (Unit) := bif decide (((c.getD i Fx.bd0).fixtures.length : Int) > 8) then .inr () else bif isL (runF (fwiStep (c, (i : Int))) (c.getD i Fx.bd0).fixtures.length 0 ()) then .inl () else .inr ()
def fwoV (c : (List Fx.Bd)) (i : Nat) (_x : Unit) : VT := VT.ite (decide ((i : Int) < (c.length : Int))) (VT.pre [0 ≤ (i : Int) ∧ (i : Int) < ((c).length : Int)] (VT.ite (decide (((c.getD i Fx.bd0).fixtures.length : Int) > 8)) (VT.leaf (Ex.ret) 46 [.val ((eSl .bd).pv c), .val (Bo false), .val (I (i : Int))] []) (VT.pre [false = false, (0 : Int) = 0, (0 ≤ (i : Int) ∧ (i : Int) < (c.length : Int)) ∧ (c.getD i Fx.bd0).fixtures.length ≤ 8] (VT.ite (isL (runF (fwiStep (c, (i : Int))) (c.getD i Fx.bd0).fixtures.length 0 ())) (VT.leaf Ex.norm 46 [.val ((eSl .bd).pv c), .val (Bo false), .val (I (IntKind.i64.wrap ((i : Int) + 1)))] []) (VT.leaf (Ex.ret) 46 [.any, .val (Bo false), .any] []))))) (VT.leaf (Ex.exit 0) 46 [.val ((eSl .bd).pv c), .val (Bo false), .val (I (i : Int))] [])
theorem fwoV_eq (c : (List Fx.Bd)) (i : Nat) (x : Unit) : viewT [0, 4, 5] [] (sexec Tryz.prog (tbl fwoL) (fun _ => fwiT) (lbN 0 Tryz.f12) (headSt 46 0 [0, 4, 5] [] (fwoTv c i x) (fwoMv c i x))) = fwoV c i x := by kernel_rfl
noncomputable def fwoT : St → Tree := forT 46 0 [0, 4, 5] [] fwoDec (fun c => c.length) fwoTv fwoMv fwoEtv fwoEmv fwoStep () 0 .ret
theorem fwoA : AllSound Tryz.prog fwoL := .nil
theorem fwoLoop : LoopOk Tryz.prog fwoT (lbN 0 Tryz.f12) :=
  forT_ok mixed fwoA.tbl (oneLoop (lps := fun _ => fwiT) (b := (loopsOf (lbN 0 Tryz.f12)).getD 0 .skip) (by kernel_rfl) fwiLoop) [] (bn := fun c => c.length ≤ maxLen) (inv := fwoInv) fwoDec_ok (fun _ _ => ⟨⟨.inr rfl, .inr rfl, .inr rfl, trivial⟩, trivial, rfl, rfl, rfl⟩)
    (fun _ _ _ _ _ _ hr h1 h2 => by
      simp only [List.map_cons, fwoTv, List.cons.injEq] at h1; exact len_le hr h1.1)
    (fun c i x hok hn hinv hi => ⟨_, fwoV_eq c i x, by
      refine ⟨fun h => ?_, fun h => ?_⟩
      · have h : i < c.length := by simpa using h
        refine ⟨⟨⟨by omega, by first | omega | (have := h; omega)⟩, trivial⟩, ?_⟩
        refine ⟨fun hb2 => ?_, fun hb2 => ?_⟩
        · exact ⟨rfl, .inr ⟨rfl, h, (), [], by unfold fwoStep; first | rfl | ((try dsimp only); (try rw [hb2]); (try rw [hb5]); rfl), ⟨.inl rfl, .inr rfl, .inl rfl, trivial⟩, trivial, rfl, rfl, rfl⟩⟩
        · refine ⟨⟨rfl, rfl, ⟨⟨by omega, by omega⟩, by have := of_decide_eq_false hb2; omega⟩, trivial⟩, ?_⟩
          refine ⟨fun hb5 => ?_, fun hb5 => ?_⟩
          · rw [wrap_succ h hn]
            exact ⟨rfl, (), [], h, by unfold fwoStep; first | rfl | ((try dsimp only); (try rw [hb2]); (try rw [hb5]); rfl), trivial, ⟨.inr rfl, .inr rfl, .inr rfl, trivial⟩, trivial, rfl, rfl, rfl⟩
          · exact ⟨rfl, .inr ⟨rfl, h, (), [], by unfold fwoStep; first | rfl | ((try dsimp only); (try rw [hb2]); (try rw [hb5]); rfl), ⟨.inl rfl, .inr rfl, .inl rfl, trivial⟩, trivial, rfl, rfl, rfl⟩⟩
      · have h : ¬ i < c.length := by simpa using h
        exact ⟨rfl, .inl ⟨rfl, by omega, [], ⟨.inr rfl, .inr rfl, .inr rfl, trivial⟩, trivial, rfl, rfl, rfl⟩⟩⟩)
def fewU (l : List Fx.Bd) (n : Int) : Bool := bif decide ((l.length : Int) > n) then false else bif isL (runF (fwoStep l) l.length 0 ()) then true else false
theorem rFew : Sound Tryz.prog 12 (c2 (eSl .bd) eI eB fewU) :=
  con (lps := fun _ => fwoT) mixed .nil Tryz.func12 (by kernel_rfl) (by kernel_rfl) (oneLoop (lps := fun _ => fwoT) (b := (lbN 0 Tryz.f12)) (by kernel_rfl) fwoLoop) (g2 (fun l n => [decide ((l.length : Int) > n) = false → false = false, decide ((l.length : Int) > n) = false → (0 : Int) = 0]) fewU (fun _ _ _ => ⟨fun _ => rfl, fun _ => rfl, trivial⟩) (fun _ _ _ => rfl) (fun _ _ => by kernel_rfl))
def sm31 (a b : Fx.Bd) (s : List Fx.Sb) : Bool := bif decide ((s.length : Int) ≤ 20) then fewU [a, b] 2 else false
theorem rSm31 : Sound Tryz.prog 5 (c3 eBd eBd (eSl .sb) eB sm31) :=
  con (lps := noLps) mixed (.cons rFew .nil) Tryz.func5 (by kernel_rfl) (by kernel_rfl) (noLoops (by kernel_rfl)) (k3 (fun _ _ _ => by kernel_rfl))
noncomputable def reqL : List (FuncId × Contract) := []
def reqTv (c : (List Fx.Row) × (List Fx.Row)) (i : Nat) (_x : Unit) : List TV := [.val ((eSl .row).pv c.1), .val ((eSl .row).pv c.2), .val (Bo false), .val (I (i : Int))]
def reqMv (_c : (List Fx.Row) × (List Fx.Row)) (_i : Nat) (_x : Unit) : List MRes := []
def reqEtv (_c : (List Fx.Row) × (List Fx.Row)) (_e : Unit) : List TV := [.any, .any, .val (Bo false), .any]
def reqEmv (_c : (List Fx.Row) × (List Fx.Row)) (_e : Unit) : List MRes := []
def reqDec : List TV → List MRes → Option (List Prop × ((List Fx.Row) × (List Fx.Row)) × (Unit))
  | [.val (.fv (.one (.slc false ⟨.row, l⟩))), .val (.fv (.one (.slc false ⟨.row, m⟩))), .val (Bo b), .val (I i)], [] => some ([b = false, i = 0, ((l.length : Int) != m.length) = false], (l, m), ())
  | _, _ => none
def reqOk (c : (List Fx.Row) × (List Fx.Row)) : Prop := ((c.1.length : Int) != c.2.length) = false
def reqInv (_c : (List Fx.Row) × (List Fx.Row)) (_i : Nat) (_x : Unit) : Prop := True
theorem reqDec_ok (ts : List TV) (ms : List MRes) (ps : List Prop) (c : (List Fx.Row) × (List Fx.Row)) (x : Unit) (h : reqDec ts ms = some (ps, c, x)) (hp : Conj ps) : ts = reqTv c 0 x ∧ ms = reqMv c 0 x ∧ reqOk c ∧ reqInv c 0 x := by
  unfold reqDec at h
  split at h
  · cases h
    obtain ⟨rfl, rfl, hok, _⟩ := hp
    exact ⟨rfl, rfl, hok, trivial⟩
  · cases h
def reqStep (c : (List Fx.Row) × (List Fx.Row)) (i : Nat) (_x : Unit) : Sum (Unit) (Unit) := bif !(c.1.getD i Fx.row0).eqb (c.2.getD i Fx.row0) then .inr () else .inl ()
def reqV (c : (List Fx.Row) × (List Fx.Row)) (i : Nat) (_x : Unit) : VT := VT.ite (decide ((i : Int) < (c.1.length : Int))) (VT.pre [0 ≤ (i : Int) ∧ (i : Int) < (c.1.length : Int), 0 ≤ (i : Int) ∧ (i : Int) < (c.2.length : Int)] (VT.ite (!(c.1.getD i Fx.row0).eqb (c.2.getD i Fx.row0)) (VT.leaf (Ex.ret) 26 [.val ((eSl .row).pv c.1), .val ((eSl .row).pv c.2), .val (Bo false), .val (I (i : Int))] []) (VT.leaf Ex.norm 26 [.val ((eSl .row).pv c.1), .val ((eSl .row).pv c.2), .val (Bo false), .val (I (IntKind.i64.wrap ((i : Int) + 1)))] []))) (VT.leaf (Ex.exit 0) 26 [.val ((eSl .row).pv c.1), .val ((eSl .row).pv c.2), .val (Bo false), .val (I (i : Int))] [])
theorem reqV_eq (c : (List Fx.Row) × (List Fx.Row)) (i : Nat) (x : Unit) : viewT [0, 1, 4, 5] [] (sexec Tryz.prog (tbl reqL) (noLps) (lbN 0 Tryz.f7) (headSt 26 0 [0, 1, 4, 5] [] (reqTv c i x) (reqMv c i x))) = reqV c i x := by kernel_rfl
noncomputable def reqT : St → Tree := forT 26 0 [0, 1, 4, 5] [] reqDec (fun c => c.1.length) reqTv reqMv reqEtv reqEmv reqStep () 0 .ret
theorem reqA : AllSound Tryz.prog reqL := .nil
theorem reqLoop : LoopOk Tryz.prog reqT (lbN 0 Tryz.f7) :=
  forT_ok mixed reqA.tbl (noLoops (by kernel_rfl)) [] (bn := fun c => c.1.length ≤ maxLen) (inv := reqInv) reqDec_ok (fun _ _ => ⟨⟨.inr rfl, .inr rfl, .inr rfl, .inr rfl, trivial⟩, trivial, rfl, rfl, rfl⟩)
    (fun _ _ _ _ _ _ hr h1 h2 => by
      simp only [List.map_cons, reqTv, List.cons.injEq] at h1; exact len_le hr h1.1)
    (fun c i x hok hn hinv hi => ⟨_, reqV_eq c i x, by
      refine ⟨fun h => ?_, fun h => ?_⟩
      · have h : i < c.1.length := by simpa using h
        refine ⟨⟨⟨by omega, by omega⟩, ⟨by omega, by have hok : ((c.1.length : Int) != c.2.length) = false := hok; simp at hok; omega⟩, trivial⟩, ?_⟩
        refine ⟨fun hb2 => ?_, fun hb2 => ?_⟩
        · exact ⟨rfl, .inr ⟨rfl, h, (), [], by unfold reqStep; first | rfl | ((try dsimp only); (try rw [hb2]); rfl), ⟨.inl rfl, .inl rfl, .inr rfl, .inl rfl, trivial⟩, trivial, rfl, rfl, rfl⟩⟩
        · rw [wrap_succ h hn]
          exact ⟨rfl, (), [], h, by unfold reqStep; first | rfl | ((try dsimp only); (try rw [hb2]); rfl), trivial, ⟨.inr rfl, .inr rfl, .inr rfl, .inr rfl, trivial⟩, trivial, rfl, rfl, rfl⟩
      · have h : ¬ i < c.1.length := by simpa using h
        exact ⟨rfl, .inl ⟨rfl, by omega, [], ⟨.inr rfl, .inr rfl, .inr rfl, .inr rfl, trivial⟩, trivial, rfl, rfl, rfl⟩⟩⟩)
theorem rReq : Sound Tryz.prog 7 (c2 (eSl .row) (eSl .row) eB Fx.rowsEq) :=
  con (lps := fun _ => reqT) mixed .nil Tryz.func7 (by kernel_rfl) (by kernel_rfl) (oneLoop (lps := fun _ => reqT) (b := (lbN 0 Tryz.f7)) (by kernel_rfl) reqLoop) (g2 (fun l m => [((l.length : Int) != m.length) = false → false = false, ((l.length : Int) != m.length) = false → (0 : Int) = 0, ((l.length : Int) != m.length) = false → ((l.length : Int) != m.length) = false]) Fx.rowsEq (fun _ _ _ => ⟨fun _ => rfl, fun _ => rfl, id, trivial⟩) (fun _ _ _ => rfl) (fun _ _ => by kernel_rfl))
end Go.Proofs.YthaoinkbblbijaaGreat
