/- The contracts of chapter 34, program and reference. -/
import Derived.Test.YtbjpfekcghnppaaSml
open Go Go.Eng
namespace Go.Proofs.Ytbjpfekcghnppaa
open Go.Fx (an orr)

theorem cJrw : Sound Try.prog 9 (c7 eJ eBd eBd eI eI (eSl .sb) eI (eFr 44 .row) Fx.jrows) :=
  con (lps := noLps) mixed (.cons cDrw (.cons cRrw (.cons cPrs (.cons cWld (.cons cTgt .nil))))) Try.func9 (by kernel_rfl) (by kernel_rfl) (noLoops (by kernel_rfl)) (k7 (fun _ _ _ _ _ _ _ => by kernel_rfl))
noncomputable def sloL : List (FuncId × Contract) := []
def sloTv (c : (List Fx.Row)) (i : Nat) (_x : (List Int)) : List TV := [.val (.fv (.one (.own 7))), .val (.fv (.one (.own 11))), .val (I c.length), .val (I (i : Int))]
def sloMv (c : (List Fx.Row)) (_i : Nat) (x : (List Int)) : List MRes := [.val (.row 3 ⟨.i64, x⟩), .val (.row 44 ⟨.row, c⟩)]
def sloDec : List TV → List MRes → Option (List Prop × ((List Fx.Row)) × ((List Int)))
  | [.val (.fv (.one (.own 7))), .val (.fv (.one (.own 11))), .val (I n), .val (I i)], [.val (.row 3 ⟨.i64, t⟩), .val (.row 44 ⟨.row, l⟩)] => some ([t = [], n = l.length, i = 0, l.length ≤ 4], (l), [])
  | _, _ => none
def sloOk (c : (List Fx.Row)) : Prop := c.length ≤ 4
def sloInv (_c : (List Fx.Row)) (i : Nat) (x : (List Int)) : Prop := x.length ≤ i
theorem sloDec_ok (ts : List TV) (ms : List MRes) (ps : List Prop) (c : (List Fx.Row)) (x : (List Int)) (h : sloDec ts ms = some (ps, c, x)) (hp : Conj ps) : ts = sloTv c 0 x ∧ ms = sloMv c 0 x ∧ sloOk c ∧ sloInv c 0 x := by
  unfold sloDec at h
  split at h
  · cases h
    obtain ⟨rfl, rfl, rfl, hok, _⟩ := hp
    exact ⟨rfl, rfl, hok, (Nat.le_refl 0)⟩
  · cases h
def sloStep (c : (List Fx.Row)) (i : Nat) (x : (List Int)) : (List Int) := ((x ++ [(c.getD i Fx.row0).im]))
def sloV (c : (List Fx.Row)) (i : Nat) (x : (List Int)) : VT := VT.ite (decide ((i : Int) < (c.length : Int))) (VT.pre [0 ≤ (i : Int) ∧ (i : Int) < (c.length : Int), i < c.length] (VT.pre [(x.length + 1) * 8 ≤ 140737488355328] (VT.leaf Ex.norm 28 [.val (.fv (.one (.own 23))), .val (.fv (.one (.own 11))), .val (I c.length), .val (I (IntKind.i64.wrap ((i : Int) + 1)))] [.lost, .val (.row 44 ⟨.row, c⟩), .val (.row 3 ⟨.i64, (x ++ [(c.getD i Fx.row0).im])⟩)]))) (VT.leaf (Ex.exit 0) 28 [.val (.fv (.one (.own 7))), .val (.fv (.one (.own 11))), .val (I c.length), .val (I (i : Int))] [.val (.row 3 ⟨.i64, x⟩), .val (.row 44 ⟨.row, c⟩), .free])
theorem sloV_eq (c : (List Fx.Row)) (i : Nat) (x : (List Int)) : viewT [7, 15, 16, 17] [7, 11, 23] (sexec Try.prog (tbl sloL) (noLps) (lbN 0 Try.f10) (headSt 28 14 [7, 15, 16, 17] [7, 11] (sloTv c i x) (sloMv c i x))) = sloV c i x := by kernel_rfl
noncomputable def sloT : St → Tree := forT0 28 14 [7, 15, 16, 17] [7, 11] sloDec (fun c => c.length) sloTv sloMv sloStep 0
theorem sloA : AllSound Try.prog sloL := .nil
theorem sloLoop : LoopOk Try.prog sloT (lbN 0 Try.f10) :=
  forT0_ok mixed sloA.tbl (noLoops (by kernel_rfl)) [7, 11, 23] (bn := fun c => True) (inv := sloInv) sloDec_ok (fun _ _ => ⟨⟨.inr rfl, .inr rfl, .inr rfl, .inr rfl, trivial⟩, ⟨.inr rfl, .inr rfl, trivial⟩, rfl, rfl, rfl⟩)
    (fun _ _ _ _ _ _ hr h1 h2 => by
      trivial)
    (fun c i x hok hn hinv hi => ⟨_, sloV_eq c i x, by
      refine ⟨fun h => ?_, fun h => ?_⟩
      · have h : i < c.length := by simpa using h
        refine ⟨⟨⟨by omega, by omega⟩, h, trivial⟩, ?_⟩
        refine ⟨⟨by have h1 : x.length ≤ i := hinv; have h2 : c.length ≤ 4 := hok; omega, trivial⟩, ?_⟩
        rw [wrap_succ h (by have h2 : c.length ≤ 4 := hok; simp only [maxLen]; omega)]
        exact ⟨rfl, ((x ++ [(c.getD i Fx.row0).im])), [(7, 23)], h, by unfold sloStep; rfl, (by have h1 : x.length ≤ i := hinv; show (x ++ [_]).length ≤ i + 1; rw [List.length_append]; exact Nat.add_le_add_right h1 1), ⟨.inr rfl, .inr rfl, .inr rfl, .inr rfl, trivial⟩, ⟨.inr rfl, .inr rfl, trivial⟩, rfl, rfl, rfl⟩
      · have h : ¬ i < c.length := by simpa using h
        exact ⟨rfl, .inl ⟨rfl, by omega, [], ⟨.inr rfl, .inr rfl, .inr rfl, .inr rfl, trivial⟩, ⟨.inr rfl, .inr rfl, trivial⟩, rfl, rfl, rfl⟩⟩⟩)
theorem slo_fold (l : List Fx.Row) : foldN (sloStep l) l.length 0 [] = Fx.imsOf l := by
  have h : ∀ (k i : Nat) (t : List Int), foldN (sloStep l) k i t = t ++ (List.range' i k).map fun i => (l.getD i Fx.row0).im := fun k => by
    induction k with
    | zero => intro i t; simp [foldN]
    | succ k ih => intro i t; simp only [foldN]; rw [ih, List.range'_succ, List.map_cons]; simp [sloStep]
  rw [h, List.nil_append]
  unfold Fx.imsOf
  refine List.ext_getElem (by simp) fun i h1 h2 => ?_
  simp at h1
  simp [List.getD, List.getElem?_eq_getElem h1]
theorem slots_fold (j : Fx.Joint) (a b : Fx.Bd) : foldN (sloStep (Fx.jrows j.marked a b 0 0 [] 65536)) (Fx.jrows j.marked a b 0 0 [] 65536).length 0 [] = Fx.sl j a b := by rw [slo_fold, Fx.slots_eq]
theorem slots_few (j : Fx.Joint) (a b : Fx.Bd) : (Fx.jrows j.marked a b 0 0 [] 65536).length ≤ 4 := by rw [Fx.jrows_len, Fx.sl_marked]; exact Fx.sl_len j a b
theorem sloEq (jr : Fx.Joint → Fx.Bd → Fx.Bd → Int → Int → List Fx.Sb → Int → List Fx.Row) (j : Fx.Joint) (a b : Fx.Bd) :
    symFn Try.prog (tbl [(9, c7 eJ eBd eBd eI eI (eSl .sb) eI (eFr 44 .row) jr)]) (fun _ => sloT) 10 [eJ.pv j, eBd.pv a, eBd.pv b] =
      some ([([] : List Int) = [], ((jr j.marked a b 0 0 [] 65536).length : Int) = (jr j.marked a b 0 0 [] 65536).length, (0 : Int) = 0, (jr j.marked a b 0 0 [] 65536).length ≤ 4], (eFr 3 .i64).pv (foldN (sloStep (jr j.marked a b 0 0 [] 65536)) (jr j.marked a b 0 0 [] 65536).length 0 [])) := by kernel_rfl
theorem cSlots : Sound Try.prog 10 (c3 eJ eBd eBd (eFr 3 .i64) Fx.sl) :=
  con (lps := fun _ => sloT) mixed (l := [(9, c7 eJ eBd eBd eI eI (eSl .sb) eI (eFr 44 .row) Fx.jrows)]) (.cons cJrw .nil) Try.func10 (by kernel_rfl) (by kernel_rfl) (oneLoop (lps := fun _ => sloT) (b := lbN 0 Try.f10) (by kernel_rfl) sloLoop)
    (g3 (fun j a b => [([] : List Int) = [], ((Fx.jrows j.marked a b 0 0 [] 65536).length : Int) = (Fx.jrows j.marked a b 0 0 [] 65536).length, (0 : Int) = 0, (Fx.jrows j.marked a b 0 0 [] 65536).length ≤ 4]) (fun j a b => foldN (sloStep (Fx.jrows j.marked a b 0 0 [] 65536)) (Fx.jrows j.marked a b 0 0 [] 65536).length 0 [])
      (fun j a b _ => ⟨rfl, rfl, rfl, slots_few j a b, trivial⟩) (fun j a b _ => slots_fold j a b) (fun j a b => sloEq Fx.jrows j a b))
theorem cReact : Sound Try.prog 12 (c1 eJ eI Fx.react) :=
  con (lps := noLps) mixed (.cons cSat (.cons cVlen .nil)) Try.func12 (by kernel_rfl) (by kernel_rfl) (noLoops (by kernel_rfl)) (k1 (fun _ => by kernel_rfl))
theorem rReact : Sound Try.prog 13 (c1 eJ eI Fx.react) :=
  con (lps := noLps) mixed (.cons rSat (.cons rVlen .nil)) Try.func13 (by kernel_rfl) (by kernel_rfl) (noLoops (by kernel_rfl)) (g1 (fun _ => []) Fx.reactR (fun _ _ => trivial) (fun j _ => Fx.reactR_eq j) (fun _ => by kernel_rfl))
theorem cBrk : Sound Try.prog 14 (c2 eJ eI eB Fx.broken) :=
  con (lps := noLps) mixed (.cons cReact (.cons cMul .nil)) Try.func14 (by kernel_rfl) (by kernel_rfl) (noLoops (by kernel_rfl)) (k2 (fun _ _ => by kernel_rfl))
theorem rBrk : Sound Try.prog 15 (c2 eJ eI eB Fx.broken) :=
  con (lps := noLps) mixed (.cons rReact (.cons rMul .nil)) Try.func15 (by kernel_rfl) (by kernel_rfl) (noLoops (by kernel_rfl)) (k2 (fun _ _ => by kernel_rfl))
noncomputable def stoL : List (FuncId × Contract) := []
def stoTv (c : (List Fx.Row) × (Int) × (List Int) × (Fx.Joint) × (Fx.Joint)) (i : Nat) (_x : (Int) × (Int) × (Int) × (Int)) : List TV := [.val ((eSl .row).pv c.1), .val (I c.2.1), .val (.fv (.one (.ref 0 0))), .val (.fv (.one (.ref 3 0))), .val (.fv (.one (.ref 5 0))), .val (.fv (.one (.own 10))), .val (I c.2.2.1.length), .val (I (i : Int))]
def stoMv (c : (List Fx.Row) × (Int) × (List Int) × (Fx.Joint) × (Fx.Joint)) (_i : Nat) (x : (Int) × (Int) × (Int) × (Int)) : List MRes := [.val (.blk 27 (K.cells .jnt c.2.2.2.1)), .val (.blk 27 (K.cells .jnt c.2.2.2.2)), .val (.blk 25 [.int .i64 x.1, .int .i64 x.2.1, .int .i64 x.2.2.1, .int .i64 x.2.2.2]), .val (.row 3 ⟨.i64, c.2.2.1⟩)]
def stoDec : List TV → List MRes → Option (List Prop × ((List Fx.Row) × (Int) × (List Int) × (Fx.Joint) × (Fx.Joint)) × ((Int) × (Int) × (Int) × (Int)))
  | [.val (.fv (.one (.slc false ⟨.row, l⟩))), .val (I n), .val (.fv (.one (.ref 0 0))), .val (.fv (.one (.ref 3 0))), .val (.fv (.one (.ref 5 0))), .val (.fv (.one (.own 10))), .val (I m), .val (I i)], [.val (.blk 27 js), .val (.blk 27 zs), .val (.blk 25 [.int .i64 p, .int .i64 q, .int .i64 u, .int .i64 v]), .val (.row 3 ⟨.i64, s⟩)] => (match K.of .jnt js, K.of .jnt zs with
    | some j, some z => some ([m = s.length, i = 0, Fx.SlOk s], (l, n, s, j, z), (p, q, u, v))
    | _, _ => none)
  | _, _ => none
def stoOk (c : (List Fx.Row) × (Int) × (List Int) × (Fx.Joint) × (Fx.Joint)) : Prop := Fx.SlOk c.2.2.1
def stoInv (_c : (List Fx.Row) × (Int) × (List Int) × (Fx.Joint) × (Fx.Joint)) (_i : Nat) (_x : (Int) × (Int) × (Int) × (Int)) : Prop := True
theorem stoDec_ok (ts : List TV) (ms : List MRes) (ps : List Prop) (c : (List Fx.Row) × (Int) × (List Int) × (Fx.Joint) × (Fx.Joint)) (x : (Int) × (Int) × (Int) × (Int)) (h : stoDec ts ms = some (ps, c, x)) (hp : Conj ps) : ts = stoTv c 0 x ∧ ms = stoMv c 0 x ∧ stoOk c ∧ stoInv c 0 x := by
  unfold stoDec at h
  split at h
  · split at h
    · rename_i j z ej ez
      have ej := K.of_eq ej; have ez := K.of_eq ez
      cases h
      subst ej; subst ez
      obtain ⟨rfl, rfl, hok, _⟩ := hp
      exact ⟨rfl, rfl, hok, trivial⟩
    · cases h
  · cases h
def stoStep (c : (List Fx.Row) × (Int) × (List Int) × (Fx.Joint) × (Fx.Joint)) (i : Nat) (x : (Int) × (Int) × (Int) × (Int)) : (Int) × (Int) × (Int) × (Int) := bif Fx.stP c.1 c.2.1 i then ((bif c.2.2.1.getD i 0 == ((0 : Nat) : Int) then (c.1.getD (Fx.w64 (c.2.1 + i)).toNat Fx.row0).im else x.1), (bif c.2.2.1.getD i 0 == ((0 + 1 : Nat) : Int) then (c.1.getD (Fx.w64 (c.2.1 + i)).toNat Fx.row0).im else x.2.1), (bif c.2.2.1.getD i 0 == ((0 + 1 + 1 : Nat) : Int) then (c.1.getD (Fx.w64 (c.2.1 + i)).toNat Fx.row0).im else x.2.2.1), (bif c.2.2.1.getD i 0 == ((0 + 1 + 1 + 1 : Nat) : Int) then (c.1.getD (Fx.w64 (c.2.1 + i)).toNat Fx.row0).im else x.2.2.2)) else x
def stoV (c : (List Fx.Row) × (Int) × (List Int) × (Fx.Joint) × (Fx.Joint)) (i : Nat) (x : (Int) × (Int) × (Int) × (Int)) : VT := VT.ite (decide ((i : Int) < (c.2.2.1.length : Int))) (VT.pre [0 ≤ (i : Int) ∧ (i : Int) < (c.2.2.1.length : Int), i < c.2.2.1.length] (VT.ite (Fx.stP c.1 c.2.1 i) (VT.pre [0 ≤ Fx.w64 (c.2.1 + i) ∧ Fx.w64 (c.2.1 + i) < (c.1.length : Int), 0 ≤ c.2.2.1.getD i 0 ∧ c.2.2.1.getD i 0 < ((4 : Nat) : Int)] (VT.leaf Ex.norm 48 [.val ((eSl .row).pv c.1), .val (I c.2.1), .val (.fv (.one (.ref 0 0))), .val (.fv (.one (.ref 3 0))), .val (.fv (.one (.ref 5 0))), .val (.fv (.one (.own 10))), .val (I c.2.2.1.length), .val (I (IntKind.i64.wrap ((i : Int) + 1)))] [.val (.blk 27 (K.cells .jnt c.2.2.2.1)), .val (.blk 27 (K.cells .jnt c.2.2.2.2)), .val (.blk 25 [.int .i64 (bif c.2.2.1.getD i 0 == ((0 : Nat) : Int) then (c.1.getD (Fx.w64 (c.2.1 + i)).toNat Fx.row0).im else x.1), .int .i64 (bif c.2.2.1.getD i 0 == ((0 + 1 : Nat) : Int) then (c.1.getD (Fx.w64 (c.2.1 + i)).toNat Fx.row0).im else x.2.1), .int .i64 (bif c.2.2.1.getD i 0 == ((0 + 1 + 1 : Nat) : Int) then (c.1.getD (Fx.w64 (c.2.1 + i)).toNat Fx.row0).im else x.2.2.1), .int .i64 (bif c.2.2.1.getD i 0 == ((0 + 1 + 1 + 1 : Nat) : Int) then (c.1.getD (Fx.w64 (c.2.1 + i)).toNat Fx.row0).im else x.2.2.2)]), .val (.row 3 ⟨.i64, c.2.2.1⟩)])) (VT.leaf Ex.norm 48 [.val ((eSl .row).pv c.1), .val (I c.2.1), .val (.fv (.one (.ref 0 0))), .val (.fv (.one (.ref 3 0))), .val (.fv (.one (.ref 5 0))), .val (.fv (.one (.own 10))), .val (I c.2.2.1.length), .val (I (IntKind.i64.wrap ((i : Int) + 1)))] [.val (.blk 27 (K.cells .jnt c.2.2.2.1)), .val (.blk 27 (K.cells .jnt c.2.2.2.2)), .val (.blk 25 [.int .i64 x.1, .int .i64 x.2.1, .int .i64 x.2.2.1, .int .i64 x.2.2.2]), .val (.row 3 ⟨.i64, c.2.2.1⟩)]))) (VT.leaf (Ex.exit 0) 48 [.val ((eSl .row).pv c.1), .val (I c.2.1), .val (.fv (.one (.ref 0 0))), .val (.fv (.one (.ref 3 0))), .val (.fv (.one (.ref 5 0))), .val (.fv (.one (.own 10))), .val (I c.2.2.1.length), .val (I (i : Int))] [.val (.blk 27 (K.cells .jnt c.2.2.2.1)), .val (.blk 27 (K.cells .jnt c.2.2.2.2)), .val (.blk 25 [.int .i64 x.1, .int .i64 x.2.1, .int .i64 x.2.2.1, .int .i64 x.2.2.2]), .val (.row 3 ⟨.i64, c.2.2.1⟩)])
theorem stoV_eq (c : (List Fx.Row) × (Int) × (List Int) × (Fx.Joint) × (Fx.Joint)) (i : Nat) (x : (Int) × (Int) × (Int) × (Int)) : viewT [3, 4, 5, 10, 11, 19, 20, 21] [0, 3, 5, 10] (sexec Try.prog (tbl stoL) (noLps) (lbN 0 Try.f11) (headSt 48 13 [3, 4, 5, 10, 11, 19, 20, 21] [0, 3, 5, 10] (stoTv c i x) (stoMv c i x))) = stoV c i x := by kernel_rfl
noncomputable def stoT : St → Tree := forT0 48 13 [3, 4, 5, 10, 11, 19, 20, 21] [0, 3, 5, 10] stoDec (fun c => c.2.2.1.length) stoTv stoMv stoStep 0
theorem stoA : AllSound Try.prog stoL := .nil
theorem stoLoop : LoopOk Try.prog stoT (lbN 0 Try.f11) :=
  forT0_ok mixed stoA.tbl (noLoops (by kernel_rfl)) [0, 3, 5, 10] (bn := fun c => True) (inv := stoInv) stoDec_ok (fun _ _ => ⟨⟨.inr rfl, .inr rfl, .inr rfl, .inr rfl, .inr rfl, .inr rfl, .inr rfl, .inr rfl, trivial⟩, ⟨.inr rfl, .inr rfl, .inr rfl, .inr rfl, trivial⟩, rfl, rfl, rfl⟩)
    (fun _ _ _ _ _ _ hr h1 h2 => by
      trivial)
    (fun c i x hok hn hinv hi => ⟨_, stoV_eq c i x, by
      refine ⟨fun h => ?_, fun h => ?_⟩
      · have h : i < c.2.2.1.length := by simpa using h
        refine ⟨⟨⟨by omega, by omega⟩, h, trivial⟩, ?_⟩
        refine ⟨fun hb2 => ?_, fun hb2 => ?_⟩
        · refine ⟨⟨Fx.stP_ok hb2, Fx.getD_slot hok.1 h, trivial⟩, ?_⟩
          rw [wrap_succ h (by have := hok.2; simp only [maxLen]; omega)]
          exact ⟨rfl, ((bif c.2.2.1.getD i 0 == ((0 : Nat) : Int) then (c.1.getD (Fx.w64 (c.2.1 + i)).toNat Fx.row0).im else x.1), (bif c.2.2.1.getD i 0 == ((0 + 1 : Nat) : Int) then (c.1.getD (Fx.w64 (c.2.1 + i)).toNat Fx.row0).im else x.2.1), (bif c.2.2.1.getD i 0 == ((0 + 1 + 1 : Nat) : Int) then (c.1.getD (Fx.w64 (c.2.1 + i)).toNat Fx.row0).im else x.2.2.1), (bif c.2.2.1.getD i 0 == ((0 + 1 + 1 + 1 : Nat) : Int) then (c.1.getD (Fx.w64 (c.2.1 + i)).toNat Fx.row0).im else x.2.2.2)), [], h, by unfold stoStep; first | rfl | ((try dsimp only); (try rw [hb2]); rfl), trivial, ⟨.inr rfl, .inr rfl, .inr rfl, .inr rfl, .inr rfl, .inr rfl, .inr rfl, .inr rfl, trivial⟩, ⟨.inr rfl, .inr rfl, .inr rfl, .inr rfl, trivial⟩, rfl, rfl, rfl⟩
        · rw [wrap_succ h (by have := hok.2; simp only [maxLen]; omega)]
          exact ⟨rfl, x, [], h, by unfold stoStep; first | rfl | ((try dsimp only); (try rw [hb2]); rfl), trivial, ⟨.inr rfl, .inr rfl, .inr rfl, .inr rfl, .inr rfl, .inr rfl, .inr rfl, .inr rfl, trivial⟩, ⟨.inr rfl, .inr rfl, .inr rfl, .inr rfl, trivial⟩, rfl, rfl, rfl⟩
      · have h : ¬ i < c.2.2.1.length := by simpa using h
        exact ⟨rfl, .inl ⟨rfl, by omega, [], ⟨.inr rfl, .inr rfl, .inr rfl, .inr rfl, .inr rfl, .inr rfl, .inr rfl, .inr rfl, trivial⟩, ⟨.inr rfl, .inr rfl, .inr rfl, .inr rfl, trivial⟩, rfl, rfl, rfl⟩⟩⟩)
theorem stoEq (sl : Fx.Joint → Fx.Bd → Fx.Bd → List Int) (j : Fx.Joint) (a b : Fx.Bd) (l : List Fx.Row) (n : Int) : symFn Try.prog (tbl [(10, c3 eJ eBd eBd (eFr 3 .i64) sl)]) (fun _ => stoT) 11 [eJ.pv j, eBd.pv a, eBd.pv b, (eSl .row).pv l, I n] =
  some ([((sl j a b).length : Int) = (sl j a b).length, (0 : Int) = 0, Fx.SlOk (sl j a b)], eJ.pv (j.wimps (foldN (stoStep (l, n, sl j a b, j, Fx.jnt0)) (sl j a b).length 0 (0, 0, 0, 0)))) := by kernel_rfl
theorem cStore : Sound Try.prog 11 (c5 eJ eBd eBd (eSl .row) eI eJ Fx.jstore) :=
  con (lps := fun _ => stoT) mixed (l := [(10, c3 eJ eBd eBd (eFr 3 .i64) Fx.sl)]) (.cons cSlots .nil) Try.func11 (by kernel_rfl) (by kernel_rfl) (oneLoop (lps := fun _ => stoT) (b := lbN 0 Try.f11) (by kernel_rfl) stoLoop)
    (g5 (fun j a b _ _ => [((Fx.sl j a b).length : Int) = (Fx.sl j a b).length, (0 : Int) = 0, Fx.SlOk (Fx.sl j a b)]) (fun j a b l n => j.wimps (foldN (stoStep (l, n, Fx.sl j a b, j, Fx.jnt0)) (Fx.sl j a b).length 0 (0, 0, 0, 0)))
      (fun j a b _ _ _ => ⟨rfl, rfl, Fx.sl_ok j a b, trivial⟩) (fun _ _ _ _ _ _ => rfl) (fun j a b l n => stoEq Fx.sl j a b l n))
end Go.Proofs.Ytbjpfekcghnppaa
