/- The contracts of the guards of the laws of chapters 30, 32, 33. -/
import Derived.Test.YtfjognghjiifaaaGreatSml
import Derived.Test.YtfjognghjiifaaaGreatEngTra
open Go Go.Eng
namespace Go.Proofs.YtfjognghjiifaaaGreat
open Go.Fx (an orr)

noncomputable def smb23L : List (FuncId × Contract) := []
def smb23Tv (_c : (Fx.Bd)) (i : Nat) (_x : Unit) : List TV := [.val (.fv (.one (.ref 0 0))), .val (Bo false), .val (I (i : Int))]
def smb23Mv (c : (Fx.Bd)) (_i : Nat) (_x : Unit) : List MRes := [.val (.blk 36 (K.cells .bd c))]
def smb23Etv (_c : (Fx.Bd)) (_e : Unit) : List TV := [.any, .val (Bo false), .any]
def smb23Emv (_c : (Fx.Bd)) (_e : Unit) : List MRes := [.lost]
def smb23Dec : List TV → List MRes → Option (List Prop × ((Fx.Bd)) × (Unit))
  | [.val (.fv (.one (.ref 0 0))), .val (Bo o), .val (I i)], [.val (.blk 36 bs)] => (match K.of .bd bs with
    | some b => some ([o = false, i = 0], b, ())
    | _ => none)
  | _, _ => none
def smb23Ok (_c : (Fx.Bd)) : Prop := True
def smb23Inv (_c : (Fx.Bd)) (_i : Nat) (_x : Unit) : Prop := True
theorem smb23Dec_ok (ts : List TV) (ms : List MRes) (ps : List Prop) (c : (Fx.Bd)) (x : Unit) (h : smb23Dec ts ms = some (ps, c, x)) (hp : Conj ps) : ts = smb23Tv c 0 x ∧ ms = smb23Mv c 0 x ∧ smb23Ok c ∧ smb23Inv c 0 x := by
  unfold smb23Dec at h
  split at h
  · split at h
    · rename_i b eb
      have eb := K.of_eq eb
      cases h
      subst eb
      obtain ⟨rfl, rfl, _⟩ := hp
      exact ⟨rfl, rfl, trivial, trivial⟩
    · cases h
  · cases h
def smb23Step (c : (Fx.Bd)) (i : Nat) (_x : Unit) : Sum (Unit) (Unit) := bif decide (((c.fixtures.getD i Fx.fx0).vs.length : Int) > 20) then .inr () else .inl ()
def smb23V (c : (Fx.Bd)) (i : Nat) (_x : Unit) : VT := VT.ite (an (decide ((i : Int) < (c.fixtures.length : Int))) (decide ((i : Int) < 8))) (VT.pre [0 ≤ (i : Int) ∧ (i : Int) < (c.fixtures.length : Int)] (VT.ite (decide (((c.fixtures.getD i Fx.fx0).vs.length : Int) > 20)) (VT.leaf (Ex.ret) 28 [.val (.fv (.one (.ref 0 0))), .val (Bo false), .val (I (i : Int))] [.val (.blk 36 (K.cells .bd c))]) (VT.leaf Ex.norm 28 [.val (.fv (.one (.ref 0 0))), .val (Bo false), .val (I (IntKind.i64.wrap ((i : Int) + 1)))] [.val (.blk 36 (K.cells .bd c))]))) (VT.leaf (Ex.exit 0) 28 [.val (.fv (.one (.ref 0 0))), .val (Bo false), .val (I (i : Int))] [.val (.blk 36 (K.cells .bd c))])
theorem smb23V_eq (c : (Fx.Bd)) (i : Nat) (x : Unit) : viewT [1, 2, 3] [0] (sexec Tryz.prog (tbl smb23L) (noLps) (lbN 0 Tryz.f9) (headSt 28 3 [1, 2, 3] [0] (smb23Tv c i x) (smb23Mv c i x))) = smb23V c i x := by kernel_rfl
noncomputable def smb23T : St → Tree := forT 28 3 [1, 2, 3] [0] smb23Dec (fun c => min c.fixtures.length 8) smb23Tv smb23Mv smb23Etv smb23Emv smb23Step () 0 .ret
theorem smb23A : AllSound Tryz.prog smb23L := .nil
theorem smb23Loop : LoopOk Tryz.prog smb23T (lbN 0 Tryz.f9) :=
  forT_ok mixed smb23A.tbl (noLoops (by kernel_rfl)) [0] (bn := fun c => True) (inv := smb23Inv) smb23Dec_ok (fun _ _ => ⟨⟨.inr rfl, .inr rfl, .inr rfl, trivial⟩, ⟨.inr rfl, trivial⟩, rfl, rfl, rfl⟩)
    (fun _ _ _ _ _ _ hr h1 h2 => by
      trivial)
    (fun c i x hok hn hinv hi => ⟨_, smb23V_eq c i x, by
      refine ⟨fun h => ?_, fun h => ?_⟩
      · have h : i < min c.fixtures.length 8 := by (have h2 := h; by_cases h3 : (i : Int) < (c.fixtures.length : Int) <;> by_cases h4 : (i : Int) < 8 <;> simp [an, h3, h4] at h2 <;> omega)
        refine ⟨⟨⟨by omega, by omega⟩, trivial⟩, ?_⟩
        refine ⟨fun hb2 => ?_, fun hb2 => ?_⟩
        · exact ⟨rfl, .inr ⟨rfl, h, (), [], by unfold smb23Step; first | rfl | ((try dsimp only); (try rw [hb2]); rfl), ⟨.inl rfl, .inr rfl, .inl rfl, trivial⟩, ⟨.inl rfl, trivial⟩, rfl, rfl, rfl⟩⟩
        · rw [wrap_succ h (by simp only [maxLen]; omega)]
          exact ⟨rfl, (), [], h, by unfold smb23Step; first | rfl | ((try dsimp only); (try rw [hb2]); rfl), trivial, ⟨.inr rfl, .inr rfl, .inr rfl, trivial⟩, ⟨.inr rfl, trivial⟩, rfl, rfl, rfl⟩
      · have h : ¬ i < min c.fixtures.length 8 := by (have h2 := h; by_cases h3 : (i : Int) < (c.fixtures.length : Int) <;> by_cases h4 : (i : Int) < 8 <;> simp [an, h3, h4] at h2 <;> omega)
        exact ⟨rfl, .inl ⟨rfl, by omega, [], ⟨.inr rfl, .inr rfl, .inr rfl, trivial⟩, ⟨.inr rfl, trivial⟩, rfl, rfl, rfl⟩⟩⟩)
def smb23U (b : Fx.Bd) : Bool := bif isL (runF (smb23Step b) (min b.fixtures.length 8) 0 ()) then decide ((b.fixtures.length : Int) ≤ 8) else false
theorem rSmb23 : Sound Tryz.prog 9 (c1 eBd eB smb23U) :=
  con (lps := fun _ => smb23T) mixed .nil Tryz.func9 (by kernel_rfl) (by kernel_rfl) (oneLoop (lps := fun _ => smb23T) (b := (lbN 0 Tryz.f9)) (by kernel_rfl) smb23Loop) (g1 (fun _ => [false = false, (0 : Int) = 0]) smb23U (fun _ _ => ⟨rfl, rfl, trivial⟩) (fun _ _ => rfl) (fun _ => by kernel_rfl))
noncomputable def req29L : List (FuncId × Contract) := []
def req29Tv (c : (List Fx.Row) × (List Fx.Row)) (i : Nat) (_x : Unit) : List TV := [.val ((eSl .row).pv c.1), .val ((eSl .row).pv c.2), .val (Bo false), .val (I (i : Int))]
def req29Mv (_c : (List Fx.Row) × (List Fx.Row)) (_i : Nat) (_x : Unit) : List MRes := []
def req29Etv (_c : (List Fx.Row) × (List Fx.Row)) (_e : Unit) : List TV := [.any, .any, .val (Bo false), .any]
def req29Emv (_c : (List Fx.Row) × (List Fx.Row)) (_e : Unit) : List MRes := []
def req29Dec : List TV → List MRes → Option (List Prop × ((List Fx.Row) × (List Fx.Row)) × (Unit))
  | [.val (.fv (.one (.slc false ⟨.row, l⟩))), .val (.fv (.one (.slc false ⟨.row, m⟩))), .val (Bo b), .val (I i)], [] => some ([b = false, i = 0, ((l.length : Int) != m.length) = false], (l, m), ())
  | _, _ => none
def req29Ok (c : (List Fx.Row) × (List Fx.Row)) : Prop := ((c.1.length : Int) != c.2.length) = false
def req29Inv (_c : (List Fx.Row) × (List Fx.Row)) (_i : Nat) (_x : Unit) : Prop := True
theorem req29Dec_ok (ts : List TV) (ms : List MRes) (ps : List Prop) (c : (List Fx.Row) × (List Fx.Row)) (x : Unit) (h : req29Dec ts ms = some (ps, c, x)) (hp : Conj ps) : ts = req29Tv c 0 x ∧ ms = req29Mv c 0 x ∧ req29Ok c ∧ req29Inv c 0 x := by
  unfold req29Dec at h
  split at h
  · cases h
    obtain ⟨rfl, rfl, hok, _⟩ := hp
    exact ⟨rfl, rfl, hok, trivial⟩
  · cases h
def req29Step (c : (List Fx.Row) × (List Fx.Row)) (i : Nat) (_x : Unit) : Sum (Unit) (Unit) := bif !(c.1.getD i Fx.row0).eqb (c.2.getD i Fx.row0) then .inr () else .inl ()
def req29V (c : (List Fx.Row) × (List Fx.Row)) (i : Nat) (_x : Unit) : VT := VT.ite (an (decide ((i : Int) < (c.1.length : Int))) (decide ((i : Int) < (c.2.length : Int)))) (VT.pre [0 ≤ (i : Int) ∧ (i : Int) < (c.1.length : Int), 0 ≤ (i : Int) ∧ (i : Int) < (c.2.length : Int)] (VT.ite (!(c.1.getD i Fx.row0).eqb (c.2.getD i Fx.row0)) (VT.leaf (Ex.ret) 32 [.val ((eSl .row).pv c.1), .val ((eSl .row).pv c.2), .val (Bo false), .val (I (i : Int))] []) (VT.leaf Ex.norm 32 [.val ((eSl .row).pv c.1), .val ((eSl .row).pv c.2), .val (Bo false), .val (I (IntKind.i64.wrap ((i : Int) + 1)))] []))) (VT.leaf (Ex.exit 0) 32 [.val ((eSl .row).pv c.1), .val ((eSl .row).pv c.2), .val (Bo false), .val (I (i : Int))] [])
theorem req29V_eq (c : (List Fx.Row) × (List Fx.Row)) (i : Nat) (x : Unit) : viewT [0, 1, 4, 5] [] (sexec Tryz.prog (tbl req29L) (noLps) (lbN 0 Tryz.f8) (headSt 32 0 [0, 1, 4, 5] [] (req29Tv c i x) (req29Mv c i x))) = req29V c i x := by kernel_rfl
noncomputable def req29T : St → Tree := forT 32 0 [0, 1, 4, 5] [] req29Dec (fun c => c.1.length) req29Tv req29Mv req29Etv req29Emv req29Step () 0 .ret
theorem req29A : AllSound Tryz.prog req29L := .nil
theorem req29Loop : LoopOk Tryz.prog req29T (lbN 0 Tryz.f8) :=
  forT_ok mixed req29A.tbl (noLoops (by kernel_rfl)) [] (bn := fun c => c.1.length ≤ maxLen) (inv := req29Inv) req29Dec_ok (fun _ _ => ⟨⟨.inr rfl, .inr rfl, .inr rfl, .inr rfl, trivial⟩, trivial, rfl, rfl, rfl⟩)
    (fun _ _ _ _ _ _ hr h1 h2 => by
      simp only [List.map_cons, req29Tv, List.cons.injEq] at h1; exact len_le hr h1.1)
    (fun c i x hok hn hinv hi => ⟨_, req29V_eq c i x, by
      refine ⟨fun h => ?_, fun h => ?_⟩
      · have h : i < c.1.length := by (have hok : ((c.1.length : Int) != c.2.length) = false := hok; have e : (c.2.length : Int) = c.1.length := (by simp at hok; omega); have h2 := h; rw [e] at h2; by_cases h3 : (i : Int) < (c.1.length : Int) <;> simp [an, h3] at h2 <;> omega)
        refine ⟨⟨⟨by omega, by omega⟩, ⟨by omega, by have hok : ((c.1.length : Int) != c.2.length) = false := hok; simp at hok; omega⟩, trivial⟩, ?_⟩
        refine ⟨fun hb2 => ?_, fun hb2 => ?_⟩
        · exact ⟨rfl, .inr ⟨rfl, h, (), [], by unfold req29Step; first | rfl | ((try dsimp only); (try rw [hb2]); rfl), ⟨.inl rfl, .inl rfl, .inr rfl, .inl rfl, trivial⟩, trivial, rfl, rfl, rfl⟩⟩
        · rw [wrap_succ h hn]
          exact ⟨rfl, (), [], h, by unfold req29Step; first | rfl | ((try dsimp only); (try rw [hb2]); rfl), trivial, ⟨.inr rfl, .inr rfl, .inr rfl, .inr rfl, trivial⟩, trivial, rfl, rfl, rfl⟩
      · have h : ¬ i < c.1.length := by (have hok : ((c.1.length : Int) != c.2.length) = false := hok; have e : (c.2.length : Int) = c.1.length := (by simp at hok; omega); have h2 := h; rw [e] at h2; by_cases h3 : (i : Int) < (c.1.length : Int) <;> simp [an, h3] at h2 <;> omega)
        exact ⟨rfl, .inl ⟨rfl, by omega, [], ⟨.inr rfl, .inr rfl, .inr rfl, .inr rfl, trivial⟩, trivial, rfl, rfl, rfl⟩⟩⟩)
theorem rReq29 : Sound Tryz.prog 8 (c2 (eSl .row) (eSl .row) eB Fx.rowsEq) :=
  con (lps := fun _ => req29T) mixed .nil Tryz.func8 (by kernel_rfl) (by kernel_rfl) (oneLoop (lps := fun _ => req29T) (b := (lbN 0 Tryz.f8)) (by kernel_rfl) req29Loop) (g2 (fun l m => [((l.length : Int) != m.length) = false → false = false, ((l.length : Int) != m.length) = false → (0 : Int) = 0, ((l.length : Int) != m.length) = false → ((l.length : Int) != m.length) = false]) Fx.rowsEq (fun _ _ _ => ⟨fun _ => rfl, fun _ => rfl, id, trivial⟩) (fun _ _ _ => rfl) (fun _ _ => by kernel_rfl))
end Go.Proofs.YtfjognghjiifaaaGreat
