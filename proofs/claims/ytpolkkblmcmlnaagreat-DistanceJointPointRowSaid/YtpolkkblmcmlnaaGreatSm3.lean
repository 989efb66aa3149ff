/- The contracts of the guards of the laws of chapters 30, 32, 33. -/
import Derived.Test.YtpolkkblmcmlnaaGreatSml
import Derived.Test.YtpolkkblmcmlnaaGreatEngTra
open Go Go.Eng
namespace Go.Proofs.YtpolkkblmcmlnaaGreat
open Go.Fx (an orr)

noncomputable def smb30L : List (FuncId × Contract) := []
def smb30Tv (_c : (Fx.Bd)) (i : Nat) (_x : Unit) : List TV := [.val (.fv (.one (.ref 0 0))), .val (Bo false), .val (I (i : Int))]
def smb30Mv (c : (Fx.Bd)) (_i : Nat) (_x : Unit) : List MRes := [.val (.blk 33 (K.cells .bd c))]
def smb30Etv (_c : (Fx.Bd)) (_e : Unit) : List TV := [.any, .val (Bo false), .any]
def smb30Emv (_c : (Fx.Bd)) (_e : Unit) : List MRes := [.lost]
def smb30Dec : List TV → List MRes → Option (List Prop × ((Fx.Bd)) × (Unit))
  | [.val (.fv (.one (.ref 0 0))), .val (Bo o), .val (I i)], [.val (.blk 33 bs)] => (match K.of .bd bs with
    | some b => some ([o = false, i = 0], b, ())
    | _ => none)
  | _, _ => none
def smb30Ok (_c : (Fx.Bd)) : Prop := True
def smb30Inv (_c : (Fx.Bd)) (_i : Nat) (_x : Unit) : Prop := True
theorem smb30Dec_ok (ts : List TV) (ms : List MRes) (ps : List Prop) (c : (Fx.Bd)) (x : Unit) (h : smb30Dec ts ms = some (ps, c, x)) (hp : Conj ps) : ts = smb30Tv c 0 x ∧ ms = smb30Mv c 0 x ∧ smb30Ok c ∧ smb30Inv c 0 x := by
  unfold smb30Dec at h
  split at h
  · split at h
    · rename_i b eb
      have eb := K.of_eq eb
      cases h
      subst eb
      obtain ⟨rfl, rfl, _⟩ := hp
      exact ⟨rfl, rfl, trivial, trivial⟩
    · cases h
  · cases h
def smb30Step (c : (Fx.Bd)) (i : Nat) (_x : Unit) : Sum (Unit) (Unit) := bif decide (((c.fixtures.getD i Fx.fx0).vs.length : Int) > 10) then .inr () else .inl ()
def smb30V (c : (Fx.Bd)) (i : Nat) (_x : Unit) : VT := VT.ite (an (decide ((i : Int) < (c.fixtures.length : Int))) (decide ((i : Int) < 6))) (VT.pre [0 ≤ (i : Int) ∧ (i : Int) < (c.fixtures.length : Int)] (VT.ite (decide (((c.fixtures.getD i Fx.fx0).vs.length : Int) > 10)) (VT.leaf (Ex.ret) 28 [.val (.fv (.one (.ref 0 0))), .val (Bo false), .val (I (i : Int))] [.val (.blk 33 (K.cells .bd c))]) (VT.leaf Ex.norm 28 [.val (.fv (.one (.ref 0 0))), .val (Bo false), .val (I (IntKind.i64.wrap ((i : Int) + 1)))] [.val (.blk 33 (K.cells .bd c))]))) (VT.leaf (Ex.exit 0) 28 [.val (.fv (.one (.ref 0 0))), .val (Bo false), .val (I (i : Int))] [.val (.blk 33 (K.cells .bd c))])
theorem smb30V_eq (c : (Fx.Bd)) (i : Nat) (x : Unit) : viewT [1, 2, 3] [0] (sexec Tryz.prog (tbl smb30L) (noLps) (lbN 0 Tryz.f32) (headSt 28 3 [1, 2, 3] [0] (smb30Tv c i x) (smb30Mv c i x))) = smb30V c i x := by kernel_rfl
noncomputable def smb30T : St → Tree := forT 28 3 [1, 2, 3] [0] smb30Dec (fun c => min c.fixtures.length 6) smb30Tv smb30Mv smb30Etv smb30Emv smb30Step () 0 .ret
theorem smb30A : AllSound Tryz.prog smb30L := .nil
theorem smb30Loop : LoopOk Tryz.prog smb30T (lbN 0 Tryz.f32) :=
  forT_ok mixed smb30A.tbl (noLoops (by kernel_rfl)) [0] (bn := fun c => True) (inv := smb30Inv) smb30Dec_ok (fun _ _ => ⟨⟨.inr rfl, .inr rfl, .inr rfl, trivial⟩, ⟨.inr rfl, trivial⟩, rfl, rfl, rfl⟩)
    (fun _ _ _ _ _ _ hr h1 h2 => by
      trivial)
    (fun c i x hok hn hinv hi => ⟨_, smb30V_eq c i x, by
      refine ⟨fun h => ?_, fun h => ?_⟩
      · have h : i < min c.fixtures.length 6 := by (have h2 := h; by_cases h3 : (i : Int) < (c.fixtures.length : Int) <;> by_cases h4 : (i : Int) < 6 <;> simp [an, h3, h4] at h2 <;> omega)
        refine ⟨⟨⟨by omega, by omega⟩, trivial⟩, ?_⟩
        refine ⟨fun hb2 => ?_, fun hb2 => ?_⟩
        · exact ⟨rfl, .inr ⟨rfl, h, (), [], by unfold smb30Step; first | rfl | ((try dsimp only); (try rw [hb2]); rfl), ⟨.inl rfl, .inr rfl, .inl rfl, trivial⟩, ⟨.inl rfl, trivial⟩, rfl, rfl, rfl⟩⟩
        · rw [wrap_succ h (by simp only [maxLen]; omega)]
          exact ⟨rfl, (), [], h, by unfold smb30Step; first | rfl | ((try dsimp only); (try rw [hb2]); rfl), trivial, ⟨.inr rfl, .inr rfl, .inr rfl, trivial⟩, ⟨.inr rfl, trivial⟩, rfl, rfl, rfl⟩
      · have h : ¬ i < min c.fixtures.length 6 := by (have h2 := h; by_cases h3 : (i : Int) < (c.fixtures.length : Int) <;> by_cases h4 : (i : Int) < 6 <;> simp [an, h3, h4] at h2 <;> omega)
        exact ⟨rfl, .inl ⟨rfl, by omega, [], ⟨.inr rfl, .inr rfl, .inr rfl, trivial⟩, ⟨.inr rfl, trivial⟩, rfl, rfl, rfl⟩⟩⟩)
def smb30U (b : Fx.Bd) : Bool := bif isL (runF (smb30Step b) (min b.fixtures.length 6) 0 ()) then decide ((b.fixtures.length : Int) ≤ 6) else false
theorem rSmb30 : Sound Tryz.prog 32 (c1 eBd eB smb30U) :=
  con (lps := fun _ => smb30T) mixed .nil Tryz.func32 (by kernel_rfl) (by kernel_rfl) (oneLoop (lps := fun _ => smb30T) (b := (lbN 0 Tryz.f32)) (by kernel_rfl) smb30Loop) (g1 (fun _ => [false = false, (0 : Int) = 0]) smb30U (fun _ _ => ⟨rfl, rfl, trivial⟩) (fun _ _ => rfl) (fun _ => by kernel_rfl))
noncomputable def req30L : List (FuncId × Contract) := []
def req30Tv (c : (List Fx.Row) × (List Fx.Row)) (i : Nat) (_x : Unit) : List TV := [.val ((eSl .row).pv c.1), .val ((eSl .row).pv c.2), .val (Bo false), .val (I (i : Int))]
def req30Mv (_c : (List Fx.Row) × (List Fx.Row)) (_i : Nat) (_x : Unit) : List MRes := []
def req30Etv (_c : (List Fx.Row) × (List Fx.Row)) (_e : Unit) : List TV := [.any, .any, .val (Bo false), .any]
def req30Emv (_c : (List Fx.Row) × (List Fx.Row)) (_e : Unit) : List MRes := []
def req30Dec : List TV → List MRes → Option (List Prop × ((List Fx.Row) × (List Fx.Row)) × (Unit))
  | [.val (.fv (.one (.slc false ⟨.row, l⟩))), .val (.fv (.one (.slc false ⟨.row, m⟩))), .val (Bo b), .val (I i)], [] => some ([b = false, i = 0, ((l.length : Int) != m.length) = false], (l, m), ())
  | _, _ => none
def req30Ok (c : (List Fx.Row) × (List Fx.Row)) : Prop := ((c.1.length : Int) != c.2.length) = false
def req30Inv (_c : (List Fx.Row) × (List Fx.Row)) (_i : Nat) (_x : Unit) : Prop := True
theorem req30Dec_ok (ts : List TV) (ms : List MRes) (ps : List Prop) (c : (List Fx.Row) × (List Fx.Row)) (x : Unit) (h : req30Dec ts ms = some (ps, c, x)) (hp : Conj ps) : ts = req30Tv c 0 x ∧ ms = req30Mv c 0 x ∧ req30Ok c ∧ req30Inv c 0 x := by
  unfold req30Dec at h
  split at h
  · cases h
    obtain ⟨rfl, rfl, hok, _⟩ := hp
    exact ⟨rfl, rfl, hok, trivial⟩
  · cases h
def req30Step (c : (List Fx.Row) × (List Fx.Row)) (i : Nat) (_x : Unit) : Sum (Unit) (Unit) := bif !(c.1.getD i Fx.row0).eqb (c.2.getD i Fx.row0) then .inr () else .inl ()
def req30V (c : (List Fx.Row) × (List Fx.Row)) (i : Nat) (_x : Unit) : VT := VT.ite (decide ((i : Int) < (c.1.length : Int))) (VT.pre [0 ≤ (i : Int) ∧ (i : Int) < (c.1.length : Int), 0 ≤ (i : Int) ∧ (i : Int) < (c.2.length : Int)] (VT.ite (!(c.1.getD i Fx.row0).eqb (c.2.getD i Fx.row0)) (VT.leaf (Ex.ret) 26 [.val ((eSl .row).pv c.1), .val ((eSl .row).pv c.2), .val (Bo false), .val (I (i : Int))] []) (VT.leaf Ex.norm 26 [.val ((eSl .row).pv c.1), .val ((eSl .row).pv c.2), .val (Bo false), .val (I (IntKind.i64.wrap ((i : Int) + 1)))] []))) (VT.leaf (Ex.exit 0) 26 [.val ((eSl .row).pv c.1), .val ((eSl .row).pv c.2), .val (Bo false), .val (I (i : Int))] [])
theorem req30V_eq (c : (List Fx.Row) × (List Fx.Row)) (i : Nat) (x : Unit) : viewT [0, 1, 4, 5] [] (sexec Tryz.prog (tbl req30L) (noLps) (lbN 0 Tryz.f7) (headSt 26 0 [0, 1, 4, 5] [] (req30Tv c i x) (req30Mv c i x))) = req30V c i x := by kernel_rfl
noncomputable def req30T : St → Tree := forT 26 0 [0, 1, 4, 5] [] req30Dec (fun c => c.1.length) req30Tv req30Mv req30Etv req30Emv req30Step () 0 .ret
theorem req30A : AllSound Tryz.prog req30L := .nil
theorem req30Loop : LoopOk Tryz.prog req30T (lbN 0 Tryz.f7) :=
  forT_ok mixed req30A.tbl (noLoops (by kernel_rfl)) [] (bn := fun c => c.1.length ≤ maxLen) (inv := req30Inv) req30Dec_ok (fun _ _ => ⟨⟨.inr rfl, .inr rfl, .inr rfl, .inr rfl, trivial⟩, trivial, rfl, rfl, rfl⟩)
    (fun _ _ _ _ _ _ hr h1 h2 => by
      simp only [List.map_cons, req30Tv, List.cons.injEq] at h1; exact len_le hr h1.1)
    (fun c i x hok hn hinv hi => ⟨_, req30V_eq c i x, by
      refine ⟨fun h => ?_, fun h => ?_⟩
      · have h : i < c.1.length := by simpa using h
        refine ⟨⟨⟨by omega, by omega⟩, ⟨by omega, by have hok : ((c.1.length : Int) != c.2.length) = false := hok; simp at hok; omega⟩, trivial⟩, ?_⟩
        refine ⟨fun hb2 => ?_, fun hb2 => ?_⟩
        · exact ⟨rfl, .inr ⟨rfl, h, (), [], by unfold req30Step; first | rfl | ((try dsimp only); (try rw [hb2]); rfl), ⟨.inl rfl, .inl rfl, .inr rfl, .inl rfl, trivial⟩, trivial, rfl, rfl, rfl⟩⟩
        · rw [wrap_succ h hn]
          exact ⟨rfl, (), [], h, by unfold req30Step; first | rfl | ((try dsimp only); (try rw [hb2]); rfl), trivial, ⟨.inr rfl, .inr rfl, .inr rfl, .inr rfl, trivial⟩, trivial, rfl, rfl, rfl⟩
      · have h : ¬ i < c.1.length := by simpa using h
        exact ⟨rfl, .inl ⟨rfl, by omega, [], ⟨.inr rfl, .inr rfl, .inr rfl, .inr rfl, trivial⟩, trivial, rfl, rfl, rfl⟩⟩⟩)
theorem rReq30 : Sound Tryz.prog 7 (c2 (eSl .row) (eSl .row) eB Fx.rowsEq) :=
  con (lps := fun _ => req30T) mixed .nil Tryz.func7 (by kernel_rfl) (by kernel_rfl) (oneLoop (lps := fun _ => req30T) (b := (lbN 0 Tryz.f7)) (by kernel_rfl) req30Loop) (g2 (fun l m => [((l.length : Int) != m.length) = false → false = false, ((l.length : Int) != m.length) = false → (0 : Int) = 0, ((l.length : Int) != m.length) = false → ((l.length : Int) != m.length) = false]) Fx.rowsEq (fun _ _ _ => ⟨fun _ => rfl, fun _ => rfl, id, trivial⟩) (fun _ _ _ => rfl) (fun _ _ => by kernel_rfl))
def sm30 (a b : Fx.Bd) : Bool := an (smb30U a) (smb30U b)
def sm3 (x : Fx.Ar) : Bool := an (decide ((x.s.length : Int) ≤ 20)) (sm30 x.a x.b)
theorem rSm30 : Sound Tryz.prog 12 (c2 eBd eBd eB sm30) :=
  con (lps := noLps) mixed (.cons rSmb30 .nil) Tryz.func12 (by kernel_rfl) (by kernel_rfl) (noLoops (by kernel_rfl)) (k2 (fun _ _ => by kernel_rfl))
theorem cSm30 : Sound Tryz.prog 5 (c1 eAr eB sm3) :=
  con (lps := noLps) mixed (.cons rSm30 .nil) Tryz.func5 (by kernel_rfl) (by kernel_rfl) (noLoops (by kernel_rfl)) (k1 (fun _ => by kernel_rfl))
end Go.Proofs.YtpolkkblmcmlnaaGreat
