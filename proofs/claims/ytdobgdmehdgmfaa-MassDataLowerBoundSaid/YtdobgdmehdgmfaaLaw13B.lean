/- Proved here: more laws of chapter 13 return true for every input. Conditions: none. -/
import Derived.Test.YtdobgdmehdgmfaaLaw13
open Go Go.Eng
namespace Go.Proofs.Ytdobgdmehdgmfaa
open Go.Fx (Vec Tf Md Fix an orr an_true Md.eqb_self Md.eqb_of)

noncomputable def lofL : List (FuncId × Contract) := [(9, c0 eB true)]
def lofTv (c : (List Fx.Fix) × (Int) × (Bool)) (i : Nat) (_x : Unit) : List TV := [.val ((eSl .fix).pv c.1), .val (I c.2.1), .val (Bo c.2.2), .val (Bo false), .val (I (i : Int))]
def lofMv (_c : (List Fx.Fix) × (Int) × (Bool)) (_i : Nat) (_x : Unit) : List MRes := []
def lofEtv (_c : (List Fx.Fix) × (Int) × (Bool)) (_e : Unit) : List TV := [.any, .any, .any, .val (Bo true), .any]
def lofEmv (_c : (List Fx.Fix) × (Int) × (Bool)) (_e : Unit) : List MRes := []
def lofDec : List TV → List MRes → Option (List Prop × ((List Fx.Fix) × (Int) × (Bool)) × (Unit))
  | [.val (.fv (.one (.slc false ⟨.fix, l⟩))), .val (I k), .val (Bo b), .val (Bo r), .val (I i)], [] => some ([r = false, i = 0], (l, k, b), ())
  | _, _ => none
def lofOk (_c : (List Fx.Fix) × (Int) × (Bool)) : Prop := True
def lofInv (_c : (List Fx.Fix) × (Int) × (Bool)) (_i : Nat) (_x : Unit) : Prop := True
theorem lofDec_ok (ts : List TV) (ms : List MRes) (ps : List Prop) (c : (List Fx.Fix) × (Int) × (Bool)) (x : Unit) (h : lofDec ts ms = some (ps, c, x)) (hp : Conj ps) : ts = lofTv c 0 x ∧ ms = lofMv c 0 x ∧ lofOk c ∧ lofInv c 0 x := by
  unfold lofDec at h
  split at h
  · cases h
    obtain ⟨rfl, rfl, _⟩ := hp
    exact ⟨rfl, rfl, trivial, trivial⟩
  · cases h
def lofStep (c : (List Fx.Fix) × (Int) × (Bool)) (i : Nat) (_x : Unit) : Sum (Unit) (Unit) := bif decide (((c.1.getD i Fx.fx0).vs.length : Int) > 20) then .inr () else .inl ()
def lofV (c : (List Fx.Fix) × (Int) × (Bool)) (i : Nat) (_x : Unit) : VT := VT.ite (decide ((i : Int) < (c.1.length : Int))) (VT.pre [0 ≤ (i : Int) ∧ (i : Int) < ((c.1).length : Int)] (VT.ite (decide (((c.1.getD i Fx.fx0).vs.length : Int) > 20)) (VT.leaf (Ex.ret) 65 [.val ((eSl .fix).pv c.1), .val (I c.2.1), .val (Bo c.2.2), .val (Bo true), .val (I (i : Int))] []) (VT.leaf Ex.norm 65 [.val ((eSl .fix).pv c.1), .val (I c.2.1), .val (Bo c.2.2), .val (Bo false), .val (I (IntKind.i64.wrap ((i : Int) + 1)))] []))) (VT.leaf (Ex.exit 0) 65 [.val ((eSl .fix).pv c.1), .val (I c.2.1), .val (Bo c.2.2), .val (Bo false), .val (I (i : Int))] [])
theorem lofV_eq (c : (List Fx.Fix) × (Int) × (Bool)) (i : Nat) (x : Unit) : viewT [0, 1, 2, 6, 7] [] (sexec Try.prog (tbl lofL) (noLps) (lbN 0 Try.f8) (headSt 65 5 [0, 1, 2, 6, 7] [] (lofTv c i x) (lofMv c i x))) = lofV c i x := by kernel_rfl
noncomputable def lofT : St → Tree := forT 65 5 [0, 1, 2, 6, 7] [] lofDec (fun c => c.1.length) lofTv lofMv lofEtv lofEmv lofStep () 0 .ret
theorem lofA : AllSound Try.prog lofL := (.cons cEx13 .nil)
theorem lofLoop : LoopOk Try.prog lofT (lbN 0 Try.f8) :=
  forT_ok mixed lofA.tbl (noLoops (by kernel_rfl)) [] (bn := fun c => c.1.length ≤ maxLen) (inv := lofInv) lofDec_ok (fun _ _ => ⟨⟨.inr rfl, .inr rfl, .inr rfl, .inr rfl, .inr rfl, trivial⟩, trivial, rfl, rfl, rfl⟩)
    (fun _ _ _ _ _ _ hr h1 h2 => by
      simp only [List.map_cons, lofTv, List.cons.injEq] at h1; exact len_le hr h1.1)
    (fun c i x hok hn hinv hi => ⟨_, lofV_eq c i x, by
      refine ⟨fun h => ?_, fun h => ?_⟩
      · have h : i < c.1.length := by simpa using h
        refine ⟨⟨⟨by omega, by first | omega | (have := h; omega)⟩, trivial⟩, ?_⟩
        refine ⟨fun hb4 => ?_, fun hb4 => ?_⟩
        · exact ⟨rfl, .inr ⟨rfl, h, (), [], by unfold lofStep; first | rfl | ((try dsimp only); (try rw [hb4]); rfl), ⟨.inl rfl, .inl rfl, .inl rfl, .inr rfl, .inl rfl, trivial⟩, trivial, rfl, rfl, rfl⟩⟩
        · rw [wrap_succ h hn]
          exact ⟨rfl, (), [], h, by unfold lofStep; first | rfl | ((try dsimp only); (try rw [hb4]); rfl), trivial, ⟨.inr rfl, .inr rfl, .inr rfl, .inr rfl, .inr rfl, trivial⟩, trivial, rfl, rfl, rfl⟩
      · have h : ¬ i < c.1.length := by simpa using h
        exact ⟨rfl, .inl ⟨rfl, by omega, [], ⟨.inr rfl, .inr rfl, .inr rfl, .inr rfl, .inr rfl, trivial⟩, trivial, rfl, rfl, rfl⟩⟩⟩)
noncomputable def lb1L : List (FuncId × Contract) := [(9, c0 eB true)]
def lb1Tv (c : (List Fx.Md) × (Fx.Md) × (Fx.Md)) (i : Nat) (_x : Unit) : List TV := [.val ((eSl .md).pv c.1), .val (.fv (.one (.ref 0 0))), .val (Bo false), .val (.fv (.one (.ref 7 0))), .val (I (i : Int))]
def lb1Mv (c : (List Fx.Md) × (Fx.Md) × (Fx.Md)) (_i : Nat) (_x : Unit) : List MRes := [.val (.blk 30 (mdG c.2.1)), .val (.blk 30 (mdG c.2.2))]
def lb1Etv (_c : (List Fx.Md) × (Fx.Md) × (Fx.Md)) (_e : Unit) : List TV := [.any, .any, .val (Bo true), .any, .any]
def lb1Emv (_c : (List Fx.Md) × (Fx.Md) × (Fx.Md)) (_e : Unit) : List MRes := [.lost, .lost]
def lb1Dec : List TV → List MRes → Option (List Prop × ((List Fx.Md) × (Fx.Md) × (Fx.Md)) × (Unit))
  | [.val (.fv (.one (.slc false ⟨.md, l⟩))), .val (.fv (.one (.ref 0 0))), .val (Bo b), .val (.fv (.one (.ref 7 0))), .val (I i)], [.val (.blk 30 [.int .i64 m0, .int .i64 m1, .int .i64 m2, .int .i64 m3]), .val (.blk 30 [.int .i64 h0, .int .i64 h1, .int .i64 h2, .int .i64 h3])] => some ([b = false, i = 0], (l, ⟨m0, m1, m2, m3⟩, ⟨h0, h1, h2, h3⟩), ())
  | _, _ => none
def lb1Ok (_c : (List Fx.Md) × (Fx.Md) × (Fx.Md)) : Prop := True
def lb1Inv (_c : (List Fx.Md) × (Fx.Md) × (Fx.Md)) (_i : Nat) (_x : Unit) : Prop := True
theorem lb1Dec_ok (ts : List TV) (ms : List MRes) (ps : List Prop) (c : (List Fx.Md) × (Fx.Md) × (Fx.Md)) (x : Unit) (h : lb1Dec ts ms = some (ps, c, x)) (hp : Conj ps) : ts = lb1Tv c 0 x ∧ ms = lb1Mv c 0 x ∧ lb1Ok c ∧ lb1Inv c 0 x := by
  unfold lb1Dec at h
  split at h
  · cases h
    obtain ⟨rfl, rfl, _⟩ := hp
    exact ⟨rfl, rfl, trivial, trivial⟩
  · cases h
def lb1Step (c : (List Fx.Md) × (Fx.Md) × (Fx.Md)) (i : Nat) (_x : Unit) : Sum (Unit) (Unit) := bif orr (decide ((c.1.getD i Fx.md0).m < 0)) (decide ((c.1.getD i Fx.md0).m > 536870911)) then .inr () else .inl ()
def lb1V (c : (List Fx.Md) × (Fx.Md) × (Fx.Md)) (i : Nat) (_x : Unit) : VT := VT.ite (decide ((i : Int) < (c.1.length : Int))) (VT.pre [0 ≤ (i : Int) ∧ (i : Int) < (c.1.length : Int), decide ((c.1.getD i Fx.md0).m < 0) = false → 0 ≤ (i : Int) ∧ (i : Int) < (c.1.length : Int)] (VT.ite (orr (decide ((c.1.getD i Fx.md0).m < 0)) (decide ((c.1.getD i Fx.md0).m > 536870911))) (VT.leaf (Ex.ret) 74 [.val ((eSl .md).pv c.1), .val (.fv (.one (.ref 0 0))), .val (Bo true), .val (.fv (.one (.ref 7 0))), .val (I (i : Int))] [.val (.blk 30 (mdG c.2.1)), .val (.blk 30 (mdG c.2.2))]) (VT.leaf Ex.norm 74 [.val ((eSl .md).pv c.1), .val (.fv (.one (.ref 0 0))), .val (Bo false), .val (.fv (.one (.ref 7 0))), .val (I (IntKind.i64.wrap ((i : Int) + 1)))] [.val (.blk 30 (mdG c.2.1)), .val (.blk 30 (mdG c.2.2))]))) (VT.leaf (Ex.exit 0) 74 [.val ((eSl .md).pv c.1), .val (.fv (.one (.ref 0 0))), .val (Bo false), .val (.fv (.one (.ref 7 0))), .val (I (i : Int))] [.val (.blk 30 (mdG c.2.1)), .val (.blk 30 (mdG c.2.2))])
theorem lb1V_eq (c : (List Fx.Md) × (Fx.Md) × (Fx.Md)) (i : Nat) (x : Unit) : viewT [0, 3, 4, 5, 6] [0, 7] (sexec Try.prog (tbl lb1L) (noLps) (lbN 0 Try.f7) (headSt 74 10 [0, 3, 4, 5, 6] [0, 7] (lb1Tv c i x) (lb1Mv c i x))) = lb1V c i x := by kernel_rfl
noncomputable def lb1T : St → Tree := forT 74 10 [0, 3, 4, 5, 6] [0, 7] lb1Dec (fun c => c.1.length) lb1Tv lb1Mv lb1Etv lb1Emv lb1Step () 0 .ret
theorem lb1A : AllSound Try.prog lb1L := (.cons cEx13 .nil)
theorem lb1Loop : LoopOk Try.prog lb1T (lbN 0 Try.f7) :=
  forT_ok mixed lb1A.tbl (noLoops (by kernel_rfl)) [0, 7] (bn := fun c => c.1.length ≤ maxLen) (inv := lb1Inv) lb1Dec_ok (fun _ _ => ⟨⟨.inr rfl, .inr rfl, .inr rfl, .inr rfl, .inr rfl, trivial⟩, ⟨.inr rfl, .inr rfl, trivial⟩, rfl, rfl, rfl⟩)
    (fun _ _ _ _ _ _ hr h1 h2 => by
      simp only [List.map_cons, lb1Tv, List.cons.injEq] at h1; exact len_le hr h1.1)
    (fun c i x hok hn hinv hi => ⟨_, lb1V_eq c i x, by
      refine ⟨fun h => ?_, fun h => ?_⟩
      · have h : i < c.1.length := by simpa using h
        refine ⟨⟨⟨by omega, by omega⟩, fun _ => ⟨by omega, by omega⟩, trivial⟩, ?_⟩
        refine ⟨fun hb4 => ?_, fun hb4 => ?_⟩
        · exact ⟨rfl, .inr ⟨rfl, h, (), [], by unfold lb1Step; first | rfl | ((try dsimp only); (try rw [hb4]); rfl), ⟨.inl rfl, .inl rfl, .inr rfl, .inl rfl, .inl rfl, trivial⟩, ⟨.inl rfl, .inl rfl, trivial⟩, rfl, rfl, rfl⟩⟩
        · rw [wrap_succ h hn]
          exact ⟨rfl, (), [], h, by unfold lb1Step; first | rfl | ((try dsimp only); (try rw [hb4]); rfl), trivial, ⟨.inr rfl, .inr rfl, .inr rfl, .inr rfl, .inr rfl, trivial⟩, ⟨.inr rfl, .inr rfl, trivial⟩, rfl, rfl, rfl⟩
      · have h : ¬ i < c.1.length := by simpa using h
        exact ⟨rfl, .inl ⟨rfl, by omega, [], ⟨.inr rfl, .inr rfl, .inr rfl, .inr rfl, .inr rfl, trivial⟩, ⟨.inr rfl, .inr rfl, trivial⟩, rfl, rfl, rfl⟩⟩⟩)
noncomputable def lb2L : List (FuncId × Contract) := []
def lb2Tv (c : (List Fx.Md) × (Fx.Md) × (Fx.Md)) (i : Nat) (_x : Unit) : List TV := [.val ((eSl .md).pv c.1), .val (.fv (.one (.ref 0 0))), .val (Bo false), .val (.fv (.one (.ref 7 0))), .val (I (i : Int))]
def lb2Mv (c : (List Fx.Md) × (Fx.Md) × (Fx.Md)) (_i : Nat) (_x : Unit) : List MRes := [.val (.blk 30 (mdG c.2.1)), .val (.blk 30 (mdG c.2.2))]
def lb2Etv (_c : (List Fx.Md) × (Fx.Md) × (Fx.Md)) (_e : Unit) : List TV := [.any, .any, .val (Bo false), .any, .any]
def lb2Emv (_c : (List Fx.Md) × (Fx.Md) × (Fx.Md)) (_e : Unit) : List MRes := [.lost, .lost]
def lb2Dec : List TV → List MRes → Option (List Prop × ((List Fx.Md) × (Fx.Md) × (Fx.Md)) × (Unit))
  | [.val (.fv (.one (.slc false ⟨.md, l⟩))), .val (.fv (.one (.ref 0 0))), .val (Bo b), .val (.fv (.one (.ref 7 0))), .val (I i)], [.val (.blk 30 [.int .i64 m0, .int .i64 m1, .int .i64 m2, .int .i64 m3]), .val (.blk 30 [.int .i64 h0, .int .i64 h1, .int .i64 h2, .int .i64 h3])] => some ([b = false, i = 0], (l, ⟨m0, m1, m2, m3⟩, ⟨h0, h1, h2, h3⟩), ())
  | _, _ => none
def lb2Ok (_c : (List Fx.Md) × (Fx.Md) × (Fx.Md)) : Prop := True
def lb2Inv (_c : (List Fx.Md) × (Fx.Md) × (Fx.Md)) (_i : Nat) (_x : Unit) : Prop := True
theorem lb2Dec_ok (ts : List TV) (ms : List MRes) (ps : List Prop) (c : (List Fx.Md) × (Fx.Md) × (Fx.Md)) (x : Unit) (h : lb2Dec ts ms = some (ps, c, x)) (hp : Conj ps) : ts = lb2Tv c 0 x ∧ ms = lb2Mv c 0 x ∧ lb2Ok c ∧ lb2Inv c 0 x := by
  unfold lb2Dec at h
  split at h
  · cases h
    obtain ⟨rfl, rfl, _⟩ := hp
    exact ⟨rfl, rfl, trivial, trivial⟩
  · cases h
def lb2Step (c : (List Fx.Md) × (Fx.Md) × (Fx.Md)) (i : Nat) (_x : Unit) : Sum (Unit) (Unit) := bif decide (c.2.2.m < (c.1.getD i Fx.md0).m) then .inr () else .inl ()
def lb2V (c : (List Fx.Md) × (Fx.Md) × (Fx.Md)) (i : Nat) (_x : Unit) : VT := VT.ite (decide ((i : Int) < (c.1.length : Int))) (VT.pre [0 ≤ (i : Int) ∧ (i : Int) < ((c.1).length : Int)] (VT.ite (decide (c.2.2.m < (c.1.getD i Fx.md0).m)) (VT.leaf (Ex.ret) 74 [.val ((eSl .md).pv c.1), .val (.fv (.one (.ref 0 0))), .val (Bo false), .val (.fv (.one (.ref 7 0))), .val (I (i : Int))] [.val (.blk 30 (mdG c.2.1)), .val (.blk 30 (mdG c.2.2))]) (VT.leaf Ex.norm 74 [.val ((eSl .md).pv c.1), .val (.fv (.one (.ref 0 0))), .val (Bo false), .val (.fv (.one (.ref 7 0))), .val (I (IntKind.i64.wrap ((i : Int) + 1)))] [.val (.blk 30 (mdG c.2.1)), .val (.blk 30 (mdG c.2.2))]))) (VT.leaf (Ex.exit 2) 74 [.val ((eSl .md).pv c.1), .val (.fv (.one (.ref 0 0))), .val (Bo false), .val (.fv (.one (.ref 7 0))), .val (I (i : Int))] [.val (.blk 30 (mdG c.2.1)), .val (.blk 30 (mdG c.2.2))])
theorem lb2V_eq (c : (List Fx.Md) × (Fx.Md) × (Fx.Md)) (i : Nat) (x : Unit) : viewT [0, 3, 4, 5, 7] [0, 7] (sexec Try.prog (tbl lb2L) (noLps) (lbN 1 Try.f7) (headSt 74 10 [0, 3, 4, 5, 7] [0, 7] (lb2Tv c i x) (lb2Mv c i x))) = lb2V c i x := by kernel_rfl
noncomputable def lb2T : St → Tree := forT 74 10 [0, 3, 4, 5, 7] [0, 7] lb2Dec (fun c => c.1.length) lb2Tv lb2Mv lb2Etv lb2Emv lb2Step () 2 .ret
theorem lb2A : AllSound Try.prog lb2L := .nil
theorem lb2Loop : LoopOk Try.prog lb2T (lbN 1 Try.f7) :=
  forT_ok mixed lb2A.tbl (noLoops (by kernel_rfl)) [0, 7] (bn := fun c => c.1.length ≤ maxLen) (inv := lb2Inv) lb2Dec_ok (fun _ _ => ⟨⟨.inr rfl, .inr rfl, .inr rfl, .inr rfl, .inr rfl, trivial⟩, ⟨.inr rfl, .inr rfl, trivial⟩, rfl, rfl, rfl⟩)
    (fun _ _ _ _ _ _ hr h1 h2 => by
      simp only [List.map_cons, lb2Tv, List.cons.injEq] at h1; exact len_le hr h1.1)
    (fun c i x hok hn hinv hi => ⟨_, lb2V_eq c i x, by
      refine ⟨fun h => ?_, fun h => ?_⟩
      · have h : i < c.1.length := by simpa using h
        refine ⟨⟨⟨by omega, by first | omega | (have := h; omega)⟩, trivial⟩, ?_⟩
        refine ⟨fun hb4 => ?_, fun hb4 => ?_⟩
        · exact ⟨rfl, .inr ⟨rfl, h, (), [], by unfold lb2Step; first | rfl | ((try dsimp only); (try rw [hb4]); rfl), ⟨.inl rfl, .inl rfl, .inr rfl, .inl rfl, .inl rfl, trivial⟩, ⟨.inl rfl, .inl rfl, trivial⟩, rfl, rfl, rfl⟩⟩
        · rw [wrap_succ h hn]
          exact ⟨rfl, (), [], h, by unfold lb2Step; first | rfl | ((try dsimp only); (try rw [hb4]); rfl), trivial, ⟨.inr rfl, .inr rfl, .inr rfl, .inr rfl, .inr rfl, trivial⟩, ⟨.inr rfl, .inr rfl, trivial⟩, rfl, rfl, rfl⟩
      · have h : ¬ i < c.1.length := by simpa using h
        exact ⟨rfl, .inl ⟨rfl, by omega, [], ⟨.inr rfl, .inr rfl, .inr rfl, .inr rfl, .inr rfl, trivial⟩, ⟨.inr rfl, .inr rfl, trivial⟩, rfl, rfl, rfl⟩⟩⟩)
theorem lFix : Sound Try.prog 8 (c3 (eSl .fix) eI eB eB (fun _ _ _ => true)) :=
  con (lps := fun _ => lofT) mixed (AllSound.cons cEx13 (.cons cOfFx (.cons rOfFx (.cons cInv (.cons rInv .nil))))) Try.func8 (by kernel_rfl) (by kernel_rfl) (oneLoop (lps := fun _ => lofT) (b := (lbN 0 Try.f8)) (by kernel_rfl) lofLoop) (g3 (fun l _ _ => [decide ((l.length : Int) > 8) = false → false = false, decide ((l.length : Int) > 8) = false → (0 : Int) = 0]) Fx.fixU (fun _ _ _ _ => ⟨fun _ => rfl, fun _ => rfl, trivial⟩) (fun l k b _ => Fx.fixU_true l k b) (fun _ _ _ => by kernel_rfl))
noncomputable def lLowLps : Nat → St → Tree := fun k => bif Nat.beq k (firstRegion (lbN 0 Try.f7)) then lb1T else lb2T
theorem lLow : Sound Try.prog 7 (c2 (eSl .md) eMd eB (fun _ _ => true)) :=
  con (lps := lLowLps) mixed (AllSound.cons cEx13 (.cons cComb .nil)) Try.func7 (by kernel_rfl) (by kernel_rfl) (loops2 (lps := lLowLps) (b := (lbN 0 Try.f7)) (b' := (lbN 1 Try.f7)) (by kernel_rfl) (by kernel_rfl) (by kernel_rfl)  lb1Loop lb2Loop) (g2 (fun l _ => Fx.lowQ l) (Fx.lowG Fx.comb) (fun l _ _ => Fx.lowQ_ok l) (fun l m _ => Fx.low_true l m) (fun _ _ => by kernel_rfl))
theorem argsFixIB : ∀ vs, ArgsAre Try.prog 8 [42, 33, 4] vs → ∃ ps, (c3 (eSl .fix) eI eB eB (fun _ _ _ => true)) vs = some (ps, .fv (.one (.bool true))) ∧ Conj ps := by
  intro vs h0
  obtain ⟨x0, r, rfl, h1⟩ := args_Slfix (by kernel_rfl) (by kernel_rfl) h0
  obtain ⟨x1, r, rfl, lo1, hi1, h2⟩ := args_int (k := .i64) (by kernel_rfl) (by kernel_rfl) h1
  obtain ⟨x2, r, rfl, h3⟩ := args_bool (by kernel_rfl) (by kernel_rfl) h2
  obtain rfl := args_nil h3
  exact ⟨_, rfl, trivial⟩
set_option maxRecDepth 100000 in
theorem liftedMassDataOfFixtures (os : Os) (started : os.Started) (H : Type) (enc : TypeId × Value → H) :
    ReturnsInHanded {} Try.checked os 8 .any (Rows.massDataOfFixturesSpec.pre6 enc Try.prog Try.f8 Rows.massDataOfFixturesRow.domain false) (Rows.massDataOfFixturesSpec.post enc Try.prog Try.f8 false true false false) := by
  refine returnsInHanded_of_change (C := Try.checked) own started (by kernel_rfl) Try.func8 (ChangeSpec.witness6 (enc := enc) (C := Try.checked) false ⟨#[], #[.slice none 0 0, .int .i64 0, .bool false], []⟩ 8 (by kernel_rfl) (by kernel_rfl) (by kernel_rfl) (by kernel_rfl)) ?_
  intro W base args ds gs before hval hW _ _
  exact law_contract (D := 8) (by kernel_rfl) (of_allOk (by kernel_rfl)) (tb := 4) (by kernel_rfl) (by kernel_rfl) rfl (fun ds h => by
    have h : ds.length = 3 := h
    match ds, h with
    | [d0, d1, d2], _ => rfl) lFix argsFixIB W base args ds gs before hval hW

theorem massDataOfFixtures_holds : Rows.MassDataOfFixturesSaid :=
  OpenClaim.holds_of_wide 8 Try.f8 rfl rfl rfl rfl rfl rfl rfl ⟨rfl, rfl, rfl, rfl, rfl⟩ rfl rfl rfl rfl rfl (by kernel_rfl) Try.func8 (by kernel_rfl)
    (of_decide_eq_true (by kernel_rfl)) (by unfold Func.isWrapper; first | (rw [if_pos (by decide +kernel)]; kernel_rfl) | (rw [if_neg (by decide +kernel)]; exact ⟨rfl, rfl⟩))
    (fun os started H enc _ => liftedMassDataOfFixtures os started H enc)

theorem argsSlmdMd : ∀ vs, ArgsAre Try.prog 4 [38, 30] vs → ∃ ps, (c2 (eSl .md) eMd eB (fun _ _ => true)) vs = some (ps, .fv (.one (.bool true))) ∧ Conj ps := by
  intro vs h0
  obtain ⟨x0, r, rfl, h1⟩ := args_Slmd (by kernel_rfl) (by kernel_rfl) h0
  obtain ⟨x1, r, rfl, h2⟩ := args_Md (by kernel_rfl) (by kernel_rfl) h1
  obtain rfl := args_nil h2
  exact ⟨_, rfl, trivial⟩
set_option maxRecDepth 100000 in
theorem liftedMassDataLowerBound (os : Os) (started : os.Started) (H : Type) (enc : TypeId × Value → H) :
    ReturnsInHanded {} Try.checked os 7 .any (Rows.massDataLowerBoundSpec.pre6 enc Try.prog Try.f7 Rows.massDataLowerBoundRow.domain false) (Rows.massDataLowerBoundSpec.post enc Try.prog Try.f7 false true false false) := by
  refine returnsInHanded_of_change (C := Try.checked) own started (by kernel_rfl) Try.func7 (ChangeSpec.witness6 (enc := enc) (C := Try.checked) false ⟨#[], #[.slice none 0 0, .agg #[.int .i64 0, .int .i64 0, .int .i64 0, .int .i64 0]], []⟩ 8 (by kernel_rfl) (by kernel_rfl) (by kernel_rfl) (by kernel_rfl)) ?_
  intro W base args ds gs before hval hW _ _
  exact law_contract (D := 4) (by kernel_rfl) (of_allOk (by kernel_rfl)) (tb := 4) (by kernel_rfl) (by kernel_rfl) rfl (fun ds h => by
    have h : ds.length = 2 := h
    match ds, h with
    | [d0, d1], _ => rfl) lLow argsSlmdMd W base args ds gs before hval hW

theorem massDataLowerBound_holds : Rows.MassDataLowerBoundSaid :=
  OpenClaim.holds_of_wide 7 Try.f7 rfl rfl rfl rfl rfl rfl rfl ⟨rfl, rfl, rfl, rfl, rfl⟩ rfl rfl rfl rfl rfl (by kernel_rfl) Try.func7 (by kernel_rfl)
    (of_decide_eq_true (by kernel_rfl)) (by unfold Func.isWrapper; first | (rw [if_pos (by decide +kernel)]; kernel_rfl) | (rw [if_neg (by decide +kernel)]; exact ⟨rfl, rfl⟩))
    (fun os started H enc _ => liftedMassDataLowerBound os started H enc)

end Go.Proofs.Ytdobgdmehdgmfaa
