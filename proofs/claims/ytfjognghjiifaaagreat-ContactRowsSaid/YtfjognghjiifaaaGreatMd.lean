/- The contracts of masses, program and reference. -/
import Derived.Test.YtfjognghjiifaaaGreatShp
import Derived.Test.YtfjognghjiifaaaGreatEngMd
open Go Go.Eng
namespace Go.Proofs.YtfjognghjiifaaaGreat
open Go.Fx (an orr)

theorem cMneg : Sound Tryz.prog 90 (c1 eMd eB Fx.mneg) :=
  con (lps := noLps) mixed .nil Tryz.func90 (by kernel_rfl) (by kernel_rfl) (noLoops (by kernel_rfl)) (k1 (fun _ => by kernel_rfl))
noncomputable def ixmL : List (FuncId × Contract) := [(90, c1 eMd eB Fx.mneg)]
def ixmTv (c : (List Fx.Md)) (i : Nat) (_x : Unit) : List TV := [.val ((eSl .md).pv c), .val ((eFn 90).pv ()), .val (I 0), .val ((eSl .md).pv c), .val (I c.length), .val (I (i : Int))]
def ixmMv (_c : (List Fx.Md)) (_i : Nat) (_x : Unit) : List MRes := []
def ixmEtv (_c : (List Fx.Md)) (e : Int) : List TV := [.any, .any, .val (I e), .any, .any, .any]
def ixmEmv (_c : (List Fx.Md)) (_e : Int) : List MRes := []
def ixmDec : List TV → List MRes → Option (List Prop × ((List Fx.Md)) × (Unit))
  | [.val (.fv (.one (.slc false ⟨.md, l⟩))), .val v, .val (I r), .val (.fv (.one (.slc false ⟨.md, m⟩))), .val (I n), .val (I i)], [] => some ([v = (eFn 90).pv (), r = 0, m = l, n = l.length, i = 0], (l), ())
  | _, _ => none
def ixmOk (_c : (List Fx.Md)) : Prop := True
def ixmInv (_c : (List Fx.Md)) (_i : Nat) (_x : Unit) : Prop := True
theorem ixmDec_ok (ts : List TV) (ms : List MRes) (ps : List Prop) (c : (List Fx.Md)) (x : Unit) (h : ixmDec ts ms = some (ps, c, x)) (hp : Conj ps) : ts = ixmTv c 0 x ∧ ms = ixmMv c 0 x ∧ ixmOk c ∧ ixmInv c 0 x := by
  unfold ixmDec at h
  split at h
  · cases h
    obtain ⟨rfl, rfl, rfl, rfl, rfl, _⟩ := hp
    exact ⟨rfl, rfl, trivial, trivial⟩
  · cases h
def ixmStep (c : (List Fx.Md)) (i : Nat) (_x : Unit) : Sum (Unit) (Int) := bif Fx.mneg (c.getD i ⟨0, 0, 0, 0⟩) then .inr (i : Int) else .inl ()
def ixmV (c : (List Fx.Md)) (i : Nat) (_x : Unit) : VT := VT.ite (decide ((i : Int) < (c.length : Int))) (VT.pre [0 ≤ (i : Int) ∧ (i : Int) < ((c).length : Int)] (VT.ite (Fx.mneg (c.getD i ⟨0, 0, 0, 0⟩)) (VT.leaf (Ex.ret) 19 [.val ((eSl .md).pv c), .val ((eFn 90).pv ()), .val (I (i : Int)), .val ((eSl .md).pv c), .val (I c.length), .val (I (i : Int))] []) (VT.leaf Ex.norm 19 [.val ((eSl .md).pv c), .val ((eFn 90).pv ()), .val (I 0), .val ((eSl .md).pv c), .val (I c.length), .val (I (IntKind.i64.wrap ((i : Int) + 1)))] []))) (VT.leaf (Ex.exit 0) 19 [.val ((eSl .md).pv c), .val ((eFn 90).pv ()), .val (I 0), .val ((eSl .md).pv c), .val (I c.length), .val (I (i : Int))] [])
theorem ixmV_eq (c : (List Fx.Md)) (i : Nat) (x : Unit) : viewT [0, 1, 4, 6, 7, 8] [] (sexec Tryz.prog (tbl ixmL) (noLps) (lbN 0 Tryz.f105) (headSt 19 4 [0, 1, 4, 6, 7, 8] [] (ixmTv c i x) (ixmMv c i x))) = ixmV c i x := by kernel_rfl
noncomputable def ixmT : St → Tree := forT 19 4 [0, 1, 4, 6, 7, 8] [] ixmDec (fun c => c.length) ixmTv ixmMv ixmEtv ixmEmv ixmStep 0 0 .ret
theorem ixmA : AllSound Tryz.prog ixmL := (.cons cMneg .nil)
theorem ixmLoop : LoopOk Tryz.prog ixmT (lbN 0 Tryz.f105) :=
  forT_ok mixed ixmA.tbl (noLoops (by kernel_rfl)) [] (bn := fun c => c.length ≤ maxLen) (inv := ixmInv) ixmDec_ok (fun _ _ => ⟨⟨.inr rfl, .inr rfl, .inr rfl, .inr rfl, .inr rfl, .inr rfl, trivial⟩, trivial, rfl, rfl, rfl⟩)
    (fun _ _ _ _ _ _ hr h1 h2 => by
      simp only [List.map_cons, ixmTv, List.cons.injEq] at h1; exact len_le hr h1.1)
    (fun c i x hok hn hinv hi => ⟨_, ixmV_eq c i x, by
      refine ⟨fun h => ?_, fun h => ?_⟩
      · have h : i < c.length := by simpa using h
        refine ⟨⟨⟨by omega, by first | omega | (have := h; omega)⟩, trivial⟩, ?_⟩
        refine ⟨fun hb2 => ?_, fun hb2 => ?_⟩
        · exact ⟨rfl, .inr ⟨rfl, h, (i : Int), [], by unfold ixmStep; first | rfl | ((try dsimp only); (try rw [hb2]); rfl), ⟨.inl rfl, .inl rfl, .inr rfl, .inl rfl, .inl rfl, .inl rfl, trivial⟩, trivial, rfl, rfl, rfl⟩⟩
        · rw [wrap_succ h hn]
          exact ⟨rfl, (), [], h, by unfold ixmStep; first | rfl | ((try dsimp only); (try rw [hb2]); rfl), trivial, ⟨.inr rfl, .inr rfl, .inr rfl, .inr rfl, .inr rfl, .inr rfl, trivial⟩, trivial, rfl, rfl, rfl⟩
      · have h : ¬ i < c.length := by simpa using h
        exact ⟨rfl, .inl ⟨rfl, by omega, [], ⟨.inr rfl, .inr rfl, .inr rfl, .inr rfl, .inr rfl, .inr rfl, trivial⟩, trivial, rfl, rfl, rfl⟩⟩⟩)
theorem cIxm : Sound Tryz.prog 105 (c2 (eSl .md) (eFn 90) eI Fx.negIdx) :=
  con (lps := fun _ => ixmT) mixed (AllSound.cons cMneg .nil) Tryz.func105 (by kernel_rfl) (by kernel_rfl) (oneLoop (lps := fun _ => ixmT) (b := (lbN 0 Tryz.f105)) (by kernel_rfl) ixmLoop) (g2 (fun l _ => [(eFn 90).pv () = (eFn 90).pv (), (0 : Int) = 0, l = l, (l.length : Int) = l.length, (0 : Int) = 0]) Fx.negIdx (fun _ _ _ => ⟨rfl, rfl, rfl, rfl, rfl, trivial⟩) (fun _ _ _ => rfl) (fun _ _ => by kernel_rfl))
theorem cAnym : Sound Tryz.prog 89 (c2 (eSl .md) (eFn 90) eB Fx.negAny2) :=
  con (lps := noLps) mixed (.cons cIxm .nil) Tryz.func89 (by kernel_rfl) (by kernel_rfl) (noLoops (by kernel_rfl)) (g2 (fun _ _ => []) (fun l u => decide (Fx.negIdx l u ≥ 0)) (fun _ _ _ => trivial) (fun l u _ => Fx.neg_any l u) (fun _ _ => by kernel_rfl))
theorem cCirc : Sound Tryz.prog 86 (p2 eSh eI eMd (fun s _ => [1 ≤ s.vs.length]) Fx.circ) :=
  con (lps := noLps) mixed (.cons cMul (.cons cRdiv .nil)) Tryz.func86 (by kernel_rfl) (by kernel_rfl) (noLoops (by kernel_rfl)) (g2 (fun s _ => [0 ≤ (0 : Int) ∧ (0 : Int) < (s.vs.length : Int)]) Fx.circ (fun s _ h => ⟨⟨by omega, by have := h.1; omega⟩, trivial⟩) (fun _ _ _ => rfl) (fun _ _ => by kernel_rfl))
theorem cCaps : Sound Tryz.prog 87 (p2 eSh eI eMd (fun s _ => [2 ≤ s.vs.length]) Fx.caps) :=
  con (lps := noLps) mixed (.cons cMul (.cons cRdiv (.cons cVsub (.cons cVlen (.cons cAdd (.cons cVlerp .nil)))))) Tryz.func87 (by kernel_rfl) (by kernel_rfl) (noLoops (by kernel_rfl)) (g2 (fun s _ => [0 ≤ (1 : Int) ∧ (1 : Int) < (s.vs.length : Int), 0 ≤ (0 : Int) ∧ (0 : Int) < (s.vs.length : Int), 0 ≤ (0 : Int) ∧ (0 : Int) < (s.vs.length : Int), 0 ≤ (1 : Int) ∧ (1 : Int) < (s.vs.length : Int)]) Fx.caps (fun s _ h => ⟨⟨by omega, by have := h.1; omega⟩, ⟨by omega, by have := h.1; omega⟩, ⟨by omega, by have := h.1; omega⟩, ⟨by omega, by have := h.1; omega⟩, trivial⟩) (fun _ _ _ => rfl) (fun _ _ => by kernel_rfl))
noncomputable def polL : List (FuncId × Contract) := [(35, c2 eV eV eV Fx.vsub), (34, c2 eV eV eI Fx.vcross), (62, c2 eV eV eI Fx.vdot)]
def polTv (c : (List Fx.Vec) × (Fx.Vec) × (Int)) (i : Nat) (x : (Int) × (Int) × (Fx.Vec)) : List TV := [.val (.fv (.one (.ref 1 0))), .val (I c.2.2), .val (.fv (.one (.ref 10 0))), .val (I x.1), .val (I x.2.1), .val (.fv (.one (.ref 25 0))), .val ((eSl .vec).pv c.1), .val (I c.1.length), .val (I (i : Int))]
def polMv (c : (List Fx.Vec) × (Fx.Vec) × (Int)) (_i : Nat) (x : (Int) × (Int) × (Fx.Vec)) : List MRes := [.val (.blk 79 [.int .i64 0, .int .i64 0, .int .i64 0, .int .i64 0]), .val (.blk 25 [.int .i64 c.2.1.x, .int .i64 c.2.1.y]), .val (.blk 25 [.int .i64 x.2.2.x, .int .i64 x.2.2.y])]
def polDec : List TV → List MRes → Option (List Prop × ((List Fx.Vec) × (Fx.Vec) × (Int)) × ((Int) × (Int) × (Fx.Vec)))
  | [.val (.fv (.one (.ref 1 0))), .val (I m), .val (.fv (.one (.ref 10 0))), .val (I a), .val (I b), .val (.fv (.one (.ref 25 0))), .val (.fv (.one (.slc false ⟨.vec, l⟩))), .val (I n), .val (I i)], [.val (.blk 79 [.int .i64 0, .int .i64 0, .int .i64 0, .int .i64 0]), .val (.blk 25 [.int .i64 ox, .int .i64 oy]), .val (.blk 25 [.int .i64 ux, .int .i64 uy])] => some ([n = l.length, i = 0], (l, ⟨ox, oy⟩, m), (a, b, ⟨ux, uy⟩))
  | _, _ => none
def polOk (_c : (List Fx.Vec) × (Fx.Vec) × (Int)) : Prop := True
def polInv (_c : (List Fx.Vec) × (Fx.Vec) × (Int)) (_i : Nat) (_x : (Int) × (Int) × (Fx.Vec)) : Prop := True
theorem polDec_ok (ts : List TV) (ms : List MRes) (ps : List Prop) (c : (List Fx.Vec) × (Fx.Vec) × (Int)) (x : (Int) × (Int) × (Fx.Vec)) (h : polDec ts ms = some (ps, c, x)) (hp : Conj ps) : ts = polTv c 0 x ∧ ms = polMv c 0 x ∧ polOk c ∧ polInv c 0 x := by
  unfold polDec at h
  split at h
  · cases h
    obtain ⟨rfl, rfl, _⟩ := hp
    exact ⟨rfl, rfl, trivial, trivial⟩
  · cases h
def polStep (c : (List Fx.Vec) × (Fx.Vec) × (Int)) (i : Nat) (x : (Int) × (Int) × (Fx.Vec)) : (Int) × (Int) × (Fx.Vec) := ((Fx.w64 (x.1 + Fx.ptm x.2.2 (Fx.vsub (c.1.getD i ⟨0, 0⟩) c.2.1))), (Fx.w64 (x.2.1 + Fx.vcross x.2.2 (Fx.vsub (c.1.getD i ⟨0, 0⟩) c.2.1))), (Fx.vsub (c.1.getD i ⟨0, 0⟩) c.2.1))
def polV (c : (List Fx.Vec) × (Fx.Vec) × (Int)) (i : Nat) (x : (Int) × (Int) × (Fx.Vec)) : VT := VT.ite (decide ((i : Int) < (c.1.length : Int))) (VT.pre [0 ≤ (i : Int) ∧ (i : Int) < ((c.1).length : Int)] (VT.leaf Ex.norm 79 [.val (.fv (.one (.ref 1 0))), .val (I c.2.2), .val (.fv (.one (.ref 10 0))), .val (I (Fx.w64 (x.1 + Fx.ptm x.2.2 (Fx.vsub (c.1.getD i ⟨0, 0⟩) c.2.1)))), .val (I (Fx.w64 (x.2.1 + Fx.vcross x.2.2 (Fx.vsub (c.1.getD i ⟨0, 0⟩) c.2.1)))), .val (.fv (.one (.ref 25 0))), .val ((eSl .vec).pv c.1), .val (I c.1.length), .val (I (IntKind.i64.wrap ((i : Int) + 1)))] [.val (.blk 79 [.int .i64 0, .int .i64 0, .int .i64 0, .int .i64 0]), .val (.blk 25 [.int .i64 c.2.1.x, .int .i64 c.2.1.y]), .val (.blk 25 [.int .i64 (Fx.vsub (c.1.getD i ⟨0, 0⟩) c.2.1).x, .int .i64 (Fx.vsub (c.1.getD i ⟨0, 0⟩) c.2.1).y])])) (VT.leaf (Ex.exit 0) 79 [.val (.fv (.one (.ref 1 0))), .val (I c.2.2), .val (.fv (.one (.ref 10 0))), .val (I x.1), .val (I x.2.1), .val (.fv (.one (.ref 25 0))), .val ((eSl .vec).pv c.1), .val (I c.1.length), .val (I (i : Int))] [.val (.blk 79 [.int .i64 0, .int .i64 0, .int .i64 0, .int .i64 0]), .val (.blk 25 [.int .i64 c.2.1.x, .int .i64 c.2.1.y]), .val (.blk 25 [.int .i64 x.2.2.x, .int .i64 x.2.2.y])])
theorem polV_eq (c : (List Fx.Vec) × (Fx.Vec) × (Int)) (i : Nat) (x : (Int) × (Int) × (Fx.Vec)) : viewT [4, 5, 6, 7, 8, 9, 33, 34, 35] [1, 10, 25] (sexec Tryz.prog (tbl polL) (noLps) (lbN 0 Tryz.f88) (headSt 79 31 [4, 5, 6, 7, 8, 9, 33, 34, 35] [1, 10, 25] (polTv c i x) (polMv c i x))) = polV c i x := by kernel_rfl
noncomputable def polT : St → Tree := forT0 79 31 [4, 5, 6, 7, 8, 9, 33, 34, 35] [1, 10, 25] polDec (fun c => c.1.length) polTv polMv polStep 0
theorem polA : AllSound Tryz.prog polL := (.cons cVsub (.cons cVcross (.cons cVdot .nil)))
theorem polLoop : LoopOk Tryz.prog polT (lbN 0 Tryz.f88) :=
  forT0_ok mixed polA.tbl (noLoops (by kernel_rfl)) [1, 10, 25] (bn := fun c => c.1.length ≤ maxLen) (inv := polInv) polDec_ok (fun _ _ => ⟨⟨.inr rfl, .inr rfl, .inr rfl, .inr rfl, .inr rfl, .inr rfl, .inr rfl, .inr rfl, .inr rfl, trivial⟩, ⟨.inr rfl, .inr rfl, .inr rfl, trivial⟩, rfl, rfl, rfl⟩)
    (fun _ _ _ _ _ _ hr h1 h2 => by
      simp only [List.map_cons, polTv, List.cons.injEq] at h1; exact len_le hr h1.2.2.2.2.2.2.1)
    (fun c i x hok hn hinv hi => ⟨_, polV_eq c i x, by
      refine ⟨fun h => ?_, fun h => ?_⟩
      · have h : i < c.1.length := by simpa using h
        refine ⟨⟨⟨by omega, by first | omega | (have := h; omega)⟩, trivial⟩, ?_⟩
        rw [wrap_succ h hn]
        exact ⟨rfl, ((Fx.w64 (x.1 + Fx.ptm x.2.2 (Fx.vsub (c.1.getD i ⟨0, 0⟩) c.2.1))), (Fx.w64 (x.2.1 + Fx.vcross x.2.2 (Fx.vsub (c.1.getD i ⟨0, 0⟩) c.2.1))), (Fx.vsub (c.1.getD i ⟨0, 0⟩) c.2.1)), [], h, by unfold polStep; rfl, trivial, ⟨.inr rfl, .inr rfl, .inr rfl, .inr rfl, .inr rfl, .inr rfl, .inr rfl, .inr rfl, .inr rfl, trivial⟩, ⟨.inr rfl, .inr rfl, .inr rfl, trivial⟩, rfl, rfl, rfl⟩
      · have h : ¬ i < c.1.length := by simpa using h
        exact ⟨rfl, .inl ⟨rfl, by omega, [], ⟨.inr rfl, .inr rfl, .inr rfl, .inr rfl, .inr rfl, .inr rfl, .inr rfl, .inr rfl, .inr rfl, trivial⟩, ⟨.inr rfl, .inr rfl, .inr rfl, trivial⟩, rfl, rfl, rfl⟩⟩⟩)
noncomputable def rpiL : List (FuncId × Contract) := [(42, c2 eV eV eV Fx.vsub), (41, c2 eV eV eI Fx.vcross), (71, c2 eV eV eI Fx.vdot)]
def rpiTv (c : (List Fx.Vec) × (Fx.Vec) × (Int)) (i : Nat) (x : (Int) × (Int)) : List TV := [.val ((eSl .vec).pv c.1), .val (I c.2.2), .val (.fv (.one (.ref 0 0))), .val (I x.1), .val (I x.2), .val (I (i : Int))]
def rpiMv (c : (List Fx.Vec) × (Fx.Vec) × (Int)) (_i : Nat) (_x : (Int) × (Int)) : List MRes := [.val (.blk 25 [.int .i64 c.2.1.x, .int .i64 c.2.1.y])]
def rpiDec : List TV → List MRes → Option (List Prop × ((List Fx.Vec) × (Fx.Vec) × (Int)) × ((Int) × (Int)))
  | [.val (.fv (.one (.slc false ⟨.vec, l⟩))), .val (I m), .val (.fv (.one (.ref 0 0))), .val (I a), .val (I b), .val (I i)], [.val (.blk 25 [.int .i64 ox, .int .i64 oy])] => some ([i = 0], (l, ⟨ox, oy⟩, m), (a, b))
  | _, _ => none
def rpiOk (_c : (List Fx.Vec) × (Fx.Vec) × (Int)) : Prop := True
def rpiInv (_c : (List Fx.Vec) × (Fx.Vec) × (Int)) (_i : Nat) (_x : (Int) × (Int)) : Prop := True
theorem rpiDec_ok (ts : List TV) (ms : List MRes) (ps : List Prop) (c : (List Fx.Vec) × (Fx.Vec) × (Int)) (x : (Int) × (Int)) (h : rpiDec ts ms = some (ps, c, x)) (hp : Conj ps) : ts = rpiTv c 0 x ∧ ms = rpiMv c 0 x ∧ rpiOk c ∧ rpiInv c 0 x := by
  unfold rpiDec at h
  split at h
  · cases h
    obtain ⟨rfl, _⟩ := hp
    exact ⟨rfl, rfl, trivial, trivial⟩
  · cases h
def rpiStep (c : (List Fx.Vec) × (Fx.Vec) × (Int)) (i : Nat) (x : (Int) × (Int)) : (Int) × (Int) := ((Fx.w64 (x.1 + Fx.ptm (Fx.vsub (c.1.getD i ⟨0, 0⟩) c.2.1) (Fx.vsub (c.1.getD (Fx.nxt c.1 i).toNat ⟨0, 0⟩) c.2.1))), (Fx.w64 (x.2 + Fx.vcross (Fx.vsub (c.1.getD i ⟨0, 0⟩) c.2.1) (Fx.vsub (c.1.getD (Fx.nxt c.1 i).toNat ⟨0, 0⟩) c.2.1))))
def rpiV (c : (List Fx.Vec) × (Fx.Vec) × (Int)) (i : Nat) (x : (Int) × (Int)) : VT := VT.ite (decide ((i : Int) < (c.1.length : Int))) (VT.pre [0 ≤ (i : Int) ∧ (i : Int) < ((c.1).length : Int)] (VT.pre [(c.1.length : Int) ≠ 0, 0 ≤ Fx.nxt c.1 i ∧ Fx.nxt c.1 i < (c.1.length : Int)] (VT.leaf Ex.norm 64 [.val ((eSl .vec).pv c.1), .val (I c.2.2), .val (.fv (.one (.ref 0 0))), .val (I (Fx.w64 (x.1 + Fx.ptm (Fx.vsub (c.1.getD i ⟨0, 0⟩) c.2.1) (Fx.vsub (c.1.getD (Fx.nxt c.1 i).toNat ⟨0, 0⟩) c.2.1)))), .val (I (Fx.w64 (x.2 + Fx.vcross (Fx.vsub (c.1.getD i ⟨0, 0⟩) c.2.1) (Fx.vsub (c.1.getD (Fx.nxt c.1 i).toNat ⟨0, 0⟩) c.2.1)))), .val (I (IntKind.i64.wrap ((i : Int) + 1)))] [.val (.blk 25 [.int .i64 c.2.1.x, .int .i64 c.2.1.y])]))) (VT.leaf (Ex.exit 0) 64 [.val ((eSl .vec).pv c.1), .val (I c.2.2), .val (.fv (.one (.ref 0 0))), .val (I x.1), .val (I x.2), .val (I (i : Int))] [.val (.blk 25 [.int .i64 c.2.1.x, .int .i64 c.2.1.y])])
theorem rpiV_eq (c : (List Fx.Vec) × (Fx.Vec) × (Int)) (i : Nat) (x : (Int) × (Int)) : viewT [0, 2, 4, 7, 8, 9] [0] (sexec Tryz.prog (tbl rpiL) (noLps) (lbN 0 Tryz.f114) (headSt 64 5 [0, 2, 4, 7, 8, 9] [0] (rpiTv c i x) (rpiMv c i x))) = rpiV c i x := by kernel_rfl
noncomputable def rpiT : St → Tree := forT0 64 5 [0, 2, 4, 7, 8, 9] [0] rpiDec (fun c => c.1.length) rpiTv rpiMv rpiStep 0
theorem rpiA : AllSound Tryz.prog rpiL := (.cons rVsub (.cons rVcross (.cons rVdot .nil)))
theorem rpiLoop : LoopOk Tryz.prog rpiT (lbN 0 Tryz.f114) :=
  forT0_ok mixed rpiA.tbl (noLoops (by kernel_rfl)) [0] (bn := fun c => c.1.length ≤ maxLen) (inv := rpiInv) rpiDec_ok (fun _ _ => ⟨⟨.inr rfl, .inr rfl, .inr rfl, .inr rfl, .inr rfl, .inr rfl, trivial⟩, ⟨.inr rfl, trivial⟩, rfl, rfl, rfl⟩)
    (fun _ _ _ _ _ _ hr h1 h2 => by
      simp only [List.map_cons, rpiTv, List.cons.injEq] at h1; exact len_le hr h1.1)
    (fun c i x hok hn hinv hi => ⟨_, rpiV_eq c i x, by
      refine ⟨fun h => ?_, fun h => ?_⟩
      · have h : i < c.1.length := by simpa using h
        refine ⟨⟨⟨by omega, by first | omega | (have := h; omega)⟩, trivial⟩, ?_⟩
        refine ⟨⟨by omega, Fx.nxt_ok h hn, trivial⟩, ?_⟩
        rw [wrap_succ h hn]
        exact ⟨rfl, ((Fx.w64 (x.1 + Fx.ptm (Fx.vsub (c.1.getD i ⟨0, 0⟩) c.2.1) (Fx.vsub (c.1.getD (Fx.nxt c.1 i).toNat ⟨0, 0⟩) c.2.1))), (Fx.w64 (x.2 + Fx.vcross (Fx.vsub (c.1.getD i ⟨0, 0⟩) c.2.1) (Fx.vsub (c.1.getD (Fx.nxt c.1 i).toNat ⟨0, 0⟩) c.2.1)))), [], h, by unfold rpiStep; rfl, trivial, ⟨.inr rfl, .inr rfl, .inr rfl, .inr rfl, .inr rfl, .inr rfl, trivial⟩, ⟨.inr rfl, trivial⟩, rfl, rfl, rfl⟩
      · have h : ¬ i < c.1.length := by simpa using h
        exact ⟨rfl, .inl ⟨rfl, by omega, [], ⟨.inr rfl, .inr rfl, .inr rfl, .inr rfl, .inr rfl, .inr rfl, trivial⟩, ⟨.inr rfl, trivial⟩, rfl, rfl, rfl⟩⟩⟩)
noncomputable def cm1L : List (FuncId × Contract) := [(53, f1 Fx.sat), (39, f2 Fx.add)]
def cm1Tv (c : (List Fx.Md)) (i : Nat) (x : (Int) × (Int) × (Int) × (Int)) : List TV := [.val ((eSl .md).pv c), .val (.fv (.one (.ref 0 0))), .val (.fv (.one (.ref 8 0))), .val (I x.2.1), .val (I x.2.2.1), .val (I x.2.2.2), .val ((eSl .md).pv c), .val (I c.length), .val (I (i : Int))]
def cm1Mv (_c : (List Fx.Md)) (_i : Nat) (x : (Int) × (Int) × (Int) × (Int)) : List MRes := [.val (.blk 79 [.int .i64 0, .int .i64 0, .int .i64 0, .int .i64 0]), .val (.blk 79 [.int .i64 x.1, .int .i64 0, .int .i64 0, .int .i64 0])]
def cm1Dec : List TV → List MRes → Option (List Prop × ((List Fx.Md)) × ((Int) × (Int) × (Int) × (Int)))
  | [.val (.fv (.one (.slc false ⟨.md, l⟩))), .val (.fv (.one (.ref 0 0))), .val (.fv (.one (.ref 8 0))), .val (I m), .val (I x), .val (I y), .val (.fv (.one (.slc false ⟨.md, l2⟩))), .val (I n), .val (I i)], [.val (.blk 79 [.int .i64 0, .int .i64 0, .int .i64 0, .int .i64 0]), .val (.blk 79 [.int .i64 g, .int .i64 0, .int .i64 0, .int .i64 0])] => some ([l2 = l, n = l.length, i = 0], (l), (g, m, x, y))
  | _, _ => none
def cm1Ok (_c : (List Fx.Md)) : Prop := True
def cm1Inv (_c : (List Fx.Md)) (_i : Nat) (_x : (Int) × (Int) × (Int) × (Int)) : Prop := True
theorem cm1Dec_ok (ts : List TV) (ms : List MRes) (ps : List Prop) (c : (List Fx.Md)) (x : (Int) × (Int) × (Int) × (Int)) (h : cm1Dec ts ms = some (ps, c, x)) (hp : Conj ps) : ts = cm1Tv c 0 x ∧ ms = cm1Mv c 0 x ∧ cm1Ok c ∧ cm1Inv c 0 x := by
  unfold cm1Dec at h
  split at h
  · cases h
    obtain ⟨rfl, rfl, rfl, _⟩ := hp
    exact ⟨rfl, rfl, trivial, trivial⟩
  · cases h
def cm1Step (c : (List Fx.Md)) (i : Nat) (x : (Int) × (Int) × (Int) × (Int)) : (Int) × (Int) × (Int) × (Int) := ((Fx.add x.1 (Fx.sat (c.getD i ⟨0, 0, 0, 0⟩).m)), (Fx.w64 (x.2.1 + Fx.sat (c.getD i ⟨0, 0, 0, 0⟩).m)), (Fx.w64 (x.2.2.1 + Fx.w64 (Fx.sat (c.getD i ⟨0, 0, 0, 0⟩).m * Fx.sat (c.getD i ⟨0, 0, 0, 0⟩).cx))), (Fx.w64 (x.2.2.2 + Fx.w64 (Fx.sat (c.getD i ⟨0, 0, 0, 0⟩).m * Fx.sat (c.getD i ⟨0, 0, 0, 0⟩).cy))))
def cm1V (c : (List Fx.Md)) (i : Nat) (x : (Int) × (Int) × (Int) × (Int)) : VT := VT.ite (decide ((i : Int) < (c.length : Int))) (VT.pre [0 ≤ (i : Int) ∧ (i : Int) < ((c).length : Int)] (VT.leaf Ex.norm 91 [.val ((eSl .md).pv c), .val (.fv (.one (.ref 0 0))), .val (.fv (.one (.ref 8 0))), .val (I (Fx.w64 (x.2.1 + Fx.sat (c.getD i ⟨0, 0, 0, 0⟩).m))), .val (I (Fx.w64 (x.2.2.1 + Fx.w64 (Fx.sat (c.getD i ⟨0, 0, 0, 0⟩).m * Fx.sat (c.getD i ⟨0, 0, 0, 0⟩).cx)))), .val (I (Fx.w64 (x.2.2.2 + Fx.w64 (Fx.sat (c.getD i ⟨0, 0, 0, 0⟩).m * Fx.sat (c.getD i ⟨0, 0, 0, 0⟩).cy)))), .val ((eSl .md).pv c), .val (I c.length), .val (I (IntKind.i64.wrap ((i : Int) + 1)))] [.val (.blk 79 [.int .i64 0, .int .i64 0, .int .i64 0, .int .i64 0]), .val (.blk 79 [.int .i64 (Fx.add x.1 (Fx.sat (c.getD i ⟨0, 0, 0, 0⟩).m)), .int .i64 0, .int .i64 0, .int .i64 0])])) (VT.leaf (Ex.exit 0) 91 [.val ((eSl .md).pv c), .val (.fv (.one (.ref 0 0))), .val (.fv (.one (.ref 8 0))), .val (I x.2.1), .val (I x.2.2.1), .val (I x.2.2.2), .val ((eSl .md).pv c), .val (I c.length), .val (I (i : Int))] [.val (.blk 79 [.int .i64 0, .int .i64 0, .int .i64 0, .int .i64 0]), .val (.blk 79 [.int .i64 x.1, .int .i64 0, .int .i64 0, .int .i64 0])])
theorem cm1V_eq (c : (List Fx.Md)) (i : Nat) (x : (Int) × (Int) × (Int) × (Int)) : viewT [0, 2, 3, 4, 5, 6, 21, 22, 23] [0, 8] (sexec Tryz.prog (tbl cm1L) (noLps) (lbN 0 Tryz.f77) (headSt 91 15 [0, 2, 3, 4, 5, 6, 21, 22, 23] [0, 8] (cm1Tv c i x) (cm1Mv c i x))) = cm1V c i x := by kernel_rfl
noncomputable def cm1T : St → Tree := forT0 91 15 [0, 2, 3, 4, 5, 6, 21, 22, 23] [0, 8] cm1Dec (fun c => c.length) cm1Tv cm1Mv cm1Step 0
theorem cm1A : AllSound Tryz.prog cm1L := (.cons cSat (.cons cAdd .nil))
theorem cm1Loop : LoopOk Tryz.prog cm1T (lbN 0 Tryz.f77) :=
  forT0_ok mixed cm1A.tbl (noLoops (by kernel_rfl)) [0, 8] (bn := fun c => c.length ≤ maxLen) (inv := cm1Inv) cm1Dec_ok (fun _ _ => ⟨⟨.inr rfl, .inr rfl, .inr rfl, .inr rfl, .inr rfl, .inr rfl, .inr rfl, .inr rfl, .inr rfl, trivial⟩, ⟨.inr rfl, .inr rfl, trivial⟩, rfl, rfl, rfl⟩)
    (fun _ _ _ _ _ _ hr h1 h2 => by
      simp only [List.map_cons, cm1Tv, List.cons.injEq] at h1; exact len_le hr h1.1)
    (fun c i x hok hn hinv hi => ⟨_, cm1V_eq c i x, by
      refine ⟨fun h => ?_, fun h => ?_⟩
      · have h : i < c.length := by simpa using h
        refine ⟨⟨⟨by omega, by first | omega | (have := h; omega)⟩, trivial⟩, ?_⟩
        rw [wrap_succ h hn]
        exact ⟨rfl, ((Fx.add x.1 (Fx.sat (c.getD i ⟨0, 0, 0, 0⟩).m)), (Fx.w64 (x.2.1 + Fx.sat (c.getD i ⟨0, 0, 0, 0⟩).m)), (Fx.w64 (x.2.2.1 + Fx.w64 (Fx.sat (c.getD i ⟨0, 0, 0, 0⟩).m * Fx.sat (c.getD i ⟨0, 0, 0, 0⟩).cx))), (Fx.w64 (x.2.2.2 + Fx.w64 (Fx.sat (c.getD i ⟨0, 0, 0, 0⟩).m * Fx.sat (c.getD i ⟨0, 0, 0, 0⟩).cy)))), [], h, by unfold cm1Step; rfl, trivial, ⟨.inr rfl, .inr rfl, .inr rfl, .inr rfl, .inr rfl, .inr rfl, .inr rfl, .inr rfl, .inr rfl, trivial⟩, ⟨.inr rfl, .inr rfl, trivial⟩, rfl, rfl, rfl⟩
      · have h : ¬ i < c.length := by simpa using h
        exact ⟨rfl, .inl ⟨rfl, by omega, [], ⟨.inr rfl, .inr rfl, .inr rfl, .inr rfl, .inr rfl, .inr rfl, .inr rfl, .inr rfl, .inr rfl, trivial⟩, ⟨.inr rfl, .inr rfl, trivial⟩, rfl, rfl, rfl⟩⟩⟩)
end Go.Proofs.YtfjognghjiifaaaGreat
