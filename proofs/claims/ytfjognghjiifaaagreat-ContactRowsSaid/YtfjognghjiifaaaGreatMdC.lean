/- The contracts of masses, third part. -/
import Derived.Test.YtfjognghjiifaaaGreatMdB
open Go Go.Eng
namespace Go.Proofs.YtfjognghjiifaaaGreat
open Go.Fx (an orr)

noncomputable def fofL : List (FuncId × Contract) := [(76, c2 eSh eI eMd Fx.ofSh)]
def fofTv (c : (List Fx.Fix)) (i : Nat) (_x : (List Fx.Md)) : List TV := [.val (.fv (.one (.ref 0 0))), .val (.fv (.one (.own 4))), .val ((eSl .fix).pv c), .val (I c.length), .val (I (i : Int))]
def fofMv (_c : (List Fx.Fix)) (_i : Nat) (x : (List Fx.Md)) : List MRes := [.val (.blk 79 [.int .i64 0, .int .i64 0, .int .i64 0, .int .i64 0]), .val (.row 79 ⟨.md, x⟩)]
def fofDec : List TV → List MRes → Option (List Prop × ((List Fx.Fix)) × ((List Fx.Md)))
  | [.val (.fv (.one (.ref 0 0))), .val (.fv (.one (.own 4))), .val (.fv (.one (.slc false ⟨.fix, l⟩))), .val (I n), .val (I i)], [.val (.blk 79 [.int .i64 0, .int .i64 0, .int .i64 0, .int .i64 0]), .val (.row 79 ⟨.md, t⟩)] => some ([t = [], n = l.length, i = 0, l.length ≤ 8], (l), [])
  | _, _ => none
def fofOk (c : (List Fx.Fix)) : Prop := c.length ≤ 8
def fofInv (_c : (List Fx.Fix)) (i : Nat) (x : (List Fx.Md)) : Prop := x.length ≤ i
theorem fofDec_ok (ts : List TV) (ms : List MRes) (ps : List Prop) (c : (List Fx.Fix)) (x : (List Fx.Md)) (h : fofDec ts ms = some (ps, c, x)) (hp : Conj ps) : ts = fofTv c 0 x ∧ ms = fofMv c 0 x ∧ fofOk c ∧ fofInv c 0 x := by
  unfold fofDec at h
  split at h
  · cases h
    obtain ⟨rfl, rfl, rfl, hok, _⟩ := hp
    exact ⟨rfl, rfl, hok, (Nat.le_refl 0)⟩
  · cases h
def fofStep (c : (List Fx.Fix)) (i : Nat) (x : (List Fx.Md)) : (List Fx.Md) := bif !(c.getD i Fx.fx0).sen then ((x ++ [Fx.ofSh (c.getD i Fx.fx0).sh (c.getD i Fx.fx0).den])) else (x)
def fofV (c : (List Fx.Fix)) (i : Nat) (x : (List Fx.Md)) : VT := VT.ite (decide ((i : Int) < (c.length : Int))) (VT.pre [0 ≤ (i : Int) ∧ (i : Int) < ((c).length : Int)] (VT.ite (!(c.getD i Fx.fx0).sen) (VT.pre [(x.length + 1) * 32 ≤ 140737488355328] (VT.leaf Ex.norm 30 [.val (.fv (.one (.ref 0 0))), .val (.fv (.one (.own 23))), .val ((eSl .fix).pv c), .val (I c.length), .val (I (IntKind.i64.wrap ((i : Int) + 1)))] [.val (.blk 79 [.int .i64 0, .int .i64 0, .int .i64 0, .int .i64 0]), .lost, .val (.row 79 ⟨.md, (x ++ [Fx.ofSh (c.getD i Fx.fx0).sh (c.getD i Fx.fx0).den])⟩)])) (VT.leaf Ex.norm 30 [.val (.fv (.one (.ref 0 0))), .val (.fv (.one (.own 4))), .val ((eSl .fix).pv c), .val (I c.length), .val (I (IntKind.i64.wrap ((i : Int) + 1)))] [.val (.blk 79 [.int .i64 0, .int .i64 0, .int .i64 0, .int .i64 0]), .val (.row 79 ⟨.md, x⟩), .free]))) (VT.leaf (Ex.exit 0) 30 [.val (.fv (.one (.ref 0 0))), .val (.fv (.one (.own 4))), .val ((eSl .fix).pv c), .val (I c.length), .val (I (i : Int))] [.val (.blk 79 [.int .i64 0, .int .i64 0, .int .i64 0, .int .i64 0]), .val (.row 79 ⟨.md, x⟩), .free])
theorem fofV_eq (c : (List Fx.Fix)) (i : Nat) (x : (List Fx.Md)) : viewT [2, 3, 10, 11, 12] [0, 4, 23] (sexec Tryz.prog (tbl fofL) (noLps) (lbN 0 Tryz.f58) (headSt 30 8 [2, 3, 10, 11, 12] [0, 4] (fofTv c i x) (fofMv c i x))) = fofV c i x := by kernel_rfl
noncomputable def fofT : St → Tree := forT0 30 8 [2, 3, 10, 11, 12] [0, 4] fofDec (fun c => c.length) fofTv fofMv fofStep 0
theorem fofA : AllSound Tryz.prog fofL := (.cons cOfSh .nil)
theorem fofLoop : LoopOk Tryz.prog fofT (lbN 0 Tryz.f58) :=
  forT0_ok mixed fofA.tbl (noLoops (by kernel_rfl)) [0, 4, 23] (bn := fun c => c.length ≤ maxLen) (inv := fofInv) fofDec_ok (fun _ _ => ⟨⟨.inr rfl, .inr rfl, .inr rfl, .inr rfl, .inr rfl, trivial⟩, ⟨.inr rfl, .inr rfl, trivial⟩, rfl, rfl, rfl⟩)
    (fun _ _ _ _ _ _ hr h1 h2 => by
      simp only [List.map_cons, fofTv, List.cons.injEq] at h1; exact len_le hr h1.2.2.1)
    (fun c i x hok hn hinv hi => ⟨_, fofV_eq c i x, by
      refine ⟨fun h => ?_, fun h => ?_⟩
      · have h : i < c.length := by simpa using h
        refine ⟨⟨⟨by omega, by first | omega | (have := h; omega)⟩, trivial⟩, ?_⟩
        refine ⟨fun hb2 => ?_, fun hb2 => ?_⟩
        · refine ⟨⟨by have h1 : x.length ≤ i := hinv; have h2 : c.length ≤ 8 := hok; omega, trivial⟩, ?_⟩
          rw [wrap_succ h hn]
          exact ⟨rfl, ((x ++ [Fx.ofSh (c.getD i Fx.fx0).sh (c.getD i Fx.fx0).den])), [(4, 23)], h, by unfold fofStep; first | rfl | ((try dsimp only); (try rw [hb2]); rfl), (by first | (have h1 : x.length ≤ i := hinv; show (x ++ [_]).length ≤ i + 1; rw [List.length_append]; exact Nat.add_le_add_right h1 1) | (have h1 : x.length ≤ i := hinv; show x.length ≤ i + 1; omega)), ⟨.inr rfl, .inr rfl, .inr rfl, .inr rfl, .inr rfl, trivial⟩, ⟨.inr rfl, .inr rfl, trivial⟩, rfl, rfl, rfl⟩
        · rw [wrap_succ h hn]
          exact ⟨rfl, (x), [], h, by unfold fofStep; first | rfl | ((try dsimp only); (try rw [hb2]); rfl), (by first | (have h1 : x.length ≤ i := hinv; show (x ++ [_]).length ≤ i + 1; rw [List.length_append]; exact Nat.add_le_add_right h1 1) | (have h1 : x.length ≤ i := hinv; show x.length ≤ i + 1; omega)), ⟨.inr rfl, .inr rfl, .inr rfl, .inr rfl, .inr rfl, trivial⟩, ⟨.inr rfl, .inr rfl, trivial⟩, rfl, rfl, rfl⟩
      · have h : ¬ i < c.length := by simpa using h
        exact ⟨rfl, .inl ⟨rfl, by omega, [], ⟨.inr rfl, .inr rfl, .inr rfl, .inr rfl, .inr rfl, trivial⟩, ⟨.inr rfl, .inr rfl, trivial⟩, rfl, rfl, rfl⟩⟩⟩)
noncomputable def rofL : List (FuncId × Contract) := [(93, c2 eSh eI eMd Fx.ofSh)]
def rofTv (c : (List Fx.Fix)) (i : Nat) (_x : (List Fx.Md)) : List TV := [.val ((eSl .fix).pv c), .val (.fv (.one (.ref 0 0))), .val (.fv (.one (.own 4))), .val (I (i : Int))]
def rofMv (_c : (List Fx.Fix)) (_i : Nat) (x : (List Fx.Md)) : List MRes := [.val (.blk 79 [.int .i64 0, .int .i64 0, .int .i64 0, .int .i64 0]), .val (.row 79 ⟨.md, x⟩)]
def rofDec : List TV → List MRes → Option (List Prop × ((List Fx.Fix)) × ((List Fx.Md)))
  | [.val (.fv (.one (.slc false ⟨.fix, l⟩))), .val (.fv (.one (.ref 0 0))), .val (.fv (.one (.own 4))), .val (I i)], [.val (.blk 79 [.int .i64 0, .int .i64 0, .int .i64 0, .int .i64 0]), .val (.row 79 ⟨.md, t⟩)] => some ([t = [], i = 0, l.length ≤ 8], (l), [])
  | _, _ => none
def rofOk (c : (List Fx.Fix)) : Prop := c.length ≤ 8
def rofInv (_c : (List Fx.Fix)) (i : Nat) (x : (List Fx.Md)) : Prop := x.length ≤ i
theorem rofDec_ok (ts : List TV) (ms : List MRes) (ps : List Prop) (c : (List Fx.Fix)) (x : (List Fx.Md)) (h : rofDec ts ms = some (ps, c, x)) (hp : Conj ps) : ts = rofTv c 0 x ∧ ms = rofMv c 0 x ∧ rofOk c ∧ rofInv c 0 x := by
  unfold rofDec at h
  split at h
  · cases h
    obtain ⟨rfl, rfl, hok, _⟩ := hp
    exact ⟨rfl, rfl, hok, (Nat.le_refl 0)⟩
  · cases h
def rofStep (c : (List Fx.Fix)) (i : Nat) (x : (List Fx.Md)) : (List Fx.Md) := bif !(c.getD i Fx.fx0).sen then ((x ++ [Fx.ofSh (c.getD i Fx.fx0).sh (c.getD i Fx.fx0).den])) else (x)
def rofV (c : (List Fx.Fix)) (i : Nat) (x : (List Fx.Md)) : VT := VT.ite (decide ((i : Int) < (c.length : Int))) (VT.pre [0 ≤ (i : Int) ∧ (i : Int) < ((c).length : Int)] (VT.ite (!(c.getD i Fx.fx0).sen) (VT.pre [0 ≤ (i : Int) ∧ (i : Int) < (c.length : Int), 0 ≤ (i : Int) ∧ (i : Int) < (c.length : Int), (x.length + 1) * 32 ≤ 140737488355328] (VT.leaf Ex.norm 37 [.val ((eSl .fix).pv c), .val (.fv (.one (.ref 0 0))), .val (.fv (.one (.own 29))), .val (I (IntKind.i64.wrap ((i : Int) + 1)))] [.val (.blk 79 [.int .i64 0, .int .i64 0, .int .i64 0, .int .i64 0]), .lost, .val (.row 79 ⟨.md, (x ++ [Fx.ofSh (c.getD i Fx.fx0).sh (c.getD i Fx.fx0).den])⟩)])) (VT.leaf Ex.norm 37 [.val ((eSl .fix).pv c), .val (.fv (.one (.ref 0 0))), .val (.fv (.one (.own 4))), .val (I (IntKind.i64.wrap ((i : Int) + 1)))] [.val (.blk 79 [.int .i64 0, .int .i64 0, .int .i64 0, .int .i64 0]), .val (.row 79 ⟨.md, x⟩), .free]))) (VT.leaf (Ex.exit 0) 37 [.val ((eSl .fix).pv c), .val (.fv (.one (.ref 0 0))), .val (.fv (.one (.own 4))), .val (I (i : Int))] [.val (.blk 79 [.int .i64 0, .int .i64 0, .int .i64 0, .int .i64 0]), .val (.row 79 ⟨.md, x⟩), .free])
theorem rofV_eq (c : (List Fx.Fix)) (i : Nat) (x : (List Fx.Md)) : viewT [0, 2, 3, 4] [0, 4, 29] (sexec Tryz.prog (tbl rofL) (noLps) (lbN 0 Tryz.f82) (headSt 37 6 [0, 2, 3, 4] [0, 4] (rofTv c i x) (rofMv c i x))) = rofV c i x := by kernel_rfl
noncomputable def rofT : St → Tree := forT0 37 6 [0, 2, 3, 4] [0, 4] rofDec (fun c => c.length) rofTv rofMv rofStep 0
theorem rofA : AllSound Tryz.prog rofL := (.cons rOfSh .nil)
theorem rofLoop : LoopOk Tryz.prog rofT (lbN 0 Tryz.f82) :=
  forT0_ok mixed rofA.tbl (noLoops (by kernel_rfl)) [0, 4, 29] (bn := fun c => c.length ≤ maxLen) (inv := rofInv) rofDec_ok (fun _ _ => ⟨⟨.inr rfl, .inr rfl, .inr rfl, .inr rfl, trivial⟩, ⟨.inr rfl, .inr rfl, trivial⟩, rfl, rfl, rfl⟩)
    (fun _ _ _ _ _ _ hr h1 h2 => by
      simp only [List.map_cons, rofTv, List.cons.injEq] at h1; exact len_le hr h1.1)
    (fun c i x hok hn hinv hi => ⟨_, rofV_eq c i x, by
      refine ⟨fun h => ?_, fun h => ?_⟩
      · have h : i < c.length := by simpa using h
        refine ⟨⟨⟨by omega, by first | omega | (have := h; omega)⟩, trivial⟩, ?_⟩
        refine ⟨fun hb2 => ?_, fun hb2 => ?_⟩
        · refine ⟨⟨⟨by omega, by omega⟩, ⟨by omega, by omega⟩, by have h1 : x.length ≤ i := hinv; have h2 : c.length ≤ 8 := hok; omega, trivial⟩, ?_⟩
          rw [wrap_succ h hn]
          exact ⟨rfl, ((x ++ [Fx.ofSh (c.getD i Fx.fx0).sh (c.getD i Fx.fx0).den])), [(4, 29)], h, by unfold rofStep; first | rfl | ((try dsimp only); (try rw [hb2]); rfl), (by first | (have h1 : x.length ≤ i := hinv; show (x ++ [_]).length ≤ i + 1; rw [List.length_append]; exact Nat.add_le_add_right h1 1) | (have h1 : x.length ≤ i := hinv; show x.length ≤ i + 1; omega)), ⟨.inr rfl, .inr rfl, .inr rfl, .inr rfl, trivial⟩, ⟨.inr rfl, .inr rfl, trivial⟩, rfl, rfl, rfl⟩
        · rw [wrap_succ h hn]
          exact ⟨rfl, (x), [], h, by unfold rofStep; first | rfl | ((try dsimp only); (try rw [hb2]); rfl), (by first | (have h1 : x.length ≤ i := hinv; show (x ++ [_]).length ≤ i + 1; rw [List.length_append]; exact Nat.add_le_add_right h1 1) | (have h1 : x.length ≤ i := hinv; show x.length ≤ i + 1; omega)), ⟨.inr rfl, .inr rfl, .inr rfl, .inr rfl, trivial⟩, ⟨.inr rfl, .inr rfl, trivial⟩, rfl, rfl, rfl⟩
      · have h : ¬ i < c.length := by simpa using h
        exact ⟨rfl, .inl ⟨rfl, by omega, [], ⟨.inr rfl, .inr rfl, .inr rfl, .inr rfl, trivial⟩, ⟨.inr rfl, .inr rfl, trivial⟩, rfl, rfl, rfl⟩⟩⟩)
noncomputable def cCombLps : Nat → St → Tree := fun k => bif Nat.beq k (firstRegion (lbN 0 Tryz.f77)) then cm1T else cm2T
theorem cComb : Sound Tryz.prog 77 (c1 (eSl .md) eMd Fx.comb) :=
  con (lps := cCombLps) mixed (AllSound.cons cAnym (.cons cSat (.cons cAdd (.cons cRdiv (.cons cVsub (.cons cVdot (.cons cMul .nil))))))) Tryz.func77 (by kernel_rfl) (by kernel_rfl) (loops2 (lps := cCombLps) (b := (lbN 0 Tryz.f77)) (b' := (lbN 1 Tryz.f77)) (by kernel_rfl) (by kernel_rfl) (by kernel_rfl)  cm1Loop cm2Loop) (g1 Fx.combQ Fx.comb (fun l _ => Fx.combQ_ok l) (fun _ _ => rfl) (fun _ => by kernel_rfl))
noncomputable def rCombLps : Nat → St → Tree := fun k => bif Nat.beq k (firstRegion (lbN 0 Tryz.f94)) then rcmT else rcnT
theorem rComb : Sound Tryz.prog 94 (c1 (eSl .md) eMd Fx.comb) :=
  con (lps := rCombLps) mixed (AllSound.cons rSat (.cons rAdd (.cons rRdiv (.cons rVsub (.cons rVdot (.cons rMul .nil)))))) Tryz.func94 (by kernel_rfl) (by kernel_rfl) (loops2 (lps := rCombLps) (b := (lbN 0 Tryz.f94)) (b' := (lbN 1 Tryz.f94)) (by kernel_rfl) (by kernel_rfl) (by kernel_rfl)  rcmLoop rcnLoop) (g1 Fx.combRQ Fx.combR (fun l _ => Fx.combRQ_ok l) (fun l _ => Fx.comb_eq l) (fun _ => by kernel_rfl))
theorem cOfFx : Sound Tryz.prog 58 (c1 (eSl .fix) eMd Fx.ofFix) :=
  con (lps := fun _ => fofT) mixed (AllSound.cons cOfSh (.cons cComb .nil)) Tryz.func58 (by kernel_rfl) (by kernel_rfl) (oneLoop (lps := fun _ => fofT) (b := (lbN 0 Tryz.f58)) (by kernel_rfl) fofLoop) (g1 Fx.ofFixQ Fx.ofFix (fun l _ => Fx.ofFixQ_ok l) (fun _ _ => rfl) (fun _ => by kernel_rfl))
theorem rOfFx : Sound Tryz.prog 82 (c1 (eSl .fix) eMd Fx.ofFix) :=
  con (lps := fun _ => rofT) mixed (AllSound.cons rOfSh (.cons rComb .nil)) Tryz.func82 (by kernel_rfl) (by kernel_rfl) (oneLoop (lps := fun _ => rofT) (b := (lbN 0 Tryz.f82)) (by kernel_rfl) rofLoop) (g1 Fx.ofFixRQ Fx.ofFix (fun l _ => Fx.ofFixRQ_ok l) (fun _ _ => rfl) (fun _ => by kernel_rfl))
end Go.Proofs.YtfjognghjiifaaaGreat
