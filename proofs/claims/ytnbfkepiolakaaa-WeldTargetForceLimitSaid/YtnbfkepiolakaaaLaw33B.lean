/- Proved here: laws of chapter 33 return true for every input. Conditions: none. -/
import Derived.Test.YtnbfkepiolakaaaSm3
import Derived.Test.YtnbfkepiolakaaaSol
import Derived.RowKit3
open Go Go.Eng
namespace Go.Proofs.Ytnbfkepiolakaaa
open Go.Fx (an orr an_true)

theorem own : ownKnob Try.prog.godebug = none := by kernel_rfl
theorem an_self {x y : Bool} (c : Bool) (h : x = true) (h' : y = true) : (bif c then true else an x y) = true := by rw [an_true h h']; cases c <;> rfl
theorem cAer : Sound Try.prog 8 (c3 eJ eBd eBd eI Fx.jlen) :=
  con (lps := noLps) mixed (.cons cAnch (.cons cVsub (.cons cVlen .nil))) Try.func8 (by kernel_rfl) (by kernel_rfl) (noLoops (by kernel_rfl)) (k3 (fun _ _ _ => by kernel_rfl))
def ex33Q : List Prop := [true = true → (0 : Int) ≤ (0 : Int) ∧ (0 : Int) < (2 : Int), true = true → 0 < 2, true = true → (0 : Int) ≤ (0 : Int) ∧ (0 : Int) < (2 : Int), true = true → 0 < 2, true = true → (0 : Int) ≤ (1 : Int) ∧ (1 : Int) < (2 : Int), true = true → 1 < 2, true = true → (0 : Int) ≤ (1 : Int) ∧ (1 : Int) < (2 : Int), true = true → 1 < 2, true = true → (0 : Int) ≤ (0 : Int) ∧ (0 : Int) < (2 : Int), true = true → 0 < 2, true = true → (0 : Int) ≤ (0 : Int) ∧ (0 : Int) < (2 : Int), true = true → 0 < 2, true = true → (0 : Int) ≤ (1 : Int) ∧ (1 : Int) < (2 : Int), true = true → 1 < 2]
theorem ex33Q_ok : Conj ex33Q := by simp [ex33Q, Conj]
theorem cEx33 : Sound Try.prog 7 (c0 eB true) :=
  con (lps := noLps) mixed (.cons cTgt (.cons cAer .nil)) Try.func7 (by kernel_rfl) (by kernel_rfl) (noLoops (by kernel_rfl)) (g0 ex33Q true (fun _ => ex33Q_ok) (fun _ => rfl) (by kernel_rfl))
noncomputable def tfiL : List (FuncId × Contract) := [(13, p3 (eSl .row) eI (eSl .sb) eSS (fun l _ s => [l.length * 112 ≤ 140737488355328, s.length * 40 ≤ 140737488355328]) (fun l i s => (Fx.solved1 l i s, Fx.solved2 l i s)))]
def tfiTv (c : (Int) × (Int) × (Int) × (List Fx.Row) × (List Fx.Sb)) (i : Nat) (x : (List Fx.Row) × (List Fx.Sb)) : List TV := [.val (.fv (.one (.int .u8 c.2.1))), .val (Bo false), .val (.fv (.one (.slc true ⟨.row, x.1⟩))), .val (I c.1), .val (.fv (.one (.slc false ⟨.sb, x.2⟩))), .val (I c.2.2.1), .val (I (i : Int))]
def tfiMv (_c : (Int) × (Int) × (Int) × (List Fx.Row) × (List Fx.Sb)) (_i : Nat) (_x : (List Fx.Row) × (List Fx.Sb)) : List MRes := []
def tfiEtv (_c : (Int) × (Int) × (Int) × (List Fx.Row) × (List Fx.Sb)) (_e : Unit) : List TV := [.any, .val (Bo false), .any, .any, .any, .any, .any]
def tfiEmv (_c : (Int) × (Int) × (Int) × (List Fx.Row) × (List Fx.Sb)) (_e : Unit) : List MRes := []
def tfiDec : List TV → List MRes → Option (List Prop × ((Int) × (Int) × (Int) × (List Fx.Row) × (List Fx.Sb)) × ((List Fx.Row) × (List Fx.Sb)))
  | [.val (.fv (.one (.int .u8 m))), .val (Bo b), .val (.fv (.one (.slc true ⟨.row, r⟩))), .val (I k), .val (.fv (.one (.slc false ⟨.sb, s⟩))), .val (I j), .val (I i)], [] => some ([b = false, i = 0, r.length = 2 ∧ s.length ≤ 20], (k, m, j, r, s), (r, s))
  | _, _ => none
def tfiOk (c : (Int) × (Int) × (Int) × (List Fx.Row) × (List Fx.Sb)) : Prop := c.2.2.2.1.length = 2 ∧ c.2.2.2.2.length ≤ 20
def tfiInv (_c : (Int) × (Int) × (Int) × (List Fx.Row) × (List Fx.Sb)) (_i : Nat) (x : (List Fx.Row) × (List Fx.Sb)) : Prop := x.1.length = 2 ∧ x.2.length ≤ 20
theorem tfiDec_ok (ts : List TV) (ms : List MRes) (ps : List Prop) (c : (Int) × (Int) × (Int) × (List Fx.Row) × (List Fx.Sb)) (x : (List Fx.Row) × (List Fx.Sb)) (h : tfiDec ts ms = some (ps, c, x)) (hp : Conj ps) : ts = tfiTv c 0 x ∧ ms = tfiMv c 0 x ∧ tfiOk c ∧ tfiInv c 0 x := by
  unfold tfiDec at h
  split at h
  · cases h
    obtain ⟨rfl, rfl, hok, _⟩ := hp
    exact ⟨rfl, rfl, hok, hok⟩
  · cases h
def tfiStep (c : (Int) × (Int) × (Int) × (List Fx.Row) × (List Fx.Sb)) (i : Nat) (x : (List Fx.Row) × (List Fx.Sb)) : Sum ((List Fx.Row) × (List Fx.Sb)) (Unit) := bif orr (orr (((Fx.solved1 x.1 i x.2).length : Int) != 2) (decide (((Fx.solved1 x.1 i x.2).getD i Fx.row0).im > c.1))) (decide (((Fx.solved1 x.1 i x.2).getD i Fx.row0).im < Fx.w64 (0 - c.1))) then .inr () else .inl (Fx.solved1 x.1 i x.2, Fx.solved2 x.1 i x.2)
def tfiV (c : (Int) × (Int) × (Int) × (List Fx.Row) × (List Fx.Sb)) (i : Nat) (x : (List Fx.Row) × (List Fx.Sb)) : VT := VT.ite (decide ((i : Int) < (2 : Int))) (VT.pre [x.1.length * 112 ≤ 140737488355328, x.2.length * 40 ≤ 140737488355328] (VT.pre [(((Fx.solved1 x.1 i x.2).length : Int) != 2) = false → 0 ≤ (i : Int) ∧ (i : Int) < ((Fx.solved1 x.1 i x.2).length : Int), orr (((Fx.solved1 x.1 i x.2).length : Int) != 2) (decide (((Fx.solved1 x.1 i x.2).getD i Fx.row0).im > c.1)) = false → 0 ≤ (i : Int) ∧ (i : Int) < ((Fx.solved1 x.1 i x.2).length : Int)] (VT.ite (orr (orr (((Fx.solved1 x.1 i x.2).length : Int) != 2) (decide (((Fx.solved1 x.1 i x.2).getD i Fx.row0).im > c.1))) (decide (((Fx.solved1 x.1 i x.2).getD i Fx.row0).im < Fx.w64 (0 - c.1)))) (VT.leaf (Ex.ret) 95 [.val (.fv (.one (.int .u8 c.2.1))), .val (Bo false), .val (.fv (.one (.slc true ⟨.row, x.1⟩))), .val (I c.1), .val (.fv (.one (.slc false ⟨.sb, x.2⟩))), .val (I c.2.2.1), .val (I (i : Int))] []) (VT.leaf Ex.norm 95 [.val (.fv (.one (.int .u8 c.2.1))), .val (Bo false), .val (.fv (.one (.slc true ⟨.row, Fx.solved1 x.1 i x.2⟩))), .val (I c.1), .val (.fv (.one (.slc true ⟨.sb, Fx.solved2 x.1 i x.2⟩))), .val (I c.2.2.1), .val (I (IntKind.i64.wrap ((i : Int) + 1)))] [])))) (VT.leaf (Ex.exit 2) 95 [.val (.fv (.one (.int .u8 c.2.1))), .val (Bo false), .val (.fv (.one (.slc true ⟨.row, x.1⟩))), .val (I c.1), .val (.fv (.one (.slc false ⟨.sb, x.2⟩))), .val (I c.2.2.1), .val (I (i : Int))] [])
theorem tfiV_eq (c : (Int) × (Int) × (Int) × (List Fx.Row) × (List Fx.Sb)) (i : Nat) (x : (List Fx.Row) × (List Fx.Sb)) : viewT [1, 4, 5, 6, 7, 8, 9] [] (sexec Try.prog (tbl tfiL) (noLps) ((loopsOf (lbN 0 Try.f5)).getD 0 .skip) (headSt 95 51 [1, 4, 5, 6, 7, 8, 9] [] (tfiTv c i x) (tfiMv c i x))) = tfiV c i x := by kernel_rfl
noncomputable def tfiT : St → Tree := forT 95 51 [1, 4, 5, 6, 7, 8, 9] [] tfiDec (fun _ => 2) tfiTv tfiMv tfiEtv tfiEmv tfiStep () 2 .ret
theorem tfiA : AllSound Try.prog tfiL := (.cons cSlv .nil)
theorem tfiLoop : LoopOk Try.prog tfiT ((loopsOf (lbN 0 Try.f5)).getD 0 .skip) :=
  forT_ok mixed tfiA.tbl (noLoops (by kernel_rfl)) [] (bn := fun c => True) (inv := tfiInv) tfiDec_ok (fun _ _ => ⟨⟨.inr rfl, .inr rfl, .inr rfl, .inr rfl, .inr rfl, .inr rfl, .inr rfl, trivial⟩, trivial, rfl, rfl, rfl⟩)
    (fun _ _ _ _ _ _ hr h1 h2 => by
      trivial)
    (fun c i x hok hn hinv hi => ⟨_, tfiV_eq c i x, by
      refine ⟨fun h => ?_, fun h => ?_⟩
      · have h : i < 2 := by (have h2 := h; simp at h2; omega)
        refine ⟨(have h1 : x.1.length = 2 ∧ x.2.length ≤ 20 := hinv; ⟨by omega, by omega, trivial⟩), ?_⟩
        refine ⟨(have h1 : x.1.length = 2 ∧ x.2.length ≤ 20 := hinv; have h2 := Fx.solved1_len x.1 i x.2; have e : 0 ≤ (i : Int) ∧ (i : Int) < ((Fx.solved1 x.1 i x.2).length : Int) := ⟨by omega, by omega⟩; ⟨fun _ => e, fun _ => e, trivial⟩), ?_⟩
        refine ⟨fun hb3 => ?_, fun hb3 => ?_⟩
        · exact ⟨rfl, .inr ⟨rfl, h, (), [], by unfold tfiStep; first | rfl | ((try dsimp only); (try rw [hb3]); rfl), ⟨.inl rfl, .inr rfl, .inl rfl, .inl rfl, .inl rfl, .inl rfl, .inl rfl, trivial⟩, trivial, rfl, rfl, rfl⟩⟩
        · rw [wrap_succ h (by simp only [maxLen]; omega)]
          exact ⟨rfl, (Fx.solved1 x.1 i x.2, Fx.solved2 x.1 i x.2), [], h, by unfold tfiStep; first | rfl | ((try dsimp only); (try rw [hb3]); rfl), (by have h1 : x.1.length = 2 ∧ x.2.length ≤ 20 := hinv; exact ⟨(Fx.solved1_len x.1 i x.2).trans h1.1, (by rw [Fx.solved2_len]; exact h1.2)⟩), ⟨.inr rfl, .inr rfl, .inr rfl, .inr rfl, .inr rfl, .inr rfl, .inr rfl, trivial⟩, trivial, rfl, rfl, rfl⟩
      · have h : ¬ i < 2 := by (have h2 := h; simp at h2; omega)
        exact ⟨rfl, .inl ⟨rfl, by omega, [], ⟨.inr rfl, .inr rfl, .inr rfl, .inr rfl, .inr rfl, .inr rfl, .inr rfl, trivial⟩, trivial, rfl, rfl, rfl⟩⟩⟩)
theorem tfi_keep (k m j0 : Int) (r : List Fx.Row) (s : List Fx.Sb) (h : r.length = 2 ∧ s.length ≤ 20) : (getL (r, s) (runF (tfiStep (k, m, j0, r, s)) 2 0 (r, s))).1.length = 2 ∧ (getL (r, s) (runF (tfiStep (k, m, j0, r, s)) 2 0 (r, s))).2.length ≤ 20 := by
  refine Fx.runF_keep (step := tfiStep (k, m, j0, r, s)) (fun x => x.1.length = 2 ∧ x.2.length ≤ 20) (r, s) 2 0 (r, s) h h fun j x y hx he => ?_
  unfold tfiStep at he
  cases hb : orr (orr (((Fx.solved1 x.1 j x.2).length : Int) != 2) (decide (((Fx.solved1 x.1 j x.2).getD j Fx.row0).im > k))) (decide (((Fx.solved1 x.1 j x.2).getD j Fx.row0).im < Fx.w64 (0 - k))) <;> rw [hb] at he
  · cases he
    exact ⟨(Fx.solved1_len x.1 j x.2).trans hx.1, (by show (Fx.solved2 x.1 j x.2).length ≤ 20; rw [Fx.solved2_len]; exact hx.2)⟩
  · cases he
theorem tfo4 {m : Int} (h : 0 ≤ m) : 0 ≤ Fx.w64 (m.tmod 4) ∧ Fx.w64 (m.tmod 4) ≤ 3 := by
  rw [Int.tmod_eq_emod_of_nonneg h, Fx.w64_id (by omega) (by omega)]; omega
noncomputable def tfoL : List (FuncId × Contract) := []
def tfoTv (c : (Int) × (Int) × (List Fx.Row) × (List Fx.Sb)) (i : Nat) (x : (List Fx.Row) × (List Fx.Sb)) : List TV := [.val (.fv (.one (.int .u8 c.1))), .val (Bo false), .val (.fv (.one (.slc true ⟨.row, x.1⟩))), .val (I c.2.1), .val (.fv (.one (.slc false ⟨.sb, x.2⟩))), .val (I (i : Int))]
def tfoMv (_c : (Int) × (Int) × (List Fx.Row) × (List Fx.Sb)) (_i : Nat) (_x : (List Fx.Row) × (List Fx.Sb)) : List MRes := []
def tfoEtv (_c : (Int) × (Int) × (List Fx.Row) × (List Fx.Sb)) (_e : Unit) : List TV := [.any, .val (Bo false), .any, .any, .any, .any]
def tfoEmv (_c : (Int) × (Int) × (List Fx.Row) × (List Fx.Sb)) (_e : Unit) : List MRes := []
def tfoDec : List TV → List MRes → Option (List Prop × ((Int) × (Int) × (List Fx.Row) × (List Fx.Sb)) × ((List Fx.Row) × (List Fx.Sb)))
  | [.val (.fv (.one (.int .u8 m))), .val (Bo b), .val (.fv (.one (.slc true ⟨.row, r⟩))), .val (I k), .val (.fv (.one (.slc false ⟨.sb, s⟩))), .val (I i)], [] => some ([b = false, i = 0, (r.length = 2 ∧ s.length ≤ 20) ∧ 0 ≤ m], (m, k, r, s), (r, s))
  | _, _ => none
def tfoOk (c : (Int) × (Int) × (List Fx.Row) × (List Fx.Sb)) : Prop := (c.2.2.1.length = 2 ∧ c.2.2.2.length ≤ 20) ∧ 0 ≤ c.1
def tfoInv (_c : (Int) × (Int) × (List Fx.Row) × (List Fx.Sb)) (_i : Nat) (x : (List Fx.Row) × (List Fx.Sb)) : Prop := x.1.length = 2 ∧ x.2.length ≤ 20
theorem tfoDec_ok (ts : List TV) (ms : List MRes) (ps : List Prop) (c : (Int) × (Int) × (List Fx.Row) × (List Fx.Sb)) (x : (List Fx.Row) × (List Fx.Sb)) (h : tfoDec ts ms = some (ps, c, x)) (hp : Conj ps) : ts = tfoTv c 0 x ∧ ms = tfoMv c 0 x ∧ tfoOk c ∧ tfoInv c 0 x := by
  unfold tfoDec at h
  split at h
  · cases h
    obtain ⟨rfl, rfl, hok, _⟩ := hp
    exact ⟨rfl, rfl, hok, hok.1⟩
  · cases h
def tfoStep (c : (Int) × (Int) × (List Fx.Row) × (List Fx.Sb)) (i : Nat) (x : (List Fx.Row) × (List Fx.Sb)) : Sum ((List Fx.Row) × (List Fx.Sb)) (Unit) := bif isL (runF (tfiStep (c.2.1, c.1, (i : Int), x.1, x.2)) 2 0 (x.1, x.2)) then .inl ((getL (x.1, x.2) (runF (tfiStep (c.2.1, c.1, (i : Int), x.1, x.2)) 2 0 (x.1, x.2))).1, (getL (x.1, x.2) (runF (tfiStep (c.2.1, c.1, (i : Int), x.1, x.2)) 2 0 (x.1, x.2))).2) else .inr ()
def tfoV (c : (Int) × (Int) × (List Fx.Row) × (List Fx.Sb)) (i : Nat) (x : (List Fx.Row) × (List Fx.Sb)) : VT := VT.ite (decide ((i : Int) ≤ Fx.w64 (c.1.tmod 4))) (VT.pre [false = false, (0 : Int) = 0, x.1.length = 2 ∧ x.2.length ≤ 20] (VT.ite (isL (runF (tfiStep (c.2.1, c.1, (i : Int), x.1, x.2)) 2 0 (x.1, x.2))) (VT.leaf Ex.norm 95 [.val (.fv (.one (.int .u8 c.1))), .val (Bo false), .val (.fv (.one (.slc true ⟨.row, (getL (x.1, x.2) (runF (tfiStep (c.2.1, c.1, (i : Int), x.1, x.2)) 2 0 (x.1, x.2))).1⟩))), .val (I c.2.1), .val (.fv (.one (.slc false ⟨.sb, (getL (x.1, x.2) (runF (tfiStep (c.2.1, c.1, (i : Int), x.1, x.2)) 2 0 (x.1, x.2))).2⟩))), .val (I (IntKind.i64.wrap ((i : Int) + 1)))] []) (VT.leaf (Ex.ret) 95 [.any, .val (Bo false), .any, .any, .any, .any] []))) (VT.leaf (Ex.exit 0) 95 [.val (.fv (.one (.int .u8 c.1))), .val (Bo false), .val (.fv (.one (.slc true ⟨.row, x.1⟩))), .val (I c.2.1), .val (.fv (.one (.slc false ⟨.sb, x.2⟩))), .val (I (i : Int))] [])
theorem tfoV_eq (c : (Int) × (Int) × (List Fx.Row) × (List Fx.Sb)) (i : Nat) (x : (List Fx.Row) × (List Fx.Sb)) : viewT [1, 4, 5, 6, 7, 8] [] (sexec Try.prog (tbl tfoL) (fun _ => tfiT) (lbN 0 Try.f5) (headSt 95 45 [1, 4, 5, 6, 7, 8] [] (tfoTv c i x) (tfoMv c i x))) = tfoV c i x := by kernel_rfl
noncomputable def tfoT : St → Tree := forT 95 45 [1, 4, 5, 6, 7, 8] [] tfoDec (fun c => ((Fx.w64 (c.1.tmod 4)).toNat + 1)) tfoTv tfoMv tfoEtv tfoEmv tfoStep () 0 .ret
theorem tfoA : AllSound Try.prog tfoL := .nil
theorem tfoLoop : LoopOk Try.prog tfoT (lbN 0 Try.f5) :=
  forT_ok mixed tfoA.tbl (oneLoop (lps := fun _ => tfiT) (b := (loopsOf (lbN 0 Try.f5)).getD 0 .skip) (by kernel_rfl) tfiLoop) [] (bn := fun c => True) (inv := tfoInv) tfoDec_ok (fun _ _ => ⟨⟨.inr rfl, .inr rfl, .inr rfl, .inr rfl, .inr rfl, .inr rfl, trivial⟩, trivial, rfl, rfl, rfl⟩)
    (fun _ _ _ _ _ _ hr h1 h2 => by
      trivial)
    (fun c i x hok hn hinv hi => ⟨_, tfoV_eq c i x, by
      refine ⟨fun h => ?_, fun h => ?_⟩
      · have h : i < ((Fx.w64 (c.1.tmod 4)).toNat + 1) := by (have h1 := tfo4 hok.2; have h2 := h; by_cases h3 : (i : Int) ≤ Fx.w64 (c.1.tmod 4) <;> simp [h3] at h2 <;> omega)
        refine ⟨⟨rfl, rfl, hinv, trivial⟩, ?_⟩
        refine ⟨fun hb2 => ?_, fun hb2 => ?_⟩
        · rw [wrap_succ h (by have h1 := tfo4 hok.2; simp only [maxLen]; omega)]
          exact ⟨rfl, ((getL (x.1, x.2) (runF (tfiStep (c.2.1, c.1, (i : Int), x.1, x.2)) 2 0 (x.1, x.2))).1, (getL (x.1, x.2) (runF (tfiStep (c.2.1, c.1, (i : Int), x.1, x.2)) 2 0 (x.1, x.2))).2), [], h, by unfold tfoStep; first | rfl | ((try dsimp only); (try rw [hb2]); rfl), (by have h1 : x.1.length = 2 ∧ x.2.length ≤ 20 := hinv; exact tfi_keep c.2.1 c.1 i x.1 x.2 h1), ⟨.inr rfl, .inr rfl, .inr rfl, .inr rfl, .inr rfl, .inr rfl, trivial⟩, trivial, rfl, rfl, rfl⟩
        · exact ⟨rfl, .inr ⟨rfl, h, (), [], by unfold tfoStep; first | rfl | ((try dsimp only); (try rw [hb2]); rfl), ⟨.inl rfl, .inr rfl, .inl rfl, .inl rfl, .inl rfl, .inl rfl, trivial⟩, trivial, rfl, rfl, rfl⟩⟩
      · have h : ¬ i < ((Fx.w64 (c.1.tmod 4)).toNat + 1) := by (have h1 := tfo4 hok.2; have h2 := h; by_cases h3 : (i : Int) ≤ Fx.w64 (c.1.tmod 4) <;> simp [h3] at h2 <;> omega)
        exact ⟨rfl, .inl ⟨rfl, by omega, [], ⟨.inr rfl, .inr rfl, .inr rfl, .inr rfl, .inr rfl, .inr rfl, trivial⟩, trivial, rfl, rfl, rfl⟩⟩⟩)
section
variable (sm : Fx.Ar → Bool) (tr : Fx.Joint → Fx.Bd → Int → List Fx.Sb → Int → List Fx.Row) (mul : Int → Int → Int) (x : Fx.Ar) (m : Int)
def tfG : Bool := orr (orr (orr (!sm x) (x.j.kind != 5)) (decide (x.j.mf < 0))) (decide (x.dt < 0))
def tfR : List Fx.Row := tr x.j x.b x.ib x.s x.dt
def tfU : Bool := bif tfG sm x then true else bif isL (runF (tfoStep (m, mul x.j.mf x.dt, tfR tr x, x.s)) ((Fx.w64 (m.tmod 4)).toNat + 1) 0 (tfR tr x, x.s)) then true else false
def tfQ : List Prop := [tfG sm x = false → false = false, tfG sm x = false → (0 : Int) = 0, tfG sm x = false → ((tfR tr x).length = 2 ∧ x.s.length ≤ 20) ∧ 0 ≤ m]
theorem tfEq : symFn Try.prog (tbl [(6, c1 eAr eB sm), (11, still (c5 eJ eBd eI (eSl .sb) eI (eFr 44 .row) tr)), (12, f2 mul), (13, p3 (eSl .row) eI (eSl .sb) eSS (fun l _ s => [l.length * 112 ≤ 140737488355328, s.length * 40 ≤ 140737488355328]) (fun l i s => (Fx.solved1 l i s, Fx.solved2 l i s))), (7, c0 eB true)]) (fun _ => tfoT) 5 [eAr.pv x, eU8.pv m] =
    some (tfQ sm tr x m, eB.pv (tfU sm tr mul x m)) := by kernel_rfl
end
theorem sm3_few {x : Fx.Ar} (h : sm3 x = true) : x.s.length ≤ 20 := by
  have := of_decide_eq_true (Fx.of_an h).1
  omega
theorem tfG_of {x : Fx.Ar} (h : tfG sm3 x = false) : x.s.length ≤ 20 ∧ (x.j.kind != 5) = false ∧ 0 ≤ x.j.mf ∧ 0 ≤ x.dt := by
  obtain ⟨h, h4⟩ := Fx.of_orr h
  obtain ⟨h, h3⟩ := Fx.of_orr h
  obtain ⟨h1, h2⟩ := Fx.of_orr h
  have h3 := of_decide_eq_false h3; have h4 := of_decide_eq_false h4
  exact ⟨sm3_few (by simpa using h1), h2, by omega, by omega⟩
theorem tfR_eq {x : Fx.Ar} (h : (x.j.kind != 5) = false) : tfR (fun j b ib s dt => Fx.trows j b ib s dt) x = [Fx.trow x.j x.b x.ib x.s x.dt (Fx.anchors x.j Fx.bd0.t x.b.t).2 ⟨65536, 0⟩ (Fx.mul x.j.mf x.dt) (Fx.tdiff x.j x.b).x x.j.i0, Fx.trow x.j x.b x.ib x.s x.dt (Fx.anchors x.j Fx.bd0.t x.b.t).2 ⟨0, 65536⟩ (Fx.mul x.j.mf x.dt) (Fx.tdiff x.j x.b).y x.j.i1] := by
  unfold tfR Fx.trows
  simp only [h, cond_false]
theorem tfQ_ok (x : Fx.Ar) (m : Int) (hm : 0 ≤ m) : Conj (tfQ sm3 (fun j b ib s dt => Fx.trows j b ib s dt) x m) :=
  ⟨fun _ => rfl, fun _ => rfl, fun h => ⟨⟨by rw [tfR_eq (tfG_of h).2.1]; rfl, (tfG_of h).1⟩, hm⟩, trivial⟩
theorem mulNn {a b : Int} (ha : 0 ≤ a) (hb : 0 ≤ b) : 0 ≤ Fx.mul a b := by
  have h1 := Fx.sat_bounds a; have h2 := Fx.sat_bounds b
  have nn : ∀ {x : Int}, 0 ≤ x → 0 ≤ Fx.sat x := fun {x} h => by unfold Fx.sat; split <;> (try split) <;> omega
  have p := Fx.prod2 (a := Fx.sat a) (b := Fx.sat b) h1.1 h1.2 h2.1 h2.2
  have p0 := Int.mul_nonneg (nn ha) (nn hb)
  have q := Fx.rdiv_near (n := Fx.sat a * Fx.sat b) (d := 65536) (by omega) (by omega) (by omega) (by omega)
  unfold Fx.mul
  exact nn (by omega)
theorem tfi_run (k m j : Int) (x0 x : List Fx.Row × List Fx.Sb) (h0 : 0 ≤ k) (h1 : k ≤ 536870911) (hx : x.1.length = 2 ∧ Fx.Within k x.1) :
    ∃ y, runF (tfiStep (k, m, j, x0.1, x0.2)) 2 0 x = .inl y ∧ (y.1.length = 2 ∧ Fx.Within k y.1) := by
  refine Fx.runF_inv (step := tfiStep (k, m, j, x0.1, x0.2)) (fun y => y.1.length = 2 ∧ Fx.Within k y.1) 2 0 x hx fun i y _ hi hy => ?_
  have hi2 : i < y.1.length := by have := hy.1; omega
  obtain ⟨w1, w2, w3⟩ := Fx.within_step (s := y.2) hy.2 hi2 h0 h1
  have hl := Fx.solved1_len y.1 i y.2
  refine ⟨(Fx.solved1 y.1 i y.2, Fx.solved2 y.1 i y.2), ?_, hl.trans hy.1, w1⟩
  have e1 : (((Fx.solved1 y.1 i y.2).length : Int) != 2) = false := by rw [hl, hy.1]; rfl
  unfold tfiStep
  simp only
  rw [e1, decide_eq_false (show ¬ ((Fx.solved1 y.1 i y.2).getD i Fx.row0).im > k by omega), Fx.w64_id (show -9223372036854775808 ≤ 0 - k by omega) (by omega), decide_eq_false (show ¬ ((Fx.solved1 y.1 i y.2).getD i Fx.row0).im < 0 - k by omega)]
  rfl
theorem tfU_true (x : Fx.Ar) (m : Int) : tfU sm3 (fun j b ib s dt => Fx.trows j b ib s dt) Fx.mul x m = true := by
  unfold tfU
  cases hg : tfG sm3 x with
  | true => rfl
  | false =>
    obtain ⟨g1, g2, g3, g4⟩ := tfG_of hg
    have hb := Fx.sat_bounds (Fx.rdiv (Fx.sat x.j.mf * Fx.sat x.dt) 65536)
    have hk1 : Fx.mul x.j.mf x.dt ≤ 536870911 := hb.2
    have hk0 : 0 ≤ Fx.mul x.j.mf x.dt := mulNn g3 g4
    have hw : Fx.Within (Fx.mul x.j.mf x.dt) (tfR (fun j b ib s dt => Fx.trows j b ib s dt) x) := by
      rw [tfR_eq g2]
      intro i hi
      match i, hi with
      | 0, _ => exact ⟨rfl, rfl, rfl⟩
      | 1, _ => exact ⟨rfl, rfl, rfl⟩
    obtain ⟨y, h1, _⟩ := Fx.runF_inv (step := tfoStep (m, Fx.mul x.j.mf x.dt, tfR (fun j b ib s dt => Fx.trows j b ib s dt) x, x.s)) (fun y => y.1.length = 2 ∧ Fx.Within (Fx.mul x.j.mf x.dt) y.1) ((Fx.w64 (m.tmod 4)).toNat + 1) 0 (tfR (fun j b ib s dt => Fx.trows j b ib s dt) x, x.s) ⟨by rw [tfR_eq g2]; rfl, hw⟩ fun i y _ _ hy => by
      obtain ⟨z, z1, z2⟩ := tfi_run (Fx.mul x.j.mf x.dt) m i y y hk0 hk1 hy
      refine ⟨z, ?_, z2⟩
      have z1' : runF (tfiStep (Fx.mul x.j.mf x.dt, m, (i : Int), y.1, y.2)) 2 0 (y.1, y.2) = .inl z := z1
      unfold tfoStep
      simp only
      rw [z1']
      rfl
    rw [h1]
    rfl
theorem lWeldTargetForceLimit : Sound Try.prog 5 (p2 eAr eU8 eB (fun _ m => [0 ≤ m]) (fun _ _ => true)) :=
  con (lps := fun _ => tfoT) mixed (AllSound.cons cSm33 (.cons (Sound.still cTgt) (.cons rMul (.cons cSlv (.cons cEx33 .nil))))) Try.func5 (by kernel_rfl) (by kernel_rfl) (oneLoop (lps := fun _ => tfoT) (b := lbN 0 Try.f5) (by kernel_rfl) tfoLoop)
    (g2 (fun x m => tfQ sm3 (fun j b ib s dt => Fx.trows j b ib s dt) x m) (fun x m => tfU sm3 (fun j b ib s dt => Fx.trows j b ib s dt) Fx.mul x m) (fun x m h => tfQ_ok x m h.1) (fun x m _ => tfU_true x m) (fun x m => tfEq sm3 _ Fx.mul x m))
theorem aWeldTargetForceLimit : ∀ vs, ArgsAre Try.prog 8 [36, 5] vs → ∃ ps, (p2 eAr eU8 eB (fun _ m => [0 ≤ m]) (fun _ _ => true)) vs = some (ps, .fv (.one (.bool true))) ∧ Conj ps := by
  intro vs h0
  obtain ⟨x0, r, rfl, h1⟩ := args_Ar (by kernel_rfl) (by kernel_rfl) h0
  obtain ⟨x1, r, rfl, lo1, hi1, h2⟩ := args_int (k := .u8) (by kernel_rfl) (by kernel_rfl) h1
  obtain rfl := args_nil h2
  exact ⟨_, rfl, lo1, trivial⟩
set_option maxRecDepth 100000 in
theorem liftedWeldTargetForceLimit (os : Os) (started : os.Started) (H : Type) (enc : TypeId × Value → H) :
    ReturnsInHanded {} Try.checked os 5 .any (Rows.weldTargetForceLimitSpec.pre6 enc Try.prog Try.f5 Rows.weldTargetForceLimitRow.domain false) (Rows.weldTargetForceLimitSpec.post enc Try.prog Try.f5 false true false false) := by
  refine returnsInHanded_of_change (C := Try.checked) own started (by kernel_rfl) Try.func5 (ChangeSpec.witness6 (enc := enc) (C := Try.checked) false ⟨#[], #[.agg #[.int .i64 0, .int .i64 0, .int .i64 0, .int .i64 0, .int .i64 0, .int .i64 0, .int .i64 0, .int .i64 0, .int .i64 0, .int .i64 0, .int .i64 0, .bool false, .int .i64 0, .int .i64 0, .bool false, .int .i64 0, .int .i64 0, .int .i64 0, .int .i64 0, .bool false, .int .i64 0, .int .i64 0, .int .i64 0, .int .i64 0, .int .i64 0, .int .i64 0, .int .i64 0, .int .i64 0, .int .i64 0, .int .i64 0, .int .i64 0, .int .i64 0, .int .i64 0, .int .i64 0, .int .i64 0, .int .i64 0, .int .i64 0, .int .i64 0, .bool false, .bool false, .bool false, .bool false, .int .i64 0, .slice none 0 0, .int .i64 0, .int .i64 0, .int .i64 0, .int .i64 0, .int .i64 0, .int .i64 0, .int .i64 0, .int .i64 0, .int .i64 0, .int .i64 0, .int .i64 0, .int .i64 0, .int .i64 0, .int .i64 0, .bool false, .bool false, .bool false, .bool false, .int .i64 0, .slice none 0 0, .int .i64 0, .int .i64 0, .slice none 0 0, .int .i64 0], .int .u8 0], []⟩ 8 (by kernel_rfl) (by kernel_rfl) (by kernel_rfl) (by kernel_rfl)) ?_
  intro W base args ds gs before hval hW _ _
  exact law_contract (D := 8) (by kernel_rfl) (of_allOk (by kernel_rfl)) (tb := 4) (by kernel_rfl) (by kernel_rfl) rfl (fun ds h => by
    have h : ds.length = 2 := h
    match ds, h with
    | [d0, d1], _ => rfl) lWeldTargetForceLimit aWeldTargetForceLimit W base args ds gs before hval hW

theorem weldTargetForceLimit_holds : Rows.WeldTargetForceLimitSaid :=
  OpenClaim.holds_of_wide 5 Try.f5 rfl rfl rfl rfl rfl rfl rfl ⟨rfl, rfl, rfl, rfl, rfl⟩ rfl rfl rfl rfl rfl (by kernel_rfl) Try.func5 (by kernel_rfl)
    (of_decide_eq_true (by kernel_rfl)) (by unfold Func.isWrapper; first | (rw [if_pos (by decide +kernel)]; kernel_rfl) | (rw [if_neg (by decide +kernel)]; exact ⟨rfl, rfl⟩))
    (fun os started H enc _ => liftedWeldTargetForceLimit os started H enc)

end Go.Proofs.Ytnbfkepiolakaaa
