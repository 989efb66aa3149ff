/- The contracts of pseudo-random numbers and permutations, program and reference. -/
import Derived.Test.YtpfaenikcpplfaaFix
import Derived.Test.YtpfaenikcpplfaaEngPrm
import Derived.Test.YtpfaenikcpplfaaEngJr
open Go Go.Eng
namespace Go.Proofs.Ytpfaenikcpplfaa
open Go.Fx (an orr)

theorem nxR_eq (s : Int) : (Fx.nextUR s, Fx.nextTR s) = (Fx.nextU s, Fx.nextT s) := by rw [Fx.nextUR_eq, Fx.nextTR_eq]
def intnQ (n _s : Int) : List Prop := [decide (n < 1) = false → Fx.wU n ≠ 0]
theorem intnQ_ok (n s : Int) (h : n ≤ 9223372036854775807) : Conj (intnQ n s) := ⟨fun h1 => by
  have h1 := of_decide_eq_false h1
  rw [Fx.wU_id (by omega) (by omega)]; omega, trivial⟩
def few (l : List Int) : List Prop := [l.length ≤ 65536]
theorem cNx : Sound Try.prog 13 (c1 eU eUU (fun s => (Fx.nextU s, Fx.nextT s))) :=
  con (lps := noLps) mixed .nil Try.func13 (by kernel_rfl) (by kernel_rfl) (noLoops (by kernel_rfl)) (k1 (fun _ => by kernel_rfl))
theorem rNx : Sound Try.prog 14 (c1 eU eUU (fun s => (Fx.nextU s, Fx.nextT s))) :=
  con (lps := noLps) mixed .nil Try.func14 (by kernel_rfl) (by kernel_rfl) (noLoops (by kernel_rfl)) (g1 (fun _ => []) (fun s => (Fx.nextUR s, Fx.nextTR s)) (fun _ _ => trivial) (fun s _ => nxR_eq s) (fun _ => by kernel_rfl))
theorem cInt : Sound Try.prog 15 (p2 eI eU eIU (fun n _ => [n ≤ 9223372036854775807]) Fx.intn) :=
  con (lps := noLps) mixed (.cons cNx .nil) Try.func15 (by kernel_rfl) (by kernel_rfl) (noLoops (by kernel_rfl)) (g2 intnQ Fx.intn (fun n s h => intnQ_ok n s h.1) (fun _ _ _ => rfl) (fun _ _ => by kernel_rfl))
theorem rInt : Sound Try.prog 16 (p2 eI eU eIU (fun n _ => [n ≤ 9223372036854775807]) Fx.intn) :=
  con (lps := noLps) mixed (.cons rNx .nil) Try.func16 (by kernel_rfl) (by kernel_rfl) (noLoops (by kernel_rfl)) (g2 intnQ Fx.intn (fun n s h => intnQ_ok n s h.1) (fun _ _ _ => rfl) (fun _ _ => by kernel_rfl))
noncomputable def isqL : List (FuncId × Contract) := []
def isqTv (c : (List Int) × (List Bool)) (i : Nat) (_x : (List Bool)) : List TV := [.val ((eSl .i64).pv c.1), .val (Bo false), .val (.fv (.one (.own 3))), .val ((eSl .i64).pv c.1), .val (I c.1.length), .val (I (i : Int))]
def isqMv (_c : (List Int) × (List Bool)) (_i : Nat) (x : (List Bool)) : List MRes := [.val (.row 4 ⟨.bl, x⟩)]
def isqEtv (_c : (List Int) × (List Bool)) (_e : Unit) : List TV := [.any, .val (Bo false), .any, .any, .any, .any]
def isqEmv (_c : (List Int) × (List Bool)) (_e : Unit) : List MRes := [.lost]
def isqDec : List TV → List MRes → Option (List Prop × ((List Int) × (List Bool)) × ((List Bool)))
  | [.val (.fv (.one (.slc false ⟨.i64, l⟩))), .val (Bo b), .val (.fv (.one (.own 3))), .val (.fv (.one (.slc false ⟨.i64, k⟩))), .val (I m), .val (I i)], [.val (.row 4 ⟨.bl, q⟩)] => some ([b = false, k = l, m = l.length, i = 0, q.length = l.length ∧ l.length ≤ 65536], (l, q), q)
  | _, _ => none
def isqOk (c : (List Int) × (List Bool)) : Prop := c.2.length = c.1.length ∧ c.1.length ≤ 65536
def isqInv (c : (List Int) × (List Bool)) (_i : Nat) (x : (List Bool)) : Prop := x.length = c.1.length
theorem isqDec_ok (ts : List TV) (ms : List MRes) (ps : List Prop) (c : (List Int) × (List Bool)) (x : (List Bool)) (h : isqDec ts ms = some (ps, c, x)) (hp : Conj ps) : ts = isqTv c 0 x ∧ ms = isqMv c 0 x ∧ isqOk c ∧ isqInv c 0 x := by
  unfold isqDec at h
  split at h
  · cases h
    obtain ⟨rfl, rfl, rfl, rfl, hok, _⟩ := hp
    exact ⟨rfl, rfl, hok, hok.1⟩
  · cases h
def isqStep (c : (List Int) × (List Bool)) (i : Nat) (x : (List Bool)) : Sum ((List Bool)) (Unit) := bif orr (orr (decide (c.1.getD i 0 < 0)) (decide (c.1.getD i 0 ≥ (c.1.length : Int)))) (x.getD (c.1.getD i 0).toNat false) then .inr () else .inl ((x.set (c.1.getD i 0).toNat true))
def isqV (c : (List Int) × (List Bool)) (i : Nat) (x : (List Bool)) : VT := VT.ite (decide ((i : Int) < (c.1.length : Int))) (VT.pre [0 ≤ (i : Int) ∧ (i : Int) < ((c.1).length : Int)] (VT.pre [orr (decide (c.1.getD i 0 < 0)) (decide (c.1.getD i 0 ≥ (c.1.length : Int))) = false → 0 ≤ c.1.getD i 0 ∧ c.1.getD i 0 < (x.length : Int), orr (decide (c.1.getD i 0 < 0)) (decide (c.1.getD i 0 ≥ (c.1.length : Int))) = false → (c.1.getD i 0).toNat < x.length] (VT.ite (orr (orr (decide (c.1.getD i 0 < 0)) (decide (c.1.getD i 0 ≥ (c.1.length : Int)))) (x.getD (c.1.getD i 0).toNat false)) (VT.leaf (Ex.ret) 33 [.val ((eSl .i64).pv c.1), .val (Bo false), .val (.fv (.one (.own 3))), .val ((eSl .i64).pv c.1), .val (I c.1.length), .val (I (i : Int))] [.val (.row 4 ⟨.bl, x⟩)]) (VT.pre [0 ≤ c.1.getD i 0 ∧ c.1.getD i 0 < (x.length : Int), (c.1.getD i 0).toNat < x.length] (VT.leaf Ex.norm 33 [.val ((eSl .i64).pv c.1), .val (Bo false), .val (.fv (.one (.own 3))), .val ((eSl .i64).pv c.1), .val (I c.1.length), .val (I (IntKind.i64.wrap ((i : Int) + 1)))] [.val (.row 4 ⟨.bl, (x.set (c.1.getD i 0).toNat true)⟩)]))))) (VT.leaf (Ex.exit 0) 33 [.val ((eSl .i64).pv c.1), .val (Bo false), .val (.fv (.one (.own 3))), .val ((eSl .i64).pv c.1), .val (I c.1.length), .val (I (i : Int))] [.val (.row 4 ⟨.bl, x⟩)])
theorem isqV_eq (c : (List Int) × (List Bool)) (i : Nat) (x : (List Bool)) : viewT [0, 2, 3, 9, 10, 11] [3] (sexec Try.prog (tbl isqL) (noLps) (lbN 0 Try.f12) (headSt 33 8 [0, 2, 3, 9, 10, 11] [3] (isqTv c i x) (isqMv c i x))) = isqV c i x := by kernel_rfl
noncomputable def isqT : St → Tree := forT 33 8 [0, 2, 3, 9, 10, 11] [3] isqDec (fun c => c.1.length) isqTv isqMv isqEtv isqEmv isqStep () 0 .ret
theorem isqA : AllSound Try.prog isqL := .nil
theorem isqLoop : LoopOk Try.prog isqT (lbN 0 Try.f12) :=
  forT_ok mixed isqA.tbl (noLoops (by kernel_rfl)) [3] (bn := fun c => True) (inv := isqInv) isqDec_ok (fun _ _ => ⟨⟨.inr rfl, .inr rfl, .inr rfl, .inr rfl, .inr rfl, .inr rfl, trivial⟩, ⟨.inr rfl, trivial⟩, rfl, rfl, rfl⟩)
    (fun _ _ _ _ _ _ hr h1 h2 => by
      trivial)
    (fun c i x hok hn hinv hi => ⟨_, isqV_eq c i x, by
      refine ⟨fun h => ?_, fun h => ?_⟩
      · have h : i < c.1.length := by simpa using h
        refine ⟨⟨⟨by omega, by first | omega | (have := h; omega)⟩, trivial⟩, ?_⟩
        refine ⟨(have h1 : x.length = c.1.length := hinv; ⟨fun g => by obtain ⟨g1, g2⟩ := Fx.of_orr g; have g1 := of_decide_eq_false g1; have g2 := of_decide_eq_false g2; omega, fun g => by obtain ⟨g1, g2⟩ := Fx.of_orr g; have g1 := of_decide_eq_false g1; have g2 := of_decide_eq_false g2; omega, trivial⟩), ?_⟩
        refine ⟨fun hb3 => ?_, fun hb3 => ?_⟩
        · exact ⟨rfl, .inr ⟨rfl, h, (), [], by unfold isqStep; first | rfl | ((try dsimp only); (try rw [hb3]); rfl), ⟨.inl rfl, .inr rfl, .inl rfl, .inl rfl, .inl rfl, .inl rfl, trivial⟩, ⟨.inl rfl, trivial⟩, rfl, rfl, rfl⟩⟩
        · refine ⟨(have h1 : x.length = c.1.length := hinv; by obtain ⟨g, _⟩ := Fx.of_orr hb3; obtain ⟨g1, g2⟩ := Fx.of_orr g; have g1 := of_decide_eq_false g1; have g2 := of_decide_eq_false g2; exact ⟨by omega, by omega, trivial⟩), ?_⟩
          rw [wrap_succ h (by have := hok.2; simp only [maxLen]; omega)]
          exact ⟨rfl, ((x.set (c.1.getD i 0).toNat true)), [], h, by unfold isqStep; first | rfl | ((try dsimp only); (try rw [hb3]); rfl), (by have h1 : x.length = c.1.length := hinv; show (x.set _ _).length = _; rw [List.length_set]; exact h1), ⟨.inr rfl, .inr rfl, .inr rfl, .inr rfl, .inr rfl, .inr rfl, trivial⟩, ⟨.inr rfl, trivial⟩, rfl, rfl, rfl⟩
      · have h : ¬ i < c.1.length := by simpa using h
        exact ⟨rfl, .inl ⟨rfl, by omega, [], ⟨.inr rfl, .inr rfl, .inr rfl, .inr rfl, .inr rfl, .inr rfl, trivial⟩, ⟨.inr rfl, trivial⟩, rfl, rfl, rfl⟩⟩⟩)
def isqQ (l : List Int) : List Prop := [0 ≤ (l.length : Int) ∧ (l.length : Int) ≤ (l.length : Int) ∧ (l.length : Int) * (1 : Nat) ≤ 140737488355328, false = false, l = l, (l.length : Int) = l.length, (0 : Int) = 0, (List.replicate (l.length : Int).toNat false).length = l.length ∧ l.length ≤ 65536]
def isqU (l : List Int) : Bool := bif isL (runF (isqStep (l, List.replicate l.length false)) l.length 0 (List.replicate l.length false)) then true else false
theorem isqQ_ok (l : List Int) (h : l.length ≤ 65536) : Conj (isqQ l) := ⟨⟨by omega, by omega, by omega⟩, rfl, rfl, rfl, rfl, ⟨by rw [Int.toNat_natCast, List.length_replicate], h⟩, trivial⟩
theorem isqEq (l : List Int) : symFn Try.prog (tbl []) (fun _ => isqT) 12 [(eSl .i64).pv l] = some (isqQ l, eB.pv (isqU l)) := by kernel_rfl
theorem isqU_eq (l : List Int) : isqU l = Fx.isP l := by
  show (bif Fx.isP l then true else false) = Fx.isP l
  cases Fx.isP l <;> rfl
theorem cIsP : Sound Try.prog 12 (p1 (eSl .i64) eB few Fx.isP) :=
  con (lps := fun _ => isqT) mixed .nil Try.func12 (by kernel_rfl) (by kernel_rfl) (oneLoop (lps := fun _ => isqT) (b := lbN 0 Try.f12) (by kernel_rfl) isqLoop)
    (g1 isqQ isqU (fun l h => isqQ_ok l h.1) (fun l _ => isqU_eq l) isqEq)
noncomputable def inqL : List (FuncId × Contract) := []
def inqTv (c : (List Int) × (List Int)) (i : Nat) (_x : (List Int)) : List TV := [.val (.fv (.one (.own 6))), .val ((eSl .i64).pv c.1), .val (I c.1.length), .val (I (i : Int))]
def inqMv (_c : (List Int) × (List Int)) (_i : Nat) (x : (List Int)) : List MRes := [.val (.row 3 ⟨.i64, x⟩)]
def inqDec : List TV → List MRes → Option (List Prop × ((List Int) × (List Int)) × ((List Int)))
  | [.val (.fv (.one (.own 6))), .val (.fv (.one (.slc false ⟨.i64, l⟩))), .val (I m), .val (I i)], [.val (.row 3 ⟨.i64, q⟩)] => some ([m = l.length, i = 0, (q.length = l.length ∧ l.length ≤ 65536) ∧ Fx.IsPm l l.length], (l, q), q)
  | _, _ => none
def inqOk (c : (List Int) × (List Int)) : Prop := (c.2.length = c.1.length ∧ c.1.length ≤ 65536) ∧ Fx.IsPm c.1 c.1.length
def inqInv (c : (List Int) × (List Int)) (_i : Nat) (x : (List Int)) : Prop := x.length = c.1.length
theorem inqDec_ok (ts : List TV) (ms : List MRes) (ps : List Prop) (c : (List Int) × (List Int)) (x : (List Int)) (h : inqDec ts ms = some (ps, c, x)) (hp : Conj ps) : ts = inqTv c 0 x ∧ ms = inqMv c 0 x ∧ inqOk c ∧ inqInv c 0 x := by
  unfold inqDec at h
  split at h
  · cases h
    obtain ⟨rfl, rfl, hok, _⟩ := hp
    exact ⟨rfl, rfl, hok, hok.1.1⟩
  · cases h
def inqStep (c : (List Int) × (List Int)) (i : Nat) (x : (List Int)) : (List Int) := ((x.set (c.1.getD i 0).toNat (i : Int)))
def inqV (c : (List Int) × (List Int)) (i : Nat) (x : (List Int)) : VT := VT.ite (decide ((i : Int) < (c.1.length : Int))) (VT.pre [0 ≤ (i : Int) ∧ (i : Int) < ((c.1).length : Int)] (VT.pre [0 ≤ c.1.getD i 0 ∧ c.1.getD i 0 < (x.length : Int), (c.1.getD i 0).toNat < x.length] (VT.leaf Ex.norm 25 [.val (.fv (.one (.own 6))), .val ((eSl .i64).pv c.1), .val (I c.1.length), .val (I (IntKind.i64.wrap ((i : Int) + 1)))] [.val (.row 3 ⟨.i64, (x.set (c.1.getD i 0).toNat (i : Int))⟩)]))) (VT.leaf (Ex.exit 0) 25 [.val (.fv (.one (.own 6))), .val ((eSl .i64).pv c.1), .val (I c.1.length), .val (I (i : Int))] [.val (.row 3 ⟨.i64, x⟩)])
theorem inqV_eq (c : (List Int) × (List Int)) (i : Nat) (x : (List Int)) : viewT [3, 12, 13, 14] [6] (sexec Try.prog (tbl inqL) (noLps) (lbN 0 Try.f18) (headSt 25 11 [3, 12, 13, 14] [6] (inqTv c i x) (inqMv c i x))) = inqV c i x := by kernel_rfl
noncomputable def inqT : St → Tree := forT0 25 11 [3, 12, 13, 14] [6] inqDec (fun c => c.1.length) inqTv inqMv inqStep 0
theorem inqA : AllSound Try.prog inqL := .nil
theorem inqLoop : LoopOk Try.prog inqT (lbN 0 Try.f18) :=
  forT0_ok mixed inqA.tbl (noLoops (by kernel_rfl)) [6] (bn := fun c => True) (inv := inqInv) inqDec_ok (fun _ _ => ⟨⟨.inr rfl, .inr rfl, .inr rfl, .inr rfl, trivial⟩, ⟨.inr rfl, trivial⟩, rfl, rfl, rfl⟩)
    (fun _ _ _ _ _ _ hr h1 h2 => by
      trivial)
    (fun c i x hok hn hinv hi => ⟨_, inqV_eq c i x, by
      refine ⟨fun h => ?_, fun h => ?_⟩
      · have h : i < c.1.length := by simpa using h
        refine ⟨⟨⟨by omega, by first | omega | (have := h; omega)⟩, trivial⟩, ?_⟩
        refine ⟨(have h1 : x.length = c.1.length := hinv; have h2 := hok.2.rng i h; ⟨by omega, by omega, trivial⟩), ?_⟩
        rw [wrap_succ h (by have := hok.1.2; simp only [maxLen]; omega)]
        exact ⟨rfl, ((x.set (c.1.getD i 0).toNat (i : Int))), [], h, by unfold inqStep; rfl, (by have h1 : x.length = c.1.length := hinv; show (x.set _ _).length = _; rw [List.length_set]; exact h1), ⟨.inr rfl, .inr rfl, .inr rfl, .inr rfl, trivial⟩, ⟨.inr rfl, trivial⟩, rfl, rfl, rfl⟩
      · have h : ¬ i < c.1.length := by simpa using h
        exact ⟨rfl, .inl ⟨rfl, by omega, [], ⟨.inr rfl, .inr rfl, .inr rfl, .inr rfl, trivial⟩, ⟨.inr rfl, trivial⟩, rfl, rfl, rfl⟩⟩⟩)
def inqQ (isp : List Int → Bool) (l : List Int) : List Prop := [l.length ≤ 65536, (!isp l) = false → 0 ≤ (l.length : Int) ∧ (l.length : Int) ≤ (l.length : Int) ∧ (l.length : Int) * (8 : Nat) ≤ 140737488355328, (!isp l) = false → (l.length : Int) = l.length, (!isp l) = false → (0 : Int) = 0,
  (!isp l) = false → ((List.replicate (l.length : Int).toNat (0 : Int)).length = l.length ∧ l.length ≤ 65536) ∧ Fx.IsPm l l.length]
def inqU (isp : List Int → Bool) (l : List Int) : List Int := bif !isp l then [] else foldN (inqStep (l, List.replicate l.length 0)) l.length 0 (List.replicate l.length 0)
theorem inqQ_ok (l : List Int) (h : l.length ≤ 65536) : Conj (inqQ Fx.isP l) :=
  ⟨h, fun _ => ⟨by omega, by omega, by omega⟩, fun _ => rfl, fun _ => rfl, fun g => ⟨⟨by rw [Int.toNat_natCast, List.length_replicate], h⟩, (Fx.isP_iff l).1 (by simpa using g)⟩, trivial⟩
theorem inqEq (isp : List Int → Bool) (l : List Int) : symFn Try.prog (tbl [(12, p1 (eSl .i64) eB few isp)]) (fun _ => inqT) 18 [(eSl .i64).pv l] = some (inqQ isp l, (eFr 3 .i64).pv (inqU isp l)) := by kernel_rfl
theorem cInv : Sound Try.prog 18 (p1 (eSl .i64) (eFr 3 .i64) few Fx.pinv) :=
  con (lps := fun _ => inqT) mixed (AllSound.cons cIsP .nil) Try.func18 (by kernel_rfl) (by kernel_rfl) (oneLoop (lps := fun _ => inqT) (b := lbN 0 Try.f18) (by kernel_rfl) inqLoop)
    (g1 (inqQ Fx.isP) (inqU Fx.isP) (fun l h => inqQ_ok l h.1) (fun l _ => Fx.pinvP_eq l) (inqEq Fx.isP))
noncomputable def apqL : List (FuncId × Contract) := []
def apqTv (c : (List Int) × (List Int)) (i : Nat) (_x : (List Int)) : List TV := [.val ((eSl .i64).pv c.1), .val (.fv (.one (.own 11))), .val ((eSl .i64).pv c.2), .val (I c.2.length), .val (I (i : Int))]
def apqMv (_c : (List Int) × (List Int)) (_i : Nat) (x : (List Int)) : List MRes := [.val (.row 3 ⟨.i64, x⟩)]
def apqDec : List TV → List MRes → Option (List Prop × ((List Int) × (List Int)) × ((List Int)))
  | [.val (.fv (.one (.slc false ⟨.i64, a⟩))), .val (.fv (.one (.own 11))), .val (.fv (.one (.slc false ⟨.i64, b⟩))), .val (I m), .val (I i)], [.val (.row 3 ⟨.i64, w⟩)] => some ([w = [], m = b.length, i = 0, (a.length = b.length ∧ b.length ≤ 65536) ∧ Fx.IsPm b b.length], (a, b), [])
  | _, _ => none
def apqOk (c : (List Int) × (List Int)) : Prop := (c.1.length = c.2.length ∧ c.2.length ≤ 65536) ∧ Fx.IsPm c.2 c.2.length
def apqInv (_c : (List Int) × (List Int)) (i : Nat) (x : (List Int)) : Prop := x.length ≤ i
theorem apqDec_ok (ts : List TV) (ms : List MRes) (ps : List Prop) (c : (List Int) × (List Int)) (x : (List Int)) (h : apqDec ts ms = some (ps, c, x)) (hp : Conj ps) : ts = apqTv c 0 x ∧ ms = apqMv c 0 x ∧ apqOk c ∧ apqInv c 0 x := by
  unfold apqDec at h
  split at h
  · cases h
    obtain ⟨rfl, rfl, rfl, hok, _⟩ := hp
    exact ⟨rfl, rfl, hok, (Nat.le_refl 0)⟩
  · cases h
def apqStep (c : (List Int) × (List Int)) (i : Nat) (x : (List Int)) : (List Int) := ((x ++ [c.1.getD (c.2.getD i 0).toNat 0]))
def apqV (c : (List Int) × (List Int)) (i : Nat) (x : (List Int)) : VT := VT.ite (decide ((i : Int) < (c.2.length : Int))) (VT.pre [0 ≤ (i : Int) ∧ (i : Int) < ((c.2).length : Int)] (VT.pre [0 ≤ c.2.getD i 0 ∧ c.2.getD i 0 < (c.1.length : Int), (x.length + 1) * 8 ≤ 140737488355328] (VT.leaf Ex.norm 33 [.val ((eSl .i64).pv c.1), .val (.fv (.one (.own 25))), .val ((eSl .i64).pv c.2), .val (I c.2.length), .val (I (IntKind.i64.wrap ((i : Int) + 1)))] [.lost, .val (.row 3 ⟨.i64, (x ++ [c.1.getD (c.2.getD i 0).toNat 0])⟩)]))) (VT.leaf (Ex.exit 0) 33 [.val ((eSl .i64).pv c.1), .val (.fv (.one (.own 11))), .val ((eSl .i64).pv c.2), .val (I c.2.length), .val (I (i : Int))] [.val (.row 3 ⟨.i64, x⟩), .free])
theorem apqV_eq (c : (List Int) × (List Int)) (i : Nat) (x : (List Int)) : viewT [0, 5, 18, 19, 20] [11, 25] (sexec Try.prog (tbl apqL) (noLps) (lbN 0 Try.f22) (headSt 33 15 [0, 5, 18, 19, 20] [11] (apqTv c i x) (apqMv c i x))) = apqV c i x := by kernel_rfl
noncomputable def apqT : St → Tree := forT0 33 15 [0, 5, 18, 19, 20] [11] apqDec (fun c => c.2.length) apqTv apqMv apqStep 0
theorem apqA : AllSound Try.prog apqL := .nil
theorem apqLoop : LoopOk Try.prog apqT (lbN 0 Try.f22) :=
  forT0_ok mixed apqA.tbl (noLoops (by kernel_rfl)) [11, 25] (bn := fun c => True) (inv := apqInv) apqDec_ok (fun _ _ => ⟨⟨.inr rfl, .inr rfl, .inr rfl, .inr rfl, .inr rfl, trivial⟩, ⟨.inr rfl, trivial⟩, rfl, rfl, rfl⟩)
    (fun _ _ _ _ _ _ hr h1 h2 => by
      trivial)
    (fun c i x hok hn hinv hi => ⟨_, apqV_eq c i x, by
      refine ⟨fun h => ?_, fun h => ?_⟩
      · have h : i < c.2.length := by simpa using h
        refine ⟨⟨⟨by omega, by first | omega | (have := h; omega)⟩, trivial⟩, ?_⟩
        refine ⟨(have h1 : x.length ≤ i := hinv; have h2 := hok.2.rng i h; have h3 : c.1.length = c.2.length := hok.1.1; have h4 : c.2.length ≤ 65536 := hok.1.2; ⟨⟨h2.1, by rw [h3]; exact h2.2⟩, by omega, trivial⟩), ?_⟩
        rw [wrap_succ h (by have := hok.1.2; simp only [maxLen]; omega)]
        exact ⟨rfl, ((x ++ [c.1.getD (c.2.getD i 0).toNat 0])), [(11, 25)], h, by unfold apqStep; rfl, (by have h1 : x.length ≤ i := hinv; show (x ++ [_]).length ≤ i + 1; rw [List.length_append]; exact Nat.add_le_add_right h1 1), ⟨.inr rfl, .inr rfl, .inr rfl, .inr rfl, .inr rfl, trivial⟩, ⟨.inr rfl, trivial⟩, rfl, rfl, rfl⟩
      · have h : ¬ i < c.2.length := by simpa using h
        exact ⟨rfl, .inl ⟨rfl, by omega, [], ⟨.inr rfl, .inr rfl, .inr rfl, .inr rfl, .inr rfl, trivial⟩, ⟨.inr rfl, trivial⟩, rfl, rfl, rfl⟩⟩⟩)
def apqG (isp : List Int → Bool) (a : List Int) (b : List Int) : Bool := orr ((a.length : Int) != b.length) (!isp b)
def apqQ (isp : List Int → Bool) (a : List Int) (b : List Int) : List Prop := [((a.length : Int) != b.length) = false → b.length ≤ 65536, apqG isp a b = false → ([] : List Int) = [], apqG isp a b = false → (b.length : Int) = b.length, apqG isp a b = false → (0 : Int) = 0, apqG isp a b = false → (a.length = b.length ∧ b.length ≤ 65536) ∧ Fx.IsPm b b.length]
def apqU (isp : List Int → Bool) (a : List Int) (b : List Int) : List Int := bif apqG isp a b then [] else foldN (apqStep (a, b)) b.length 0 []
theorem apqQ_ok (a : List Int) (b : List Int) (h : b.length ≤ 65536) : Conj (apqQ Fx.isP a b) :=
  ⟨fun _ => h, fun _ => rfl, fun _ => rfl, fun _ => rfl, fun g => by
    obtain ⟨g1, g2⟩ := Fx.of_orr g
    exact ⟨⟨by simp at g1; omega, h⟩, (Fx.isP_iff b).1 (by simpa using g2)⟩, trivial⟩
theorem apqEq (isp : List Int → Bool) (a : List Int) (b : List Int) : symFn Try.prog (tbl [(12, p1 (eSl .i64) eB few isp)]) (fun _ => apqT) 22 [(eSl .i64).pv a, (eSl .i64).pv b] = some (apqQ isp a b, (eFr 3 .i64).pv (apqU isp a b)) := by kernel_rfl
theorem cApq : Sound Try.prog 22 (p2 (eSl .i64) (eSl .i64) (eFr 3 .i64) (fun _ b => [b.length ≤ 65536]) (Fx.appl (0 : Int))) :=
  con (lps := fun _ => apqT) mixed (AllSound.cons cIsP .nil) Try.func22 (by kernel_rfl) (by kernel_rfl) (oneLoop (lps := fun _ => apqT) (b := lbN 0 Try.f22) (by kernel_rfl) apqLoop)
    (g2 (apqQ Fx.isP) (apqU Fx.isP) (fun a b h => apqQ_ok a b h.1) (fun a b _ => Fx.applP_eq (0 : Int) a b) (apqEq Fx.isP))
noncomputable def apvL : List (FuncId × Contract) := []
def apvTv (c : (List Fx.Vec) × (List Int)) (i : Nat) (_x : (List Fx.Vec)) : List TV := [.val ((eSl .vec).pv c.1), .val (.fv (.one (.own 11))), .val ((eSl .i64).pv c.2), .val (I c.2.length), .val (I (i : Int))]
def apvMv (_c : (List Fx.Vec) × (List Int)) (_i : Nat) (x : (List Fx.Vec)) : List MRes := [.val (.row 40 ⟨.vec, x⟩)]
def apvDec : List TV → List MRes → Option (List Prop × ((List Fx.Vec) × (List Int)) × ((List Fx.Vec)))
  | [.val (.fv (.one (.slc false ⟨.vec, a⟩))), .val (.fv (.one (.own 11))), .val (.fv (.one (.slc false ⟨.i64, b⟩))), .val (I m), .val (I i)], [.val (.row 40 ⟨.vec, w⟩)] => some ([w = [], m = b.length, i = 0, (a.length = b.length ∧ b.length ≤ 65536) ∧ Fx.IsPm b b.length], (a, b), [])
  | _, _ => none
def apvOk (c : (List Fx.Vec) × (List Int)) : Prop := (c.1.length = c.2.length ∧ c.2.length ≤ 65536) ∧ Fx.IsPm c.2 c.2.length
def apvInv (_c : (List Fx.Vec) × (List Int)) (i : Nat) (x : (List Fx.Vec)) : Prop := x.length ≤ i
theorem apvDec_ok (ts : List TV) (ms : List MRes) (ps : List Prop) (c : (List Fx.Vec) × (List Int)) (x : (List Fx.Vec)) (h : apvDec ts ms = some (ps, c, x)) (hp : Conj ps) : ts = apvTv c 0 x ∧ ms = apvMv c 0 x ∧ apvOk c ∧ apvInv c 0 x := by
  unfold apvDec at h
  split at h
  · cases h
    obtain ⟨rfl, rfl, rfl, hok, _⟩ := hp
    exact ⟨rfl, rfl, hok, (Nat.le_refl 0)⟩
  · cases h
def apvStep (c : (List Fx.Vec) × (List Int)) (i : Nat) (x : (List Fx.Vec)) : (List Fx.Vec) := ((x ++ [c.1.getD (c.2.getD i 0).toNat (⟨0, 0⟩ : Fx.Vec)]))
def apvV (c : (List Fx.Vec) × (List Int)) (i : Nat) (x : (List Fx.Vec)) : VT := VT.ite (decide ((i : Int) < (c.2.length : Int))) (VT.pre [0 ≤ (i : Int) ∧ (i : Int) < ((c.2).length : Int)] (VT.pre [0 ≤ c.2.getD i 0 ∧ c.2.getD i 0 < (c.1.length : Int), (x.length + 1) * 16 ≤ 140737488355328] (VT.leaf Ex.norm 33 [.val ((eSl .vec).pv c.1), .val (.fv (.one (.own 25))), .val ((eSl .i64).pv c.2), .val (I c.2.length), .val (I (IntKind.i64.wrap ((i : Int) + 1)))] [.lost, .val (.row 40 ⟨.vec, (x ++ [c.1.getD (c.2.getD i 0).toNat (⟨0, 0⟩ : Fx.Vec)])⟩)]))) (VT.leaf (Ex.exit 0) 33 [.val ((eSl .vec).pv c.1), .val (.fv (.one (.own 11))), .val ((eSl .i64).pv c.2), .val (I c.2.length), .val (I (i : Int))] [.val (.row 40 ⟨.vec, x⟩), .free])
theorem apvV_eq (c : (List Fx.Vec) × (List Int)) (i : Nat) (x : (List Fx.Vec)) : viewT [0, 5, 18, 19, 20] [11, 25] (sexec Try.prog (tbl apvL) (noLps) (lbN 0 Try.f24) (headSt 33 15 [0, 5, 18, 19, 20] [11] (apvTv c i x) (apvMv c i x))) = apvV c i x := by kernel_rfl
noncomputable def apvT : St → Tree := forT0 33 15 [0, 5, 18, 19, 20] [11] apvDec (fun c => c.2.length) apvTv apvMv apvStep 0
theorem apvA : AllSound Try.prog apvL := .nil
theorem apvLoop : LoopOk Try.prog apvT (lbN 0 Try.f24) :=
  forT0_ok mixed apvA.tbl (noLoops (by kernel_rfl)) [11, 25] (bn := fun c => True) (inv := apvInv) apvDec_ok (fun _ _ => ⟨⟨.inr rfl, .inr rfl, .inr rfl, .inr rfl, .inr rfl, trivial⟩, ⟨.inr rfl, trivial⟩, rfl, rfl, rfl⟩)
    (fun _ _ _ _ _ _ hr h1 h2 => by
      trivial)
    (fun c i x hok hn hinv hi => ⟨_, apvV_eq c i x, by
      refine ⟨fun h => ?_, fun h => ?_⟩
      · have h : i < c.2.length := by simpa using h
        refine ⟨⟨⟨by omega, by first | omega | (have := h; omega)⟩, trivial⟩, ?_⟩
        refine ⟨(have h1 : x.length ≤ i := hinv; have h2 := hok.2.rng i h; have h3 : c.1.length = c.2.length := hok.1.1; have h4 : c.2.length ≤ 65536 := hok.1.2; ⟨⟨h2.1, by rw [h3]; exact h2.2⟩, by omega, trivial⟩), ?_⟩
        rw [wrap_succ h (by have := hok.1.2; simp only [maxLen]; omega)]
        exact ⟨rfl, ((x ++ [c.1.getD (c.2.getD i 0).toNat (⟨0, 0⟩ : Fx.Vec)])), [(11, 25)], h, by unfold apvStep; rfl, (by have h1 : x.length ≤ i := hinv; show (x ++ [_]).length ≤ i + 1; rw [List.length_append]; exact Nat.add_le_add_right h1 1), ⟨.inr rfl, .inr rfl, .inr rfl, .inr rfl, .inr rfl, trivial⟩, ⟨.inr rfl, trivial⟩, rfl, rfl, rfl⟩
      · have h : ¬ i < c.2.length := by simpa using h
        exact ⟨rfl, .inl ⟨rfl, by omega, [], ⟨.inr rfl, .inr rfl, .inr rfl, .inr rfl, .inr rfl, trivial⟩, ⟨.inr rfl, trivial⟩, rfl, rfl, rfl⟩⟩⟩)
def apvG (isp : List Int → Bool) (a : List Fx.Vec) (b : List Int) : Bool := orr ((a.length : Int) != b.length) (!isp b)
def apvQ (isp : List Int → Bool) (a : List Fx.Vec) (b : List Int) : List Prop := [((a.length : Int) != b.length) = false → b.length ≤ 65536, apvG isp a b = false → ([] : List Fx.Vec) = [], apvG isp a b = false → (b.length : Int) = b.length, apvG isp a b = false → (0 : Int) = 0, apvG isp a b = false → (a.length = b.length ∧ b.length ≤ 65536) ∧ Fx.IsPm b b.length]
def apvU (isp : List Int → Bool) (a : List Fx.Vec) (b : List Int) : List Fx.Vec := bif apvG isp a b then [] else foldN (apvStep (a, b)) b.length 0 []
theorem apvQ_ok (a : List Fx.Vec) (b : List Int) (h : b.length ≤ 65536) : Conj (apvQ Fx.isP a b) :=
  ⟨fun _ => h, fun _ => rfl, fun _ => rfl, fun _ => rfl, fun g => by
    obtain ⟨g1, g2⟩ := Fx.of_orr g
    exact ⟨⟨by simp at g1; omega, h⟩, (Fx.isP_iff b).1 (by simpa using g2)⟩, trivial⟩
theorem apvEq (isp : List Int → Bool) (a : List Fx.Vec) (b : List Int) : symFn Try.prog (tbl [(12, p1 (eSl .i64) eB few isp)]) (fun _ => apvT) 24 [(eSl .vec).pv a, (eSl .i64).pv b] = some (apvQ isp a b, (eFr 40 .vec).pv (apvU isp a b)) := by kernel_rfl
theorem cApv : Sound Try.prog 24 (p2 (eSl .vec) (eSl .i64) (eFr 40 .vec) (fun _ b => [b.length ≤ 65536]) (Fx.appl (⟨0, 0⟩ : Fx.Vec))) :=
  con (lps := fun _ => apvT) mixed (AllSound.cons cIsP .nil) Try.func24 (by kernel_rfl) (by kernel_rfl) (oneLoop (lps := fun _ => apvT) (b := lbN 0 Try.f24) (by kernel_rfl) apvLoop)
    (g2 (apvQ Fx.isP) (apvU Fx.isP) (fun a b h => apvQ_ok a b h.1) (fun a b _ => Fx.applP_eq (⟨0, 0⟩ : Fx.Vec) a b) (apvEq Fx.isP))
theorem cmp_eq (a b : List Int) : (bif !Fx.isP a then [] else Fx.appl (0 : Int) a b) = Fx.comp a b := rfl
theorem cComp : Sound Try.prog 20 (p2 (eSl .i64) (eSl .i64) (eFr 3 .i64) (fun a b => [a.length ≤ 65536, b.length ≤ 65536]) Fx.comp) :=
  con (lps := noLps) mixed (.cons cIsP (.cons cApq .nil)) Try.func20 (by kernel_rfl) (by kernel_rfl) (noLoops (by kernel_rfl)) (g2 (fun a b => [a.length ≤ 65536, (!Fx.isP a) = false → b.length ≤ 65536]) Fx.comp (fun a b h => ⟨h.1, fun _ => h.2.1, trivial⟩) (fun _ _ _ => rfl) (fun _ _ => by kernel_rfl))
noncomputable def ixoL : List (FuncId × Contract) := []
def ixoTv (c : (List Int) × (Int)) (i : Nat) (_x : Unit) : List TV := [.val ((eSl .i64).pv c.1), .val (I c.2), .val (I 0), .val (I (i : Int))]
def ixoMv (_c : (List Int) × (Int)) (_i : Nat) (_x : Unit) : List MRes := []
def ixoEtv (_c : (List Int) × (Int)) (e : Int) : List TV := [.any, .any, .val (I e), .any]
def ixoEmv (_c : (List Int) × (Int)) (_e : Int) : List MRes := []
def ixoDec : List TV → List MRes → Option (List Prop × ((List Int) × (Int)) × (Unit))
  | [.val (.fv (.one (.slc false ⟨.i64, l⟩))), .val (I n), .val (I r), .val (I i)], [] => some ([r = 0, i = 0], (l, n), ())
  | _, _ => none
def ixoOk (_c : (List Int) × (Int)) : Prop := True
def ixoInv (_c : (List Int) × (Int)) (_i : Nat) (_x : Unit) : Prop := True
theorem ixoDec_ok (ts : List TV) (ms : List MRes) (ps : List Prop) (c : (List Int) × (Int)) (x : Unit) (h : ixoDec ts ms = some (ps, c, x)) (hp : Conj ps) : ts = ixoTv c 0 x ∧ ms = ixoMv c 0 x ∧ ixoOk c ∧ ixoInv c 0 x := by
  unfold ixoDec at h
  split at h
  · cases h
    obtain ⟨rfl, rfl, _⟩ := hp
    exact ⟨rfl, rfl, trivial, trivial⟩
  · cases h
def ixoStep (c : (List Int) × (Int)) (i : Nat) (_x : Unit) : Sum (Unit) (Int) := bif c.1.getD i 0 == c.2 then .inr (i : Int) else .inl ()
def ixoV (c : (List Int) × (Int)) (i : Nat) (_x : Unit) : VT := VT.ite (decide ((i : Int) < (c.1.length : Int))) (VT.pre [0 ≤ (i : Int) ∧ (i : Int) < ((c.1).length : Int)] (VT.ite (c.1.getD i 0 == c.2) (VT.leaf (Ex.ret) 19 [.val ((eSl .i64).pv c.1), .val (I c.2), .val (I (i : Int)), .val (I (i : Int))] []) (VT.leaf Ex.norm 19 [.val ((eSl .i64).pv c.1), .val (I c.2), .val (I 0), .val (I (IntKind.i64.wrap ((i : Int) + 1)))] []))) (VT.leaf (Ex.exit 0) 19 [.val ((eSl .i64).pv c.1), .val (I c.2), .val (I 0), .val (I (i : Int))] [])
theorem ixoV_eq (c : (List Int) × (Int)) (i : Nat) (x : Unit) : viewT [0, 1, 4, 5] [] (sexec Try.prog (tbl ixoL) (noLps) (lbN 0 Try.f25) (headSt 19 2 [0, 1, 4, 5] [] (ixoTv c i x) (ixoMv c i x))) = ixoV c i x := by kernel_rfl
noncomputable def ixoT : St → Tree := forT 19 2 [0, 1, 4, 5] [] ixoDec (fun c => c.1.length) ixoTv ixoMv ixoEtv ixoEmv ixoStep 0 0 .ret
theorem ixoA : AllSound Try.prog ixoL := .nil
theorem ixoLoop : LoopOk Try.prog ixoT (lbN 0 Try.f25) :=
  forT_ok mixed ixoA.tbl (noLoops (by kernel_rfl)) [] (bn := fun c => c.1.length ≤ maxLen) (inv := ixoInv) ixoDec_ok (fun _ _ => ⟨⟨.inr rfl, .inr rfl, .inr rfl, .inr rfl, trivial⟩, trivial, rfl, rfl, rfl⟩)
    (fun _ _ _ _ _ _ hr h1 h2 => by
      simp only [List.map_cons, ixoTv, List.cons.injEq] at h1; exact len_le hr h1.1)
    (fun c i x hok hn hinv hi => ⟨_, ixoV_eq c i x, by
      refine ⟨fun h => ?_, fun h => ?_⟩
      · have h : i < c.1.length := by simpa using h
        refine ⟨⟨⟨by omega, by first | omega | (have := h; omega)⟩, trivial⟩, ?_⟩
        refine ⟨fun hb2 => ?_, fun hb2 => ?_⟩
        · exact ⟨rfl, .inr ⟨rfl, h, (i : Int), [], by unfold ixoStep; first | rfl | ((try dsimp only); (try rw [hb2]); rfl), ⟨.inl rfl, .inl rfl, .inr rfl, .inl rfl, trivial⟩, trivial, rfl, rfl, rfl⟩⟩
        · rw [wrap_succ h hn]
          exact ⟨rfl, (), [], h, by unfold ixoStep; first | rfl | ((try dsimp only); (try rw [hb2]); rfl), trivial, ⟨.inr rfl, .inr rfl, .inr rfl, .inr rfl, trivial⟩, trivial, rfl, rfl, rfl⟩
      · have h : ¬ i < c.1.length := by simpa using h
        exact ⟨rfl, .inl ⟨rfl, by omega, [], ⟨.inr rfl, .inr rfl, .inr rfl, .inr rfl, trivial⟩, trivial, rfl, rfl, rfl⟩⟩⟩)
def ixoU (l : List Int) (n : Int) : Int := bif isL (runF (ixoStep (l, n)) l.length 0 ()) then -1 else getR 0 (runF (ixoStep (l, n)) l.length 0 ())
theorem ixoU_eq (l : List Int) (n : Int) : ixoU l n = Fx.ix l n := rfl
theorem rIxo : Sound Try.prog 25 (c2 (eSl .i64) eI eI Fx.ix) :=
  con (lps := fun _ => ixoT) mixed .nil Try.func25 (by kernel_rfl) (by kernel_rfl) (oneLoop (lps := fun _ => ixoT) (b := (lbN 0 Try.f25)) (by kernel_rfl) ixoLoop) (g2 (fun _ _ => [(0 : Int) = 0, (0 : Int) = 0]) ixoU (fun _ _ _ => ⟨rfl, rfl, trivial⟩) (fun l n _ => ixoU_eq l n) (fun _ _ => by kernel_rfl))
noncomputable def ripL : List (FuncId × Contract) := [(25, c2 (eSl .i64) eI eI Fx.ix)]
def ripTv (c : (List Int)) (i : Nat) (_x : Unit) : List TV := [.val ((eSl .i64).pv c), .val (Bo false), .val (I (i : Int))]
def ripMv (_c : (List Int)) (_i : Nat) (_x : Unit) : List MRes := []
def ripEtv (_c : (List Int)) (_e : Unit) : List TV := [.any, .val (Bo false), .any]
def ripEmv (_c : (List Int)) (_e : Unit) : List MRes := []
def ripDec : List TV → List MRes → Option (List Prop × ((List Int)) × (Unit))
  | [.val (.fv (.one (.slc false ⟨.i64, l⟩))), .val (Bo b), .val (I i)], [] => some ([b = false, i = 0], l, ())
  | _, _ => none
def ripOk (_c : (List Int)) : Prop := True
def ripInv (_c : (List Int)) (_i : Nat) (_x : Unit) : Prop := True
theorem ripDec_ok (ts : List TV) (ms : List MRes) (ps : List Prop) (c : (List Int)) (x : Unit) (h : ripDec ts ms = some (ps, c, x)) (hp : Conj ps) : ts = ripTv c 0 x ∧ ms = ripMv c 0 x ∧ ripOk c ∧ ripInv c 0 x := by
  unfold ripDec at h
  split at h
  · cases h
    obtain ⟨rfl, rfl, _⟩ := hp
    exact ⟨rfl, rfl, trivial, trivial⟩
  · cases h
def ripStep (c : (List Int)) (i : Nat) (_x : Unit) : Sum (Unit) (Unit) := bif decide (Fx.ix c i < 0) then .inr () else .inl ()
def ripV (c : (List Int)) (i : Nat) (_x : Unit) : VT := VT.ite (decide ((i : Int) < (c.length : Int))) (VT.ite (decide (Fx.ix c i < 0)) (VT.leaf (Ex.ret) 14 [.val ((eSl .i64).pv c), .val (Bo false), .val (I (i : Int))] []) (VT.leaf Ex.norm 14 [.val ((eSl .i64).pv c), .val (Bo false), .val (I (IntKind.i64.wrap ((i : Int) + 1)))] [])) (VT.leaf (Ex.exit 0) 14 [.val ((eSl .i64).pv c), .val (Bo false), .val (I (i : Int))] [])
theorem ripV_eq (c : (List Int)) (i : Nat) (x : Unit) : viewT [0, 2, 3] [] (sexec Try.prog (tbl ripL) (noLps) (lbN 0 Try.f17) (headSt 14 2 [0, 2, 3] [] (ripTv c i x) (ripMv c i x))) = ripV c i x := by kernel_rfl
noncomputable def ripT : St → Tree := forT 14 2 [0, 2, 3] [] ripDec (fun c => c.length) ripTv ripMv ripEtv ripEmv ripStep () 0 .ret
theorem ripA : AllSound Try.prog ripL := (.cons rIxo .nil)
theorem ripLoop : LoopOk Try.prog ripT (lbN 0 Try.f17) :=
  forT_ok mixed ripA.tbl (noLoops (by kernel_rfl)) [] (bn := fun c => c.length ≤ maxLen) (inv := ripInv) ripDec_ok (fun _ _ => ⟨⟨.inr rfl, .inr rfl, .inr rfl, trivial⟩, trivial, rfl, rfl, rfl⟩)
    (fun _ _ _ _ _ _ hr h1 h2 => by
      simp only [List.map_cons, ripTv, List.cons.injEq] at h1; exact len_le hr h1.1)
    (fun c i x hok hn hinv hi => ⟨_, ripV_eq c i x, by
      refine ⟨fun h => ?_, fun h => ?_⟩
      · have h : i < c.length := by simpa using h
        refine ⟨fun hb1 => ?_, fun hb1 => ?_⟩
        · exact ⟨rfl, .inr ⟨rfl, h, (), [], by unfold ripStep; first | rfl | ((try dsimp only); (try rw [hb1]); rfl), ⟨.inl rfl, .inr rfl, .inl rfl, trivial⟩, trivial, rfl, rfl, rfl⟩⟩
        · rw [wrap_succ h hn]
          exact ⟨rfl, (), [], h, by unfold ripStep; first | rfl | ((try dsimp only); (try rw [hb1]); rfl), trivial, ⟨.inr rfl, .inr rfl, .inr rfl, trivial⟩, trivial, rfl, rfl, rfl⟩
      · have h : ¬ i < c.length := by simpa using h
        exact ⟨rfl, .inl ⟨rfl, by omega, [], ⟨.inr rfl, .inr rfl, .inr rfl, trivial⟩, trivial, rfl, rfl, rfl⟩⟩⟩)
def ripU (l : List Int) : Bool := bif isL (runF (ripStep l) l.length 0 ()) then true else false
theorem ripU_eq (l : List Int) : ripU l = Fx.isP l := by
  rw [← Fx.isPR_eq]
  show (bif Fx.isPR l then true else false) = Fx.isPR l
  cases Fx.isPR l <;> rfl
theorem rIsP : Sound Try.prog 17 (c1 (eSl .i64) eB Fx.isP) :=
  con (lps := fun _ => ripT) mixed (AllSound.cons rIxo .nil) Try.func17 (by kernel_rfl) (by kernel_rfl) (oneLoop (lps := fun _ => ripT) (b := (lbN 0 Try.f17)) (by kernel_rfl) ripLoop) (g1 (fun _ => [false = false, (0 : Int) = 0]) ripU (fun _ _ => ⟨rfl, rfl, trivial⟩) (fun l _ => ripU_eq l) (fun _ => by kernel_rfl))
noncomputable def rivL : List (FuncId × Contract) := [(25, c2 (eSl .i64) eI eI Fx.ix)]
def rivTv (c : (List Int)) (i : Nat) (_x : (List Int)) : List TV := [.val ((eSl .i64).pv c), .val (.fv (.one (.own 4))), .val (I (i : Int))]
def rivMv (_c : (List Int)) (_i : Nat) (x : (List Int)) : List MRes := [.val (.row 3 ⟨.i64, x⟩)]
def rivDec : List TV → List MRes → Option (List Prop × ((List Int)) × ((List Int)))
  | [.val (.fv (.one (.slc false ⟨.i64, l⟩))), .val (.fv (.one (.own 4))), .val (I i)], [.val (.row 3 ⟨.i64, w⟩)] => some ([w = [], i = 0, l.length ≤ 65536], l, [])
  | _, _ => none
def rivOk (c : (List Int)) : Prop := c.length ≤ 65536
def rivInv (_c : (List Int)) (i : Nat) (x : (List Int)) : Prop := x.length ≤ i
theorem rivDec_ok (ts : List TV) (ms : List MRes) (ps : List Prop) (c : (List Int)) (x : (List Int)) (h : rivDec ts ms = some (ps, c, x)) (hp : Conj ps) : ts = rivTv c 0 x ∧ ms = rivMv c 0 x ∧ rivOk c ∧ rivInv c 0 x := by
  unfold rivDec at h
  split at h
  · cases h
    obtain ⟨rfl, rfl, hok, _⟩ := hp
    exact ⟨rfl, rfl, hok, (Nat.le_refl 0)⟩
  · cases h
def rivStep (c : (List Int)) (i : Nat) (x : (List Int)) : (List Int) := ((x ++ [Fx.ix c i]))
def rivV (c : (List Int)) (i : Nat) (x : (List Int)) : VT := VT.ite (decide ((i : Int) < (c.length : Int))) (VT.pre [(x.length + 1) * 8 ≤ 140737488355328] (VT.leaf Ex.norm 21 [.val ((eSl .i64).pv c), .val (.fv (.one (.own 15))), .val (I (IntKind.i64.wrap ((i : Int) + 1)))] [.lost, .val (.row 3 ⟨.i64, (x ++ [Fx.ix c i])⟩)])) (VT.leaf (Ex.exit 0) 21 [.val ((eSl .i64).pv c), .val (.fv (.one (.own 4))), .val (I (i : Int))] [.val (.row 3 ⟨.i64, x⟩), .free])
theorem rivV_eq (c : (List Int)) (i : Nat) (x : (List Int)) : viewT [0, 3, 4] [4, 15] (sexec Try.prog (tbl rivL) (noLps) (lbN 0 Try.f19) (headSt 21 6 [0, 3, 4] [4] (rivTv c i x) (rivMv c i x))) = rivV c i x := by kernel_rfl
noncomputable def rivT : St → Tree := forT0 21 6 [0, 3, 4] [4] rivDec (fun c => c.length) rivTv rivMv rivStep 0
theorem rivA : AllSound Try.prog rivL := (.cons rIxo .nil)
theorem rivLoop : LoopOk Try.prog rivT (lbN 0 Try.f19) :=
  forT0_ok mixed rivA.tbl (noLoops (by kernel_rfl)) [4, 15] (bn := fun c => True) (inv := rivInv) rivDec_ok (fun _ _ => ⟨⟨.inr rfl, .inr rfl, .inr rfl, trivial⟩, ⟨.inr rfl, trivial⟩, rfl, rfl, rfl⟩)
    (fun _ _ _ _ _ _ hr h1 h2 => by
      trivial)
    (fun c i x hok hn hinv hi => ⟨_, rivV_eq c i x, by
      refine ⟨fun h => ?_, fun h => ?_⟩
      · have h : i < c.length := by simpa using h
        refine ⟨(have h1 : x.length ≤ i := hinv; have h2 : c.length ≤ 65536 := hok; ⟨by omega, trivial⟩), ?_⟩
        rw [wrap_succ h (by have h2 : c.length ≤ 65536 := hok; simp only [maxLen]; omega)]
        exact ⟨rfl, ((x ++ [Fx.ix c i])), [(4, 15)], h, by unfold rivStep; rfl, (by have h1 : x.length ≤ i := hinv; show (x ++ [_]).length ≤ i + 1; rw [List.length_append]; exact Nat.add_le_add_right h1 1), ⟨.inr rfl, .inr rfl, .inr rfl, trivial⟩, ⟨.inr rfl, trivial⟩, rfl, rfl, rfl⟩
      · have h : ¬ i < c.length := by simpa using h
        exact ⟨rfl, .inl ⟨rfl, by omega, [], ⟨.inr rfl, .inr rfl, .inr rfl, trivial⟩, ⟨.inr rfl, trivial⟩, rfl, rfl, rfl⟩⟩⟩)
def rivQ (l : List Int) : List Prop := [(!Fx.isP l) = false → ([] : List Int) = [], (!Fx.isP l) = false → (0 : Int) = 0, (!Fx.isP l) = false → l.length ≤ 65536]
def rivU (l : List Int) : List Int := bif !Fx.isP l then [] else foldN (rivStep l) l.length 0 []
theorem rivU_eq (l : List Int) : rivU l = Fx.pinv l := by
  rw [← Fx.pinvR_eq]
  unfold Fx.pinvR
  rw [Fx.isPR_eq]; rfl
theorem rInv : Sound Try.prog 19 (p1 (eSl .i64) (eFr 3 .i64) few Fx.pinv) :=
  con (lps := fun _ => rivT) mixed (AllSound.cons rIsP (.cons rIxo .nil)) Try.func19 (by kernel_rfl) (by kernel_rfl) (oneLoop (lps := fun _ => rivT) (b := (lbN 0 Try.f19)) (by kernel_rfl) rivLoop) (g1 rivQ rivU (fun l h => ⟨fun _ => rfl, fun _ => rfl, fun _ => h.1, trivial⟩) (fun l _ => rivU_eq l) (fun _ => by kernel_rfl))
noncomputable def rapL : List (FuncId × Contract) := []
def rapTv (c : (List Int) × (List Int)) (i : Nat) (_x : (List Int)) : List TV := [.val ((eSl .i64).pv c.1), .val ((eSl .i64).pv c.2), .val (.fv (.one (.own 11))), .val (I (i : Int))]
def rapMv (_c : (List Int) × (List Int)) (_i : Nat) (x : (List Int)) : List MRes := [.val (.row 3 ⟨.i64, x⟩)]
def rapDec : List TV → List MRes → Option (List Prop × ((List Int) × (List Int)) × ((List Int)))
  | [.val (.fv (.one (.slc false ⟨.i64, a⟩))), .val (.fv (.one (.slc false ⟨.i64, b⟩))), .val (.fv (.one (.own 11))), .val (I i)], [.val (.row 3 ⟨.i64, w⟩)] => some ([w = [], i = 0, (a.length = b.length ∧ b.length ≤ 65536) ∧ Fx.IsPm b b.length], (a, b), [])
  | _, _ => none
def rapOk (c : (List Int) × (List Int)) : Prop := (c.1.length = c.2.length ∧ c.2.length ≤ 65536) ∧ Fx.IsPm c.2 c.2.length
def rapInv (_c : (List Int) × (List Int)) (i : Nat) (x : (List Int)) : Prop := x.length ≤ i
theorem rapDec_ok (ts : List TV) (ms : List MRes) (ps : List Prop) (c : (List Int) × (List Int)) (x : (List Int)) (h : rapDec ts ms = some (ps, c, x)) (hp : Conj ps) : ts = rapTv c 0 x ∧ ms = rapMv c 0 x ∧ rapOk c ∧ rapInv c 0 x := by
  unfold rapDec at h
  split at h
  · cases h
    obtain ⟨rfl, rfl, hok, _⟩ := hp
    exact ⟨rfl, rfl, hok, (Nat.le_refl 0)⟩
  · cases h
def rapStep (c : (List Int) × (List Int)) (i : Nat) (x : (List Int)) : (List Int) := ((x ++ [c.1.getD (c.2.getD i 0).toNat 0]))
def rapV (c : (List Int) × (List Int)) (i : Nat) (x : (List Int)) : VT := VT.ite (decide ((i : Int) < (c.2.length : Int))) (VT.pre [0 ≤ (i : Int) ∧ (i : Int) < (c.2.length : Int), 0 ≤ c.2.getD i 0 ∧ c.2.getD i 0 < (c.1.length : Int), (x.length + 1) * 8 ≤ 140737488355328] (VT.leaf Ex.norm 34 [.val ((eSl .i64).pv c.1), .val ((eSl .i64).pv c.2), .val (.fv (.one (.own 26))), .val (I (IntKind.i64.wrap ((i : Int) + 1)))] [.lost, .val (.row 3 ⟨.i64, (x ++ [c.1.getD (c.2.getD i 0).toNat 0])⟩)])) (VT.leaf (Ex.exit 0) 34 [.val ((eSl .i64).pv c.1), .val ((eSl .i64).pv c.2), .val (.fv (.one (.own 11))), .val (I (i : Int))] [.val (.row 3 ⟨.i64, x⟩), .free])
theorem rapV_eq (c : (List Int) × (List Int)) (i : Nat) (x : (List Int)) : viewT [0, 1, 5, 6] [11, 26] (sexec Try.prog (tbl rapL) (noLps) (lbN 0 Try.f23) (headSt 34 13 [0, 1, 5, 6] [11] (rapTv c i x) (rapMv c i x))) = rapV c i x := by kernel_rfl
noncomputable def rapT : St → Tree := forT0 34 13 [0, 1, 5, 6] [11] rapDec (fun c => c.2.length) rapTv rapMv rapStep 0
theorem rapA : AllSound Try.prog rapL := .nil
theorem rapLoop : LoopOk Try.prog rapT (lbN 0 Try.f23) :=
  forT0_ok mixed rapA.tbl (noLoops (by kernel_rfl)) [11, 26] (bn := fun c => True) (inv := rapInv) rapDec_ok (fun _ _ => ⟨⟨.inr rfl, .inr rfl, .inr rfl, .inr rfl, trivial⟩, ⟨.inr rfl, trivial⟩, rfl, rfl, rfl⟩)
    (fun _ _ _ _ _ _ hr h1 h2 => by
      trivial)
    (fun c i x hok hn hinv hi => ⟨_, rapV_eq c i x, by
      refine ⟨fun h => ?_, fun h => ?_⟩
      · have h : i < c.2.length := by simpa using h
        refine ⟨(have h1 : x.length ≤ i := hinv; have h2 := hok.2.rng i h; have h3 : c.1.length = c.2.length := hok.1.1; have h4 : c.2.length ≤ 65536 := hok.1.2; ⟨⟨by omega, by omega⟩, ⟨h2.1, by rw [h3]; exact h2.2⟩, by omega, trivial⟩), ?_⟩
        rw [wrap_succ h (by have := hok.1.2; simp only [maxLen]; omega)]
        exact ⟨rfl, ((x ++ [c.1.getD (c.2.getD i 0).toNat 0])), [(11, 26)], h, by unfold rapStep; rfl, (by have h1 : x.length ≤ i := hinv; show (x ++ [_]).length ≤ i + 1; rw [List.length_append]; exact Nat.add_le_add_right h1 1), ⟨.inr rfl, .inr rfl, .inr rfl, .inr rfl, trivial⟩, ⟨.inr rfl, trivial⟩, rfl, rfl, rfl⟩
      · have h : ¬ i < c.2.length := by simpa using h
        exact ⟨rfl, .inl ⟨rfl, by omega, [], ⟨.inr rfl, .inr rfl, .inr rfl, .inr rfl, trivial⟩, ⟨.inr rfl, trivial⟩, rfl, rfl, rfl⟩⟩⟩)
def rapG (a b : List Int) : Bool := orr (!Fx.isP b) ((a.length : Int) != b.length)
def rapQ (a b : List Int) : List Prop := [rapG a b = false → ([] : List Int) = [], rapG a b = false → (0 : Int) = 0, rapG a b = false → (a.length = b.length ∧ b.length ≤ 65536) ∧ Fx.IsPm b b.length]
def rapU (a b : List Int) : List Int := bif rapG a b then [] else foldN (rapStep (a, b)) b.length 0 []
theorem rapQ_ok (a b : List Int) (h : b.length ≤ 65536) : Conj (rapQ a b) :=
  ⟨fun _ => rfl, fun _ => rfl, fun g => by
    obtain ⟨g1, g2⟩ := Fx.of_orr g
    exact ⟨⟨by simp at g2; omega, h⟩, (Fx.isP_iff b).1 (by simpa using g1)⟩, trivial⟩
theorem rapU_eq (a b : List Int) : rapU a b = Fx.appl (0 : Int) a b := by
  rw [← Fx.applR_eq]
  unfold Fx.applR
  rw [← Fx.appP_eq]; rfl
theorem rApp : Sound Try.prog 23 (p2 (eSl .i64) (eSl .i64) (eFr 3 .i64) (fun _ b => [b.length ≤ 65536]) (Fx.appl (0 : Int))) :=
  con (lps := fun _ => rapT) mixed (AllSound.cons rIsP .nil) Try.func23 (by kernel_rfl) (by kernel_rfl) (oneLoop (lps := fun _ => rapT) (b := (lbN 0 Try.f23)) (by kernel_rfl) rapLoop) (g2 rapQ rapU (fun a b h => rapQ_ok a b h.1) (fun a b _ => rapU_eq a b) (fun _ _ => by kernel_rfl))
theorem rComp : Sound Try.prog 21 (p2 (eSl .i64) (eSl .i64) (eFr 3 .i64) (fun _ b => [b.length ≤ 65536]) Fx.comp) :=
  con (lps := noLps) mixed (.cons rIsP (.cons rApp .nil)) Try.func21 (by kernel_rfl) (by kernel_rfl) (noLoops (by kernel_rfl)) (g2 (fun a b => [orr (orr (!Fx.isP a) (!Fx.isP b)) ((a.length : Int) != b.length) = false → b.length ≤ 65536]) Fx.compR (fun a b h => ⟨fun _ => h.1, trivial⟩) (fun a b _ => Fx.compR_eq a b) (fun _ _ => by kernel_rfl))
noncomputable def reiL : List (FuncId × Contract) := []
def reiTv (c : (List Int) × (List Int)) (i : Nat) (_x : Unit) : List TV := [.val ((eSl .i64).pv c.1), .val ((eSl .i64).pv c.2), .val (Bo false), .val (I (i : Int))]
def reiMv (_c : (List Int) × (List Int)) (_i : Nat) (_x : Unit) : List MRes := []
def reiEtv (_c : (List Int) × (List Int)) (_e : Unit) : List TV := [.any, .any, .val (Bo false), .any]
def reiEmv (_c : (List Int) × (List Int)) (_e : Unit) : List MRes := []
def reiDec : List TV → List MRes → Option (List Prop × ((List Int) × (List Int)) × (Unit))
  | [.val (.fv (.one (.slc false ⟨.i64, l⟩))), .val (.fv (.one (.slc false ⟨.i64, m⟩))), .val (Bo b), .val (I i)], [] => some ([b = false, i = 0, ((l.length : Int) != m.length) = false], (l, m), ())
  | _, _ => none
def reiOk (c : (List Int) × (List Int)) : Prop := ((c.1.length : Int) != c.2.length) = false
def reiInv (_c : (List Int) × (List Int)) (_i : Nat) (_x : Unit) : Prop := True
theorem reiDec_ok (ts : List TV) (ms : List MRes) (ps : List Prop) (c : (List Int) × (List Int)) (x : Unit) (h : reiDec ts ms = some (ps, c, x)) (hp : Conj ps) : ts = reiTv c 0 x ∧ ms = reiMv c 0 x ∧ reiOk c ∧ reiInv c 0 x := by
  unfold reiDec at h
  split at h
  · cases h
    obtain ⟨rfl, rfl, hok, _⟩ := hp
    exact ⟨rfl, rfl, hok, trivial⟩
  · cases h
def reiStep (c : (List Int) × (List Int)) (i : Nat) (_x : Unit) : Sum (Unit) (Unit) := bif c.1.getD i 0 != c.2.getD i 0 then .inr () else .inl ()
def reiV (c : (List Int) × (List Int)) (i : Nat) (_x : Unit) : VT := VT.ite (decide ((i : Int) < (c.1.length : Int))) (VT.pre [0 ≤ (i : Int) ∧ (i : Int) < (c.1.length : Int), 0 ≤ (i : Int) ∧ (i : Int) < (c.2.length : Int)] (VT.ite (c.1.getD i 0 != c.2.getD i 0) (VT.leaf (Ex.ret) 26 [.val ((eSl .i64).pv c.1), .val ((eSl .i64).pv c.2), .val (Bo false), .val (I (i : Int))] []) (VT.leaf Ex.norm 26 [.val ((eSl .i64).pv c.1), .val ((eSl .i64).pv c.2), .val (Bo false), .val (I (IntKind.i64.wrap ((i : Int) + 1)))] []))) (VT.leaf (Ex.exit 0) 26 [.val ((eSl .i64).pv c.1), .val ((eSl .i64).pv c.2), .val (Bo false), .val (I (i : Int))] [])
theorem reiV_eq (c : (List Int) × (List Int)) (i : Nat) (x : Unit) : viewT [0, 1, 4, 5] [] (sexec Try.prog (tbl reiL) (noLps) (lbN 0 Try.f11) (headSt 26 0 [0, 1, 4, 5] [] (reiTv c i x) (reiMv c i x))) = reiV c i x := by kernel_rfl
noncomputable def reiT : St → Tree := forT 26 0 [0, 1, 4, 5] [] reiDec (fun c => c.1.length) reiTv reiMv reiEtv reiEmv reiStep () 0 .ret
theorem reiA : AllSound Try.prog reiL := .nil
theorem reiLoop : LoopOk Try.prog reiT (lbN 0 Try.f11) :=
  forT_ok mixed reiA.tbl (noLoops (by kernel_rfl)) [] (bn := fun c => c.1.length ≤ maxLen) (inv := reiInv) reiDec_ok (fun _ _ => ⟨⟨.inr rfl, .inr rfl, .inr rfl, .inr rfl, trivial⟩, trivial, rfl, rfl, rfl⟩)
    (fun _ _ _ _ _ _ hr h1 h2 => by
      simp only [List.map_cons, reiTv, List.cons.injEq] at h1; exact len_le hr h1.1)
    (fun c i x hok hn hinv hi => ⟨_, reiV_eq c i x, by
      refine ⟨fun h => ?_, fun h => ?_⟩
      · have h : i < c.1.length := by simpa using h
        refine ⟨⟨⟨by omega, by omega⟩, ⟨by omega, by have hok : ((c.1.length : Int) != c.2.length) = false := hok; simp at hok; omega⟩, trivial⟩, ?_⟩
        refine ⟨fun hb2 => ?_, fun hb2 => ?_⟩
        · exact ⟨rfl, .inr ⟨rfl, h, (), [], by unfold reiStep; first | rfl | ((try dsimp only); (try rw [hb2]); rfl), ⟨.inl rfl, .inl rfl, .inr rfl, .inl rfl, trivial⟩, trivial, rfl, rfl, rfl⟩⟩
        · rw [wrap_succ h hn]
          exact ⟨rfl, (), [], h, by unfold reiStep; first | rfl | ((try dsimp only); (try rw [hb2]); rfl), trivial, ⟨.inr rfl, .inr rfl, .inr rfl, .inr rfl, trivial⟩, trivial, rfl, rfl, rfl⟩
      · have h : ¬ i < c.1.length := by simpa using h
        exact ⟨rfl, .inl ⟨rfl, by omega, [], ⟨.inr rfl, .inr rfl, .inr rfl, .inr rfl, trivial⟩, trivial, rfl, rfl, rfl⟩⟩⟩)
theorem rEqi : Sound Try.prog 11 (c2 (eSl .i64) (eSl .i64) eB Fx.intsEq) :=
  con (lps := fun _ => reiT) mixed .nil Try.func11 (by kernel_rfl) (by kernel_rfl) (oneLoop (lps := fun _ => reiT) (b := (lbN 0 Try.f11)) (by kernel_rfl) reiLoop) (g2 (fun l m => [((l.length : Int) != m.length) = false → false = false, ((l.length : Int) != m.length) = false → (0 : Int) = 0, ((l.length : Int) != m.length) = false → ((l.length : Int) != m.length) = false]) Fx.intsEq (fun _ _ _ => ⟨fun _ => rfl, fun _ => rfl, id, trivial⟩) (fun _ _ _ => rfl) (fun _ _ => by kernel_rfl))
theorem wdn {n : Int} {i : Nat} (h : i < (n - 1).toNat) (hn : n ≤ 4096) : IntKind.i64.wrap (n - 1 - (i : Int) - 1) = n - 1 - ((i + 1 : Nat) : Int) := by
  show Fx.w64 _ = _
  rw [Fx.w64_id (by omega) (by omega)]; omega
theorem kin {n s : Int} {i : Nat} (h : i < (n - 1).toNat) (hn : n ≤ 4096) : 0 ≤ (Fx.intn (Fx.w64 (n - 1 - (i : Int) + 1)) s).1 ∧ (Fx.intn (Fx.w64 (n - 1 - (i : Int) + 1)) s).1 < n - i := by
  have e : Fx.w64 (n - 1 - (i : Int) + 1) = n - i := by rw [Fx.w64_id (by omega) (by omega)]; omega
  have := Fx.intn_range (n := Fx.w64 (n - 1 - (i : Int) + 1)) (s := s) (by rw [e]; omega) (by rw [e]; omega)
  rw [e] at this ⊢
  exact this
noncomputable def pflL : List (FuncId × Contract) := []
def pflTv (c : (Int) × (Int) × (List Int)) (i : Nat) (_x : (List Int)) : List TV := [.val (I c.1), .val (.fv (.one (.int .u64 c.2.1))), .val (.fv (.one (.own 9))), .val (I c.2.2.length), .val (I (i : Int))]
def pflMv (_c : (Int) × (Int) × (List Int)) (_i : Nat) (x : (List Int)) : List MRes := [.val (.row 3 ⟨.i64, x⟩)]
def pflDec : List TV → List MRes → Option (List Prop × ((Int) × (Int) × (List Int)) × ((List Int)))
  | [.val (I n), .val (.fv (.one (.int .u64 s))), .val (.fv (.one (.own 9))), .val (I m), .val (I i)], [.val (.row 3 ⟨.i64, q⟩)] => some ([m = q.length, i = 0, q.length ≤ 65536], (n, s, q), q)
  | _, _ => none
def pflOk (c : (Int) × (Int) × (List Int)) : Prop := c.2.2.length ≤ 65536
def pflInv (c : (Int) × (Int) × (List Int)) (_i : Nat) (x : (List Int)) : Prop := x.length = c.2.2.length
theorem pflDec_ok (ts : List TV) (ms : List MRes) (ps : List Prop) (c : (Int) × (Int) × (List Int)) (x : (List Int)) (h : pflDec ts ms = some (ps, c, x)) (hp : Conj ps) : ts = pflTv c 0 x ∧ ms = pflMv c 0 x ∧ pflOk c ∧ pflInv c 0 x := by
  unfold pflDec at h
  split at h
  · cases h
    obtain ⟨rfl, rfl, hok, _⟩ := hp
    exact ⟨rfl, rfl, hok, rfl⟩
  · cases h
def pflStep (_c : (Int) × (Int) × (List Int)) (i : Nat) (x : (List Int)) : (List Int) := ((x.set i (i : Int)))
def pflV (c : (Int) × (Int) × (List Int)) (i : Nat) (x : (List Int)) : VT := VT.ite (decide ((i : Int) < (c.2.2.length : Int))) (VT.pre [0 ≤ (i : Int) ∧ (i : Int) < (x.length : Int), i < x.length] (VT.leaf Ex.norm 60 [.val (I c.1), .val (.fv (.one (.int .u64 c.2.1))), .val (.fv (.one (.own 9))), .val (I c.2.2.length), .val (I (IntKind.i64.wrap ((i : Int) + 1)))] [.val (.row 3 ⟨.i64, (x.set i (i : Int))⟩)])) (VT.leaf (Ex.exit 0) 60 [.val (I c.1), .val (.fv (.one (.int .u64 c.2.1))), .val (.fv (.one (.own 9))), .val (I c.2.2.length), .val (I (i : Int))] [.val (.row 3 ⟨.i64, x⟩)])
theorem pflV_eq (c : (Int) × (Int) × (List Int)) (i : Nat) (x : (List Int)) : viewT [0, 1, 6, 21, 22] [9] (sexec Try.prog (tbl pflL) (noLps) (lbN 0 Try.f9) (headSt 60 14 [0, 1, 6, 21, 22] [9] (pflTv c i x) (pflMv c i x))) = pflV c i x := by kernel_rfl
noncomputable def pflT : St → Tree := forT0 60 14 [0, 1, 6, 21, 22] [9] pflDec (fun c => c.2.2.length) pflTv pflMv pflStep 0
theorem pflA : AllSound Try.prog pflL := .nil
theorem pflLoop : LoopOk Try.prog pflT (lbN 0 Try.f9) :=
  forT0_ok mixed pflA.tbl (noLoops (by kernel_rfl)) [9] (bn := fun c => True) (inv := pflInv) pflDec_ok (fun _ _ => ⟨⟨.inr rfl, .inr rfl, .inr rfl, .inr rfl, .inr rfl, trivial⟩, ⟨.inr rfl, trivial⟩, rfl, rfl, rfl⟩)
    (fun _ _ _ _ _ _ hr h1 h2 => by
      trivial)
    (fun c i x hok hn hinv hi => ⟨_, pflV_eq c i x, by
      refine ⟨fun h => ?_, fun h => ?_⟩
      · have h : i < c.2.2.length := by simpa using h
        refine ⟨(have h1 : x.length = c.2.2.length := hinv; ⟨⟨by omega, by omega⟩, by omega, trivial⟩), ?_⟩
        rw [wrap_succ h (by have h2 : c.2.2.length ≤ 65536 := hok; simp only [maxLen]; omega)]
        exact ⟨rfl, ((x.set i (i : Int))), [], h, by unfold pflStep; rfl, (by have h1 : x.length = c.2.2.length := hinv; show (x.set _ _).length = _; rw [List.length_set]; exact h1), ⟨.inr rfl, .inr rfl, .inr rfl, .inr rfl, .inr rfl, trivial⟩, ⟨.inr rfl, trivial⟩, rfl, rfl, rfl⟩
      · have h : ¬ i < c.2.2.length := by simpa using h
        exact ⟨rfl, .inl ⟨rfl, by omega, [], ⟨.inr rfl, .inr rfl, .inr rfl, .inr rfl, .inr rfl, trivial⟩, ⟨.inr rfl, trivial⟩, rfl, rfl, rfl⟩⟩⟩)
noncomputable def rfl1L : List (FuncId × Contract) := []
def rfl1Tv (c : (Int) × (Int)) (i : Nat) (_x : (List Int)) : List TV := [.val (I c.1), .val (.fv (.one (.int .u64 c.2))), .val (.fv (.one (.own 8))), .val (I (i : Int))]
def rfl1Mv (_c : (Int) × (Int)) (_i : Nat) (x : (List Int)) : List MRes := [.val (.row 3 ⟨.i64, x⟩)]
def rfl1Dec : List TV → List MRes → Option (List Prop × ((Int) × (Int)) × ((List Int)))
  | [.val (I n), .val (.fv (.one (.int .u64 s))), .val (.fv (.one (.own 8))), .val (I i)], [.val (.row 3 ⟨.i64, w⟩)] => some ([w = [], i = 0, 0 ≤ n ∧ n ≤ 4096], (n, s), [])
  | _, _ => none
def rfl1Ok (c : (Int) × (Int)) : Prop := 0 ≤ c.1 ∧ c.1 ≤ 4096
def rfl1Inv (_c : (Int) × (Int)) (i : Nat) (x : (List Int)) : Prop := x.length ≤ i
theorem rfl1Dec_ok (ts : List TV) (ms : List MRes) (ps : List Prop) (c : (Int) × (Int)) (x : (List Int)) (h : rfl1Dec ts ms = some (ps, c, x)) (hp : Conj ps) : ts = rfl1Tv c 0 x ∧ ms = rfl1Mv c 0 x ∧ rfl1Ok c ∧ rfl1Inv c 0 x := by
  unfold rfl1Dec at h
  split at h
  · cases h
    obtain ⟨rfl, rfl, hok, _⟩ := hp
    exact ⟨rfl, rfl, hok, (Nat.le_refl 0)⟩
  · cases h
def rfl1Step (_c : (Int) × (Int)) (i : Nat) (x : (List Int)) : (List Int) := ((x ++ [(i : Int)]))
def rfl1V (c : (Int) × (Int)) (i : Nat) (x : (List Int)) : VT := VT.ite (decide ((i : Int) < c.1)) (VT.pre [(x.length + 1) * 8 ≤ 140737488355328] (VT.leaf Ex.norm 59 [.val (I c.1), .val (.fv (.one (.int .u64 c.2))), .val (.fv (.one (.own 16))), .val (I (IntKind.i64.wrap ((i : Int) + 1)))] [.lost, .val (.row 3 ⟨.i64, (x ++ [(i : Int)])⟩)])) (VT.leaf (Ex.exit 0) 59 [.val (I c.1), .val (.fv (.one (.int .u64 c.2))), .val (.fv (.one (.own 8))), .val (I (i : Int))] [.val (.row 3 ⟨.i64, x⟩), .free])
theorem rfl1V_eq (c : (Int) × (Int)) (i : Nat) (x : (List Int)) : viewT [0, 1, 6, 7] [8, 16] (sexec Try.prog (tbl rfl1L) (noLps) (lbN 0 Try.f10) (headSt 59 10 [0, 1, 6, 7] [8] (rfl1Tv c i x) (rfl1Mv c i x))) = rfl1V c i x := by kernel_rfl
noncomputable def rfl1T : St → Tree := forT0 59 10 [0, 1, 6, 7] [8] rfl1Dec (fun c => c.1.toNat) rfl1Tv rfl1Mv rfl1Step 0
theorem rfl1A : AllSound Try.prog rfl1L := .nil
theorem rfl1Loop : LoopOk Try.prog rfl1T (lbN 0 Try.f10) :=
  forT0_ok mixed rfl1A.tbl (noLoops (by kernel_rfl)) [8, 16] (bn := fun c => True) (inv := rfl1Inv) rfl1Dec_ok (fun _ _ => ⟨⟨.inr rfl, .inr rfl, .inr rfl, .inr rfl, trivial⟩, ⟨.inr rfl, trivial⟩, rfl, rfl, rfl⟩)
    (fun _ _ _ _ _ _ hr h1 h2 => by
      trivial)
    (fun c i x hok hn hinv hi => ⟨_, rfl1V_eq c i x, by
      refine ⟨fun h => ?_, fun h => ?_⟩
      · have h : i < c.1.toNat := by (have h2 := h; have h3 : 0 ≤ c.1 ∧ c.1 ≤ 4096 := hok; simp at h2; omega)
        refine ⟨(have h1 : x.length ≤ i := hinv; have h3 : 0 ≤ c.1 ∧ c.1 ≤ 4096 := hok; ⟨by omega, trivial⟩), ?_⟩
        rw [wrap_succ h (by have h3 : 0 ≤ c.1 ∧ c.1 ≤ 4096 := hok; simp only [maxLen]; omega)]
        exact ⟨rfl, ((x ++ [(i : Int)])), [(8, 16)], h, by unfold rfl1Step; rfl, (by have h1 : x.length ≤ i := hinv; show (x ++ [_]).length ≤ i + 1; rw [List.length_append]; exact Nat.add_le_add_right h1 1), ⟨.inr rfl, .inr rfl, .inr rfl, .inr rfl, trivial⟩, ⟨.inr rfl, trivial⟩, rfl, rfl, rfl⟩
      · have h : ¬ i < c.1.toNat := by (have h2 := h; have h3 : 0 ≤ c.1 ∧ c.1 ≤ 4096 := hok; simp at h2; omega)
        exact ⟨rfl, .inl ⟨rfl, by omega, [], ⟨.inr rfl, .inr rfl, .inr rfl, .inr rfl, trivial⟩, ⟨.inr rfl, trivial⟩, rfl, rfl, rfl⟩⟩⟩)
noncomputable def pshL : List (FuncId × Contract) := [(15, p2 eI eU eIU (fun n _ => [n ≤ 9223372036854775807]) Fx.intn)]
def pshTv (c : (Int) × (List Int)) (i : Nat) (x : (List Int) × (Int)) : List TV := [.val (I c.1), .val (.fv (.one (.int .u64 x.2))), .val (.fv (.one (.own 9))), .val (I (c.1 - 1 - (i : Int)))]
def pshMv (_c : (Int) × (List Int)) (_i : Nat) (x : (List Int) × (Int)) : List MRes := [.val (.row 3 ⟨.i64, x.1⟩)]
def pshDec : List TV → List MRes → Option (List Prop × ((Int) × (List Int)) × ((List Int) × (Int)))
  | [.val (I n), .val (.fv (.one (.int .u64 s))), .val (.fv (.one (.own 9))), .val (I k)], [.val (.row 3 ⟨.i64, q⟩)] => some ([k = n - 1 - ((0 : Nat) : Int), (0 ≤ n ∧ n ≤ 4096) ∧ q.length = n.toNat], (n, q), (q, s))
  | _, _ => none
def pshOk (c : (Int) × (List Int)) : Prop := (0 ≤ c.1 ∧ c.1 ≤ 4096) ∧ c.2.length = c.1.toNat
def pshInv (c : (Int) × (List Int)) (_i : Nat) (x : (List Int) × (Int)) : Prop := x.1.length = c.1.toNat
theorem pshDec_ok (ts : List TV) (ms : List MRes) (ps : List Prop) (c : (Int) × (List Int)) (x : (List Int) × (Int)) (h : pshDec ts ms = some (ps, c, x)) (hp : Conj ps) : ts = pshTv c 0 x ∧ ms = pshMv c 0 x ∧ pshOk c ∧ pshInv c 0 x := by
  unfold pshDec at h
  split at h
  · cases h
    obtain ⟨rfl, hok, _⟩ := hp
    exact ⟨rfl, rfl, hok, hok.2⟩
  · cases h
def pshStep (c : (Int) × (List Int)) (i : Nat) (x : (List Int) × (Int)) : (List Int) × (Int) := (((x.1.set (c.1 - 1 - (i : Int)).toNat (x.1.getD (Fx.intn (Fx.w64 (c.1 - 1 - (i : Int) + 1)) x.2).1.toNat 0)).set (Fx.intn (Fx.w64 (c.1 - 1 - (i : Int) + 1)) x.2).1.toNat (x.1.getD (c.1 - 1 - (i : Int)).toNat 0)), (Fx.intn (Fx.w64 (c.1 - 1 - (i : Int) + 1)) x.2).2)
def pshV (c : (Int) × (List Int)) (i : Nat) (x : (List Int) × (Int)) : VT := VT.ite (decide (c.1 - 1 - (i : Int) > 0)) (VT.pre [Fx.w64 (c.1 - 1 - (i : Int) + 1) ≤ 9223372036854775807] (VT.pre [0 ≤ (Fx.intn (Fx.w64 (c.1 - 1 - (i : Int) + 1)) x.2).1 ∧ (Fx.intn (Fx.w64 (c.1 - 1 - (i : Int) + 1)) x.2).1 < (x.1.length : Int), (Fx.intn (Fx.w64 (c.1 - 1 - (i : Int) + 1)) x.2).1.toNat < x.1.length, 0 ≤ (c.1 - 1 - (i : Int)) ∧ (c.1 - 1 - (i : Int)) < (x.1.length : Int), (c.1 - 1 - (i : Int)).toNat < x.1.length, 0 ≤ (c.1 - 1 - (i : Int)) ∧ (c.1 - 1 - (i : Int)) < (x.1.length : Int), (c.1 - 1 - (i : Int)).toNat < x.1.length, 0 ≤ (Fx.intn (Fx.w64 (c.1 - 1 - (i : Int) + 1)) x.2).1 ∧ (Fx.intn (Fx.w64 (c.1 - 1 - (i : Int) + 1)) x.2).1 < ((x.1.set (c.1 - 1 - (i : Int)).toNat (x.1.getD (Fx.intn (Fx.w64 (c.1 - 1 - (i : Int) + 1)) x.2).1.toNat 0)).length : Int), (Fx.intn (Fx.w64 (c.1 - 1 - (i : Int) + 1)) x.2).1.toNat < (x.1.set (c.1 - 1 - (i : Int)).toNat (x.1.getD (Fx.intn (Fx.w64 (c.1 - 1 - (i : Int) + 1)) x.2).1.toNat 0)).length] (VT.leaf Ex.norm 60 [.val (I c.1), .val (.fv (.one (.int .u64 (Fx.intn (Fx.w64 (c.1 - 1 - (i : Int) + 1)) x.2).2))), .val (.fv (.one (.own 9))), .val (I (IntKind.i64.wrap ((c.1 - 1 - (i : Int)) - 1)))] [.val (.row 3 ⟨.i64, ((x.1.set (c.1 - 1 - (i : Int)).toNat (x.1.getD (Fx.intn (Fx.w64 (c.1 - 1 - (i : Int) + 1)) x.2).1.toNat 0)).set (Fx.intn (Fx.w64 (c.1 - 1 - (i : Int) + 1)) x.2).1.toNat (x.1.getD (c.1 - 1 - (i : Int)).toNat 0))⟩)]))) (VT.leaf (Ex.exit 2) 60 [.val (I c.1), .val (.fv (.one (.int .u64 x.2))), .val (.fv (.one (.own 9))), .val (I (c.1 - 1 - (i : Int)))] [.val (.row 3 ⟨.i64, x.1⟩)])
theorem pshV_eq (c : (Int) × (List Int)) (i : Nat) (x : (List Int) × (Int)) : viewT [0, 1, 6, 8] [9] (sexec Try.prog (tbl pshL) (noLps) (lbN 1 Try.f9) (headSt 60 17 [0, 1, 6, 8] [9] (pshTv c i x) (pshMv c i x))) = pshV c i x := by kernel_rfl
noncomputable def pshT : St → Tree := forT0 60 17 [0, 1, 6, 8] [9] pshDec (fun c => (c.1 - 1).toNat) pshTv pshMv pshStep 2
theorem pshA : AllSound Try.prog pshL := (.cons cInt .nil)
theorem pshLoop : LoopOk Try.prog pshT (lbN 1 Try.f9) :=
  forT0_ok mixed pshA.tbl (noLoops (by kernel_rfl)) [9] (bn := fun c => True) (inv := pshInv) pshDec_ok (fun _ _ => ⟨⟨.inr rfl, .inr rfl, .inr rfl, .inr rfl, trivial⟩, ⟨.inr rfl, trivial⟩, rfl, rfl, rfl⟩)
    (fun _ _ _ _ _ _ hr h1 h2 => by
      trivial)
    (fun c i x hok hn hinv hi => ⟨_, pshV_eq c i x, by
      refine ⟨fun h => ?_, fun h => ?_⟩
      · have h : i < (c.1 - 1).toNat := by (have h2 := h; have h3 : 0 ≤ c.1 ∧ c.1 ≤ 4096 := hok.1; simp at h2; omega)
        refine ⟨(have h3 : 0 ≤ c.1 ∧ c.1 ≤ 4096 := hok.1; ⟨by rw [Fx.w64_id (by omega) (by omega)]; omega, trivial⟩), ?_⟩
        refine ⟨(have h3 : 0 ≤ c.1 ∧ c.1 ≤ 4096 := hok.1; have h1 : x.1.length = c.1.toNat := hinv; have h4 := kin (s := x.2) h h3.2; ⟨⟨by omega, by omega⟩, by omega, ⟨by omega, by omega⟩, by omega, ⟨by omega, by omega⟩, by omega, ⟨by omega, by rw [List.length_set]; omega⟩, by rw [List.length_set]; omega, trivial⟩), ?_⟩
        rw [wdn h hok.1.2]
        exact ⟨rfl, (((x.1.set (c.1 - 1 - (i : Int)).toNat (x.1.getD (Fx.intn (Fx.w64 (c.1 - 1 - (i : Int) + 1)) x.2).1.toNat 0)).set (Fx.intn (Fx.w64 (c.1 - 1 - (i : Int) + 1)) x.2).1.toNat (x.1.getD (c.1 - 1 - (i : Int)).toNat 0)), (Fx.intn (Fx.w64 (c.1 - 1 - (i : Int) + 1)) x.2).2), [], h, by unfold pshStep; rfl, (by have h1 : x.1.length = c.1.toNat := hinv; show ((x.1.set _ _).set _ _).length = _; rw [List.length_set, List.length_set]; exact h1), ⟨.inr rfl, .inr rfl, .inr rfl, .inr rfl, trivial⟩, ⟨.inr rfl, trivial⟩, rfl, rfl, rfl⟩
      · have h : ¬ i < (c.1 - 1).toNat := by (have h2 := h; have h3 : 0 ≤ c.1 ∧ c.1 ≤ 4096 := hok.1; simp at h2; omega)
        exact ⟨rfl, .inl ⟨rfl, by omega, [], ⟨.inr rfl, .inr rfl, .inr rfl, .inr rfl, trivial⟩, ⟨.inr rfl, trivial⟩, rfl, rfl, rfl⟩⟩⟩)
noncomputable def rshL : List (FuncId × Contract) := [(16, p2 eI eU eIU (fun n _ => [n ≤ 9223372036854775807]) Fx.intn)]
def rshTv (c : (Int) × (List Int)) (i : Nat) (x : (List Int) × (Int)) : List TV := [.val (I c.1), .val (.fv (.one (.int .u64 x.2))), .val (.fv (.one (.own 8))), .val (I (c.1 - 1 - (i : Int)))]
def rshMv (_c : (Int) × (List Int)) (_i : Nat) (x : (List Int) × (Int)) : List MRes := [.val (.row 3 ⟨.i64, x.1⟩)]
def rshDec : List TV → List MRes → Option (List Prop × ((Int) × (List Int)) × ((List Int) × (Int)))
  | [.val (I n), .val (.fv (.one (.int .u64 s))), .val (.fv (.one (.own 8))), .val (I k)], [.val (.row 3 ⟨.i64, q⟩)] => some ([k = n - 1 - ((0 : Nat) : Int), (0 ≤ n ∧ n ≤ 4096) ∧ q.length = n.toNat], (n, q), (q, s))
  | _, _ => none
def rshOk (c : (Int) × (List Int)) : Prop := (0 ≤ c.1 ∧ c.1 ≤ 4096) ∧ c.2.length = c.1.toNat
def rshInv (c : (Int) × (List Int)) (_i : Nat) (x : (List Int) × (Int)) : Prop := x.1.length = c.1.toNat
theorem rshDec_ok (ts : List TV) (ms : List MRes) (ps : List Prop) (c : (Int) × (List Int)) (x : (List Int) × (Int)) (h : rshDec ts ms = some (ps, c, x)) (hp : Conj ps) : ts = rshTv c 0 x ∧ ms = rshMv c 0 x ∧ rshOk c ∧ rshInv c 0 x := by
  unfold rshDec at h
  split at h
  · cases h
    obtain ⟨rfl, hok, _⟩ := hp
    exact ⟨rfl, rfl, hok, hok.2⟩
  · cases h
def rshStep (c : (Int) × (List Int)) (i : Nat) (x : (List Int) × (Int)) : (List Int) × (Int) := (((x.1.set (c.1 - 1 - (i : Int)).toNat (x.1.getD (Fx.intn (Fx.w64 (c.1 - 1 - (i : Int) + 1)) x.2).1.toNat 0)).set (Fx.intn (Fx.w64 (c.1 - 1 - (i : Int) + 1)) x.2).1.toNat (x.1.getD (c.1 - 1 - (i : Int)).toNat 0)), (Fx.intn (Fx.w64 (c.1 - 1 - (i : Int) + 1)) x.2).2)
def rshV (c : (Int) × (List Int)) (i : Nat) (x : (List Int) × (Int)) : VT := VT.ite (decide (c.1 - 1 - (i : Int) > 0)) (VT.pre [Fx.w64 (c.1 - 1 - (i : Int) + 1) ≤ 9223372036854775807] (VT.pre [0 ≤ (c.1 - 1 - (i : Int)) ∧ (c.1 - 1 - (i : Int)) < (x.1.length : Int), (c.1 - 1 - (i : Int)).toNat < x.1.length] (VT.pre [0 ≤ (Fx.intn (Fx.w64 (c.1 - 1 - (i : Int) + 1)) x.2).1 ∧ (Fx.intn (Fx.w64 (c.1 - 1 - (i : Int) + 1)) x.2).1 < (x.1.length : Int), (Fx.intn (Fx.w64 (c.1 - 1 - (i : Int) + 1)) x.2).1.toNat < x.1.length, 0 ≤ (c.1 - 1 - (i : Int)) ∧ (c.1 - 1 - (i : Int)) < (x.1.length : Int), (c.1 - 1 - (i : Int)).toNat < x.1.length] (VT.pre [0 ≤ (Fx.intn (Fx.w64 (c.1 - 1 - (i : Int) + 1)) x.2).1 ∧ (Fx.intn (Fx.w64 (c.1 - 1 - (i : Int) + 1)) x.2).1 < ((x.1.set (c.1 - 1 - (i : Int)).toNat (x.1.getD (Fx.intn (Fx.w64 (c.1 - 1 - (i : Int) + 1)) x.2).1.toNat 0)).length : Int), (Fx.intn (Fx.w64 (c.1 - 1 - (i : Int) + 1)) x.2).1.toNat < (x.1.set (c.1 - 1 - (i : Int)).toNat (x.1.getD (Fx.intn (Fx.w64 (c.1 - 1 - (i : Int) + 1)) x.2).1.toNat 0)).length] (VT.leaf Ex.norm 59 [.val (I c.1), .val (.fv (.one (.int .u64 (Fx.intn (Fx.w64 (c.1 - 1 - (i : Int) + 1)) x.2).2))), .val (.fv (.one (.own 8))), .val (I (IntKind.i64.wrap ((c.1 - 1 - (i : Int)) - 1)))] [.val (.row 3 ⟨.i64, ((x.1.set (c.1 - 1 - (i : Int)).toNat (x.1.getD (Fx.intn (Fx.w64 (c.1 - 1 - (i : Int) + 1)) x.2).1.toNat 0)).set (Fx.intn (Fx.w64 (c.1 - 1 - (i : Int) + 1)) x.2).1.toNat (x.1.getD (c.1 - 1 - (i : Int)).toNat 0))⟩)]))))) (VT.leaf (Ex.exit 2) 59 [.val (I c.1), .val (.fv (.one (.int .u64 x.2))), .val (.fv (.one (.own 8))), .val (I (c.1 - 1 - (i : Int)))] [.val (.row 3 ⟨.i64, x.1⟩)])
theorem rshV_eq (c : (Int) × (List Int)) (i : Nat) (x : (List Int) × (Int)) : viewT [0, 1, 6, 8] [8] (sexec Try.prog (tbl rshL) (noLps) (lbN 1 Try.f10) (headSt 59 13 [0, 1, 6, 8] [8] (rshTv c i x) (rshMv c i x))) = rshV c i x := by kernel_rfl
noncomputable def rshT : St → Tree := forT0 59 13 [0, 1, 6, 8] [8] rshDec (fun c => (c.1 - 1).toNat) rshTv rshMv rshStep 2
theorem rshA : AllSound Try.prog rshL := (.cons rInt .nil)
theorem rshLoop : LoopOk Try.prog rshT (lbN 1 Try.f10) :=
  forT0_ok mixed rshA.tbl (noLoops (by kernel_rfl)) [8] (bn := fun c => True) (inv := rshInv) rshDec_ok (fun _ _ => ⟨⟨.inr rfl, .inr rfl, .inr rfl, .inr rfl, trivial⟩, ⟨.inr rfl, trivial⟩, rfl, rfl, rfl⟩)
    (fun _ _ _ _ _ _ hr h1 h2 => by
      trivial)
    (fun c i x hok hn hinv hi => ⟨_, rshV_eq c i x, by
      refine ⟨fun h => ?_, fun h => ?_⟩
      · have h : i < (c.1 - 1).toNat := by (have h2 := h; have h3 : 0 ≤ c.1 ∧ c.1 ≤ 4096 := hok.1; simp at h2; omega)
        refine ⟨(have h3 : 0 ≤ c.1 ∧ c.1 ≤ 4096 := hok.1; ⟨by rw [Fx.w64_id (by omega) (by omega)]; omega, trivial⟩), ?_⟩
        refine ⟨(have h3 : 0 ≤ c.1 ∧ c.1 ≤ 4096 := hok.1; have h1 : x.1.length = c.1.toNat := hinv; have h4 := kin (s := x.2) h h3.2; ⟨⟨by omega, by omega⟩, by omega, trivial⟩), ?_⟩
        refine ⟨(have h3 : 0 ≤ c.1 ∧ c.1 ≤ 4096 := hok.1; have h1 : x.1.length = c.1.toNat := hinv; have h4 := kin (s := x.2) h h3.2; ⟨⟨by omega, by omega⟩, by omega, ⟨by omega, by omega⟩, by omega, trivial⟩), ?_⟩
        refine ⟨(have h3 : 0 ≤ c.1 ∧ c.1 ≤ 4096 := hok.1; have h1 : x.1.length = c.1.toNat := hinv; have h4 := kin (s := x.2) h h3.2; ⟨⟨by omega, by rw [List.length_set]; omega⟩, by rw [List.length_set]; omega, trivial⟩), ?_⟩
        rw [wdn h hok.1.2]
        exact ⟨rfl, (((x.1.set (c.1 - 1 - (i : Int)).toNat (x.1.getD (Fx.intn (Fx.w64 (c.1 - 1 - (i : Int) + 1)) x.2).1.toNat 0)).set (Fx.intn (Fx.w64 (c.1 - 1 - (i : Int) + 1)) x.2).1.toNat (x.1.getD (c.1 - 1 - (i : Int)).toNat 0)), (Fx.intn (Fx.w64 (c.1 - 1 - (i : Int) + 1)) x.2).2), [], h, by unfold rshStep; rfl, (by have h1 : x.1.length = c.1.toNat := hinv; show ((x.1.set _ _).set _ _).length = _; rw [List.length_set, List.length_set]; exact h1), ⟨.inr rfl, .inr rfl, .inr rfl, .inr rfl, trivial⟩, ⟨.inr rfl, trivial⟩, rfl, rfl, rfl⟩
      · have h : ¬ i < (c.1 - 1).toNat := by (have h2 := h; have h3 : 0 ≤ c.1 ∧ c.1 ≤ 4096 := hok.1; simp at h2; omega)
        exact ⟨rfl, .inl ⟨rfl, by omega, [], ⟨.inr rfl, .inr rfl, .inr rfl, .inr rfl, trivial⟩, ⟨.inr rfl, trivial⟩, rfl, rfl, rfl⟩⟩⟩)
section
variable (n s : Int)
def pf0 : List Int := foldN (pflStep (n, s, List.replicate n.toNat (0 : Int))) (List.replicate n.toNat (0 : Int)).length 0 (List.replicate n.toNat (0 : Int))
def pmU : List Int × Int := (bif Fx.permBad n then [] else (foldN (pshStep (n, pf0 n s)) (n - 1).toNat 0 (pf0 n s, s)).1, bif Fx.permBad n then s else (foldN (pshStep (n, pf0 n s)) (n - 1).toNat 0 (pf0 n s, s)).2)
def pmQ : List Prop := [Fx.permBad n = false → 0 ≤ n ∧ n ≤ n ∧ n * (8 : Nat) ≤ 140737488355328, Fx.permBad n = false → ((List.replicate n.toNat (0 : Int)).length : Int) = ((List.replicate n.toNat (0 : Int)).length : Int), Fx.permBad n = false → (0 : Int) = 0, Fx.permBad n = false → (List.replicate n.toNat (0 : Int)).length ≤ 65536,
  Fx.permBad n = false → Fx.w64 (n - 1) = n - 1 - ((0 : Nat) : Int), Fx.permBad n = false → (0 ≤ n ∧ n ≤ 4096) ∧ (pf0 n s).length = n.toNat]
theorem pf0_eq : pf0 n s = Fx.mapN n.toNat fun i => (i : Int) := by
  unfold pf0
  rw [List.length_replicate]
  exact Fx.fillP_eq n.toNat
theorem pmU_eq : pmU n s = Fx.perm n s := by
  unfold pmU
  rw [pf0_eq]; rfl
theorem pmQ_ok : Conj (pmQ n s) := by
  have b : Fx.permBad n = false → 0 ≤ n ∧ n ≤ 4096 := Fx.permBad_no
  exact ⟨fun h => by have := b h; omega, fun _ => rfl, fun _ => rfl, fun h => by have := b h; rw [List.length_replicate]; omega, fun h => by have := b h; rw [Fx.w64_id (by omega) (by omega)]; omega,
    fun h => ⟨b h, by rw [pf0_eq, Fx.mapN_len]⟩, trivial⟩
end
noncomputable def cPermLps : Nat → St → Tree := fun k => bif Nat.beq k (firstRegion (lbN 0 Try.f9)) then pflT else pshT
theorem cPerm : Sound Try.prog 9 (c2 eI eU eSU Fx.perm) :=
  con (lps := cPermLps) mixed .nil Try.func9 (by kernel_rfl) (by kernel_rfl) (loops2 (lps := cPermLps) (b := (lbN 0 Try.f9)) (b' := (lbN 1 Try.f9)) (by kernel_rfl) (by kernel_rfl) (by kernel_rfl)  pflLoop pshLoop) (g2 pmQ pmU (fun n s _ => pmQ_ok n s) (fun n s _ => pmU_eq n s) (fun _ _ => by kernel_rfl))
section
variable (n s : Int)
def rf0 : List Int := foldN (rfl1Step (n, s)) n.toNat 0 []
def rmU : List Int × Int := (bif Fx.permBad n then [] else (foldN (rshStep (n, rf0 n s)) (n - 1).toNat 0 (rf0 n s, s)).1, bif Fx.permBad n then s else (foldN (rshStep (n, rf0 n s)) (n - 1).toNat 0 (rf0 n s, s)).2)
def rmQ : List Prop := [Fx.permBad n = false → ([] : List Int) = [], Fx.permBad n = false → (0 : Int) = 0, Fx.permBad n = false → 0 ≤ n ∧ n ≤ 4096, Fx.permBad n = false → Fx.w64 (n - 1) = n - 1 - ((0 : Nat) : Int), Fx.permBad n = false → (0 ≤ n ∧ n ≤ 4096) ∧ (rf0 n s).length = n.toNat]
theorem rf0_eq : rf0 n s = Fx.mapN n.toNat fun i => (i : Int) := Fx.fillR_eq n.toNat
theorem rmU_eq : rmU n s = Fx.perm n s := by
  unfold rmU
  rw [rf0_eq]; rfl
theorem rmQ_ok : Conj (rmQ n s) := by
  have b : Fx.permBad n = false → 0 ≤ n ∧ n ≤ 4096 := Fx.permBad_no
  exact ⟨fun _ => rfl, fun _ => rfl, b, fun h => by have := b h; rw [Fx.w64_id (by omega) (by omega)]; omega, fun h => ⟨b h, by rw [rf0_eq, Fx.mapN_len]⟩, trivial⟩
end
noncomputable def rPermLps : Nat → St → Tree := fun k => bif Nat.beq k (firstRegion (lbN 0 Try.f10)) then rfl1T else rshT
theorem rPerm : Sound Try.prog 10 (c2 eI eU eSU Fx.perm) :=
  con (lps := rPermLps) mixed .nil Try.func10 (by kernel_rfl) (by kernel_rfl) (loops2 (lps := rPermLps) (b := (lbN 0 Try.f10)) (b' := (lbN 1 Try.f10)) (by kernel_rfl) (by kernel_rfl) (by kernel_rfl)  rfl1Loop rshLoop) (g2 rmQ rmU (fun n s _ => rmQ_ok n s) (fun n s _ => rmU_eq n s) (fun _ _ => by kernel_rfl))
end Go.Proofs.Ytpfaenikcpplfaa
