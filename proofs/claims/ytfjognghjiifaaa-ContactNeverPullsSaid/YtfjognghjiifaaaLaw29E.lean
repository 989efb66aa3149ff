/- Proved here: laws of chapter 29 return true for every input. Conditions: none. -/
import Derived.Test.YtfjognghjiifaaaLaw29C
import Derived.Test.YtfjognghjiifaaaEngFrz
open Go Go.Eng
namespace Go.Proofs.Ytfjognghjiifaaa
open Go.Fx (an orr an_true)

noncomputable def npaL : List (FuncId × Contract) := [(13, c0 eB true)]
def npaTv (c : (Fx.Ct) × (Fx.Bd × Fx.Bd) × (List Fx.Row) × (List Fx.Sb) × (Int) × (List Int)) (i : Nat) (_x : Unit) : List TV := [.val ((eSl .row).pv c.2.2.1), .val ((eSl .sb).pv c.2.2.2.1), .val (I c.2.2.2.2.1), .val ((eSl .u8).pv c.2.2.2.2.2), .val (.fv (.one (.ref 0 0))), .val (.fv (.one (.ref 1 0))), .val (Bo false), .val (I (i : Int))]
def npaMv (c : (Fx.Ct) × (Fx.Bd × Fx.Bd) × (List Fx.Row) × (List Fx.Sb) × (Int) × (List Int)) (_i : Nat) (_x : Unit) : List MRes := [.val (.blk 39 (ctG c.1)), .val (.blk 51 (bbG c.2.1))]
def npaEtv (_c : (Fx.Ct) × (Fx.Bd × Fx.Bd) × (List Fx.Row) × (List Fx.Sb) × (Int) × (List Int)) (_e : Unit) : List TV := [.any, .any, .any, .any, .any, .any, .val (Bo true), .any]
def npaEmv (_c : (Fx.Ct) × (Fx.Bd × Fx.Bd) × (List Fx.Row) × (List Fx.Sb) × (Int) × (List Int)) (_e : Unit) : List MRes := [.lost, .lost]
def npaDec : List TV → List MRes → Option (List Prop × ((Fx.Ct) × (Fx.Bd × Fx.Bd) × (List Fx.Row) × (List Fx.Sb) × (Int) × (List Int)) × (Unit))
  | [.val (.fv (.one (.slc false ⟨.row, l⟩))), .val (.fv (.one (.slc false ⟨.sb, s⟩))), .val (I dt), .val (.fv (.one (.slc false ⟨.u8, o⟩))), .val (.fv (.one (.ref 0 0))), .val (.fv (.one (.ref 1 0))), .val (Bo b), .val (I i)], [.val (.blk 39 [.int .i64 k1, .int .i64 k2, .int .i64 k3, .int .i64 k4, .int .i64 k5, .int .i64 k6, .slc false ⟨.cp, k7⟩]), .val (.blk 51 us)] => (match bbOf us with
    | some u => some ([b = false, i = 0, k7.length ≤ 65536], (⟨k1, k2, k3, k4, k5, k6, k7⟩, u, l, s, dt, o), ())
    | _ => none)
  | _, _ => none
def npaOk (c : (Fx.Ct) × (Fx.Bd × Fx.Bd) × (List Fx.Row) × (List Fx.Sb) × (Int) × (List Int)) : Prop := c.1.pts.length ≤ 65536
def npaInv (_c : (Fx.Ct) × (Fx.Bd × Fx.Bd) × (List Fx.Row) × (List Fx.Sb) × (Int) × (List Int)) (_i : Nat) (_x : Unit) : Prop := True
theorem npaDec_ok (ts : List TV) (ms : List MRes) (ps : List Prop) (c : (Fx.Ct) × (Fx.Bd × Fx.Bd) × (List Fx.Row) × (List Fx.Sb) × (Int) × (List Int)) (x : Unit) (h : npaDec ts ms = some (ps, c, x)) (hp : Conj ps) : ts = npaTv c 0 x ∧ ms = npaMv c 0 x ∧ npaOk c ∧ npaInv c 0 x := by
  unfold npaDec at h
  split at h
  · split at h
    · rename_i u eu
      have eu := bbOf_eq eu
      cases h
      subst eu
      obtain ⟨rfl, rfl, hok, _⟩ := hp
      exact ⟨rfl, rfl, hok, trivial⟩
    · cases h
  · cases h
def npaStep (c : (Fx.Ct) × (Fx.Bd × Fx.Bd) × (List Fx.Row) × (List Fx.Sb) × (Int) × (List Int)) (i : Nat) (_x : Unit) : Sum (Unit) (Unit) := bif decide ((c.1.pts.getD i Fx.cp0).ni < 0) then .inr () else .inl ()
def npaV (c : (Fx.Ct) × (Fx.Bd × Fx.Bd) × (List Fx.Row) × (List Fx.Sb) × (Int) × (List Int)) (i : Nat) (_x : Unit) : VT := VT.ite (decide ((i : Int) < (c.1.pts.length : Int))) (VT.pre [0 ≤ (i : Int) ∧ (i : Int) < ((c.1.pts).length : Int)] (VT.ite (decide ((c.1.pts.getD i Fx.cp0).ni < 0)) (VT.leaf (Ex.ret) 119 [.val ((eSl .row).pv c.2.2.1), .val ((eSl .sb).pv c.2.2.2.1), .val (I c.2.2.2.2.1), .val ((eSl .u8).pv c.2.2.2.2.2), .val (.fv (.one (.ref 0 0))), .val (.fv (.one (.ref 1 0))), .val (Bo true), .val (I (i : Int))] [.val (.blk 39 (ctG c.1)), .val (.blk 51 (bbG c.2.1))]) (VT.leaf Ex.norm 119 [.val ((eSl .row).pv c.2.2.1), .val ((eSl .sb).pv c.2.2.2.1), .val (I c.2.2.2.2.1), .val ((eSl .u8).pv c.2.2.2.2.2), .val (.fv (.one (.ref 0 0))), .val (.fv (.one (.ref 1 0))), .val (Bo false), .val (I (IntKind.i64.wrap ((i : Int) + 1)))] [.val (.blk 39 (ctG c.1)), .val (.blk 51 (bbG c.2.1))]))) (VT.leaf (Ex.exit 0) 119 [.val ((eSl .row).pv c.2.2.1), .val ((eSl .sb).pv c.2.2.2.1), .val (I c.2.2.2.2.1), .val ((eSl .u8).pv c.2.2.2.2.2), .val (.fv (.one (.ref 0 0))), .val (.fv (.one (.ref 1 0))), .val (Bo false), .val (I (i : Int))] [.val (.blk 39 (ctG c.1)), .val (.blk 51 (bbG c.2.1))])
theorem npaV_eq (c : (Fx.Ct) × (Fx.Bd × Fx.Bd) × (List Fx.Row) × (List Fx.Sb) × (Int) × (List Int)) (i : Nat) (x : Unit) : viewT [2, 3, 4, 5, 6, 7, 12, 13] [0, 1] (sexec Try.prog (tbl npaL) (noLps) (lbN 0 Try.f8) (headSt 119 23 [2, 3, 4, 5, 6, 7, 12, 13] [0, 1] (npaTv c i x) (npaMv c i x))) = npaV c i x := by kernel_rfl
noncomputable def npaT : St → Tree := forT 119 23 [2, 3, 4, 5, 6, 7, 12, 13] [0, 1] npaDec (fun c => c.1.pts.length) npaTv npaMv npaEtv npaEmv npaStep () 0 .ret
theorem npaA : AllSound Try.prog npaL := (.cons cEx29 .nil)
theorem npaLoop : LoopOk Try.prog npaT (lbN 0 Try.f8) :=
  forT_ok mixed npaA.tbl (noLoops (by kernel_rfl)) [0, 1] (bn := fun c => True) (inv := npaInv) npaDec_ok (fun _ _ => ⟨⟨.inr rfl, .inr rfl, .inr rfl, .inr rfl, .inr rfl, .inr rfl, .inr rfl, .inr rfl, trivial⟩, ⟨.inr rfl, .inr rfl, trivial⟩, rfl, rfl, rfl⟩)
    (fun _ _ _ _ _ _ hr h1 h2 => by
      trivial)
    (fun c i x hok hn hinv hi => ⟨_, npaV_eq c i x, by
      refine ⟨fun h => ?_, fun h => ?_⟩
      · have h : i < c.1.pts.length := by simpa using h
        refine ⟨⟨⟨by omega, by first | omega | (have := h; omega)⟩, trivial⟩, ?_⟩
        refine ⟨fun hb2 => ?_, fun hb2 => ?_⟩
        · exact ⟨rfl, .inr ⟨rfl, h, (), [], by unfold npaStep; first | rfl | ((try dsimp only); (try rw [hb2]); rfl), ⟨.inl rfl, .inl rfl, .inl rfl, .inl rfl, .inl rfl, .inl rfl, .inr rfl, .inl rfl, trivial⟩, ⟨.inl rfl, .inl rfl, trivial⟩, rfl, rfl, rfl⟩⟩
        · rw [wrap_succ h (by have h2 : c.1.pts.length ≤ 65536 := hok; simp only [maxLen]; omega)]
          exact ⟨rfl, (), [], h, by unfold npaStep; first | rfl | ((try dsimp only); (try rw [hb2]); rfl), trivial, ⟨.inr rfl, .inr rfl, .inr rfl, .inr rfl, .inr rfl, .inr rfl, .inr rfl, .inr rfl, trivial⟩, ⟨.inr rfl, .inr rfl, trivial⟩, rfl, rfl, rfl⟩
      · have h : ¬ i < c.1.pts.length := by simpa using h
        exact ⟨rfl, .inl ⟨rfl, by omega, [], ⟨.inr rfl, .inr rfl, .inr rfl, .inr rfl, .inr rfl, .inr rfl, .inr rfl, .inr rfl, trivial⟩, ⟨.inr rfl, .inr rfl, trivial⟩, rfl, rfl, rfl⟩⟩⟩)
theorem w2j {i : Nat} {m : Int} (h : i < (m.toNat + 1) / 2) (h0 : 0 ≤ m) (hm : m ≤ 65536) : IntKind.i64.wrap (2 * (i : Int) + 2) = 2 * ((i + 1 : Nat) : Int) := by
  have : Fx.w64 (2 * (i : Int) + 2) = 2 * (i : Int) + 2 := Fx.w64_id (by omega) (by omega)
  exact this.trans (by omega)
theorem npcT {i : Nat} {o : List Int} {r r0 : List Fx.Row} (h : an (decide ((i : Int) < (o.length : Int))) (decide ((r.length : Int) > 0)) = true) (hr : r.length = r0.length) : i < (if r0.length = 0 then 0 else o.length) := by
  obtain ⟨h1, h2⟩ := Fx.of_an h
  have h1 := of_decide_eq_true h1; have h2 := of_decide_eq_true h2
  rw [if_neg (by omega)]
  omega
theorem npcF {i : Nat} {o : List Int} {r r0 : List Fx.Row} (h : an (decide ((i : Int) < (o.length : Int))) (decide ((r.length : Int) > 0)) = false) (hr : r.length = r0.length) : ¬ i < (if r0.length = 0 then 0 else o.length) := by
  intro hi
  split at hi
  · omega
  · rw [an_true (decide_eq_true (by omega)) (decide_eq_true (by omega))] at h
    cases h
theorem npn {r0 : List Fx.Row} {o : List Int} (h : o.length ≤ 40) : (if r0.length = 0 then 0 else o.length) ≤ maxLen := by
  simp only [maxLen]
  split <;> omega
theorem npp {i : Nat} {o : List Int} {r r0 : List Fx.Row} {s : List Fx.Sb} (h : i < (if r0.length = 0 then 0 else o.length)) (hv : r.length = r0.length ∧ s.length ≤ 8) (hk : r0.length ≤ 65536) : Conj [0 ≤ (i : Int) ∧ (i : Int) < (o.length : Int), (r.length : Int) ≠ 0, r.length * 112 ≤ 140737488355328, s.length * 40 ≤ 140737488355328] := by
  obtain ⟨h1, h2⟩ := hv
  split at h
  · omega
  · exact ⟨by omega, by omega, by omega, by omega, trivial⟩
noncomputable def npiL : List (FuncId × Contract) := []
def npiTv (c : (Fx.Ct) × (Fx.Bd × Fx.Bd) × (List Fx.Row) × (List Fx.Sb) × (List Int) × (List Fx.Row) × (Int) × (Int)) (i : Nat) (_x : Unit) : List TV := [.val ((eSl .row).pv c.2.2.1), .val (.fv (.one (.slc true ⟨.sb, c.2.2.2.1⟩))), .val ((eSl .u8).pv c.2.2.2.2.1), .val (.fv (.one (.ref 0 0))), .val (.fv (.one (.ref 1 0))), .val (Bo false), .val (.fv (.one (.slc true ⟨.row, c.2.2.2.2.2.1⟩))), .val (I c.2.2.2.2.2.2.1), .val (I c.2.2.2.2.2.2.2), .val (I (2 * (i : Int)))]
def npiMv (c : (Fx.Ct) × (Fx.Bd × Fx.Bd) × (List Fx.Row) × (List Fx.Sb) × (List Int) × (List Fx.Row) × (Int) × (Int)) (_i : Nat) (_x : Unit) : List MRes := [.val (.blk 39 (ctG c.1)), .val (.blk 51 (bbG c.2.1))]
def npiEtv (_c : (Fx.Ct) × (Fx.Bd × Fx.Bd) × (List Fx.Row) × (List Fx.Sb) × (List Int) × (List Fx.Row) × (Int) × (Int)) (_e : Unit) : List TV := [.any, .any, .any, .any, .any, .val (Bo false), .any, .any, .any, .any]
def npiEmv (c : (Fx.Ct) × (Fx.Bd × Fx.Bd) × (List Fx.Row) × (List Fx.Sb) × (List Int) × (List Fx.Row) × (Int) × (Int)) (_e : Unit) : List MRes := [.val (.blk 39 (ctG c.1)), .val (.blk 51 (bbG c.2.1))]
def npiDec : List TV → List MRes → Option (List Prop × ((Fx.Ct) × (Fx.Bd × Fx.Bd) × (List Fx.Row) × (List Fx.Sb) × (List Int) × (List Fx.Row) × (Int) × (Int)) × (Unit))
  | [.val (.fv (.one (.slc false ⟨.row, l⟩))), .val (.fv (.one (.slc true ⟨.sb, s⟩))), .val (.fv (.one (.slc false ⟨.u8, o⟩))), .val (.fv (.one (.ref 0 0))), .val (.fv (.one (.ref 1 0))), .val (Bo b), .val (.fv (.one (.slc true ⟨.row, r⟩))), .val (I m), .val (I ii), .val (I i)], [.val (.blk 39 [.int .i64 k1, .int .i64 k2, .int .i64 k3, .int .i64 k4, .int .i64 k5, .int .i64 k6, .slc false ⟨.cp, k7⟩]), .val (.blk 51 us)] => (match bbOf us with
    | some u => some ([b = false, i = 2 * ((0 : Nat) : Int), (0 ≤ m ∧ m ≤ (r.length : Int)) ∧ r.length ≤ 65536], (⟨k1, k2, k3, k4, k5, k6, k7⟩, u, l, s, o, r, m, ii), ())
    | _ => none)
  | _, _ => none
def npiOk (c : (Fx.Ct) × (Fx.Bd × Fx.Bd) × (List Fx.Row) × (List Fx.Sb) × (List Int) × (List Fx.Row) × (Int) × (Int)) : Prop := (0 ≤ c.2.2.2.2.2.2.1 ∧ c.2.2.2.2.2.2.1 ≤ (c.2.2.2.2.2.1.length : Int)) ∧ c.2.2.2.2.2.1.length ≤ 65536
def npiInv (_c : (Fx.Ct) × (Fx.Bd × Fx.Bd) × (List Fx.Row) × (List Fx.Sb) × (List Int) × (List Fx.Row) × (Int) × (Int)) (_i : Nat) (_x : Unit) : Prop := True
theorem npiDec_ok (ts : List TV) (ms : List MRes) (ps : List Prop) (c : (Fx.Ct) × (Fx.Bd × Fx.Bd) × (List Fx.Row) × (List Fx.Sb) × (List Int) × (List Fx.Row) × (Int) × (Int)) (x : Unit) (h : npiDec ts ms = some (ps, c, x)) (hp : Conj ps) : ts = npiTv c 0 x ∧ ms = npiMv c 0 x ∧ npiOk c ∧ npiInv c 0 x := by
  unfold npiDec at h
  split at h
  · split at h
    · rename_i u eu
      have eu := bbOf_eq eu
      cases h
      subst eu
      obtain ⟨rfl, rfl, hok, _⟩ := hp
      exact ⟨rfl, rfl, hok, trivial⟩
    · cases h
  · cases h
def npiStep (c : (Fx.Ct) × (Fx.Bd × Fx.Bd) × (List Fx.Row) × (List Fx.Sb) × (List Int) × (List Fx.Row) × (Int) × (Int)) (i : Nat) (_x : Unit) : Sum (Unit) (Unit) := bif decide ((c.2.2.2.2.2.1.getD (2 * (i : Int)).toNat Fx.row0).im < 0) then .inr () else .inl ()
def npiV (c : (Fx.Ct) × (Fx.Bd × Fx.Bd) × (List Fx.Row) × (List Fx.Sb) × (List Int) × (List Fx.Row) × (Int) × (Int)) (i : Nat) (_x : Unit) : VT := VT.ite (decide (2 * (i : Int) < c.2.2.2.2.2.2.1)) (VT.pre [0 ≤ 2 * (i : Int) ∧ 2 * (i : Int) < (c.2.2.2.2.2.1.length : Int)] (VT.ite (decide ((c.2.2.2.2.2.1.getD (2 * (i : Int)).toNat Fx.row0).im < 0)) (VT.leaf (Ex.ret) 119 [.val ((eSl .row).pv c.2.2.1), .val (.fv (.one (.slc true ⟨.sb, c.2.2.2.1⟩))), .val ((eSl .u8).pv c.2.2.2.2.1), .val (.fv (.one (.ref 0 0))), .val (.fv (.one (.ref 1 0))), .val (Bo false), .val (.fv (.one (.slc true ⟨.row, c.2.2.2.2.2.1⟩))), .val (I c.2.2.2.2.2.2.1), .val (I c.2.2.2.2.2.2.2), .val (I (2 * (i : Int)))] [.val (.blk 39 (ctG c.1)), .val (.blk 51 (bbG c.2.1))]) (VT.leaf Ex.norm 119 [.val ((eSl .row).pv c.2.2.1), .val (.fv (.one (.slc true ⟨.sb, c.2.2.2.1⟩))), .val ((eSl .u8).pv c.2.2.2.2.1), .val (.fv (.one (.ref 0 0))), .val (.fv (.one (.ref 1 0))), .val (Bo false), .val (.fv (.one (.slc true ⟨.row, c.2.2.2.2.2.1⟩))), .val (I c.2.2.2.2.2.2.1), .val (I c.2.2.2.2.2.2.2), .val (I (IntKind.i64.wrap ((2 * (i : Int)) + 2)))] [.val (.blk 39 (ctG c.1)), .val (.blk 51 (bbG c.2.1))]))) (VT.leaf (Ex.exit 4) 119 [.val ((eSl .row).pv c.2.2.1), .val (.fv (.one (.slc true ⟨.sb, c.2.2.2.1⟩))), .val ((eSl .u8).pv c.2.2.2.2.1), .val (.fv (.one (.ref 0 0))), .val (.fv (.one (.ref 1 0))), .val (Bo false), .val (.fv (.one (.slc true ⟨.row, c.2.2.2.2.2.1⟩))), .val (I c.2.2.2.2.2.2.1), .val (I c.2.2.2.2.2.2.2), .val (I (2 * (i : Int)))] [.val (.blk 39 (ctG c.1)), .val (.blk 51 (bbG c.2.1))])
theorem npiV_eq (c : (Fx.Ct) × (Fx.Bd × Fx.Bd) × (List Fx.Row) × (List Fx.Sb) × (List Int) × (List Fx.Row) × (Int) × (Int)) (i : Nat) (x : Unit) : viewT [2, 3, 5, 6, 7, 12, 14, 15, 16, 17] [0, 1] (sexec Try.prog (tbl npiL) (noLps) ((loopsOf (lbN 1 Try.f8)).getD 0 .skip) (headSt 119 80 [2, 3, 5, 6, 7, 12, 14, 15, 16, 17] [0, 1] (npiTv c i x) (npiMv c i x))) = npiV c i x := by kernel_rfl
noncomputable def npiT : St → Tree := forT 119 80 [2, 3, 5, 6, 7, 12, 14, 15, 16, 17] [0, 1] npiDec (fun c => (c.2.2.2.2.2.2.1.toNat + 1) / 2) npiTv npiMv npiEtv npiEmv npiStep () 4 .ret
theorem npiA : AllSound Try.prog npiL := .nil
theorem npiLoop : LoopOk Try.prog npiT ((loopsOf (lbN 1 Try.f8)).getD 0 .skip) :=
  forT_ok mixed npiA.tbl (noLoops (by kernel_rfl)) [0, 1] (bn := fun c => True) (inv := npiInv) npiDec_ok (fun _ _ => ⟨⟨.inr rfl, .inr rfl, .inr rfl, .inr rfl, .inr rfl, .inr rfl, .inr rfl, .inr rfl, .inr rfl, .inr rfl, trivial⟩, ⟨.inr rfl, .inr rfl, trivial⟩, rfl, rfl, rfl⟩)
    (fun _ _ _ _ _ _ hr h1 h2 => by
      trivial)
    (fun c i x hok hn hinv hi => ⟨_, npiV_eq c i x, by
      refine ⟨fun h => ?_, fun h => ?_⟩
      · have h : i < (c.2.2.2.2.2.2.1.toNat + 1) / 2 := by (have h2 := h; have h3 := hok.1; simp at h2; omega)
        refine ⟨(have h3 := hok.1; ⟨⟨by omega, by omega⟩, trivial⟩), ?_⟩
        refine ⟨fun hb2 => ?_, fun hb2 => ?_⟩
        · exact ⟨rfl, .inr ⟨rfl, h, (), [], by unfold npiStep; first | rfl | ((try dsimp only); (try rw [hb2]); rfl), ⟨.inl rfl, .inl rfl, .inl rfl, .inl rfl, .inl rfl, .inr rfl, .inl rfl, .inl rfl, .inl rfl, .inl rfl, trivial⟩, ⟨.inr rfl, .inr rfl, trivial⟩, rfl, rfl, rfl⟩⟩
        · rw [w2j h hok.1.1 (Int.le_trans hok.1.2 (by have := hok.2; omega))]
          exact ⟨rfl, (), [], h, by unfold npiStep; first | rfl | ((try dsimp only); (try rw [hb2]); rfl), trivial, ⟨.inr rfl, .inr rfl, .inr rfl, .inr rfl, .inr rfl, .inr rfl, .inr rfl, .inr rfl, .inr rfl, .inr rfl, trivial⟩, ⟨.inr rfl, .inr rfl, trivial⟩, rfl, rfl, rfl⟩
      · have h : ¬ i < (c.2.2.2.2.2.2.1.toNat + 1) / 2 := by (have h2 := h; have h3 := hok.1; simp at h2; omega)
        exact ⟨rfl, .inl ⟨rfl, by omega, [], ⟨.inr rfl, .inr rfl, .inr rfl, .inr rfl, .inr rfl, .inr rfl, .inr rfl, .inr rfl, .inr rfl, .inr rfl, trivial⟩, ⟨.inr rfl, .inr rfl, trivial⟩, rfl, rfl, rfl⟩⟩⟩)
noncomputable def npoL : List (FuncId × Contract) := [(23, p3 (eSl .row) eI (eSl .sb) eSS (fun l _ s => [l.length * 112 ≤ 140737488355328, s.length * 40 ≤ 140737488355328]) (fun l i s => (Fx.solved1 l i s, Fx.solved2 l i s))), (17, c1 (eSl .row) eB Fx.nonNeg)]
def npoTv (c : (Fx.Ct) × (Fx.Bd × Fx.Bd) × (List Fx.Row) × (List Int) × (Int) × (List Fx.Row) × (List Fx.Sb)) (i : Nat) (x : (List Fx.Row) × (List Fx.Sb)) : List TV := [.val ((eSl .row).pv c.2.2.1), .val (.fv (.one (.slc false ⟨.sb, x.2⟩))), .val ((eSl .u8).pv c.2.2.2.1), .val (.fv (.one (.ref 0 0))), .val (.fv (.one (.ref 1 0))), .val (Bo false), .val (.fv (.one (.slc true ⟨.row, x.1⟩))), .val (I c.2.2.2.2.1), .val (I (i : Int))]
def npoMv (c : (Fx.Ct) × (Fx.Bd × Fx.Bd) × (List Fx.Row) × (List Int) × (Int) × (List Fx.Row) × (List Fx.Sb)) (_i : Nat) (_x : (List Fx.Row) × (List Fx.Sb)) : List MRes := [.val (.blk 39 (ctG c.1)), .val (.blk 51 (bbG c.2.1))]
def npoEtv (_c : (Fx.Ct) × (Fx.Bd × Fx.Bd) × (List Fx.Row) × (List Int) × (Int) × (List Fx.Row) × (List Fx.Sb)) (_e : Unit) : List TV := [.any, .any, .any, .any, .any, .val (Bo false), .any, .any, .any]
def npoEmv (_c : (Fx.Ct) × (Fx.Bd × Fx.Bd) × (List Fx.Row) × (List Int) × (Int) × (List Fx.Row) × (List Fx.Sb)) (_e : Unit) : List MRes := [.lost, .lost]
def npoDec : List TV → List MRes → Option (List Prop × ((Fx.Ct) × (Fx.Bd × Fx.Bd) × (List Fx.Row) × (List Int) × (Int) × (List Fx.Row) × (List Fx.Sb)) × ((List Fx.Row) × (List Fx.Sb)))
  | [.val (.fv (.one (.slc false ⟨.row, l⟩))), .val (.fv (.one (.slc false ⟨.sb, s⟩))), .val (.fv (.one (.slc false ⟨.u8, o⟩))), .val (.fv (.one (.ref 0 0))), .val (.fv (.one (.ref 1 0))), .val (Bo b), .val (.fv (.one (.slc true ⟨.row, r⟩))), .val (I m), .val (I i)], [.val (.blk 39 [.int .i64 k1, .int .i64 k2, .int .i64 k3, .int .i64 k4, .int .i64 k5, .int .i64 k6, .slc false ⟨.cp, k7⟩]), .val (.blk 51 us)] => (match bbOf us with
    | some u => some ([b = false, i = 0, (r.length ≤ 65536 ∧ 0 ≤ m ∧ m + (l.length : Int) = (r.length : Int)) ∧ s.length ≤ 8 ∧ o.length ≤ 40], (⟨k1, k2, k3, k4, k5, k6, k7⟩, u, l, o, m, r, s), (r, s))
    | _ => none)
  | _, _ => none
def npoOk (c : (Fx.Ct) × (Fx.Bd × Fx.Bd) × (List Fx.Row) × (List Int) × (Int) × (List Fx.Row) × (List Fx.Sb)) : Prop := (c.2.2.2.2.2.1.length ≤ 65536 ∧ 0 ≤ c.2.2.2.2.1 ∧ c.2.2.2.2.1 + (c.2.2.1.length : Int) = (c.2.2.2.2.2.1.length : Int)) ∧ c.2.2.2.2.2.2.length ≤ 8 ∧ c.2.2.2.1.length ≤ 40
def npoInv (c : (Fx.Ct) × (Fx.Bd × Fx.Bd) × (List Fx.Row) × (List Int) × (Int) × (List Fx.Row) × (List Fx.Sb)) (_i : Nat) (x : (List Fx.Row) × (List Fx.Sb)) : Prop := x.1.length = c.2.2.2.2.2.1.length ∧ x.2.length ≤ 8
theorem npoDec_ok (ts : List TV) (ms : List MRes) (ps : List Prop) (c : (Fx.Ct) × (Fx.Bd × Fx.Bd) × (List Fx.Row) × (List Int) × (Int) × (List Fx.Row) × (List Fx.Sb)) (x : (List Fx.Row) × (List Fx.Sb)) (h : npoDec ts ms = some (ps, c, x)) (hp : Conj ps) : ts = npoTv c 0 x ∧ ms = npoMv c 0 x ∧ npoOk c ∧ npoInv c 0 x := by
  unfold npoDec at h
  split at h
  · split at h
    · rename_i u eu
      have eu := bbOf_eq eu
      cases h
      subst eu
      obtain ⟨rfl, rfl, hok, _⟩ := hp
      exact ⟨rfl, rfl, hok, ⟨rfl, hok.2.1⟩⟩
    · cases h
  · cases h
def npoStep (c : (Fx.Ct) × (Fx.Bd × Fx.Bd) × (List Fx.Row) × (List Int) × (Int) × (List Fx.Row) × (List Fx.Sb)) (i : Nat) (x : (List Fx.Row) × (List Fx.Sb)) : Sum ((List Fx.Row) × (List Fx.Sb)) (Unit) := bif orr (((Fx.solved1 x.1 ((Fx.w64 (c.2.2.2.1.getD (i : Int).toNat 0)).tmod (x.1.length : Int)) x.2).length : Int) != Fx.w64 (c.2.2.2.2.1 + (c.2.2.1.length : Int))) (!Fx.nonNeg (List.take c.2.2.2.2.1.toNat (Fx.solved1 x.1 ((Fx.w64 (c.2.2.2.1.getD (i : Int).toNat 0)).tmod (x.1.length : Int)) x.2))) then .inr () else bif isL (runF (npiStep (c.1, c.2.1, c.2.2.1, (Fx.solved2 x.1 ((Fx.w64 (c.2.2.2.1.getD (i : Int).toNat 0)).tmod (x.1.length : Int)) x.2), c.2.2.2.1, (Fx.solved1 x.1 ((Fx.w64 (c.2.2.2.1.getD (i : Int).toNat 0)).tmod (x.1.length : Int)) x.2), c.2.2.2.2.1, (i : Int))) ((c.2.2.2.2.1.toNat + 1) / 2) 0 ()) then .inl ((Fx.solved1 x.1 ((Fx.w64 (c.2.2.2.1.getD (i : Int).toNat 0)).tmod (x.1.length : Int)) x.2), (Fx.solved2 x.1 ((Fx.w64 (c.2.2.2.1.getD (i : Int).toNat 0)).tmod (x.1.length : Int)) x.2)) else .inr ()
def npoV (c : (Fx.Ct) × (Fx.Bd × Fx.Bd) × (List Fx.Row) × (List Int) × (Int) × (List Fx.Row) × (List Fx.Sb)) (i : Nat) (x : (List Fx.Row) × (List Fx.Sb)) : VT := VT.ite (an (decide ((i : Int) < (c.2.2.2.1.length : Int))) (decide ((x.1.length : Int) > 0))) (VT.pre [0 ≤ (i : Int) ∧ (i : Int) < (c.2.2.2.1.length : Int), (x.1.length : Int) ≠ 0, x.1.length * 112 ≤ 140737488355328, x.2.length * 40 ≤ 140737488355328] (VT.pre [(((Fx.solved1 x.1 ((Fx.w64 (c.2.2.2.1.getD (i : Int).toNat 0)).tmod (x.1.length : Int)) x.2).length : Int) != Fx.w64 (c.2.2.2.2.1 + (c.2.2.1.length : Int))) = false → 0 ≤ c.2.2.2.2.1 ∧ c.2.2.2.2.1 ≤ ((Fx.solved1 x.1 ((Fx.w64 (c.2.2.2.1.getD (i : Int).toNat 0)).tmod (x.1.length : Int)) x.2).length : Int)] (VT.ite (orr (((Fx.solved1 x.1 ((Fx.w64 (c.2.2.2.1.getD (i : Int).toNat 0)).tmod (x.1.length : Int)) x.2).length : Int) != Fx.w64 (c.2.2.2.2.1 + (c.2.2.1.length : Int))) (!Fx.nonNeg (List.take c.2.2.2.2.1.toNat (Fx.solved1 x.1 ((Fx.w64 (c.2.2.2.1.getD (i : Int).toNat 0)).tmod (x.1.length : Int)) x.2)))) (VT.leaf (Ex.ret) 119 [.val ((eSl .row).pv c.2.2.1), .val (.fv (.one (.slc true ⟨.sb, (Fx.solved2 x.1 ((Fx.w64 (c.2.2.2.1.getD (i : Int).toNat 0)).tmod (x.1.length : Int)) x.2)⟩))), .val ((eSl .u8).pv c.2.2.2.1), .val (.fv (.one (.ref 0 0))), .val (.fv (.one (.ref 1 0))), .val (Bo false), .val (.fv (.one (.slc true ⟨.row, (Fx.solved1 x.1 ((Fx.w64 (c.2.2.2.1.getD (i : Int).toNat 0)).tmod (x.1.length : Int)) x.2)⟩))), .val (I c.2.2.2.2.1), .val (I (i : Int))] [.val (.blk 39 (ctG c.1)), .val (.blk 51 (bbG c.2.1))]) (VT.pre [false = false, (0 : Int) = 2 * ((0 : Nat) : Int), (0 ≤ c.2.2.2.2.1 ∧ c.2.2.2.2.1 ≤ ((Fx.solved1 x.1 ((Fx.w64 (c.2.2.2.1.getD (i : Int).toNat 0)).tmod (x.1.length : Int)) x.2).length : Int)) ∧ (Fx.solved1 x.1 ((Fx.w64 (c.2.2.2.1.getD (i : Int).toNat 0)).tmod (x.1.length : Int)) x.2).length ≤ 65536] (VT.ite (isL (runF (npiStep (c.1, c.2.1, c.2.2.1, (Fx.solved2 x.1 ((Fx.w64 (c.2.2.2.1.getD (i : Int).toNat 0)).tmod (x.1.length : Int)) x.2), c.2.2.2.1, (Fx.solved1 x.1 ((Fx.w64 (c.2.2.2.1.getD (i : Int).toNat 0)).tmod (x.1.length : Int)) x.2), c.2.2.2.2.1, (i : Int))) ((c.2.2.2.2.1.toNat + 1) / 2) 0 ())) (VT.leaf Ex.norm 119 [.val ((eSl .row).pv c.2.2.1), .val (.fv (.one (.slc true ⟨.sb, (Fx.solved2 x.1 ((Fx.w64 (c.2.2.2.1.getD (i : Int).toNat 0)).tmod (x.1.length : Int)) x.2)⟩))), .val ((eSl .u8).pv c.2.2.2.1), .val (.fv (.one (.ref 0 0))), .val (.fv (.one (.ref 1 0))), .val (Bo false), .val (.fv (.one (.slc true ⟨.row, (Fx.solved1 x.1 ((Fx.w64 (c.2.2.2.1.getD (i : Int).toNat 0)).tmod (x.1.length : Int)) x.2)⟩))), .val (I c.2.2.2.2.1), .val (I (IntKind.i64.wrap ((i : Int) + 1)))] [.val (.blk 39 (ctG c.1)), .val (.blk 51 (bbG c.2.1))]) (VT.leaf (Ex.ret) 119 [.any, .any, .any, .any, .any, .val (Bo false), .any, .any, .any] [.val (.blk 39 (ctG c.1)), .val (.blk 51 (bbG c.2.1))])))))) (VT.leaf (Ex.exit 2) 119 [.val ((eSl .row).pv c.2.2.1), .val (.fv (.one (.slc false ⟨.sb, x.2⟩))), .val ((eSl .u8).pv c.2.2.2.1), .val (.fv (.one (.ref 0 0))), .val (.fv (.one (.ref 1 0))), .val (Bo false), .val (.fv (.one (.slc true ⟨.row, x.1⟩))), .val (I c.2.2.2.2.1), .val (I (i : Int))] [.val (.blk 39 (ctG c.1)), .val (.blk 51 (bbG c.2.1))])
theorem npoV_eq (c : (Fx.Ct) × (Fx.Bd × Fx.Bd) × (List Fx.Row) × (List Int) × (Int) × (List Fx.Row) × (List Fx.Sb)) (i : Nat) (x : (List Fx.Row) × (List Fx.Sb)) : viewT [2, 3, 5, 6, 7, 12, 14, 15, 16] [0, 1] (sexec Try.prog (tbl npoL) (fun _ => npiT) (lbN 1 Try.f8) (headSt 119 40 [2, 3, 5, 6, 7, 12, 14, 15, 16] [0, 1] (npoTv c i x) (npoMv c i x))) = npoV c i x := by kernel_rfl
noncomputable def npoT : St → Tree := forT 119 40 [2, 3, 5, 6, 7, 12, 14, 15, 16] [0, 1] npoDec (fun c => (if c.2.2.2.2.2.1.length = 0 then 0 else c.2.2.2.1.length)) npoTv npoMv npoEtv npoEmv npoStep () 2 .ret
theorem npoA : AllSound Try.prog npoL := (.cons cSlv (.cons cNng .nil))
theorem npoLoop : LoopOk Try.prog npoT (lbN 1 Try.f8) :=
  forT_ok mixed npoA.tbl (oneLoop (lps := fun _ => npiT) (b := (loopsOf (lbN 1 Try.f8)).getD 0 .skip) (by kernel_rfl) npiLoop) [0, 1] (bn := fun c => True) (inv := npoInv) npoDec_ok (fun _ _ => ⟨⟨.inr rfl, .inr rfl, .inr rfl, .inr rfl, .inr rfl, .inr rfl, .inr rfl, .inr rfl, .inr rfl, trivial⟩, ⟨.inr rfl, .inr rfl, trivial⟩, rfl, rfl, rfl⟩)
    (fun _ _ _ _ _ _ hr h1 h2 => by
      trivial)
    (fun c i x hok hn hinv hi => ⟨_, npoV_eq c i x, by
      refine ⟨fun h => ?_, fun h => ?_⟩
      · have h : i < (if c.2.2.2.2.2.1.length = 0 then 0 else c.2.2.2.1.length) := by first | exact npcT h hinv.1 | exact npcF h hinv.1
        refine ⟨(npp h hinv hok.1.1), ?_⟩
        refine ⟨⟨fun _ => (by rw [Fx.solved1_len]; have h1 : x.1.length = c.2.2.2.2.2.1.length := hinv.1; have h2 := hok.1; omega), trivial⟩, ?_⟩
        refine ⟨fun hb3 => ?_, fun hb3 => ?_⟩
        · exact ⟨rfl, .inr ⟨rfl, h, (), [], by unfold npoStep; first | rfl | ((try dsimp only); (try rw [hb3]); (try rw [hb6]); rfl), ⟨.inl rfl, .inl rfl, .inl rfl, .inl rfl, .inl rfl, .inr rfl, .inl rfl, .inl rfl, .inl rfl, trivial⟩, ⟨.inl rfl, .inl rfl, trivial⟩, rfl, rfl, rfl⟩⟩
        · refine ⟨(have h1 : x.1.length = c.2.2.2.2.2.1.length := hinv.1; have h2 := hok.1; ⟨rfl, rfl, by rw [Fx.solved1_len]; omega, trivial⟩), ?_⟩
          refine ⟨fun hb6 => ?_, fun hb6 => ?_⟩
          · rw [wrap_succ h (npn hok.2.2)]
            exact ⟨rfl, ((Fx.solved1 x.1 ((Fx.w64 (c.2.2.2.1.getD (i : Int).toNat 0)).tmod (x.1.length : Int)) x.2), (Fx.solved2 x.1 ((Fx.w64 (c.2.2.2.1.getD (i : Int).toNat 0)).tmod (x.1.length : Int)) x.2)), [], h, by unfold npoStep; first | rfl | ((try dsimp only); (try rw [hb3]); (try rw [hb6]); rfl), (by have h1 : x.1.length = c.2.2.2.2.2.1.length ∧ x.2.length ≤ 8 := hinv; exact ⟨(Fx.solved1_len x.1 _ x.2).trans h1.1, (by show (Fx.solved2 _ _ _).length ≤ 8; rw [Fx.solved2_len]; exact h1.2)⟩), ⟨.inr rfl, .inr rfl, .inr rfl, .inr rfl, .inr rfl, .inr rfl, .inr rfl, .inr rfl, .inr rfl, trivial⟩, ⟨.inr rfl, .inr rfl, trivial⟩, rfl, rfl, rfl⟩
          · exact ⟨rfl, .inr ⟨rfl, h, (), [], by unfold npoStep; first | rfl | ((try dsimp only); (try rw [hb3]); (try rw [hb6]); rfl), ⟨.inl rfl, .inl rfl, .inl rfl, .inl rfl, .inl rfl, .inr rfl, .inl rfl, .inl rfl, .inl rfl, trivial⟩, ⟨.inl rfl, .inl rfl, trivial⟩, rfl, rfl, rfl⟩⟩
      · have h : ¬ i < (if c.2.2.2.2.2.1.length = 0 then 0 else c.2.2.2.1.length) := by first | exact npcT h hinv.1 | exact npcF h hinv.1
        exact ⟨rfl, .inl ⟨rfl, by omega, [], ⟨.inr rfl, .inr rfl, .inr rfl, .inr rfl, .inr rfl, .inr rfl, .inr rfl, .inr rfl, .inr rfl, trivial⟩, ⟨.inr rfl, .inr rfl, trivial⟩, rfl, rfl, rfl⟩⟩⟩)
noncomputable def npfT : St → Tree := fun σ => npoT (freezeSt 37 σ)
theorem npfLoop : LoopOk Try.prog npfT (lbN 1 Try.f8) := npoLoop.freeze 37
noncomputable def npLps : Nat → St → Tree := fun k => bif Nat.beq k (firstRegion (lbN 0 Try.f8)) then npaT else npfT
theorem isLeach {ε : Type} {p : Nat → Bool} {e : Nat → ε} : ∀ (k i : Nat), isL (runF (fun i (_ : Unit) => bif p i then .inr (e i) else .inl ()) k i ()) = true → ∀ j, i ≤ j → j < i + k → p j = false
  | 0, i, _, j, h1, h2 => by omega
  | k + 1, i, h, j, h1, h2 => by
    cases hp : p i with
    | true => simp only [runF, hp, cond_true] at h; cases h
    | false =>
      simp only [runF, hp, cond_false] at h
      by_cases e : j = i
      · rw [e]; exact hp
      · exact isLeach k (i + 1) h j (by omega) (by omega)
/-- The normal rows among the first n rows do not pull. -/
def Good (n N : Nat) (r : List Fx.Row) : Prop := r.length = N ∧ ∀ m, m < n → (m % 2 = 0 → (r.getD m Fx.row0).lo = 0 ∧ (r.getD m Fx.row0).up = 536870911 ∧ (r.getD m Fx.row0).fo = -1 ∧ 0 ≤ (r.getD m Fx.row0).im) ∧ (m % 2 = 1 → (r.getD m Fx.row0).up = 0)
theorem clampNn (x : Int) : 0 ≤ Fx.clamp x 0 536870911 := by
  unfold Fx.clamp
  split
  · omega
  · split <;> omega
theorem good_step {n N : Nat} {r : List Fx.Row} (hn : n ≤ N) (h : Good n N r) (i : Int) (s : List Fx.Sb) : Good n N (Fx.solved1 r i s) := by
  obtain ⟨h1, h2⟩ := h
  refine ⟨by rw [Fx.solved1_len]; exact h1, fun m hm => ?_⟩
  unfold Fx.solved1 Fx.sv1G
  cases ho : Fx.outOf r i with
  | true => exact h2 m hm
  | false =>
    rw [cond_false]
    have hi := Fx.outOf_false ho
    by_cases e : i.toNat = m
    · have e2 : (r.set i.toNat ((Fx.rowAt r i).wim (Fx.nImG Fx.relV Fx.bounds Fx.mul Fx.add Fx.sub Fx.clamp r i s))).getD m Fx.row0 = (Fx.rowAt r i).wim (Fx.nImG Fx.relV Fx.bounds Fx.mul Fx.add Fx.sub Fx.clamp r i s) := by
        rw [e, List.getD_eq_getElem?_getD, List.getElem?_set_self (by omega)]; rfl
      rw [e2]
      have e3 : Fx.rowAt r i = r.getD m Fx.row0 := by unfold Fx.rowAt; rw [e]
      refine ⟨fun he => ?_, fun he => ?_⟩
      · obtain ⟨a1, a2, a3, a4⟩ := (h2 m hm).1 he
        have hb : Fx.bounds r i = (0, 536870911) := by
          rw [bounds_own ho (by unfold Fx.own1; rw [e3, a3]; rfl), e3, a1, a2]
        refine ⟨?_, ?_, ?_, ?_⟩
        · show (Fx.rowAt r i).lo = 0; rw [e3]; exact a1
        · show (Fx.rowAt r i).up = _; rw [e3]; exact a2
        · show (Fx.rowAt r i).fo = _; rw [e3]; exact a3
        · show 0 ≤ Fx.nImG Fx.relV Fx.bounds Fx.mul Fx.add Fx.sub Fx.clamp r i s
          unfold Fx.nImG
          rw [hb]
          exact clampNn _
      · show (Fx.rowAt r i).up = 0
        rw [e3]; exact (h2 m hm).2 he
    · have e2 : (r.set i.toNat ((Fx.rowAt r i).wim (Fx.nImG Fx.relV Fx.bounds Fx.mul Fx.add Fx.sub Fx.clamp r i s))).getD m Fx.row0 = r.getD m Fx.row0 := by
        rw [List.getD_eq_getElem?_getD, List.getElem?_set_ne e, ← List.getD_eq_getElem?_getD]
      rw [e2]
      exact h2 m hm
theorem good_nn {n N : Nat} {r : List Fx.Row} (_ : n ≤ N) (h : Good n N r) : Fx.nonNeg (List.take n r) = true := by
  obtain ⟨h1, h2⟩ := h
  unfold Fx.nonNeg
  have : isL (runF (fun i (_ : Unit) => bif Fx.nnBad ((List.take n r).getD i Fx.row0) then Sum.inr () else Sum.inl ()) (List.take n r).length 0 ()) = true := by
    refine Fx.isL_all _ _ fun j _ hj => ?_
    rw [List.length_take] at hj
    have hj' : j < n := by omega
    have e : (List.take n r).getD j Fx.row0 = r.getD j Fx.row0 := by
      rw [List.getD_eq_getElem?_getD, List.getElem?_take, if_pos hj', ← List.getD_eq_getElem?_getD]
    rw [e]
    unfold Fx.nnBad an
    rcases Nat.mod_two_eq_zero_or_one j with he | he
    · have h4 := ((h2 j hj').1 he).2.2.2
      have h5 : ¬ (r.getD j Fx.row0).im < 0 := by omega
      simp only [decide_eq_false h5]
      simp
    · rw [(h2 j hj').2 he]
      simp
  rw [this]
  rfl
theorem good_in {n N : Nat} {r : List Fx.Row} (_ : n ≤ N) (h : Good n N r) (k : Fx.Ct) (q : Fx.Bd × Fx.Bd) (l : List Fx.Row) (s : List Fx.Sb) (o : List Int) (ii : Int) : isL (runF (npiStep (k, q, l, s, o, r, (n : Int), ii)) (((n : Int).toNat + 1) / 2) 0 ()) = true := by
  refine Fx.isL_all _ _ fun j _ hj => ?_
  dsimp only
  have e : (2 * (j : Int)).toNat = 2 * j := by omega
  rw [e]
  have h4 := ((h.2 (2 * j) (by omega)).1 (by omega)).2.2.2
  exact decide_eq_false (by omega)
theorem good_rows (c : Fx.Ct) (a b : Fx.Bd) (l : List Fx.Row) (s : List Fx.Sb) (dt : Int) (hn : ∀ j, j < c.pts.length → 0 ≤ (c.pts.getD j Fx.cp0).ni) : Good (crows c a b 0 1 0 s dt).length (crows c a b 0 1 0 s dt ++ l).length (crows c a b 0 1 0 s dt ++ l) := by
  refine ⟨rfl, fun m hm => ?_⟩
  rw [getD_app hm]
  cases h : cok c a b with
  | false => rw [crows_no h] at hm; exact absurd hm (Nat.not_lt_zero _)
  | true =>
    rw [crows_len h] at hm
    obtain ⟨r0, r1⟩ := crows_at h 0 1 0 s dt (m / 2) (by omega)
    refine ⟨fun he => ?_, fun he => ?_⟩
    · rw [show m = 2 * (m / 2) from by omega, r0]
      exact ⟨rfl, rfl, rfl, hn (m / 2) (by omega)⟩
    · rw [show m = 2 * (m / 2) + 1 from by omega, r1]
      rfl
section
variable (sm : Fx.Ct → Fx.Bd × Fx.Bd → Bool) (rows : Fx.Ct → Fx.Bd → Fx.Bd → Int → Int → Int → List Fx.Sb → Int → List Fx.Row) (c : Fx.Ct) (p : Fx.Bd × Fx.Bd) (l : List Fx.Row) (s : List Fx.Sb) (dt : Int) (o : List Int)
def npG : Bool := orr (orr (orr (!(sm c p)) (decide ((l.length : Int) > 8))) (decide ((s.length : Int) > 8))) (decide ((o.length : Int) > 40))
def npR : List Fx.Row := rows c p.1 p.2 0 1 0 s dt
def npA : Bool := isL (runF (npaStep (c, p, l, s, dt, o)) c.pts.length 0 ())
def npO : Bool := isL (runF (npoStep (c, p, l, o, ((npR rows c p s dt).length : Int), npR rows c p s dt ++ l, s)) (if (npR rows c p s dt ++ l).length = 0 then 0 else o.length) 0 (npR rows c p s dt ++ l, s))
def npU : Bool := bif npG sm c p l s o then true else bif npA c p l s dt o then (bif npO rows c p l s dt o then true else false) else true
def npQ : List Prop := [npG sm c p l s o = false → false = false, npG sm c p l s o = false → (0 : Int) = 0, npG sm c p l s o = false → c.pts.length ≤ 65536, npG sm c p l s o = false → npA c p l s dt o = true → c.pts.length ≤ 65536,
  npG sm c p l s o = false → npA c p l s dt o = true → ((npR rows c p s dt).length + l.length) * 112 ≤ 140737488355328, npG sm c p l s o = false → npA c p l s dt o = true → false = false, npG sm c p l s o = false → npA c p l s dt o = true → (0 : Int) = 0,
  npG sm c p l s o = false → npA c p l s dt o = true → ((npR rows c p s dt ++ l).length ≤ 65536 ∧ 0 ≤ ((npR rows c p s dt).length : Int) ∧ ((npR rows c p s dt).length : Int) + (l.length : Int) = ((npR rows c p s dt ++ l).length : Int)) ∧ s.length ≤ 8 ∧ o.length ≤ 40]
theorem npEq : symFn Try.prog (tbl [(19, c2 eCt eBB eB sm), (20, p8 eCt eBd eBd eI eI eI (eSl .sb) eI (eFr 59 .row) (fun c _ _ _ _ _ _ _ => [c.pts.length ≤ 65536]) rows), (13, c0 eB true)]) npLps 8 [eCt.pv c, eBB.pv p, (eSl .row).pv l, (eSl .sb).pv s, eI.pv dt, (eSl .u8).pv o] = some (npQ sm rows c p l s dt o, eB.pv (npU sm rows c p l s dt o)) := by kernel_rfl
end
theorem npG_no {c : Fx.Ct} {p : Fx.Bd × Fx.Bd} {l : List Fx.Row} {s : List Fx.Sb} {o : List Int} (h : npG sm29 c p l s o = false) : c.pts.length ≤ 4 ∧ l.length ≤ 8 ∧ s.length ≤ 8 ∧ o.length ≤ 40 := by
  obtain ⟨h, h4⟩ := Fx.of_orr h
  obtain ⟨h, h3⟩ := Fx.of_orr h
  obtain ⟨h1, h2⟩ := Fx.of_orr h
  have h2 := of_decide_eq_false h2; have h3 := of_decide_eq_false h3; have h4 := of_decide_eq_false h4
  have h0 : sm29 c p = true := by simpa using h1
  exact ⟨sm29_len h0, by omega, by omega, by omega⟩
theorem npO_true (c : Fx.Ct) (p : Fx.Bd × Fx.Bd) (l : List Fx.Row) (s : List Fx.Sb) (dt : Int) (o : List Int) (hc : c.pts.length ≤ 4) (hl : l.length ≤ 8) (hA : npA c p l s dt o = true) : npO crows c p l s dt o = true := by
  have hn : ∀ j, j < c.pts.length → 0 ≤ (c.pts.getD j Fx.cp0).ni := fun j hj => by
    have h1 : ¬ (c.pts.getD j Fx.cp0).ni < 0 := of_decide_eq_false (isLeach c.pts.length 0 hA j (Nat.zero_le _) (by omega))
    omega
  have hb := crows_bound c p.1 p.2 0 1 0 s dt
  have hg := good_rows c p.1 p.2 l s dt hn
  unfold npO npR
  generalize hR : crows c p.1 p.2 0 1 0 s dt = R at *
  have hnN : R.length ≤ (R ++ l).length := by rw [List.length_append]; omega
  obtain ⟨y, e, _⟩ := Fx.runF_inv (step := npoStep (c, p, l, o, (R.length : Int), R ++ l, s)) (fun x => Good R.length (R ++ l).length x.1) (if (R ++ l).length = 0 then 0 else o.length) 0 (R ++ l, s) hg fun j x _ _ hx => by
    have h1 := good_step hnN hx ((Fx.w64 (o.getD (j : Int).toNat 0)).tmod (x.1.length : Int)) x.2
    refine ⟨(Fx.solved1 x.1 ((Fx.w64 (o.getD (j : Int).toNat 0)).tmod (x.1.length : Int)) x.2, Fx.solved2 x.1 ((Fx.w64 (o.getD (j : Int).toNat 0)).tmod (x.1.length : Int)) x.2), ?_, h1⟩
    unfold npoStep
    dsimp only
    have e1 : (((Fx.solved1 x.1 ((Fx.w64 (o.getD (j : Int).toNat 0)).tmod (x.1.length : Int)) x.2).length : Int) != Fx.w64 ((R.length : Int) + (l.length : Int))) = false := by
      rw [h1.1, List.length_append, Fx.w64_id (by omega) (by omega)]
      simp
    have e2 : Fx.nonNeg (List.take (R.length : Int).toNat (Fx.solved1 x.1 ((Fx.w64 (o.getD (j : Int).toNat 0)).tmod (x.1.length : Int)) x.2)) = true := by
      rw [Int.toNat_natCast]
      exact good_nn hnN h1
    rw [e1, e2, good_in hnN h1]
    rfl
  rw [e]
  rfl
theorem npU_true (c : Fx.Ct) (p : Fx.Bd × Fx.Bd) (l : List Fx.Row) (s : List Fx.Sb) (dt : Int) (o : List Int) : npU sm29 crows c p l s dt o = true := by
  unfold npU
  cases hG : npG sm29 c p l s o with
  | true => rfl
  | false =>
    obtain ⟨hc, hl, hs, _⟩ := npG_no hG
    cases hA : npA c p l s dt o with
    | false => rfl
    | true => rw [npO_true c p l s dt o hc hl hA]; rfl
theorem npQ_ok (c : Fx.Ct) (p : Fx.Bd × Fx.Bd) (l : List Fx.Row) (s : List Fx.Sb) (dt : Int) (o : List Int) : Conj (npQ sm29 crows c p l s dt o) := by
  refine ⟨fun _ => rfl, fun _ => rfl, fun hG => ?_, fun hG _ => ?_, fun hG _ => ?_, fun _ _ => rfl, fun _ _ => rfl, fun hG _ => ?_, trivial⟩ <;> obtain ⟨hc, hl, hs, ho⟩ := npG_no hG
  · omega
  · omega
  · have := crows_bound c p.1 p.2 0 1 0 s dt
    unfold npR
    omega
  · have := crows_bound c p.1 p.2 0 1 0 s dt
    unfold npR
    rw [List.length_append]
    omega
theorem lContactNeverPulls : Sound Try.prog 8 (c6 eCt eBB (eSl .row) (eSl .sb) eI (eSl .u8) eB (fun _ _ _ _ _ _ => true)) :=
  con (lps := npLps) mixed (AllSound.cons cSm29 (.cons cCtr (.cons cEx29 .nil))) Try.func8 (by kernel_rfl) (by kernel_rfl) (loops2 (lps := npLps) (b := (lbN 0 Try.f8)) (b' := (lbN 1 Try.f8)) (by kernel_rfl) (by kernel_rfl) (by kernel_rfl) npaLoop npfLoop)
    (g6 (fun c p l s dt o => npQ sm29 crows c p l s dt o) (fun c p l s dt o => npU sm29 crows c p l s dt o) (fun c p l s dt o _ => npQ_ok c p l s dt o) (fun c p l s dt o _ => npU_true c p l s dt o) (fun c p l s dt o => npEq sm29 crows c p l s dt o))
theorem args_Slu8 {P : Program} {D : Nat} {t : TypeId} {ts : List TypeId} {vs : List PV} (ha : isAggT P t = false) (hl : leafs P D t = [.slc .u8]) (h : ArgsAre P D (t :: ts) vs) : ∃ (v : List (K.Ty .u8)) (rest : _), vs = (eSl .u8).pv v :: rest ∧ ArgsAre P D ts rest := by
  obtain ⟨l, r, h1, _, h2⟩ := args_Sl .u8 ha hl h
  exact ⟨l, r, h1, h2⟩
theorem aContactNeverPulls : ∀ vs, ArgsAre Try.prog 8 [39, 51, 40, 52, 3, 62] vs → ∃ ps, (c6 eCt eBB (eSl .row) (eSl .sb) eI (eSl .u8) eB (fun _ _ _ _ _ _ => true)) vs = some (ps, .fv (.one (.bool true))) ∧ Conj ps := by
  intro vs h0
  obtain ⟨x0, r, rfl, h1⟩ := args_Ct (by kernel_rfl) (by kernel_rfl) h0
  obtain ⟨x1, r, rfl, h2⟩ := args_BB (by kernel_rfl) (by kernel_rfl) h1
  obtain ⟨x2, r, rfl, h3⟩ := args_Slrow (by kernel_rfl) (by kernel_rfl) h2
  obtain ⟨x3, r, rfl, h4⟩ := args_Slsb (by kernel_rfl) (by kernel_rfl) h3
  obtain ⟨x4, r, rfl, lo4, hi4, h5⟩ := args_int (k := .i64) (by kernel_rfl) (by kernel_rfl) h4
  obtain ⟨x5, r, rfl, h6⟩ := args_Slu8 (by kernel_rfl) (by kernel_rfl) h5
  obtain rfl := args_nil h6
  exact ⟨_, rfl, trivial⟩
set_option maxRecDepth 100000 in
theorem liftedContactNeverPulls (os : Os) (started : os.Started) (H : Type) (enc : TypeId × Value → H) :
    ReturnsInHanded {} Try.checked os 8 .any (Rows.contactNeverPullsSpec.pre6 enc Try.prog Try.f8 Rows.contactNeverPullsRow.domain false) (Rows.contactNeverPullsSpec.post enc Try.prog Try.f8 false true false false) := by
  refine returnsInHanded_of_change (C := Try.checked) own started (by kernel_rfl) Try.func8 (ChangeSpec.witness6 (enc := enc) (C := Try.checked) false ⟨#[], #[.agg #[.int .i64 0, .int .i64 0, .int .i64 0, .int .i64 0, .int .i64 0, .int .i64 0, .slice none 0 0], .agg #[.int .i64 0, .int .i64 0, .int .i64 0, .int .i64 0, .int .i64 0, .int .i64 0, .int .i64 0, .int .i64 0, .int .i64 0, .int .i64 0, .int .i64 0, .int .i64 0, .int .i64 0, .int .i64 0, .bool false, .bool false, .bool false, .bool false, .int .i64 0, .slice none 0 0, .int .i64 0, .int .i64 0, .int .i64 0, .int .i64 0, .int .i64 0, .int .i64 0, .int .i64 0, .int .i64 0, .int .i64 0, .int .i64 0, .int .i64 0, .int .i64 0, .int .i64 0, .int .i64 0, .bool false, .bool false, .bool false, .bool false, .int .i64 0, .slice none 0 0], .slice none 0 0, .slice none 0 0, .int .i64 0, .slice none 0 0], []⟩ 8 (by kernel_rfl) (by kernel_rfl) (by kernel_rfl) (by kernel_rfl)) ?_
  intro W base args ds gs before hval hW _ _
  exact law_contract (D := 8) (by kernel_rfl) (of_allOk (by kernel_rfl)) (tb := 4) (by kernel_rfl) (by kernel_rfl) rfl (fun ds h => by
    have h : ds.length = 6 := h
    match ds, h with
    | [d0, d1, d2, d3, d4, d5], _ => rfl) lContactNeverPulls aContactNeverPulls W base args ds gs before hval hW

theorem contactNeverPulls_holds : Rows.ContactNeverPullsSaid :=
  OpenClaim.holds_of_wide 8 Try.f8 rfl rfl rfl rfl rfl rfl rfl ⟨rfl, rfl, rfl, rfl, rfl⟩ rfl rfl rfl rfl rfl (by kernel_rfl) Try.func8 (by kernel_rfl)
    (of_decide_eq_true (by kernel_rfl)) (by unfold Func.isWrapper; first | (rw [if_pos (by decide +kernel)]; kernel_rfl) | (rw [if_neg (by decide +kernel)]; exact ⟨rfl, rfl⟩))
    (fun os started H enc _ => liftedContactNeverPulls os started H enc)

end Go.Proofs.Ytfjognghjiifaaa
