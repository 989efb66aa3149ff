/- Proved here: laws of chapter 29 return true for every input. Conditions: none. -/
import Derived.Test.YtfjognghjiifaaaLaw29
open Go Go.Eng
namespace Go.Proofs.Ytfjognghjiifaaa
open Go.Fx (an orr an_true)

noncomputable def rstL : List (FuncId × Contract) := []
def rstTv (c : (Fx.Ct) × (Fx.Ct) × (List Fx.Row) × (Int)) (i : Nat) (_x : (List Fx.Cp)) : List TV := [.val ((eSl .row).pv c.2.2.1), .val (I c.2.2.2), .val (.fv (.one (.ref 0 0))), .val (.fv (.one (.ref 1 0))), .val (.fv (.one (.own 2))), .val (I (i : Int))]
def rstMv (c : (Fx.Ct) × (Fx.Ct) × (List Fx.Row) × (Int)) (_i : Nat) (x : (List Fx.Cp)) : List MRes := [.val (.blk 39 (ctG c.1)), .val (.blk 39 ((ctG c.2.1).dropLast ++ [.slc true ⟨.cp, c.2.1.pts⟩])), .val (.row 64 ⟨.cp, x⟩)]
def rstDec : List TV → List MRes → Option (List Prop × ((Fx.Ct) × (Fx.Ct) × (List Fx.Row) × (Int)) × ((List Fx.Cp)))
  | [.val (.fv (.one (.slc false ⟨.row, l⟩))), .val (I b), .val (.fv (.one (.ref 0 0))), .val (.fv (.one (.ref 1 0))), .val (.fv (.one (.own 2))), .val (I i)], [.val (.blk 39 [.int .i64 k1, .int .i64 k2, .int .i64 k3, .int .i64 k4, .int .i64 k5, .int .i64 k6, .slc false ⟨.cp, k7⟩]), .val (.blk 39 [.int .i64 d1, .int .i64 d2, .int .i64 d3, .int .i64 d4, .int .i64 d5, .int .i64 d6, .slc true ⟨.cp, d7⟩]), .val (.row 64 ⟨.cp, q⟩)] => some ([q = [], i = 0, k7.length ≤ 65536], (⟨k1, k2, k3, k4, k5, k6, k7⟩, ⟨d1, d2, d3, d4, d5, d6, d7⟩, l, b), [])
  | _, _ => none
def rstOk (c : (Fx.Ct) × (Fx.Ct) × (List Fx.Row) × (Int)) : Prop := c.1.pts.length ≤ 65536
def rstInv (_c : (Fx.Ct) × (Fx.Ct) × (List Fx.Row) × (Int)) (i : Nat) (x : (List Fx.Cp)) : Prop := x.length ≤ i
theorem rstDec_ok (ts : List TV) (ms : List MRes) (ps : List Prop) (c : (Fx.Ct) × (Fx.Ct) × (List Fx.Row) × (Int)) (x : (List Fx.Cp)) (h : rstDec ts ms = some (ps, c, x)) (hp : Conj ps) : ts = rstTv c 0 x ∧ ms = rstMv c 0 x ∧ rstOk c ∧ rstInv c 0 x := by
  unfold rstDec at h
  split at h
  · cases h
    obtain ⟨rfl, rfl, hok, _⟩ := hp
    exact ⟨rfl, rfl, hok, (Nat.le_refl 0)⟩
  · cases h
def rstStep (c : (Fx.Ct) × (Fx.Ct) × (List Fx.Row) × (Int)) (i : Nat) (x : (List Fx.Cp)) : (List Fx.Cp) := bif an (decide ((Fx.stFst c.2.2.2 i) ≥ 0)) (decide ((Fx.stFst c.2.2.2 i) < (c.2.2.1.length : Int))) then bif an (decide ((Fx.w64 (Fx.stFst c.2.2.2 i + 1)) ≥ 0)) (decide ((Fx.w64 (Fx.stFst c.2.2.2 i + 1)) < (c.2.2.1.length : Int))) then ((x ++ [⟨(c.1.pts.getD i Fx.cp0).px, (c.1.pts.getD i Fx.cp0).py, (c.1.pts.getD i Fx.cp0).sep, (c.1.pts.getD i Fx.cp0).id, (c.2.2.1.getD (Fx.stFst c.2.2.2 i).toNat Fx.row0).im, (c.2.2.1.getD (Fx.w64 (Fx.stFst c.2.2.2 i + 1)).toNat Fx.row0).im⟩])) else ((x ++ [⟨(c.1.pts.getD i Fx.cp0).px, (c.1.pts.getD i Fx.cp0).py, (c.1.pts.getD i Fx.cp0).sep, (c.1.pts.getD i Fx.cp0).id, (c.2.2.1.getD (Fx.stFst c.2.2.2 i).toNat Fx.row0).im, (c.1.pts.getD i Fx.cp0).ti⟩])) else bif an (decide ((Fx.w64 (Fx.stFst c.2.2.2 i + 1)) ≥ 0)) (decide ((Fx.w64 (Fx.stFst c.2.2.2 i + 1)) < (c.2.2.1.length : Int))) then ((x ++ [⟨(c.1.pts.getD i Fx.cp0).px, (c.1.pts.getD i Fx.cp0).py, (c.1.pts.getD i Fx.cp0).sep, (c.1.pts.getD i Fx.cp0).id, (c.1.pts.getD i Fx.cp0).ni, (c.2.2.1.getD (Fx.w64 (Fx.stFst c.2.2.2 i + 1)).toNat Fx.row0).im⟩])) else ((x ++ [⟨(c.1.pts.getD i Fx.cp0).px, (c.1.pts.getD i Fx.cp0).py, (c.1.pts.getD i Fx.cp0).sep, (c.1.pts.getD i Fx.cp0).id, (c.1.pts.getD i Fx.cp0).ni, (c.1.pts.getD i Fx.cp0).ti⟩]))
def rstV (c : (Fx.Ct) × (Fx.Ct) × (List Fx.Row) × (Int)) (i : Nat) (x : (List Fx.Cp)) : VT := VT.ite (decide ((i : Int) < (c.1.pts.length : Int))) (VT.pre [0 ≤ (i : Int) ∧ (i : Int) < ((c.1.pts).length : Int)] (VT.ite (an (decide ((Fx.stFst c.2.2.2 i) ≥ 0)) (decide ((Fx.stFst c.2.2.2 i) < (c.2.2.1.length : Int)))) (VT.pre [0 ≤ (Fx.stFst c.2.2.2 i) ∧ (Fx.stFst c.2.2.2 i) < (c.2.2.1.length : Int)] (VT.ite (an (decide ((Fx.w64 (Fx.stFst c.2.2.2 i + 1)) ≥ 0)) (decide ((Fx.w64 (Fx.stFst c.2.2.2 i + 1)) < (c.2.2.1.length : Int)))) (VT.pre [0 ≤ (Fx.w64 (Fx.stFst c.2.2.2 i + 1)) ∧ (Fx.w64 (Fx.stFst c.2.2.2 i + 1)) < (c.2.2.1.length : Int)] (VT.pre [(x.length + 1) * 48 ≤ 140737488355328] (VT.leaf Ex.norm 71 [.val ((eSl .row).pv c.2.2.1), .val (I c.2.2.2), .val (.fv (.one (.ref 0 0))), .val (.fv (.one (.ref 1 0))), .val (.fv (.one (.own 62))), .val (I (IntKind.i64.wrap ((i : Int) + 1)))] [.val (.blk 39 (ctG c.1)), .val (.blk 39 ((ctG c.2.1).dropLast ++ [.slc true ⟨.cp, c.2.1.pts⟩])), .lost, .free, .free, .val (.row 64 ⟨.cp, (x ++ [⟨(c.1.pts.getD i Fx.cp0).px, (c.1.pts.getD i Fx.cp0).py, (c.1.pts.getD i Fx.cp0).sep, (c.1.pts.getD i Fx.cp0).id, (c.2.2.1.getD (Fx.stFst c.2.2.2 i).toNat Fx.row0).im, (c.2.2.1.getD (Fx.w64 (Fx.stFst c.2.2.2 i + 1)).toNat Fx.row0).im⟩])⟩)]))) (VT.pre [(x.length + 1) * 48 ≤ 140737488355328] (VT.leaf Ex.norm 71 [.val ((eSl .row).pv c.2.2.1), .val (I c.2.2.2), .val (.fv (.one (.ref 0 0))), .val (.fv (.one (.ref 1 0))), .val (.fv (.one (.own 55))), .val (I (IntKind.i64.wrap ((i : Int) + 1)))] [.val (.blk 39 (ctG c.1)), .val (.blk 39 ((ctG c.2.1).dropLast ++ [.slc true ⟨.cp, c.2.1.pts⟩])), .lost, .free, .val (.row 64 ⟨.cp, (x ++ [⟨(c.1.pts.getD i Fx.cp0).px, (c.1.pts.getD i Fx.cp0).py, (c.1.pts.getD i Fx.cp0).sep, (c.1.pts.getD i Fx.cp0).id, (c.2.2.1.getD (Fx.stFst c.2.2.2 i).toNat Fx.row0).im, (c.1.pts.getD i Fx.cp0).ti⟩])⟩), .free])))) (VT.ite (an (decide ((Fx.w64 (Fx.stFst c.2.2.2 i + 1)) ≥ 0)) (decide ((Fx.w64 (Fx.stFst c.2.2.2 i + 1)) < (c.2.2.1.length : Int)))) (VT.pre [0 ≤ (Fx.w64 (Fx.stFst c.2.2.2 i + 1)) ∧ (Fx.w64 (Fx.stFst c.2.2.2 i + 1)) < (c.2.2.1.length : Int)] (VT.pre [(x.length + 1) * 48 ≤ 140737488355328] (VT.leaf Ex.norm 71 [.val ((eSl .row).pv c.2.2.1), .val (I c.2.2.2), .val (.fv (.one (.ref 0 0))), .val (.fv (.one (.ref 1 0))), .val (.fv (.one (.own 55))), .val (I (IntKind.i64.wrap ((i : Int) + 1)))] [.val (.blk 39 (ctG c.1)), .val (.blk 39 ((ctG c.2.1).dropLast ++ [.slc true ⟨.cp, c.2.1.pts⟩])), .lost, .free, .val (.row 64 ⟨.cp, (x ++ [⟨(c.1.pts.getD i Fx.cp0).px, (c.1.pts.getD i Fx.cp0).py, (c.1.pts.getD i Fx.cp0).sep, (c.1.pts.getD i Fx.cp0).id, (c.1.pts.getD i Fx.cp0).ni, (c.2.2.1.getD (Fx.w64 (Fx.stFst c.2.2.2 i + 1)).toNat Fx.row0).im⟩])⟩), .free]))) (VT.pre [(x.length + 1) * 48 ≤ 140737488355328] (VT.leaf Ex.norm 71 [.val ((eSl .row).pv c.2.2.1), .val (I c.2.2.2), .val (.fv (.one (.ref 0 0))), .val (.fv (.one (.ref 1 0))), .val (.fv (.one (.own 48))), .val (I (IntKind.i64.wrap ((i : Int) + 1)))] [.val (.blk 39 (ctG c.1)), .val (.blk 39 ((ctG c.2.1).dropLast ++ [.slc true ⟨.cp, c.2.1.pts⟩])), .lost, .val (.row 64 ⟨.cp, (x ++ [⟨(c.1.pts.getD i Fx.cp0).px, (c.1.pts.getD i Fx.cp0).py, (c.1.pts.getD i Fx.cp0).sep, (c.1.pts.getD i Fx.cp0).id, (c.1.pts.getD i Fx.cp0).ni, (c.1.pts.getD i Fx.cp0).ti⟩])⟩), .free, .free]))))) (VT.leaf (Ex.exit 0) 71 [.val ((eSl .row).pv c.2.2.1), .val (I c.2.2.2), .val (.fv (.one (.ref 0 0))), .val (.fv (.one (.ref 1 0))), .val (.fv (.one (.own 2))), .val (I (i : Int))] [.val (.blk 39 (ctG c.1)), .val (.blk 39 ((ctG c.2.1).dropLast ++ [.slc true ⟨.cp, c.2.1.pts⟩])), .val (.row 64 ⟨.cp, x⟩), .free, .free, .free])
theorem rstV_eq (c : (Fx.Ct) × (Fx.Ct) × (List Fx.Row) × (Int)) (i : Nat) (x : (List Fx.Cp)) : viewT [1, 2, 3, 6, 7, 8] [0, 1, 2, 48, 55, 62] (sexec Try.prog (tbl rstL) (noLps) (lbN 0 Try.f16) (headSt 71 4 [1, 2, 3, 6, 7, 8] [0, 1, 2] (rstTv c i x) (rstMv c i x))) = rstV c i x := by kernel_rfl
noncomputable def rstT : St → Tree := forT0 71 4 [1, 2, 3, 6, 7, 8] [0, 1, 2] rstDec (fun c => c.1.pts.length) rstTv rstMv rstStep 0
theorem rstA : AllSound Try.prog rstL := .nil
theorem rstLoop : LoopOk Try.prog rstT (lbN 0 Try.f16) :=
  forT0_ok mixed rstA.tbl (noLoops (by kernel_rfl)) [0, 1, 2, 48, 55, 62] (bn := fun c => True) (inv := rstInv) rstDec_ok (fun _ _ => ⟨⟨.inr rfl, .inr rfl, .inr rfl, .inr rfl, .inr rfl, .inr rfl, trivial⟩, ⟨.inr rfl, .inr rfl, .inr rfl, trivial⟩, rfl, rfl, rfl⟩)
    (fun _ _ _ _ _ _ hr h1 h2 => by
      trivial)
    (fun c i x hok hn hinv hi => ⟨_, rstV_eq c i x, by
      refine ⟨fun h => ?_, fun h => ?_⟩
      · have h : i < c.1.pts.length := by simpa using h
        refine ⟨⟨⟨by omega, by first | omega | (have := h; omega)⟩, trivial⟩, ?_⟩
        refine ⟨fun hb2 => ?_, fun hb2 => ?_⟩
        · refine ⟨(have h5 := Fx.of_an hb2; ⟨⟨of_decide_eq_true h5.1, of_decide_eq_true h5.2⟩, trivial⟩), ?_⟩
          refine ⟨fun hb4 => ?_, fun hb4 => ?_⟩
          · refine ⟨(have h5 := Fx.of_an hb4; ⟨⟨of_decide_eq_true h5.1, of_decide_eq_true h5.2⟩, trivial⟩), ?_⟩
            refine ⟨(have h6 : x.length ≤ i := hinv; have h7 : c.1.pts.length ≤ 65536 := hok; ⟨by omega, trivial⟩), ?_⟩
            rw [wrap_succ h (by have h2 : c.1.pts.length ≤ 65536 := hok; simp only [maxLen]; omega)]
            exact ⟨rfl, ((x ++ [⟨(c.1.pts.getD i Fx.cp0).px, (c.1.pts.getD i Fx.cp0).py, (c.1.pts.getD i Fx.cp0).sep, (c.1.pts.getD i Fx.cp0).id, (c.2.2.1.getD (Fx.stFst c.2.2.2 i).toNat Fx.row0).im, (c.2.2.1.getD (Fx.w64 (Fx.stFst c.2.2.2 i + 1)).toNat Fx.row0).im⟩])), [(2, 62)], h, by unfold rstStep; first | rfl | ((try dsimp only); (try rw [hb10]); (try rw [hb2]); (try rw [hb4]); rfl), (by have h1 : x.length ≤ i := hinv; show (x ++ [_]).length ≤ i + 1; rw [List.length_append]; exact Nat.add_le_add_right h1 1), ⟨.inr rfl, .inr rfl, .inr rfl, .inr rfl, .inr rfl, .inr rfl, trivial⟩, ⟨.inr rfl, .inr rfl, .inr rfl, trivial⟩, rfl, rfl, rfl⟩
          · refine ⟨(have h6 : x.length ≤ i := hinv; have h7 : c.1.pts.length ≤ 65536 := hok; ⟨by omega, trivial⟩), ?_⟩
            rw [wrap_succ h (by have h2 : c.1.pts.length ≤ 65536 := hok; simp only [maxLen]; omega)]
            exact ⟨rfl, ((x ++ [⟨(c.1.pts.getD i Fx.cp0).px, (c.1.pts.getD i Fx.cp0).py, (c.1.pts.getD i Fx.cp0).sep, (c.1.pts.getD i Fx.cp0).id, (c.2.2.1.getD (Fx.stFst c.2.2.2 i).toNat Fx.row0).im, (c.1.pts.getD i Fx.cp0).ti⟩])), [(2, 55)], h, by unfold rstStep; first | rfl | ((try dsimp only); (try rw [hb10]); (try rw [hb2]); (try rw [hb4]); rfl), (by have h1 : x.length ≤ i := hinv; show (x ++ [_]).length ≤ i + 1; rw [List.length_append]; exact Nat.add_le_add_right h1 1), ⟨.inr rfl, .inr rfl, .inr rfl, .inr rfl, .inr rfl, .inr rfl, trivial⟩, ⟨.inr rfl, .inr rfl, .inr rfl, trivial⟩, rfl, rfl, rfl⟩
        · refine ⟨fun hb10 => ?_, fun hb10 => ?_⟩
          · refine ⟨(have h5 := Fx.of_an hb10; ⟨⟨of_decide_eq_true h5.1, of_decide_eq_true h5.2⟩, trivial⟩), ?_⟩
            refine ⟨(have h6 : x.length ≤ i := hinv; have h7 : c.1.pts.length ≤ 65536 := hok; ⟨by omega, trivial⟩), ?_⟩
            rw [wrap_succ h (by have h2 : c.1.pts.length ≤ 65536 := hok; simp only [maxLen]; omega)]
            exact ⟨rfl, ((x ++ [⟨(c.1.pts.getD i Fx.cp0).px, (c.1.pts.getD i Fx.cp0).py, (c.1.pts.getD i Fx.cp0).sep, (c.1.pts.getD i Fx.cp0).id, (c.1.pts.getD i Fx.cp0).ni, (c.2.2.1.getD (Fx.w64 (Fx.stFst c.2.2.2 i + 1)).toNat Fx.row0).im⟩])), [(2, 55)], h, by unfold rstStep; first | rfl | ((try dsimp only); (try rw [hb10]); (try rw [hb2]); (try rw [hb4]); rfl), (by have h1 : x.length ≤ i := hinv; show (x ++ [_]).length ≤ i + 1; rw [List.length_append]; exact Nat.add_le_add_right h1 1), ⟨.inr rfl, .inr rfl, .inr rfl, .inr rfl, .inr rfl, .inr rfl, trivial⟩, ⟨.inr rfl, .inr rfl, .inr rfl, trivial⟩, rfl, rfl, rfl⟩
          · refine ⟨(have h6 : x.length ≤ i := hinv; have h7 : c.1.pts.length ≤ 65536 := hok; ⟨by omega, trivial⟩), ?_⟩
            rw [wrap_succ h (by have h2 : c.1.pts.length ≤ 65536 := hok; simp only [maxLen]; omega)]
            exact ⟨rfl, ((x ++ [⟨(c.1.pts.getD i Fx.cp0).px, (c.1.pts.getD i Fx.cp0).py, (c.1.pts.getD i Fx.cp0).sep, (c.1.pts.getD i Fx.cp0).id, (c.1.pts.getD i Fx.cp0).ni, (c.1.pts.getD i Fx.cp0).ti⟩])), [(2, 48)], h, by unfold rstStep; first | rfl | ((try dsimp only); (try rw [hb10]); (try rw [hb2]); (try rw [hb4]); rfl), (by have h1 : x.length ≤ i := hinv; show (x ++ [_]).length ≤ i + 1; rw [List.length_append]; exact Nat.add_le_add_right h1 1), ⟨.inr rfl, .inr rfl, .inr rfl, .inr rfl, .inr rfl, .inr rfl, trivial⟩, ⟨.inr rfl, .inr rfl, .inr rfl, trivial⟩, rfl, rfl, rfl⟩
      · have h : ¬ i < c.1.pts.length := by simpa using h
        exact ⟨rfl, .inl ⟨rfl, by omega, [], ⟨.inr rfl, .inr rfl, .inr rfl, .inr rfl, .inr rfl, .inr rfl, trivial⟩, ⟨.inr rfl, .inr rfl, .inr rfl, trivial⟩, rfl, rfl, rfl⟩⟩⟩)
def rstore (c : Fx.Ct) (l : List Fx.Row) (b : Int) : Fx.Ct := ⟨c.ba, c.fa, c.bb, c.fb, c.nx, c.ny, foldN (rstStep (c, ⟨0, 0, 0, 0, 0, 0, []⟩, l, b)) c.pts.length 0 []⟩
def rstQ (c : Fx.Ct) (_l : List Fx.Row) (_b : Int) : List Prop := [([] : List Fx.Cp) = [], (0 : Int) = 0, c.pts.length ≤ 65536]
theorem rimp_if (l : List Fx.Row) (k p : Int) : Fx.rimp l k p = bif an (decide (k ≥ 0)) (decide (k < (l.length : Int))) then (l.getD k.toNat Fx.row0).im else p := by
  unfold Fx.rimp Fx.rowAt Fx.outOf an orr
  by_cases h1 : k < 0
  · have h2 : ¬ k ≥ 0 := by omega
    simp [h1, h2]
  · have h2 : k ≥ 0 := by omega
    by_cases h3 : k < (l.length : Int)
    · have h4 : ¬ k ≥ (l.length : Int) := by omega
      simp [h1, h2, h3, h4]
    · have h4 : k ≥ (l.length : Int) := by omega
      simp [h1, h2, h3, h4]
theorem rst_step (c : Fx.Ct) (d : Fx.Ct) (l : List Fx.Row) (b : Int) (i : Nat) (q : List Fx.Cp) : rstStep (c, d, l, b) i q = q ++ [upd l b i (c.pts.getD i Fx.cp0)] := by
  unfold upd rstStep
  rw [rimp_if, rimp_if]
  dsimp only
  cases an (decide (Fx.stFst b i ≥ 0)) (decide (Fx.stFst b i < (l.length : Int))) <;> cases an (decide (Fx.w64 (Fx.stFst b i + 1) ≥ 0)) (decide (Fx.w64 (Fx.stFst b i + 1) < (l.length : Int))) <;> rfl
theorem rst_fold (c : Fx.Ct) (d : Fx.Ct) (l : List Fx.Row) (b : Int) : ∀ (n i : Nat) (q : List Fx.Cp), foldN (rstStep (c, d, l, b)) n i q = q ++ (List.range' i n).map fun j => upd l b j (c.pts.getD j Fx.cp0)
  | 0, _, q => by simp [foldN]
  | n + 1, i, q => by
    show foldN (rstStep (c, d, l, b)) n (i + 1) (rstStep (c, d, l, b) i q) = _
    rw [rst_fold c d l b n (i + 1), rst_step, List.append_assoc]
    rfl
theorem rstore_pts (c : Fx.Ct) (l : List Fx.Row) (b : Int) : (rstore c l b).pts = (List.range' 0 c.pts.length).map fun j => upd l b j (c.pts.getD j Fx.cp0) := by
  show foldN _ _ _ _ = _
  rw [rst_fold, List.nil_append]
theorem rCst : Sound Try.prog 16 (p3 eCt (eSl .row) eI eCtT (fun c _ _ => [c.pts.length ≤ 65536]) rstore) :=
  con (lps := fun _ => rstT) mixed .nil Try.func16 (by kernel_rfl) (by kernel_rfl) (oneLoop (lps := fun _ => rstT) (b := (lbN 0 Try.f16)) (by kernel_rfl) rstLoop) (g3 rstQ rstore (fun c _ _ h => ⟨rfl, rfl, h.1, trivial⟩) (fun _ _ _ _ => rfl) (fun _ _ _ => by kernel_rfl))
theorem runF_err {β ε : Type} {step : Nat → β → Sum β ε} {k i : Nat} {x : β} {e : ε} (h : step i x = .inr e) : runF step (k + 1) i x = .inr e := by
  simp only [runF, h]
theorem runF_inl_gen {β ε : Type} {step : Nat → β → β} : ∀ (k i : Nat) (x : β), runF (ε := ε) (fun i x => .inl (step i x)) k i x = .inl (foldN step k i x)
  | 0, _, _ => rfl
  | k + 1, i, x => by simp only [runF, foldN]; exact runF_inl_gen k (i + 1) _
theorem st_fold (l : List Fx.Row) (b : Int) (q0 : List Fx.Cp) : foldN (Fx.st2 l b) q0.length 0 q0 = (List.range' 0 q0.length).map fun j => upd l b j (q0.getD j Fx.cp0) := by
  have h := Fx.foldN_inv (f := Fx.st2 l b) (fun i q => q.length = q0.length ∧ ∀ m, m < q0.length → q.getD m Fx.cp0 = if m < i then upd l b m (q0.getD m Fx.cp0) else q0.getD m Fx.cp0) q0.length 0 q0 ⟨rfl, fun m _ => by simp⟩ fun j q _ hj hq => by
    obtain ⟨h1, h2⟩ := hq
    refine ⟨by rw [Fx.st2_len]; exact h1, fun m hm => ?_⟩
    rw [st2_eq l b j q (by omega), List.getD_eq_getElem?_getD, List.getElem?_set]
    by_cases e : j = m
    · subst e
      rw [if_pos rfl, if_pos (by omega), if_pos (by omega), h2 j hm, if_neg (by omega)]
      rfl
    · rw [if_neg e, ← List.getD_eq_getElem?_getD, h2 m hm]
      by_cases e2 : m < j
      · rw [if_pos e2, if_pos (by omega)]
      · rw [if_neg e2, if_neg (by omega)]
  obtain ⟨h1, h2⟩ := h
  refine List.ext_getElem (by rw [h1]; simp) fun m hm hm' => ?_
  have hm2 : m < q0.length := by rw [h1] at hm; exact hm
  have h3 := h2 m hm2
  rw [if_pos (by omega)] at h3
  rw [List.getD_eq_getElem?_getD, List.getElem?_eq_getElem hm] at h3
  have h4 : (foldN (Fx.st2 l b) q0.length 0 q0)[m] = upd l b m (q0.getD m Fx.cp0) := h3
  rw [h4]
  simp
theorem store_eq (c : Fx.Ct) (l : List Fx.Row) (b : Int) (hc : c.pts.length ≤ 8) (hl : l.length ≤ 30) (h0 : 0 ≤ b) (hb : b < 2147483648) : cstore c l b = rstore c l b := by
  have hp : (cstore c l b).pts = (rstore c l b).pts := by
    rw [rstore_pts]
    show csP c l b = _
    unfold csP csR
    rw [cp1_eq]
    by_cases hbl : b > (l.length : Int)
    · have hu : (List.range' 0 c.pts.length).map (fun j => upd l b j (c.pts.getD j Fx.cp0)) = c.pts := by
        refine List.ext_getElem (by simp) fun m hm hm' => ?_
        have e1 : Fx.stFst b m = b + 2 * (m : Int) := by
          unfold Fx.stFst
          rw [Fx.w64_id (n := 2 * (m : Int)) (by omega) (by omega), Fx.w64_id (by omega) (by omega)]
        have e2 : Fx.w64 (Fx.stFst b m + 1) = b + 2 * (m : Int) + 1 := by
          rw [e1, Fx.w64_id (by omega) (by omega)]
        have ho : ∀ k p : Int, k > (l.length : Int) → Fx.rimp l k p = p := fun k p hk => by
          unfold Fx.rimp Fx.outOf
          rw [show decide (k ≥ (l.length : Int)) = true from decide_eq_true (by omega)]
          unfold orr
          cases decide (k < 0) <;> rfl
        have e3 : upd l b m (c.pts.getD m Fx.cp0) = c.pts.getD m Fx.cp0 := upd_same (by rw [e1]; exact ho _ _ (by omega)) (by rw [e2]; exact ho _ _ (by omega))
        rw [List.getElem_map, List.getElem_range', show 0 + 1 * m = m from by omega, e3, List.getD_eq_getElem?_getD, List.getElem?_eq_getElem hm']
        rfl
      rw [hu]
      cases hn : c.pts with
      | nil => rfl
      | cons x xs =>
        have e : runF (cstStep (c, ⟨0, 0, 0, 0, 0, 0, []⟩, l, b, x :: xs)) (x :: xs).length 0 (x :: xs) = .inr (x :: xs) := by
          have : cstStep (c, ⟨0, 0, 0, 0, 0, 0, []⟩, l, b, x :: xs) 0 (x :: xs) = .inr (x :: xs) := by
            unfold cstStep
            dsimp only
            rw [show decide (b > (l.length : Int)) = true from decide_eq_true hbl, cond_true]
          exact runF_err this
        rw [e]
        rfl
    · have e : cstStep (c, ⟨0, 0, 0, 0, 0, 0, []⟩, l, b, c.pts) = fun i q => .inl (Fx.st2 l b i q) := by
        funext i q
        unfold cstStep
        dsimp only
        rw [show decide (b > (l.length : Int)) = false from decide_eq_false hbl, cond_false]
      rw [e, runF_inl_gen, st_fold]
      rfl
  have : cstore c l b = ⟨c.ba, c.fa, c.bb, c.fb, c.nx, c.ny, (cstore c l b).pts⟩ := rfl
  rw [this, hp]
  rfl
section
variable (sto rsto : Fx.Ct → List Fx.Row → Int → Fx.Ct) (eq : Fx.Ct → Fx.Ct → Bool) (nng : List Fx.Row → Bool) (c : Fx.Ct) (l : List Fx.Row) (b : Int)
def cstG : Bool := orr (orr (orr (decide ((c.pts.length : Int) > 8)) (decide ((l.length : Int) > 30))) (decide (b < 0))) (decide (b ≥ 2147483648))
def cstU : Bool := bif cstG c l b then true else an (an (eq (sto c l b) (rsto c l b)) (nng l == nng l)) true
def cstQ : List Prop := [cstG c l b = false → c.pts.length ≤ 65536, cstG c l b = false → c.pts.length ≤ 65536, cstG c l b = false → (sto c l b).pts.length ≤ 65536]
theorem cstEq : symFn Try.prog (tbl [(15, p3 eCt (eSl .row) eI eCtT (fun c _ _ => [c.pts.length ≤ 65536]) sto), (16, p3 eCt (eSl .row) eI eCtT (fun c _ _ => [c.pts.length ≤ 65536]) rsto), (14, p2 eCt eCt eB (fun k _ => [k.pts.length ≤ 65536]) eq), (17, c1 (eSl .row) eB nng), (18, c1 (eSl .row) eB nng), (13, c0 eB true)]) noLps 4 [eCt.pv c, (eSl .row).pv l, eI.pv b] = some (cstQ sto c l b, eB.pv (cstU sto rsto eq nng c l b)) := by kernel_rfl
end
theorem cstG_no {c : Fx.Ct} {l : List Fx.Row} {b : Int} (h : cstG c l b = false) : c.pts.length ≤ 8 ∧ l.length ≤ 30 ∧ 0 ≤ b ∧ b < 2147483648 := by
  obtain ⟨h, h4⟩ := Fx.of_orr h
  obtain ⟨h, h3⟩ := Fx.of_orr h
  obtain ⟨h1, h2⟩ := Fx.of_orr h
  have h1 := of_decide_eq_false h1; have h2 := of_decide_eq_false h2; have h3 := of_decide_eq_false h3; have h4 := of_decide_eq_false h4
  omega
theorem cstU_true (c : Fx.Ct) (l : List Fx.Row) (b : Int) : cstU cstore rstore ceq Fx.nonNeg c l b = true := by
  unfold cstU
  cases hG : cstG c l b with
  | true => rfl
  | false =>
    obtain ⟨h1, h2, h3, h4⟩ := cstG_no hG
    rw [store_eq c l b h1 h2 h3 h4, ceq_self, beq_self_eq_true]
    rfl
theorem cstQ_ok (c : Fx.Ct) (l : List Fx.Row) (b : Int) : Conj (cstQ cstore c l b) := by
  refine ⟨fun hG => ?_, fun hG => ?_, fun hG => ?_, trivial⟩ <;> obtain ⟨h1, h2, h3, h4⟩ := cstG_no hG
  · omega
  · omega
  · rw [store_eq c l b h1 h2 h3 h4, rstore_pts, List.length_map, List.length_range']
    omega
theorem lContactStore : Sound Try.prog 4 (c3 eCt (eSl .row) eI eB (fun _ _ _ => true)) :=
  con (lps := noLps) mixed (AllSound.cons cCst (.cons rCst (.cons rEqc (.cons cNng (.cons rNng (.cons cEx29 .nil)))))) Try.func4 (by kernel_rfl) (by kernel_rfl) (noLoops (by kernel_rfl))
    (g3 (fun c l b => cstQ cstore c l b) (fun c l b => cstU cstore rstore ceq Fx.nonNeg c l b) (fun c l b _ => cstQ_ok c l b) (fun c l b _ => cstU_true c l b) (fun c l b => cstEq cstore rstore ceq Fx.nonNeg c l b))
theorem aContactStore : ∀ vs, ArgsAre Try.prog 8 [39, 40, 3] vs → ∃ ps, (c3 eCt (eSl .row) eI eB (fun _ _ _ => true)) vs = some (ps, .fv (.one (.bool true))) ∧ Conj ps := by
  intro vs h0
  obtain ⟨x0, r, rfl, h1⟩ := args_Ct (by kernel_rfl) (by kernel_rfl) h0
  obtain ⟨x1, r, rfl, h2⟩ := args_Slrow (by kernel_rfl) (by kernel_rfl) h1
  obtain ⟨x2, r, rfl, lo2, hi2, h3⟩ := args_int (k := .i64) (by kernel_rfl) (by kernel_rfl) h2
  obtain rfl := args_nil h3
  exact ⟨_, rfl, trivial⟩
set_option maxRecDepth 100000 in
theorem liftedContactStore (os : Os) (started : os.Started) (H : Type) (enc : TypeId × Value → H) :
    ReturnsInHanded {} Try.checked os 4 .any (Rows.contactStoreSpec.pre6 enc Try.prog Try.f4 Rows.contactStoreRow.domain false) (Rows.contactStoreSpec.post enc Try.prog Try.f4 false true false false) := by
  refine returnsInHanded_of_change (C := Try.checked) own started (by kernel_rfl) Try.func4 (ChangeSpec.witness6 (enc := enc) (C := Try.checked) false ⟨#[], #[.agg #[.int .i64 0, .int .i64 0, .int .i64 0, .int .i64 0, .int .i64 0, .int .i64 0, .slice none 0 0], .slice none 0 0, .int .i64 0], []⟩ 8 (by kernel_rfl) (by kernel_rfl) (by kernel_rfl) (by kernel_rfl)) ?_
  intro W base args ds gs before hval hW _ _
  exact law_contract (D := 8) (by kernel_rfl) (of_allOk (by kernel_rfl)) (tb := 4) (by kernel_rfl) (by kernel_rfl) rfl (fun ds h => by
    have h : ds.length = 3 := h
    match ds, h with
    | [d0, d1, d2], _ => rfl) lContactStore aContactStore W base args ds gs before hval hW

theorem contactStore_holds : Rows.ContactStoreSaid :=
  OpenClaim.holds_of_wide 4 Try.f4 rfl rfl rfl rfl rfl rfl rfl ⟨rfl, rfl, rfl, rfl, rfl⟩ rfl rfl rfl rfl rfl (by kernel_rfl) Try.func4 (by kernel_rfl)
    (of_decide_eq_true (by kernel_rfl)) (by unfold Func.isWrapper; first | (rw [if_pos (by decide +kernel)]; kernel_rfl) | (rw [if_neg (by decide +kernel)]; exact ⟨rfl, rfl⟩))
    (fun os started H enc _ => liftedContactStore os started H enc)

end Go.Proofs.Ytfjognghjiifaaa
