/- Proved here: laws of chapter 9 return true for every input. Conditions: none. -/
import Derived.Test.YtleooijgkdllfaaLaw09
import Derived.Test.YtleooijgkdllfaaEngBst
open Go Go.Eng
namespace Go.Proofs.Ytleooijgkdllfaa
open Go.Fx (an orr an_true)

theorem tm8 {m : Int} (h : 0 ≤ m) : 0 ≤ m.tmod 8 ∧ m.tmod 8 ≤ 7 := by
  rw [Int.tmod_eq_emod_of_nonneg h]; omega
theorem bn0 {fr : Int} {L i : Nat} (hok : (0 ≤ fr ∧ fr < 8 * (L : Int)) ∧ L ≤ 65536) (h : i < 32) : 0 ≤ Fx.w64 (fr + (i : Int)) := by
  rw [Fx.w64_id (by omega) (by omega)]; omega
theorem bnq {fr g : Int} {L M i : Nat} (hok : (0 ≤ fr ∧ fr < 8 * (L : Int)) ∧ L ≤ 65536) (hl : M = L) (h : i < 32) (hb : an (g.tmod 2 == 1) (decide (Fx.w64 (fr + (i : Int)) < Fx.w64 (8 * (M : Int)))) = true) : Conj [0 ≤ Fx.w64 ((Fx.w64 (fr + (i : Int))).tdiv 8) ∧ Fx.w64 ((Fx.w64 (fr + (i : Int))).tdiv 8) < (M : Int), (Fx.w64 ((Fx.w64 (fr + (i : Int))).tdiv 8)).toNat < M, 0 ≤ Fx.w64 ((Fx.w64 (fr + (i : Int))).tdiv 8) ∧ Fx.w64 ((Fx.w64 (fr + (i : Int))).tdiv 8) < (M : Int), (Fx.w64 ((Fx.w64 (fr + (i : Int))).tdiv 8)).toNat < M] := by
  have h2 := of_decide_eq_true (Fx.of_an hb).2
  subst hl
  rw [Fx.w64_id (by omega) (by omega), Fx.w64_id (by omega) (by omega)] at h2
  have e : Fx.w64 ((Fx.w64 (fr + (i : Int))).tdiv 8) = (fr + (i : Int)) / 8 := by
    rw [Fx.w64_id (n := fr + (i : Int)) (by omega) (by omega), Int.tdiv_eq_ediv_of_nonneg (by omega), Fx.w64_id (by omega) (by omega)]
  rw [e]
  exact ⟨⟨by omega, by omega⟩, by omega, ⟨by omega, by omega⟩, by omega, trivial⟩
noncomputable def biiL : List (FuncId × Contract) := []
def biiTv (c : (List Int) × (List Int) × (List Int) × (Int) × (Int) × (Int) × (Int) × (Bool)) (i : Nat) (x : (Int)) : List TV := [.val ((eSl .u8).pv c.1), .val (eU32.pv c.2.2.2.1), .val (Bo false), .val (.fv (.one (.slc true ⟨.u8, c.2.1⟩))), .val (.fv (.one (.own 19))), .val (I c.2.2.2.2.1), .val (Bo c.2.2.2.2.2.2.2), .val (I c.2.2.2.2.2.1), .val (I c.2.2.2.2.2.2.1), .val (.fv (.one (.int .u8 x))), .val (I (i : Int))]
def biiMv (c : (List Int) × (List Int) × (List Int) × (Int) × (Int) × (Int) × (Int) × (Bool)) (_i : Nat) (_x : (Int)) : List MRes := [.val (.row 5 ⟨.u8, c.2.2.1⟩)]
def biiDec : List TV → List MRes → Option (List Prop × ((List Int) × (List Int) × (List Int) × (Int) × (Int) × (Int) × (Int) × (Bool)) × ((Int)))
  | [.val (.fv (.one (.slc false ⟨.u8, b⟩))), .val (.fv (.one (.int .u32 g))), .val (Bo z), .val (.fv (.one (.slc true ⟨.u8, s⟩))), .val (.fv (.one (.own 19))), .val (I fr), .val (Bo tu), .val (I k), .val (I m), .val (.fv (.one (.int .u8 v))), .val (I i)], [.val (.row 5 ⟨.u8, q⟩)] => some ([z = false, i = 0, 0 ≤ m], (b, s, q, g, fr, k, m, tu), v)
  | _, _ => none
def biiOk (c : (List Int) × (List Int) × (List Int) × (Int) × (Int) × (Int) × (Int) × (Bool)) : Prop := 0 ≤ c.2.2.2.2.2.2.1
def biiInv (_c : (List Int) × (List Int) × (List Int) × (Int) × (Int) × (Int) × (Int) × (Bool)) (_i : Nat) (_x : (Int)) : Prop := True
theorem biiDec_ok (ts : List TV) (ms : List MRes) (ps : List Prop) (c : (List Int) × (List Int) × (List Int) × (Int) × (Int) × (Int) × (Int) × (Bool)) (x : (Int)) (h : biiDec ts ms = some (ps, c, x)) (hp : Conj ps) : ts = biiTv c 0 x ∧ ms = biiMv c 0 x ∧ biiOk c ∧ biiInv c 0 x := by
  unfold biiDec at h
  split at h
  · cases h
    obtain ⟨rfl, rfl, hok, _⟩ := hp
    exact ⟨rfl, rfl, hok, trivial⟩
  · cases h
def biiStep (_c : (List Int) × (List Int) × (List Int) × (Int) × (Int) × (Int) × (Int) × (Bool)) (_i : Nat) (x : (Int)) : (Int) := ((Fx.wB (x * 2)))
def biiV (c : (List Int) × (List Int) × (List Int) × (Int) × (Int) × (Int) × (Int) × (Bool)) (i : Nat) (x : (Int)) : VT := VT.ite (decide ((i : Int) < c.2.2.2.2.2.2.1.tmod 8)) (VT.leaf Ex.norm 109 [.val ((eSl .u8).pv c.1), .val (eU32.pv c.2.2.2.1), .val (Bo false), .val (.fv (.one (.slc true ⟨.u8, c.2.1⟩))), .val (.fv (.one (.own 19))), .val (I c.2.2.2.2.1), .val (Bo c.2.2.2.2.2.2.2), .val (I c.2.2.2.2.2.1), .val (I c.2.2.2.2.2.2.1), .val (.fv (.one (.int .u8 (Fx.wB (x * 2))))), .val (I (IntKind.i64.wrap ((i : Int) + 1)))] [.val (.row 5 ⟨.u8, c.2.2.1⟩)]) (VT.leaf (Ex.exit 2) 109 [.val ((eSl .u8).pv c.1), .val (eU32.pv c.2.2.2.1), .val (Bo false), .val (.fv (.one (.slc true ⟨.u8, c.2.1⟩))), .val (.fv (.one (.own 19))), .val (I c.2.2.2.2.1), .val (Bo c.2.2.2.2.2.2.2), .val (I c.2.2.2.2.2.1), .val (I c.2.2.2.2.2.2.1), .val (.fv (.one (.int .u8 x))), .val (I (i : Int))] [.val (.row 5 ⟨.u8, c.2.2.1⟩)])
theorem biiV_eq (c : (List Int) × (List Int) × (List Int) × (Int) × (Int) × (Int) × (Int) × (Bool)) (i : Nat) (x : (Int)) : viewT [0, 2, 6, 7, 8, 9, 10, 11, 12, 13, 14] [19] (sexec Try.prog (tbl biiL) (noLps) ((loopsOf (lbN 0 Try.f6)).getD 0 .skip) (headSt 109 48 [0, 2, 6, 7, 8, 9, 10, 11, 12, 13, 14] [19] (biiTv c i x) (biiMv c i x))) = biiV c i x := by kernel_rfl
noncomputable def biiT : St → Tree := forT0 109 48 [0, 2, 6, 7, 8, 9, 10, 11, 12, 13, 14] [19] biiDec (fun c => (c.2.2.2.2.2.2.1.tmod 8).toNat) biiTv biiMv biiStep 2
theorem biiA : AllSound Try.prog biiL := .nil
theorem biiLoop : LoopOk Try.prog biiT ((loopsOf (lbN 0 Try.f6)).getD 0 .skip) :=
  forT0_ok mixed biiA.tbl (noLoops (by kernel_rfl)) [19] (bn := fun c => True) (inv := biiInv) biiDec_ok (fun _ _ => ⟨⟨.inr rfl, .inr rfl, .inr rfl, .inr rfl, .inr rfl, .inr rfl, .inr rfl, .inr rfl, .inr rfl, .inr rfl, .inr rfl, trivial⟩, ⟨.inr rfl, trivial⟩, rfl, rfl, rfl⟩)
    (fun _ _ _ _ _ _ hr h1 h2 => by
      trivial)
    (fun c i x hok hn hinv hi => ⟨_, biiV_eq c i x, by
      refine ⟨fun h => ?_, fun h => ?_⟩
      · have h : i < (c.2.2.2.2.2.2.1.tmod 8).toNat := by (have h2 := h; have h3 := tm8 hok; simp at h2; omega)
        rw [wrap_succ h (by have h3 := tm8 hok; simp only [maxLen]; omega)]
        exact ⟨rfl, ((Fx.wB (x * 2))), [], h, by unfold biiStep; rfl, trivial, ⟨.inr rfl, .inr rfl, .inr rfl, .inr rfl, .inr rfl, .inr rfl, .inr rfl, .inr rfl, .inr rfl, .inr rfl, .inr rfl, trivial⟩, ⟨.inr rfl, trivial⟩, rfl, rfl, rfl⟩
      · have h : ¬ i < (c.2.2.2.2.2.2.1.tmod 8).toNat := by (have h2 := h; have h3 := tm8 hok; simp at h2; omega)
        exact ⟨rfl, .inl ⟨rfl, by omega, [], ⟨.inr rfl, .inr rfl, .inr rfl, .inr rfl, .inr rfl, .inr rfl, .inr rfl, .inr rfl, .inr rfl, .inr rfl, .inr rfl, trivial⟩, ⟨.inr rfl, trivial⟩, rfl, rfl, rfl⟩⟩⟩)
noncomputable def bioL : List (FuncId × Contract) := []
def bioTv (c : (List Int) × (List Int) × (Int) × (List Int)) (i : Nat) (x : (List Int) × (Int) × (Bool)) : List TV := [.val ((eSl .u8).pv c.1), .val (eU32.pv x.2.1), .val (Bo false), .val (.fv (.one (.slc true ⟨.u8, c.2.1⟩))), .val (.fv (.one (.own 19))), .val (I c.2.2.1), .val (Bo x.2.2), .val (I (i : Int))]
def bioMv (_c : (List Int) × (List Int) × (Int) × (List Int)) (_i : Nat) (x : (List Int) × (Int) × (Bool)) : List MRes := [.val (.row 5 ⟨.u8, x.1⟩)]
def bioDec : List TV → List MRes → Option (List Prop × ((List Int) × (List Int) × (Int) × (List Int)) × ((List Int) × (Int) × (Bool)))
  | [.val (.fv (.one (.slc false ⟨.u8, b⟩))), .val (.fv (.one (.int .u32 g))), .val (Bo z), .val (.fv (.one (.slc true ⟨.u8, s⟩))), .val (.fv (.one (.own 19))), .val (I fr), .val (Bo tu), .val (I i)], [.val (.row 5 ⟨.u8, q⟩)] => some ([z = false, i = 0, (0 ≤ fr ∧ fr < 8 * (q.length : Int)) ∧ q.length ≤ 65536], (b, s, fr, q), (q, g, tu))
  | _, _ => none
def bioOk (c : (List Int) × (List Int) × (Int) × (List Int)) : Prop := (0 ≤ c.2.2.1 ∧ c.2.2.1 < 8 * (c.2.2.2.length : Int)) ∧ c.2.2.2.length ≤ 65536
def bioInv (c : (List Int) × (List Int) × (Int) × (List Int)) (_i : Nat) (x : (List Int) × (Int) × (Bool)) : Prop := x.1.length = c.2.2.2.length
theorem bioDec_ok (ts : List TV) (ms : List MRes) (ps : List Prop) (c : (List Int) × (List Int) × (Int) × (List Int)) (x : (List Int) × (Int) × (Bool)) (h : bioDec ts ms = some (ps, c, x)) (hp : Conj ps) : ts = bioTv c 0 x ∧ ms = bioMv c 0 x ∧ bioOk c ∧ bioInv c 0 x := by
  unfold bioDec at h
  split at h
  · cases h
    obtain ⟨rfl, rfl, hok, _⟩ := hp
    exact ⟨rfl, rfl, hok, rfl⟩
  · cases h
def bioStep (c : (List Int) × (List Int) × (Int) × (List Int)) (i : Nat) (x : (List Int) × (Int) × (Bool)) : (List Int) × (Int) × (Bool) := bif an (x.2.1.tmod 2 == 1) (decide ((Fx.w64 (c.2.2.1 + (i : Int))) < Fx.w64 (8 * (x.1.length : Int)))) then ((x.1.set (Fx.w64 ((Fx.w64 (c.2.2.1 + (i : Int))).tdiv 8)).toNat (Fx.xB (x.1.getD (Fx.w64 ((Fx.w64 (c.2.2.1 + (i : Int))).tdiv 8)).toNat 0) (foldN (biiStep (c.1, c.2.1, x.1, x.2.1, c.2.2.1, (i : Int), (Fx.w64 (c.2.2.1 + (i : Int))), x.2.2)) ((Fx.w64 (c.2.2.1 + (i : Int))).tmod 8).toNat 0 1))), (Fx.wW (x.2.1.tdiv 2)), true) else (x.1, (Fx.wW (x.2.1.tdiv 2)), x.2.2)
def bioV (c : (List Int) × (List Int) × (Int) × (List Int)) (i : Nat) (x : (List Int) × (Int) × (Bool)) : VT := VT.ite (decide ((i : Int) < 32)) (VT.ite (an (x.2.1.tmod 2 == 1) (decide ((Fx.w64 (c.2.2.1 + (i : Int))) < Fx.w64 (8 * (x.1.length : Int))))) (VT.pre [false = false, (0 : Int) = 0, 0 ≤ (Fx.w64 (c.2.2.1 + (i : Int)))] (VT.pre [0 ≤ Fx.w64 ((Fx.w64 (c.2.2.1 + (i : Int))).tdiv 8) ∧ Fx.w64 ((Fx.w64 (c.2.2.1 + (i : Int))).tdiv 8) < (x.1.length : Int), (Fx.w64 ((Fx.w64 (c.2.2.1 + (i : Int))).tdiv 8)).toNat < x.1.length, 0 ≤ Fx.w64 ((Fx.w64 (c.2.2.1 + (i : Int))).tdiv 8) ∧ Fx.w64 ((Fx.w64 (c.2.2.1 + (i : Int))).tdiv 8) < (x.1.length : Int), (Fx.w64 ((Fx.w64 (c.2.2.1 + (i : Int))).tdiv 8)).toNat < x.1.length] (VT.leaf Ex.norm 109 [.val ((eSl .u8).pv c.1), .val (eU32.pv (Fx.wW (x.2.1.tdiv 2))), .val (Bo false), .val (.fv (.one (.slc true ⟨.u8, c.2.1⟩))), .val (.fv (.one (.own 19))), .val (I c.2.2.1), .val (Bo true), .val (I (IntKind.i64.wrap ((i : Int) + 1)))] [.val (.row 5 ⟨.u8, (x.1.set (Fx.w64 ((Fx.w64 (c.2.2.1 + (i : Int))).tdiv 8)).toNat (Fx.xB (x.1.getD (Fx.w64 ((Fx.w64 (c.2.2.1 + (i : Int))).tdiv 8)).toNat 0) (foldN (biiStep (c.1, c.2.1, x.1, x.2.1, c.2.2.1, (i : Int), (Fx.w64 (c.2.2.1 + (i : Int))), x.2.2)) ((Fx.w64 (c.2.2.1 + (i : Int))).tmod 8).toNat 0 1)))⟩)]))) (VT.leaf Ex.norm 109 [.val ((eSl .u8).pv c.1), .val (eU32.pv (Fx.wW (x.2.1.tdiv 2))), .val (Bo false), .val (.fv (.one (.slc true ⟨.u8, c.2.1⟩))), .val (.fv (.one (.own 19))), .val (I c.2.2.1), .val (Bo x.2.2), .val (I (IntKind.i64.wrap ((i : Int) + 1)))] [.val (.row 5 ⟨.u8, x.1⟩)])) (VT.leaf (Ex.exit 0) 109 [.val ((eSl .u8).pv c.1), .val (eU32.pv x.2.1), .val (Bo false), .val (.fv (.one (.slc true ⟨.u8, c.2.1⟩))), .val (.fv (.one (.own 19))), .val (I c.2.2.1), .val (Bo x.2.2), .val (I (i : Int))] [.val (.row 5 ⟨.u8, x.1⟩)])
theorem bioV_eq (c : (List Int) × (List Int) × (Int) × (List Int)) (i : Nat) (x : (List Int) × (Int) × (Bool)) : viewT [0, 2, 6, 7, 8, 9, 10, 11] [19] (sexec Try.prog (tbl bioL) (fun _ => biiT) (lbN 0 Try.f6) (headSt 109 30 [0, 2, 6, 7, 8, 9, 10, 11] [19] (bioTv c i x) (bioMv c i x))) = bioV c i x := by kernel_rfl
noncomputable def bioT : St → Tree := forT0 109 30 [0, 2, 6, 7, 8, 9, 10, 11] [19] bioDec (fun _ => 32) bioTv bioMv bioStep 0
theorem bioA : AllSound Try.prog bioL := .nil
theorem bioLoop : LoopOk Try.prog bioT (lbN 0 Try.f6) :=
  forT0_ok mixed bioA.tbl (oneLoop (lps := fun _ => biiT) (b := (loopsOf (lbN 0 Try.f6)).getD 0 .skip) (by kernel_rfl) biiLoop) [19] (bn := fun c => True) (inv := bioInv) bioDec_ok (fun _ _ => ⟨⟨.inr rfl, .inr rfl, .inr rfl, .inr rfl, .inr rfl, .inr rfl, .inr rfl, .inr rfl, trivial⟩, ⟨.inr rfl, trivial⟩, rfl, rfl, rfl⟩)
    (fun _ _ _ _ _ _ hr h1 h2 => by
      trivial)
    (fun c i x hok hn hinv hi => ⟨_, bioV_eq c i x, by
      refine ⟨fun h => ?_, fun h => ?_⟩
      · have h : i < 32 := by simp at h; omega
        refine ⟨fun hb1 => ?_, fun hb1 => ?_⟩
        · refine ⟨⟨rfl, rfl, (bn0 hok h), trivial⟩, ?_⟩
          refine ⟨(bnq hok hinv h hb1), ?_⟩
          rw [wrap_succ h (by simp only [maxLen]; omega)]
          exact ⟨rfl, ((x.1.set (Fx.w64 ((Fx.w64 (c.2.2.1 + (i : Int))).tdiv 8)).toNat (Fx.xB (x.1.getD (Fx.w64 ((Fx.w64 (c.2.2.1 + (i : Int))).tdiv 8)).toNat 0) (foldN (biiStep (c.1, c.2.1, x.1, x.2.1, c.2.2.1, (i : Int), (Fx.w64 (c.2.2.1 + (i : Int))), x.2.2)) ((Fx.w64 (c.2.2.1 + (i : Int))).tmod 8).toNat 0 1))), (Fx.wW (x.2.1.tdiv 2)), true), [], h, by unfold bioStep; first | rfl | ((try dsimp only); (try rw [hb1]); rfl), (by first | exact hinv | (have h1 : x.1.length = c.2.2.2.length := hinv; show (x.1.set _ _).length = _; rw [List.length_set]; exact h1)), ⟨.inr rfl, .inr rfl, .inr rfl, .inr rfl, .inr rfl, .inr rfl, .inr rfl, .inr rfl, trivial⟩, ⟨.inr rfl, trivial⟩, rfl, rfl, rfl⟩
        · rw [wrap_succ h (by simp only [maxLen]; omega)]
          exact ⟨rfl, (x.1, (Fx.wW (x.2.1.tdiv 2)), x.2.2), [], h, by unfold bioStep; first | rfl | ((try dsimp only); (try rw [hb1]); rfl), (by first | exact hinv | (have h1 : x.1.length = c.2.2.2.length := hinv; show (x.1.set _ _).length = _; rw [List.length_set]; exact h1)), ⟨.inr rfl, .inr rfl, .inr rfl, .inr rfl, .inr rfl, .inr rfl, .inr rfl, .inr rfl, trivial⟩, ⟨.inr rfl, trivial⟩, rfl, rfl, rfl⟩
      · have h : ¬ i < 32 := by simp at h; omega
        exact ⟨rfl, .inl ⟨rfl, by omega, [], ⟨.inr rfl, .inr rfl, .inr rfl, .inr rfl, .inr rfl, .inr rfl, .inr rfl, .inr rfl, trivial⟩, ⟨.inr rfl, trivial⟩, rfl, rfl, rfl⟩⟩⟩)
theorem bit_val (c : List Int × List Int × List Int × Int × Int × Int × Int × Bool) (r : Nat) (h : r < 8) : foldN (biiStep c) r 0 1 = ((2 ^ r : Nat) : Int) := by
  match r, h with
  | 0, _ => rfl
  | 1, _ => rfl
  | 2, _ => rfl
  | 3, _ => rfl
  | 4, _ => rfl
  | 5, _ => rfl
  | 6, _ => rfl
  | 7, _ => rfl
/-- What is known after k rounds. -/
structure BInv (b : List Int) (F g k : Nat) (x : List Int × Int × Bool) : Prop where
  len : x.1.length = (Fx.sld b).length
  rng : Bst.Rng x.1
  bits : x.2.1 = ((g / 2 ^ k : Nat) : Int)
  no : x.2.2 = false → x.1 = Fx.sld b
  yes : x.2.2 = true → ∃ j, j < k ∧ g.testBit j = true ∧ F + j < 8 * (Fx.sld b).length
  bit : ∀ n, n < 8 * (Fx.sld b).length → Bst.bitof x.1 n = Bool.xor (Bst.bitof (Fx.sld b) n) (Bst.errb F g k n)
theorem bits_step {g k : Nat} (hg : g ≤ 4294967295) : Fx.wW (((g / 2 ^ k : Nat) : Int).tdiv 2) = ((g / 2 ^ (k + 1) : Nat) : Int) := by
  have h1 : g / 2 ^ k ≤ g := Nat.div_le_self _ _
  have h2 : g / 2 ^ (k + 1) = g / 2 ^ k / 2 := by rw [Nat.pow_succ, Nat.div_div_eq_div_mul]
  rw [h2]
  generalize g / 2 ^ k = m at h1
  rw [Int.tdiv_eq_ediv_of_nonneg (Int.natCast_nonneg _), Fx.wW_id (by omega) (by omega)]
  omega
theorem bits_odd (g k : Nat) : ((((g / 2 ^ k : Nat) : Int).tmod 2) == 1) = g.testBit k := by
  rw [Int.tmod_eq_emod_of_nonneg (Int.natCast_nonneg _), Nat.testBit_eq_decide_div_mod_eq]
  by_cases h : g / 2 ^ k % 2 = 1
  · rw [decide_eq_true h]; exact beq_iff_eq.2 (by omega)
  · rw [decide_eq_false h]; exact beq_eq_false_iff_ne.2 (by omega)
theorem bio_step {b s r : List Int} {F g k : Nat} {x : List Int × Int × Bool} (hb : b.length ≤ 400) (hg : g ≤ 4294967295) (hF : F < 8 * (Fx.sld b).length) (hk : k < 32) (h : BInv b F g k x) : BInv b F g (k + 1) (bioStep (b, s, (F : Int), r) k x) := by
  obtain ⟨q, g0, tu⟩ := x
  obtain ⟨h1, h2, h3, h4, h5, h6⟩ := h
  have h1 : q.length = (Fx.sld b).length := h1
  have h3 : g0 = ((g / 2 ^ k : Nat) : Int) := h3
  have hL : (Fx.sld b).length ≤ 404 := by rw [Fx.sld_len]; omega
  have eN : Fx.w64 ((F : Int) + (k : Int)) = ((F + k : Nat) : Int) := by rw [Fx.w64_id (by omega) (by omega)]; omega
  have e8 : Fx.w64 (8 * (q.length : Int)) = ((8 * (Fx.sld b).length : Nat) : Int) := by rw [Fx.w64_id (by omega) (by omega), h1]; omega
  have eQ : (Fx.w64 ((Fx.w64 ((F : Int) + (k : Int))).tdiv 8)).toNat = (F + k) / 8 := by
    rw [eN, Int.tdiv_eq_ediv_of_nonneg (Int.natCast_nonneg _), Fx.w64_id (by omega) (by omega)]; omega
  have eR : ((Fx.w64 ((F : Int) + (k : Int))).tmod 8).toNat = (F + k) % 8 := by
    rw [eN, Int.tmod_eq_emod_of_nonneg (Int.natCast_nonneg _)]; omega
  have eB : ∀ c, foldN (biiStep c) ((Fx.w64 ((F : Int) + (k : Int))).tmod 8).toNat 0 1 = ((2 ^ ((F + k) % 8) : Nat) : Int) := fun c => by rw [eR]; exact bit_val c _ (by omega)
  have eC : an (g0.tmod 2 == 1) (decide (Fx.w64 ((F : Int) + (k : Int)) < Fx.w64 (8 * (q.length : Int)))) = (g.testBit k && decide (F + k < 8 * (Fx.sld b).length)) := by
    rw [h3, bits_odd, eN, e8]
    have : decide (((F + k : Nat) : Int) < ((8 * (Fx.sld b).length : Nat) : Int)) = decide (F + k < 8 * (Fx.sld b).length) := by
      by_cases hh : F + k < 8 * (Fx.sld b).length
      · rw [decide_eq_true hh]; exact decide_eq_true (by omega)
      · rw [decide_eq_false hh]; exact decide_eq_false (by omega)
    rw [this]
    cases g.testBit k <;> rfl
  unfold bioStep
  dsimp only
  rw [eC, eQ, eB, h3, bits_step hg]
  cases hc : g.testBit k && decide (F + k < 8 * (Fx.sld b).length) with
  | true =>
    rw [cond_true]
    obtain ⟨c1, c2⟩ := Bool.and_eq_true_iff.1 hc
    have c2 := of_decide_eq_true c2
    refine ⟨?_, Bst.rng_set h2 _ (Bst.xB_rng _ _), rfl, fun e => (by cases e), fun _ => ⟨k, by omega, c1, c2⟩, fun n hn => ?_⟩
    · show (q.set _ _).length = _
      rw [List.length_set]; exact h1
    · show Bst.bitof (q.set ((F + k) / 8) (Fx.xB (q.getD ((F + k) / 8) 0) ((2 ^ ((F + k) % 8) : Nat) : Int))) n = _
      rw [Bst.bitof_set h2 (by rw [h1]; exact c2), show Bst.bitof q n = _ from h6 n hn]
      by_cases e : n = F + k
      · rw [e, Bst.errb_succ_eq, Bst.errb_self, c1, decide_eq_true rfl]; simp
      · rw [Bst.errb_succ_ne e, decide_eq_false e]; simp
  | false =>
    rw [cond_false]
    refine ⟨h1, h2, rfl, h4, fun e => ?_, fun n hn => ?_⟩
    · obtain ⟨j, j1, j2⟩ := h5 e
      exact ⟨j, by omega, j2⟩
    · show Bst.bitof q n = _
      rw [show Bst.bitof q n = _ from h6 n hn]
      by_cases e : n = F + k
      · have : g.testBit k = false := by
          rw [e] at hn
          rw [decide_eq_true hn, Bool.and_true] at hc
          exact hc
        rw [e, Bst.errb_succ_eq, Bst.errb_self, this]
      · rw [Bst.errb_succ_ne e]
theorem bio_all {b s r : List Int} {F g : Nat} (hb : b.length ≤ 400) (hr : Bst.Rng b) (hg : g ≤ 4294967295) (hF : F < 8 * (Fx.sld b).length) : BInv b F g 32 (foldN (bioStep (b, s, (F : Int), r)) 32 0 (Fx.sld b, (g : Int), false)) := by
  refine Fx.foldN_inv (f := bioStep (b, s, (F : Int), r)) (fun k x => BInv b F g k x) 32 0 (Fx.sld b, (g : Int), false) ⟨rfl, Bst.rng_sld hr, by simp, fun _ => rfl, fun e => (by cases e), fun n _ => ?_⟩ fun j x _ hj hx => bio_step hb hg hF (by omega) hx
  have : Bst.errb F g 0 n = false := by
    unfold Bst.errb
    by_cases h : F ≤ n
    · rw [decide_eq_false (show ¬ n < F + 0 by omega)]; simp
    · rw [decide_eq_false h]; simp
  rw [this, Bool.xor_false]
section
variable (sl : List Int → List Int) (op : List Int → List Int × Int) (b : List Int) (p bits : Int)
def dbG : Bool := orr (decide ((b.length : Int) > 400)) (bits == 0)
def dbA : Bool := ((sl b).length : Int) != Fx.w64 ((b.length : Int) + 4)
def dbF : Int := (Fx.w64 p).tmod (Fx.w64 (8 * (([] ++ sl b).length : Int)))
def dbX : List Int × Int × Bool := foldN (bioStep (b, sl b, dbF sl b p, [] ++ sl b)) 32 0 ([] ++ sl b, bits, false)
def dbU : Bool := bif dbG b bits then true else bif dbA sl b then false else bif !(dbX sl b p bits).2.2 then an (an ((op (dbX sl b p bits).1).2 == 0) (strEq (strOf (op (dbX sl b p bits).1).1) (strOf b))) true else an (an ((op (dbX sl b p bits).1).2 == 22) (((op (dbX sl b p bits).1).1.length : Int) == 0)) true
def dbQ : List Prop := [dbG b bits = false → b.length ≤ 65536, dbG b bits = false → dbA sl b = false → (0 + (sl b).length) * 1 ≤ 140737488355328, dbG b bits = false → dbA sl b = false → Fx.w64 (8 * (([] ++ sl b).length : Int)) ≠ 0, dbG b bits = false → dbA sl b = false → false = false, dbG b bits = false → dbA sl b = false → (0 : Int) = 0,
  dbG b bits = false → dbA sl b = false → (0 ≤ dbF sl b p ∧ dbF sl b p < 8 * (([] ++ sl b).length : Int)) ∧ ([] ++ sl b).length ≤ 65536, dbG b bits = false → dbA sl b = false → (dbX sl b p bits).1.length ≤ 65536]
theorem dbEq : symFn Try.prog (tbl [(10, still (p1 (eSl .u8) (eFr 5 .u8) fewL sl)), (11, p1 (eSl .u8) eOpn fewL op), (9, c0 eB true)]) (fun _ => bioT) 6 [(eSl .u8).pv b, eU16.pv p, eU32.pv bits] = some (dbQ sl b p bits, eB.pv (dbU sl op b p bits)) := by kernel_rfl
end
def dbP (b : List Int) (p bits : Int) : List Prop := [Bst.Rng b, 0 ≤ p ∧ p ≤ 65535, 0 ≤ bits ∧ bits ≤ 4294967295]
theorem dbG_no {b : List Int} {bits : Int} (h : dbG b bits = false) : b.length ≤ 400 := by
  have := of_decide_eq_false (Fx.of_orr h).1
  omega
theorem dbF_ok {b : List Int} {p : Int} (hb : b.length ≤ 400) (hp : 0 ≤ p ∧ p ≤ 65535) : 0 ≤ dbF Fx.sld b p ∧ dbF Fx.sld b p < 8 * ((Fx.sld b).length : Int) := by
  have hL := Fx.sld_len b
  unfold dbF
  rw [List.nil_append, Fx.w64_id (by omega) (by omega), Fx.w64_id (by omega) (by omega), Int.tmod_eq_emod_of_nonneg hp.1]
  have e0 := Int.emod_nonneg p (show 8 * ((Fx.sld b).length : Int) ≠ 0 by omega)
  have e1 := Int.emod_lt_of_pos p (show 0 < 8 * ((Fx.sld b).length : Int) by omega)
  exact ⟨e0, e1⟩
theorem dbX_ok {b : List Int} {p bits : Int} (hb : b.length ≤ 400) (h : Conj (dbP b p bits)) : BInv b (dbF Fx.sld b p).toNat bits.toNat 32 (dbX Fx.sld b p bits) := by
  obtain ⟨h1, h2, h3, _⟩ := h
  obtain ⟨f0, f1⟩ := dbF_ok hb h2
  have := bio_all (s := Fx.sld b) (r := [] ++ Fx.sld b) (F := (dbF Fx.sld b p).toNat) (g := bits.toNat) hb h1 (by omega) (by omega)
  rw [show (((dbF Fx.sld b p).toNat : Nat) : Int) = dbF Fx.sld b p from by omega, show ((bits.toNat : Nat) : Int) = bits from by omega] at this
  exact this
theorem dbQ_ok (b : List Int) (p bits : Int) (h : Conj (dbP b p bits)) : Conj (dbQ Fx.sld b p bits) := by
  have hL := Fx.sld_len b
  refine ⟨fun g => ?_, fun g _ => ?_, fun g _ => ?_, fun _ _ => rfl, fun _ _ => rfl, fun g _ => ?_, fun g _ => ?_, trivial⟩ <;> have hb := dbG_no g
  · omega
  · omega
  · rw [List.nil_append, Fx.w64_id (by omega) (by omega)]; omega
  · rw [List.nil_append]
    exact ⟨dbF_ok hb h.2.1, by omega⟩
  · rw [(dbX_ok hb h).len]; omega
theorem dbU_true (b : List Int) (p bits : Int) (h : Conj (dbP b p bits)) : dbU Fx.sld Fx.opn b p bits = true := by
  unfold dbU
  cases hG : dbG b bits with
  | true => rfl
  | false =>
    have hb := dbG_no hG
    have hL := Fx.sld_len b
    have hA : dbA Fx.sld b = false := by
      unfold dbA
      rw [hL, Fx.w64_id (by omega) (by omega)]; simp
    have hx := dbX_ok hb h
    obtain ⟨f0, f1⟩ := dbF_ok hb h.2.1
    rw [hA, cond_false, cond_false]
    generalize dbX Fx.sld b p bits = x at hx
    cases ht : x.2.2 with
    | false =>
      rw [hx.no ht, Fx.opn_sld b (by omega), strEq_self]
      rfl
    | true =>
      have e0 : Fx.openN x.1 = (b.length : Int) := by
        unfold Fx.openN
        rw [hx.len, hL, Fx.w64_id (by omega) (by omega)]; omega
      have hbad : Fx.openBad x.1 = true := by
        cases hB : Fx.openBad x.1 with
        | true => rfl
        | false =>
          exfalso
          unfold Fx.openBad at hB
          have hs : strEq (strOf (Fx.sld (List.take (Fx.openN x.1).toNat x.1))) (strOf x.1) = true := by simpa using hB
          have hr : Bst.Rng (List.take (Fx.openN x.1).toNat x.1) := fun z hz => hx.rng z (List.mem_of_mem_take hz)
          exact Bst.not_sealed h.1 hr hx.len (by omega) hx.bit (hx.yes ht) (Bst.strEq_eq (Bst.rng_sld hr) hx.rng hs)
      have ho : Fx.opn x.1 = ([], 22) := by
        unfold Fx.opn
        rw [hbad, e0, decide_eq_false (show ¬ (b.length : Int) < 0 by omega)]
        rfl
      rw [ho]
      rfl
theorem lChecksumDetectsBursts : Sound Try.prog 6 (p3 (eSl .u8) eU16 eU32 eB dbP (fun _ _ _ => true)) :=
  con (lps := fun _ => bioT) mixed (AllSound.cons cSldS (.cons cOpn (.cons cEx09 .nil))) Try.func6 (by kernel_rfl) (by kernel_rfl) (oneLoop (lps := fun _ => bioT) (b := lbN 0 Try.f6) (by kernel_rfl) bioLoop)
    (g3 (fun b p bits => dbQ Fx.sld b p bits) (fun b p bits => dbU Fx.sld Fx.opn b p bits) (fun b p bits h => dbQ_ok b p bits h) (fun b p bits h => dbU_true b p bits h) (fun b p bits => dbEq Fx.sld Fx.opn b p bits))
theorem args_Slu8r {P : Program} {D : Nat} {t : TypeId} {ts : List TypeId} {vs : List PV} (ha : isAggT P t = false) (hl : leafs P D t = [.slc .u8]) (h : ArgsAre P D (t :: ts) vs) : ∃ (v : List Int) (rest : _), vs = (eSl .u8).pv v :: rest ∧ Bst.Rng v ∧ ArgsAre P D ts rest := by
  obtain ⟨l, r, h1, h2, h3⟩ := args_Sl .u8 ha hl h
  exact ⟨l, r, h1, fun x hx => h2.2 x hx (.int .u8 x) (List.mem_singleton.2 rfl), h3⟩
theorem aChecksumDetectsBursts : ∀ vs, ArgsAre Try.prog 8 [22, 39, 33] vs → ∃ ps, p3 (eSl .u8) eU16 eU32 eB dbP (fun _ _ _ => true) vs = some (ps, .fv (.one (.bool true))) ∧ Conj ps := by
  intro vs h0
  obtain ⟨x0, r, rfl, hr, h1⟩ := args_Slu8r (by kernel_rfl) (by kernel_rfl) h0
  obtain ⟨x1, r, rfl, lo1, hi1, h2⟩ := args_int (k := .u16) (by kernel_rfl) (by kernel_rfl) h1
  obtain ⟨x2, r, rfl, lo2, hi2, h3⟩ := args_int (k := .u32) (by kernel_rfl) (by kernel_rfl) h2
  obtain rfl := args_nil h3
  exact ⟨_, rfl, hr, ⟨lo1, hi1⟩, ⟨lo2, hi2⟩, trivial⟩
set_option maxRecDepth 100000 in
theorem liftedChecksumDetectsBursts (os : Os) (started : os.Started) (H : Type) (enc : TypeId × Value → H) :
    ReturnsInHanded {} Try.checked os 6 .any (Rows.checksumDetectsBurstsSpec.pre6 enc Try.prog Try.f6 Rows.checksumDetectsBurstsRow.domain false) (Rows.checksumDetectsBurstsSpec.post enc Try.prog Try.f6 false true false false) := by
  refine returnsInHanded_of_change (C := Try.checked) own started (by kernel_rfl) Try.func6 (ChangeSpec.witness6 (enc := enc) (C := Try.checked) false ⟨#[], #[.slice none 0 0, .int .u16 0, .int .u32 0], []⟩ 8 (by kernel_rfl) (by kernel_rfl) (by kernel_rfl) (by kernel_rfl)) ?_
  intro W base args ds gs before hval hW _ _
  exact law_contract (D := 8) (by kernel_rfl) (of_allOk (by kernel_rfl)) (tb := 4) (by kernel_rfl) (by kernel_rfl) rfl (fun ds h => by
    have h : ds.length = 3 := h
    match ds, h with
    | [d0, d1, d2], _ => rfl) lChecksumDetectsBursts aChecksumDetectsBursts W base args ds gs before hval hW

theorem checksumDetectsBursts_holds : Rows.ChecksumDetectsBurstsSaid :=
  OpenClaim.holds_of_wide 6 Try.f6 rfl rfl rfl rfl rfl rfl rfl ⟨rfl, rfl, rfl, rfl, rfl⟩ rfl rfl rfl rfl rfl (by kernel_rfl) Try.func6 (by kernel_rfl)
    (of_decide_eq_true (by kernel_rfl)) (by unfold Func.isWrapper; first | (rw [if_pos (by decide +kernel)]; kernel_rfl) | (rw [if_neg (by decide +kernel)]; exact ⟨rfl, rfl⟩))
    (fun os started H enc _ => liftedChecksumDetectsBursts os started H enc)

end Go.Proofs.Ytleooijgkdllfaa
