/- Proved here: laws of chapter 32 return true for every input. Conditions: none. -/
import Derived.Test.YtmlppmjmgfklnaaSm3
import Derived.Test.YtmlppmjmgfklnaaEngTra
import Derived.RowKit3
open Go Go.Eng
namespace Go.Proofs.Ytmlppmjmgfklnaa
open Go.Fx (an orr an_true)

theorem own : ownKnob Try.prog.godebug = none := by kernel_rfl
theorem an_self {x y : Bool} (c : Bool) (h : x = true) (h' : y = true) : (bif c then true else an x y) = true := by rw [an_true h h']; cases c <;> rfl
def eBdT : Enc Fx.Bd := ⟨fun _ => none, fun x => .fv (.agg ((bdG x).dropLast ++ [.slc true ⟨.fix, x.fixtures⟩])), fun _ _ h => nomatch h⟩
def dsk (x : Int) : Fx.Bd := ⟨1, 3, x, 0, 0, 0, 0, 0, 0, 0, 0, 0, 0, 0, false, false, false, false, 0, [⟨1, 65536, [⟨0, 0⟩], 65536, 0, 0, false, 0, 0, 0⟩]⟩
theorem cDisk : Sound Try.prog 11 (c1 eI eBdT dsk) :=
  con (lps := noLps) mixed .nil Try.func11 (by kernel_rfl) (by kernel_rfl) (noLoops (by kernel_rfl)) (k1 (fun _ => by kernel_rfl))
def sm32 (p : Fx.Bd × Fx.Bd) (s : List Fx.Sb) : Bool := an (an (smb23U p.1) (smb23U p.2)) (decide ((s.length : Int) ≤ 8))
theorem cSm32 : Sound Try.prog 5 (c2 eBB (eSl .sb) eB sm32) :=
  con (lps := noLps) mixed (.cons rSmb23 .nil) Try.func5 (by kernel_rfl) (by kernel_rfl) (noLoops (by kernel_rfl)) (k2 (fun _ _ => by kernel_rfl))
def ex32Q : List Prop := [false = false → (0 : Int) ≤ (0 : Int) ∧ (0 : Int) < (2 : Int), false = false → 0 < 2, false = false → true = true → (0 : Int) ≤ (0 : Int) ∧ (0 : Int) < (2 : Int), false = false → true = true → 0 < 2, false = false → true = true → (0 : Int) ≤ (0 : Int) ∧ (0 : Int) < (2 : Int), false = false → true = true → 0 < 2, false = false → true = true → (0 : Int) ≤ (1 : Int) ∧ (1 : Int) < (2 : Int), false = false → true = true → 1 < 2, false = false → true = true → (0 : Int) ≤ (1 : Int) ∧ (1 : Int) < (2 : Int), false = false → true = true → 1 < 2, false = false → true = true → (0 : Int) ≤ (1 : Int) ∧ (1 : Int) < (2 : Int), false = false → true = true → 1 < 2, false = false → true = true → (0 : Int) ≤ (1 : Int) ∧ (1 : Int) < (2 : Int), false = false → true = true → 1 < 2]
theorem ex32Q_ok : Conj ex32Q := by simp [ex32Q, Conj]
theorem cEx32 : Sound Try.prog 6 (c0 eB true) :=
  con (lps := noLps) mixed (.cons cDisk (.cons cPrs (.cons cOff .nil))) Try.func6 (by kernel_rfl) (by kernel_rfl) (noLoops (by kernel_rfl)) (g0 ex32Q true (fun _ => ex32Q_ok) (fun _ => rfl) (by kernel_rfl))
def pcN (j : Fx.Joint) (l : List Fx.Row) (n : Int) : Bool := an (orr ((l.length : Int) == n) (an j.el ((l.length : Int) == Fx.w64 (n + 1)))) true
def pcU (j : Fx.Joint) (p : Fx.Bd × Fx.Bd) (s : List Fx.Sb) (dt : Int) : Bool := bif !sm32 p s then true else bif j.kind != 3 then an (((Fx.srows j p.1 p.2 0 1 s dt).length : Int) == 0) true else bif j.em then pcN j (Fx.srows j p.1 p.2 0 1 s dt) (Fx.w64 (2 + 1)) else pcN j (Fx.srows j p.1 p.2 0 1 s dt) 2
theorem srows_len (j : Fx.Joint) (a b : Fx.Bd) (ia ib : Int) (s : List Fx.Sb) (dt : Int) (h : (j.kind != 3) = false) : (Fx.srows j a b ia ib s dt).length = (bif j.em then 1 else 0) + (Fx.limits (Fx.transl j a.t b.t) j.lo j.up j.el j.i3 dt (Fx.srow j a b ia ib s (Fx.wAxis j a.t) 0)).length + 2 := by
  unfold Fx.srows
  rw [h]
  simp only [cond_false, List.length_append, Fx.motor_len']
  rfl
theorem limits_off (v lo up : Int) (im dt : Int) (r : Fx.Row) : Fx.limits v lo up false im dt r = [] := rfl
theorem pcU_true (j : Fx.Joint) (p : Fx.Bd × Fx.Bd) (s : List Fx.Sb) (dt : Int) : pcU j p s dt = true := by
  unfold pcU
  cases !sm32 p s with
  | true => rfl
  | false =>
    cases hk : (j.kind != 3) with
    | true =>
      have e : Fx.srows j p.1 p.2 0 1 s dt = [] := by unfold Fx.srows; rw [hk]; rfl
      rw [e]; rfl
    | false =>
      have h1 := srows_len j p.1 p.2 0 1 s dt hk
      have h2 := Fx.limits_len (Fx.transl j p.1.t p.2.t) j.lo j.up j.el j.i3 dt (Fx.srow j p.1 p.2 0 1 s (Fx.wAxis j p.1.t) 0)
      have key : ∀ n : Int, ((Fx.srows j p.1 p.2 0 1 s dt).length : Int) = n + (Fx.limits (Fx.transl j p.1.t p.2.t) j.lo j.up j.el j.i3 dt (Fx.srow j p.1 p.2 0 1 s (Fx.wAxis j p.1.t) 0)).length → 0 ≤ n → n ≤ 10 → pcN j (Fx.srows j p.1 p.2 0 1 s dt) n = true := fun n hn h0 h10 => by
        unfold pcN
        rw [hn, Fx.w64_id (by omega) (by omega)]
        cases hel : j.el with
        | false => simp [limits_off, orr, an]
        | true =>
          rw [hel] at h2
          generalize (Fx.limits (Fx.transl j p.1.t p.2.t) j.lo j.up true j.i3 dt (Fx.srow j p.1 p.2 0 1 s (Fx.wAxis j p.1.t) 0)).length = m at h2
          have : m = 0 ∨ m = 1 := by omega
          rcases this with rfl | rfl <;> simp [orr, an]
      cases hm : j.em <;> rw [hm] at h1 <;> simp only [cond_true, cond_false] at h1 ⊢
      · exact key 2 (by omega) (by omega) (by omega)
      · exact key _ (by rw [Fx.w64_id (by omega) (by omega)]; omega) (by rw [Fx.w64_id (by omega) (by omega)]; omega) (by rw [Fx.w64_id (by omega) (by omega)]; omega)
theorem lPrismaticRowCount : Sound Try.prog 3 (c4 eJ eBB (eSl .sb) eI eB (fun _ _ _ _ => true)) :=
  con (lps := noLps) mixed (.cons cSm32 (.cons cPrs (.cons cEx32 .nil))) Try.func3 (by kernel_rfl) (by kernel_rfl) (noLoops (by kernel_rfl)) (g4 (fun _ _ _ _ => []) pcU (fun _ _ _ _ _ => trivial) (fun j p s dt _ => pcU_true j p s dt) (fun _ _ _ _ => by kernel_rfl))
theorem aPrismaticRowCount : ∀ vs, ArgsAre Try.prog 8 [27, 34, 35, 3] vs → ∃ ps, (c4 eJ eBB (eSl .sb) eI eB (fun _ _ _ _ => true)) vs = some (ps, .fv (.one (.bool true))) ∧ Conj ps := by
  intro vs h0
  obtain ⟨x0, r, rfl, h1⟩ := args_J (by kernel_rfl) (by kernel_rfl) h0
  obtain ⟨x1, r, rfl, h2⟩ := args_BB (by kernel_rfl) (by kernel_rfl) h1
  obtain ⟨x2, r, rfl, h3⟩ := args_Slsb (by kernel_rfl) (by kernel_rfl) h2
  obtain ⟨x3, r, rfl, lo3, hi3, h4⟩ := args_int (k := .i64) (by kernel_rfl) (by kernel_rfl) h3
  obtain rfl := args_nil h4
  exact ⟨_, rfl, trivial⟩
set_option maxRecDepth 100000 in
theorem liftedPrismaticRowCount (os : Os) (started : os.Started) (H : Type) (enc : TypeId × Value → H) :
    ReturnsInHanded {} Try.checked os 3 .any (Rows.prismaticRowCountSpec.pre6 enc Try.prog Try.f3 Rows.prismaticRowCountRow.domain false) (Rows.prismaticRowCountSpec.post enc Try.prog Try.f3 false true false false) := by
  refine returnsInHanded_of_change (C := Try.checked) own started (by kernel_rfl) Try.func3 (ChangeSpec.witness6 (enc := enc) (C := Try.checked) false ⟨#[], #[.agg #[.int .i64 0, .int .i64 0, .int .i64 0, .int .i64 0, .int .i64 0, .int .i64 0, .int .i64 0, .int .i64 0, .int .i64 0, .int .i64 0, .int .i64 0, .bool false, .int .i64 0, .int .i64 0, .bool false, .int .i64 0, .int .i64 0, .int .i64 0, .int .i64 0, .bool false, .int .i64 0, .int .i64 0, .int .i64 0, .int .i64 0], .agg #[.int .i64 0, .int .i64 0, .int .i64 0, .int .i64 0, .int .i64 0, .int .i64 0, .int .i64 0, .int .i64 0, .int .i64 0, .int .i64 0, .int .i64 0, .int .i64 0, .int .i64 0, .int .i64 0, .bool false, .bool false, .bool false, .bool false, .int .i64 0, .slice none 0 0, .int .i64 0, .int .i64 0, .int .i64 0, .int .i64 0, .int .i64 0, .int .i64 0, .int .i64 0, .int .i64 0, .int .i64 0, .int .i64 0, .int .i64 0, .int .i64 0, .int .i64 0, .int .i64 0, .bool false, .bool false, .bool false, .bool false, .int .i64 0, .slice none 0 0], .slice none 0 0, .int .i64 0], []⟩ 8 (by kernel_rfl) (by kernel_rfl) (by kernel_rfl) (by kernel_rfl)) ?_
  intro W base args ds gs before hval hW _ _
  exact law_contract (D := 8) (by kernel_rfl) (of_allOk (by kernel_rfl)) (tb := 4) (by kernel_rfl) (by kernel_rfl) rfl (fun ds h => by
    have h : ds.length = 4 := h
    match ds, h with
    | [d0, d1, d2, d3], _ => rfl) lPrismaticRowCount aPrismaticRowCount W base args ds gs before hval hW

theorem prismaticRowCount_holds : Rows.PrismaticRowCountSaid :=
  OpenClaim.holds_of_wide 3 Try.f3 rfl rfl rfl rfl rfl rfl rfl ⟨rfl, rfl, rfl, rfl, rfl⟩ rfl rfl rfl rfl rfl (by kernel_rfl) Try.func3 (by kernel_rfl)
    (of_decide_eq_true (by kernel_rfl)) (by unfold Func.isWrapper; first | (rw [if_pos (by decide +kernel)]; kernel_rfl) | (rw [if_neg (by decide +kernel)]; exact ⟨rfl, rfl⟩))
    (fun os started H enc _ => liftedPrismaticRowCount os started H enc)

noncomputable def plrL : List (FuncId × Contract) := [(9, c1 eV eV Fx.vperp)]
def plrTv (c : (List Fx.Row)) (i : Nat) (_x : Unit) : List TV := [.val (Bo false), .val (.fv (.one (.own 19))), .val (I c.length), .val (I (i : Int))]
def plrMv (c : (List Fx.Row)) (_i : Nat) (_x : Unit) : List MRes := [.val (.row 42 ⟨.row, c⟩)]
def plrEtv (_c : (List Fx.Row)) (_e : Unit) : List TV := [.val (Bo false), .any, .any, .any]
def plrEmv (_c : (List Fx.Row)) (_e : Unit) : List MRes := [.lost]
def plrDec : List TV → List MRes → Option (List Prop × ((List Fx.Row)) × (Unit))
  | [.val (Bo b), .val (.fv (.one (.own 19))), .val (I m), .val (I i)], [.val (.row 42 ⟨.row, l⟩)] => some ([b = false, m = l.length, i = 0, 2 ≤ l.length ∧ l.length ≤ 4], l, ())
  | _, _ => none
def plrOk (c : (List Fx.Row)) : Prop := 2 ≤ c.length ∧ c.length ≤ 4
def plrInv (_c : (List Fx.Row)) (_i : Nat) (_x : Unit) : Prop := True
theorem plrDec_ok (ts : List TV) (ms : List MRes) (ps : List Prop) (c : (List Fx.Row)) (x : Unit) (h : plrDec ts ms = some (ps, c, x)) (hp : Conj ps) : ts = plrTv c 0 x ∧ ms = plrMv c 0 x ∧ plrOk c ∧ plrInv c 0 x := by
  unfold plrDec at h
  split at h
  · cases h
    obtain ⟨rfl, rfl, rfl, hok, _⟩ := hp
    exact ⟨rfl, rfl, hok, trivial⟩
  · cases h
def plrStep (c : (List Fx.Row)) (i : Nat) (_x : Unit) : Sum (Unit) (Unit) := bif orr (!(Fx.vperp (c.getD i Fx.row0).n).eqb (c.getD (Fx.w64 ((c.length : Int) - 1)).toNat Fx.row0).n) ((c.getD i Fx.row0).so != 0) then .inr () else .inl ()
def plrV (c : (List Fx.Row)) (i : Nat) (_x : Unit) : VT := VT.ite (decide (Fx.w64 ((i : Int) + 2) < (c.length : Int))) (VT.pre [0 ≤ (i : Int) ∧ (i : Int) < (c.length : Int), i < c.length, 0 ≤ Fx.w64 ((c.length : Int) - 1) ∧ Fx.w64 ((c.length : Int) - 1) < (c.length : Int), (Fx.w64 ((c.length : Int) - 1)).toNat < c.length, (!(Fx.vperp (c.getD i Fx.row0).n).eqb (c.getD (Fx.w64 ((c.length : Int) - 1)).toNat Fx.row0).n) = false → 0 ≤ (i : Int) ∧ (i : Int) < (c.length : Int), (!(Fx.vperp (c.getD i Fx.row0).n).eqb (c.getD (Fx.w64 ((c.length : Int) - 1)).toNat Fx.row0).n) = false → i < c.length] (VT.ite (orr (!(Fx.vperp (c.getD i Fx.row0).n).eqb (c.getD (Fx.w64 ((c.length : Int) - 1)).toNat Fx.row0).n) ((c.getD i Fx.row0).so != 0)) (VT.leaf (Ex.ret) 108 [.val (Bo false), .val (.fv (.one (.own 19))), .val (I c.length), .val (I (i : Int))] [.val (.row 42 ⟨.row, c⟩)]) (VT.leaf Ex.norm 108 [.val (Bo false), .val (.fv (.one (.own 19))), .val (I c.length), .val (I (IntKind.i64.wrap ((i : Int) + 1)))] [.val (.row 42 ⟨.row, c⟩)]))) (VT.leaf (Ex.exit 0) 108 [.val (Bo false), .val (.fv (.one (.own 19))), .val (I c.length), .val (I (i : Int))] [.val (.row 42 ⟨.row, c⟩)])
theorem plrV_eq (c : (List Fx.Row)) (i : Nat) (x : Unit) : viewT [8, 9, 10, 12] [19] (sexec Try.prog (tbl plrL) (noLps) (lbN 0 Try.f4) (headSt 108 76 [8, 9, 10, 12] [19] (plrTv c i x) (plrMv c i x))) = plrV c i x := by kernel_rfl
noncomputable def plrT : St → Tree := forT 108 76 [8, 9, 10, 12] [19] plrDec (fun c => (c.length - 2)) plrTv plrMv plrEtv plrEmv plrStep () 0 .ret
theorem plrA : AllSound Try.prog plrL := (.cons rVperp .nil)
theorem plrLoop : LoopOk Try.prog plrT (lbN 0 Try.f4) :=
  forT_ok mixed plrA.tbl (noLoops (by kernel_rfl)) [19] (bn := fun c => True) (inv := plrInv) plrDec_ok (fun _ _ => ⟨⟨.inr rfl, .inr rfl, .inr rfl, .inr rfl, trivial⟩, ⟨.inr rfl, trivial⟩, rfl, rfl, rfl⟩)
    (fun _ _ _ _ _ _ hr h1 h2 => by
      trivial)
    (fun c i x hok hn hinv hi => ⟨_, plrV_eq c i x, by
      refine ⟨fun h => ?_, fun h => ?_⟩
      · have h : i < (c.length - 2) := by (have h2 := h; have h3 : 2 ≤ c.length ∧ c.length ≤ 4 := hok; rw [Fx.w64_id (by omega) (by omega)] at h2; simp at h2; omega)
        refine ⟨(have h3 : 2 ≤ c.length ∧ c.length ≤ 4 := hok; have hw : Fx.w64 ((c.length : Int) - 1) = (c.length : Int) - 1 := Fx.w64_id (by omega) (by omega); ⟨⟨by omega, by omega⟩, by omega, ⟨by omega, by omega⟩, by omega, fun _ => ⟨by omega, by omega⟩, fun _ => by omega, trivial⟩), ?_⟩
        refine ⟨fun hb2 => ?_, fun hb2 => ?_⟩
        · exact ⟨rfl, .inr ⟨rfl, h, (), [], by unfold plrStep; first | rfl | ((try dsimp only); (try rw [hb2]); rfl), ⟨.inr rfl, .inl rfl, .inl rfl, .inl rfl, trivial⟩, ⟨.inl rfl, trivial⟩, rfl, rfl, rfl⟩⟩
        · rw [wrap_succ h (by have h3 : 2 ≤ c.length ∧ c.length ≤ 4 := hok; simp only [maxLen]; omega)]
          exact ⟨rfl, (), [], h, by unfold plrStep; first | rfl | ((try dsimp only); (try rw [hb2]); rfl), trivial, ⟨.inr rfl, .inr rfl, .inr rfl, .inr rfl, trivial⟩, ⟨.inr rfl, trivial⟩, rfl, rfl, rfl⟩
      · have h : ¬ i < (c.length - 2) := by (have h2 := h; have h3 : 2 ≤ c.length ∧ c.length ≤ 4 := hok; rw [Fx.w64_id (by omega) (by omega)] at h2; simp at h2; omega)
        exact ⟨rfl, .inl ⟨rfl, by omega, [], ⟨.inr rfl, .inr rfl, .inr rfl, .inr rfl, trivial⟩, ⟨.inr rfl, trivial⟩, rfl, rfl, rfl⟩⟩⟩)
def at2 (l : List Fx.Row) : Fx.Row := l.getD (Fx.w64 ((l.length : Int) - 2)).toNat Fx.row0
def at1 (l : List Fx.Row) : Fx.Row := l.getD (Fx.w64 ((l.length : Int) - 1)).toNat Fx.row0
def angW (r : Fx.Row) (bi im : Int) : Fx.Row := ⟨r.a, r.b, r.nx, r.ny, r.aa, r.ab, r.em, bi, r.lo, r.up, r.so, im, r.fo, r.fr⟩
section
variable (sm : Fx.Bd × Fx.Bd → List Fx.Sb → Bool) (sr : Fx.Joint → Fx.Bd → Fx.Bd → Int → Int → List Fx.Sb → Int → List Fx.Row) (ar : Int → Int → List Fx.Sb → Int → Fx.Row) (j : Fx.Joint) (p : Fx.Bd × Fx.Bd) (s : List Fx.Sb) (dt : Int)
def plL : List Fx.Row := sr j p.1 p.2 0 1 s dt
def plG : Bool := orr (!sm p s) (j.kind != 3)
def plE : Bool := !(at2 (plL sr j p s dt)).eqb (angW (ar 0 1 s j.so) (at2 (plL sr j p s dt)).bi j.i1)
def plB : Bool := orr (orr (plE sr ar j p s dt) ((at1 (plL sr j p s dt)).im != j.i0)) ((at1 (plL sr j p s dt)).so != j.so)
def plU : Bool := bif plG sm j p s then true else bif decide (((plL sr j p s dt).length : Int) < 2) then false else bif plB sr ar j p s dt then false else bif isL (runF (plrStep (plL sr j p s dt)) ((plL sr j p s dt).length - 2) 0 ()) then true else false
def plI (l : List Fx.Row) (k : Int) : Prop := 0 ≤ Fx.w64 ((l.length : Int) - k) ∧ Fx.w64 ((l.length : Int) - k) < (l.length : Int)
def plN (l : List Fx.Row) (k : Int) : Prop := (Fx.w64 ((l.length : Int) - k)).toNat < l.length
def plC (q : Prop) : Prop := plG sm j p s = false → decide (((plL sr j p s dt).length : Int) < 2) = false → q
def plQ : List Prop := [plC sm sr j p s dt (plI (plL sr j p s dt) 2), plC sm sr j p s dt (plN (plL sr j p s dt) 2), plC sm sr j p s dt (plI (plL sr j p s dt) 2), plC sm sr j p s dt (plN (plL sr j p s dt) 2),
  plC sm sr j p s dt (plE sr ar j p s dt = false → plI (plL sr j p s dt) 1), plC sm sr j p s dt (plE sr ar j p s dt = false → plN (plL sr j p s dt) 1),
  plC sm sr j p s dt (orr (plE sr ar j p s dt) ((at1 (plL sr j p s dt)).im != j.i0) = false → plI (plL sr j p s dt) 1), plC sm sr j p s dt (orr (plE sr ar j p s dt) ((at1 (plL sr j p s dt)).im != j.i0) = false → plN (plL sr j p s dt) 1),
  plC sm sr j p s dt (plB sr ar j p s dt = false → false = false), plC sm sr j p s dt (plB sr ar j p s dt = false → ((plL sr j p s dt).length : Int) = ((plL sr j p s dt).length : Int)), plC sm sr j p s dt (plB sr ar j p s dt = false → (0 : Int) = 0), plC sm sr j p s dt (plB sr ar j p s dt = false → 2 ≤ (plL sr j p s dt).length ∧ (plL sr j p s dt).length ≤ 4)]
theorem plEq : symFn Try.prog (tbl [(5, c2 eBB (eSl .sb) eB sm), (7, c7 eJ eBd eBd eI eI (eSl .sb) eI (eFr 42 .row) sr), (8, c4 eI eI (eSl .sb) eI eRw ar), (6, c0 eB true), (9, c1 eV eV Fx.vperp)]) (fun _ => plrT) 4 [eJ.pv j, eBB.pv p, (eSl .sb).pv s, eI.pv dt] =
    some (plQ sm sr ar j p s dt, eB.pv (plU sm sr ar j p s dt)) := by kernel_rfl
end
def plX (j : Fx.Joint) (a b : Fx.Bd) (s : List Fx.Sb) (dt : Int) : List Fx.Row := Fx.motor j dt (Fx.srow j a b 0 1 s (Fx.wAxis j a.t) 0) ++ Fx.limits (Fx.transl j a.t b.t) j.lo j.up j.el j.i3 dt (Fx.srow j a b 0 1 s (Fx.wAxis j a.t) 0)
theorem srows_split (j : Fx.Joint) (a b : Fx.Bd) (s : List Fx.Sb) (dt : Int) (h : (j.kind != 3) = false) : Fx.srows j a b 0 1 s dt = plX j a b s dt ++ [Fx.sang j a b 0 1 s dt, Fx.sacr j a b 0 1 s dt] := by
  unfold Fx.srows plX
  rw [h]; rfl
theorem plX_ok {j : Fx.Joint} {a b : Fx.Bd} {s : List Fx.Sb} {dt : Int} {x : Fx.Row} (h : x ∈ plX j a b s dt) : x.n = Fx.wAxis j a.t ∧ x.so = 0 := by
  unfold plX at h
  rcases List.mem_append.1 h with h | h
  · unfold Fx.motor at h
    cases hj : j.em <;> rw [hj] at h
    · cases h
    · rw [List.mem_singleton.1 h]; exact ⟨rfl, rfl⟩
  · unfold Fx.limits at h
    cases h1 : orr (!j.el) (an (decide (j.lo < Fx.transl j a.t b.t)) (decide (Fx.transl j a.t b.t < j.up))) <;> rw [h1] at h
    · cases h2 : (j.lo == j.up) <;> rw [h2] at h
      · cases h3 : decide (Fx.transl j a.t b.t ≤ j.lo) <;> rw [h3] at h
        all_goals (rw [List.mem_singleton.1 h]; exact ⟨rfl, rfl⟩)
      · rw [List.mem_singleton.1 h]; exact ⟨rfl, rfl⟩
    · cases h
theorem plLen (j : Fx.Joint) (p : Fx.Bd × Fx.Bd) (s : List Fx.Sb) (dt : Int) (h : (j.kind != 3) = false) : 2 ≤ (plL Fx.srows j p s dt).length ∧ (plL Fx.srows j p s dt).length ≤ 4 := by
  have h1 := srows_split j p.1 p.2 s dt h
  have h2 := Fx.motor_len j dt (Fx.srow j p.1 p.2 0 1 s (Fx.wAxis j p.1.t) 0)
  have h3 := Fx.limits_len (Fx.transl j p.1.t p.2.t) j.lo j.up j.el j.i3 dt (Fx.srow j p.1 p.2 0 1 s (Fx.wAxis j p.1.t) 0)
  unfold plL
  rw [h1]
  unfold plX
  simp only [List.length_append, List.length_cons, List.length_nil]
  omega
theorem plQ_ok (j : Fx.Joint) (p : Fx.Bd × Fx.Bd) (s : List Fx.Sb) (dt : Int) : Conj (plQ sm32 Fx.srows Fx.arow j p s dt) := by
  have key : ∀ k : Int, 0 < k → k ≤ 2 → plG sm32 j p s = false → plI (plL Fx.srows j p s dt) k ∧ plN (plL Fx.srows j p s dt) k := fun k k0 k2 g => by
    have hl := plLen j p s dt (Fx.of_orr g).2
    unfold plI plN
    rw [Fx.w64_id (by omega) (by omega)]
    omega
  exact ⟨fun g _ => (key 2 (by decide) (by decide) g).1, fun g _ => (key 2 (by decide) (by decide) g).2, fun g _ => (key 2 (by decide) (by decide) g).1, fun g _ => (key 2 (by decide) (by decide) g).2,
    fun g _ _ => (key 1 (by decide) (by decide) g).1, fun g _ _ => (key 1 (by decide) (by decide) g).2, fun g _ _ => (key 1 (by decide) (by decide) g).1, fun g _ _ => (key 1 (by decide) (by decide) g).2,
    fun _ _ _ => rfl, fun _ _ _ => rfl, fun _ _ _ => rfl, fun g _ _ => plLen j p s dt (Fx.of_orr g).2, trivial⟩
theorem plAt (j : Fx.Joint) (p : Fx.Bd × Fx.Bd) (s : List Fx.Sb) (dt : Int) (h : (j.kind != 3) = false) : at2 (plL Fx.srows j p s dt) = Fx.sang j p.1 p.2 0 1 s dt ∧ at1 (plL Fx.srows j p s dt) = Fx.sacr j p.1 p.2 0 1 s dt := by
  have hl := plLen j p s dt h
  unfold at2 at1
  rw [Fx.w64_id (by omega) (by omega), Fx.w64_id (by omega) (by omega), show (((plL Fx.srows j p s dt).length : Int) - 2).toNat = (plL Fx.srows j p s dt).length - 2 by omega, show (((plL Fx.srows j p s dt).length : Int) - 1).toNat = (plL Fx.srows j p s dt).length - 1 by omega]
  unfold plL
  rw [srows_split j p.1 p.2 s dt h]
  exact Fx.last2 _ _ _ _
theorem plU_true (j : Fx.Joint) (p : Fx.Bd × Fx.Bd) (s : List Fx.Sb) (dt : Int) : plU sm32 Fx.srows Fx.arow j p s dt = true := by
  unfold plU
  cases g : plG sm32 j p s with
  | true => rfl
  | false =>
    have hk := (Fx.of_orr g).2
    have hl := plLen j p s dt hk
    obtain ⟨e2, e1⟩ := plAt j p s dt hk
    have hB : plB Fx.srows Fx.arow j p s dt = false := by
      unfold plB plE
      rw [e2, e1]
      have q1 : (Fx.sang j p.1 p.2 0 1 s dt).eqb (angW (Fx.arow 0 1 s j.so) (Fx.sang j p.1 p.2 0 1 s dt).bi j.i1) = true := Fx.Row.eqb_self _
      have q2 : (Fx.sacr j p.1 p.2 0 1 s dt).im = j.i0 := rfl
      have q3 : (Fx.sacr j p.1 p.2 0 1 s dt).so = j.so := rfl
      rw [q1, q2, q3]
      simp [orr]
    have hR : isL (runF (plrStep (plL Fx.srows j p s dt)) ((plL Fx.srows j p s dt).length - 2) 0 ()) = true := by
      refine Fx.isL_all (p := fun i => orr (!(Fx.vperp ((plL Fx.srows j p s dt).getD i Fx.row0).n).eqb (at1 (plL Fx.srows j p s dt)).n) (((plL Fx.srows j p s dt).getD i Fx.row0).so != 0)) (e := fun _ => ()) _ _ fun i _ hi => ?_
      have hx : (plL Fx.srows j p s dt).getD i Fx.row0 ∈ plX j p.1 p.2 s dt := by
        have hs : plL Fx.srows j p s dt = plX j p.1 p.2 s dt ++ [Fx.sang j p.1 p.2 0 1 s dt, Fx.sacr j p.1 p.2 0 1 s dt] := srows_split j p.1 p.2 s dt hk
        have hn : (plL Fx.srows j p s dt).length = (plX j p.1 p.2 s dt).length + 2 := by rw [hs]; simp
        have hi' : i < (plX j p.1 p.2 s dt).length := by omega
        rw [hs]
        simp only [List.getD, List.getElem?_append_left hi', List.getElem?_eq_getElem hi', Option.getD_some]
        exact List.getElem_mem _
      obtain ⟨x1, x2⟩ := plX_ok hx
      rw [x1, x2, e1]
      have q : (Fx.vperp (Fx.wAxis j p.1.t)).eqb (Fx.sacr j p.1 p.2 0 1 s dt).n = true := Fx.Vec.eqb_self _
      rw [q]
      simp [orr]
    rw [hB, hR, decide_eq_false (show ¬ ((plL Fx.srows j p s dt).length : Int) < 2 by omega)]
    rfl
theorem lPrismaticLastRows : Sound Try.prog 4 (c4 eJ eBB (eSl .sb) eI eB (fun _ _ _ _ => true)) :=
  con (lps := fun _ => plrT) mixed (AllSound.cons cSm32 (.cons cPrs (.cons cArw (.cons cEx32 (.cons rVperp .nil))))) Try.func4 (by kernel_rfl) (by kernel_rfl) (oneLoop (lps := fun _ => plrT) (b := lbN 0 Try.f4) (by kernel_rfl) plrLoop)
    (g4 (fun j p s dt => plQ sm32 Fx.srows Fx.arow j p s dt) (fun j p s dt => plU sm32 Fx.srows Fx.arow j p s dt) (fun j p s dt _ => plQ_ok j p s dt) (fun j p s dt _ => plU_true j p s dt) (fun j p s dt => plEq sm32 Fx.srows Fx.arow j p s dt))
theorem aPrismaticLastRows : ∀ vs, ArgsAre Try.prog 8 [27, 34, 35, 3] vs → ∃ ps, (c4 eJ eBB (eSl .sb) eI eB (fun _ _ _ _ => true)) vs = some (ps, .fv (.one (.bool true))) ∧ Conj ps := by
  intro vs h0
  obtain ⟨x0, r, rfl, h1⟩ := args_J (by kernel_rfl) (by kernel_rfl) h0
  obtain ⟨x1, r, rfl, h2⟩ := args_BB (by kernel_rfl) (by kernel_rfl) h1
  obtain ⟨x2, r, rfl, h3⟩ := args_Slsb (by kernel_rfl) (by kernel_rfl) h2
  obtain ⟨x3, r, rfl, lo3, hi3, h4⟩ := args_int (k := .i64) (by kernel_rfl) (by kernel_rfl) h3
  obtain rfl := args_nil h4
  exact ⟨_, rfl, trivial⟩
set_option maxRecDepth 100000 in
theorem liftedPrismaticLastRows (os : Os) (started : os.Started) (H : Type) (enc : TypeId × Value → H) :
    ReturnsInHanded {} Try.checked os 4 .any (Rows.prismaticLastRowsSpec.pre6 enc Try.prog Try.f4 Rows.prismaticLastRowsRow.domain false) (Rows.prismaticLastRowsSpec.post enc Try.prog Try.f4 false true false false) := by
  refine returnsInHanded_of_change (C := Try.checked) own started (by kernel_rfl) Try.func4 (ChangeSpec.witness6 (enc := enc) (C := Try.checked) false ⟨#[], #[.agg #[.int .i64 0, .int .i64 0, .int .i64 0, .int .i64 0, .int .i64 0, .int .i64 0, .int .i64 0, .int .i64 0, .int .i64 0, .int .i64 0, .int .i64 0, .bool false, .int .i64 0, .int .i64 0, .bool false, .int .i64 0, .int .i64 0, .int .i64 0, .int .i64 0, .bool false, .int .i64 0, .int .i64 0, .int .i64 0, .int .i64 0], .agg #[.int .i64 0, .int .i64 0, .int .i64 0, .int .i64 0, .int .i64 0, .int .i64 0, .int .i64 0, .int .i64 0, .int .i64 0, .int .i64 0, .int .i64 0, .int .i64 0, .int .i64 0, .int .i64 0, .bool false, .bool false, .bool false, .bool false, .int .i64 0, .slice none 0 0, .int .i64 0, .int .i64 0, .int .i64 0, .int .i64 0, .int .i64 0, .int .i64 0, .int .i64 0, .int .i64 0, .int .i64 0, .int .i64 0, .int .i64 0, .int .i64 0, .int .i64 0, .int .i64 0, .bool false, .bool false, .bool false, .bool false, .int .i64 0, .slice none 0 0], .slice none 0 0, .int .i64 0], []⟩ 8 (by kernel_rfl) (by kernel_rfl) (by kernel_rfl) (by kernel_rfl)) ?_
  intro W base args ds gs before hval hW _ _
  exact law_contract (D := 8) (by kernel_rfl) (of_allOk (by kernel_rfl)) (tb := 4) (by kernel_rfl) (by kernel_rfl) rfl (fun ds h => by
    have h : ds.length = 4 := h
    match ds, h with
    | [d0, d1, d2, d3], _ => rfl) lPrismaticLastRows aPrismaticLastRows W base args ds gs before hval hW

theorem prismaticLastRows_holds : Rows.PrismaticLastRowsSaid :=
  OpenClaim.holds_of_wide 4 Try.f4 rfl rfl rfl rfl rfl rfl rfl ⟨rfl, rfl, rfl, rfl, rfl⟩ rfl rfl rfl rfl rfl (by kernel_rfl) Try.func4 (by kernel_rfl)
    (of_decide_eq_true (by kernel_rfl)) (by unfold Func.isWrapper; first | (rw [if_pos (by decide +kernel)]; kernel_rfl) | (rw [if_neg (by decide +kernel)]; exact ⟨rfl, rfl⟩))
    (fun os started H enc _ => liftedPrismaticLastRows os started H enc)

end Go.Proofs.Ytmlppmjmgfklnaa
