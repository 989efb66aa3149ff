/- The contracts of hashes and checksums, program and reference. -/
import Derived.Test.YtleooijgkdllfaaFix
import Derived.Test.YtleooijgkdllfaaEngChk
open Go Go.Eng
namespace Go.Proofs.Ytleooijgkdllfaa
open Go.Fx (an orr)

theorem cMix : Sound Try.prog 12 (c2 eU eI eU Fx.mix) :=
  con (lps := noLps) mixed .nil Try.func12 (by kernel_rfl) (by kernel_rfl) (noLoops (by kernel_rfl)) (k2 (fun _ _ => by kernel_rfl))
theorem rMix : Sound Try.prog 13 (c2 eU eI eU Fx.mix) :=
  con (lps := noLps) mixed .nil Try.func13 (by kernel_rfl) (by kernel_rfl) (noLoops (by kernel_rfl)) (g2 (fun _ _ => []) Fx.mixR (fun _ _ _ => trivial) (fun h n _ => Fx.mixR_eq h n) (fun _ _ => by kernel_rfl))
noncomputable def updL : List (FuncId × Contract) := []
def updTv (_c : Unit) (i : Nat) (x : (Int)) : List TV := [.val (.fv (.one (.int .u32 x))), .val (.fv (.one (.int .u32 0))), .val (I (i : Int))]
def updMv (_c : Unit) (_i : Nat) (_x : (Int)) : List MRes := []
def updDec : List TV → List MRes → Option (List Prop × (Unit) × ((Int)))
  | [.val (.fv (.one (.int .u32 s))), .val (.fv (.one (.int .u32 z))), .val (I i)], [] => some ([z = 0, i = 0], (), s)
  | _, _ => none
def updOk (_c : Unit) : Prop := True
def updInv (_c : Unit) (_i : Nat) (_x : (Int)) : Prop := True
theorem updDec_ok (ts : List TV) (ms : List MRes) (ps : List Prop) (c : Unit) (x : (Int)) (h : updDec ts ms = some (ps, c, x)) (hp : Conj ps) : ts = updTv c 0 x ∧ ms = updMv c 0 x ∧ updOk c ∧ updInv c 0 x := by
  unfold updDec at h
  split at h
  · cases h
    obtain ⟨rfl, rfl, _⟩ := hp
    exact ⟨rfl, rfl, trivial, trivial⟩
  · cases h
def updStep (_c : Unit) (_i : Nat) (x : (Int)) : (Int) := bif Fx.aW x 1 == 1 then ((Fx.xW (x.fdiv (2 ^ (min (Int.toNat 1) 32))) 2197175160)) else ((x.fdiv (2 ^ (min (Int.toNat 1) 32))))
def updV (_c : Unit) (i : Nat) (x : (Int)) : VT := VT.ite (decide ((i : Int) < 8)) (VT.ite (Fx.aW x 1 == 1) (VT.leaf Ex.norm 16 [.val (.fv (.one (.int .u32 (Fx.xW (x.fdiv (2 ^ (min (Int.toNat 1) 32))) 2197175160)))), .val (.fv (.one (.int .u32 0))), .val (I (IntKind.i64.wrap ((i : Int) + 1)))] []) (VT.leaf Ex.norm 16 [.val (.fv (.one (.int .u32 (x.fdiv (2 ^ (min (Int.toNat 1) 32)))))), .val (.fv (.one (.int .u32 0))), .val (I (IntKind.i64.wrap ((i : Int) + 1)))] [])) (VT.leaf (Ex.exit 0) 16 [.val (.fv (.one (.int .u32 x))), .val (.fv (.one (.int .u32 0))), .val (I (i : Int))] [])
theorem updV_eq (c : Unit) (i : Nat) (x : (Int)) : viewT [0, 2, 4] [] (sexec Try.prog (tbl updL) (noLps) (lbN 0 Try.f21) (headSt 16 2 [0, 2, 4] [] (updTv c i x) (updMv c i x))) = updV c i x := by kernel_rfl
noncomputable def updT : St → Tree := forT0 16 2 [0, 2, 4] [] updDec (fun _ => 8) updTv updMv updStep 0
theorem updA : AllSound Try.prog updL := .nil
theorem updLoop : LoopOk Try.prog updT (lbN 0 Try.f21) :=
  forT0_ok mixed updA.tbl (noLoops (by kernel_rfl)) [] (bn := fun c => True) (inv := updInv) updDec_ok (fun _ _ => ⟨⟨.inr rfl, .inr rfl, .inr rfl, trivial⟩, trivial, rfl, rfl, rfl⟩)
    (fun _ _ _ _ _ _ hr h1 h2 => by
      trivial)
    (fun c i x hok hn hinv hi => ⟨_, updV_eq c i x, by
      refine ⟨fun h => ?_, fun h => ?_⟩
      · have h : i < 8 := by simp at h; omega
        refine ⟨fun hb1 => ?_, fun hb1 => ?_⟩
        · rw [wrap_succ h (by simp only [maxLen]; omega)]
          exact ⟨rfl, ((Fx.xW (x.fdiv (2 ^ (min (Int.toNat 1) 32))) 2197175160)), [], h, by unfold updStep; first | rfl | ((try dsimp only); (try rw [hb1]); rfl), trivial, ⟨.inr rfl, .inr rfl, .inr rfl, trivial⟩, trivial, rfl, rfl, rfl⟩
        · rw [wrap_succ h (by simp only [maxLen]; omega)]
          exact ⟨rfl, ((x.fdiv (2 ^ (min (Int.toNat 1) 32)))), [], h, by unfold updStep; first | rfl | ((try dsimp only); (try rw [hb1]); rfl), trivial, ⟨.inr rfl, .inr rfl, .inr rfl, trivial⟩, trivial, rfl, rfl, rfl⟩
      · have h : ¬ i < 8 := by simp at h; omega
        exact ⟨rfl, .inl ⟨rfl, by omega, [], ⟨.inr rfl, .inr rfl, .inr rfl, trivial⟩, trivial, rfl, rfl, rfl⟩⟩⟩)
noncomputable def hshL : List (FuncId × Contract) := [(12, c2 eU eI eU Fx.mix)]
def hshTv (c : (List Int)) (i : Nat) (x : (Int)) : List TV := [.val ((eSl .i64).pv c), .val (eU.pv 0), .val (eU.pv x), .val ((eSl .i64).pv c), .val (I c.length), .val (I (i : Int))]
def hshMv (_c : (List Int)) (_i : Nat) (_x : (Int)) : List MRes := []
def hshDec : List TV → List MRes → Option (List Prop × ((List Int)) × ((Int)))
  | [.val (.fv (.one (.slc false ⟨.i64, l⟩))), .val (.fv (.one (.int .u64 z))), .val (.fv (.one (.int .u64 h))), .val (.fv (.one (.slc false ⟨.i64, k⟩))), .val (I m), .val (I i)], [] => some ([z = 0, k = l, m = l.length, i = 0, l.length ≤ 65536], l, h)
  | _, _ => none
def hshOk (c : (List Int)) : Prop := c.length ≤ 65536
def hshInv (_c : (List Int)) (_i : Nat) (_x : (Int)) : Prop := True
theorem hshDec_ok (ts : List TV) (ms : List MRes) (ps : List Prop) (c : (List Int)) (x : (Int)) (h : hshDec ts ms = some (ps, c, x)) (hp : Conj ps) : ts = hshTv c 0 x ∧ ms = hshMv c 0 x ∧ hshOk c ∧ hshInv c 0 x := by
  unfold hshDec at h
  split at h
  · cases h
    obtain ⟨rfl, rfl, rfl, rfl, hok, _⟩ := hp
    exact ⟨rfl, rfl, hok, trivial⟩
  · cases h
def hshStep (c : (List Int)) (i : Nat) (x : (Int)) : (Int) := ((Fx.mix x (c.getD i 0)))
def hshV (c : (List Int)) (i : Nat) (x : (Int)) : VT := VT.ite (decide ((i : Int) < (c.length : Int))) (VT.pre [0 ≤ (i : Int) ∧ (i : Int) < ((c).length : Int)] (VT.leaf Ex.norm 20 [.val ((eSl .i64).pv c), .val (eU.pv 0), .val (eU.pv (Fx.mix x (c.getD i 0))), .val ((eSl .i64).pv c), .val (I c.length), .val (I (IntKind.i64.wrap ((i : Int) + 1)))] [])) (VT.leaf (Ex.exit 0) 20 [.val ((eSl .i64).pv c), .val (eU.pv 0), .val (eU.pv x), .val ((eSl .i64).pv c), .val (I c.length), .val (I (i : Int))] [])
theorem hshV_eq (c : (List Int)) (i : Nat) (x : (Int)) : viewT [0, 2, 3, 9, 10, 11] [] (sexec Try.prog (tbl hshL) (noLps) (lbN 0 Try.f14) (headSt 20 8 [0, 2, 3, 9, 10, 11] [] (hshTv c i x) (hshMv c i x))) = hshV c i x := by kernel_rfl
noncomputable def hshT : St → Tree := forT0 20 8 [0, 2, 3, 9, 10, 11] [] hshDec (fun c => c.length) hshTv hshMv hshStep 0
theorem hshA : AllSound Try.prog hshL := (.cons cMix .nil)
theorem hshLoop : LoopOk Try.prog hshT (lbN 0 Try.f14) :=
  forT0_ok mixed hshA.tbl (noLoops (by kernel_rfl)) [] (bn := fun c => True) (inv := hshInv) hshDec_ok (fun _ _ => ⟨⟨.inr rfl, .inr rfl, .inr rfl, .inr rfl, .inr rfl, .inr rfl, trivial⟩, trivial, rfl, rfl, rfl⟩)
    (fun _ _ _ _ _ _ hr h1 h2 => by
      trivial)
    (fun c i x hok hn hinv hi => ⟨_, hshV_eq c i x, by
      refine ⟨fun h => ?_, fun h => ?_⟩
      · have h : i < c.length := by simpa using h
        refine ⟨⟨⟨by omega, by first | omega | (have := h; omega)⟩, trivial⟩, ?_⟩
        rw [wrap_succ h (by have h2 : c.length ≤ 65536 := hok; simp only [maxLen]; omega)]
        exact ⟨rfl, ((Fx.mix x (c.getD i 0))), [], h, by unfold hshStep; rfl, trivial, ⟨.inr rfl, .inr rfl, .inr rfl, .inr rfl, .inr rfl, .inr rfl, trivial⟩, trivial, rfl, rfl, rfl⟩
      · have h : ¬ i < c.length := by simpa using h
        exact ⟨rfl, .inl ⟨rfl, by omega, [], ⟨.inr rfl, .inr rfl, .inr rfl, .inr rfl, .inr rfl, .inr rfl, trivial⟩, trivial, rfl, rfl, rfl⟩⟩⟩)
noncomputable def rshL : List (FuncId × Contract) := [(13, c2 eU eI eU Fx.mix)]
def rshTv (c : (List Int)) (i : Nat) (x : (Int)) : List TV := [.val ((eSl .i64).pv c), .val (eU.pv 0), .val (eU.pv x), .val (I (i : Int))]
def rshMv (_c : (List Int)) (_i : Nat) (_x : (Int)) : List MRes := []
def rshDec : List TV → List MRes → Option (List Prop × ((List Int)) × ((Int)))
  | [.val (.fv (.one (.slc false ⟨.i64, l⟩))), .val (.fv (.one (.int .u64 z))), .val (.fv (.one (.int .u64 h))), .val (I i)], [] => some ([z = 0, i = 0, l.length ≤ 65536], l, h)
  | _, _ => none
def rshOk (c : (List Int)) : Prop := c.length ≤ 65536
def rshInv (_c : (List Int)) (_i : Nat) (_x : (Int)) : Prop := True
theorem rshDec_ok (ts : List TV) (ms : List MRes) (ps : List Prop) (c : (List Int)) (x : (Int)) (h : rshDec ts ms = some (ps, c, x)) (hp : Conj ps) : ts = rshTv c 0 x ∧ ms = rshMv c 0 x ∧ rshOk c ∧ rshInv c 0 x := by
  unfold rshDec at h
  split at h
  · cases h
    obtain ⟨rfl, rfl, hok, _⟩ := hp
    exact ⟨rfl, rfl, hok, trivial⟩
  · cases h
def rshStep (c : (List Int)) (i : Nat) (x : (Int)) : (Int) := ((Fx.mix x (c.getD i 0)))
def rshV (c : (List Int)) (i : Nat) (x : (Int)) : VT := VT.ite (decide ((i : Int) < (c.length : Int))) (VT.pre [0 ≤ (i : Int) ∧ (i : Int) < ((c).length : Int)] (VT.leaf Ex.norm 21 [.val ((eSl .i64).pv c), .val (eU.pv 0), .val (eU.pv (Fx.mix x (c.getD i 0))), .val (I (IntKind.i64.wrap ((i : Int) + 1)))] [])) (VT.leaf (Ex.exit 0) 21 [.val ((eSl .i64).pv c), .val (eU.pv 0), .val (eU.pv x), .val (I (i : Int))] [])
theorem rshV_eq (c : (List Int)) (i : Nat) (x : (Int)) : viewT [0, 2, 3, 4] [] (sexec Try.prog (tbl rshL) (noLps) (lbN 0 Try.f15) (headSt 21 6 [0, 2, 3, 4] [] (rshTv c i x) (rshMv c i x))) = rshV c i x := by kernel_rfl
noncomputable def rshT : St → Tree := forT0 21 6 [0, 2, 3, 4] [] rshDec (fun c => c.length) rshTv rshMv rshStep 0
theorem rshA : AllSound Try.prog rshL := (.cons rMix .nil)
theorem rshLoop : LoopOk Try.prog rshT (lbN 0 Try.f15) :=
  forT0_ok mixed rshA.tbl (noLoops (by kernel_rfl)) [] (bn := fun c => True) (inv := rshInv) rshDec_ok (fun _ _ => ⟨⟨.inr rfl, .inr rfl, .inr rfl, .inr rfl, trivial⟩, trivial, rfl, rfl, rfl⟩)
    (fun _ _ _ _ _ _ hr h1 h2 => by
      trivial)
    (fun c i x hok hn hinv hi => ⟨_, rshV_eq c i x, by
      refine ⟨fun h => ?_, fun h => ?_⟩
      · have h : i < c.length := by simpa using h
        refine ⟨⟨⟨by omega, by first | omega | (have := h; omega)⟩, trivial⟩, ?_⟩
        rw [wrap_succ h (by have h2 : c.length ≤ 65536 := hok; simp only [maxLen]; omega)]
        exact ⟨rfl, ((Fx.mix x (c.getD i 0))), [], h, by unfold rshStep; rfl, trivial, ⟨.inr rfl, .inr rfl, .inr rfl, .inr rfl, trivial⟩, trivial, rfl, rfl, rfl⟩
      · have h : ¬ i < c.length := by simpa using h
        exact ⟨rfl, .inl ⟨rfl, by omega, [], ⟨.inr rfl, .inr rfl, .inr rfl, .inr rfl, trivial⟩, trivial, rfl, rfl, rfl⟩⟩⟩)
theorem cUpd : Sound Try.prog 21 (c1 eU32 eU32 Fx.upd8) :=
  con (lps := fun _ => updT) mixed .nil Try.func21 (by kernel_rfl) (by kernel_rfl) (oneLoop (lps := fun _ => updT) (b := (lbN 0 Try.f21)) (by kernel_rfl) updLoop) (g1 (fun _ => [(0 : Int) = 0, (0 : Int) = 0]) Fx.upd8 (fun _ _ => ⟨rfl, rfl, trivial⟩) (fun _ _ => rfl) (fun _ => by kernel_rfl))
theorem cHsh : Sound Try.prog 14 (p1 (eSl .i64) eU (fun l => [l.length ≤ 65536]) Fx.hash) :=
  con (lps := fun _ => hshT) mixed (AllSound.cons cMix .nil) Try.func14 (by kernel_rfl) (by kernel_rfl) (oneLoop (lps := fun _ => hshT) (b := (lbN 0 Try.f14)) (by kernel_rfl) hshLoop) (g1 (fun l => [(0 : Int) = 0, l = l, (l.length : Int) = l.length, (0 : Int) = 0, l.length ≤ 65536]) Fx.hash (fun _ h => ⟨rfl, rfl, rfl, rfl, h.1, trivial⟩) (fun _ _ => rfl) (fun _ => by kernel_rfl))
theorem rHsh : Sound Try.prog 15 (p1 (eSl .i64) eU (fun l => [l.length ≤ 65536]) Fx.hash) :=
  con (lps := fun _ => rshT) mixed (AllSound.cons rMix .nil) Try.func15 (by kernel_rfl) (by kernel_rfl) (oneLoop (lps := fun _ => rshT) (b := (lbN 0 Try.f15)) (by kernel_rfl) rshLoop) (g1 (fun l => [(0 : Int) = 0, (0 : Int) = 0, l.length ≤ 65536]) Fx.hash (fun _ h => ⟨rfl, rfl, h.1, trivial⟩) (fun _ _ => rfl) (fun _ => by kernel_rfl))
noncomputable def crcL : List (FuncId × Contract) := [(21, c1 eU32 eU32 Fx.upd8)]
def crcTv (c : (List Int)) (i : Nat) (x : (Int)) : List TV := [.val ((eSl .u8).pv c), .val (eU32.pv 0), .val (eU32.pv x), .val ((eSl .u8).pv c), .val (I c.length), .val (I (i : Int))]
def crcMv (_c : (List Int)) (_i : Nat) (_x : (Int)) : List MRes := []
def crcDec : List TV → List MRes → Option (List Prop × ((List Int)) × ((Int)))
  | [.val (.fv (.one (.slc false ⟨.u8, l⟩))), .val (.fv (.one (.int .u32 z))), .val (.fv (.one (.int .u32 s))), .val (.fv (.one (.slc false ⟨.u8, k⟩))), .val (I m), .val (I i)], [] => some ([z = 0, k = l, m = l.length, i = 0, l.length ≤ 65536], l, s)
  | _, _ => none
def crcOk (c : (List Int)) : Prop := c.length ≤ 65536
def crcInv (_c : (List Int)) (_i : Nat) (_x : (Int)) : Prop := True
theorem crcDec_ok (ts : List TV) (ms : List MRes) (ps : List Prop) (c : (List Int)) (x : (Int)) (h : crcDec ts ms = some (ps, c, x)) (hp : Conj ps) : ts = crcTv c 0 x ∧ ms = crcMv c 0 x ∧ crcOk c ∧ crcInv c 0 x := by
  unfold crcDec at h
  split at h
  · cases h
    obtain ⟨rfl, rfl, rfl, rfl, hok, _⟩ := hp
    exact ⟨rfl, rfl, hok, trivial⟩
  · cases h
def crcStep (c : (List Int)) (i : Nat) (x : (Int)) : (Int) := ((Fx.upd8 (Fx.xW x (Fx.wW (c.getD i 0)))))
def crcV (c : (List Int)) (i : Nat) (x : (Int)) : VT := VT.ite (decide ((i : Int) < (c.length : Int))) (VT.pre [0 ≤ (i : Int) ∧ (i : Int) < ((c).length : Int)] (VT.leaf Ex.norm 20 [.val ((eSl .u8).pv c), .val (eU32.pv 0), .val (eU32.pv (Fx.upd8 (Fx.xW x (Fx.wW (c.getD i 0))))), .val ((eSl .u8).pv c), .val (I c.length), .val (I (IntKind.i64.wrap ((i : Int) + 1)))] [])) (VT.leaf (Ex.exit 0) 20 [.val ((eSl .u8).pv c), .val (eU32.pv 0), .val (eU32.pv x), .val ((eSl .u8).pv c), .val (I c.length), .val (I (i : Int))] [])
theorem crcV_eq (c : (List Int)) (i : Nat) (x : (Int)) : viewT [0, 2, 3, 6, 7, 8] [] (sexec Try.prog (tbl crcL) (noLps) (lbN 0 Try.f16) (headSt 20 5 [0, 2, 3, 6, 7, 8] [] (crcTv c i x) (crcMv c i x))) = crcV c i x := by kernel_rfl
noncomputable def crcT : St → Tree := forT0 20 5 [0, 2, 3, 6, 7, 8] [] crcDec (fun c => c.length) crcTv crcMv crcStep 0
theorem crcA : AllSound Try.prog crcL := (.cons cUpd .nil)
theorem crcLoop : LoopOk Try.prog crcT (lbN 0 Try.f16) :=
  forT0_ok mixed crcA.tbl (noLoops (by kernel_rfl)) [] (bn := fun c => True) (inv := crcInv) crcDec_ok (fun _ _ => ⟨⟨.inr rfl, .inr rfl, .inr rfl, .inr rfl, .inr rfl, .inr rfl, trivial⟩, trivial, rfl, rfl, rfl⟩)
    (fun _ _ _ _ _ _ hr h1 h2 => by
      trivial)
    (fun c i x hok hn hinv hi => ⟨_, crcV_eq c i x, by
      refine ⟨fun h => ?_, fun h => ?_⟩
      · have h : i < c.length := by simpa using h
        refine ⟨⟨⟨by omega, by first | omega | (have := h; omega)⟩, trivial⟩, ?_⟩
        rw [wrap_succ h (by have h2 : c.length ≤ 65536 := hok; simp only [maxLen]; omega)]
        exact ⟨rfl, ((Fx.upd8 (Fx.xW x (Fx.wW (c.getD i 0))))), [], h, by unfold crcStep; rfl, trivial, ⟨.inr rfl, .inr rfl, .inr rfl, .inr rfl, .inr rfl, .inr rfl, trivial⟩, trivial, rfl, rfl, rfl⟩
      · have h : ¬ i < c.length := by simpa using h
        exact ⟨rfl, .inl ⟨rfl, by omega, [], ⟨.inr rfl, .inr rfl, .inr rfl, .inr rfl, .inr rfl, .inr rfl, trivial⟩, trivial, rfl, rfl, rfl⟩⟩⟩)
theorem cCrc : Sound Try.prog 16 (p1 (eSl .u8) eU32 (fun l => [l.length ≤ 65536]) Fx.crc) :=
  con (lps := fun _ => crcT) mixed (AllSound.cons cUpd .nil) Try.func16 (by kernel_rfl) (by kernel_rfl) (oneLoop (lps := fun _ => crcT) (b := (lbN 0 Try.f16)) (by kernel_rfl) crcLoop) (g1 (fun l => [(0 : Int) = 0, l = l, (l.length : Int) = l.length, (0 : Int) = 0, l.length ≤ 65536]) Fx.crc (fun _ h => ⟨rfl, rfl, rfl, rfl, h.1, trivial⟩) (fun _ _ => rfl) (fun _ => by kernel_rfl))
noncomputable def rciL : List (FuncId × Contract) := []
def rciTv (c : (List Int) × (Int)) (i : Nat) (x : (Int)) : List TV := [.val ((eSl .u8).pv c.1), .val (eU32.pv 0), .val (eU32.pv x), .val (I c.2), .val (I (i : Int))]
def rciMv (_c : (List Int) × (Int)) (_i : Nat) (_x : (Int)) : List MRes := []
def rciDec : List TV → List MRes → Option (List Prop × ((List Int) × (Int)) × ((Int)))
  | [.val (.fv (.one (.slc false ⟨.u8, l⟩))), .val (.fv (.one (.int .u32 z))), .val (.fv (.one (.int .u32 s))), .val (I j), .val (I i)], [] => some ([z = 0, i = 0], (l, j), s)
  | _, _ => none
def rciOk (_c : (List Int) × (Int)) : Prop := True
def rciInv (_c : (List Int) × (Int)) (_i : Nat) (_x : (Int)) : Prop := True
theorem rciDec_ok (ts : List TV) (ms : List MRes) (ps : List Prop) (c : (List Int) × (Int)) (x : (Int)) (h : rciDec ts ms = some (ps, c, x)) (hp : Conj ps) : ts = rciTv c 0 x ∧ ms = rciMv c 0 x ∧ rciOk c ∧ rciInv c 0 x := by
  unfold rciDec at h
  split at h
  · cases h
    obtain ⟨rfl, rfl, _⟩ := hp
    exact ⟨rfl, rfl, trivial, trivial⟩
  · cases h
def rciStep (_c : (List Int) × (Int)) (_i : Nat) (x : (Int)) : (Int) := bif x.tmod 2 == 1 then ((Fx.xW (Fx.wW (x.tdiv 2)) 2197175160)) else ((Fx.wW (x.tdiv 2)))
def rciV (c : (List Int) × (Int)) (i : Nat) (x : (Int)) : VT := VT.ite (decide ((i : Int) < 8)) (VT.ite (x.tmod 2 == 1) (VT.leaf Ex.norm 34 [.val ((eSl .u8).pv c.1), .val (eU32.pv 0), .val (eU32.pv (Fx.xW (Fx.wW (x.tdiv 2)) 2197175160)), .val (I c.2), .val (I (IntKind.i64.wrap ((i : Int) + 1)))] []) (VT.leaf Ex.norm 34 [.val ((eSl .u8).pv c.1), .val (eU32.pv 0), .val (eU32.pv (Fx.wW (x.tdiv 2))), .val (I c.2), .val (I (IntKind.i64.wrap ((i : Int) + 1)))] [])) (VT.leaf (Ex.exit 2) 34 [.val ((eSl .u8).pv c.1), .val (eU32.pv 0), .val (eU32.pv x), .val (I c.2), .val (I (i : Int))] [])
theorem rciV_eq (c : (List Int) × (Int)) (i : Nat) (x : (Int)) : viewT [0, 2, 3, 4, 5] [] (sexec Try.prog (tbl rciL) (noLps) ((loopsOf (lbN 0 Try.f17)).getD 0 .skip) (headSt 34 16 [0, 2, 3, 4, 5] [] (rciTv c i x) (rciMv c i x))) = rciV c i x := by kernel_rfl
noncomputable def rciT : St → Tree := forT0 34 16 [0, 2, 3, 4, 5] [] rciDec (fun _ => 8) rciTv rciMv rciStep 2
theorem rciA : AllSound Try.prog rciL := .nil
theorem rciLoop : LoopOk Try.prog rciT ((loopsOf (lbN 0 Try.f17)).getD 0 .skip) :=
  forT0_ok mixed rciA.tbl (noLoops (by kernel_rfl)) [] (bn := fun c => True) (inv := rciInv) rciDec_ok (fun _ _ => ⟨⟨.inr rfl, .inr rfl, .inr rfl, .inr rfl, .inr rfl, trivial⟩, trivial, rfl, rfl, rfl⟩)
    (fun _ _ _ _ _ _ hr h1 h2 => by
      trivial)
    (fun c i x hok hn hinv hi => ⟨_, rciV_eq c i x, by
      refine ⟨fun h => ?_, fun h => ?_⟩
      · have h : i < 8 := by simp at h; omega
        refine ⟨fun hb1 => ?_, fun hb1 => ?_⟩
        · rw [wrap_succ h (by simp only [maxLen]; omega)]
          exact ⟨rfl, ((Fx.xW (Fx.wW (x.tdiv 2)) 2197175160)), [], h, by unfold rciStep; first | rfl | ((try dsimp only); (try rw [hb1]); rfl), trivial, ⟨.inr rfl, .inr rfl, .inr rfl, .inr rfl, .inr rfl, trivial⟩, trivial, rfl, rfl, rfl⟩
        · rw [wrap_succ h (by simp only [maxLen]; omega)]
          exact ⟨rfl, ((Fx.wW (x.tdiv 2))), [], h, by unfold rciStep; first | rfl | ((try dsimp only); (try rw [hb1]); rfl), trivial, ⟨.inr rfl, .inr rfl, .inr rfl, .inr rfl, .inr rfl, trivial⟩, trivial, rfl, rfl, rfl⟩
      · have h : ¬ i < 8 := by simp at h; omega
        exact ⟨rfl, .inl ⟨rfl, by omega, [], ⟨.inr rfl, .inr rfl, .inr rfl, .inr rfl, .inr rfl, trivial⟩, trivial, rfl, rfl, rfl⟩⟩⟩)
noncomputable def rcoL : List (FuncId × Contract) := []
def rcoTv (c : (List Int)) (i : Nat) (x : (Int)) : List TV := [.val ((eSl .u8).pv c), .val (eU32.pv 0), .val (eU32.pv x), .val (I (i : Int))]
def rcoMv (_c : (List Int)) (_i : Nat) (_x : (Int)) : List MRes := []
def rcoDec : List TV → List MRes → Option (List Prop × ((List Int)) × ((Int)))
  | [.val (.fv (.one (.slc false ⟨.u8, l⟩))), .val (.fv (.one (.int .u32 z))), .val (.fv (.one (.int .u32 s))), .val (I i)], [] => some ([z = 0, i = 0, l.length ≤ 65536], l, s)
  | _, _ => none
def rcoOk (c : (List Int)) : Prop := c.length ≤ 65536
def rcoInv (_c : (List Int)) (_i : Nat) (_x : (Int)) : Prop := True
theorem rcoDec_ok (ts : List TV) (ms : List MRes) (ps : List Prop) (c : (List Int)) (x : (Int)) (h : rcoDec ts ms = some (ps, c, x)) (hp : Conj ps) : ts = rcoTv c 0 x ∧ ms = rcoMv c 0 x ∧ rcoOk c ∧ rcoInv c 0 x := by
  unfold rcoDec at h
  split at h
  · cases h
    obtain ⟨rfl, rfl, hok, _⟩ := hp
    exact ⟨rfl, rfl, hok, trivial⟩
  · cases h
def rcoStep (c : (List Int)) (i : Nat) (x : (Int)) : (Int) := ((foldN (rciStep (c, (i : Int))) 8 0 (Fx.xW x (Fx.wW (c.getD i 0)))))
def rcoV (c : (List Int)) (i : Nat) (x : (Int)) : VT := VT.ite (decide ((i : Int) < (c.length : Int))) (VT.pre [0 ≤ (i : Int) ∧ (i : Int) < ((c).length : Int)] (VT.pre [(0 : Int) = 0, (0 : Int) = 0] (VT.leaf Ex.norm 34 [.val ((eSl .u8).pv c), .val (eU32.pv 0), .val (eU32.pv (foldN (rciStep (c, (i : Int))) 8 0 (Fx.xW x (Fx.wW (c.getD i 0))))), .val (I (IntKind.i64.wrap ((i : Int) + 1)))] []))) (VT.leaf (Ex.exit 0) 34 [.val ((eSl .u8).pv c), .val (eU32.pv 0), .val (eU32.pv x), .val (I (i : Int))] [])
theorem rcoV_eq (c : (List Int)) (i : Nat) (x : (Int)) : viewT [0, 2, 3, 4] [] (sexec Try.prog (tbl rcoL) (fun _ => rciT) (lbN 0 Try.f17) (headSt 34 3 [0, 2, 3, 4] [] (rcoTv c i x) (rcoMv c i x))) = rcoV c i x := by kernel_rfl
noncomputable def rcoT : St → Tree := forT0 34 3 [0, 2, 3, 4] [] rcoDec (fun c => c.length) rcoTv rcoMv rcoStep 0
theorem rcoA : AllSound Try.prog rcoL := .nil
theorem rcoLoop : LoopOk Try.prog rcoT (lbN 0 Try.f17) :=
  forT0_ok mixed rcoA.tbl (oneLoop (lps := fun _ => rciT) (b := (loopsOf (lbN 0 Try.f17)).getD 0 .skip) (by kernel_rfl) rciLoop) [] (bn := fun c => True) (inv := rcoInv) rcoDec_ok (fun _ _ => ⟨⟨.inr rfl, .inr rfl, .inr rfl, .inr rfl, trivial⟩, trivial, rfl, rfl, rfl⟩)
    (fun _ _ _ _ _ _ hr h1 h2 => by
      trivial)
    (fun c i x hok hn hinv hi => ⟨_, rcoV_eq c i x, by
      refine ⟨fun h => ?_, fun h => ?_⟩
      · have h : i < c.length := by simpa using h
        refine ⟨⟨⟨by omega, by first | omega | (have := h; omega)⟩, trivial⟩, ?_⟩
        refine ⟨⟨rfl, rfl, trivial⟩, ?_⟩
        rw [wrap_succ h (by have h2 : c.length ≤ 65536 := hok; simp only [maxLen]; omega)]
        exact ⟨rfl, ((foldN (rciStep (c, (i : Int))) 8 0 (Fx.xW x (Fx.wW (c.getD i 0))))), [], h, by unfold rcoStep; rfl, trivial, ⟨.inr rfl, .inr rfl, .inr rfl, .inr rfl, trivial⟩, trivial, rfl, rfl, rfl⟩
      · have h : ¬ i < c.length := by simpa using h
        exact ⟨rfl, .inl ⟨rfl, by omega, [], ⟨.inr rfl, .inr rfl, .inr rfl, .inr rfl, trivial⟩, trivial, rfl, rfl, rfl⟩⟩⟩)
def rcrcU (l : List Int) : Int := Fx.xW (foldN (rcoStep l) l.length 0 4294967295) 4294967295
theorem rci_eq (p : List Int × Int) : ∀ (n i : Nat) (s : Int), 0 ≤ s → s ≤ 4294967295 → foldN (rciStep p) n i s = foldN (fun _ c => Fx.updS c) n i s
  | 0, _, _, _, _ => rfl
  | n + 1, i, s, h0, h1 => by
    show foldN (rciStep p) n (i + 1) (Fx.updR s) = foldN (fun _ c => Fx.updS c) n (i + 1) (Fx.updS s)
    rw [Fx.updR_eq h0 h1]
    exact rci_eq p n (i + 1) _ (Fx.updS_bounds h0 h1).1 (Fx.updS_bounds h0 h1).2
theorem rcrcU_eq (l : List Int) : rcrcU l = Fx.crc l := by
  have e : rcoStep l = Fx.crcS l := by
    funext i s
    show foldN (rciStep (l, (i : Int))) 8 0 (Fx.xW s (Fx.wW (l.getD i 0))) = Fx.upd8 (Fx.xW s (Fx.wW (l.getD i 0)))
    exact rci_eq _ 8 0 _ (Fx.wW_bounds _).1 (Fx.wW_bounds _).2
  unfold rcrcU
  rw [e]
  exact Fx.xW_nW _
theorem rCrc : Sound Try.prog 17 (p1 (eSl .u8) eU32 (fun l => [l.length ≤ 65536]) Fx.crc) :=
  con (lps := fun _ => rcoT) mixed .nil Try.func17 (by kernel_rfl) (by kernel_rfl) (oneLoop (lps := fun _ => rcoT) (b := (lbN 0 Try.f17)) (by kernel_rfl) rcoLoop) (g1 (fun l => [(0 : Int) = 0, (0 : Int) = 0, l.length ≤ 65536]) rcrcU (fun _ h => ⟨rfl, rfl, h.1, trivial⟩) (fun l _ => rcrcU_eq l) (fun _ => by kernel_rfl))
def sldP (l : List Int) : List Int := (List.take (List.replicate (l.length : Int).toNat (0 : Int)).length l ++ List.drop l.length (List.replicate (l.length : Int).toNat (0 : Int))) ++ [Fx.wB (Fx.crc l), Fx.wB ((Fx.crc l).fdiv (2 ^ (min (Int.toNat 8) 32))), Fx.wB ((Fx.crc l).fdiv (2 ^ (min (Int.toNat 16) 32))), Fx.wB ((Fx.crc l).fdiv (2 ^ (min (Int.toNat 24) 32)))]
theorem cpyEq (l : List Int) : List.take (List.replicate (l.length : Int).toNat (0 : Int)).length l ++ List.drop l.length (List.replicate (l.length : Int).toNat (0 : Int)) = l := by
  rw [Int.toNat_natCast, List.length_replicate, List.take_length, List.drop_replicate, Nat.sub_self, List.replicate_zero, List.append_nil]
theorem sldP_eq (l : List Int) : sldP l = Fx.sld l := by unfold sldP; rw [cpyEq]; rfl
def sldQ (l : List Int) : List Prop := [l.length ≤ 65536, 0 ≤ (l.length : Int) ∧ (l.length : Int) ≤ Fx.w64 ((l.length : Int) + 4) ∧ Fx.w64 ((l.length : Int) + 4) * ((1 : Nat) : Int) ≤ 140737488355328, ((List.take (List.replicate (l.length : Int).toNat (0 : Int)).length l ++ List.drop l.length (List.replicate (l.length : Int).toNat (0 : Int))).length + 4) * 1 ≤ 140737488355328]
theorem sldQ_ok (l : List Int) (h : l.length ≤ 65536) : Conj (sldQ l) := by
  refine ⟨h, ?_, ?_, trivial⟩
  · rw [Fx.w64_id (by omega) (by omega)]
    omega
  · rw [cpyEq]
    omega
theorem sldEq (cr : List Int → Int) (l : List Int) : symFn Try.prog (tbl [(16, p1 (eSl .u8) eU32 (fun l => [l.length ≤ 65536]) cr)]) noLps 10 [(eSl .u8).pv l] = some ([l.length ≤ 65536, 0 ≤ (l.length : Int) ∧ (l.length : Int) ≤ Fx.w64 ((l.length : Int) + 4) ∧ Fx.w64 ((l.length : Int) + 4) * ((1 : Nat) : Int) ≤ 140737488355328, ((List.take (List.replicate (l.length : Int).toNat (0 : Int)).length l ++ List.drop l.length (List.replicate (l.length : Int).toNat (0 : Int))).length + 4) * 1 ≤ 140737488355328],
    (eFr 5 .u8).pv ((List.take (List.replicate (l.length : Int).toNat (0 : Int)).length l ++ List.drop l.length (List.replicate (l.length : Int).toNat (0 : Int))) ++ [Fx.wB (cr l), Fx.wB ((cr l).fdiv (2 ^ (min (Int.toNat 8) 32))), Fx.wB ((cr l).fdiv (2 ^ (min (Int.toNat 16) 32))), Fx.wB ((cr l).fdiv (2 ^ (min (Int.toNat 24) 32)))])) := by kernel_rfl
theorem cSld : Sound Try.prog 10 (p1 (eSl .u8) (eFr 5 .u8) (fun l => [l.length ≤ 65536]) Fx.sld) :=
  con (lps := noLps) mixed (AllSound.cons cCrc .nil) Try.func10 (by kernel_rfl) (by kernel_rfl) (noLoops (by kernel_rfl)) (g1 sldQ sldP (fun l h => sldQ_ok l h.1) (fun l _ => sldP_eq l) (fun l => sldEq Fx.crc l))
theorem cSldS : Sound Try.prog 10 (still (p1 (eSl .u8) (eFr 5 .u8) (fun l => [l.length ≤ 65536]) Fx.sld)) := cSld.still
noncomputable def rslL : List (FuncId × Contract) := []
def rslTv (_c : (List Int)) (i : Nat) (x : (List Int) × (Int)) : List TV := [.val (.fv (.one (.own 0))), .val (.fv (.one (.own 3))), .val (eU32.pv x.2), .val (I (i : Int))]
def rslMv (_c : (List Int)) (_i : Nat) (x : (List Int) × (Int)) : List MRes := [.val (.row 5 ⟨.u8, []⟩), .val (.row 5 ⟨.u8, x.1⟩)]
def rslDec : List TV → List MRes → Option (List Prop × ((List Int)) × ((List Int) × (Int)))
  | [.val (.fv (.one (.own 0))), .val (.fv (.one (.own 3))), .val (.fv (.one (.int .u32 s))), .val (I i)], [.val (.row 5 ⟨.u8, z⟩), .val (.row 5 ⟨.u8, l⟩)] => some ([z = [], i = 0, l.length ≤ 65536], l, (l, s))
  | _, _ => none
def rslOk (c : (List Int)) : Prop := c.length ≤ 65536
def rslInv (_c : (List Int)) (i : Nat) (x : (List Int) × (Int)) : Prop := x.1.length ≤ 65536 + i
theorem rslDec_ok (ts : List TV) (ms : List MRes) (ps : List Prop) (c : (List Int)) (x : (List Int) × (Int)) (h : rslDec ts ms = some (ps, c, x)) (hp : Conj ps) : ts = rslTv c 0 x ∧ ms = rslMv c 0 x ∧ rslOk c ∧ rslInv c 0 x := by
  unfold rslDec at h
  split at h
  · cases h
    obtain ⟨rfl, rfl, hok, _⟩ := hp
    exact ⟨rfl, rfl, hok, hok⟩
  · cases h
def rslStep (_c : (List Int)) (_i : Nat) (x : (List Int) × (Int)) : (List Int) × (Int) := ((x.1 ++ [Fx.wB (x.2.tmod 256)]), (Fx.wW (x.2.tdiv 256)))
def rslV (_c : (List Int)) (i : Nat) (x : (List Int) × (Int)) : VT := VT.ite (decide ((i : Int) < 4)) (VT.pre [(x.1.length + 1) * 1 ≤ 140737488355328] (VT.leaf Ex.norm 24 [.val (.fv (.one (.own 0))), .val (.fv (.one (.own 16))), .val (eU32.pv (Fx.wW (x.2.tdiv 256))), .val (I (IntKind.i64.wrap ((i : Int) + 1)))] [.val (.row 5 ⟨.u8, []⟩), .lost, .val (.row 5 ⟨.u8, (x.1 ++ [Fx.wB (x.2.tmod 256)])⟩)])) (VT.leaf (Ex.exit 0) 24 [.val (.fv (.one (.own 0))), .val (.fv (.one (.own 3))), .val (eU32.pv x.2), .val (I (i : Int))] [.val (.row 5 ⟨.u8, []⟩), .val (.row 5 ⟨.u8, x.1⟩), .free])
theorem rslV_eq (c : (List Int)) (i : Nat) (x : (List Int) × (Int)) : viewT [2, 3, 4, 5] [0, 3, 16] (sexec Try.prog (tbl rslL) (noLps) (lbN 0 Try.f19) (headSt 24 9 [2, 3, 4, 5] [0, 3] (rslTv c i x) (rslMv c i x))) = rslV c i x := by kernel_rfl
noncomputable def rslT : St → Tree := forT0 24 9 [2, 3, 4, 5] [0, 3] rslDec (fun _ => 4) rslTv rslMv rslStep 0
theorem rslA : AllSound Try.prog rslL := .nil
theorem rslLoop : LoopOk Try.prog rslT (lbN 0 Try.f19) :=
  forT0_ok mixed rslA.tbl (noLoops (by kernel_rfl)) [0, 3, 16] (bn := fun c => True) (inv := rslInv) rslDec_ok (fun _ _ => ⟨⟨.inr rfl, .inr rfl, .inr rfl, .inr rfl, trivial⟩, ⟨.inr rfl, .inr rfl, trivial⟩, rfl, rfl, rfl⟩)
    (fun _ _ _ _ _ _ hr h1 h2 => by
      trivial)
    (fun c i x hok hn hinv hi => ⟨_, rslV_eq c i x, by
      refine ⟨fun h => ?_, fun h => ?_⟩
      · have h : i < 4 := by simp at h; omega
        refine ⟨(have h1 : x.1.length ≤ 65536 + i := hinv; ⟨by omega, trivial⟩), ?_⟩
        rw [wrap_succ h (by simp only [maxLen]; omega)]
        exact ⟨rfl, ((x.1 ++ [Fx.wB (x.2.tmod 256)]), (Fx.wW (x.2.tdiv 256))), [(3, 16)], h, by unfold rslStep; rfl, (by have h1 : x.1.length ≤ 65536 + i := hinv; show (x.1 ++ [_]).length ≤ 65536 + (i + 1); rw [List.length_append]; simp only [List.length_cons, List.length_nil]; omega), ⟨.inr rfl, .inr rfl, .inr rfl, .inr rfl, trivial⟩, ⟨.inr rfl, .inr rfl, trivial⟩, rfl, rfl, rfl⟩
      · have h : ¬ i < 4 := by simp at h; omega
        exact ⟨rfl, .inl ⟨rfl, by omega, [], ⟨.inr rfl, .inr rfl, .inr rfl, .inr rfl, trivial⟩, ⟨.inr rfl, .inr rfl, trivial⟩, rfl, rfl, rfl⟩⟩⟩)
def rslU (l : List Int) : List Int := (foldN (rslStep ([] ++ l)) 4 0 ([] ++ l, Fx.crc l)).1
theorem rslU_eq (l : List Int) : rslU l = Fx.sld l := by
  have hc := Fx.wW_bounds ((BitVec.ofInt 32 4294967295 ^^^ BitVec.ofInt 32 (Fx.crcF l)).toNat)
  have e : Fx.crc l = Fx.wW ((BitVec.ofInt 32 4294967295 ^^^ BitVec.ofInt 32 (Fx.crcF l)).toNat) := rfl
  rw [← e] at hc
  show ((((([] ++ l) ++ [Fx.wB ((Fx.crc l).tmod 256)]) ++ [Fx.wB ((Fx.wW ((Fx.crc l).tdiv 256)).tmod 256)]) ++ [Fx.wB ((Fx.wW ((Fx.wW ((Fx.crc l).tdiv 256)).tdiv 256)).tmod 256)]) ++ [Fx.wB ((Fx.wW ((Fx.wW ((Fx.wW ((Fx.crc l).tdiv 256)).tdiv 256)).tdiv 256)).tmod 256)]) = _
  unfold Fx.sld
  rw [List.nil_append, List.append_assoc, List.append_assoc, List.append_assoc]
  generalize Fx.crc l = c at hc
  have d1 : Fx.wW (c.tdiv 256) = c / 256 := by rw [Int.tdiv_eq_ediv_of_nonneg hc.1, Fx.wW_id (by omega) (by omega)]
  have d2 : Fx.wW ((c / 256).tdiv 256) = c / 65536 := by rw [Int.tdiv_eq_ediv_of_nonneg (by omega), Fx.wW_id (by omega) (by omega)]; omega
  have d3 : Fx.wW ((c / 65536).tdiv 256) = c / 16777216 := by rw [Int.tdiv_eq_ediv_of_nonneg (by omega), Fx.wW_id (by omega) (by omega)]; omega
  rw [d1, d2, d3, Int.tmod_eq_emod_of_nonneg hc.1, Int.tmod_eq_emod_of_nonneg (by omega), Int.tmod_eq_emod_of_nonneg (by omega), Int.tmod_eq_emod_of_nonneg (by omega)]
  rw [show (2 : Int) ^ (min (Int.toNat 8) 32) = 256 from rfl, show (2 : Int) ^ (min (Int.toNat 16) 32) = 65536 from rfl, show (2 : Int) ^ (min (Int.toNat 24) 32) = 16777216 from rfl, Int.fdiv_eq_ediv_of_nonneg _ (by omega), Int.fdiv_eq_ediv_of_nonneg _ (by omega), Int.fdiv_eq_ediv_of_nonneg _ (by omega)]
  rw [Fx.wB_eq, Fx.wB_eq, Fx.wB_eq, Fx.wB_eq, Fx.wB_eq, Fx.wB_eq, Fx.wB_eq, Fx.wB_eq]
  simp
def rslQ (l : List Int) : List Prop := [(0 + l.length) * 1 ≤ 140737488355328, l.length ≤ 65536, ([] : List Int) = [], (0 : Int) = 0, ([] ++ l).length ≤ 65536]
theorem rslQ_ok (l : List Int) (h : l.length ≤ 65536) : Conj (rslQ l) := ⟨by omega, h, rfl, rfl, h, trivial⟩
theorem rslEq (cr : List Int → Int) (l : List Int) : symFn Try.prog (tbl [(17, p1 (eSl .u8) eU32 (fun l => [l.length ≤ 65536]) cr)]) (fun _ => rslT) 19 [(eSl .u8).pv l] = some (rslQ l, (eFr 5 .u8).pv (foldN (rslStep ([] ++ l)) 4 0 ([] ++ l, cr l)).1) := by kernel_rfl
theorem rSld : Sound Try.prog 19 (p1 (eSl .u8) (eFr 5 .u8) (fun l => [l.length ≤ 65536]) Fx.sld) :=
  con (lps := fun _ => rslT) mixed (AllSound.cons rCrc .nil) Try.func19 (by kernel_rfl) (by kernel_rfl) (oneLoop (lps := fun _ => rslT) (b := lbN 0 Try.f19) (by kernel_rfl) rslLoop)
    (g1 rslQ rslU (fun l h => rslQ_ok l h.1) (fun l _ => rslU_eq l) (fun l => rslEq Fx.crc l))
theorem rSldS : Sound Try.prog 19 (still (p1 (eSl .u8) (eFr 5 .u8) (fun l => [l.length ≤ 65536]) Fx.sld)) := rSld.still
theorem rBeq : Sound Try.prog 18 (c2 (eSl .u8) (eSl .u8) eB (fun l m => strEq (strOf l) (strOf m))) :=
  con (lps := noLps) mixed .nil Try.func18 (by kernel_rfl) (by kernel_rfl) (noLoops (by kernel_rfl)) (k2 (fun _ _ => by kernel_rfl))
section
variable (sl : List Int → List Int) (l : List Int)
def opBad : Bool := !strEq (strOf (sl (List.take (Fx.openN l).toNat l))) (strOf l)
def opQ : List Prop := [decide (Fx.openN l < 0) = false → 0 ≤ Fx.openN l ∧ Fx.openN l ≤ (l.length : Int), decide (Fx.openN l < 0) = false → (List.take (Fx.openN l).toNat l).length ≤ 65536, decide (Fx.openN l < 0) = false → opBad sl l = false → 0 ≤ Fx.openN l ∧ Fx.openN l ≤ (l.length : Int), decide (Fx.openN l < 0) = false → opBad sl l = false → (List.take (Fx.openN l).toNat l).length * 1 ≤ 140737488355328]
def opU : List Int × Int := (bif decide (Fx.openN l < 0) then [] else bif opBad sl l then [] else List.take (Fx.openN l).toNat l, bif decide (Fx.openN l < 0) then 4 else bif opBad sl l then 22 else 0)
theorem opEq : symFn Try.prog (tbl [(10, still (p1 (eSl .u8) (eFr 5 .u8) (fun l => [l.length ≤ 65536]) sl))]) noLps 11 [(eSl .u8).pv l] = some (opQ sl l, eOpn.pv (opU sl l)) := by kernel_rfl
end
theorem opQ_ok (l : List Int) (h : l.length ≤ 65536) : Conj (opQ Fx.sld l) := by
  have e : Fx.openN l = (l.length : Int) - 4 := Fx.w64_id (by omega) (by omega)
  unfold opQ
  rw [e]
  have ht : (List.take ((l.length : Int) - 4).toNat l).length ≤ 65536 := Nat.le_trans (List.length_take_le _ _) (by omega)
  exact ⟨fun h1 => ⟨by have := of_decide_eq_false h1; omega, by omega⟩, fun _ => ht, fun h1 _ => ⟨by have := of_decide_eq_false h1; omega, by omega⟩, fun _ _ => by omega, trivial⟩
theorem cOpn : Sound Try.prog 11 (p1 (eSl .u8) eOpn (fun l => [l.length ≤ 65536]) Fx.opn) :=
  con (lps := noLps) mixed (AllSound.cons cSldS .nil) Try.func11 (by kernel_rfl) (by kernel_rfl) (noLoops (by kernel_rfl)) (g1 (fun l => opQ Fx.sld l) (fun l => opU Fx.sld l) (fun l h => opQ_ok l h.1) (fun _ _ => rfl) (fun l => opEq Fx.sld l))
section
variable (sl : List Int → List Int) (eq : List Int → List Int → Bool) (l : List Int)
def roBad : Bool := !eq (sl (List.take (Fx.openN l).toNat l)) l
def roQ : List Prop := [decide ((l.length : Int) < 4) = false → 0 ≤ Fx.openN l ∧ Fx.openN l ≤ (l.length : Int), decide ((l.length : Int) < 4) = false → (List.take (Fx.openN l).toNat l).length ≤ 65536, decide ((l.length : Int) < 4) = false → roBad sl eq l = false → 0 ≤ Fx.openN l ∧ Fx.openN l ≤ (l.length : Int), decide ((l.length : Int) < 4) = false → roBad sl eq l = false → (0 + (List.take (Fx.openN l).toNat l).length) * 1 ≤ 140737488355328]
def roU : List Int × Int := (bif decide ((l.length : Int) < 4) then [] else bif roBad sl eq l then [] else [] ++ List.take (Fx.openN l).toNat l, bif decide ((l.length : Int) < 4) then 4 else bif roBad sl eq l then 22 else 0)
theorem roEq : symFn Try.prog (tbl [(19, still (p1 (eSl .u8) (eFr 5 .u8) (fun l => [l.length ≤ 65536]) sl)), (18, c2 (eSl .u8) (eSl .u8) eB eq)]) noLps 20 [(eSl .u8).pv l] = some (roQ sl eq l, eOpn.pv (roU sl eq l)) := by kernel_rfl
end
theorem roQ_ok (l : List Int) (h : l.length ≤ 65536) : Conj (roQ Fx.sld (fun l m => strEq (strOf l) (strOf m)) l) := by
  have e : Fx.openN l = (l.length : Int) - 4 := Fx.w64_id (by omega) (by omega)
  unfold roQ
  rw [e]
  have ht : (List.take ((l.length : Int) - 4).toNat l).length ≤ 65536 := Nat.le_trans (List.length_take_le _ _) (by omega)
  exact ⟨fun h1 => ⟨by have := of_decide_eq_false h1; omega, by omega⟩, fun _ => ht, fun h1 _ => ⟨by have := of_decide_eq_false h1; omega, by omega⟩, fun _ _ => by omega, trivial⟩
theorem rOpn : Sound Try.prog 20 (p1 (eSl .u8) eOpn (fun l => [l.length ≤ 65536]) Fx.opn) :=
  con (lps := noLps) mixed (AllSound.cons rSldS (.cons rBeq .nil)) Try.func20 (by kernel_rfl) (by kernel_rfl) (noLoops (by kernel_rfl)) (g1 (fun l => roQ Fx.sld (fun l m => strEq (strOf l) (strOf m)) l) (fun l => roU Fx.sld (fun l m => strEq (strOf l) (strOf m)) l) (fun l h => roQ_ok l h.1) (fun l h => Fx.opnR_eq l h.1) (fun l => roEq Fx.sld (fun l m => strEq (strOf l) (strOf m)) l))
end Go.Proofs.Ytleooijgkdllfaa
