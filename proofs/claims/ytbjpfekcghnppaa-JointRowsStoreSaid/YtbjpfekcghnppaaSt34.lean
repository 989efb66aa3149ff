/- The first loop of JointRowsStore, and plain laws of its rows and slots. -/
import Derived.Test.YtbjpfekcghnppaaJrw
import Derived.Test.YtbjpfekcghnppaaEngPl
open Go Go.Eng
namespace Go.Proofs.Ytbjpfekcghnppaa
open Go.Fx (an orr)

noncomputable def staL : List (FuncId × Contract) := []
def staTv (_c : (List Int) × (List Fx.Row) × (Fx.Ar)) (i : Nat) (_x : (List Fx.Row)) : List TV := [.val (.fv (.one (.ref 0 0))), .val (Bo false), .val (.fv (.one (.own 24))), .val (.fv (.one (.own 32))), .val (I (i : Int))]
def staMv (c : (List Int) × (List Fx.Row) × (Fx.Ar)) (_i : Nat) (x : (List Fx.Row)) : List MRes := [.val (.blk 36 (arG c.2.2)), .val (.row 44 ⟨.row, x⟩), .val (.row 3 ⟨.i64, c.1⟩)]
def staDec : List TV → List MRes → Option (List Prop × ((List Int) × (List Fx.Row) × (Fx.Ar)) × ((List Fx.Row)))
  | [.val (.fv (.one (.ref 0 0))), .val (Bo b), .val (.fv (.one (.own 24))), .val (.fv (.one (.own 32))), .val (I i)], [.val (.blk 36 ys), .val (.row 44 ⟨.row, r⟩), .val (.row 3 ⟨.i64, l⟩)] => (match arOf ys with
    | some y => some ([b = false, i = 0, Fx.SlOk l ∧ r.length = l.length], (l, r, y), r)
    | _ => none)
  | _, _ => none
def staOk (c : (List Int) × (List Fx.Row) × (Fx.Ar)) : Prop := Fx.SlOk c.1 ∧ c.2.1.length = c.1.length
def staInv (c : (List Int) × (List Fx.Row) × (Fx.Ar)) (_i : Nat) (x : (List Fx.Row)) : Prop := x.length = c.2.1.length
theorem staDec_ok (ts : List TV) (ms : List MRes) (ps : List Prop) (c : (List Int) × (List Fx.Row) × (Fx.Ar)) (x : (List Fx.Row)) (h : staDec ts ms = some (ps, c, x)) (hp : Conj ps) : ts = staTv c 0 x ∧ ms = staMv c 0 x ∧ staOk c ∧ staInv c 0 x := by
  unfold staDec at h
  split at h
  · split at h
    · rename_i y ey
      have ey := arOf_eq ey
      cases h
      subst ey
      obtain ⟨rfl, rfl, hok, _⟩ := hp
      exact ⟨rfl, rfl, hok, rfl⟩
    · cases h
  · cases h
def staStep (_c : (List Int) × (List Fx.Row) × (Fx.Ar)) (i : Nat) (x : (List Fx.Row)) : (List Fx.Row) := ((x.set i ((x.getD i Fx.row0).wim (Fx.w64 (100 + (i : Int))))))
def staV (c : (List Int) × (List Fx.Row) × (Fx.Ar)) (i : Nat) (x : (List Fx.Row)) : VT := VT.ite (decide ((i : Int) < (x.length : Int))) (VT.pre [0 ≤ (i : Int) ∧ (i : Int) < (x.length : Int), i < x.length] (VT.leaf Ex.norm 119 [.val (.fv (.one (.ref 0 0))), .val (Bo false), .val (.fv (.one (.own 24))), .val (.fv (.one (.own 32))), .val (I (IntKind.i64.wrap ((i : Int) + 1)))] [.val (.blk 36 (arG c.2.2)), .val (.row 44 ⟨.row, (x.set i ((x.getD i Fx.row0).wim (Fx.w64 (100 + (i : Int)))))⟩), .val (.row 3 ⟨.i64, c.1⟩)])) (VT.leaf (Ex.exit 0) 119 [.val (.fv (.one (.ref 0 0))), .val (Bo false), .val (.fv (.one (.own 24))), .val (.fv (.one (.own 32))), .val (I (i : Int))] [.val (.blk 36 (arG c.2.2)), .val (.row 44 ⟨.row, x⟩), .val (.row 3 ⟨.i64, c.1⟩)])
theorem staV_eq (c : (List Int) × (List Fx.Row) × (Fx.Ar)) (i : Nat) (x : (List Fx.Row)) : viewT [1, 2, 3, 4, 5] [0, 24, 32] (sexec Try.prog (tbl staL) (noLps) (lbN 0 Try.f3) (headSt 119 45 [1, 2, 3, 4, 5] [0, 24, 32] (staTv c i x) (staMv c i x))) = staV c i x := by kernel_rfl
noncomputable def staT : St → Tree := forT0 119 45 [1, 2, 3, 4, 5] [0, 24, 32] staDec (fun c => c.2.1.length) staTv staMv staStep 0
theorem staA : AllSound Try.prog staL := .nil
theorem staLoop : LoopOk Try.prog staT (lbN 0 Try.f3) :=
  forT0_ok mixed staA.tbl (noLoops (by kernel_rfl)) [0, 24, 32] (bn := fun c => True) (inv := staInv) staDec_ok (fun _ _ => ⟨⟨.inr rfl, .inr rfl, .inr rfl, .inr rfl, .inr rfl, trivial⟩, ⟨.inr rfl, .inr rfl, .inr rfl, trivial⟩, rfl, rfl, rfl⟩)
    (fun _ _ _ _ _ _ hr h1 h2 => by
      trivial)
    (fun c i x hok hn hinv hi => ⟨_, staV_eq c i x, by
      refine ⟨fun h => ?_, fun h => ?_⟩
      · have h : i < c.2.1.length := by (have h1 : x.length = c.2.1.length := hinv; have h2 := h; rw [h1] at h2; simpa using h2)
        refine ⟨(have h1 : x.length = c.2.1.length := hinv; ⟨⟨by omega, by omega⟩, by omega, trivial⟩), ?_⟩
        rw [wrap_succ h (by have h1 := hok.1.2; have h2 : c.2.1.length = c.1.length := hok.2; simp only [maxLen]; omega)]
        exact ⟨rfl, ((x.set i ((x.getD i Fx.row0).wim (Fx.w64 (100 + (i : Int)))))), [], h, by unfold staStep; rfl, (by have h1 : x.length = c.2.1.length := hinv; show (x.set _ _).length = _; rw [List.length_set]; exact h1), ⟨.inr rfl, .inr rfl, .inr rfl, .inr rfl, .inr rfl, trivial⟩, ⟨.inr rfl, .inr rfl, .inr rfl, trivial⟩, rfl, rfl, rfl⟩
      · have h : ¬ i < c.2.1.length := by (have h1 : x.length = c.2.1.length := hinv; have h2 := h; rw [h1] at h2; simpa using h2)
        exact ⟨rfl, .inl ⟨rfl, by omega, [], ⟨.inr rfl, .inr rfl, .inr rfl, .inr rfl, .inr rfl, trivial⟩, ⟨.inr rfl, .inr rfl, .inr rfl, trivial⟩, rfl, rfl, rfl⟩⟩⟩)
noncomputable def wntL : List (FuncId × Contract) := []
def wntTv (_c : (List Int) × (Fx.Ar) × (Fx.Joint)) (i : Nat) (_x : (Int) × (Int) × (Int) × (Int)) : List TV := [.val (.fv (.one (.ref 0 0))), .val (Bo false), .val (.fv (.one (.own 32))), .val (.fv (.one (.ref 53 0))), .val (.fv (.one (.ref 55 0))), .val (I (i : Int))]
def wntMv (c : (List Int) × (Fx.Ar) × (Fx.Joint)) (_i : Nat) (x : (Int) × (Int) × (Int) × (Int)) : List MRes := [.val (.blk 36 (arG c.2.1)), .val (.row 3 ⟨.i64, c.1⟩), .val (.blk 27 (K.cells .jnt c.2.2)), .val (.blk 25 [.int .i64 x.1, .int .i64 x.2.1, .int .i64 x.2.2.1, .int .i64 x.2.2.2])]
def wntEtv (_c : (List Int) × (Fx.Ar) × (Fx.Joint)) (_e : Unit) : List TV := [.any, .val (Bo false), .any, .any, .any, .any]
def wntEmv (_c : (List Int) × (Fx.Ar) × (Fx.Joint)) (_e : Unit) : List MRes := [.lost, .lost, .lost, .lost]
def wntDec : List TV → List MRes → Option (List Prop × ((List Int) × (Fx.Ar) × (Fx.Joint)) × ((Int) × (Int) × (Int) × (Int)))
  | [.val (.fv (.one (.ref 0 0))), .val (Bo b), .val (.fv (.one (.own 32))), .val (.fv (.one (.ref 53 0))), .val (.fv (.one (.ref 55 0))), .val (I i)], [.val (.blk 36 ys), .val (.row 3 ⟨.i64, l⟩), .val (.blk 27 zs), .val (.blk 25 [.int .i64 p, .int .i64 q, .int .i64 u, .int .i64 v])] => (match arOf ys, K.of .jnt zs with
    | some y, some z => some ([b = false, i = 0, Fx.SlOk l], (l, y, z), (p, q, u, v))
    | _, _ => none)
  | _, _ => none
def wntOk (c : (List Int) × (Fx.Ar) × (Fx.Joint)) : Prop := Fx.SlOk c.1
def wntInv (_c : (List Int) × (Fx.Ar) × (Fx.Joint)) (_i : Nat) (_x : (Int) × (Int) × (Int) × (Int)) : Prop := True
theorem wntDec_ok (ts : List TV) (ms : List MRes) (ps : List Prop) (c : (List Int) × (Fx.Ar) × (Fx.Joint)) (x : (Int) × (Int) × (Int) × (Int)) (h : wntDec ts ms = some (ps, c, x)) (hp : Conj ps) : ts = wntTv c 0 x ∧ ms = wntMv c 0 x ∧ wntOk c ∧ wntInv c 0 x := by
  unfold wntDec at h
  split at h
  · split at h
    · rename_i y z ey ez
      have ey := arOf_eq ey; have ez := K.of_eq ez
      cases h
      subst ey; subst ez
      obtain ⟨rfl, rfl, hok, _⟩ := hp
      exact ⟨rfl, rfl, hok, trivial⟩
    · cases h
  · cases h
def wntStep (c : (List Int) × (Fx.Ar) × (Fx.Joint)) (i : Nat) (x : (Int) × (Int) × (Int) × (Int)) : Sum ((Int) × (Int) × (Int) × (Int)) (Unit) := bif orr (orr (decide (c.1.getD i 0 < 0)) (decide (c.1.getD i 0 > 3))) ([x.1, x.2.1, x.2.2.1, x.2.2.2].getD (c.1.getD i 0).toNat 0 != 0) then .inr () else .inl ((bif c.1.getD i 0 == ((0 : Nat) : Int) then Fx.w64 (100 + (i : Int)) else x.1), (bif c.1.getD i 0 == ((0 + 1 : Nat) : Int) then Fx.w64 (100 + (i : Int)) else x.2.1), (bif c.1.getD i 0 == ((0 + 1 + 1 : Nat) : Int) then Fx.w64 (100 + (i : Int)) else x.2.2.1), (bif c.1.getD i 0 == ((0 + 1 + 1 + 1 : Nat) : Int) then Fx.w64 (100 + (i : Int)) else x.2.2.2))
def wntV (c : (List Int) × (Fx.Ar) × (Fx.Joint)) (i : Nat) (x : (Int) × (Int) × (Int) × (Int)) : VT := VT.ite (decide ((i : Int) < (c.1.length : Int))) (VT.pre [0 ≤ (i : Int) ∧ (i : Int) < (c.1.length : Int), i < c.1.length, decide (c.1.getD i 0 < 0) = false → 0 ≤ (i : Int) ∧ (i : Int) < (c.1.length : Int), decide (c.1.getD i 0 < 0) = false → i < c.1.length, orr (decide (c.1.getD i 0 < 0)) (decide (c.1.getD i 0 > 3)) = false → 0 ≤ (i : Int) ∧ (i : Int) < (c.1.length : Int), orr (decide (c.1.getD i 0 < 0)) (decide (c.1.getD i 0 > 3)) = false → i < c.1.length, orr (decide (c.1.getD i 0 < 0)) (decide (c.1.getD i 0 > 3)) = false → 0 ≤ c.1.getD i 0 ∧ c.1.getD i 0 < ((4 : Nat) : Int)] (VT.ite (orr (orr (decide (c.1.getD i 0 < 0)) (decide (c.1.getD i 0 > 3))) ([x.1, x.2.1, x.2.2.1, x.2.2.2].getD (c.1.getD i 0).toNat 0 != 0)) (VT.leaf (Ex.ret) 119 [.val (.fv (.one (.ref 0 0))), .val (Bo false), .val (.fv (.one (.own 32))), .val (.fv (.one (.ref 53 0))), .val (.fv (.one (.ref 55 0))), .val (I (i : Int))] [.val (.blk 36 (arG c.2.1)), .val (.row 3 ⟨.i64, c.1⟩), .val (.blk 27 (K.cells .jnt c.2.2)), .val (.blk 25 [.int .i64 x.1, .int .i64 x.2.1, .int .i64 x.2.2.1, .int .i64 x.2.2.2])]) (VT.pre [0 ≤ (i : Int) ∧ (i : Int) < (c.1.length : Int), i < c.1.length, 0 ≤ c.1.getD i 0 ∧ c.1.getD i 0 < ((4 : Nat) : Int)] (VT.leaf Ex.norm 119 [.val (.fv (.one (.ref 0 0))), .val (Bo false), .val (.fv (.one (.own 32))), .val (.fv (.one (.ref 53 0))), .val (.fv (.one (.ref 55 0))), .val (I (IntKind.i64.wrap ((i : Int) + 1)))] [.val (.blk 36 (arG c.2.1)), .val (.row 3 ⟨.i64, c.1⟩), .val (.blk 27 (K.cells .jnt c.2.2)), .val (.blk 25 [.int .i64 (bif c.1.getD i 0 == ((0 : Nat) : Int) then Fx.w64 (100 + (i : Int)) else x.1), .int .i64 (bif c.1.getD i 0 == ((0 + 1 : Nat) : Int) then Fx.w64 (100 + (i : Int)) else x.2.1), .int .i64 (bif c.1.getD i 0 == ((0 + 1 + 1 : Nat) : Int) then Fx.w64 (100 + (i : Int)) else x.2.2.1), .int .i64 (bif c.1.getD i 0 == ((0 + 1 + 1 + 1 : Nat) : Int) then Fx.w64 (100 + (i : Int)) else x.2.2.2)])])))) (VT.leaf (Ex.exit 2) 119 [.val (.fv (.one (.ref 0 0))), .val (Bo false), .val (.fv (.one (.own 32))), .val (.fv (.one (.ref 53 0))), .val (.fv (.one (.ref 55 0))), .val (I (i : Int))] [.val (.blk 36 (arG c.2.1)), .val (.row 3 ⟨.i64, c.1⟩), .val (.blk 27 (K.cells .jnt c.2.2)), .val (.blk 25 [.int .i64 x.1, .int .i64 x.2.1, .int .i64 x.2.2.1, .int .i64 x.2.2.2])])
theorem wntV_eq (c : (List Int) × (Fx.Ar) × (Fx.Joint)) (i : Nat) (x : (Int) × (Int) × (Int) × (Int)) : viewT [1, 2, 4, 6, 7, 8] [0, 32, 53, 55] (sexec Try.prog (tbl wntL) (noLps) (lbN 1 Try.f3) (headSt 119 57 [1, 2, 4, 6, 7, 8] [0, 32, 53, 55] (wntTv c i x) (wntMv c i x))) = wntV c i x := by kernel_rfl
noncomputable def wntT : St → Tree := forT 119 57 [1, 2, 4, 6, 7, 8] [0, 32, 53, 55] wntDec (fun c => c.1.length) wntTv wntMv wntEtv wntEmv wntStep () 2 .ret
theorem wntA : AllSound Try.prog wntL := .nil
theorem wntLoop : LoopOk Try.prog wntT (lbN 1 Try.f3) :=
  forT_ok mixed wntA.tbl (noLoops (by kernel_rfl)) [0, 32, 53, 55] (bn := fun c => True) (inv := wntInv) wntDec_ok (fun _ _ => ⟨⟨.inr rfl, .inr rfl, .inr rfl, .inr rfl, .inr rfl, .inr rfl, trivial⟩, ⟨.inr rfl, .inr rfl, .inr rfl, .inr rfl, trivial⟩, rfl, rfl, rfl⟩)
    (fun _ _ _ _ _ _ hr h1 h2 => by
      trivial)
    (fun c i x hok hn hinv hi => ⟨_, wntV_eq c i x, by
      refine ⟨fun h => ?_, fun h => ?_⟩
      · have h : i < c.1.length := by simpa using h
        refine ⟨⟨⟨by omega, by omega⟩, h, fun _ => ⟨by omega, by omega⟩, fun _ => h, fun _ => ⟨by omega, by omega⟩, fun _ => h, fun _ => Fx.getD_slot hok.1 h, trivial⟩, ?_⟩
        refine ⟨fun hb2 => ?_, fun hb2 => ?_⟩
        · exact ⟨rfl, .inr ⟨rfl, h, (), [], by unfold wntStep; first | rfl | ((try dsimp only); (try rw [hb2]); rfl), ⟨.inl rfl, .inr rfl, .inl rfl, .inl rfl, .inl rfl, .inl rfl, trivial⟩, ⟨.inl rfl, .inl rfl, .inl rfl, .inl rfl, trivial⟩, rfl, rfl, rfl⟩⟩
        · refine ⟨⟨⟨by omega, by omega⟩, h, Fx.getD_slot hok.1 h, trivial⟩, ?_⟩
          rw [wrap_succ h (by have := hok.2; simp only [maxLen]; omega)]
          exact ⟨rfl, ((bif c.1.getD i 0 == ((0 : Nat) : Int) then Fx.w64 (100 + (i : Int)) else x.1), (bif c.1.getD i 0 == ((0 + 1 : Nat) : Int) then Fx.w64 (100 + (i : Int)) else x.2.1), (bif c.1.getD i 0 == ((0 + 1 + 1 : Nat) : Int) then Fx.w64 (100 + (i : Int)) else x.2.2.1), (bif c.1.getD i 0 == ((0 + 1 + 1 + 1 : Nat) : Int) then Fx.w64 (100 + (i : Int)) else x.2.2.2)), [], h, by unfold wntStep; first | rfl | ((try dsimp only); (try rw [hb2]); rfl), trivial, ⟨.inr rfl, .inr rfl, .inr rfl, .inr rfl, .inr rfl, .inr rfl, trivial⟩, ⟨.inr rfl, .inr rfl, .inr rfl, .inr rfl, trivial⟩, rfl, rfl, rfl⟩
      · have h : ¬ i < c.1.length := by simpa using h
        exact ⟨rfl, .inl ⟨rfl, by omega, [], ⟨.inr rfl, .inr rfl, .inr rfl, .inr rfl, .inr rfl, .inr rfl, trivial⟩, ⟨.inr rfl, .inr rfl, .inr rfl, .inr rfl, trivial⟩, rfl, rfl, rfl⟩⟩⟩)
noncomputable def stLps : Nat → St → Tree := fun k => bif Nat.beq k (firstRegion (lbN 0 Try.f3)) then staT else wntT
end Go.Proofs.Ytbjpfekcghnppaa
