/- THE ENGINE, PART 29: contacts and their rows: encodings, plain models. -/
import Derived.Test.YtfjognghjiifaaaGreatEngKick
namespace Go.Fx
open Go.Eng
structure Ct where
  ba : Int
  fa : Int
  bb : Int
  fb : Int
  nx : Int
  ny : Int
  pts : List Cp
/-- What the rows of a contact have in common. -/
structure Pr where
  ia : Int
  ib : Int
  ca : Vec
  cb : Vec
  s : List Sb
def Ct.n (c : Ct) : Vec := ⟨c.nx, c.ny⟩
def cp0 : Cp := ⟨0, 0, 0, 0, 0, 0⟩
def Cp.p (x : Cp) : Vec := ⟨x.px, x.py⟩
def Cp.eqb (a b : Cp) : Bool := a.p.eqb b.p && (a.sep == b.sep && (a.id == b.id && (a.ni == b.ni && (a.ti == b.ti && true))))
theorem Cp.eqb_self (a : Cp) : a.eqb a = true := by simp [Cp.eqb, Vec.eqb_self]
def sqrt1 (x : Int) : Int := isqrt (w64 (sat x * 65536))
def sqrt1R (x : Int) : Int := isqrt (w64 ((if sat x > 0 then sat x else 0) * 65536))
theorem isqrt_neg {n : Int} (h : n < 0) : isqrt n = 0 := by unfold isqrt; rw [if_pos (.inl h)]
theorem sqrt1R_eq (x : Int) : sqrt1R x = sqrt1 x := by
  have hb := sat_bounds x
  unfold sqrt1R sqrt1
  split
  · rfl
  · by_cases h : sat x = 0
    · rw [h]
    · rw [w64_id (n := sat x * 65536) (by omega) (by omega), isqrt_neg (n := sat x * 65536) (by omega)]
      decide +kernel
def fric (a b : Fix) : Int := sqrt1 (mul a.fri b.fri)
def rest (a b : Fix) : Int := if b.res > a.res then b.res else a.res
theorem mul_comm' (a b : Int) : mul a b = mul b a := by unfold mul; rw [Int.mul_comm]
theorem fric_comm (a b : Fix) : fric b a = fric a b := by unfold fric; rw [mul_comm']
theorem rest_comm (a b : Fix) : rest b a = rest a b := by unfold rest; split <;> split <;> omega
def crow (p : Pr) (pt d : Vec) : Row :=
  ⟨p.ia, p.ib, d.x, d.y, vcross (vsub pt p.ca) d, vcross (vsub pt p.cb) d, eff ⟨p.ia, p.ib, d.x, d.y, vcross (vsub pt p.ca) d, vcross (vsub pt p.cb) d, 0, 0, 0, 0, 0, 0, -1, 0⟩ p.s, 0, 0, 0, 0, 0, -1, 0⟩
def cmin (x y : Int) : Int := if y < x then y else x
def cbias (p : Pr) (r : Row) (sep re dt : Int) : Int :=
  bif decide (sep ≥ 0) then (bif decide (relV r p.s < -65536) then cmin (div sep dt) (mul re (relV r p.s)) else div sep dt)
  else bif decide (relV r p.s < -65536) then cmin (cmin 0 (corr (add sep 512) dt)) (mul re (relV r p.s)) else cmin 0 (corr (add sep 512) dt)
end Go.Fx
namespace Go.Eng
open Go
def ctC : CEnc (Int × Int × Int × Int × Int × Int × List Fx.Cp × Unit) := cInt.cons (cInt.cons (cInt.cons (cInt.cons (cInt.cons (cInt.cons ((cSl .cp).cons cEnd))))))
def ctF : Int × Int × Int × Int × Int × Int × List Fx.Cp × Unit → Fx.Ct := fun x => ⟨x.1, x.2.1, x.2.2.1, x.2.2.2.1, x.2.2.2.2.1, x.2.2.2.2.2.1, x.2.2.2.2.2.2.1⟩
def ctG (x : Fx.Ct) : List Cell := [.int .i64 x.ba, .int .i64 x.fa, .int .i64 x.bb, .int .i64 x.fb, .int .i64 x.nx, .int .i64 x.ny, .slc false ⟨.cp, x.pts⟩]
theorem ctFG : ∀ x, ctG (ctF x) = ctC.cells x := fun _ => rfl
def eCt : Enc Fx.Ct := ctC.enc ctF ctG ctFG
/-- A contact whose points are new, returned. -/
def eCtT : Enc Fx.Ct := ⟨fun _ => none, fun x => .fv (.agg ((ctG x).dropLast ++ [.slc true ⟨.cp, x.pts⟩])), fun _ _ h => nomatch h⟩
theorem args_Ct {P : Program} {D : Nat} {t : TypeId} {ts : List TypeId} {vs : List PV} (ha : isAggT P t = true) (hl : leafs P D t = ctC.lfs) (h : ArgsAre P D (t :: ts) vs) : ∃ v rest, vs = eCt.pv v :: rest ∧ ArgsAre P D ts rest := args_enc ctC ctF ctG ctFG ha hl h
theorem args_Fx {P : Program} {D : Nat} {t : TypeId} {ts : List TypeId} {vs : List PV} (ha : isAggT P t = true) (hl : leafs P D t = fxC.lfs) (h : ArgsAre P D (t :: ts) vs) : ∃ v rest, vs = eFx.pv v :: rest ∧ ArgsAre P D ts rest := args_enc fxC fxF fxG fxFG ha hl h
def prC : CEnc (Int × Int × Int × Int × Int × Int × List Fx.Sb × Unit) := cInt.cons (cInt.cons (cInt.cons (cInt.cons (cInt.cons (cInt.cons ((cSl .sb).cons cEnd))))))
def prF : Int × Int × Int × Int × Int × Int × List Fx.Sb × Unit → Fx.Pr := fun x => ⟨x.1, x.2.1, ⟨x.2.2.1, x.2.2.2.1⟩, ⟨x.2.2.2.2.1, x.2.2.2.2.2.1⟩, x.2.2.2.2.2.2.1⟩
def prG (x : Fx.Pr) : List Cell := [.int .i64 x.ia, .int .i64 x.ib, .int .i64 x.ca.x, .int .i64 x.ca.y, .int .i64 x.cb.x, .int .i64 x.cb.y, .slc false ⟨.sb, x.s⟩]
theorem prFG : ∀ x, prG (prF x) = prC.cells x := fun _ => rfl
def ePr : Enc Fx.Pr := prC.enc prF prG prFG
/-- A fixture and whether it is there, returned. -/
def eFxB : Enc (Fx.Fix × Bool) := ⟨fun _ => none, fun x => .tup [.agg [.int .i64 x.1.kind, .int .i64 x.1.radius, .unk, .int .i64 x.1.den, .int .i64 x.1.fri, .int .i64 x.1.res, .bool x.1.sen, .int .i64 x.1.cat, .int .i64 x.1.mask, .int .i64 x.1.grp], .one (.bool x.2)], fun _ _ h => nomatch h⟩
/-- A point of a contact, an argument. -/
def cpC : CEnc (Int × Int × Int × Int × Int × Int × Unit) := cInt.cons (cInt.cons (cInt.cons (cInt.cons (cInt.cons (cInt.cons cEnd)))))
def cpF : Int × Int × Int × Int × Int × Int × Unit → Fx.Cp := fun x => ⟨x.1, x.2.1, x.2.2.1, x.2.2.2.1, x.2.2.2.2.1, x.2.2.2.2.2.1⟩
def cpG (x : Fx.Cp) : List Cell := [.int .i64 x.px, .int .i64 x.py, .int .i64 x.sep, .int .i64 x.id, .int .i64 x.ni, .int .i64 x.ti]
theorem cpFG : ∀ x, cpG (cpF x) = cpC.cells x := fun _ => rfl
def eCp : Enc Fx.Cp := cpC.enc cpF cpG cpFG
end Go.Eng
namespace Go.Fx
open Go.Eng
def Fix.sel (c : Bool) (a b : Fix) : Fix := ⟨bif c then a.kind else b.kind, bif c then a.radius else b.radius, bif c then a.vs else b.vs, bif c then a.den else b.den, bif c then a.fri else b.fri, bif c then a.res else b.res, bif c then a.sen else b.sen, bif c then a.cat else b.cat, bif c then a.mask else b.mask, bif c then a.grp else b.grp⟩
def fxOut (b : Bd) (i : Int) : Bool := orr (decide (i < 0)) (decide (i ≥ (b.fixtures.length : Int)))
def fix0 : Fix := ⟨0, 0, [], 0, 0, 0, false, 0, 0, 0⟩
def fxAt (b : Bd) (i : Int) : Fix × Bool := (Fix.sel (fxOut b i) fix0 (b.fixtures.getD i.toNat fix0), bif fxOut b i then false else true)
def fxHas (b : Bd) (i : Int) : Bool := an (decide (i ≥ 0)) (decide (i < (b.fixtures.length : Int)))
theorem fxOut_no {b : Bd} {i : Int} (h : fxOut b i = false) : 0 ≤ i ∧ i < b.fixtures.length := by
  unfold fxOut at h
  obtain ⟨h1, h2⟩ := of_orr h
  have := of_decide_eq_false h1; have := of_decide_eq_false h2
  omega
def fxtQ (b : Bd) (i : Int) : List Prop := [fxOut b i = false → 0 ≤ i ∧ i < (b.fixtures.length : Int)]
theorem fxtQ_ok (b : Bd) (i : Int) : Conj (fxtQ b i) := ⟨fxOut_no, trivial⟩
theorem fxHas_eq (b : Bd) (i : Int) : fxHas b i = !fxOut b i := by
  unfold fxHas fxOut an orr
  by_cases h1 : i < 0
  · simp [h1, Int.not_le.2 h1]
  · by_cases h2 : i < (b.fixtures.length : Int)
    · simp [h1, Int.not_lt.1 h1, h2, Int.not_le.2 h2]
    · simp [h1, Int.not_lt.1 h1, h2, Int.not_lt.1 h2]
def crow0 (ia ib : Int) (ca cb : Vec) (s : List Sb) (pt d : Vec) : Row := ⟨ia, ib, d.x, d.y, vcross (vsub pt ca) d, vcross (vsub pt cb) d, eff ⟨ia, ib, d.x, d.y, vcross (vsub pt ca) d, vcross (vsub pt cb) d, 0, 0, 0, 0, 0, 0, 0, 0⟩ s, 0, 0, 0, 0, 0, 0, 0⟩
end Go.Fx
namespace Go.Eng
open Go
/-- A fixture whose vertices may be of unknown origin ('true': unknown). -/
def fxW (x : Fx.Fix × Bool) : List Cell := [.int .i64 x.1.kind, .int .i64 x.1.radius, bif x.2 then .unk else .slc false ⟨.vec, x.1.vs⟩, .int .i64 x.1.den, .int .i64 x.1.fri, .int .i64 x.1.res, .bool x.1.sen, .int .i64 x.1.cat, .int .i64 x.1.mask, .int .i64 x.1.grp]
def fxWD : PV → Option (Fx.Fix × Bool)
  | .fv (.agg [.int .i64 a, .int .i64 b, .unk, .int .i64 c, .int .i64 d, .int .i64 e, .bool f, .int .i64 g, .int .i64 h, .int .i64 i]) => some (⟨a, b, [], c, d, e, f, g, h, i⟩, true)
  | p => (eFx.dec p).map fun x => (x, false)
theorem fxWD_ok (p : PV) (x : Fx.Fix × Bool) (h : fxWD p = some x) : p = .fv (.agg (fxW x)) := by
  unfold fxWD at h
  split at h
  · cases h; rfl
  · cases hd : eFx.dec p with
    | none => rw [hd] at h; cases h
    | some y =>
      rw [hd] at h
      cases h
      exact eFx.ok _ _ hd
def eFxW : Enc (Fx.Fix × Bool) := ⟨fxWD, fun x => .fv (.agg (fxW x)), fxWD_ok⟩
end Go.Eng
namespace Go.Fx
open Go.Eng
def nnBad (r : Row) : Bool := an (an (r.lo == 0) (r.up == 536870911)) (decide (r.im < 0))
def nonNeg (l : List Row) : Bool := bif isL (runF (fun i (_ : Unit) => bif nnBad (l.getD i row0) then Sum.inr () else Sum.inl ()) l.length 0 ()) then true else false
def rimp (l : List Row) (i p : Int) : Int := bif outOf l i then p else (rowAt l i).im
def rimpQ (l : List Row) (i _p : Int) : List Prop := [outOf l i = false → 0 ≤ i ∧ i < (l.length : Int)]
theorem rimpQ_ok (l : List Row) (i p : Int) : Conj (rimpQ l i p) := ⟨outOf_false, trivial⟩
end Go.Fx
namespace Go.Fx
open Go.Eng
section
variable (row : Pr → Vec → Vec → Row) (bia : Pr → Row → Int → Int → Int → Int)
def cnrmG (p : Pr) (n : Vec) (re dt : Int) (x : Cp) : Row :=
  ⟨(row p x.p n).a, (row p x.p n).b, (row p x.p n).nx, (row p x.p n).ny, (row p x.p n).aa, (row p x.p n).ab, (row p x.p n).em,
    bia p ⟨(row p x.p n).a, (row p x.p n).b, (row p x.p n).nx, (row p x.p n).ny, (row p x.p n).aa, (row p x.p n).ab, (row p x.p n).em, (row p x.p n).bi, (row p x.p n).lo, 536870911, (row p x.p n).so, x.ni, (row p x.p n).fo, (row p x.p n).fr⟩ x.sep re dt,
    (row p x.p n).lo, 536870911, (row p x.p n).so, x.ni, (row p x.p n).fo, (row p x.p n).fr⟩
def csideG (p : Pr) (t : Vec) (fo fr : Int) (x : Cp) : Row :=
  ⟨(row p x.p t).a, (row p x.p t).b, (row p x.p t).nx, (row p x.p t).ny, (row p x.p t).aa, (row p x.p t).ab, (row p x.p t).em, (row p x.p t).bi, (row p x.p t).lo, (row p x.p t).up, (row p x.p t).so, x.ti, fo, fr⟩
end
def cnrm := cnrmG crow cbias
def cside := csideG crow
end Go.Fx
namespace Go.Fx
open Go.Eng
def Cp.wni (x : Cp) (v : Int) : Cp := ⟨x.px, x.py, x.sep, x.id, v, x.ti⟩
def Cp.wti (x : Cp) (v : Int) : Cp := ⟨x.px, x.py, x.sep, x.id, x.ni, v⟩
def stFst (b : Int) (i : Nat) : Int := w64 (b + w64 (2 * (i : Int)))
def st1 (l : List Row) (b : Int) (i : Nat) (q : List Cp) : List Cp := q.set i ((q.getD i cp0).wni (rimp l (stFst b i) (q.getD i cp0).ni))
def st2 (l : List Row) (b : Int) (i : Nat) (q : List Cp) : List Cp := (st1 l b i q).set i (((st1 l b i q).getD i cp0).wti (rimp l (w64 (stFst b i + 1)) ((st1 l b i q).getD i cp0).ti))
theorem st1_len (l : List Row) (b : Int) (i : Nat) (q : List Cp) : (st1 l b i q).length = q.length := List.length_set ..
theorem st2_len (l : List Row) (b : Int) (i : Nat) (q : List Cp) : (st2 l b i q).length = q.length := by unfold st2; rw [List.length_set, st1_len]
end Go.Fx
