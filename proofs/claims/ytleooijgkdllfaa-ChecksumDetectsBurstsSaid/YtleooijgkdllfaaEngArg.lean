/- THE ENGINE, PART 23: the arguments of the laws on joints. -/
import Derived.Test.YtleooijgkdllfaaEngSol
namespace Go.Fx
structure Ar where
  j : Joint
  a : Bd
  b : Bd
  ia : Int
  ib : Int
  s : List Sb
  dt : Int
end Go.Fx
namespace Go.Eng
open Go
theorem AllLf.split : ∀ {xs ys : List Lf} {l : List Cell}, AllLf (xs ++ ys) l → ∃ l1 l2, l = l1 ++ l2 ∧ AllLf xs l1 ∧ AllLf ys l2
  | [], ys, l, h => ⟨[], l, rfl, rfl, h⟩
  | x :: xs, ys, l, h => by
    obtain ⟨c, r, rfl, h1, h2⟩ := h
    obtain ⟨l1, l2, rfl, h3, h4⟩ := AllLf.split h2
    exact ⟨c :: l1, l2, rfl, ⟨c, l1, rfl, h1, h3⟩, h4⟩
theorem AllLf.len : ∀ {xs : List Lf} {l : List Cell}, AllLf xs l → l.length = xs.length
  | [], l, h => by cases h; rfl
  | x :: xs, l, h => by
    obtain ⟨c, r, rfl, _, h2⟩ := h
    simp [AllLf.len h2]
def appDec {α β : Type} (a : CEnc α) (b : CEnc β) (l : List Cell) : Option (α × β) := match a.dec (l.take a.lfs.length), b.dec (l.drop a.lfs.length) with
  | some x, some y => some (x, y)
  | _, _ => none
theorem appDec_ok {α β : Type} (a : CEnc α) (b : CEnc β) (l : List Cell) (x : α × β) (hx : appDec a b l = some x) : l = a.cells x.1 ++ b.cells x.2 := by
  unfold appDec at hx
  split at hx
  · rename_i y z h1 h2
    cases hx
    rw [← a.ok _ _ h1, ← b.ok _ _ h2, List.take_append_drop]
  · cases hx
theorem appDec_tot {α β : Type} (a : CEnc α) (b : CEnc β) (l : List Cell) (hl : AllLf (a.lfs ++ b.lfs) l) : ∃ x, appDec a b l = some x := by
  obtain ⟨l1, l2, rfl, h1, h2⟩ := hl.split
  obtain ⟨x, hx⟩ := a.tot l1 h1
  obtain ⟨y, hy⟩ := b.tot l2 h2
  refine ⟨(x, y), ?_⟩
  unfold appDec
  rw [← h1.len, List.take_left, List.drop_left, hx, hy]
def CEnc.app {α β : Type} (a : CEnc α) (b : CEnc β) : CEnc (α × β) := ⟨appDec a b, fun x => a.cells x.1 ++ b.cells x.2, a.lfs ++ b.lfs, appDec_ok a b, appDec_tot a b⟩
def arE : CEnc (Int × Int × List Fx.Sb × Int × Unit) := cInt.cons (cInt.cons ((cSl .sb).cons (cInt.cons cEnd)))
def arC := jC.app (bdC.app (bdC.app arE))
def arF : (Int × Int × Int × Int × Int × Int × Int × Int × Int × Int × Int × Bool × Int × Int × Bool × Int × Int × Int × Int × Bool × Int × Int × Int × Int × Unit) × (Int × Int × Int × Int × Int × Int × Int × Int × Int × Int × Int × Int × Int × Int × Bool × Bool × Bool × Bool × Int × List Fx.Fix × Unit) × (Int × Int × Int × Int × Int × Int × Int × Int × Int × Int × Int × Int × Int × Int × Bool × Bool × Bool × Bool × Int × List Fx.Fix × Unit) × (Int × Int × List Fx.Sb × Int × Unit) → Fx.Ar :=
  fun x => ⟨jF x.1, bdF x.2.1, bdF x.2.2.1, x.2.2.2.1, x.2.2.2.2.1, x.2.2.2.2.2.1, x.2.2.2.2.2.2.1⟩
def arG (x : Fx.Ar) : List Cell := jG x.j ++ (bdG x.a ++ (bdG x.b ++ [.int .i64 x.ia, .int .i64 x.ib, .slc false ⟨.sb, x.s⟩, .int .i64 x.dt]))
theorem arFG : ∀ x, arG (arF x) = arC.cells x := fun _ => rfl
def arOf (cs : List Cell) : Option Fx.Ar := (arC.dec cs).map arF
theorem arOf_eq {cs : List Cell} {x : Fx.Ar} (h : arOf cs = some x) : cs = arG x := by
  unfold arOf at h
  cases e : arC.dec cs with
  | none => rw [e] at h; cases h
  | some y => rw [e] at h; cases h; rw [arFG]; exact arC.ok _ _ e
def eAr : Enc Fx.Ar := arC.enc arF arG arFG
theorem args_Ar {P : Program} {D : Nat} {t : TypeId} {ts : List TypeId} {vs : List PV} (ha : isAggT P t = true) (hl : leafs P D t = arC.lfs) (h : ArgsAre P D (t :: ts) vs) : ∃ v rest, vs = eAr.pv v :: rest ∧ ArgsAre P D ts rest := args_enc arC arF arG arFG ha hl h
theorem args_Slrow {P : Program} {D : Nat} {t : TypeId} {ts : List TypeId} {vs : List PV} (ha : isAggT P t = false) (hl : leafs P D t = [.slc .row]) (h : ArgsAre P D (t :: ts) vs) : ∃ (v : List (K.Ty .row)) (rest : _), vs = (eSl .row).pv v :: rest ∧ ArgsAre P D ts rest := by
  obtain ⟨l, r, h1, _, h2⟩ := args_Sl .row ha hl h
  exact ⟨l, r, h1, h2⟩
theorem args_Slsb {P : Program} {D : Nat} {t : TypeId} {ts : List TypeId} {vs : List PV} (ha : isAggT P t = false) (hl : leafs P D t = [.slc .sb]) (h : ArgsAre P D (t :: ts) vs) : ∃ (v : List (K.Ty .sb)) (rest : _), vs = (eSl .sb).pv v :: rest ∧ ArgsAre P D ts rest := by
  obtain ⟨l, r, h1, _, h2⟩ := args_Sl .sb ha hl h
  exact ⟨l, r, h1, h2⟩
theorem args_Sli64 {P : Program} {D : Nat} {t : TypeId} {ts : List TypeId} {vs : List PV} (ha : isAggT P t = false) (hl : leafs P D t = [.slc .i64]) (h : ArgsAre P D (t :: ts) vs) : ∃ (v : List (K.Ty .i64)) (rest : _), vs = (eSl .i64).pv v :: rest ∧ ArgsAre P D ts rest := by
  obtain ⟨l, r, h1, _, h2⟩ := args_Sl .i64 ha hl h
  exact ⟨l, r, h1, h2⟩
theorem args_Slcp {P : Program} {D : Nat} {t : TypeId} {ts : List TypeId} {vs : List PV} (ha : isAggT P t = false) (hl : leafs P D t = [.slc .cp]) (h : ArgsAre P D (t :: ts) vs) : ∃ (v : List (K.Ty .cp)) (rest : _), vs = (eSl .cp).pv v :: rest ∧ ArgsAre P D ts rest := by
  obtain ⟨l, r, h1, _, h2⟩ := args_Sl .cp ha hl h
  exact ⟨l, r, h1, h2⟩
end Go.Eng
