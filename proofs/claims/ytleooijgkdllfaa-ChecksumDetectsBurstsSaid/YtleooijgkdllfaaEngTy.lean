/- THE ENGINE, PART 0: the records of the program, and rows of them. -/
import Derived.WalkKit
import Derived.WalkSpells
import Derived.WalkLawsBesides
namespace Go.Fx
structure Vec where
  x : Int
  y : Int
/-- Mass data. -/
structure Md where
  m : Int
  cx : Int
  cy : Int
  i : Int
/-- A solver body; a triangle of a fan too. -/
structure Sb where
  vx : Int
  vy : Int
  w : Int
  im : Int
  ii : Int
structure Row where
  a : Int
  b : Int
  nx : Int
  ny : Int
  aa : Int
  ab : Int
  em : Int
  bi : Int
  lo : Int
  up : Int
  so : Int
  im : Int
  fo : Int
  fr : Int
structure Fix where
  kind : Int
  radius : Int
  vs : List Vec
  den : Int
  fri : Int
  res : Int
  sen : Bool
  cat : Int
  mask : Int
  grp : Int
/-- A point of a contact. -/
structure Cp where
  px : Int
  py : Int
  sep : Int
  id : Int
  ni : Int
  ti : Int
structure Joint where
  id : Int
  kind : Int
  ba : Int
  bb : Int
  ax : Int
  ay : Int
  bx : Int
  bby : Int
  ux : Int
  uy : Int
  ra : Int
  el : Bool
  lo : Int
  up : Int
  em : Bool
  ms : Int
  mf : Int
  so : Int
  br : Int
  cc : Bool
  i0 : Int
  i1 : Int
  i2 : Int
  i3 : Int
structure Bd where
  id : Int
  kind : Int
  px : Int
  py : Int
  pa : Int
  vx : Int
  vy : Int
  w : Int
  fx : Int
  fy : Int
  tq : Int
  ld : Int
  ad : Int
  gs : Int
  bullet : Bool
  fixed : Bool
  nosleep : Bool
  asleep : Bool
  idle : Int
  fixtures : List Fix
end Go.Fx
namespace Go.Eng
open Go.RowKit

/-- The kinds of elements that a slice may have. -/
inductive K where
  | i64
  | u8
  | bl
  | vec
  | md
  | sb
  | row
  | fix
  | cp
  | jnt
  | bd
  | ssb

def K.Ty : K → Type
  | .i64 => Int
  | .u8 => Int
  | .bl => Bool
  | .vec => Fx.Vec
  | .md => Fx.Md
  | .sb => Fx.Sb
  | .row => Fx.Row
  | .fix => Fx.Fix
  | .cp => Fx.Cp
  | .jnt => Fx.Joint
  | .bd => Fx.Bd
  | .ssb => List Fx.Sb

def K.dflt : (k : K) → k.Ty
  | .i64 => (0 : Int)
  | .u8 => (0 : Int)
  | .bl => false
  | .vec => (⟨0, 0⟩ : Fx.Vec)
  | .md => (⟨0, 0, 0, 0⟩ : Fx.Md)
  | .sb => (⟨0, 0, 0, 0, 0⟩ : Fx.Sb)
  | .row => (⟨0, 0, 0, 0, 0, 0, 0, 0, 0, 0, 0, 0, 0, 0⟩ : Fx.Row)
  | .fix => (⟨0, 0, [], 0, 0, 0, false, 0, 0, 0⟩ : Fx.Fix)
  | .cp => (⟨0, 0, 0, 0, 0, 0⟩ : Fx.Cp)
  | .jnt => (⟨0, 0, 0, 0, 0, 0, 0, 0, 0, 0, 0, false, 0, 0, false, 0, 0, 0, 0, false, 0, 0, 0, 0⟩ : Fx.Joint)
  | .bd => (⟨0, 0, 0, 0, 0, 0, 0, 0, 0, 0, 0, 0, 0, 0, false, false, false, false, 0, []⟩ : Fx.Bd)
  | .ssb => ([] : List Fx.Sb)

/-- How many cells an element has. -/
def K.sz : K → Nat
  | .i64 => 1
  | .u8 => 1
  | .bl => 1
  | .vec => 2
  | .md => 4
  | .sb => 5
  | .row => 14
  | .fix => 10
  | .cp => 6
  | .jnt => 24
  | .bd => 20
  | .ssb => 1

def K.flat : K → Bool
  | .fix => false
  | .bd => false
  | .ssb => false
  | _ => true

/-- What a slice holds. -/
structure SL where
  k : K
  l : List k.Ty

def SL.len (m : SL) : Nat := m.l.length
def SL.sz (m : SL) : Nat := m.k.sz

/-- One cell of memory, symbolically. 'slc': a slice that is only read ('true': made by a call of this call); 'own': a slice of the call's own; 'unk': one cell of which nothing is known; 'aref': element i of an array of numbers in a block of the call's own; 'fresh': a new slice that a call hands back. -/
inductive Cell where
  | int (k : IntKind) (n : Int)
  | bool (b : Bool)
  | ref (id off : Nat)
  | raw (v : Value)
  | slc (nw : Bool) (m : SL)
  | rp (m : SL) (i off : Nat)
  | own (id : Nat)
  | orp (id sz i off : Nat)
  | aref (id off n : Nat) (i : Int)
  | unk
  | fresh (e : TypeId) (m : SL)

def K.cells : (k : K) → k.Ty → List Cell
  | .i64, (n : Int) => [.int .i64 n]
  | .u8, (n : Int) => [.int .u8 n]
  | .bl, (b : Bool) => [.bool b]
  | .vec, (v : Fx.Vec) => [.int .i64 v.x, .int .i64 v.y]
  | .md, (v : Fx.Md) => [.int .i64 v.m, .int .i64 v.cx, .int .i64 v.cy, .int .i64 v.i]
  | .sb, (v : Fx.Sb) => [.int .i64 v.vx, .int .i64 v.vy, .int .i64 v.w, .int .i64 v.im, .int .i64 v.ii]
  | .row, (v : Fx.Row) => [.int .i64 v.a, .int .i64 v.b, .int .i64 v.nx, .int .i64 v.ny, .int .i64 v.aa, .int .i64 v.ab, .int .i64 v.em, .int .i64 v.bi, .int .i64 v.lo, .int .i64 v.up, .int .i64 v.so, .int .i64 v.im, .int .i64 v.fo, .int .i64 v.fr]
  | .fix, (v : Fx.Fix) => [.int .i64 v.kind, .int .i64 v.radius, .slc false ⟨.vec, v.vs⟩, .int .i64 v.den, .int .i64 v.fri, .int .i64 v.res, .bool v.sen, .int .i64 v.cat, .int .i64 v.mask, .int .i64 v.grp]
  | .cp, (v : Fx.Cp) => [.int .i64 v.px, .int .i64 v.py, .int .i64 v.sep, .int .i64 v.id, .int .i64 v.ni, .int .i64 v.ti]
  | .jnt, (j : Fx.Joint) => [.int .i64 j.id, .int .i64 j.kind, .int .i64 j.ba, .int .i64 j.bb, .int .i64 j.ax, .int .i64 j.ay, .int .i64 j.bx, .int .i64 j.bby, .int .i64 j.ux, .int .i64 j.uy, .int .i64 j.ra, .bool j.el, .int .i64 j.lo, .int .i64 j.up, .bool j.em, .int .i64 j.ms, .int .i64 j.mf, .int .i64 j.so, .int .i64 j.br, .bool j.cc, .int .i64 j.i0, .int .i64 j.i1, .int .i64 j.i2, .int .i64 j.i3]
  | .bd, (b : Fx.Bd) => [.int .i64 b.id, .int .i64 b.kind, .int .i64 b.px, .int .i64 b.py, .int .i64 b.pa, .int .i64 b.vx, .int .i64 b.vy, .int .i64 b.w, .int .i64 b.fx, .int .i64 b.fy, .int .i64 b.tq, .int .i64 b.ld, .int .i64 b.ad, .int .i64 b.gs, .bool b.bullet, .bool b.fixed, .bool b.nosleep, .bool b.asleep, .int .i64 b.idle, .slc false ⟨.fix, b.fixtures⟩]
  | .ssb, (l : List Fx.Sb) => [.slc false ⟨.sb, l⟩]

def i64s : List Cell → Option (List Int)
  | [] => some []
  | c :: cs => (match c, i64s cs with
    | .int .i64 n, some l => some (n :: l)
    | _, _ => none)

/-- Cells, read as an element. -/
def K.of : (k : K) → List Cell → Option k.Ty
  | .i64, cs => (match i64s cs with | some [n] => some n | _ => none)
  | .u8, cs => (match cs with | [.int .u8 n] => some n | _ => none)
  | .bl, cs => (match cs with | [.bool b] => some b | _ => none)
  | .vec, cs => (match i64s cs with | some [a, b] => some (⟨a, b⟩ : Fx.Vec) | _ => none)
  | .md, cs => (match i64s cs with | some [a, b, c, d] => some (⟨a, b, c, d⟩ : Fx.Md) | _ => none)
  | .sb, cs => (match i64s cs with | some [a, b, c, d, e] => some (⟨a, b, c, d, e⟩ : Fx.Sb) | _ => none)
  | .row, cs => (match i64s cs with | some [a, b, c, d, e, f, g, h, i, j, k, l, m, n] => some (⟨a, b, c, d, e, f, g, h, i, j, k, l, m, n⟩ : Fx.Row) | _ => none)
  | .fix, cs => (match cs with
    | c0 :: c1 :: .slc false ⟨.vec, vs⟩ :: c3 :: c4 :: c5 :: .bool b :: r => (match i64s [c0, c1], i64s [c3, c4, c5], i64s r with
      | some [k, ra], some [d, f, re], some [ca, ma, g] => some (⟨k, ra, vs, d, f, re, b, ca, ma, g⟩ : Fx.Fix)
      | _, _, _ => none)
    | _ => none)
  | .cp, cs => (match i64s cs with | some [a, b, c, d, e, f] => some (⟨a, b, c, d, e, f⟩ : Fx.Cp) | _ => none)
  | .jnt, cs => (match i64s (cs.take 11), cs.drop 11 with
    | some [a0, a1, a2, a3, a4, a5, a6, a7, a8, a9, a10], .bool b0 :: c1 :: c2 :: .bool b1 :: c3 :: c4 :: c5 :: c6 :: .bool b2 :: r => (match i64s [c1, c2], i64s [c3, c4, c5, c6], i64s r with
      | some [d1, d2], some [d3, d4, d5, d6], some [e0, e1, e2, e3] => some (⟨a0, a1, a2, a3, a4, a5, a6, a7, a8, a9, a10, b0, d1, d2, b1, d3, d4, d5, d6, b2, e0, e1, e2, e3⟩ : Fx.Joint)
      | _, _, _ => none)
    | _, _ => none)
  | .bd, cs => (match i64s (cs.take 14), cs.drop 14 with
    | some [a0, a1, a2, a3, a4, a5, a6, a7, a8, a9, a10, a11, a12, a13], .bool b0 :: .bool b1 :: .bool b2 :: .bool b3 :: .int .i64 n :: .slc false ⟨.fix, l⟩ :: [] => some (⟨a0, a1, a2, a3, a4, a5, a6, a7, a8, a9, a10, a11, a12, a13, b0, b1, b2, b3, n, l⟩ : Fx.Bd)
    | _, _ => none)
  | .ssb, cs => (match cs with | [.slc false ⟨.sb, l⟩] => some l | _ => none)

theorem i64s_eq : ∀ {cs : List Cell} {l : List Int}, i64s cs = some l → cs = l.map (Cell.int .i64)
  | [], l, h => by simp only [i64s, Option.some.injEq] at h; subst h; rfl
  | c :: cs, l, h => by
    simp only [i64s] at h
    split at h
    · rename_i n l' h1
      simp only [Option.some.injEq] at h
      subst h
      rw [i64s_eq h1]; rfl
    · cases h

theorem K.of_eq : ∀ {k : K} {cs : List Cell} {x : k.Ty}, k.of cs = some x → cs = k.cells x
  | .i64, cs, x, h => by
    simp only [K.of] at h; split at h
    · rename_i n h1; cases h; rw [i64s_eq h1]; rfl
    · cases h
  | .u8, cs, x, h => by
    simp only [K.of] at h; split at h
    · cases h; rfl
    · cases h
  | .bl, cs, x, h => by
    simp only [K.of] at h; split at h
    · cases h; rfl
    · cases h
  | .vec, cs, x, h => by
    simp only [K.of] at h; split at h
    · rename_i h1; cases h; rw [i64s_eq h1]; rfl
    · cases h
  | .md, cs, x, h => by
    simp only [K.of] at h; split at h
    · rename_i h1; cases h; rw [i64s_eq h1]; rfl
    · cases h
  | .sb, cs, x, h => by
    simp only [K.of] at h; split at h
    · rename_i h1; cases h; rw [i64s_eq h1]; rfl
    · cases h
  | .row, cs, x, h => by
    simp only [K.of] at h; split at h
    · rename_i h1; cases h; rw [i64s_eq h1]; rfl
    · cases h
  | .fix, cs, x, h => by
    simp only [K.of] at h; split at h
    · split at h
      · rename_i h1 h2 h3
        cases h
        have e1 := i64s_eq h1; have e2 := i64s_eq h2; have e3 := i64s_eq h3
        simp only [List.map_cons, List.map_nil, List.cons.injEq, and_true] at e1 e2
        rw [e1.1, e1.2, e2.1, e2.2.1, e2.2.2, e3]; rfl
      · cases h
    · cases h
  | .cp, cs, x, h => by
    simp only [K.of] at h; split at h
    · rename_i h1; cases h; rw [i64s_eq h1]; rfl
    · cases h
  | .jnt, cs, x, h => by
    simp only [K.of] at h; split at h
    · rename_i h1 h2
      split at h
      · rename_i h3 h4 h5
        cases h
        have e0 := i64s_eq h1; have e1 := i64s_eq h3; have e2 := i64s_eq h4; have e3 := i64s_eq h5
        simp only [List.map_cons, List.map_nil, List.cons.injEq, and_true] at e1 e2
        rw [← List.take_append_drop 11 cs, e0, h2, e1.1, e1.2, e2.1, e2.2.1, e2.2.2.1, e2.2.2.2, e3]; rfl
      · cases h
    · cases h
  | .bd, cs, x, h => by
    simp only [K.of] at h; split at h
    · rename_i h1 h2
      cases h
      have e0 := i64s_eq h1
      rw [← List.take_append_drop 14 cs, e0, h2]; rfl
    · cases h
  | .ssb, cs, x, h => by
    simp only [K.of] at h; split at h
    · cases h; rfl
    · cases h

theorem K.cells_len : ∀ (k : K) (x : k.Ty), (k.cells x).length = k.sz
  | .i64, _ => rfl
  | .u8, _ => rfl
  | .bl, _ => rfl
  | .vec, _ => rfl
  | .md, _ => rfl
  | .sb, _ => rfl
  | .row, _ => rfl
  | .fix, _ => rfl
  | .cp, _ => rfl
  | .jnt, _ => rfl
  | .bd, _ => rfl
  | .ssb, _ => rfl

theorem K.sz_pos (k : K) : 0 < k.sz := by cases k <;> decide

/-- A row, of this kind of elements. -/
def SL.as : (k : K) → SL → Option (List k.Ty)
  | .i64, ⟨.i64, l⟩ => some l
  | .u8, ⟨.u8, l⟩ => some l
  | .bl, ⟨.bl, l⟩ => some l
  | .vec, ⟨.vec, l⟩ => some l
  | .md, ⟨.md, l⟩ => some l
  | .sb, ⟨.sb, l⟩ => some l
  | .row, ⟨.row, l⟩ => some l
  | .fix, ⟨.fix, l⟩ => some l
  | .cp, ⟨.cp, l⟩ => some l
  | .jnt, ⟨.jnt, l⟩ => some l
  | .bd, ⟨.bd, l⟩ => some l
  | .ssb, ⟨.ssb, l⟩ => some l
  | _, _ => none

theorem SL.as_eq {k : K} {m : SL} {l : List k.Ty} (h : m.as k = some l) : m = ⟨k, l⟩ := by
  obtain ⟨k', l'⟩ := m
  cases k <;> cases k' <;> simp only [SL.as, Option.some.injEq, reduceCtorEq] at h <;> subst h <;> rfl

def SL.at (m : SL) (i : Nat) : List Cell := m.k.cells (m.l.getD i m.k.dflt)
/-- Element i turned. -/
def SL.set (m : SL) (i : Nat) (cs : List Cell) : Option SL :=
  match m.k.of cs with
  | some x => some ⟨m.k, m.l.set i x⟩
  | none => none
def SL.app (m m' : SL) : Option SL :=
  match m'.as m.k with
  | some l => some ⟨m.k, m.l ++ l⟩
  | none => none
def SL.sel (b : Bool) (m m' : SL) : Option SL :=
  match m'.as m.k with
  | some l => some ⟨m.k, cond b m.l l⟩
  | none => none
def ofRows (k : K) : List (List Cell) → Option (List k.Ty)
  | [] => some []
  | cs :: r => (match k.of cs, ofRows k r with
    | some x, some l => some (x :: l)
    | _, _ => none)
def chunk (sz : Nat) : Nat → List Cell → List (List Cell)
  | 0, _ => []
  | n + 1, cs => cs.take sz :: chunk sz n (cs.drop sz)

theorem SL.at_len (m : SL) (i : Nat) : (m.at i).length = m.sz := K.cells_len _ _
theorem SL.at_lt {m : SL} {i j : Nat} {c : Cell} (h : (m.at i)[j]? = some c) : j < m.sz := by
  have := (List.getElem?_eq_some_iff.1 h).1
  rw [SL.at_len] at this
  exact this

/-! ### what kind of elements has a slice's type? -/

inductive Tag where
  | int (k : IntKind)
  | bool
  | slc
  | other

def Tag.same : Tag → Tag → Bool
  | .int k, .int k' => decide (k = k')
  | .bool, .bool => true
  | .slc, .slc => true
  | _, _ => false
def sameTags : List Tag → List Tag → Bool
  | [], [] => true
  | a :: l, b :: r => a.same b && sameTags l r
  | _, _ => false

/-- The types of a type's cells. -/
def leafTys (P : Program) : Nat → TypeId → List TypeId
  | 0, t => [t]
  | d + 1, t =>
    match P.underlying t with
    | some (.struct fs) => fs.toList.flatMap fun f => leafTys P d f.type
    | some (.array n e) => (List.replicate n (leafTys P d e)).flatten
    | _ => [t]
def tagOf (P : Program) (t : TypeId) : Tag :=
  match P.underlying t with
  | some (.int k) => .int k
  | some .bool => .bool
  | some (.slice _) => .slc
  | _ => .other
def K.tags : K → List Tag
  | .i64 => [.int .i64]
  | .u8 => [.int .u8]
  | .bl => [.bool]
  | .vec => [.int .i64, .int .i64]
  | .md => [.int .i64, .int .i64, .int .i64, .int .i64]
  | .sb => [.int .i64, .int .i64, .int .i64, .int .i64, .int .i64]
  | .row => [.int .i64, .int .i64, .int .i64, .int .i64, .int .i64, .int .i64, .int .i64, .int .i64, .int .i64, .int .i64, .int .i64, .int .i64, .int .i64, .int .i64]
  | .fix => [.int .i64, .int .i64, .slc, .int .i64, .int .i64, .int .i64, .bool, .int .i64, .int .i64, .int .i64]
  | .cp => [.int .i64, .int .i64, .int .i64, .int .i64, .int .i64, .int .i64]
  | .jnt => [.int .i64, .int .i64, .int .i64, .int .i64, .int .i64, .int .i64, .int .i64, .int .i64, .int .i64, .int .i64, .int .i64, .bool, .int .i64, .int .i64, .bool, .int .i64, .int .i64, .int .i64, .int .i64, .bool, .int .i64, .int .i64, .int .i64, .int .i64]
  | .bd => [.int .i64, .int .i64, .int .i64, .int .i64, .int .i64, .int .i64, .int .i64, .int .i64, .int .i64, .int .i64, .int .i64, .int .i64, .int .i64, .int .i64, .bool, .bool, .bool, .bool, .int .i64, .slc]
  | .ssb => [.slc]
def kindOf (P : Program) (e : TypeId) : Option K :=
  [K.i64, .u8, .bl, .vec, .md, .sb, .row, .fix, .cp, .jnt, .bd, .ssb].find? fun k => sameTags k.tags ((leafTys P 8 e).map (tagOf P))

def nilV : Value → Bool
  | .slice none 0 0 => true
  | _ => false
theorem nilV_eq {v : Value} (h : nilV v = true) : v = .slice none 0 0 := by
  unfold nilV at h
  split at h
  · rfl
  · cases h

/-- A nil slice, where its type is known. -/
def retC (P : Program) (t : TypeId) : Cell → Cell
  | .raw v => if nilV v then (match P.underlying t with
    | some (.slice e) => (match kindOf P e with | some k => .slc true ⟨k, []⟩ | none => .raw v)
    | _ => .raw v) else .raw v
  | c => c
def retCs (P : Program) : List TypeId → List Cell → List Cell
  | t :: ts, c :: cs => retC P t c :: retCs P ts cs
  | _, cs => cs

end Go.Eng
