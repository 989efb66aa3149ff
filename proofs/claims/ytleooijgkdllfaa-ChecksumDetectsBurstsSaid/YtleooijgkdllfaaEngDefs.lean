/- THE ENGINE, PART 1: a symbolic executor over the loaded program's code; definitions alone. -/
import Derived.Test.YtleooijgkdllfaaEngTy
namespace Go.Eng
open Go.RowKit

/-- A flat value: one cell, or a struct's (an array's) cells. -/
inductive FV where
  | one (c : Cell)
  | agg (cs : List Cell)

/-- 'clo': a function and what it carries; 'isn': whether a slice that reads as m is nil. -/
inductive PV where
  | fv (v : FV)
  | tup (l : List FV)
  | clo (f : FuncId) (l : List FV)
  | isn (m : SL)

/-- What is known of a temporary. -/
inductive TV where
  | any
  | val (v : PV)
  | opt (gt : Nat) (want : Bool) (v : PV)

/-- What is known of a block of the call's own. -/
inductive Res where
  | blk (T : TypeId) (cs : List Cell)
  | row (e : TypeId) (m : SL)

inductive MRes where
  | free
  | val (r : Res)
  | opt (gt : Nat) (want : Bool) (r : Res)
  | lost

/-- What is known of a frame and of the call's own memory; 'sz': how many temporaries there are; blocks from 'next' on are not made yet. -/
structure St where
  sz : Nat
  tmps : Nat → TV
  next : Nat
  mem : Nat → MRes

abbrev Contract := List PV → Option (List Prop × PV)

def Conj : List Prop → Prop
  | [] => True
  | p :: ps => p ∧ Conj ps

def FV.cells : FV → List Cell
  | .one c => [c]
  | .agg cs => cs

def isAggT (P : Program) (t : TypeId) : Bool :=
  match P.underlying t with
  | some (.struct _) | some (.array _ _) => true
  | _ => false

def ofVal : Value → Cell
  | .int k n => .int k n
  | .bool b => .bool b
  | v => .raw v

def ofConst : Value → PV
  | .agg cs => .fv (.agg (cs.toList.map ofVal))
  | v => .fv (.one (ofVal v))

def constOk : Value → Bool
  | .agg cs => cs.all (·.oneCell')
  | .tuple _ => false
  | _ => true

/-- An operand, read where the guards of 'gs' are known to hold. -/
def rdOp (tmps : Nat → TV) (gs : List (Nat × Bool)) : Operand → Option PV
  | .tmp t =>
    match tmps t with
    | .val v => some v
    | .opt gt want v => if gs.any (fun g => g.1 == gt && g.2 == want) then some v else none
    | .any => none
  | .const v => if constOk v then some (ofConst v) else none
  | .func f => some (.fv (.one (.raw (.func (.func f) #[] #[]))))
  | .global _ => none

/-- Values in which a nil slice's type is known. -/
def retF (P : Program) (T : TypeId) : FV → FV
  | .one c => .one (retC P T c)
  | .agg cs => .agg (retCs P (leafTys P 8 T) cs)
def retP (P : Program) (T : TypeId) : PV → PV
  | .fv v => .fv (retF P T v)
  | v => v
def retPs (P : Program) : List TypeId → List PV → List PV
  | t :: ts, v :: vs => retP P t v :: retPs P ts vs
  | _, vs => vs

def condC (b : Bool) : Cell → Cell → Option Cell
  | .int k n, .int k' n' => if k = k' then some (.int k (cond b n n')) else none
  | .bool x, .bool y => some (.bool (cond b x y))
  | .ref i o, .ref i' o' => if i = i' ∧ o = o' then some (.ref i o) else none
  | .own i, .own i' => if i = i' then some (.own i) else none
  | .slc nw m, .slc nw' m' => (match SL.sel b m m' with | some x => some (.slc (nw && nw') x) | none => none)
  | .unk, .unk => some .unk
  | .unk, .slc _ _ => some .unk
  | .slc _ _, .unk => some .unk
  | .fresh e m, .fresh e' m' => if e = e' then (match SL.sel b m m' with | some x => some (.fresh e x) | none => none) else none
  | _, _ => none

def condCs (b : Bool) : List Cell → List Cell → Option (List Cell)
  | [], [] => some []
  | x :: xs, y :: ys =>
    match condC b x y, condCs b xs ys with
    | some c, some cs => some (c :: cs)
    | _, _ => none
  | _, _ => none

def condF (b : Bool) : FV → FV → Option FV
  | .one x, .one y => (condC b x y).map .one
  | .agg x, .agg y => (condCs b x y).map .agg
  | _, _ => none

def condFs (b : Bool) : List FV → List FV → Option (List FV)
  | [], [] => some []
  | x :: xs, y :: ys =>
    match condF b x y, condFs b xs ys with
    | some c, some cs => some (c :: cs)
    | _, _ => none
  | _, _ => none

def condV (b : Bool) : PV → PV → Option PV
  | .fv x, .fv y => (condF b x y).map .fv
  | .tup x, .tup y => (condFs b x y).map .tup
  | _, _ => none

/-- Strings: the bytes of a row of bytes; the numbers of a string's bytes; are two strings the same? -/
def strOf (l : List Int) : ByteArray := ⟨(l.map fun n => UInt8.ofNat n.toNat).toArray⟩
def bytesOf (s : ByteArray) : List Int := s.data.toList.map fun b => (b.toNat : Int)
def strEq (a b : ByteArray) : Bool := a.toList == b.toList

structure Out where
  need : List Prop
  val : Option PV
  new : Option Res := none
  wr : Option (List MRes) := none

def one (c : Cell) : Option PV := some (.fv (.one c))
def pureOut : Option PV → Option Out
  | some v => some { need := [], val := some v }
  | none => none

def intBin (op : BinOp) (k : IntKind) (a b : Int) : Option Cell :=
  match op with
  | .add => some (.int k (k.wrap (a + b)))
  | .sub => some (.int k (k.wrap (a - b)))
  | .mul => some (.int k (k.wrap (a * b)))
  | .quo => some (.int k (k.wrap (a.tdiv b)))
  | .rem => some (.int k (a.tmod b))
  | .and => some (.int k (k.wrap ((BitVec.ofInt k.bits a &&& BitVec.ofInt k.bits b).toNat)))
  | .or => some (.int k (k.wrap ((BitVec.ofInt k.bits a ||| BitVec.ofInt k.bits b).toNat)))
  | .xor => some (.int k (k.wrap ((BitVec.ofInt k.bits a ^^^ BitVec.ofInt k.bits b).toNat)))
  | .eql => some (.bool (a == b))
  | .neq => some (.bool (a != b))
  | .lss => some (.bool (decide (a < b)))
  | .leq => some (.bool (decide (a ≤ b)))
  | .gtr => some (.bool (decide (a > b)))
  | .geq => some (.bool (decide (a ≥ b)))
  | _ => none

/-- What '/', '%', '<<', '>>' ask of their right operand: nothing where it is a fit constant. -/
def rightNeed (op : BinOp) (y : Operand) (b : Int) : List Prop :=
  match op with
  | .quo | .rem => (match y with | .const (.int _ n) => if n = 0 then [False] else [] | _ => [b ≠ 0])
  | .shl | .shr => (match y with | .const (.int _ n) => if n < 0 then [False] else [] | _ => [0 ≤ b])
  | _ => []

/-- An array's index must be a number that is computed; then there is no need left. -/
def idxNeed (i : Int) (n : Nat) : List Prop :=
  match decide (0 ≤ i ∧ i < n) with
  | true => []
  | false => [False]

/-- The numbers of an array, one of them turned. -/
def updI (i x : Int) : Nat → List Int → List Int
  | _, [] => []
  | j, y :: r => (bif i == (j : Int) then x else y) :: updI i x (j + 1) r
def isConst : Operand → Bool
  | .const _ => true
  | _ => false

def splice (cs : List Cell) (off : Nat) (new : List Cell) : List Cell := cs.take off ++ new ++ cs.drop (off + new.length)

/-- A struct or array built out of parts. -/
def fillC (place : Nat → Option (Nat × Nat)) : List Cell → List (Nat × FV) → Option (List Cell)
  | cs, [] => some cs
  | cs, (i, v) :: rest =>
    match place i with
    | none => none
    | some (off, size) => if v.cells.length = size ∧ off + size ≤ cs.length then fillC place (splice cs off v.cells) rest else none

def partOf (P : Program) (t : TypeId) (cs : List Cell) (off : Nat) : Option FV :=
  match P.underlying t, P.info? t with
  | some _, some i =>
    if isAggT P t then (if off + i.size ≤ cs.length then some (.agg ((cs.drop off).take i.size)) else none)
    else (match cs[off]? with
      | some c => some (.one c)
      | none => none)
  | _, _ => none

def eqFields (P : Program) (eq : TypeId → FV → FV → Option Bool) (xs ys : List Cell) : List Field → Option Bool
  | [] => some true
  | f :: fs =>
    if f.name = "_" then none else
    match partOf P f.type xs f.offset, partOf P f.type ys f.offset with
    | some u, some v => (match eq f.type u v, eqFields P eq xs ys fs with
      | some b, some r => some (b && r)
      | _, _ => none)
    | _, _ => none

def eqElems (P : Program) (eq : TypeId → FV → FV → Option Bool) (e sz : Nat) (xs ys : List Cell) : List Nat → Option Bool
  | [] => some true
  | i :: is =>
    match partOf P e xs (i * sz), partOf P e ys (i * sz) with
    | some u, some v => (match eq e u v, eqElems P eq e sz xs ys is with
      | some b, some r => some (b && r)
      | _, _ => none)
    | _, _ => none

/-- '==' of two values of a type, cell by cell. -/
def eqF (P : Program) : Nat → TypeId → FV → FV → Option Bool
  | 0, _, _, _ => none
  | d + 1, t, u, v =>
    match P.underlying t, u, v with
    | some .bool, .one (.bool a), .one (.bool b) => some (a == b)
    | some (.int _), .one (.int k a), .one (.int k' b) => if k = k' then some (a == b) else none
    | some (.struct fs), .agg xs, .agg ys => if P.stoodInHeld t then none else eqFields P (eqF P d) xs ys fs.toList
    | some (.array n e), .agg xs, .agg ys => (match P.info? e with
      | some i => eqElems P (eqF P d) e i.size xs ys (List.range' 0 n)
      | none => none)
    | _, _, _ => none

def fvParts (ρ : Operand → Option PV) : List (Nat × Operand) → Option (List (Nat × FV))
  | [] => some []
  | (i, x) :: rest =>
    match ρ x, fvParts ρ rest with
    | some (.fv v), some l => some ((i, v) :: l)
    | _, _ => none

def mapOps (ρ : Operand → Option PV) : List Operand → Option (List PV)
  | [] => some []
  | x :: rest =>
    match ρ x, mapOps ρ rest with
    | some v, some l => some (v :: l)
    | _, _ => none

/-- The ids of own rows that stand in a value. -/
def Cell.ids : Cell → List Nat
  | .own id => [id]
  | _ => []
def PV.ids : PV → List Nat
  | .fv v => v.cells.flatMap Cell.ids
  | .tup l => l.flatMap fun v => v.cells.flatMap Cell.ids
  | .clo _ l => l.flatMap fun v => v.cells.flatMap Cell.ids
  | .isn _ => []
/-- The same, and the ids of blocks that are pointed to: what a callee is to see. -/
def Cell.cids : Cell → List Nat
  | .own id => [id]
  | .ref id _ => [id]
  | _ => []
def PV.cids : PV → List Nat
  | .fv v => v.cells.flatMap Cell.cids
  | .tup l => l.flatMap fun v => v.cells.flatMap Cell.cids
  | .clo _ l => l.flatMap fun v => v.cells.flatMap Cell.cids
  | .isn _ => []

/-- Which function does an operand stand for, and what does it carry? -/
def fnOf : Option PV → Option (FuncId × List FV)
  | some (.fv (.one (.raw (.func (.func f) first captured)))) => if first.isEmpty && captured.isEmpty then some (f, []) else none
  | some (.clo f l) => some (f, l)
  | _ => none

def calleeF (ρ : Operand → Option PV) : Operand → Option (FuncId × List FV)
  | .func f => some (f, [])
  | x => fnOf (ρ x)

/-- What a callee is given: the arguments, then what it carries. -/
def callArgs (ρ : Operand → Option PV) (fx : Operand) (args : List PV) : List PV :=
  match calleeF ρ fx with
  | some (_, l) => args ++ l.map .fv
  | none => args

/-- Which own blocks does the operation touch? -/
def plan (o : Oper) (ρ : Operand → Option PV) : List Nat :=
  match o.op with
  | .load _ x | .store _ x _ =>
    (match ρ x with
     | some (.fv (.one (.ref id _))) => [id]
     | some (.fv (.one (.orp id _ _ _))) => [id]
     | some (.fv (.one (.aref id _ _ _))) => [id]
     | _ => [])
  | .indexAddr _ x _ | .convert _ _ x => (match ρ x with | some (.fv (.one (.own id))) => [id] | _ => [])
  | .call c =>
    (match c.callee with
     | .value fx => (callArgs ρ fx ((mapOps ρ c.args.toList).getD [])).flatMap PV.cids
     | .builtin .len => ((mapOps ρ c.args.toList).getD []).flatMap PV.ids
     | .builtin .append => ((mapOps ρ c.args.toList).getD []).flatMap PV.ids
     | .builtin .copy => ((mapOps ρ c.args.toList).getD []).flatMap PV.ids
     | _ => [])
  | _ => []

/-- Does the operation write to what it touches? -/
def writes (o : Oper) : Bool :=
  match o.op with
  | .store .. | .convert .. => true
  | .call c => (match c.callee with | .builtin .append | .builtin .copy => true | _ => false)
  | _ => false

def minF (x : Cell) (y : Cell) : Option Cell :=
  match x, y with
  | .int k a, .int _ b => some (.int k (if b < a then b else a))
  | _, _ => none
def maxF (x : Cell) (y : Cell) : Option Cell :=
  match x, y with
  | .int k a, .int _ b => some (.int k (if b > a then b else a))
  | _, _ => none
def foldF (f : Cell → Cell → Option Cell) : Cell → List PV → Option Cell
  | x, [] => some x
  | x, .fv (.one y) :: rest => (match f x y with | some z => foldF f z rest | none => none)
  | _, _ => none

/-- A block that holds one record. -/
def blkSL (cs : List Cell) : Option SL :=
  [K.i64, .vec, .ssb, .jnt, .bd].findSome? fun k => (k.of cs).map fun x => ⟨k, [x]⟩

/-- Own rows and blocks among a call's arguments, as the callee sees them. -/
def viewC (ids : List Nat) (cont : List Res) : Cell → Option Cell
  | .own id =>
    (match (ids.zip cont).find? (fun x => Nat.beq x.1 id) with
     | some (_, .row _ m) => some (.slc false m)
     | _ => none)
  | .ref id off =>
    (match (ids.zip cont).find? (fun x => Nat.beq x.1 id) with
     | some (_, .blk _ cs) => (match blkSL cs with | some m => some (.rp m 0 off) | none => none)
     | _ => none)
  | .rp _ _ _ | .orp _ _ _ _ | .aref _ _ _ _ | .fresh _ _ => none
  | .slc _ m => some (.slc false m)
  | .unk => some .unk
  | .int k n => some (.int k n)
  | .bool b => some (.bool b)
  | .raw v => some (.raw v)
def viewCs (ids : List Nat) (cont : List Res) : List Cell → Option (List Cell)
  | [] => some []
  | c :: cs => match viewC ids cont c, viewCs ids cont cs with
    | some c, some cs => some (c :: cs)
    | _, _ => none
def viewV (ids : List Nat) (cont : List Res) : PV → Option PV
  | .fv (.one c) => (viewC ids cont c).map fun c => .fv (.one c)
  | .fv (.agg cs) => (viewCs ids cont cs).map fun cs => .fv (.agg cs)
  | _ => none
def viewVs (ids : List Nat) (cont : List Res) : List PV → Option (List PV)
  | [] => some []
  | v :: vs => match viewV ids cont v, viewVs ids cont vs with
    | some v, some vs => some (v :: vs)
    | _, _ => none

/-- What a call may hand back: numbers, bools, fixed values, new slices. -/
def Cell.plain : Cell → Bool
  | .int _ _ | .bool _ | .raw _ | .unk => true
  | .slc nw _ => nw
  | _ => false
def PV.plain : PV → Bool
  | .fv v => v.cells.all Cell.plain
  | .tup l => l.all fun v => v.cells.all Cell.plain
  | .clo _ _ | .isn _ => false

def fieldsOf (P : Program) (t : TypeId) : Option (Array Field) :=
  match P.underlying t with
  | some (.struct fs) => some fs
  | _ => none

def arrOf (P : Program) (t : TypeId) : Option (Nat × TypeId) :=
  match P.underlying t with
  | some (.array n e) => some (n, e)
  | _ => none

def fvsOf : List PV → Option (List FV)
  | [] => some []
  | .fv v :: r => (match fvsOf r with | some l => some (v :: l) | none => none)
  | _ :: _ => none

/-- A value that is moved; a nil slice becomes a row of the call's own. -/
def moveOut (P : Program) (self : Nat) (T : TypeId) : Option PV → Option Out
  | some (.fv (.one (.raw v))) => if nilV v then (match P.underlying T with
    | some (.slice e) => (match kindOf P e with
      | some k => if k.sz = P.cellsOf e then some { need := [], val := one (.own self), new := some (.row e ⟨k, []⟩) } else none
      | none => pureOut (one (.raw v)))
    | _ => pureOut (one (.raw v))) else pureOut (one (.raw v))
  | v => pureOut v

def elemOf (P : Program) (t : TypeId) : Option TypeId :=
  match P.underlying t with
  | some (.slice e) => some e
  | _ => none

/-- A literal of these kinds is only read from the start; it may hold new slices. -/
def K.still : K → Bool
  | .vec | .fix => true
  | _ => false
def softC : Cell → Cell
  | .slc true m => .slc false m
  | c => c
/-- What lies in a literal that is handed on: numbers, bools, new flat slices, empty ones. -/
def newC : Cell → Bool
  | .int _ _ | .bool _ => true
  | .slc nw m => m.l.isEmpty || (nw && m.k.flat)
  | _ => false
/-- What 'append(s, x...)' comes to: s is the call's own, or nil; it is given up. -/
def appOut (P : Program) (t : TypeId) (self : Nat) (s x : Cell) (cont : List Res) : Option Out :=
  match elemOf P t with
  | none => none
  | some e => (match P.info? e with
    | none => none
    | some i => if !(decide (0 < i.bytes) && decide (i.size = P.cellsOf e)) then none else (match s, x, cont with
      | .own _, .own _, [.row e1 m, .row _ m'] => appWr i e e1 self m m'
      | .own _, .slc _ m', [.row e1 m] => appWr i e e1 self m m'
      | .raw v, .own _, [.row _ m'] => if nilV v then appNil i e self m' else none
      | .raw v, .slc _ m', [] => if nilV v then appNil i e self m' else none
      | _, _, _ => none))
where
  appWr (i : TypeInfo) (e e1 : TypeId) (self : Nat) (m m' : SL) : Option Out :=
    if e = e1 ∧ m.sz = i.size ∧ i.zero.isSome ∧ (i.zero.map (·.cells.size)) = some i.size then (match m.app m' with
      | some m'' => some { need := [(m.len + m'.len) * i.bytes ≤ 140737488355328], val := one (.own self), new := some (.row e m''), wr := some [.lost] }
      | none => none) else none
  appNil (i : TypeInfo) (e : TypeId) (self : Nat) (m' : SL) : Option Out :=
    if m'.sz = i.size ∧ i.zero.isSome ∧ (i.zero.map (·.cells.size)) = some i.size then some { need := [m'.len * i.bytes ≤ 140737488355328], val := one (.own self), new := some (.row e m') } else none

def core (P : Program) (ctrs : FuncId → Option Contract) (o : Oper) (ρ : List (Nat × Bool) → Operand → Option PV) (gs : List (Nat × Bool)) (self : Nat) (ids : List Nat) (cont : List Res) : Option Out :=
  match o.op with
  | .move x | .assign x => moveOut P self o.type (ρ gs x)
  | .pick c a b =>
    (match ρ gs c with
     | some (.fv (.one (.bool bc))) =>
       (match c with
        | .tmp t => (match ρ ((t, true) :: gs) a, ρ ((t, false) :: gs) b with
          | some va, some vb => pureOut (condV bc va vb)
          | _, _ => none)
        | _ => none)
     | _ => none)
  | .alloc T =>
    (match P.info? T with
     | some i => (match i.zero with
       | some z => if z.cells.all (·.oneCell') then some { need := [], val := one (.ref self 0), new := some (.blk T (retCs P (leafTys P 8 T) (z.cells.toList.map ofVal))) } else none
       | none => none)
     | none => none)
  | .box T x =>
    (match ρ gs x with
     | some (.fv v) => some { need := [], val := one (.ref self 0), new := some (.blk T (retF P T v).cells) }
     | _ => none)
  | .build T parts =>
    (match P.info? T, fieldsOf P T, fvParts (ρ gs) parts.toList with
     | some i, some fs, some ps => if !fs.all (fun f => (P.info? f.type).isSome) then none else (match i.zero with
       | some z => if !z.cells.all (·.oneCell') then none else (match fillC (fun k => (fs[k]?).map fun f => (f.offset, P.cellsOf f.type)) (z.cells.toList.map ofVal) ps with | some cs => pureOut (some (.fv (retF P T (.agg cs)))) | none => none)
       | none => none)
     | some i, none, some ps => (match arrOf P T with
       | some (_, e) => (match P.info? e with
         | some _ => (match i.zero with
           | some z => if !z.cells.all (·.oneCell') then none else (match fillC (fun k => some (k * P.cellsOf e, P.cellsOf e)) (z.cells.toList.map ofVal) ps with | some cs => pureOut (some (.fv (retF P T (.agg cs)))) | none => none)
           | none => none)
         | none => none)
       | none => none)
     | _, _, _ => none)
  | .load T x =>
    (match ρ gs x, cont with
     | some (.fv (.one (.ref _ off))), [.blk _ cs] => (match partOf P T cs off with | some v => pureOut (some (.fv v)) | none => none)
     | some (.fv (.one (.rp m i off))), [] => (match partOf P T (m.at i) off with | some v => pureOut (some (.fv v)) | none => none)
     | some (.fv (.one (.orp _ sz i off))), [.row _ m] =>
       if sz = m.sz then (match partOf P T (m.at i) off with
         | some v => some { need := [i < m.len], val := some (.fv v) }
         | none => none)
       else none
     | some (.fv (.one (.aref _ off n i))), [.blk _ cs] =>
       (match partOf P T cs off, i64s ((cs.drop off).take n) with
        | some (.one _), some l => if l.length = n ∧ isAggT P T = false then pureOut (one (.int .i64 (l.getD i.toNat 0))) else none
        | _, _ => none)
     | _, _ => none)
  | .store T x v =>
    (match ρ gs x, ρ gs v, cont, P.info? T with
     | some (.fv (.one (.ref _ off))), some (.fv v), [.blk T' cs], some i =>
       if v.cells.length = i.size ∧ off + i.size ≤ cs.length then some { need := [], val := none, wr := some [.val (.blk T' (splice cs off (retF P T v).cells))] } else none
     | some (.fv (.one (.orp _ sz j off))), some (.fv v), [.row e m], some i =>
       if sz = m.sz ∧ v.cells.length = i.size ∧ off + i.size ≤ m.sz then (match m.set j (splice (m.at j) off v.cells) with
         | some m' => some { need := [j < m.len], val := none, wr := some [.val (.row e m')] }
         | none => none)
       else none
     | some (.fv (.one (.aref _ off n j))), some (.fv (.one (.int .i64 y))), [.blk T' cs], some i =>
       (match i64s ((cs.drop off).take n) with
        | some l => if l.length = n ∧ i.size = 1 then some { need := [], val := none, wr := some [.val (.blk T' (splice cs off ((updI j y 0 l).map (Cell.int .i64))))] } else none
        | none => none)
     | _, _, _, _ => none)
  | .nilCheck x => (match ρ gs x with | some (.fv (.one (.ref id off))) => pureOut (one (.ref id off)) | some (.fv (.one (.orp id sz i off))) => pureOut (one (.orp id sz i off)) | some (.fv (.one (.rp m i off))) => pureOut (one (.rp m i off)) | _ => none)
  | .binOp op T x y _ =>
    (match ρ gs x, ρ gs y with
     | some (.fv (.one (.int k a))), some (.fv (.one (.int k' b))) =>
       (match op with
        | .shl => some { need := rightNeed op y b, val := one (.int k (k.wrap (a * 2 ^ (min b.toNat k.bits)))) }
        | .shr => some { need := rightNeed op y b, val := one (.int k (a.fdiv (2 ^ (min b.toNat k.bits)))) }
        | _ => if k = k' then (match intBin op k a b with | some c => some { need := rightNeed op y b, val := one c } | none => none) else none)
     | some (.fv (.one (.slc _ m))), some (.fv (.one (.raw v))) =>
       (match op, P.underlying T with
        | .eql, some (.slice _) => if nilV v then pureOut (some (.isn m)) else none
        | _, _ => none)
     | some (.fv (.one (.raw (.string u)))), some (.fv (.one (.raw (.string v)))) =>
       (match op with
        | .eql => pureOut (one (.bool (strEq u v)))
        | .neq => pureOut (one (.bool (!strEq u v)))
        | _ => none)
     | some (.fv u), some (.fv v) =>
       if P.eqGuardType P.depth T then none else
       (match op with
        | .eql => (match eqF P 8 T u v with
          | some b => pureOut (one (.bool b))
          | none => none)
        | .neq => (match eqF P 8 T u v with
          | some b => pureOut (one (.bool (!b)))
          | none => none)
        | _ => none)
     | _, _ => none)
  | .unOp op _ x =>
    (match op, ρ gs x with
     | .neg, some (.fv (.one (.int k n))) => pureOut (one (.int k (k.wrap (0 - n))))
     | .not, some (.fv (.one (.bool b))) => pureOut (one (.bool (!b)))
     | .xor, some (.fv (.one (.int k n))) => pureOut (one (.int k (k.wrap ((BitVec.ofInt k.bits (if k.signed then -1 else k.max) ^^^ BitVec.ofInt k.bits n).toNat))))
     | _, _ => none)
  | .convert src dst x =>
    (match P.underlying src, P.underlying dst, ρ gs x with
     | some _, some (.int k), some (.fv (.one (.int _ n))) => pureOut (one (.int k (k.wrap n)))
     | some (.slice e), some .string, some (.fv (.one (.slc _ m))) => (match P.underlying e, m.as .u8 with
       | some (.int .u8), some l => pureOut (one (.raw (.string (strOf l))))
       | _, _ => none)
     | some .string, some (.slice e), some (.fv (.one (.raw (.string s)))) => (match P.underlying e with
       | some (.int .u8) => some { need := [s.size ≤ 65536], val := one (.slc true ⟨.u8, bytesOf s⟩) }
       | _ => none)
     | some (.slice _), some (.slice e), some (.fv (.one (.own _))) => (match P.underlying e, cont with
       | some (.int .u8), [.row _ m] => if src = dst ∧ m.k.flat = true then some { need := [0 < m.len], val := one (.slc true m), wr := some [.lost] } else none
       | _, _ => none)
     | _, _, _ => none)
  | .fieldAddr S x f =>
    (match fieldsOf P S with
     | some fs => (match fs[f]? with
       | some fd => if P.cellsOf fd.type = 0 then none else
         (match ρ gs x with
          | some (.fv (.one (.ref id off))) => pureOut (one (.ref id (off + fd.offset)))
          | some (.fv (.one (.rp m i off))) => pureOut (one (.rp m i (off + fd.offset)))
          | some (.fv (.one (.orp id sz i off))) => pureOut (one (.orp id sz i (off + fd.offset)))
          | _ => none)
       | none => none)
     | none => none)
  | .field T x f =>
    (match fieldsOf P T, ρ gs x with
     | some fs, some (.fv (.agg cs)) => (match fs[f]? with
       | some fd => (match partOf P fd.type cs fd.offset with | some v => pureOut (some (.fv v)) | none => none)
       | none => none)
     | _, _ => none)
  | .indexAddr T x ix =>
    (match P.underlying T, ρ gs x, ρ gs ix with
     | some (.array n e), some (.fv (.one (.ref id off))), some (.fv (.one (.int _ i))) =>
       if (P.info? e).isSome then (if isConst ix then some { need := idxNeed i n, val := one (.ref id (off + i.toNat * P.cellsOf e)) }
         else if P.cellsOf e = 1 then some { need := [0 ≤ i ∧ i < n], val := one (.aref id off n i) } else none) else none
     | some (.slice e), some (.fv (.one (.slc _ m))), some (.fv (.one (.int _ i))) =>
       if m.sz = P.cellsOf e ∧ (P.info? e).isSome then some { need := [0 ≤ i ∧ i < m.len], val := one (.rp m i.toNat 0) } else none
     | some (.slice e), some (.fv (.one (.own id))), some (.fv (.one (.int _ i))) =>
       (match cont with
        | [.row _ m] => if m.sz = P.cellsOf e ∧ (P.info? e).isSome then some { need := [0 ≤ i ∧ i < m.len], val := one (.orp id m.sz i.toNat 0) } else none
        | _ => none)
     | _, _, _ => none)
  | .index T x ix =>
    (match P.underlying T, ρ gs x, ρ gs ix with
     | some (.array n e), some (.fv (.agg cs)), some (.fv (.one (.int _ i))) =>
       if !(P.info? e).isSome then none else (if isConst ix then (match partOf P e cs (i.toNat * P.cellsOf e) with
        | some v => some { need := idxNeed i n, val := some (.fv v) }
        | none => none)
       else (match i64s cs, partOf P e cs 0 with
        | some l, some (.one _) => if P.cellsOf e = 1 ∧ l.length = n ∧ isAggT P e = false then some { need := [0 ≤ i ∧ i < n], val := one (.int .i64 (l.getD i.toNat 0)) } else none
        | _, _ => none))
     | _, _, _ => none)
  | .buildSlice T n parts =>
    (match elemOf P T, fvParts (ρ gs) parts.toList with
     | some e, some ps => (match P.info? e, kindOf P e with
       | some i, some k => (match i.zero with
         | some z => if !(z.cells.all (·.oneCell') && decide (z.cells.size = k.sz ∧ i.size = k.sz ∧ n * k.sz ≤ 16777216)) then none else
           (match fillC (fun j => some (j * k.sz, k.sz)) (List.replicate n (retCs P (leafTys P 8 e) (z.cells.toList.map ofVal))).flatten ps with
            | some cs => if k.still then (if cs.all newC then (match ofRows k (chunk k.sz n (cs.map softC)) with
                | some l => pureOut (one (.slc true ⟨k, l⟩))
                | none => none) else none)
              else (match ofRows k (chunk k.sz n cs) with
              | some l => some { need := [], val := one (.own self), new := some (.row e ⟨k, l⟩) }
              | none => none)
            | none => none)
         | none => none)
       | _, _ => none)
     | _, _ => none)
  | .makeSlice T x y =>
    (match elemOf P T, ρ gs x, ρ gs y with
     | some e, some (.fv (.one (.int _ a))), some (.fv (.one (.int _ b))) => (match P.info? e, kindOf P e with
       | some i, some k => (match i.zero with
         | some z => if !(z.cells.all (·.oneCell') && decide (z.cells.size = k.sz ∧ i.size = k.sz ∧ 0 < i.bytes)) then none else
           (match k.of (retCs P (leafTys P 8 e) (z.cells.toList.map ofVal)) with
            | some d => some { need := [0 ≤ a ∧ a ≤ b ∧ b * i.bytes ≤ 140737488355328], val := one (.own self), new := some (.row e ⟨k, List.replicate a.toNat d⟩) }
            | none => none)
         | none => none)
       | _, _ => none)
     | _, _, _ => none)
  | .slice T x lo hi mx =>
    (match elemOf P T, ρ gs x, lo, hi.bind (ρ gs), mx with
     | some e, some (.fv (.one (.slc nw m))), none, some (.fv (.one (.int _ n))), none =>
       if (P.info? e).isSome then some { need := [0 ≤ n ∧ n ≤ m.len], val := one (.slc nw ⟨m.k, m.l.take n.toNat⟩) } else none
     | _, _, _, _, _ => none)
  | .makeFunc fn first captured =>
    (match fn, first.toList, mapOps (ρ gs) captured.toList with
     | .func f, [], some vs => (match fvsOf vs with
       | some l => pureOut (some (.clo f l))
       | none => none)
     | _, _, _ => none)
  | .extract x k =>
    (match ρ gs x with
     | some (.tup l) => (match l[k]? with | some v => pureOut (some (.fv v)) | none => none)
     | _ => none)
  | .call c =>
    (match c.callee with
     | .value fx =>
       (match calleeF (ρ gs) fx with
        | some (f, l) =>
          (match ctrs f, mapOps (ρ gs) c.args.toList with
           | some C, some args => (match viewVs ids cont (retPs P c.argTypes.toList args ++ l.map .fv) with
             | some args => (match C args with
               | some (p, .fv (.one (.fresh e m))) => if m.k.flat then some { need := p, val := one (.own self), new := some (.row e m) } else none
               | some (p, v) => if v.plain then some { need := p, val := some v } else none
               | none => none)
             | none => none)
           | _, _ => none)
        | none => none)
     | .builtin .len =>
       (match (c.argTypes[0]?).bind P.underlying, mapOps (ρ gs) c.args.toList, cont with
        | some (.slice _), some [.fv (.one (.slc _ m))], _ => pureOut (one (.int .i64 m.len))
        | some (.slice _), some [.fv (.one (.own _))], [.row _ m] => pureOut (one (.int .i64 m.len))
        | some (.array n _), some [_], _ => pureOut (one (.int .i64 n))
        | _, _, _ => none)
     | .builtin .append =>
       (match c.argTypes.toList, mapOps (ρ gs) c.args.toList, cont with
        | [t, t'], some [.fv (.one s), .fv (.one x)], cont => if t = t' then appOut P t self s x cont else none
        | _, _, _ => none)
     | .builtin .copy =>
       (match c.argTypes.toList, mapOps (ρ gs) c.args.toList, cont with
        | [t, _], some [.fv (.one (.own _)), .fv (.one (.slc _ m'))], [.row e m] => (match elemOf P t, m'.as m.k with
          | some e', some l => (match P.info? e' with
            | some i => if e' = e ∧ m.sz = i.size then some { need := [], val := none, wr := some [.val (.row e ⟨m.k, l.take m.len ++ m.l.drop l.length⟩)] } else none
            | none => none)
          | _, _ => none)
        | _, _, _ => none)
     | .builtin .min => (match mapOps (ρ gs) c.args.toList with
       | some (.fv (.one (.int k n)) :: rest) => (match foldF minF (.int k n) rest with | some c => pureOut (one c) | none => none)
       | _ => none)
     | .builtin .max => (match mapOps (ρ gs) c.args.toList with
       | some (.fv (.one (.int k n)) :: rest) => (match foldF maxF (.int k n) rest with | some c => pureOut (one c) | none => none)
       | _ => none)
     | _ => none)
  | _ => none

/-- What is written is known, or given up. -/
def MRes.sure : MRes → Bool
  | .val _ | .lost => true
  | _ => false
def wrOk (o : Oper) (l : List MRes) : Bool := writes o && l.all MRes.sure

/-- The guard of an operation: the temporary that is asked, and what it must be. -/
def guardOf (ops : Array Oper) (o : Oper) : Option (Option (Nat × Bool)) :=
  match o.guard with
  | none => some none
  | some (j, want) => (match (ops[j]?).bind (·.dst) with
    | some d => some (some (d, want))
    | none => none)

/-- The bool in a guard's temporary. -/
def guardBool (tmps : Nat → TV) (d : Nat) : Option Bool :=
  match tmps d with
  | .val (.fv (.one (.bool b))) => some b
  | .opt _ _ (.fv (.one (.bool b))) => some b
  | _ => none

def setM (mem : Nat → MRes) (id : Nat) (r : MRes) : Nat → MRes := fun k => bif Nat.beq k id then r else mem k

def applyU (mem : Nat → MRes) : List (Nat × MRes) → Nat → MRes
  | [] => mem
  | u :: us => applyU (setM mem u.1 u.2) us

def contOf (gs : List (Nat × Bool)) (mem : Nat → MRes) : List Nat → Option (List Res)
  | [] => some []
  | id :: ids =>
    match mem id, contOf gs mem ids with
    | .val r, some l => some (r :: l)
    | .opt gt want r, some l => if gs.any (fun g => g.1 == gt && g.2 == want) then some (r :: l) else none
    | _, _ => none

def putTmp (tmps : Nat → TV) (dst : Option Nat) (v : TV) : Nat → TV :=
  match dst with
  | some d => fun t => bif Nat.beq t d then v else tmps t
  | none => tmps

def tvOf (tw : PV → TV) : Option PV → TV
  | some v => tw v
  | none => .any

/-- What an operation comes to: what it needs, what is then known of its temporary, what becomes of own blocks. -/
def scomp (P : Program) (ctrs : FuncId → Option Contract) (ops : Array Oper) (o : Oper) (self : Nat) (fp : List Nat) (tmps : Nat → TV) (mem : Nat → MRes) : Option (List Prop × TV × List (Nat × MRes)) :=
  match guardOf ops o with
  | none => none
  | some none =>
    if plan o (rdOp tmps []) = fp then
      (match contOf [] mem fp with
       | some cont => (match core P ctrs o (rdOp tmps) [] self fp cont with
         | some out =>
           (match out.wr, out.new with
            | none, none => some (out.need, tvOf .val out.val, [])
            | none, some r => some (out.need, tvOf .val out.val, [(self, .val r)])
            | some l, none => if wrOk o l then some (out.need, tvOf .val out.val, fp.zip l) else none
            | some l, some r => if wrOk o l then some (out.need, tvOf .val out.val, fp.zip l ++ [(self, .val r)]) else none)
         | none => none)
       | none => none)
    else none
  | some (some (d, want)) =>
    if o.dst = some d then none else
    match guardBool tmps d with
    | none => none
    | some b =>
      if plan o (rdOp tmps [(d, want)]) = fp then
        (match contOf [(d, want)] mem fp with
         | some cont => (match core P ctrs o (rdOp tmps) [(d, want)] self fp cont with
           | some out =>
             (match out.wr, out.new with
              | none, none => some (out.need.map fun p => b = want → p, tvOf (.opt d want) out.val, [])
              | none, some r => some (out.need.map fun p => b = want → p, tvOf (.opt d want) out.val, [(self, .opt d want r)])
              | _, _ => none)
           | none => none)
         | none => none)
      else none

/-- One operation of a region whose blocks are numbered from 'base' on; 'fp': what it is to touch. -/
def sstep (P : Program) (ctrs : FuncId → Option Contract) (ops : Array Oper) (base i : Nat) (fp : List Nat) (σ : St) : Option (List Prop × St) :=
  match ops[i]? with
  | none => none
  | some o => if !(o.dst.all fun d => Nat.blt d σ.sz) then none else (match scomp P ctrs ops o (base + i) fp σ.tmps σ.mem with
    | some (ps, tv, us) => some (ps, { sz := σ.sz, tmps := putTmp σ.tmps o.dst tv, next := σ.next, mem := applyU σ.mem us })
    | none => none)

/-- The first run, in the text's order: what does each operation touch? -/
def fpOf (ops : Array Oper) (i : Nat) (σ : St) : List Nat :=
  match ops[i]? with
  | none => []
  | some o => (match guardOf ops o with
    | some (some g) => plan o (rdOp σ.tmps [g])
    | _ => plan o (rdOp σ.tmps []))

def srun (P : Program) (ctrs : FuncId → Option Contract) (ops : Array Oper) (base : Nat) : (n i : Nat) → St → Option (List Prop × List (List Nat) × St)
  | 0, _, σ => some ([], [], σ)
  | n + 1, i, σ =>
    let fp := fpOf ops i σ
    match sstep P ctrs ops base i fp σ with
    | none => none
    | some (p, σ') => (match srun P ctrs ops base n (i + 1) σ' with
      | some (q, fps, σ'') => some (p ++ q, fp :: fps, σ'')
      | none => none)

def disj (a b : List Nat) : Bool := a.all fun x => !b.contains x

def memApart (ops : Array Oper) (fps : List (List Nat)) (base i j : Nat) : Bool :=
  let a := fps.getD i []
  let b := fps.getD j []
  (disj a b || (!((ops[i]?).map writes).getD true && !((ops[j]?).map writes).getD true)) && !a.contains (base + j) && !b.contains (base + i)

/-- Operation 'l' waits for 'i'. -/
def waitsFor (ops : Array Oper) (i l : Nat) : Bool :=
  match ops[l]? with
  | some z => z.after.any fun e => Region.binds .any e && e.on == i
  | none => false

/-- Every other operation that has not come up waits for 'i', itself or through another one, or is apart from it. -/
def freeAt (ops : Array Oper) (fps : List (List Nat)) (base i : Nat) : Bool :=
  (List.range ops.size).all fun j =>
    j ≤ i ||
    (match ops[i]?, ops[j]? with
     | some x, some y => y.after.any (fun e => Region.binds .any e && (e.on == i || waitsFor ops i e.on)) || (x.apart ops y && memApart ops fps base i j)
     | _, _ => false)

def readyAt (ops : Array Oper) (i : Nat) : Bool :=
  match ops[i]? with
  | some o => o.after.all fun e => !Region.binds .any e || decide (e.on < i)
  | none => false

def orderOk (ops : Array Oper) (fps : List (List Nat)) (base : Nat) : Bool :=
  (List.range ops.size).all fun i => readyAt ops i && freeAt ops fps base i

def dsts (ops : Array Oper) : List Nat := ops.toList.filterMap (·.dst)

def nodupB : List Nat → Bool
  | [] => true
  | x :: xs => !xs.contains x && nodupB xs

def closeT : TV → TV
  | .opt _ _ _ => .any
  | v => v
def closeM : MRes → MRes
  | .opt _ _ _ => .lost
  | m => m

def guardsOk (ops : Array Oper) : Bool :=
  (List.range ops.size).all fun i =>
    match ops[i]? with
    | some o => (match o.guard with
      | some (j, _) => decide (j < i) && o.after.any (fun e => Region.binds .any e && e.on == j)
      | none => true)
    | none => true

def sregion (P : Program) (ctrs : FuncId → Option Contract) (ops : Array Oper) (draw : Bool) (σ : St) : Option (List Prop × St) :=
  let base := σ.next
  match srun P ctrs ops base ops.size 0 { sz := σ.sz, tmps := fun t => closeT (σ.tmps t), next := base + ops.size, mem := fun k => bif Nat.blt k base then closeM (σ.mem k) else .free } with
  | none => none
  | some (p, fps, σ') =>
    if nodupB (dsts ops) && guardsOk ops && (!draw || orderOk ops fps base) then some (p, σ') else none

inductive Ex where
  | norm
  | ret
  | exit (id : Nat)

/-- 'any': one of two, whichever; the first only where 'ps' hold. -/
inductive Tree where
  | leaf (e : Ex) (σ : St)
  | pre (ps : List Prop) (t : Tree)
  | ite (b : Bool) (t e : Tree)
  | any (ps : List Prop) (t e : Tree)
  | fail

def Tree.bind (k : St → Tree) : Tree → Tree
  | .leaf .norm σ => k σ
  | .leaf e σ => .leaf e σ
  | .pre ps t => .pre ps (t.bind k)
  | .ite b t e => .ite b (t.bind k) (e.bind k)
  | .any ps t e => .any ps (t.bind k) (e.bind k)
  | .fail => .fail

def Tree.inBlock (id : Nat) : Tree → Tree
  | .leaf (.exit i) σ => .leaf (if i = id then .norm else .exit i) σ
  | .leaf e σ => .leaf e σ
  | .pre ps t => .pre ps (t.inBlock id)
  | .ite b t e => .ite b (t.inBlock id) (e.inBlock id)
  | .any ps t e => .any ps (t.inBlock id) (e.inBlock id)
  | .fail => .fail

def preT (ps : List Prop) (t : Tree) : Tree :=
  match ps with
  | [] => t
  | p :: ps => .pre (p :: ps) t

/-- The number of the first region in a code: a loop's name. -/
def firstRegion : Code → Nat
  | .region id _ _ => id
  | .seq a _ => firstRegion a
  | .cond _ a _ => firstRegion a
  | .block _ a => firstRegion a
  | .loop a => firstRegion a
  | _ => 0

def sexec (P : Program) (ctrs : FuncId → Option Contract) (lps : Nat → St → Tree) : Code → St → Tree
  | .skip, σ => .leaf .norm σ
  | .region _ ops draw, σ => (match sregion P ctrs ops draw σ with
    | some (p, σ') => preT p (.leaf .norm σ')
    | none => .fail)
  | .seq a b, σ => (sexec P ctrs lps a σ).bind (sexec P ctrs lps b)
  | .cond c x y, σ => (match rdOp σ.tmps [] c with
    | some (.fv (.one (.bool b))) => .ite b (sexec P ctrs lps x σ) (sexec P ctrs lps y σ)
    | some (.isn m) => .any [m.len = 0] (sexec P ctrs lps x σ) (sexec P ctrs lps y σ)
    | _ => .fail)
  | .block id c, σ => (sexec P ctrs lps c σ).inBlock id
  | .loop c, σ => lps (firstRegion c) σ
  | .exit id, σ => .leaf (.exit id) σ
  | .ret, σ => .leaf .ret σ
  | _, _ => .fail

/-- A cell, as it is handed back. -/
def outC (P : Program) (mem : Nat → MRes) (T : TypeId) (c : Cell) : Option Cell :=
  match c with
  | .int k n => some (.int k n)
  | .bool b => some (.bool b)
  | .slc nw m => (match nw with
    | true => some (.slc true m)
    | false => some .unk)
  | .unk => some .unk
  | .own id => (match mem id with
    | .val (.row _ m) => if m.k.flat then some (.slc true m) else none
    | _ => none)
  | .raw v => if nilV v then (match P.underlying T with
    | some (.slice e) => (match kindOf P e with | some k => some (.slc true ⟨k, []⟩) | none => some (.raw v))
    | _ => some (.raw v)) else some (.raw v)
  | _ => none
def outCs (P : Program) (mem : Nat → MRes) : List TypeId → List Cell → Option (List Cell)
  | t :: ts, c :: cs => (match outC P mem t c, outCs P mem ts cs with
    | some c, some cs => some (c :: cs)
    | _, _ => none)
  | [], [] => some []
  | _, _ => none
def outF (P : Program) (mem : Nat → MRes) (T : TypeId) : FV → Option FV
  | .one c => (outC P mem T c).map .one
  | .agg cs => (outCs P mem (leafTys P 8 T) cs).map .agg

def resOf (P : Program) (σ : St) : ResultVar → Option FV
  | .tmp t => (match σ.tmps t with
    | .val (.fv v) => some v
    | _ => none)
  | .cell a T => (match σ.tmps a with
    | .val (.fv (.one (.ref id off))) => (match σ.mem id with
      | .val (.blk _ cs) => partOf P T cs off
      | _ => none)
    | _ => none)

def resAll (P : Program) (σ : St) : List ResultVar → List TypeId → Option (List FV)
  | [], [] => some []
  | r :: rs, T :: Ts => (match resOf P σ r, resAll P σ rs Ts with
    | some v, some l => (match outF P σ.mem T v with
      | some v => some (v :: l)
      | none => none)
    | _, _ => none)
  | _, _ => none

/-- One result that is a slice of the call's own is handed back for the caller to keep. -/
def freshV (P : Program) (fn : Func) (σ : St) : Option PV :=
  match fn.results.toList, fn.resultTypes.toList with
  | [r], [T] => (match elemOf P T, resOf P σ r with
    | some _, some (.one (.own id)) => (match σ.mem id with
      | .val (.row e m) => if m.k.flat then some (.fv (.one (.fresh e m))) else none
      | _ => none)
    | some e, some (.one (.raw v)) => if nilV v then (match kindOf P e with
      | some k => if k.flat then some (.fv (.one (.fresh e ⟨k, []⟩))) else none
      | none => none) else none
    | _, _ => none)
  | _, _ => none

def retV (P : Program) (fn : Func) (σ : St) : Option PV :=
  match freshV P fn σ with
  | some v => some v
  | none => (match resAll P σ fn.results.toList fn.resultTypes.toList with
    | some [v] => some (.fv v)
    | some l => some (.tup l)
    | none => none)

def treeRes (P : Program) (fn : Func) : Tree → Option (List Prop × PV)
  | .leaf .norm σ | .leaf .ret σ => (match retV P fn σ with
    | some v => some ([], v)
    | none => none)
  | .leaf (.exit _) _ => none
  | .pre ps t => (match treeRes P fn t with
    | some (qs, v) => some (ps ++ qs, v)
    | none => none)
  | .ite b t e => (match treeRes P fn t, treeRes P fn e with
    | some (p, v), some (q, u) => (match condV b v u with
      | some r => some ((p.map fun x => b = true → x) ++ (q.map fun x => b = false → x), r)
      | none => none)
    | _, _ => none)
  | .any ps t e => (match treeRes P fn t, treeRes P fn e with
    | some (p, v), some (q, u) => some ((p.map fun x => Conj ps → x) ++ (Conj ps → v = u) :: q, u)
    | _, _ => none)
  | .fail => none

def start (fn : Func) (args : List PV) : St :=
  { sz := args.length + (fn.ntmps - args.length), tmps := fun t => (match args[t]? with | some v => .val v | none => .any), next := 0, mem := fun _ => .free }

def symFn (P : Program) (ctrs : FuncId → Option Contract) (lps : Nat → St → Tree) (f : FuncId) (args : List PV) : Option (List Prop × PV) :=
  match P.funcs[f]? with
  | none => none
  | some fn => (match fn.body with
    | none => none
    | some c => (match treeRes P fn (sexec P ctrs lps c (start fn args)) with
      | some (ps, .fv (.one (.fresh e m))) => some (ps, .fv (.one (.fresh e m)))
      | some (ps, v) => if v.plain then some (ps, v) else none
      | none => none))

/-- The bodies of a code's loops. -/
def loopsOf : Code → List Code
  | .seq a b => loopsOf a ++ loopsOf b
  | .cond _ a b => loopsOf a ++ loopsOf b
  | .block _ a => loopsOf a
  | .loop a => [a]
  | _ => []

end Go.Eng
