/- THE ENGINE, PART 3: what a symbolic state says of a frame and a world. -/
import Derived.Test.YtlplaoiapleogaaEngOrder
namespace Go.Eng
open Go.RowKit

structure Env where
  β : Nat → Nat
  γ : Nat → Value
  α : Nat → Value
  ν : Nat → Value

/-- The base: 'wb' bears what fixed slices read, 'we' is the world at the call's entry. -/
structure Base where
  wb : World
  we : World
  hb : Below wb.heap.size wb we

def Hd.val (E : Env) : Hd → Value
  | .fix v => v
  | .arg id => E.α id
  | .new k _ => E.ν k

def Base.at (B : Base) : Hd → World
  | .fix _ => B.wb
  | _ => B.we

/-- A pointer into a slice's array. -/
def slcAt : Value → Nat → Value
  | .slice (some a) _ _, o => .pointer (some (a.add o))
  | _, _ => undef

def Cell.den (E : Env) : Cell → Value
  | .int k n => .int k n
  | .bool b => .bool b
  | .ref id off => .pointer (some ⟨E.β id, off, none⟩)
  | .raw v => v
  | .slc h _ _ _ => h.val E
  | .rp h sz i off _ => slcAt (h.val E) (i * sz + off)
  | .own id => E.γ id
  | .orp id sz i off => slcAt (E.γ id) (i * sz + off)

/-- Cells that only read: their value without an environment. -/
def Cell.den0 : Cell → Value
  | .int k n => .int k n
  | .bool b => .bool b
  | .raw v => v
  | .slc (.fix v) _ _ _ => v
  | _ => undef

def Cell.ok0 (w : World) : Cell → Prop
  | .int _ _ => True
  | .bool _ => True
  | .raw v => v.oneCell' = true
  | .slc (.fix v) sz n get => (v = .slice none 0 0 ∧ n = 0) ∨ ∃ a cap, v = .slice (some a) n cap ∧ ∀ i j, i < n → j < sz → w.cell? (a.add (i * sz + j)) = some (get i j).den0 ∧ (get i j).ok0 w
  | _ => False

/-- The slice value v reads as the cells of 'get'. -/
def SlcOk (w wb : World) (v : Value) (sz n : Nat) (get : Nat → Nat → Cell) : Prop :=
  (v = .slice none 0 0 ∧ n = 0) ∨ ∃ a cap, v = .slice (some a) n cap ∧ ∀ i j, i < n → j < sz → w.cell? (a.add (i * sz + j)) = some (get i j).den0 ∧ (get i j).ok0 wb

def Cell.ok (E : Env) (B : Base) : Cell → Prop
  | .raw v => v.oneCell' = true
  | .slc h sz n get => SlcOk (B.at h) B.wb (h.val E) sz n get
  | .rp h sz i _ get => ∃ a len cap, h.val E = .slice (some a) len cap ∧ ∀ j, j < sz → (B.at h).cell? (a.add (i * sz + j)) = some (get j).den0 ∧ (get j).ok0 B.wb
  | .own id => (E.γ id).oneCell' = true
  | .orp id sz i off => (slcAt (E.γ id) (i * sz + off)).oneCell' = true
  | _ => True

def Live (mem : Nat → MRes) (id : Nat) : Prop := mem id ≠ .free

def Cell.fits (mem : Nat → MRes) : Cell → Prop
  | .ref id _ => Live mem id
  | .own id => Live mem id
  | .orp id _ _ _ => Live mem id
  | _ => True

def FV.den (E : Env) : FV → Value
  | .one c => c.den E
  | .agg cs => .agg (cs.map (Cell.den E)).toArray

def PV.den (E : Env) : PV → Value
  | .fv v => v.den E
  | .tup l => .tuple (l.map (FV.den E)).toArray

def PV.cells : PV → List Cell
  | .fv v => v.cells
  | .tup l => l.flatMap FV.cells

def Good (E : Env) (B : Base) (mem : Nat → MRes) (c : Cell) : Prop := c.ok E B ∧ c.fits mem
def GoodV (E : Env) (B : Base) (mem : Nat → MRes) (v : PV) : Prop := ∀ c ∈ v.cells, Good E B mem c

/-- The slice value v is the call's own: its array lies from block 'base' on. -/
def OwnRow (w : World) (base : Nat) (e : TypeId) (sz : Nat) (v : Value) (n : Nat) (f : Nat → Nat → Value) : Prop :=
  (v = .slice none 0 0 ∧ n = 0) ∨
  ∃ g cap cur, v = .slice (some ⟨g, 0, none⟩) n cap ∧ base ≤ g ∧ w.heap[g]? = some (.cells cur e (0, 0)) ∧ n ≤ cap ∧ cap ≤ maxLen ∧ cur.size = cap * sz ∧
    ∀ i j, i < n → j < sz → cur[i * sz + j]? = some (f i j)

def RRel (B : Base) (E : Env) (mem : Nat → MRes) (w : World) (id : Nat) : Res → Prop
  | .blk T cs => B.we.heap.size ≤ E.β id ∧ w.heap[E.β id]? = some (.cells (cs.map (Cell.den E)).toArray T (0, 0)) ∧ ∀ c ∈ cs, Good E B mem c
  | .row e sz n get => OwnRow w B.we.heap.size e sz (E.γ id) n (fun i j => (get i j).den0) ∧ ∀ i j, i < n → j < sz → (get i j).ok0 B.wb

def blkNo (E : Env) (id : Nat) : Res → Option Nat
  | .blk _ _ => some (E.β id)
  | .row _ _ _ _ => (E.γ id).ownBlock

def TVRel (B : Base) (E : Env) (mem : Nat → MRes) (tmps : Array Value) : TV → Value → Prop
  | .any, _ => True
  | .val v, x => x = v.den E ∧ GoodV E B mem v
  | .opt gt want v, x => (tmps.getD gt undef = .bool want → x = v.den E ∧ GoodV E B mem v) ∧ (tmps.getD gt undef ≠ .bool want → x = undef)

/-- Own block 'id' holds 'r' (where its guard holds). -/
def Has (mem : Nat → MRes) (tmps : Array Value) (id : Nat) (r : Res) : Prop :=
  mem id = .val r ∨ ∃ gt want, mem id = .opt gt want r ∧ tmps.getD gt undef = .bool want

structure RelE (B : Base) (E : Env) (σ : St) (a : Act) (w : World) : Prop where
  defers : a.defers = []
  len : a.tmps.size = σ.sz
  tmp : ∀ t, TVRel B E σ.mem a.tmps (σ.tmps t) (a.tmps.getD t undef)
  below : Below B.we.heap.size B.we w
  nx : ∀ k, σ.next ≤ k → σ.mem k = .free
  mem : ∀ id r, Has σ.mem a.tmps id r → RRel B E σ.mem w id r
  sep : ∀ id id' r r', Has σ.mem a.tmps id r → Has σ.mem a.tmps id' r' → id ≠ id' → ∀ b, blkNo E id r = some b → blkNo E id' r' ≠ some b

def Rel (B : Base) (E0 : Env) (σ : St) (a : Act) (w : World) : Prop := ∃ E, E.α = E0.α ∧ RelE B E σ a w

/-! ### reading cells -/

/-- The value of a good cell is one cell. -/
theorem oneCell_den {E : Env} {B : Base} {c : Cell} (h : c.ok E B) : (c.den E).oneCell' = true := by
  cases c with
  | slc hd sz n get =>
    rcases h with ⟨hv, _⟩ | ⟨a, cap, hv, _⟩ <;> simp only [Cell.den, hv] <;> rfl
  | rp hd sz i off get =>
    obtain ⟨a, len, cap, hv, _⟩ := h
    simp only [Cell.den, hv]; rfl
  | raw v => exact h
  | own id => exact h
  | orp id sz i off => exact h
  | _ => rfl

theorem cell?_below {w w' : World} (h : Below w.heap.size w w') {a : Addr} {v : Value} (hc : w.cell? a = some v) : w'.cell? a = some v := by
  rw [h.cell (World.block_lt_of_cell? w a hc)]; exact hc

theorem ok0_below {w w' : World} (h : Below w.heap.size w w') : ∀ {c : Cell}, c.ok0 w → c.ok0 w' := by
  intro c
  induction c with
  | slc hd sz n get ih =>
    cases hd with
    | fix v =>
      intro hc
      rcases hc with hc | ⟨a, cap, hv, hcs⟩
      · exact .inl hc
      · exact .inr ⟨a, cap, hv, fun i j hi hj => ⟨cell?_below h (hcs i j hi hj).1, ih i j (hcs i j hi hj).2⟩⟩
    | arg id => exact fun hc => hc
    | new k e => exact fun hc => hc
  | _ => exact fun hc => hc

theorem Base.cell_we (B : Base) {hd : Hd} {a : Addr} {v : Value} (h : (B.at hd).cell? a = some v) : B.we.cell? a = some v := by
  cases hd with
  | fix x => exact cell?_below B.hb h
  | arg k => exact h
  | new k e => exact h

/-- A cell that only reads: its value, and that it is good. -/
theorem ok0_good {B : Base} {c : Cell} (h : c.ok0 B.wb) (E : Env) (mem : Nat → MRes) : c.den E = c.den0 ∧ Good E B mem c := by
  cases c with
  | slc hd sz n get =>
    cases hd with
    | fix v => exact ⟨rfl, h, trivial⟩
    | arg id => exact h.elim
    | new k e => exact h.elim
  | int k n => exact ⟨rfl, trivial, trivial⟩
  | bool b => exact ⟨rfl, trivial, trivial⟩
  | raw v => exact ⟨rfl, h, trivial⟩
  | ref _ _ => exact h.elim
  | rp _ _ _ _ _ => exact h.elim
  | own _ => exact h.elim
  | orp _ _ _ _ => exact h.elim

/-! ### a change of the environment at a block that nobody names yet -/

/-- E' is E but at 'id'. -/
structure Env.Off (E E' : Env) (id : Nat) : Prop where
  β : ∀ k, k ≠ id → E'.β k = E.β k
  γ : ∀ k, k ≠ id → E'.γ k = E.γ k
  α : E'.α = E.α
  ν : E'.ν = E.ν

theorem ne_of_live {mem : Nat → MRes} {id k : Nat} (hf : mem id = .free) (h : Live mem k) : k ≠ id := by
  rintro rfl
  exact h hf

theorem Hd.val_off {E E' : Env} {id : Nat} (h : E.Off E' id) (hd : Hd) : hd.val E' = hd.val E := by
  cases hd with
  | fix v => rfl
  | arg k => show E'.α k = E.α k; rw [h.α]
  | new k e => show E'.ν k = E.ν k; rw [h.ν]

theorem den_off {E E' : Env} {id : Nat} (h : E.Off E' id) {mem : Nat → MRes} (hf : mem id = .free) {c : Cell} (hc : c.fits mem) : c.den E' = c.den E := by
  cases c with
  | ref k off => simp only [Cell.den, h.β k (ne_of_live hf hc)]
  | own k => exact h.γ k (ne_of_live hf hc)
  | orp k sz i off => simp only [Cell.den, h.γ k (ne_of_live hf hc)]
  | slc hd sz n get => exact Hd.val_off h hd
  | rp hd sz i off get => simp only [Cell.den, Hd.val_off h hd]
  | _ => rfl

theorem ok_off {E E' : Env} {id : Nat} (h : E.Off E' id) {mem : Nat → MRes} (hf : mem id = .free) {B : Base} {c : Cell} (hc : Good E B mem c) : c.ok E' B := by
  obtain ⟨h1, h2⟩ := hc
  cases c with
  | slc hd sz n get => simp only [Cell.ok, Hd.val_off h hd]; exact h1
  | rp hd sz i off get => simp only [Cell.ok, Hd.val_off h hd]; exact h1
  | own k => simp only [Cell.ok, h.γ k (ne_of_live hf h2)]; exact h1
  | orp k sz i off => simp only [Cell.ok, h.γ k (ne_of_live hf h2)]; exact h1
  | _ => exact h1

theorem fits_mono {mem mem' : Nat → MRes} (hl : ∀ k, Live mem k → Live mem' k) {c : Cell} (h : c.fits mem) : c.fits mem' := by
  cases c with
  | ref k off => exact hl _ h
  | own k => exact hl _ h
  | orp k sz i off => exact hl _ h
  | _ => exact h

theorem Live_set {mem : Nat → MRes} {id : Nat} {m : MRes} (hm : m ≠ .free) (k : Nat) (h : Live mem k) : Live (setM mem id m) k := by
  by_cases hk : id = k
  · subst hk
    unfold Live
    rw [setM_self]; exact hm
  · unfold Live
    rw [setM_ne _ _ hk]; exact h

theorem Good_off {E E' : Env} {id : Nat} (h : E.Off E' id) {mem mem' : Nat → MRes} (hf : mem id = .free) (hl : ∀ k, Live mem k → Live mem' k) {B : Base} {c : Cell} (hc : Good E B mem c) : Good E' B mem' c :=
  ⟨ok_off h hf hc, fits_mono hl hc.2⟩
theorem FV.den_off {E E' : Env} {id : Nat} (h : E.Off E' id) {mem : Nat → MRes} (hf : mem id = .free) {v : FV} (hc : ∀ c ∈ v.cells, c.fits mem) : v.den E' = v.den E := by
  cases v with
  | one c => exact Eng.den_off h hf (hc c (by simp [FV.cells]))
  | agg cs =>
    simp only [FV.den]
    congr 2
    exact List.map_congr_left fun c hm => Eng.den_off h hf (hc c hm)

theorem PV.den_off {E E' : Env} {id : Nat} (h : E.Off E' id) {mem : Nat → MRes} (hf : mem id = .free) {v : PV} (hc : ∀ c ∈ v.cells, c.fits mem) : v.den E' = v.den E := by
  cases v with
  | fv v => exact FV.den_off h hf hc
  | tup l =>
    simp only [PV.den]
    congr 2
    exact List.map_congr_left fun v hm => FV.den_off h hf fun c hc' => hc c (List.mem_flatMap.2 ⟨v, hm, hc'⟩)

/-! ### how a relation is carried on -/

theorem getD_put_ne {a : Act} {dst : Option Nat} {x : Value} {t : Nat} (h : dst ≠ some t) : (a.put dst x).tmps.getD t undef = a.tmps.getD t undef := by
  cases dst with
  | none => rfl
  | some d =>
    have hne : d ≠ t := fun e => h (by rw [e])
    simp [Act.put, Array.getElem?_setIfInBounds_ne hne]

/-- Nothing of the state hangs on the temporary 'd'. -/
structure NoOptOn (σ : St) (d : Nat) : Prop where
  tmp : ∀ (t : Nat) (w : Bool) (v : PV), σ.tmps t ≠ TV.opt d w v
  mem : ∀ (id : Nat) (w : Bool) (r : Res), σ.mem id ≠ MRes.opt d w r

theorem Has_put {mem : Nat → MRes} {a : Act} {dst : Option Nat} {x : Value} (hn : ∀ d, dst = some d → ∀ (id : Nat) (w : Bool) (r : Res), mem id ≠ MRes.opt d w r) {id : Nat} {r : Res} :
    Has mem (a.put dst x).tmps id r ↔ Has mem a.tmps id r := by
  unfold Has
  constructor
  · rintro (h | ⟨gt, want, h1, h2⟩)
    · exact .inl h
    · refine .inr ⟨gt, want, h1, ?_⟩
      rwa [getD_put_ne (fun e => hn gt e id want r h1)] at h2
  · rintro (h | ⟨gt, want, h1, h2⟩)
    · exact .inl h
    · refine .inr ⟨gt, want, h1, ?_⟩
      rwa [getD_put_ne (fun e => hn gt e id want r h1)]

/-- A temporary is written. -/
theorem RelE.put {B : Base} {E : Env} {σ : St} {a : Act} {w : World} (h : RelE B E σ a w) {dst : Option Nat} {tv : TV} {x : Value} (hd : ∀ d, dst = some d → d < σ.sz) (hn : ∀ d, dst = some d → NoOptOn σ d)
    (hv : ∀ d, dst = some d → TVRel B E σ.mem (a.put dst x).tmps tv x) : RelE B E { sz := σ.sz, tmps := putTmp σ.tmps dst tv, next := σ.next, mem := σ.mem } (a.put dst x) w where
  defers := by cases dst <;> exact h.defers
  len := by cases dst <;> simp [Act.put, h.len]
  tmp := by
    intro t
    by_cases hdt : dst = some t
    · subst hdt
      simp only [putTmp_self]
      have hlt' : t < a.tmps.size := by rw [h.len]; exact hd t rfl
      have : (a.put (some t) x).tmps.getD t undef = x := by simp [Act.put, hlt']
      rw [this]
      exact hv t rfl
    · simp only
      rw [putTmp_ne hdt, getD_put_ne hdt]
      have h1 := h.tmp t
      cases htv : σ.tmps t with
      | any => trivial
      | val v => rw [htv] at h1; exact h1
      | opt gt want v =>
        rw [htv] at h1
        simp only [TVRel]
        rw [getD_put_ne (fun e => (hn gt e).tmp t want v htv)]
        exact h1
  below := h.below
  nx := h.nx
  mem := fun id r hh => h.mem id r ((Has_put fun d e => (hn d e).mem).1 hh)
  sep := fun id id' r r' h1 h2 => h.sep id id' r r' ((Has_put fun d e => (hn d e).mem).1 h1) ((Has_put fun d e => (hn d e).mem).1 h2)

theorem heap_lt {w : World} {b : Nat} {o : Obj} (h : w.heap[b]? = some o) : b < w.heap.size := (Array.getElem?_eq_some_iff.1 h).1

theorem OwnRow.kept {w w' : World} {base : Nat} {e : TypeId} {sz : Nat} {v : Value} {n : Nat} {f : Nat → Nat → Value} (h : OwnRow w base e sz v n f) (hk : ∀ b, v.ownBlock = some b → w'.heap[b]? = w.heap[b]?) :
    OwnRow w' base e sz v n f := by
  rcases h with h | ⟨g, cap, cur, hv, hb, hg, rest⟩
  · exact .inl h
  · exact .inr ⟨g, cap, cur, hv, hb, by rw [hk g (by simp [hv, Value.ownBlock])]; exact hg, rest⟩

theorem OwnRow.lt {w : World} {base : Nat} {e : TypeId} {sz : Nat} {v : Value} {n : Nat} {f : Nat → Nat → Value} (h : OwnRow w base e sz v n f) {b : Nat} (hb : v.ownBlock = some b) : base ≤ b ∧ b < w.heap.size := by
  rcases h with ⟨rfl, _⟩ | ⟨g, cap, cur, rfl, h1, hg, _⟩
  · simp [Value.ownBlock] at hb
  · simp [Value.ownBlock] at hb
    subst hb
    exact ⟨h1, heap_lt hg⟩

theorem RRel.lt {B : Base} {E : Env} {mem : Nat → MRes} {w : World} {id : Nat} {r : Res} (h : RRel B E mem w id r) {b : Nat} (hb : blkNo E id r = some b) : B.we.heap.size ≤ b ∧ b < w.heap.size := by
  cases r with
  | blk T cs =>
    simp [blkNo] at hb
    subst hb
    exact ⟨h.1, heap_lt h.2.1⟩
  | row e sz n get => exact h.1.lt hb

/-- The world grows; blocks that are there stay (but for those in 'b's of which nothing is known). -/
theorem RRel.kept {B : Base} {E : Env} {mem : Nat → MRes} {w w' : World} {id : Nat} {r : Res} (h : RRel B E mem w id r) (hk : ∀ b, blkNo E id r = some b → w'.heap[b]? = w.heap[b]?) : RRel B E mem w' id r := by
  cases r with
  | blk T cs => exact ⟨h.1, by rw [hk _ rfl]; exact h.2.1, h.2.2⟩
  | row e sz n get => exact ⟨h.1.kept hk, h.2⟩

theorem RelE.grow {B : Base} {E : Env} {σ : St} {a : Act} {w w' : World} (h : RelE B E σ a w) (hb : Below w.heap.size w w') : RelE B E σ a w' where
  defers := h.defers
  len := h.len
  tmp := h.tmp
  below := h.below.trans (hb.mono h.below.size)
  nx := h.nx
  mem := fun id r hh => (h.mem id r hh).kept fun b hb' => hb.block b ((h.mem id r hh).lt hb').2
  sep := h.sep

theorem Has_set {mem : Nat → MRes} {tmps : Array Value} {k : Nat} {m : MRes} {id : Nat} {r : Res} (hne : k ≠ id) : Has (setM mem k m) tmps id r ↔ Has mem tmps id r := by
  unfold Has
  rw [setM_ne _ _ hne]

theorem Has.live {mem : Nat → MRes} {tmps : Array Value} {id : Nat} {r : Res} (h : Has mem tmps id r) : Live mem id := by
  unfold Live
  rcases h with h | ⟨gt, want, h, _⟩ <;> rw [h] <;> simp

theorem blkNo_off {E E' : Env} {id : Nat} (h : E.Off E' id) {mem : Nat → MRes} (hf : mem id = .free) {tmps : Array Value} {k : Nat} {r : Res} (hh : Has mem tmps k r) : blkNo E' k r = blkNo E k r := by
  have hne := ne_of_live hf hh.live
  cases r with
  | blk T cs => simp only [blkNo, h.β k hne]
  | row e sz n get => simp only [blkNo, h.γ k hne]

theorem RRel_off {B : Base} {E E' : Env} {id : Nat} (h : E.Off E' id) {mem mem' : Nat → MRes} (hf : mem id = .free) (hl : ∀ k, Live mem k → Live mem' k) {w : World} {k : Nat} {r : Res} (hne : k ≠ id)
    (hr : RRel B E mem w k r) : RRel B E' mem' w k r := by
  cases r with
  | blk T cs =>
    obtain ⟨h1, h2, h3⟩ := hr
    refine ⟨by rw [h.β k hne]; exact h1, ?_, fun c hc => Good_off h hf hl (h3 c hc)⟩
    rw [h.β k hne, h2]
    have : cs.map (Cell.den E') = cs.map (Cell.den E) := List.map_congr_left fun c hc => den_off h hf (h3 c hc).2
    rw [this]
  | row e sz n get =>
    obtain ⟨h1, h2⟩ := hr
    refine ⟨?_, h2⟩
    rw [h.γ k hne]
    exact h1

theorem TVRel_off {B : Base} {E E' : Env} {id : Nat} (h : E.Off E' id) {mem mem' : Nat → MRes} (hf : mem id = .free) (hl : ∀ k, Live mem k → Live mem' k) {tmps : Array Value} {tv : TV} {x : Value}
    (hr : TVRel B E mem tmps tv x) : TVRel B E' mem' tmps tv x := by
  have key : ∀ v, x = v.den E ∧ GoodV E B mem v → x = v.den E' ∧ GoodV E' B mem' v := fun v hv =>
    ⟨by rw [PV.den_off h hf fun c hc => (hv.2 c hc).2]; exact hv.1, fun c hc => Good_off h hf hl (hv.2 c hc)⟩
  cases tv with
  | any => trivial
  | val v => exact key v hr
  | opt gt want v => exact ⟨fun hg => key v (hr.1 hg), hr.2⟩

/-- A resource comes into being at a free number. -/
theorem RelE.make {B : Base} {E E' : Env} {σ : St} {a : Act} {w : World} {id : Nat} {m : MRes} {r : Res} (h : RelE B E σ a w) (ho : E.Off E' id) (hf : σ.mem id = .free) (hlt : id < σ.next)
    (hm : m = .val r ∨ ∃ gt want, m = .opt gt want r) (hr : RRel B E' (setM σ.mem id m) w id r)
    (hs : ∀ k r', Has σ.mem a.tmps k r' → ∀ b, blkNo E k r' = some b → blkNo E' id r ≠ some b) : RelE B E' { sz := σ.sz, tmps := σ.tmps, next := σ.next, mem := setM σ.mem id m } a w := by
  have hmf : m ≠ .free := by rcases hm with rfl | ⟨_, _, rfl⟩ <;> simp
  have hl : ∀ k, Live σ.mem k → Live (setM σ.mem id m) k := Live_set hmf
  have hself : ∀ r', Has (setM σ.mem id m) a.tmps id r' → r' = r := by
    intro r' hh
    unfold Has at hh
    rw [setM_self] at hh
    rcases hm with rfl | ⟨gt, want, rfl⟩ <;> rcases hh with hh | ⟨_, _, hh, _⟩ <;> simp at hh
    · exact hh.symm
    · exact hh.2.2.symm
  refine ⟨h.defers, h.len, fun t => TVRel_off ho hf hl (h.tmp t), h.below, fun k hk => (by simp only; rw [setM_ne _ _ (show id ≠ k by simp only at hk; omega)]; exact h.nx k hk), fun k r' hh => ?_, fun k k' r1 r2 h1 h2 hne b hb => ?_⟩
  · by_cases hk : id = k
    · subst hk
      rw [hself r' hh]; exact hr
    · exact RRel_off ho hf hl (Ne.symm hk) (h.mem k r' ((Has_set hk).1 hh))
  · by_cases hk : id = k
    · subst hk
      have h2' := (Has_set hne).1 h2
      rw [hself r1 h1] at hb
      rw [blkNo_off ho hf h2']
      intro e
      exact hs k' r2 h2' b e hb
    · have h1' := (Has_set hk).1 h1
      rw [blkNo_off ho hf h1'] at hb
      by_cases hk' : id = k'
      · subst hk'
        rw [hself r2 h2]
        exact hs k r1 h1' b hb
      · have h2' := (Has_set hk').1 h2
        rw [blkNo_off ho hf h2']
        exact h.sep k k' r1 r2 h1' h2' hne b hb

/-- A resource is written. -/
theorem RelE.write {B : Base} {E : Env} {σ : St} {a : Act} {w w' : World} {id : Nat} {r r' : Res} (h : RelE B E σ a w) (hh : σ.mem id = .val r) (hno : blkNo E id r' = blkNo E id r)
    (hr : RRel B E (setM σ.mem id (.val r')) w' id r') (hb : Below B.we.heap.size B.we w') (hk : ∀ b, blkNo E id r ≠ some b → b < w.heap.size → w'.heap[b]? = w.heap[b]?) :
    RelE B E { sz := σ.sz, tmps := σ.tmps, next := σ.next, mem := setM σ.mem id (.val r') } a w' := by
  have hl : ∀ k, Live σ.mem k → Live (setM σ.mem id (.val r')) k := Live_set (by simp)
  have hgood : ∀ c, Good E B σ.mem c → Good E B (setM σ.mem id (.val r')) c := fun c hc => ⟨hc.1, fits_mono hl hc.2⟩
  have hhas : Has σ.mem a.tmps id r := .inl hh
  have hself : ∀ x, Has (setM σ.mem id (.val r')) a.tmps id x → x = r' := by
    intro x hx
    unfold Has at hx
    rw [setM_self] at hx
    rcases hx with hx | ⟨_, _, hx, _⟩ <;> simp at hx
    exact hx.symm
  have hrr : ∀ k x, RRel B E σ.mem w' k x → RRel B E (setM σ.mem id (.val r')) w' k x := by
    intro k x hx
    cases x with
    | blk T cs => exact ⟨hx.1, hx.2.1, fun c hc => hgood c (hx.2.2 c hc)⟩
    | row e sz n get => exact hx
  refine ⟨h.defers, h.len, fun t => ?_, hb, fun k hk => ?_, fun k x hx => ?_, fun k k' r1 r2 h1 h2 hne b hb' => ?_⟩
  · have h1 := h.tmp t
    simp only
    cases htv : σ.tmps t with
    | any => trivial
    | val v => rw [htv] at h1; exact ⟨h1.1, fun c hc => hgood c (h1.2 c hc)⟩
    | opt gt want v => rw [htv] at h1; exact ⟨fun hg => ⟨(h1.1 hg).1, fun c hc => hgood c ((h1.1 hg).2 c hc)⟩, h1.2⟩
  · simp only at hk ⊢
    have hne : id ≠ k := by
      rintro rfl
      rw [h.nx _ hk] at hh
      cases hh
    rw [setM_ne _ _ hne]
    exact h.nx k hk
  · by_cases hki : id = k
    · subst hki
      rw [hself x hx]; exact hr
    · have hx' := (Has_set hki).1 hx
      refine hrr k x ((h.mem k x hx').kept fun b hb' => hk b (fun e => ?_) ((h.mem k x hx').lt hb').2)
      exact h.sep id k r x hhas hx' hki b e hb'
  · by_cases hki : id = k
    · subst hki
      rw [hself r1 h1, hno] at hb'
      exact h.sep id k' r r2 hhas ((Has_set hne).1 h2) hne b hb'
    · by_cases hki' : id = k'
      · subst hki'
        rw [hself r2 h2, hno]
        exact h.sep k id r1 r ((Has_set hki).1 h1) hhas hne b hb'
      · exact h.sep k k' r1 r2 ((Has_set hki).1 h1) ((Has_set hki').1 h2) hne b hb'
end Go.Eng
