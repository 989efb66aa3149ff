/- THE ENGINE, PART 3: what a symbolic state says of a frame and a world. -/
import Derived.Test.YtleooijgkdllfaaEngOrder
import Derived.Laws.AppendOwn
import Derived.Laws.OwnMore
import Derived.Laws.MakeOwn
import Derived.Maps.AppendAt
import Derived.Deep.Onto
namespace Go.Eng
open Go.RowKit

/-- What the names of a state stand for. 'wf' holds the blocks 'F' that do not change any more; blocks from 'n0' on were made by this call. -/
structure Env where
  β : Nat → Nat
  γ : Nat → Value
  wf : World
  F : Nat → Prop
  n0 : Nat

/-- A pointer into a slice's array. -/
def slcAt : Value → Nat → Value
  | .slice (some a) _ _, o => .pointer (some (a.add o))
  | _, _ => undef

/-- Only what this call made. -/
def Env.lim (E : Env) : Bool → Env
  | true => { E with F := fun b => E.F b ∧ E.n0 ≤ b }
  | false => E

/-- Element i lies at its place behind 'a'. -/
def SAt (R : Cell → Value → Prop) (E : Env) (m : SL) (a : Addr) (i : Nat) : Prop :=
  E.F a.block ∧ ∀ j c, (m.at i)[j]? = some c → ∃ y, E.wf.cell? (a.add (i * m.sz + j)) = some y ∧ R c y

/-- The slice reads as 'm'. -/
def SRel (R : Cell → Value → Prop) (E : Env) (m : SL) (x : Value) : Prop :=
  (x = .slice none 0 0 ∧ m.len = 0) ∨ ∃ a cap, x = .slice (some a) m.len cap ∧ (m.len ≤ cap ∧ m.len ≤ maxLen) ∧ ∀ i, i < m.len → SAt R E m a i

def CR0 (E : Env) : Cell → Value → Prop
  | .int k n, x => x = .int k n
  | .bool b, x => x = .bool b
  | .ref id off, x => x = .pointer (some ⟨E.β id, off, none⟩)
  | .raw v, x => x = v ∧ v.oneCell' = true
  | .own id, x => x = E.γ id ∧ x.oneCell' = true
  | .orp id sz i off, x => ∃ a len cap, E.γ id = .slice (some a) len cap ∧ x = .pointer (some (a.add (i * sz + off)))
  | .aref id off n i, x => x = .pointer (some ⟨E.β id, off + i.toNat, none⟩) ∧ 0 ≤ i ∧ i < n
  | .unk, x => x.oneCell' = true
  | _, _ => False

/-- A cell reads so; 'd': how deep slices lie in slices. -/
def CRd : Nat → Env → Cell → Value → Prop
  | 0, E, c, x => CR0 E c x
  | d + 1, E, c, x =>
    match c with
    | .slc nw m => SRel (CRd d (E.lim nw)) (E.lim nw) m x
    | .rp m i off => ∃ a, x = .pointer (some (a.add (i * m.sz + off))) ∧ SAt (CRd d E) E m a i
    | c => CR0 E c x

abbrev CR (E : Env) : Cell → Value → Prop := CRd 4 E

def Live (mem : Nat → MRes) (id : Nat) : Prop := mem id ≠ .free

def Cell.fits (mem : Nat → MRes) : Cell → Prop
  | .ref id _ => Live mem id
  | .own id => Live mem id
  | .orp id _ _ _ => Live mem id
  | .aref id _ _ _ => Live mem id
  | _ => True

/-- Cells, one for one. -/
structure CsR (E : Env) (cs : List Cell) (xs : List Value) : Prop where
  len : xs.length = cs.length
  get : ∀ (j : Nat) (c : Cell), cs[j]? = some c → ∃ y, xs[j]? = some y ∧ CR E c y

def FR (E : Env) : FV → Value → Prop
  | .one c, x => CR E c x
  | .agg cs, x => ∃ xs : List Value, x = .agg xs.toArray ∧ CsR E cs xs

def PR (E : Env) : PV → Value → Prop
  | .fv v, x => FR E v x
  | .tup l, x => ∃ xs : List Value, x = .tuple xs.toArray ∧ xs.length = l.length ∧ ∀ (j : Nat) (v : FV), l[j]? = some v → ∃ y, xs[j]? = some y ∧ FR E v y
  | .isn m, x => ∃ b, x = .bool b ∧ (b = true → m.len = 0)
  | .clo f l, x => ∃ xs : List Value, x = .func (.func f) #[] xs.toArray ∧ xs.length = l.length ∧ ∀ (j : Nat) (v : FV), l[j]? = some v → ∃ y, xs[j]? = some y ∧ FR E v y

def PV.cells : PV → List Cell
  | .fv v => v.cells
  | .tup l => l.flatMap FV.cells
  | .clo _ l => l.flatMap FV.cells
  | .isn _ => []

def Fits (mem : Nat → MRes) (v : PV) : Prop := ∀ c ∈ v.cells, c.fits mem

/-- A row's cells. -/
def RowR (E : Env) (m : SL) (xs : List Value) : Prop := ∀ i, i < m.len → ∀ j c, (m.at i)[j]? = some c → ∃ y, xs[i * m.sz + j]? = some y ∧ CR E c y

def RRel (n0 : Nat) (E : Env) (mem : Nat → MRes) (w : World) (id : Nat) : Res → Prop
  | .blk T cs => n0 ≤ E.β id ∧ (∃ xs : List Value, w.heap[E.β id]? = some (.cells xs.toArray T (0, 0)) ∧ CsR E cs xs) ∧ ∀ c ∈ cs, c.fits mem
  | .row e m => ∃ xs, w.ownsRow n0 e m.sz (E.γ id) m.len xs ∧ RowR E m xs

def blkNo (E : Env) (id : Nat) : Res → Option Nat
  | .blk _ _ => some (E.β id)
  | .row _ _ => (E.γ id).ownBlock

def TVRel (E : Env) (mem : Nat → MRes) (tmps : Array Value) : TV → Value → Prop
  | .any, _ => True
  | .val v, x => PR E v x ∧ Fits mem v
  | .opt gt want v, x => (tmps.getD gt undef = .bool want → PR E v x ∧ Fits mem v) ∧ (tmps.getD gt undef ≠ .bool want → x = undef)

/-- Own block 'id' holds 'r' (where its guard holds). -/
def Has (mem : Nat → MRes) (tmps : Array Value) (id : Nat) (r : Res) : Prop :=
  mem id = .val r ∨ ∃ gt want, mem id = .opt gt want r ∧ tmps.getD gt undef = .bool want

structure RelE (we : World) (E : Env) (σ : St) (a : Act) (w : World) : Prop where
  defers : a.defers = []
  len : a.tmps.size = σ.sz
  tmp : ∀ t, TVRel E σ.mem a.tmps (σ.tmps t) (a.tmps.getD t undef)
  below : Below we.heap.size we w
  n0 : E.n0 = we.heap.size
  f0 : ∀ b, b < we.heap.size → E.F b
  fz : ∀ b, E.F b → b < w.heap.size ∧ w.heap[b]? = E.wf.heap[b]?
  nx : ∀ k, σ.next ≤ k → σ.mem k = .free
  mem : ∀ id r, Has σ.mem a.tmps id r → RRel we.heap.size E σ.mem w id r
  sep : ∀ id id' r r', Has σ.mem a.tmps id r → Has σ.mem a.tmps id' r' → id ≠ id' → ∀ b, blkNo E id r = some b → blkNo E id' r' ≠ some b
  sepF : ∀ id r, Has σ.mem a.tmps id r → ∀ b, blkNo E id r = some b → ¬ E.F b

def Rel (we : World) (σ : St) (a : Act) (w : World) : Prop := ∃ E, RelE we E σ a w

/-! ### addresses -/

theorem add_block (a : Addr) (n : Nat) : (a.add n).block = a.block := by unfold Addr.add; split <;> rfl
theorem add_add (a : Addr) (m n : Nat) : (a.add m).add n = a.add (m + n) := by
  unfold Addr.add
  by_cases hm : m = 0
  · subst hm; simp
  · by_cases hn : n = 0
    · subst hn; simp [hm]
    · simp [hm, hn, Nat.add_assoc]
theorem add_lit (b o j : Nat) : (⟨b, o, none⟩ : Addr).add j = ⟨b, o + j, none⟩ := by
  unfold Addr.add
  split
  · rename_i h; subst h; rfl
  · rfl
theorem cell_of_blk {w : World} {b : Nat} {cs : Array Value} {T : TypeId} {fr : Nat × Nat} (h : w.heap[b]? = some (.cells cs T fr)) (o : Nat) : w.cell? ⟨b, o, none⟩ = cs[o]? := by
  simp [World.cell?, h]
theorem heap_lt {w : World} {b : Nat} {o : Obj} (h : w.heap[b]? = some o) : b < w.heap.size := (Array.getElem?_eq_some_iff.1 h).1

/-! ### environments that grow -/

/-- E' is E, and perhaps more. -/
structure Ext (mem : Nat → MRes) (E E' : Env) : Prop where
  β : ∀ k, Live mem k → E'.β k = E.β k
  γ : ∀ k, Live mem k → E'.γ k = E.γ k
  F : ∀ b, E.F b → E'.F b ∧ E'.wf.heap[b]? = E.wf.heap[b]?
  n0 : E'.n0 ≤ E.n0

theorem Ext.lim {mem : Nat → MRes} {E E' : Env} (h : Ext mem E E') (nw : Bool) : Ext mem (E.lim nw) (E'.lim nw) := by
  cases nw with
  | false => exact h
  | true => exact ⟨h.β, h.γ, fun b hb => ⟨⟨(h.F b hb.1).1, Nat.le_trans h.n0 hb.2⟩, (h.F b hb.1).2⟩, h.n0⟩

theorem K.cells_mem : ∀ {k : K} {x : k.Ty} {c : Cell}, c ∈ k.cells x → (∃ q n, c = .int q n) ∨ (∃ b, c = .bool b) ∨ ∃ m, c = .slc false m := by
  intro k x c h
  cases k <;> simp only [K.cells, List.mem_cons, List.not_mem_nil, or_false] at h
  case i64 => exact .inl ⟨_, _, h⟩
  case u8 => exact .inl ⟨_, _, h⟩
  case bl => exact .inr (.inl ⟨_, h⟩)
  case ssb => exact .inr (.inr ⟨_, h⟩)
  case fix => rcases h with h | h | h | h | h | h | h | h | h | h <;> first | exact .inl ⟨_, _, h⟩ | exact .inr (.inl ⟨_, h⟩) | exact .inr (.inr ⟨_, h⟩)
  case bd => rcases h with h | h | h | h | h | h | h | h | h | h | h | h | h | h | h | h | h | h | h | h <;> first | exact .inl ⟨_, _, h⟩ | exact .inr (.inl ⟨_, h⟩) | exact .inr (.inr ⟨_, h⟩)
  case jnt => rcases h with h | h | h | h | h | h | h | h | h | h | h | h | h | h | h | h | h | h | h | h | h | h | h | h <;> first | exact .inl ⟨_, _, h⟩ | exact .inr (.inl ⟨_, h⟩)
  all_goals exact .inl (by repeat (first | exact ⟨_, _, h⟩ | (rcases h with h | h; exact ⟨_, _, h⟩)))

theorem SL.at_mem {m : SL} {i j : Nat} {c : Cell} (h : (m.at i)[j]? = some c) : (∃ q n, c = .int q n) ∨ (∃ b, c = .bool b) ∨ ∃ m', c = .slc false m' := K.cells_mem (List.mem_of_getElem? h)

theorem SL.at_fits {m : SL} {i j : Nat} {c : Cell} (h : (m.at i)[j]? = some c) (mem : Nat → MRes) : c.fits mem := by
  rcases SL.at_mem h with ⟨_, _, rfl⟩ | ⟨_, rfl⟩ | ⟨_, rfl⟩ <;> trivial

theorem CR0_ext {mem : Nat → MRes} {E E' : Env} (h : Ext mem E E') {c : Cell} (hf : c.fits mem) {x : Value} (hr : CR0 E c x) : CR0 E' c x := by
  cases c with
  | ref id off => simp only [CR0] at hr ⊢; rw [h.β id hf]; exact hr
  | own id => simp only [CR0] at hr ⊢; rw [h.γ id hf]; exact hr
  | orp id sz i off => simp only [CR0] at hr ⊢; rw [h.γ id hf]; exact hr
  | aref id off n i => simp only [CR0] at hr ⊢; rw [h.β id hf]; exact hr
  | _ => exact hr

theorem CRd_ext {mem : Nat → MRes} : ∀ (d : Nat) {E E' : Env}, Ext mem E E' → ∀ {c : Cell}, c.fits mem → ∀ {x : Value}, CRd d E c x → CRd d E' c x
  | 0, E, E', h, c, hf, x, hr => CR0_ext h hf hr
  | d + 1, E, E', h, c, hf, x, hr => by
    have key : ∀ (E E' : Env), Ext mem E E' → ∀ (m : SL) (a : Addr) (i : Nat), SAt (CRd d E) E m a i → SAt (CRd d E') E' m a i := by
      intro E E' h m a i hs
      obtain ⟨h1, h2⟩ := hs
      refine ⟨(h.F _ h1).1, fun j c hj => ?_⟩
      obtain ⟨y, h3, h4⟩ := h2 j c hj
      refine ⟨y, ?_, CRd_ext d h (SL.at_fits hj mem) h4⟩
      rw [World.cell?_of_block (w := E.wf)]
      · exact h3
      · rw [add_block]; exact (h.F _ h1).2
    cases c with
    | slc nw m =>
      rcases hr with hr | ⟨a, cap, h1, hml, h2⟩
      · exact .inl hr
      · exact .inr ⟨a, cap, h1, hml, fun i hi => key _ _ (h.lim nw) m a i (h2 i hi)⟩
    | rp m i off =>
      obtain ⟨a, h1, h2⟩ := hr
      exact ⟨a, h1, key _ _ h m a i h2⟩
    | fresh e m => exact hr.elim
    | _ => exact CR0_ext h hf hr

theorem CR_ext {mem : Nat → MRes} {E E' : Env} (h : Ext mem E E') {c : Cell} (hf : c.fits mem) {x : Value} (hr : CR E c x) : CR E' c x := CRd_ext 4 h hf hr

theorem CsR_ext {mem : Nat → MRes} {E E' : Env} (h : Ext mem E E') {cs : List Cell} {xs : List Value} (hf : ∀ c ∈ cs, c.fits mem) (hr : CsR E cs xs) : CsR E' cs xs :=
  ⟨hr.len, fun j c hj => by
    obtain ⟨y, h1, h2⟩ := hr.get j c hj
    exact ⟨y, h1, CR_ext h (hf c (List.mem_of_getElem? hj)) h2⟩⟩

theorem FR_ext {mem : Nat → MRes} {E E' : Env} (h : Ext mem E E') {v : FV} {x : Value} (hf : ∀ c ∈ v.cells, c.fits mem) (hr : FR E v x) : FR E' v x := by
  cases v with
  | one c => exact CR_ext h (hf c (by simp [FV.cells])) hr
  | agg cs =>
    obtain ⟨xs, h1, h2⟩ := hr
    exact ⟨xs, h1, CsR_ext h hf h2⟩

theorem PR_ext {mem : Nat → MRes} {E E' : Env} (h : Ext mem E E') {v : PV} {x : Value} (hf : Fits mem v) (hr : PR E v x) : PR E' v x := by
  cases v with
  | fv v => exact FR_ext h hf hr
  | tup l =>
    obtain ⟨xs, h1, h2, h3⟩ := hr
    refine ⟨xs, h1, h2, fun j v hj => ?_⟩
    obtain ⟨y, h4, h5⟩ := h3 j v hj
    exact ⟨y, h4, FR_ext h (fun c hc => hf c (List.mem_flatMap.2 ⟨v, List.mem_of_getElem? hj, hc⟩)) h5⟩
  | clo f l =>
    obtain ⟨xs, h1, h2, h3⟩ := hr
    refine ⟨xs, h1, h2, fun j v hj => ?_⟩
    obtain ⟨y, h4, h5⟩ := h3 j v hj
    exact ⟨y, h4, FR_ext h (fun c hc => hf c (List.mem_flatMap.2 ⟨v, List.mem_of_getElem? hj, hc⟩)) h5⟩
  | isn m => exact hr

theorem RowR_ext {mem : Nat → MRes} {E E' : Env} (h : Ext mem E E') {m : SL} {xs : List Value} (hr : RowR E m xs) : RowR E' m xs := fun i hi j c hj => by
  obtain ⟨y, h1, h2⟩ := hr i hi j c hj
  exact ⟨y, h1, CR_ext h (SL.at_fits hj mem) h2⟩

theorem Ext.refl (mem : Nat → MRes) (E : Env) : Ext mem E E := ⟨fun _ _ => rfl, fun _ _ => rfl, fun _ h => ⟨h, rfl⟩, Nat.le_refl _⟩

/-- Rows of numbers read alike under every environment. -/
theorem flat_mem {m : SL} (hf : m.k.flat = true) {i j : Nat} {c : Cell} (h : (m.at i)[j]? = some c) : (∃ q n, c = .int q n) ∨ ∃ b, c = .bool b := by
  obtain ⟨k, l⟩ := m
  have := List.mem_of_getElem? h
  unfold SL.at at this
  cases k <;> simp only [K.flat, Bool.false_eq_true] at hf <;> simp only [K.cells, List.mem_cons, List.not_mem_nil, or_false] at this
  case bl => exact .inr ⟨_, this⟩
  case jnt => rcases this with h | h | h | h | h | h | h | h | h | h | h | h | h | h | h | h | h | h | h | h | h | h | h | h <;> first | exact .inl ⟨_, _, h⟩ | exact .inr ⟨_, h⟩
  all_goals exact .inl (by repeat (first | exact ⟨_, _, this⟩ | (rcases this with this | this; exact ⟨_, _, this⟩)))

theorem CR_flat {E E' : Env} {c : Cell} (h : (∃ q n, c = .int q n) ∨ ∃ b, c = .bool b) {d d' : Nat} {x : Value} (hr : CRd d E c x) : CRd d' E' c x := by
  rcases h with ⟨_, _, rfl⟩ | ⟨_, rfl⟩ <;> cases d <;> cases d' <;> exact hr

theorem RowR_flat {E E' : Env} {m : SL} (hf : m.k.flat = true) {xs : List Value} (hr : RowR E m xs) : RowR E' m xs := fun i hi j c hj => by
  obtain ⟨y, h1, h2⟩ := hr i hi j c hj
  exact ⟨y, h1, CR_flat (flat_mem hf hj) h2⟩

/-- A deeper look shows the same. -/
theorem CRd_up : ∀ (d : Nat) {E : Env} {c : Cell} {x : Value}, CRd d E c x → CRd (d + 1) E c x
  | 0, E, c, x, h => by
    cases c with
    | slc nw m => exact h.elim
    | rp m i off => exact h.elim
    | _ => exact h
  | d + 1, E, c, x, h => by
    have key : ∀ (E : Env) (m : SL) (a : Addr) (i : Nat), SAt (CRd d E) E m a i → SAt (CRd (d + 1) E) E m a i := fun E m a i hs => ⟨hs.1, fun j c hj => by
      obtain ⟨y, h3, h4⟩ := hs.2 j c hj
      exact ⟨y, h3, CRd_up d h4⟩⟩
    cases c with
    | slc nw m =>
      rcases h with h | ⟨a, cap, h1, hml, h2⟩
      · exact .inl h
      · exact .inr ⟨a, cap, h1, hml, fun i hi => key _ m a i (h2 i hi)⟩
    | rp m i off =>
      obtain ⟨a, h1, h2⟩ := h
      exact ⟨a, h1, key E m a i h2⟩
    | _ => exact h

theorem CR_of_int {E : Env} {k : IntKind} {n : Int} {x : Value} (h : CR E (.int k n) x) : x = .int k n := h
theorem CR_of_bool {E : Env} {b : Bool} {x : Value} (h : CR E (.bool b) x) : x = .bool b := h

/-- The value of a cell is one cell. -/
theorem oneCell_of {E : Env} {c : Cell} {x : Value} (h : CR E c x) : x.oneCell' = true := by
  cases c with
  | int k n => rw [show x = _ from h]; rfl
  | bool b => rw [show x = _ from h]; rfl
  | ref id off => rw [show x = _ from h]; rfl
  | raw v => rw [h.1]; exact h.2
  | slc nw m =>
    rcases h with ⟨h, _⟩ | ⟨a, cap, h, _⟩ <;> rw [h] <;> rfl
  | rp m i off =>
    obtain ⟨a, h, _⟩ := h
    rw [h]; rfl
  | own id => exact h.2
  | orp id sz i off =>
    obtain ⟨a, len, cap, _, h⟩ := h
    rw [h]; rfl
  | aref id off n i => rw [h.1]; rfl
  | unk => exact h
  | fresh e m => exact h.elim

/-- A narrowed slice is a slice. -/
theorem lim_slc {E : Env} {nw : Bool} {m : SL} {x : Value} (h : CR E (.slc nw m) x) : CR E (.slc false m) x := by
  cases nw with
  | false => exact h
  | true =>
    have hx : Ext (fun _ => .free) (E.lim true) E := ⟨fun _ _ => rfl, fun _ _ => rfl, fun b hb => ⟨hb.1, rfl⟩, Nat.le_refl _⟩
    rcases h with h | ⟨a, cap, h1, hml, h2⟩
    · exact .inl h
    · refine .inr ⟨a, cap, h1, hml, fun i hi => ?_⟩
      obtain ⟨h3, h4⟩ := h2 i hi
      refine ⟨h3.1, fun j c hj => ?_⟩
      obtain ⟨y, h5, h6⟩ := h4 j c hj
      exact ⟨y, h5, CRd_ext 3 hx (SL.at_fits hj _) h6⟩

/-! ### lists of cells -/

theorem CsR.mem {E : Env} {cs : List Cell} {xs : List Value} (h : CsR E cs xs) : ∀ x ∈ xs, x.oneCell' = true := by
  intro x hx
  obtain ⟨j, hj, rfl⟩ := List.getElem_of_mem hx
  have hlt : j < cs.length := by rw [← h.len]; exact hj
  obtain ⟨y, h1, h2⟩ := h.get j _ (List.getElem?_eq_getElem hlt)
  rw [List.getElem?_eq_getElem hj] at h1
  simp at h1
  rw [h1]
  exact oneCell_of h2

theorem CsR.drop {E : Env} {cs : List Cell} {xs : List Value} (h : CsR E cs xs) (n : Nat) : CsR E (cs.drop n) (xs.drop n) :=
  ⟨by simp [h.len], fun j c hj => by
    rw [List.getElem?_drop] at hj ⊢
    exact h.get _ c hj⟩

theorem CsR.take {E : Env} {cs : List Cell} {xs : List Value} (h : CsR E cs xs) (n : Nat) : CsR E (cs.take n) (xs.take n) :=
  ⟨by simp [h.len], fun j c hj => by
    rw [List.getElem?_take] at hj ⊢
    split at hj
    · rename_i hlt
      rw [if_pos hlt]
      exact h.get _ c hj
    · cases hj⟩

theorem CsR.append {E : Env} {cs ds : List Cell} {xs ys : List Value} (h : CsR E cs xs) (k : CsR E ds ys) : CsR E (cs ++ ds) (xs ++ ys) :=
  ⟨by simp [h.len, k.len], fun j c hj => by
    by_cases hlt : j < cs.length
    · rw [List.getElem?_append_left hlt] at hj
      rw [List.getElem?_append_left (by rw [h.len]; exact hlt)]
      exact h.get _ c hj
    · rw [List.getElem?_append_right (by omega)] at hj
      rw [List.getElem?_append_right (by rw [h.len]; omega), h.len]
      exact k.get _ c hj⟩

theorem CsR.nil (E : Env) : CsR E [] [] := ⟨rfl, fun j c hj => by simp at hj⟩
theorem CsR.one {E : Env} {c : Cell} {x : Value} (h : CR E c x) : CsR E [c] [x] :=
  ⟨rfl, fun j c' hj => by
    cases j with
    | zero => simp at hj; subst hj; exact ⟨x, rfl, h⟩
    | succ j => simp at hj⟩
theorem CsR.cons {E : Env} {c : Cell} {x : Value} {cs : List Cell} {xs : List Value} (h : CR E c x) (k : CsR E cs xs) : CsR E (c :: cs) (x :: xs) := (CsR.one h).append k

theorem CsR.splice {E : Env} {cs ds : List Cell} {xs ys : List Value} (h : CsR E cs xs) (k : CsR E ds ys) (off : Nat) : CsR E (splice cs off ds) (xs.take off ++ ys ++ xs.drop (off + ys.length)) := by
  unfold Eng.splice
  rw [k.len]
  exact ((h.take off).append k).append (h.drop _)

/-- The cells of a flat value. -/
theorem FR.cells {E : Env} {v : FV} {x : Value} (h : FR E v x) : CsR E v.cells x.cells.toList := by
  cases v with
  | one c =>
    have h1 := oneCell_of h
    have : x.cells = #[x] := by cases x <;> first | rfl | cases h1
    rw [this]
    exact CsR.one h
  | agg cs =>
    obtain ⟨xs, rfl, h2⟩ := h
    exact h2

/-! ### nil slices whose type is known -/

theorem retC_rel {P : Program} {E : Env} {t : TypeId} {c : Cell} {x : Value} (h : CR E c x) : CR E (retC P t c) x := by
  cases c with
  | raw v =>
    simp only [retC]
    split
    · rename_i hn
      have hv := nilV_eq hn
      split
      · split
        · exact .inl ⟨by rw [h.1, hv], rfl⟩
        · exact h
      · exact h
    · exact h
  | _ => exact h
theorem retC_fits {P : Program} {mem : Nat → MRes} {t : TypeId} {c : Cell} (h : c.fits mem) : (retC P t c).fits mem := by
  cases c with
  | raw v =>
    simp only [retC]
    split
    · split
      · split <;> trivial
      · trivial
    · trivial
  | _ => exact h
theorem retCs_len {P : Program} : ∀ {ts : List TypeId} {cs : List Cell}, (retCs P ts cs).length = cs.length
  | [], _ => rfl
  | _ :: _, [] => rfl
  | t :: ts, c :: cs => by simp only [retCs, List.length_cons, retCs_len]
theorem retCs_at {P : Program} : ∀ {ts : List TypeId} {cs : List Cell} {j : Nat} {c : Cell}, (retCs P ts cs)[j]? = some c → ∃ c', cs[j]? = some c' ∧ (c = c' ∨ ∃ t, c = retC P t c')
  | [], cs, j, c, h => ⟨c, by simpa [retCs] using h, .inl rfl⟩
  | _ :: _, [], j, c, h => by simp [retCs] at h
  | t :: ts, d :: cs, j, c, h => by
    cases j with
    | zero => simp [retCs] at h; exact ⟨d, rfl, .inr ⟨t, h.symm⟩⟩
    | succ j => exact retCs_at (ts := ts) (cs := cs) (j := j) (by simpa [retCs] using h)
theorem retCs_rel {P : Program} {E : Env} {ts : List TypeId} {cs : List Cell} {xs : List Value} (h : CsR E cs xs) : CsR E (retCs P ts cs) xs :=
  ⟨by rw [retCs_len, h.len], fun j c hj => by
    obtain ⟨c', h1, h2⟩ := retCs_at hj
    obtain ⟨y, h3, h4⟩ := h.get j c' h1
    refine ⟨y, h3, ?_⟩
    rcases h2 with rfl | ⟨t, rfl⟩
    · exact h4
    · exact retC_rel h4⟩
theorem retCs_fits {P : Program} {mem : Nat → MRes} {ts : List TypeId} {cs : List Cell} (h : ∀ c ∈ cs, c.fits mem) : ∀ c ∈ retCs P ts cs, c.fits mem := fun c hc => by
  obtain ⟨j, hj, rfl⟩ := List.getElem_of_mem hc
  obtain ⟨c', h1, h2⟩ := retCs_at (List.getElem?_eq_getElem hj)
  have h3 := h c' (List.mem_of_getElem? h1)
  rcases h2 with h2 | ⟨t, h2⟩ <;> rw [h2]
  · exact h3
  · exact retC_fits h3
theorem retF_rel {P : Program} {E : Env} {T : TypeId} {v : FV} {x : Value} (h : FR E v x) : FR E (retF P T v) x := by
  cases v with
  | one c => exact retC_rel h
  | agg cs =>
    obtain ⟨xs, h1, h2⟩ := h
    exact ⟨xs, h1, retCs_rel h2⟩
theorem retF_fits {P : Program} {mem : Nat → MRes} {T : TypeId} {v : FV} (h : ∀ c ∈ v.cells, c.fits mem) : ∀ c ∈ (retF P T v).cells, c.fits mem := by
  cases v with
  | one c =>
    intro c' hc
    simp [retF, FV.cells] at hc
    subst hc
    exact retC_fits (h c (by simp [FV.cells]))
  | agg cs => exact retCs_fits h
theorem retF_len {P : Program} {T : TypeId} {v : FV} : (retF P T v).cells.length = v.cells.length := by
  cases v with
  | one c => rfl
  | agg cs => exact retCs_len

/-! ### how a relation is carried on -/

theorem getD_put_ne {a : Act} {dst : Option Nat} {x : Value} {t : Nat} (h : dst ≠ some t) : (a.put dst x).tmps.getD t undef = a.tmps.getD t undef := by
  cases dst with
  | none => rfl
  | some d =>
    have hne : d ≠ t := fun e => h (by rw [e])
    simp [Act.put, Array.getElem?_setIfInBounds_ne hne]

/-- Nothing of the state hangs on the temporary 'd'. -/
structure NoOptOn (σ : St) (d : Nat) : Prop where
  tmp : ∀ (t : Nat) (w : Bool) (v : PV), σ.tmps t ≠ TV.opt d w v
  mem : ∀ (id : Nat) (w : Bool) (r : Res), σ.mem id ≠ MRes.opt d w r

theorem Has_put {mem : Nat → MRes} {a : Act} {dst : Option Nat} {x : Value} (hn : ∀ d, dst = some d → ∀ (id : Nat) (w : Bool) (r : Res), mem id ≠ MRes.opt d w r) {id : Nat} {r : Res} :
    Has mem (a.put dst x).tmps id r ↔ Has mem a.tmps id r := by
  unfold Has
  constructor
  · rintro (h | ⟨gt, want, h1, h2⟩)
    · exact .inl h
    · refine .inr ⟨gt, want, h1, ?_⟩
      rwa [getD_put_ne (fun e => hn gt e id want r h1)] at h2
  · rintro (h | ⟨gt, want, h1, h2⟩)
    · exact .inl h
    · refine .inr ⟨gt, want, h1, ?_⟩
      rwa [getD_put_ne (fun e => hn gt e id want r h1)]

/-- A temporary is written. -/
theorem RelE.put {we : World} {E : Env} {σ : St} {a : Act} {w : World} (h : RelE we E σ a w) {dst : Option Nat} {tv : TV} {x : Value} (hd : ∀ d, dst = some d → d < σ.sz) (hn : ∀ d, dst = some d → NoOptOn σ d)
    (hv : ∀ d, dst = some d → TVRel E σ.mem (a.put dst x).tmps tv x) : RelE we E { sz := σ.sz, tmps := putTmp σ.tmps dst tv, next := σ.next, mem := σ.mem } (a.put dst x) w where
  defers := by cases dst <;> exact h.defers
  len := by cases dst <;> simp [Act.put, h.len]
  tmp := by
    intro t
    by_cases hdt : dst = some t
    · subst hdt
      simp only [putTmp_self]
      have hlt' : t < a.tmps.size := by rw [h.len]; exact hd t rfl
      have : (a.put (some t) x).tmps.getD t undef = x := by simp [Act.put, hlt']
      rw [this]
      exact hv t rfl
    · simp only
      rw [putTmp_ne hdt, getD_put_ne hdt]
      have h1 := h.tmp t
      cases htv : σ.tmps t with
      | any => trivial
      | val v => rw [htv] at h1; exact h1
      | opt gt want v =>
        rw [htv] at h1
        simp only [TVRel]
        rw [getD_put_ne (fun e => (hn gt e).tmp t want v htv)]
        exact h1
  below := h.below
  n0 := h.n0
  f0 := h.f0
  fz := h.fz
  nx := h.nx
  mem := fun id r hh => h.mem id r ((Has_put fun d e => (hn d e).mem).1 hh)
  sep := fun id id' r r' h1 h2 => h.sep id id' r r' ((Has_put fun d e => (hn d e).mem).1 h1) ((Has_put fun d e => (hn d e).mem).1 h2)
  sepF := fun id r hh => h.sepF id r ((Has_put fun d e => (hn d e).mem).1 hh)

theorem RRel.lt {n0 : Nat} {E : Env} {mem : Nat → MRes} {w : World} {id : Nat} {r : Res} (h : RRel n0 E mem w id r) {b : Nat} (hb : blkNo E id r = some b) : n0 ≤ b ∧ b < w.heap.size := by
  cases r with
  | blk T cs =>
    obtain ⟨h1, ⟨xs, h2, _⟩, _⟩ := h
    simp [blkNo] at hb
    subst hb
    exact ⟨h1, heap_lt h2⟩
  | row e m =>
    obtain ⟨xs, h1, _⟩ := h
    exact h1.lt b hb

theorem ownsRow_kept {w w' : World} {base : Nat} {e : TypeId} {sz : Nat} {v : Value} {n : Nat} {xs : List Value} (h : w.ownsRow base e sz v n xs) (hk : ∀ b, v.ownBlock = some b → w'.heap[b]? = w.heap[b]?) : w'.ownsRow base e sz v n xs := by
  refine ⟨h.1, ?_⟩
  rcases h.2 with hn | ⟨g, cap, cur, rfl, hb, hg, rest⟩
  · exact .inl hn
  · exact .inr ⟨g, cap, cur, rfl, hb, by rw [hk g rfl]; exact hg, rest⟩

/-- The world grows; what is there stays. -/
theorem RRel.kept {n0 : Nat} {E : Env} {mem : Nat → MRes} {w w' : World} {id : Nat} {r : Res} (h : RRel n0 E mem w id r) (hk : ∀ b, blkNo E id r = some b → w'.heap[b]? = w.heap[b]?) : RRel n0 E mem w' id r := by
  cases r with
  | blk T cs =>
    obtain ⟨h1, ⟨xs, h2, h3⟩, h4⟩ := h
    exact ⟨h1, ⟨xs, by rw [hk _ rfl]; exact h2, h3⟩, h4⟩
  | row e m =>
    obtain ⟨xs, h1, h2⟩ := h
    exact ⟨xs, ownsRow_kept h1 hk, h2⟩

theorem fits_mono {mem mem' : Nat → MRes} (hl : ∀ k, Live mem k → Live mem' k) {c : Cell} (h : c.fits mem) : c.fits mem' := by
  cases c with
  | ref k off => exact hl _ h
  | own k => exact hl _ h
  | orp k sz i off => exact hl _ h
  | aref k off n i => exact hl _ h
  | _ => exact h

theorem RRel.ext {n0 : Nat} {E E' : Env} {mem mem' : Nat → MRes} {w : World} {id : Nat} {r : Res} (h : RRel n0 E mem w id r) (he : Ext mem E E') (hl : Live mem id) (hm : ∀ k, Live mem k → Live mem' k) : RRel n0 E' mem' w id r := by
  cases r with
  | blk T cs =>
    obtain ⟨h1, ⟨xs, h2, h3⟩, h4⟩ := h
    refine ⟨by rw [he.β id hl]; exact h1, ⟨xs, by rw [he.β id hl]; exact h2, CsR_ext he h4 h3⟩, fun c hc => fits_mono hm (h4 c hc)⟩
  | row e m =>
    obtain ⟨xs, h1, h2⟩ := h
    exact ⟨xs, by rw [he.γ id hl]; exact h1, RowR_ext he h2⟩

theorem blkNo_ext {E E' : Env} {mem : Nat → MRes} (he : Ext mem E E') {id : Nat} (hl : Live mem id) (r : Res) : blkNo E' id r = blkNo E id r := by
  cases r with
  | blk T cs => simp only [blkNo, he.β id hl]
  | row e m => simp only [blkNo, he.γ id hl]

theorem TVRel.ext {E E' : Env} {mem mem' : Nat → MRes} {tmps : Array Value} {tv : TV} {x : Value} (h : TVRel E mem tmps tv x) (he : Ext mem E E') (hm : ∀ k, Live mem k → Live mem' k) : TVRel E' mem' tmps tv x := by
  have key : ∀ v, PR E v x ∧ Fits mem v → PR E' v x ∧ Fits mem' v := fun v hv => ⟨PR_ext he hv.2 hv.1, fun c hc => fits_mono hm (hv.2 c hc)⟩
  cases tv with
  | any => trivial
  | val v => exact key v h
  | opt gt want v => exact ⟨fun hg => key v (h.1 hg), h.2⟩

theorem Has.live {mem : Nat → MRes} {tmps : Array Value} {id : Nat} {r : Res} (h : Has mem tmps id r) : Live mem id := by
  unfold Live
  rcases h with h | ⟨gt, want, h, _⟩ <;> rw [h] <;> simp

/-- The world grows, and with it what does not change any more. -/
theorem RelE.step {we : World} {E E' : Env} {σ : St} {a : Act} {w w' : World} (h : RelE we E σ a w) (he : Ext σ.mem E E') (hn : E'.n0 = E.n0) (hb : Below w.heap.size w w') (hfz : ∀ b, E'.F b → b < w'.heap.size ∧ w'.heap[b]? = E'.wf.heap[b]?)
    (hnew : ∀ b, E'.F b → E.F b ∨ w.heap.size ≤ b) : RelE we E' σ a w' where
  defers := h.defers
  len := h.len
  tmp := fun t => (h.tmp t).ext he fun _ hk => hk
  below := h.below.trans (hb.mono h.below.size)
  n0 := hn.trans h.n0
  f0 := fun b hb' => (he.F b (h.f0 b hb')).1
  fz := hfz
  nx := h.nx
  mem := fun id r hh => ((h.mem id r hh).ext he hh.live fun _ hk => hk).kept fun b hb' => by
    rw [blkNo_ext he hh.live] at hb'
    exact hb.block b ((h.mem id r hh).lt hb').2
  sep := fun id id' r r' h1 h2 hne b hb' => by
    rw [blkNo_ext he h1.live] at hb'
    rw [blkNo_ext he h2.live]
    exact h.sep id id' r r' h1 h2 hne b hb'
  sepF := fun id r hh b hb' hF => by
    rw [blkNo_ext he hh.live] at hb'
    rcases hnew b hF with hF | hF
    · exact h.sepF id r hh b hb' hF
    · have := ((h.mem id r hh).lt hb').2
      omega

theorem RelE.fzKept {we : World} {E : Env} {σ : St} {a : Act} {w w' : World} (h : RelE we E σ a w) (hb : Below w.heap.size w w') : ∀ b, E.F b → b < w'.heap.size ∧ w'.heap[b]? = E.wf.heap[b]? := fun b hF => by
  obtain ⟨h1, h2⟩ := h.fz b hF
  exact ⟨Nat.lt_of_lt_of_le h1 hb.size, by rw [hb.block b h1]; exact h2⟩

theorem RelE.grow {we : World} {E : Env} {σ : St} {a : Act} {w w' : World} (h : RelE we E σ a w) (hb : Below w.heap.size w w') : RelE we E σ a w' :=
  h.step (Ext.refl _ _) rfl hb (h.fzKept hb) fun _ hF => .inl hF

/-- What a call made does not change any more. -/
def Env.frz (E : Env) (w w' : World) : Env := { E with wf := w', F := fun b => E.F b ∨ (w.heap.size ≤ b ∧ b < w'.heap.size) }

theorem RelE.frz {we : World} {E : Env} {σ : St} {a : Act} {w w' : World} (h : RelE we E σ a w) (hb : Below w.heap.size w w') : RelE we (E.frz w w') σ a w' ∧ Ext σ.mem E (E.frz w w') := by
  have he : Ext σ.mem E (E.frz w w') := ⟨fun _ _ => rfl, fun _ _ => rfl, fun b hF => ⟨.inl hF, (h.fzKept hb b hF).2⟩, Nat.le_refl _⟩
  refine ⟨h.step he rfl hb (fun b hF => ?_) (fun b hF => hF.imp id (·.1)), he⟩
  rcases hF with hF | hF
  · exact ⟨(h.fzKept hb b hF).1, rfl⟩
  · exact ⟨hF.2, rfl⟩

theorem Has_set {mem : Nat → MRes} {tmps : Array Value} {k : Nat} {m : MRes} {id : Nat} {r : Res} (hne : k ≠ id) : Has (setM mem k m) tmps id r ↔ Has mem tmps id r := by
  unfold Has
  rw [setM_ne _ _ hne]

theorem Live_set {mem : Nat → MRes} {id : Nat} {m : MRes} (hm : m ≠ .free) (k : Nat) (h : Live mem k) : Live (setM mem id m) k := by
  by_cases hk : id = k
  · subst hk
    unfold Live
    rw [setM_self]; exact hm
  · unfold Live
    rw [setM_ne _ _ hk]; exact h

theorem ne_of_live {mem : Nat → MRes} {id k : Nat} (hf : mem id = .free) (h : Live mem k) : k ≠ id := by
  rintro rfl
  exact h hf

/-- The environment in which 'id' is a block or a slice of the call's own. -/
def Env.setβ (E : Env) (id b : Nat) : Env := { E with β := fun k => if k = id then b else E.β k }
def Env.setγ (E : Env) (id : Nat) (v : Value) : Env := { E with γ := fun k => if k = id then v else E.γ k }
theorem Ext.setβ {mem : Nat → MRes} {id : Nat} (hf : mem id = .free) (E : Env) (b : Nat) : Ext mem E (E.setβ id b) :=
  ⟨fun k hk => by simp [Env.setβ, ne_of_live hf hk], fun _ _ => rfl, fun _ h => ⟨h, rfl⟩, Nat.le_refl _⟩
theorem Ext.setγ {mem : Nat → MRes} {id : Nat} (hf : mem id = .free) (E : Env) (v : Value) : Ext mem E (E.setγ id v) :=
  ⟨fun _ _ => rfl, fun k hk => by simp [Env.setγ, ne_of_live hf hk], fun _ h => ⟨h, rfl⟩, Nat.le_refl _⟩

/-- A resource comes into being at a free number. -/
theorem RelE.make {we : World} {E E' : Env} {σ : St} {a : Act} {w : World} {id : Nat} {m : MRes} {r : Res} (h : RelE we E σ a w) (he : Ext σ.mem E E') (hn : E'.n0 = E.n0) (hw : E'.wf = E.wf) (hF : E'.F = E.F) (hlt : id < σ.next)
    (hm : m = .val r ∨ ∃ gt want, m = .opt gt want r) (hr : RRel we.heap.size E' (setM σ.mem id m) w id r)
    (hs : ∀ k r', Has σ.mem a.tmps k r' → ∀ b, blkNo E k r' = some b → blkNo E' id r ≠ some b) (hsF : ∀ b, blkNo E' id r = some b → ¬ E.F b) : RelE we E' { sz := σ.sz, tmps := σ.tmps, next := σ.next, mem := setM σ.mem id m } a w := by
  have hmf : m ≠ .free := by rcases hm with rfl | ⟨_, _, rfl⟩ <;> simp
  have hl : ∀ k, Live σ.mem k → Live (setM σ.mem id m) k := Live_set hmf
  have hself : ∀ r', Has (setM σ.mem id m) a.tmps id r' → r' = r := by
    intro r' hh
    unfold Has at hh
    rw [setM_self] at hh
    rcases hm with rfl | ⟨gt, want, rfl⟩ <;> rcases hh with hh | ⟨_, _, hh, _⟩ <;> simp at hh
    · exact hh.symm
    · exact hh.2.2.symm
  refine ⟨h.defers, h.len, fun t => (h.tmp t).ext he hl, h.below, hn.trans h.n0, (by rw [hF]; exact h.f0), (by rw [hF, hw]; exact h.fz), fun k hk => (by simp only; rw [setM_ne _ _ (show id ≠ k by simp only at hk; omega)]; exact h.nx k hk), fun k r' hh => ?_, fun k k' r1 r2 h1 h2 hne b hb => ?_, fun k r' hh b hb => ?_⟩
  · by_cases hk : id = k
    · subst hk
      rw [hself r' hh]; exact hr
    · have hh' := (Has_set hk).1 hh
      exact (h.mem k r' hh').ext he hh'.live hl
  · by_cases hk : id = k
    · subst hk
      have h2' := (Has_set hne).1 h2
      rw [hself r1 h1] at hb
      rw [blkNo_ext he h2'.live]
      intro e
      exact hs k' r2 h2' b e hb
    · have h1' := (Has_set hk).1 h1
      rw [blkNo_ext he h1'.live] at hb
      by_cases hk' : id = k'
      · subst hk'
        rw [hself r2 h2]
        exact hs k r1 h1' b hb
      · have h2' := (Has_set hk').1 h2
        rw [blkNo_ext he h2'.live]
        exact h.sep k k' r1 r2 h1' h2' hne b hb
  · rw [hF]
    by_cases hk : id = k
    · subst hk
      rw [hself r' hh] at hb
      exact hsF b hb
    · have hh' := (Has_set hk).1 hh
      rw [blkNo_ext he hh'.live] at hb
      exact h.sepF k r' hh' b hb

/-- A resource is written, or given up. -/
theorem RelE.write {we : World} {E : Env} {σ : St} {a : Act} {w w' : World} {id : Nat} {r : Res} {m : MRes} (h : RelE we E σ a w) (hh : σ.mem id = .val r) (hm : m = .lost ∨ ∃ r', m = .val r' ∧ blkNo E id r' = blkNo E id r ∧ RRel we.heap.size E (setM σ.mem id m) w' id r')
    (hb : Below we.heap.size we w') (hsz : w.heap.size ≤ w'.heap.size) (hk : ∀ b, blkNo E id r ≠ some b → b < w.heap.size → w'.heap[b]? = w.heap[b]?) :
    RelE we E { sz := σ.sz, tmps := σ.tmps, next := σ.next, mem := setM σ.mem id m } a w' := by
  have hmf : m ≠ .free := by rcases hm with rfl | ⟨_, rfl, _⟩ <;> simp
  have hl : ∀ k, Live σ.mem k → Live (setM σ.mem id m) k := Live_set hmf
  have hhas : Has σ.mem a.tmps id r := .inl hh
  have hself : ∀ x, Has (setM σ.mem id m) a.tmps id x → blkNo E id x = blkNo E id r ∧ RRel we.heap.size E (setM σ.mem id m) w' id x := by
    intro x hx
    unfold Has at hx
    rw [setM_self] at hx
    rcases hm with rfl | ⟨r', rfl, h1, h2⟩ <;> rcases hx with hx | ⟨_, _, hx, _⟩ <;> simp at hx
    subst hx
    exact ⟨h1, h2⟩
  refine ⟨h.defers, h.len, fun t => (h.tmp t).ext (Ext.refl _ _) hl, hb, h.n0, h.f0, fun b hF => ?_, fun k hk => ?_, fun k x hx => ?_, fun k k' r1 r2 h1 h2 hne b hb' => ?_, fun k x hx b hb' => ?_⟩
  · obtain ⟨h1, h2⟩ := h.fz b hF
    refine ⟨Nat.lt_of_lt_of_le h1 hsz, ?_⟩
    rw [hk b (fun e => h.sepF id r hhas b e hF) h1]
    exact h2
  · simp only at hk ⊢
    have hne : id ≠ k := by
      rintro rfl
      rw [h.nx _ hk] at hh
      cases hh
    rw [setM_ne _ _ hne]
    exact h.nx k hk
  · by_cases hki : id = k
    · subst hki
      exact (hself x hx).2
    · have hx' := (Has_set hki).1 hx
      refine ((h.mem k x hx').ext (Ext.refl _ _) hx'.live hl).kept fun b hb' => hk b (fun e => ?_) ((h.mem k x hx').lt hb').2
      exact h.sep id k r x hhas hx' hki b e hb'
  · by_cases hki : id = k
    · subst hki
      rw [(hself r1 h1).1] at hb'
      exact h.sep id k' r r2 hhas ((Has_set hne).1 h2) hne b hb'
    · by_cases hki' : id = k'
      · subst hki'
        rw [(hself r2 h2).1]
        exact h.sep k id r1 r ((Has_set hki).1 h1) hhas hne b hb'
      · exact h.sep k k' r1 r2 ((Has_set hki).1 h1) ((Has_set hki').1 h2) hne b hb'
  · by_cases hki : id = k
    · subst hki
      rw [(hself x hx).1] at hb'
      exact h.sepF id r hhas b hb'
    · exact h.sepF k x ((Has_set hki).1 hx) b hb'
end Go.Eng
