/- THE ENGINE, PART 6: the arguments of a law, as they are read; a law's row out of its contract. -/
import Derived.Test.YtleooijgkdllfaaEngRun
import Derived.ProofKit
import Derived.OpenShut
import Derived.Carry
namespace Go.Eng
open Go.ChangeShapes Go.WideShapes Go.ChangeAt Go.RowKit

/-! ### the leaves of a type -/

inductive Lf where
  | raw
  | int (k : IntKind)
  | bool
  | slc (k : K)
  | bad

def leafs (P : Program) : Nat → TypeId → List Lf
  | 0, _ => [.bad]
  | d + 1, t =>
    match P.underlying t with
    | some .bool => [.bool]
    | some (.int k) => [.int k]
    | some (.struct fs) => fs.toList.flatMap fun f => leafs P d f.type
    | some (.array n e) => (List.replicate n (leafs P d e)).flatten
    | some (.slice e) => (match kindOf P e with
      | some k => [.slc k]
      | none => [.bad])
    | _ => [.bad]

def K.toN : K → Nat
  | .i64 => 0
  | .u8 => 1
  | .bl => 2
  | .vec => 3
  | .md => 4
  | .sb => 5
  | .row => 6
  | .fix => 7
  | .cp => 8
  | .jnt => 9
  | .bd => 10
  | .ssb => 11
theorem K.toN_inj {k k' : K} (h : k.toN = k'.toN) : k = k' := by cases k <;> cases k' <;> first | rfl | (simp [K.toN] at h; done)

def Lf.same : Lf → Lf → Bool
  | .int k, .int k' => decide (k = k')
  | .bool, .bool => true
  | .slc k, .slc k' => Nat.beq k.toN k'.toN
  | _, _ => false
theorem Lf.same_eq {a b : Lf} (h : a.same b = true) : a = b := by
  unfold Lf.same at h
  split at h
  · rw [of_decide_eq_true h]
  · rfl
  · rw [K.toN_inj (Nat.eq_of_beq_eq_true h)]
  · cases h
def lfsEq : List Lf → List Lf → Bool
  | [], [] => true
  | a :: l, b :: r => a.same b && lfsEq l r
  | _, _ => false
theorem lfsEq_eq : ∀ {l r : List Lf}, lfsEq l r = true → l = r
  | [], [], _ => rfl
  | a :: l, b :: r, h => by
    simp only [lfsEq, Bool.and_eq_true] at h
    rw [Lf.same_eq h.1, lfsEq_eq h.2]
  | [], _ :: _, h => by cases h
  | _ :: _, [], h => by cases h

/-- What lies in an element. -/
def K.lfs : K → List Lf
  | .i64 => [.int .i64]
  | .u8 => [.int .u8]
  | .bl => [.bool]
  | .vec => [.int .i64, .int .i64]
  | .md => [.int .i64, .int .i64, .int .i64, .int .i64]
  | .sb => [.int .i64, .int .i64, .int .i64, .int .i64, .int .i64]
  | .row => [.int .i64, .int .i64, .int .i64, .int .i64, .int .i64, .int .i64, .int .i64, .int .i64, .int .i64, .int .i64, .int .i64, .int .i64, .int .i64, .int .i64]
  | .fix => [.int .i64, .int .i64, .slc .vec, .int .i64, .int .i64, .int .i64, .bool, .int .i64, .int .i64, .int .i64]
  | .cp => [.int .i64, .int .i64, .int .i64, .int .i64, .int .i64, .int .i64]
  | .jnt => [.int .i64, .int .i64, .int .i64, .int .i64, .int .i64, .int .i64, .int .i64, .int .i64, .int .i64, .int .i64, .int .i64, .bool, .int .i64, .int .i64, .bool, .int .i64, .int .i64, .int .i64, .int .i64, .bool, .int .i64, .int .i64, .int .i64, .int .i64]
  | .bd => [.int .i64, .int .i64, .int .i64, .int .i64, .int .i64, .int .i64, .int .i64, .int .i64, .int .i64, .int .i64, .int .i64, .int .i64, .int .i64, .int .i64, .bool, .bool, .bool, .bool, .int .i64, .slc .fix]
  | .ssb => [.slc .sb]

/-- Numbers lie in their kinds' ranges, slices are no longer than memory bears. -/
def RangeC : Nat → Cell → Prop
  | 0, c => (match c with | .int k n => k.min ≤ n ∧ n ≤ k.max | _ => True)
  | d + 1, c => (match c with
    | .int k n => k.min ≤ n ∧ n ≤ k.max
    | .slc _ m => m.len ≤ maxLen ∧ ∀ x ∈ m.l, ∀ c ∈ m.k.cells x, RangeC d c
    | _ => True)
theorem RangeC.down : ∀ {d : Nat} {c : Cell}, RangeC (d + 1) c → RangeC d c
  | 0, c, h => by cases c <;> first | exact h | trivial
  | d + 1, c, h => by
    cases c with
    | slc nw m => exact ⟨h.1, fun x hx c hc => RangeC.down (h.2 x hx c hc)⟩
    | _ => exact h

def LeafIs : Lf → Cell → Prop
  | .raw, c => ∃ v, c = .raw v
  | .int k, c => ∃ n, c = .int k n ∧ k.min ≤ n ∧ n ≤ k.max
  | .bool, c => ∃ b, c = .bool b
  | .slc k, c => ∃ l : List k.Ty, c = .slc false ⟨k, l⟩ ∧ RangeC 3 c
  | .bad, _ => False

def AllLf : List Lf → List Cell → Prop
  | [], cs => cs = []
  | l :: ls, cs => ∃ c r, cs = c :: r ∧ LeafIs l c ∧ AllLf ls r

theorem AllLf.append : ∀ {ls ms : List Lf} {cs ds : List Cell}, AllLf ls cs → AllLf ms ds → AllLf (ls ++ ms) (cs ++ ds)
  | [], _, cs, ds, h, h' => by cases h; exact h'
  | l :: ls, _, cs, ds, ⟨c, r, e, h1, h2⟩, h' => by subst e; exact ⟨c, r ++ ds, rfl, h1, h2.append h'⟩

theorem LeafIs.range {l : Lf} {c : Cell} (h : LeafIs l c) : RangeC 3 c := by
  cases l with
  | raw => obtain ⟨v, rfl⟩ := h; trivial
  | int k => obtain ⟨n, rfl, h⟩ := h; exact h
  | bool => obtain ⟨b, rfl⟩ := h; trivial
  | slc k => obtain ⟨l, rfl, h⟩ := h; exact h
  | bad => exact h.elim
theorem AllLf.range : ∀ {ls : List Lf} {cs : List Cell}, AllLf ls cs → ∀ c ∈ cs, RangeC 3 c
  | [], cs, h, c, hc => by rw [show cs = [] from h] at hc; cases hc
  | l :: ls, cs, ⟨d, r, e, h1, h2⟩, c, hc => by
    subst e
    rcases List.mem_cons.1 hc with rfl | hc
    · exact h1.range
    · exact AllLf.range h2 c hc

/-- Cells that look like an element are one. -/
theorem K.of_lfs {k : K} {cs : List Cell} (h : AllLf k.lfs cs) : ∃ x, cs = k.cells x := by
  cases k with
  | i64 => obtain ⟨_, _, rfl, ⟨a, rfl, _⟩, rfl⟩ := h; exact ⟨a, rfl⟩
  | u8 => obtain ⟨_, _, rfl, ⟨a, rfl, _⟩, rfl⟩ := h; exact ⟨a, rfl⟩
  | bl => obtain ⟨_, _, rfl, ⟨a, rfl⟩, rfl⟩ := h; exact ⟨a, rfl⟩
  | vec => obtain ⟨_, _, rfl, ⟨a, rfl, _⟩, _, _, rfl, ⟨b, rfl, _⟩, rfl⟩ := h; exact ⟨(⟨a, b⟩ : Fx.Vec), rfl⟩
  | md => obtain ⟨_, _, rfl, ⟨a, rfl, _⟩, _, _, rfl, ⟨b, rfl, _⟩, _, _, rfl, ⟨c, rfl, _⟩, _, _, rfl, ⟨d, rfl, _⟩, rfl⟩ := h; exact ⟨(⟨a, b, c, d⟩ : Fx.Md), rfl⟩
  | sb => obtain ⟨_, _, rfl, ⟨a, rfl, _⟩, _, _, rfl, ⟨b, rfl, _⟩, _, _, rfl, ⟨c, rfl, _⟩, _, _, rfl, ⟨d, rfl, _⟩, _, _, rfl, ⟨e, rfl, _⟩, rfl⟩ := h; exact ⟨(⟨a, b, c, d, e⟩ : Fx.Sb), rfl⟩
  | row =>
    obtain ⟨_, _, rfl, ⟨a, rfl, _⟩, _, _, rfl, ⟨b, rfl, _⟩, _, _, rfl, ⟨c, rfl, _⟩, _, _, rfl, ⟨d, rfl, _⟩, _, _, rfl, ⟨e, rfl, _⟩, _, _, rfl, ⟨f, rfl, _⟩, _, _, rfl, ⟨g, rfl, _⟩, h⟩ := h
    obtain ⟨_, _, rfl, ⟨a', rfl, _⟩, _, _, rfl, ⟨b', rfl, _⟩, _, _, rfl, ⟨c', rfl, _⟩, _, _, rfl, ⟨d', rfl, _⟩, _, _, rfl, ⟨e', rfl, _⟩, _, _, rfl, ⟨f', rfl, _⟩, _, _, rfl, ⟨g', rfl, _⟩, rfl⟩ := h
    exact ⟨(⟨a, b, c, d, e, f, g, a', b', c', d', e', f', g'⟩ : Fx.Row), rfl⟩
  | fix =>
    obtain ⟨_, _, rfl, ⟨a, rfl, _⟩, _, _, rfl, ⟨b, rfl, _⟩, _, _, rfl, ⟨vs, rfl, _⟩, _, _, rfl, ⟨c, rfl, _⟩, _, _, rfl, ⟨d, rfl, _⟩, _, _, rfl, ⟨e, rfl, _⟩, _, _, rfl, ⟨f, rfl⟩, h⟩ := h
    obtain ⟨_, _, rfl, ⟨a', rfl, _⟩, _, _, rfl, ⟨b', rfl, _⟩, _, _, rfl, ⟨c', rfl, _⟩, rfl⟩ := h
    exact ⟨(⟨a, b, vs, c, d, e, f, a', b', c'⟩ : Fx.Fix), rfl⟩
  | cp => obtain ⟨_, _, rfl, ⟨a, rfl, _⟩, _, _, rfl, ⟨b, rfl, _⟩, _, _, rfl, ⟨c, rfl, _⟩, _, _, rfl, ⟨d, rfl, _⟩, _, _, rfl, ⟨e, rfl, _⟩, _, _, rfl, ⟨f, rfl, _⟩, rfl⟩ := h; exact ⟨(⟨a, b, c, d, e, f⟩ : Fx.Cp), rfl⟩
  | jnt =>
    obtain ⟨_, _, rfl, ⟨v0, rfl, _⟩, _, _, rfl, ⟨v1, rfl, _⟩, _, _, rfl, ⟨v2, rfl, _⟩, _, _, rfl, ⟨v3, rfl, _⟩, _, _, rfl, ⟨v4, rfl, _⟩, _, _, rfl, ⟨v5, rfl, _⟩, _, _, rfl, ⟨v6, rfl, _⟩, h⟩ := h
    obtain ⟨_, _, rfl, ⟨v7, rfl, _⟩, _, _, rfl, ⟨v8, rfl, _⟩, _, _, rfl, ⟨v9, rfl, _⟩, _, _, rfl, ⟨v10, rfl, _⟩, _, _, rfl, ⟨v11, rfl⟩, _, _, rfl, ⟨v12, rfl, _⟩, _, _, rfl, ⟨v13, rfl, _⟩, h⟩ := h
    obtain ⟨_, _, rfl, ⟨v14, rfl⟩, _, _, rfl, ⟨v15, rfl, _⟩, _, _, rfl, ⟨v16, rfl, _⟩, _, _, rfl, ⟨v17, rfl, _⟩, _, _, rfl, ⟨v18, rfl, _⟩, _, _, rfl, ⟨v19, rfl⟩, _, _, rfl, ⟨v20, rfl, _⟩, h⟩ := h
    obtain ⟨_, _, rfl, ⟨v21, rfl, _⟩, _, _, rfl, ⟨v22, rfl, _⟩, _, _, rfl, ⟨v23, rfl, _⟩, rfl⟩ := h
    exact ⟨(⟨v0, v1, v2, v3, v4, v5, v6, v7, v8, v9, v10, v11, v12, v13, v14, v15, v16, v17, v18, v19, v20, v21, v22, v23⟩ : Fx.Joint), rfl⟩
  | bd =>
    obtain ⟨_, _, rfl, ⟨v0, rfl, _⟩, _, _, rfl, ⟨v1, rfl, _⟩, _, _, rfl, ⟨v2, rfl, _⟩, _, _, rfl, ⟨v3, rfl, _⟩, _, _, rfl, ⟨v4, rfl, _⟩, _, _, rfl, ⟨v5, rfl, _⟩, _, _, rfl, ⟨v6, rfl, _⟩, h⟩ := h
    obtain ⟨_, _, rfl, ⟨v7, rfl, _⟩, _, _, rfl, ⟨v8, rfl, _⟩, _, _, rfl, ⟨v9, rfl, _⟩, _, _, rfl, ⟨v10, rfl, _⟩, _, _, rfl, ⟨v11, rfl, _⟩, _, _, rfl, ⟨v12, rfl, _⟩, _, _, rfl, ⟨v13, rfl, _⟩, h⟩ := h
    obtain ⟨_, _, rfl, ⟨v14, rfl⟩, _, _, rfl, ⟨v15, rfl⟩, _, _, rfl, ⟨v16, rfl⟩, _, _, rfl, ⟨v17, rfl⟩, _, _, rfl, ⟨v18, rfl, _⟩, _, _, rfl, ⟨v19, rfl, _⟩, rfl⟩ := h
    exact ⟨(⟨v0, v1, v2, v3, v4, v5, v6, v7, v8, v9, v10, v11, v12, v13, v14, v15, v16, v17, v18, v19⟩ : Fx.Bd), rfl⟩
  | ssb => obtain ⟨_, _, rfl, ⟨v, rfl, _⟩, rfl⟩ := h; exact ⟨v, rfl⟩

/-- The fields lie one behind the other. -/
def tiles (P : Program) : Nat → List Field → Option Nat
  | o, [] => some o
  | o, f :: fs => if f.offset = o then tiles P (o + P.cellsOf f.type) fs else none

def wfT (P : Program) : Nat → TypeId → Bool
  | 0, _ => false
  | d + 1, t =>
    match P.underlying t with
    | some .bool => P.cellsOf t == 1
    | some (.int _) => P.cellsOf t == 1
    | some (.struct fs) => (tiles P 0 fs.toList == some (P.cellsOf t)) && fs.toList.all fun f => wfT P d f.type
    | some (.array n e) => (P.cellsOf t == n * P.cellsOf e) && wfT P d e
    | some (.slice e) => (P.cellsOf t == 1) && wfT P d e && (match kindOf P e with
      | some k => Nat.beq k.sz (P.cellsOf e) && lfsEq (leafs P d e) k.lfs
      | none => false)
    | _ => false

section
variable {H : Type} {enc : TypeId × Value → H} {P : Program} {W : World} {base : Nat} {spare : Nat → Bool} {held : Bool}

/-- What is shown of a reading: cells. -/
def ReadOk (P : Program) (W : World) (D : Nat) (t : TypeId) (cs : List Value) : Prop :=
  ∃ cells : List Cell, CsR (Env.call W) cells cs ∧ AllLf (leafs P D t) cells ∧ cells.length = P.cellsOf t

theorem readFields {D : Nat} (ih : ∀ t fuel cs x, DataW.trod enc P W base spare held fuel t cs = some x → wfT P D t = true → ReadOk P W D t cs) {fuel : Nat} {cs : List Value} :
    ∀ (fs : List Field) (o e : Nat) (xs : List (DataW H × List MemPlace)), tiles P o fs = some e → (∀ f ∈ fs, wfT P D f.type = true) →
      (fs.mapM fun f => DataW.trod enc P W base spare held fuel f.type ((cs.drop f.offset).take (P.cellsOf f.type))) = some xs → e ≤ cs.length →
      o ≤ e ∧ ∃ cells : List Cell, CsR (Env.call W) cells ((cs.drop o).take (e - o)) ∧ AllLf (fs.flatMap fun f => leafs P D f.type) cells
  | [], o, e, xs, ht, _, _, _ => by
    simp only [tiles, Option.some.injEq] at ht
    subst ht
    exact ⟨Nat.le_refl _, [], by rw [Nat.sub_self, List.take_zero]; exact CsR.nil _, rfl⟩
  | f :: fs, o, e, xs, ht, hw, hm, hle => by
    simp only [tiles] at ht
    split at ht
    · rename_i hoff
      rw [List.mapM_cons] at hm
      cases hx : DataW.trod enc P W base spare held fuel f.type ((cs.drop f.offset).take (P.cellsOf f.type)) with
      | none => rw [hx] at hm; simp at hm
      | some x =>
        rw [hx] at hm
        cases hr : (fs.mapM fun f => DataW.trod enc P W base spare held fuel f.type ((cs.drop f.offset).take (P.cellsOf f.type))) with
        | none => rw [hr] at hm; simp at hm
        | some ys =>
          obtain ⟨c1, h1, h2, h3⟩ := ih _ _ _ _ hx (hw f (List.mem_cons_self ..))
          obtain ⟨hoe, c2, h5, h6⟩ := readFields ih fs _ e ys ht (fun g hg => hw g (List.mem_cons_of_mem _ hg)) hr hle
          refine ⟨by omega, c1 ++ c2, ?_, ?_⟩
          · have hs : e - o = P.cellsOf f.type + (e - (o + P.cellsOf f.type)) := by omega
            rw [hs, List.take_add, List.drop_drop]
            rw [hoff] at h1
            exact h1.append h5
          · rw [List.flatMap_cons]
            exact h2.append h6
    · cases ht

theorem readElems {D : Nat} {t : TypeId} (ih : ∀ fuel cs x, DataW.trod enc P W base spare held fuel t cs = some x → ReadOk P W D t cs) {fuel : Nat} {cs : List Value} :
    ∀ (n k : Nat) (xs : List (DataW H × List MemPlace)), ((List.range' k n).mapM fun i => DataW.trod enc P W base spare held fuel t ((cs.drop (i * P.cellsOf t)).take (P.cellsOf t))) = some xs → (k + n) * P.cellsOf t ≤ cs.length →
      ∃ cells : List Cell, CsR (Env.call W) cells ((cs.drop (k * P.cellsOf t)).take (n * P.cellsOf t)) ∧ AllLf (List.replicate n (leafs P D t)).flatten cells
  | 0, k, xs, _, _ => ⟨[], by rw [Nat.zero_mul, List.take_zero]; exact CsR.nil _, rfl⟩
  | n + 1, k, xs, hm, hle => by
    rw [List.range'_succ, List.mapM_cons] at hm
    cases hx : DataW.trod enc P W base spare held fuel t ((cs.drop (k * P.cellsOf t)).take (P.cellsOf t)) with
    | none => rw [hx] at hm; simp at hm
    | some x =>
      rw [hx] at hm
      cases hr : ((List.range' (k + 1) n).mapM fun i => DataW.trod enc P W base spare held fuel t ((cs.drop (i * P.cellsOf t)).take (P.cellsOf t))) with
      | none => rw [hr] at hm; simp at hm
      | some ys =>
        obtain ⟨c1, h1, h2, h3⟩ := ih _ _ _ hx
        obtain ⟨c2, h5, h6⟩ := readElems ih n (k + 1) ys hr (by rw [show k + 1 + n = k + (n + 1) by omega]; exact hle)
        refine ⟨c1 ++ c2, ?_, ?_⟩
        · rw [Nat.add_mul n 1, Nat.one_mul, Nat.add_comm (n * P.cellsOf t), List.take_add, List.drop_drop]
          rw [Nat.add_mul k 1, Nat.one_mul] at h5
          exact h1.append h5
        · rw [List.replicate_succ, List.flatten_cons]
          exact h2.append h6

theorem mapM_some {α β : Type} {f : α → Option β} : ∀ {l : List α} {ys : List β}, l.mapM f = some ys → ys.length = l.length ∧ ∀ (i : Nat) (x : α), l[i]? = some x → ∃ y, ys[i]? = some y ∧ f x = some y
  | [], ys, h => by simp at h; subst h; exact ⟨rfl, fun i x hx => by simp at hx⟩
  | a :: l, ys, h => by
    rw [List.mapM_cons] at h
    cases ha : f a with
    | none => rw [ha] at h; simp at h
    | some b =>
      rw [ha] at h
      cases hl : l.mapM f with
      | none => rw [hl] at h; simp at h
      | some bs =>
        rw [hl] at h
        simp at h; subst h
        obtain ⟨h1, h2⟩ := mapM_some hl
        refine ⟨by simp [h1], fun i x hx => ?_⟩
        cases i with
        | zero => simp at hx; subst hx; exact ⟨b, by simp, ha⟩
        | succ i => exact h2 i x (by simpa using hx)

theorem cells?_spec {a : Addr} {n : Nat} {l : List Value} (h : W.cells? base a n = some l) : l.length = n ∧ ∀ j v, l[j]? = some v → W.cell? (a.add j) = some v := by
  unfold World.cells? at h
  split at h
  · obtain ⟨h1, h2⟩ := mapM_some h
    refine ⟨by simpa using h1, fun j v hv => ?_⟩
    have hj : j < n := by have := (List.getElem?_eq_some_iff.1 hv).1; rw [h1] at this; simpa using this
    obtain ⟨y, hy, hc⟩ := h2 j j (by simp [hj])
    rw [hv] at hy
    simp at hy; subst hy
    exact hc
  · cases h

theorem trod_bool {t : TypeId} {fuel : Nat} {cs : List Value} {x : DataW H × List MemPlace} (hu : P.underlying t = some .bool) (h : DataW.trod enc P W base spare held fuel t cs = some x) : ∃ b, cs = [.bool b] := by
  cases fuel with
  | zero => cases h
  | succ fuel =>
    unfold DataW.trod at h
    rw [hu] at h
    split at h <;> first | exact ⟨_, rfl⟩ | (rename_i heq; cases heq; done) | (rename_i heq _; cases heq; done) | (rename_i heq _ _; cases heq; done) | cases h

theorem trod_int {t : TypeId} {k : IntKind} {fuel : Nat} {cs : List Value} {x : DataW H × List MemPlace} (hu : P.underlying t = some (.int k)) (h : DataW.trod enc P W base spare held fuel t cs = some x) :
    ∃ n, cs = [.int k n] ∧ (Lit.int k n).wf = true := by
  cases fuel with
  | zero => cases h
  | succ fuel =>
    unfold DataW.trod at h
    rw [hu] at h
    split at h
    case h_2 =>
      rename_i k1 k2 n heq
      cases heq
      split at h
      · rename_i hk
        exact ⟨n, by rw [hk.1], hk.2⟩
      · cases h
    all_goals first | (rename_i heq; cases heq; done) | (rename_i heq _; cases heq; done) | (rename_i heq _ _; cases heq; done) | cases h

theorem trod_struct {t : TypeId} {fs : Array Field} {fuel : Nat} {cs : List Value} {x : DataW H × List MemPlace} (hu : P.underlying t = some (.struct fs)) (h : DataW.trod enc P W base spare held (fuel + 1) t cs = some x) :
    cs.length = P.cellsOf t ∧ ∃ xs, (fs.toList.mapM fun f => DataW.trod enc P W base spare held fuel f.type ((cs.drop f.offset).take (P.cellsOf f.type))) = some xs := by
  unfold DataW.trod at h
  rw [hu] at h
  simp only at h
  split at h
  · rename_i hl
    refine ⟨hl, ?_⟩
    cases hx : (fs.toList.mapM fun f => DataW.trod enc P W base spare held fuel f.type ((cs.drop f.offset).take (P.cellsOf f.type))) with
    | none => rw [hx] at h; cases h
    | some xs => exact ⟨xs, rfl⟩
  · cases h

theorem trod_array {t : TypeId} {n : Nat} {e : TypeId} {fuel : Nat} {cs : List Value} {x : DataW H × List MemPlace} (hu : P.underlying t = some (.array n e)) (h : DataW.trod enc P W base spare held (fuel + 1) t cs = some x) :
    cs.length = P.cellsOf t ∧ ∃ xs, ((List.range n).mapM fun i => DataW.trod enc P W base spare held fuel e ((cs.drop (i * P.cellsOf e)).take (P.cellsOf e))) = some xs := by
  unfold DataW.trod at h
  rw [hu] at h
  simp only at h
  split at h
  · rename_i hl
    refine ⟨hl, ?_⟩
    cases hx : ((List.range n).mapM fun i => DataW.trod enc P W base spare held fuel e ((cs.drop (i * P.cellsOf e)).take (P.cellsOf e))) with
    | none => rw [hx] at h; cases h
    | some xs => exact ⟨xs, rfl⟩
  · cases h

theorem trod_slice {t : TypeId} {e : TypeId} {fuel : Nat} {cs : List Value} {x : DataW H × List MemPlace} (hu : P.underlying t = some (.slice e)) (h : DataW.trod enc P W base spare held (fuel + 1) t cs = some x) :
    cs = [.slice none 0 0] ∨ ∃ a len cap, cs = [.slice (some a) len cap] ∧ len ≤ cap ∧ cap ≤ maxLen ∧
      ∃ xs, ((List.range len).mapM fun i => (W.cells? base (a.add (i * P.cellsOf e)) (P.cellsOf e)).bind (DataW.trod enc P W base spare held fuel e)) = some xs := by
  unfold DataW.trod at h
  rw [hu] at h
  split at h
  case h_7 => exact .inl rfl
  case h_8 =>
    rename_i e1 a len cap heq
    cases heq
    simp only at h
    split at h
    · rename_i hc
      refine .inr ⟨a, len, cap, rfl, hc.2.1, hc.2.2, ?_⟩
      cases hx : ((List.range len).mapM fun i => (W.cells? base (a.add (i * P.cellsOf e)) (P.cellsOf e)).bind (DataW.trod enc P W base spare held fuel e)) with
      | none => rw [hx] at h; cases h
      | some xs => exact ⟨xs, rfl⟩
    · cases h
  all_goals first | (rename_i heq; cases heq; done) | (rename_i heq _; cases heq; done) | (rename_i heq _ _; cases heq; done) | cases h

theorem read_cells : ∀ (D : Nat) (t : TypeId) (fuel : Nat) (cs : List Value) (x : DataW H × List MemPlace), DataW.trod enc P W base spare held fuel t cs = some x → wfT P D t = true → ReadOk P W D t cs
  | 0, t, fuel, cs, x, _, hw => by cases hw
  | D + 1, t, 0, cs, x, h, _ => by cases h
  | D + 1, t, fuel + 1, cs, x, h, hw => by
    have ih := read_cells D
    unfold wfT at hw
    split at hw
    · rename_i hu
      obtain ⟨b, rfl⟩ := trod_bool hu h
      refine ⟨[.bool b], CsR.one rfl, ?_, (beq_iff_eq.1 hw).symm⟩
      simp only [leafs, hu]; exact ⟨_, _, rfl, ⟨b, rfl⟩, rfl⟩
    · rename_i k hu
      obtain ⟨n, rfl, hn⟩ := trod_int hu h
      refine ⟨[.int k n], CsR.one rfl, ?_, (beq_iff_eq.1 hw).symm⟩
      simp only [leafs, hu]
      refine ⟨_, _, rfl, ⟨n, rfl, ?_⟩, rfl⟩
      simpa [Lit.wf] using hn
    · rename_i fs hu
      simp only [Bool.and_eq_true, beq_iff_eq, List.all_eq_true] at hw
      obtain ⟨hl, xs, hxs⟩ := trod_struct hu h
      obtain ⟨_, cells, h1, h2⟩ := readFields ih fs.toList 0 _ xs hw.1 hw.2 hxs (by omega)
      simp only [List.drop_zero, Nat.sub_zero] at h1
      rw [← hl, List.take_length] at h1
      refine ⟨cells, h1, ?_, by rw [← hl]; exact h1.len.symm⟩
      simp only [leafs, hu]; exact h2
    · rename_i n e hu
      simp only [Bool.and_eq_true, beq_iff_eq] at hw
      obtain ⟨hl, xs, hxs⟩ := trod_array hu h
      rw [List.range_eq_range'] at hxs
      obtain ⟨cells, h1, h2⟩ := readElems (fun fuel cs x hx => ih e fuel cs x hx hw.2) n 0 xs hxs (by rw [hl, hw.1]; simp)
      simp only [Nat.zero_mul, List.drop_zero] at h1
      rw [← hw.1, ← hl, List.take_length] at h1
      refine ⟨cells, h1, ?_, by rw [← hl]; exact h1.len.symm⟩
      simp only [leafs, hu]; exact h2
    · rename_i e hu
      simp only [Bool.and_eq_true, beq_iff_eq] at hw
      obtain ⟨⟨hw1, hw2⟩, hw3⟩ := hw
      split at hw3
      · rename_i k hk
        simp only [Bool.and_eq_true] at hw3
        have hsz : k.sz = P.cellsOf e := Nat.eq_of_beq_eq_true hw3.1
        have hlf := lfsEq_eq hw3.2
        have hleaf : leafs P (D + 1) t = [.slc k] := by simp only [leafs, hu, hk]
        rcases trod_slice hu h with rfl | ⟨a, len, cap, rfl, hlc, hcm, xs, hxs⟩
        · refine ⟨[.slc false ⟨k, []⟩], CsR.one (.inl ⟨rfl, rfl⟩), ?_, by simpa using hw1.symm⟩
          rw [hleaf]
          exact ⟨_, _, rfl, ⟨[], rfl, Nat.zero_le _, fun x hx => by cases hx⟩, rfl⟩
        · obtain ⟨_, hel⟩ := mapM_some hxs
          have hex : ∀ i, ∃ x : k.Ty, i < len → (∀ (j : Nat) (c : Cell), (k.cells x)[j]? = some c → ∃ y, W.cell? (a.add (i * k.sz + j)) = some y ∧ CR (Env.call W) c y) ∧ ∀ c ∈ k.cells x, RangeC 3 c := by
            intro i
            by_cases hi : i < len
            · obtain ⟨y, _, hy⟩ := hel i i (by simp [hi])
              obtain ⟨l, hl1, hl2⟩ := Option.bind_eq_some_iff.1 hy
              obtain ⟨h3, h4⟩ := cells?_spec hl1
              obtain ⟨cells, h5, h6, h8⟩ := ih e _ _ _ hl2 hw2
              rw [hlf] at h6
              have hr := h6.range
              obtain ⟨x, rfl⟩ := K.of_lfs h6
              refine ⟨x, fun _ => ⟨fun j c hj => ?_, hr⟩⟩
              obtain ⟨y, h9, h10⟩ := h5.get j c hj
              refine ⟨y, ?_, h10⟩
              rw [hsz, ← add_add]
              exact h4 j y h9
            · exact ⟨k.dflt, fun hh => absurd hh hi⟩
          refine ⟨[.slc false ⟨k, (List.range len).map fun i => (hex i).choose⟩], CsR.one (.inr ⟨a, cap, by simp [SL.len], ⟨by simp [SL.len]; omega, by simp [SL.len]; omega⟩, fun i hi => ?_⟩), ?_, by simpa using hw1.symm⟩
          · have hi : i < len := by simpa [SL.len] using hi
            obtain ⟨h9, _⟩ := (hex i).choose_spec hi
            have hat : (⟨k, (List.range len).map fun i => (hex i).choose⟩ : SL).at i = k.cells (hex i).choose := by
              unfold SL.at
              simp [List.getD, hi]
            have hlen : 0 < (k.cells (hex i).choose).length := by rw [K.cells_len]; exact K.sz_pos k
            obtain ⟨y0, h11, _⟩ := h9 0 _ (List.getElem?_eq_getElem hlen)
            refine ⟨?_, fun j c hj => ?_⟩
            · have := World.block_lt_of_cell? W _ h11
              rw [add_block] at this
              exact this
            · rw [hat] at hj
              obtain ⟨y, h12, h13⟩ := h9 j c hj
              refine ⟨y, h12, ?_⟩
              rcases K.cells_mem (List.mem_of_getElem? hj) with ⟨_, _, rfl⟩ | ⟨_, rfl⟩ | ⟨m', rfl⟩
              · exact h13
              · exact h13
              · exact CRd_low_slc (K.cells_slc (List.mem_of_getElem? hj)) h13
          · rw [hleaf]
            refine ⟨_, _, rfl, ⟨_, rfl, ?_, fun x hx c hc => ?_⟩, rfl⟩
            · simp [SL.len]; omega
            · simp only [List.mem_map, List.mem_range] at hx
              obtain ⟨i, hi, rfl⟩ := hx
              exact (((hex i).choose_spec hi).2 c hc).down
      · cases hw3
    · cases hw

/-! ### all arguments of a law -/

/-- A value of a type, as it is handed over. -/
def ofCells (P : Program) (t : TypeId) (cells : List Cell) : PV :=
  if isAggT P t then .fv (.agg cells) else (match cells with | [c] => .fv (.one c) | _ => .tup [])

/-- Arguments of these types: their leaves. -/
inductive ArgsAre (P : Program) (D : Nat) : List TypeId → List PV → Prop
  | nil : ArgsAre P D [] []
  | cons {t : TypeId} {ts : List TypeId} {cells : List Cell} {vs : List PV} : AllLf (leafs P D t) cells → ArgsAre P D ts vs → ArgsAre P D (t :: ts) (ofCells P t cells :: vs)

/-- How a value of a type is laid out: an aggregate is one, all else is one cell. -/
def Formed (P : Program) (t : TypeId) (v : Value) : Prop := if isAggT P t then ∃ cs, v = .agg cs else v.oneCell' = true

theorem AllLf.fits : ∀ {ls : List Lf} {cs : List Cell}, AllLf ls cs → ∀ c ∈ cs, c.fits (fun _ => .free)
  | [], cs, h, c, hc => by rw [show cs = [] from h] at hc; cases hc
  | l :: ls, cs, ⟨d, r, e, h1, h2⟩, c, hc => by
    subst e
    rcases List.mem_cons.1 hc with rfl | hc
    · cases l with
      | raw => obtain ⟨v, rfl⟩ := h1; trivial
      | int k => obtain ⟨n, rfl, _⟩ := h1; trivial
      | bool => obtain ⟨b, rfl⟩ := h1; trivial
      | slc k => obtain ⟨l, rfl, _⟩ := h1; trivial
      | bad => exact h1.elim
    · exact AllLf.fits h2 c hc

theorem cells_one {v : Value} (h : v.oneCell' = true) : v.cells = #[v] := by cases v <;> first | rfl | cases h

theorem read_value {D : Nat} {t : TypeId} {v : Value} {d : DataW H} {ps : List MemPlace} (h : DataW.Trod enc P W base spare held t v d ps) (hw : wfT P D t = true) (hf : Formed P t v) :
    ∃ cells, AllLf (leafs P D t) cells ∧ PR (Env.call W) (ofCells P t cells) v ∧ Fits (fun _ => .free) (ofCells P t cells) := by
  obtain ⟨fuel, h⟩ := h
  obtain ⟨cells, h1, h2, h3⟩ := read_cells D t fuel _ _ h hw
  refine ⟨cells, h2, ?_⟩
  unfold Formed at hf
  unfold ofCells
  split
  · rename_i ha
    rw [if_pos ha] at hf
    obtain ⟨cs, rfl⟩ := hf
    exact ⟨⟨cs.toList, by simp, h1⟩, h2.fits⟩
  · rename_i ha
    rw [if_neg ha] at hf
    rw [cells_one hf] at h1
    have hl := h1.len
    match cells, h1, h2, hl with
    | [c], h1, h2, _ =>
      obtain ⟨y, e1, e2⟩ := h1.get 0 c rfl
      simp at e1; subst e1
      exact ⟨e2, fits_one (h2.fits c (by simp))⟩

theorem formed_of_ok {D : Nat} {t : TypeId} {v : Value} {r : Reach} (hw : wfT P D t = true) (h : Value.okWide P W r base t v) : Formed P t v := by
  cases D with
  | zero => cases hw
  | succ D =>
    unfold wfT at hw
    unfold Formed isAggT
    unfold Value.okWide at h
    split at hw
    · rename_i hu
      simp only [hu] at h ⊢
      unfold Cell.okWide at h
      unfold Go.Cell.ok at h
      rw [hu] at h
      cases v <;> first | rfl | exact h.elim
    · rename_i k hu
      simp only [hu] at h ⊢
      unfold Cell.okWide at h
      unfold Go.Cell.ok at h
      rw [hu] at h
      cases v <;> first | rfl | exact h.elim
    · rename_i fs hu
      simp only [hu] at h ⊢
      obtain ⟨cs, rfl, _⟩ := h
      exact ⟨cs, rfl⟩
    · rename_i n e hu
      simp only [hu] at h ⊢
      obtain ⟨cs, rfl, _⟩ := h
      exact ⟨cs, rfl⟩
    · rename_i e hu
      simp only [hu] at h ⊢
      unfold Cell.okWide at h
      unfold Go.Cell.ok at h
      rw [hu] at h
      cases v <;> first | rfl | exact h.elim
    · cases hw

theorem read_all {D : Nat} {r : Reach} {b0 : Nat} : ∀ {ts : List TypeId} {vs : List Value} {ds : List (DataW H)} {ps : List MemPlace}, DataW.TrodAll enc P W base spare held ts vs ds ps → (∀ t ∈ ts, wfT P D t = true) →
    (∀ (j : Nat) t v, ts[j]? = some t → vs[j]? = some v → Value.okWide P W r b0 t v) →
    ∃ pvs : List PV, PsR (Env.call W) (fun _ => .free) pvs vs ∧ ArgsAre P D ts pvs ∧ ds.length = ts.length
  | [], [], [], _, _, _, _ => ⟨[], .nil _ _, .nil, rfl⟩
  | t :: ts, v :: vs, d :: ds, ps, h, hw, hok => by
    obtain ⟨p, q, h1, h2, _⟩ := h
    obtain ⟨cells, h3, h4, h5⟩ := read_value h1 (hw t (List.mem_cons_self ..)) (formed_of_ok (hw t (List.mem_cons_self ..)) (hok 0 t v rfl rfl))
    obtain ⟨pvs, h6, h8, h9⟩ := read_all h2 (fun u hu => hw u (List.mem_cons_of_mem _ hu)) (fun j u x hu hx => hok (j + 1) u x (by simpa using hu) (by simpa using hx))
    exact ⟨_ :: pvs, .cons h4 h5 h6, .cons h3 h8, by simp [h9]⟩
  | [], _ :: _, _, _, h, _, _ => h.elim
  | [], [], _ :: _, _, h, _, _ => h.elim
  | _ :: _, [], _, _, h, _, _ => h.elim
  | _ :: _, _ :: _, [], _, h, _, _ => h.elim

theorem trodAll_stays (hl : laidOutB P = true) {W' : World} {sp : Nat → Bool} : ∀ {ts : List TypeId} {vs : List Value} {ds : List (DataW H)} {ps : List MemPlace}, (∀ t ∈ ts, P.readableRec t = true ∧ t < P.types.size) →
    DataW.TrodAll enc P W 0 (fun _ => true) true ts vs ds ps → (∀ p ∈ ps, W.sameAt W' p) → (∀ p ∈ ps, sp p.block = true) → DataW.TrodAll enc P W' 0 sp true ts vs ds ps
  | [], [], [], _, _, h, _, _ => h
  | t :: ts, v :: vs, d :: ds, ps, hr, h, hsame, hs => by
    obtain ⟨p, q, h1, h2, rfl⟩ := h
    obtain ⟨r1, r2⟩ := hr t (List.mem_cons_self ..)
    exact ⟨p, q, WideElems.Trod_stays hl r1 r2 h1 (fun x hx => hsame x (List.mem_append_left _ hx)) (fun x hx => hs x (List.mem_append_left _ hx)),
      trodAll_stays hl (fun u hu => hr u (List.mem_cons_of_mem _ hu)) h2 (fun x hx => hsame x (List.mem_append_right _ hx)) (fun x hx => hs x (List.mem_append_right _ hx)), rfl⟩
  | [], _ :: _, _, _, _, h, _, _ => h.elim
  | [], [], _ :: _, _, _, h, _, _ => h.elim
  | _ :: _, [], _, _, _, h, _, _ => h.elim
  | _ :: _, _ :: _, [], _, _, h, _, _ => h.elim

theorem post_of_below {f : Func} {s : ChangeSpec} {apart fresh handsOn again : Bool} {W W' : World} {args : Array Value} {v : Value} {ds gs : List (DataW H)} {before pa pv : List MemPlace}
    (hW : DataW.Whole enc P f.params.toList s.vars apart W args.toList ds gs before)
    (hres : ∀ (b : Nat) (sp : Nat → Bool) (hd : Bool), DataW.TrodAll enc P W' b sp hd f.resultTypes.toList (v.resultList f.resultTypes.size) (s.fn H (ds ++ gs)).results [])
    (hargs : ∀ sp : Nat → Bool, (∀ p ∈ before, sp p.block = true) → DataW.TrodAll enc P W' 0 sp true f.params.toList args.toList (s.fn H (ds ++ gs)).args pa)
    (hvars : ∀ sp : Nat → Bool, (∀ p ∈ before, sp p.block = true) → DataW.TrodVars enc P W' sp s.vars (s.fn H (ds ++ gs)).vars pv)
    (hps : before = pa ++ pv) (hb : Below W.heap.size W W')
    (hok : ∀ (j : Nat) (t : TypeId) (r : Value), f.resultTypes[j]? = some t → (v.resultList f.resultTypes.size)[j]? = some r → Value.okWide P W' .any 0 t r) :
    s.post enc P f apart fresh handsOn again W args v W' := by
  have hlt : ∀ p ∈ before, p.block < W.heap.size := fun p hp => hW.lt p hp
  have hold : ∀ p ∈ before, (fun b => decide (b < W.heap.size)) p.block = true := fun p hp => by simpa using hlt p hp
  refine ⟨ds, gs, before, [], pa, pv, hW, hres _ _ _, hargs _ hold, hvars _ hold, World.keptBut_mono (fun p hp => ⟨hp, ?_⟩) (hb.frame (· ∈ before)), fun _ => ?_⟩
  · rw [hps, List.mem_append] at hp
    exact Or.inr hp
  · obtain ⟨_, _, _, _, _, hz, hn⟩ := hW
    refine ⟨hok, _, _, ([] ++ pa) ++ pv, ⟨[] ++ pa, pv, trodAll_append (hargs _ (fun _ _ => rfl)) (hres _ _ _), hvars _ (fun _ _ => rfl), rfl, ?_, ?_⟩, ?_⟩
    · intro b off hp
      have hin : MemPlace.cell b off ∈ before := by rw [hps]; simpa using hp
      rw [hb.frozen (hlt _ hin)]
      exact hz b off hin
    · intro ha
      have := hn ha
      rw [hps] at this
      simpa using this
    · intro p hp _
      rw [hps]
      simpa using hp

/-- The parameters can all be read, and their types are formed so that the reading is known. -/
def allOk (P : Program) (D : Nat) (ts : List TypeId) : Bool := ts.all fun t => P.readableRec t && Nat.blt t P.types.size && wfT P D t
theorem of_allOk {P : Program} {D : Nat} {ts : List TypeId} (h : allOk P D ts = true) : ∀ t ∈ ts, (P.readableRec t = true ∧ t < P.types.size) ∧ wfT P D t = true := by
  intro t ht
  have := List.all_eq_true.1 h t ht
  simp only [Bool.and_eq_true] at this
  exact ⟨⟨this.1.1, Nat.le_of_ble_eq_true this.1.2⟩, this.2⟩

/-- **A law whose contract says 'true' for every argument meets its row's specification.** -/
theorem law_contract {D : Nat} {f : FuncId} {fn : Func} {s : ChangeSpec} {tb : TypeId} {C : Contract} (hl : laidOutB P = true) (hparams : ∀ t ∈ fn.params.toList, (P.readableRec t = true ∧ t < P.types.size) ∧ wfT P D t = true)
    (hres : fn.resultTypes = #[tb]) (htb : P.underlying tb = some .bool) (hvars : s.vars = []) (hspec : ∀ ds : List (DataW H), ds.length = fn.params.size → s.fn H ds = { results := [.lit (.bool true)], args := ds })
    (hS : Sound P f C) (hlaw : ∀ vs, ArgsAre P D fn.params.toList vs → ∃ ps, C vs = some (ps, .fv (.one (.bool true))) ∧ Conj ps)
    (W : World) (base : Nat) (args : Array Value) (ds gs : List (DataW H)) (before : List MemPlace) (hval : ∀ (j : Nat) t v, fn.params[j]? = some t → args[j]? = some v → Value.okWide P W .any base t v)
    (hW : DataW.Whole enc P fn.params.toList s.vars false W args.toList ds gs before) :
    Calls P f args W fun e W' => ∃ v, e = .returned v ∧ s.post enc P fn false true false false W args v W' := by
  have hW' := hW
  obtain ⟨p, q, hA, hV, hpq, hfz, hnd⟩ := hW
  obtain ⟨pvs, h1, h3, h4⟩ := read_all (D := D) (r := .any) (b0 := base) hA (fun t ht => (hparams t ht).2) (fun j t v ht hv => hval j t v (by simpa using ht) (by simpa using hv))
  obtain ⟨ps, hC, hc⟩ := hlaw pvs h3
  have hrun := hS.runs pvs ps _ hC hc W args.toList h1
  rw [Array.toArray_toList] at hrun
  rw [hvars] at hV
  obtain ⟨rfl, rfl⟩ := trodVars_none hV
  refine hrun.mono fun e W' he => ?_
  obtain ⟨v, he, hb, hres'⟩ := he
  have hv : v = .bool true := hres'
  subst hv
  have hfn : s.fn H (ds ++ []) = { results := [.lit (.bool true)], args := ds } := by rw [List.append_nil]; exact hspec ds (by simpa using h4)
  refine ⟨.bool true, he, post_of_below (pa := p) (pv := []) hW' ?_ ?_ ?_ hpq hb ?_⟩
  · intro b sp hd
    rw [hfn, hres]
    exact trodAll_mk1 (shut_bool htb _)
  · intro sp hsp
    rw [hfn]
    exact trodAll_stays hl (fun t ht => (hparams t ht).1) hA (fun x hx => hb.same (hW'.lt x (by rw [hpq]; exact List.mem_append_left _ hx))) (fun x hx => hsp x (by rw [hpq]; exact List.mem_append_left _ hx))
  · intro sp _
    rw [hfn, hvars]
    rfl
  · exact ok_one hres rfl (okWide_bool_mk htb _)

end
end Go.Eng
