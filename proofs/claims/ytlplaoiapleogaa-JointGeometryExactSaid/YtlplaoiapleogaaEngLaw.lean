/- THE ENGINE, PART 6: the arguments of a law, as they are read; a law's row out of its contract. -/
import Derived.Test.YtlplaoiapleogaaEngRun
import Derived.ProofKit
import Derived.OpenShut
import Derived.Carry
namespace Go.Eng
open Go.ChangeShapes Go.WideShapes Go.ChangeAt Go.RowKit

/-! ### the shape of what a type's value reads as -/

def ShapeFs (S : TypeId → List Cell → Prop) : List Field → List Cell → Prop
  | [], cs => cs = []
  | f :: fs, cs => ∃ c1 c2, cs = c1 ++ c2 ∧ S f.type c1 ∧ ShapeFs S fs c2

def ShapeN (S : List Cell → Prop) : Nat → List Cell → Prop
  | 0, cs => cs = []
  | n + 1, cs => ∃ c1 c2, cs = c1 ++ c2 ∧ S c1 ∧ ShapeN S n c2

def Shape (P : Program) : Nat → TypeId → List Cell → Prop
  | 0, _, _ => False
  | d + 1, t, cs =>
    match P.underlying t with
    | some .bool => ∃ b, cs = [.bool b]
    | some (.int k) => ∃ n, cs = [.int k n] ∧ k.min ≤ n ∧ n ≤ k.max
    | some (.struct fs) => ShapeFs (Shape P d) fs.toList cs
    | some (.array n e) => ShapeN (Shape P d e) n cs
    | some (.slice e) => ∃ v n get, cs = [.slc (.fix v) (P.cellsOf e) n get] ∧ n ≤ maxLen ∧ ∀ i, i < n → Shape P d e ((List.range (P.cellsOf e)).map (get i))
    | _ => False

/-- The fields lie one behind the other. -/
def tiles (P : Program) : Nat → List Field → Option Nat
  | o, [] => some o
  | o, f :: fs => if f.offset = o then tiles P (o + P.cellsOf f.type) fs else none

def wfT (P : Program) : Nat → TypeId → Bool
  | 0, _ => false
  | d + 1, t =>
    match P.underlying t with
    | some .bool => P.cellsOf t == 1
    | some (.int _) => P.cellsOf t == 1
    | some (.struct fs) => (tiles P 0 fs.toList == some (P.cellsOf t)) && fs.toList.all fun f => wfT P d f.type
    | some (.array n e) => (P.cellsOf t == n * P.cellsOf e) && wfT P d e
    | some (.slice e) => (P.cellsOf t == 1) && wfT P d e
    | _ => false

section
variable {H : Type} {enc : TypeId × Value → H} {P : Program} {W : World} {base : Nat} {spare : Nat → Bool} {held : Bool}

/-- What is shown of a reading: cells. -/
def ReadOk (P : Program) (W : World) (D : Nat) (t : TypeId) (cs : List Value) : Prop :=
  ∃ cells : List Cell, cs = cells.map Cell.den0 ∧ (∀ c ∈ cells, c.ok0 W) ∧ Shape P D t cells ∧ cells.length = P.cellsOf t

theorem readFields {D : Nat} (ih : ∀ t fuel cs x, DataW.trod enc P W base spare held fuel t cs = some x → wfT P D t = true → ReadOk P W D t cs) {fuel : Nat} {cs : List Value} :
    ∀ (fs : List Field) (o e : Nat) (xs : List (DataW H × List MemPlace)), tiles P o fs = some e → (∀ f ∈ fs, wfT P D f.type = true) →
      (fs.mapM fun f => DataW.trod enc P W base spare held fuel f.type ((cs.drop f.offset).take (P.cellsOf f.type))) = some xs → e ≤ cs.length →
      o ≤ e ∧ ∃ cells : List Cell, (cs.drop o).take (e - o) = cells.map Cell.den0 ∧ (∀ c ∈ cells, c.ok0 W) ∧ ShapeFs (Shape P D) fs cells
  | [], o, e, xs, ht, _, _, _ => by
    simp only [tiles, Option.some.injEq] at ht
    subst ht
    exact ⟨Nat.le_refl _, [], by simp, fun c hc => (by cases hc), rfl⟩
  | f :: fs, o, e, xs, ht, hw, hm, hle => by
    simp only [tiles] at ht
    split at ht
    · rename_i hoff
      rw [List.mapM_cons] at hm
      cases hx : DataW.trod enc P W base spare held fuel f.type ((cs.drop f.offset).take (P.cellsOf f.type)) with
      | none => rw [hx] at hm; simp at hm
      | some x =>
        rw [hx] at hm
        cases hr : (fs.mapM fun f => DataW.trod enc P W base spare held fuel f.type ((cs.drop f.offset).take (P.cellsOf f.type))) with
        | none => rw [hr] at hm; simp at hm
        | some ys =>
          obtain ⟨c1, h1, h2, h3, h4⟩ := ih _ _ _ _ hx (hw f (List.mem_cons_self ..))
          obtain ⟨hoe, c2, h5, h6, h7⟩ := readFields ih fs _ e ys ht (fun g hg => hw g (List.mem_cons_of_mem _ hg)) hr hle
          refine ⟨by omega, c1 ++ c2, ?_, fun c hc => ?_, c1, c2, rfl, h3, h7⟩
          · rw [List.map_append, ← h1, ← h5, hoff]
            have hs : e - o = P.cellsOf f.type + (e - (o + P.cellsOf f.type)) := by omega
            rw [hs, List.take_add, List.drop_drop]
          · rcases List.mem_append.1 hc with hc | hc
            · exact h2 c hc
            · exact h6 c hc
    · cases ht

theorem readElems {D : Nat} {t : TypeId} (ih : ∀ fuel cs x, DataW.trod enc P W base spare held fuel t cs = some x → ReadOk P W D t cs) {fuel : Nat} {cs : List Value} :
    ∀ (n k : Nat) (xs : List (DataW H × List MemPlace)), ((List.range' k n).mapM fun i => DataW.trod enc P W base spare held fuel t ((cs.drop (i * P.cellsOf t)).take (P.cellsOf t))) = some xs → (k + n) * P.cellsOf t ≤ cs.length →
      ∃ cells : List Cell, (cs.drop (k * P.cellsOf t)).take (n * P.cellsOf t) = cells.map Cell.den0 ∧ (∀ c ∈ cells, c.ok0 W) ∧ ShapeN (Shape P D t) n cells
  | 0, k, xs, _, _ => ⟨[], by simp, fun c hc => (by cases hc), rfl⟩
  | n + 1, k, xs, hm, hle => by
    rw [List.range'_succ, List.mapM_cons] at hm
    cases hx : DataW.trod enc P W base spare held fuel t ((cs.drop (k * P.cellsOf t)).take (P.cellsOf t)) with
    | none => rw [hx] at hm; simp at hm
    | some x =>
      rw [hx] at hm
      cases hr : ((List.range' (k + 1) n).mapM fun i => DataW.trod enc P W base spare held fuel t ((cs.drop (i * P.cellsOf t)).take (P.cellsOf t))) with
      | none => rw [hr] at hm; simp at hm
      | some ys =>
        obtain ⟨c1, h1, h2, h3, h4⟩ := ih _ _ _ hx
        obtain ⟨c2, h5, h6, h7⟩ := readElems ih n (k + 1) ys hr (by rw [show k + 1 + n = k + (n + 1) by omega]; exact hle)
        refine ⟨c1 ++ c2, ?_, fun c hc => ?_, c1, c2, rfl, h3, h7⟩
        · rw [List.map_append, ← h1, ← h5, Nat.add_mul n 1, Nat.one_mul, Nat.add_comm (n * P.cellsOf t), List.take_add, List.drop_drop, Nat.add_mul k 1, Nat.one_mul]
        · rcases List.mem_append.1 hc with hc | hc
          · exact h2 c hc
          · exact h6 c hc

theorem mapM_some {α β : Type} {f : α → Option β} : ∀ {l : List α} {ys : List β}, l.mapM f = some ys → ys.length = l.length ∧ ∀ (i : Nat) (x : α), l[i]? = some x → ∃ y, ys[i]? = some y ∧ f x = some y
  | [], ys, h => by simp at h; subst h; exact ⟨rfl, fun i x hx => by simp at hx⟩
  | a :: l, ys, h => by
    rw [List.mapM_cons] at h
    cases ha : f a with
    | none => rw [ha] at h; simp at h
    | some b =>
      rw [ha] at h
      cases hl : l.mapM f with
      | none => rw [hl] at h; simp at h
      | some bs =>
        rw [hl] at h
        simp at h; subst h
        obtain ⟨h1, h2⟩ := mapM_some hl
        refine ⟨by simp [h1], fun i x hx => ?_⟩
        cases i with
        | zero => simp at hx; subst hx; exact ⟨b, by simp, ha⟩
        | succ i => exact h2 i x (by simpa using hx)

theorem cells?_spec {a : Addr} {n : Nat} {l : List Value} (h : W.cells? base a n = some l) : l.length = n ∧ ∀ j v, l[j]? = some v → W.cell? (a.add j) = some v := by
  unfold World.cells? at h
  split at h
  · obtain ⟨h1, h2⟩ := mapM_some h
    refine ⟨by simpa using h1, fun j v hv => ?_⟩
    have hj : j < n := by have := (List.getElem?_eq_some_iff.1 hv).1; rw [h1] at this; simpa using this
    obtain ⟨y, hy, hc⟩ := h2 j j (by simp [hj])
    rw [hv] at hy
    simp at hy; subst hy
    exact hc
  · cases h

theorem trod_bool {t : TypeId} {fuel : Nat} {cs : List Value} {x : DataW H × List MemPlace} (hu : P.underlying t = some .bool) (h : DataW.trod enc P W base spare held fuel t cs = some x) : ∃ b, cs = [.bool b] := by
  cases fuel with
  | zero => cases h
  | succ fuel =>
    unfold DataW.trod at h
    rw [hu] at h
    split at h <;> first | exact ⟨_, rfl⟩ | (rename_i heq; cases heq; done) | (rename_i heq _; cases heq; done) | (rename_i heq _ _; cases heq; done) | cases h

theorem trod_int {t : TypeId} {k : IntKind} {fuel : Nat} {cs : List Value} {x : DataW H × List MemPlace} (hu : P.underlying t = some (.int k)) (h : DataW.trod enc P W base spare held fuel t cs = some x) :
    ∃ n, cs = [.int k n] ∧ (Lit.int k n).wf = true := by
  cases fuel with
  | zero => cases h
  | succ fuel =>
    unfold DataW.trod at h
    rw [hu] at h
    split at h
    case h_2 =>
      rename_i k1 k2 n heq
      cases heq
      split at h
      · rename_i hk
        exact ⟨n, by rw [hk.1], hk.2⟩
      · cases h
    all_goals first | (rename_i heq; cases heq; done) | (rename_i heq _; cases heq; done) | (rename_i heq _ _; cases heq; done) | cases h

theorem trod_struct {t : TypeId} {fs : Array Field} {fuel : Nat} {cs : List Value} {x : DataW H × List MemPlace} (hu : P.underlying t = some (.struct fs)) (h : DataW.trod enc P W base spare held (fuel + 1) t cs = some x) :
    cs.length = P.cellsOf t ∧ ∃ xs, (fs.toList.mapM fun f => DataW.trod enc P W base spare held fuel f.type ((cs.drop f.offset).take (P.cellsOf f.type))) = some xs := by
  unfold DataW.trod at h
  rw [hu] at h
  simp only at h
  split at h
  · rename_i hl
    refine ⟨hl, ?_⟩
    cases hx : (fs.toList.mapM fun f => DataW.trod enc P W base spare held fuel f.type ((cs.drop f.offset).take (P.cellsOf f.type))) with
    | none => rw [hx] at h; cases h
    | some xs => exact ⟨xs, rfl⟩
  · cases h

theorem trod_array {t : TypeId} {n : Nat} {e : TypeId} {fuel : Nat} {cs : List Value} {x : DataW H × List MemPlace} (hu : P.underlying t = some (.array n e)) (h : DataW.trod enc P W base spare held (fuel + 1) t cs = some x) :
    cs.length = P.cellsOf t ∧ ∃ xs, ((List.range n).mapM fun i => DataW.trod enc P W base spare held fuel e ((cs.drop (i * P.cellsOf e)).take (P.cellsOf e))) = some xs := by
  unfold DataW.trod at h
  rw [hu] at h
  simp only at h
  split at h
  · rename_i hl
    refine ⟨hl, ?_⟩
    cases hx : ((List.range n).mapM fun i => DataW.trod enc P W base spare held fuel e ((cs.drop (i * P.cellsOf e)).take (P.cellsOf e))) with
    | none => rw [hx] at h; cases h
    | some xs => exact ⟨xs, rfl⟩
  · cases h

theorem trod_slice {t : TypeId} {e : TypeId} {fuel : Nat} {cs : List Value} {x : DataW H × List MemPlace} (hu : P.underlying t = some (.slice e)) (h : DataW.trod enc P W base spare held (fuel + 1) t cs = some x) :
    cs = [.slice none 0 0] ∨ ∃ a len cap, cs = [.slice (some a) len cap] ∧ len ≤ cap ∧ cap ≤ maxLen ∧
      ∃ xs, ((List.range len).mapM fun i => (W.cells? base (a.add (i * P.cellsOf e)) (P.cellsOf e)).bind (DataW.trod enc P W base spare held fuel e)) = some xs := by
  unfold DataW.trod at h
  rw [hu] at h
  split at h
  case h_7 => exact .inl rfl
  case h_8 =>
    rename_i e1 a len cap heq
    cases heq
    simp only at h
    split at h
    · rename_i hc
      refine .inr ⟨a, len, cap, rfl, hc.2.1, hc.2.2, ?_⟩
      cases hx : ((List.range len).mapM fun i => (W.cells? base (a.add (i * P.cellsOf e)) (P.cellsOf e)).bind (DataW.trod enc P W base spare held fuel e)) with
      | none => rw [hx] at h; cases h
      | some xs => exact ⟨xs, rfl⟩
    · cases h
  all_goals first | (rename_i heq; cases heq; done) | (rename_i heq _; cases heq; done) | (rename_i heq _ _; cases heq; done) | cases h

theorem read_cells : ∀ (D : Nat) (t : TypeId) (fuel : Nat) (cs : List Value) (x : DataW H × List MemPlace), DataW.trod enc P W base spare held fuel t cs = some x → wfT P D t = true → ReadOk P W D t cs
  | 0, t, fuel, cs, x, _, hw => by cases hw
  | D + 1, t, 0, cs, x, h, _ => by cases h
  | D + 1, t, fuel + 1, cs, x, h, hw => by
    have ih := read_cells D
    unfold wfT at hw
    split at hw
    · rename_i hu
      obtain ⟨b, rfl⟩ := trod_bool hu h
      refine ⟨[.bool b], rfl, fun c hc => (by simp at hc; subst hc; trivial), ?_, (beq_iff_eq.1 hw).symm⟩
      simp only [Shape, hu]; exact ⟨b, rfl⟩
    · rename_i k hu
      obtain ⟨n, rfl, hn⟩ := trod_int hu h
      refine ⟨[.int k n], rfl, fun c hc => (by simp at hc; subst hc; trivial), ?_, (beq_iff_eq.1 hw).symm⟩
      simp only [Shape, hu]
      refine ⟨n, rfl, ?_⟩
      simpa [Lit.wf] using hn
    · rename_i fs hu
      simp only [Bool.and_eq_true, beq_iff_eq, List.all_eq_true] at hw
      obtain ⟨hl, xs, hxs⟩ := trod_struct hu h
      obtain ⟨_, cells, h1, h2, h3⟩ := readFields ih fs.toList 0 _ xs hw.1 hw.2 hxs (by omega)
      simp only [List.drop_zero, Nat.sub_zero] at h1
      rw [← hl, List.take_length] at h1
      refine ⟨cells, h1, h2, ?_, by rw [← hl, h1]; simp⟩
      simp only [Shape, hu]; exact h3
    · rename_i n e hu
      simp only [Bool.and_eq_true, beq_iff_eq] at hw
      obtain ⟨hl, xs, hxs⟩ := trod_array hu h
      rw [List.range_eq_range'] at hxs
      obtain ⟨cells, h1, h2, h3⟩ := readElems (fun fuel cs x hx => ih e fuel cs x hx hw.2) n 0 xs hxs (by rw [hl, hw.1]; simp)
      simp only [Nat.zero_mul, List.drop_zero] at h1
      rw [← hw.1, ← hl, List.take_length] at h1
      refine ⟨cells, h1, h2, ?_, by rw [← hl, h1]; simp⟩
      simp only [Shape, hu]; exact h3
    · rename_i e hu
      simp only [Bool.and_eq_true, beq_iff_eq] at hw
      rcases trod_slice hu h with rfl | ⟨a, len, cap, rfl, hlc, hcm, xs, hxs⟩
      · refine ⟨[.slc (.fix (.slice none 0 0)) (P.cellsOf e) 0 fun _ _ => .bool true], rfl, fun c hc => (by simp at hc; subst hc; exact .inl ⟨rfl, rfl⟩), ?_, by simpa using hw.1.symm⟩
        simp only [Shape, hu]
        exact ⟨_, 0, _, rfl, Nat.zero_le _, fun i hi => absurd hi (by omega)⟩
      · obtain ⟨_, hel⟩ := mapM_some hxs
        have hex : ∀ i, ∃ cells : List Cell, i < len → cells.length = P.cellsOf e ∧ (∀ j c, cells[j]? = some c → W.cell? (a.add (i * P.cellsOf e + j)) = some c.den0 ∧ c.ok0 W) ∧ Shape P D e cells := by
          intro i
          by_cases hi : i < len
          · obtain ⟨y, _, hy⟩ := hel i i (by simp [hi])
            obtain ⟨l, hl1, hl2⟩ := Option.bind_eq_some_iff.1 hy
            obtain ⟨h3, h4⟩ := cells?_spec hl1
            obtain ⟨cells, h5, h6, h7, h8⟩ := ih e _ _ _ hl2 hw.2
            refine ⟨cells, fun _ => ⟨h8, fun j c hj => ⟨?_, h6 c (List.mem_of_getElem? hj)⟩, h7⟩⟩
            rw [← Addr.add_add]
            refine h4 j _ ?_
            rw [h5, List.getElem?_map, hj]; rfl
          · exact ⟨[], fun hh => absurd hh hi⟩
        refine ⟨[.slc (.fix (.slice (some a) len cap)) (P.cellsOf e) len fun i j => ((hex i).choose)[j]?.getD (.bool true)], rfl, fun c hc => ?_, ?_, by simpa using hw.1.symm⟩
        · simp at hc; subst hc
          refine .inr ⟨a, cap, rfl, fun i j hi hj => ?_⟩
          obtain ⟨h9, h10, _⟩ := (hex i).choose_spec hi
          cases hx : ((hex i).choose)[j]? with
          | none =>
            have := List.getElem?_eq_none_iff.1 hx
            omega
          | some c => simp only [hx, Option.getD_some]; exact h10 j c hx
        · simp only [Shape, hu]
          refine ⟨_, len, _, rfl, by omega, fun i hi => ?_⟩
          obtain ⟨h9, _, h11⟩ := (hex i).choose_spec hi
          have : (List.range (P.cellsOf e)).map (fun j => ((hex i).choose)[j]?.getD (.bool true)) = (hex i).choose := by
            apply List.ext_getElem?
            intro j
            rw [List.getElem?_map]
            by_cases hj : j < P.cellsOf e
            · simp [hj, h9]
            · rw [List.getElem?_eq_none (by simpa using hj), List.getElem?_eq_none (by omega)]; rfl
          rw [this]
          exact h11
    · cases hw
/-! ### all arguments of a law -/

/-- A value of a type, as it is handed over. -/
def ofCells (P : Program) (t : TypeId) (cells : List Cell) : PV :=
  if isAggT P t then .fv (.agg cells) else (match cells with | [c] => .fv (.one c) | _ => .tup [])

/-- Arguments of these types: their shapes. -/
inductive ArgsAre (P : Program) (D : Nat) : List TypeId → List PV → Prop
  | nil : ArgsAre P D [] []
  | cons {t : TypeId} {ts : List TypeId} {cells : List Cell} {vs : List PV} : Shape P D t cells → ArgsAre P D ts vs → ArgsAre P D (t :: ts) (ofCells P t cells :: vs)

/-- How a value of a type is laid out: an aggregate is one, all else is one cell. -/
def Formed (P : Program) (t : TypeId) (v : Value) : Prop := if isAggT P t then ∃ cs, v = .agg cs else v.oneCell' = true

theorem read_value {D : Nat} {t : TypeId} {v : Value} {d : DataW H} {ps : List MemPlace} (h : DataW.Trod enc P W base spare held t v d ps) (hw : wfT P D t = true) (hf : Formed P t v) (E : Env) (mem : Nat → MRes) :
    ∃ cells, Shape P D t cells ∧ v = (ofCells P t cells).den E ∧ GoodV E ⟨W, W, Below.refl _ _⟩ mem (ofCells P t cells) := by
  obtain ⟨fuel, h⟩ := h
  obtain ⟨cells, h1, h2, h3, h4⟩ := read_cells D t fuel _ _ h hw
  have hden : cells.map (Cell.den E) = cells.map Cell.den0 := List.map_congr_left fun c hc => (ok0_good (B := ⟨W, W, Below.refl _ _⟩) (h2 c hc) E mem).1
  have hgood : ∀ c ∈ cells, Good E ⟨W, W, Below.refl _ _⟩ mem c := fun c hc => (ok0_good (h2 c hc) E mem).2
  refine ⟨cells, h3, ?_⟩
  unfold Formed at hf
  unfold ofCells
  split
  · rename_i ha
    rw [if_pos ha] at hf
    obtain ⟨cs, rfl⟩ := hf
    refine ⟨?_, hgood⟩
    simp only [PV.den, FV.den, hden, ← h1]
    rfl
  · rename_i ha
    rw [if_neg ha] at hf
    rw [cells_one hf] at h1
    match cells, h1, hgood with
    | [c], h1, hgood =>
      simp at h1
      refine ⟨?_, fun x hx => ?_⟩
      · rw [h1]
        have := (ok0_good (B := ⟨W, W, Below.refl _ _⟩) (h2 c (by simp)) E mem).1
        simp only [PV.den, FV.den, this]
      · exact hgood x hx

theorem formed_of_ok {D : Nat} {t : TypeId} {v : Value} {r : Reach} (hw : wfT P D t = true) (h : Value.okWide P W r base t v) : Formed P t v := by
  cases D with
  | zero => cases hw
  | succ D =>
    unfold wfT at hw
    unfold Formed isAggT
    unfold Value.okWide at h
    split at hw
    · rename_i hu
      simp only [hu] at h ⊢
      unfold Cell.okWide at h
      unfold Go.Cell.ok at h
      rw [hu] at h
      cases v <;> first | rfl | exact h.elim
    · rename_i k hu
      simp only [hu] at h ⊢
      unfold Cell.okWide at h
      unfold Go.Cell.ok at h
      rw [hu] at h
      cases v <;> first | rfl | exact h.elim
    · rename_i fs hu
      simp only [hu] at h ⊢
      obtain ⟨cs, rfl, _⟩ := h
      exact ⟨cs, rfl⟩
    · rename_i n e hu
      simp only [hu] at h ⊢
      obtain ⟨cs, rfl, _⟩ := h
      exact ⟨cs, rfl⟩
    · rename_i e hu
      simp only [hu] at h ⊢
      unfold Cell.okWide at h
      unfold Go.Cell.ok at h
      rw [hu] at h
      cases v <;> first | rfl | exact h.elim
    · cases hw

theorem read_all {D : Nat} (E : Env) (mem : Nat → MRes) {r : Reach} {b0 : Nat} : ∀ {ts : List TypeId} {vs : List Value} {ds : List (DataW H)} {ps : List MemPlace}, DataW.TrodAll enc P W base spare held ts vs ds ps → (∀ t ∈ ts, wfT P D t = true) →
    (∀ (j : Nat) t v, ts[j]? = some t → vs[j]? = some v → Value.okWide P W r b0 t v) →
    ∃ pvs : List PV, vs = pvs.map (PV.den E) ∧ (∀ v ∈ pvs, GoodV E ⟨W, W, Below.refl _ _⟩ mem v) ∧ ArgsAre P D ts pvs ∧ ds.length = ts.length
  | [], [], [], _, _, _, _ => ⟨[], rfl, fun v hv => (by cases hv), .nil, rfl⟩
  | t :: ts, v :: vs, d :: ds, ps, h, hw, hok => by
    obtain ⟨p, q, h1, h2, _⟩ := h
    obtain ⟨cells, h3, h4, h5⟩ := read_value h1 (hw t (List.mem_cons_self ..)) (formed_of_ok (hw t (List.mem_cons_self ..)) (hok 0 t v rfl rfl)) E mem
    obtain ⟨pvs, h6, h7, h8, h9⟩ := read_all E mem h2 (fun u hu => hw u (List.mem_cons_of_mem _ hu)) (fun j u x hu hx => hok (j + 1) u x (by simpa using hu) (by simpa using hx))
    refine ⟨_ :: pvs, by rw [h6, h4]; rfl, fun u hu => ?_, .cons h3 h8, by simp [h9]⟩
    rcases List.mem_cons.1 hu with rfl | hu
    · exact h5
    · exact h7 u hu
  | [], _ :: _, _, _, h, _, _ => h.elim
  | [], [], _ :: _, _, h, _, _ => h.elim
  | _ :: _, [], _, _, h, _, _ => h.elim
  | _ :: _, _ :: _, [], _, h, _, _ => h.elim

theorem trodAll_stays (hl : laidOutB P = true) {W' : World} {sp : Nat → Bool} : ∀ {ts : List TypeId} {vs : List Value} {ds : List (DataW H)} {ps : List MemPlace}, (∀ t ∈ ts, P.readableRec t = true ∧ t < P.types.size) →
    DataW.TrodAll enc P W 0 (fun _ => true) true ts vs ds ps → (∀ p ∈ ps, W.sameAt W' p) → (∀ p ∈ ps, sp p.block = true) → DataW.TrodAll enc P W' 0 sp true ts vs ds ps
  | [], [], [], _, _, h, _, _ => h
  | t :: ts, v :: vs, d :: ds, ps, hr, h, hsame, hs => by
    obtain ⟨p, q, h1, h2, rfl⟩ := h
    obtain ⟨r1, r2⟩ := hr t (List.mem_cons_self ..)
    exact ⟨p, q, WideElems.Trod_stays hl r1 r2 h1 (fun x hx => hsame x (List.mem_append_left _ hx)) (fun x hx => hs x (List.mem_append_left _ hx)),
      trodAll_stays hl (fun u hu => hr u (List.mem_cons_of_mem _ hu)) h2 (fun x hx => hsame x (List.mem_append_right _ hx)) (fun x hx => hs x (List.mem_append_right _ hx)), rfl⟩
  | [], _ :: _, _, _, _, h, _, _ => h.elim
  | [], [], _ :: _, _, _, h, _, _ => h.elim
  | _ :: _, [], _, _, _, h, _, _ => h.elim
  | _ :: _, _ :: _, [], _, _, h, _, _ => h.elim

theorem post_of_below {f : Func} {s : ChangeSpec} {apart fresh handsOn again : Bool} {W W' : World} {args : Array Value} {v : Value} {ds gs : List (DataW H)} {before pa pv : List MemPlace}
    (hW : DataW.Whole enc P f.params.toList s.vars apart W args.toList ds gs before)
    (hres : ∀ (b : Nat) (sp : Nat → Bool) (hd : Bool), DataW.TrodAll enc P W' b sp hd f.resultTypes.toList (v.resultList f.resultTypes.size) (s.fn H (ds ++ gs)).results [])
    (hargs : ∀ sp : Nat → Bool, (∀ p ∈ before, sp p.block = true) → DataW.TrodAll enc P W' 0 sp true f.params.toList args.toList (s.fn H (ds ++ gs)).args pa)
    (hvars : ∀ sp : Nat → Bool, (∀ p ∈ before, sp p.block = true) → DataW.TrodVars enc P W' sp s.vars (s.fn H (ds ++ gs)).vars pv)
    (hps : before = pa ++ pv) (hb : Below W.heap.size W W')
    (hok : ∀ (j : Nat) (t : TypeId) (r : Value), f.resultTypes[j]? = some t → (v.resultList f.resultTypes.size)[j]? = some r → Value.okWide P W' .any 0 t r) :
    s.post enc P f apart fresh handsOn again W args v W' := by
  have hlt : ∀ p ∈ before, p.block < W.heap.size := fun p hp => hW.lt p hp
  have hold : ∀ p ∈ before, (fun b => decide (b < W.heap.size)) p.block = true := fun p hp => by simpa using hlt p hp
  refine ⟨ds, gs, before, [], pa, pv, hW, hres _ _ _, hargs _ hold, hvars _ hold, World.keptBut_mono (fun p hp => ⟨hp, ?_⟩) (hb.frame (· ∈ before)), fun _ => ?_⟩
  · rw [hps, List.mem_append] at hp
    exact Or.inr hp
  · obtain ⟨_, _, _, _, _, hz, hn⟩ := hW
    refine ⟨hok, _, _, ([] ++ pa) ++ pv, ⟨[] ++ pa, pv, trodAll_append (hargs _ (fun _ _ => rfl)) (hres _ _ _), hvars _ (fun _ _ => rfl), rfl, ?_, ?_⟩, ?_⟩
    · intro b off hp
      have hin : MemPlace.cell b off ∈ before := by rw [hps]; simpa using hp
      rw [hb.frozen (hlt _ hin)]
      exact hz b off hin
    · intro ha
      have := hn ha
      rw [hps] at this
      simpa using this
    · intro p hp _
      rw [hps]
      simpa using hp

/-- The parameters can all be read, and their types are formed so that the reading is known. -/
def allOk (P : Program) (D : Nat) (ts : List TypeId) : Bool := ts.all fun t => P.readableRec t && Nat.blt t P.types.size && wfT P D t
theorem of_allOk {P : Program} {D : Nat} {ts : List TypeId} (h : allOk P D ts = true) : ∀ t ∈ ts, (P.readableRec t = true ∧ t < P.types.size) ∧ wfT P D t = true := by
  intro t ht
  have := List.all_eq_true.1 h t ht
  simp only [Bool.and_eq_true] at this
  exact ⟨⟨this.1.1, Nat.le_of_ble_eq_true this.1.2⟩, this.2⟩

/-- **A law whose contract says 'true' for every argument meets its row's specification.** -/
theorem law_contract {D : Nat} {f : FuncId} {fn : Func} {s : ChangeSpec} {tb : TypeId} {C : Contract} (hl : laidOutB P = true) (hparams : ∀ t ∈ fn.params.toList, (P.readableRec t = true ∧ t < P.types.size) ∧ wfT P D t = true)
    (hres : fn.resultTypes = #[tb]) (htb : P.underlying tb = some .bool) (hvars : s.vars = []) (hspec : ∀ ds : List (DataW H), ds.length = fn.params.size → s.fn H ds = { results := [.lit (.bool true)], args := ds })
    (hS : Sound P f C) (hlaw : ∀ vs, ArgsAre P D fn.params.toList vs → ∃ ps, C vs = some (ps, .fv (.one (.bool true))) ∧ Conj ps)
    (W : World) (base : Nat) (args : Array Value) (ds gs : List (DataW H)) (before : List MemPlace) (hval : ∀ (j : Nat) t v, fn.params[j]? = some t → args[j]? = some v → Value.okWide P W .any base t v)
    (hW : DataW.Whole enc P fn.params.toList s.vars false W args.toList ds gs before) :
    Calls P f args W fun e W' => ∃ v, e = .returned v ∧ s.post enc P fn false true false false W args v W' := by
  have hW' := hW
  obtain ⟨p, q, hA, hV, hpq, hfz, hnd⟩ := hW
  let E : Env := ⟨fun _ => 0, fun _ => undef, fun _ => undef, fun _ => undef⟩
  obtain ⟨pvs, h1, h2, h3, h4⟩ := read_all (D := D) E (fun _ => .free) (r := .any) (b0 := base) hA (fun t ht => (hparams t ht).2) (fun j t v ht hv => hval j t v (by simpa using ht) (by simpa using hv))
  obtain ⟨ps, hC, hc⟩ := hlaw pvs h3
  have hrun := hS.runs pvs ps _ hC hc E ⟨W, W, Below.refl _ _⟩ h2
  have hargs : (pvs.map (PV.den E)).toArray = args := by rw [← h1]
  rw [hargs] at hrun
  rw [hvars] at hV
  obtain ⟨rfl, rfl⟩ := trodVars_none hV
  refine hrun.mono fun e W' he => ?_
  obtain ⟨he, hb, _⟩ := he
  have hfn : s.fn H (ds ++ []) = { results := [.lit (.bool true)], args := ds } := by rw [List.append_nil]; exact hspec ds (by simpa using h4)
  refine ⟨.bool true, he, post_of_below (pa := p) (pv := []) hW' ?_ ?_ ?_ hpq hb ?_⟩
  · intro b sp hd
    rw [hfn, hres]
    exact trodAll_mk1 (shut_bool htb _)
  · intro sp hsp
    rw [hfn]
    exact trodAll_stays hl (fun t ht => (hparams t ht).1) hA (fun x hx => hb.same (hW'.lt x (by rw [hpq]; exact List.mem_append_left _ hx))) (fun x hx => hsp x (by rw [hpq]; exact List.mem_append_left _ hx))
  · intro sp _
    rw [hfn, hvars]
    rfl
  · exact ok_one hres rfl (okWide_bool_mk htb _)

end
end Go.Eng
