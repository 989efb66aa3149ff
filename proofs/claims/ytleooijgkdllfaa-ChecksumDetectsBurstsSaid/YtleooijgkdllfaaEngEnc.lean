/- THE ENGINE, PART 10: contracts over encoded values; the leaves of a type. -/
import Derived.Test.YtleooijgkdllfaaEngCon
namespace Go.Eng
open Go

/-- How a plain value lies in a value of the model. -/
structure Enc (α : Type) where
  dec : PV → Option α
  pv : α → PV
  ok : ∀ p x, dec p = some x → p = pv x

def eI : Enc Int := ⟨fun | .fv (.one (.int .i64 x)) => some x | _ => none, fun x => I x, fun p x h => by
  split at h
  · cases h; rfl
  · cases h⟩
def eB : Enc Bool := ⟨fun | .fv (.one (.bool x)) => some x | _ => none, fun x => Bo x, fun p x h => by
  split at h
  · cases h; rfl
  · cases h⟩

/-- A contract with 0 arguments, and what it asks for. -/
def p0 {ρ : Type}  (R : Enc ρ) (Q : List Prop) (F : ρ) : Contract := fun
  | [] => some (Q, R.pv F)
  | _ => none
abbrev c0 {ρ : Type}  (R : Enc ρ) (F : ρ) : Contract := p0  R ([]) F
theorem g0 {P : Program} {ctrs : FuncId → Option Contract} {lps : Nat → St → Tree} {f : FuncId} {ρ : Type}  {R : Enc ρ} {Q : List Prop} {F : ρ} (Q' : List Prop) (U : ρ) (hq : Conj Q → Conj Q') (hU : Conj Q → U = F)
    (h : symFn P ctrs lps f [] = some (Q', R.pv U)) : ∀ args ps r, p0  R Q F args = some (ps, r) → Conj ps → ∃ qs, symFn P ctrs lps f args = some (qs, r) ∧ Conj qs := by
  intro args ps r e hc
  unfold p0 at e
  split at e
  · cases e; exact ⟨_, h.trans (by rw [hU hc]), hq hc⟩
  · cases e
theorem k0 {P : Program} {ctrs : FuncId → Option Contract} {lps : Nat → St → Tree} {f : FuncId} {ρ : Type}  {R : Enc ρ} {F : ρ} (h : symFn P ctrs lps f [] = some ([], R.pv F)) : ∀ args ps r, c0  R F args = some (ps, r) → Conj ps → ∃ qs, symFn P ctrs lps f args = some (qs, r) ∧ Conj qs :=
  g0 ([]) F (fun _ => trivial) (fun _ => rfl) h
/-- A contract with 1 arguments, and what it asks for. -/
def p1 {α0 ρ : Type} (A0 : Enc α0) (R : Enc ρ) (Q : α0 → List Prop) (F : α0 → ρ) : Contract := fun
  | [a0] => (match A0.dec a0 with
    | some x0 => some ((Q x0), R.pv (F x0))
    | _ => none)
  | _ => none
abbrev c1 {α0 ρ : Type} (A0 : Enc α0) (R : Enc ρ) (F : α0 → ρ) : Contract := p1 A0 R (fun _ => []) F
theorem g1 {P : Program} {ctrs : FuncId → Option Contract} {lps : Nat → St → Tree} {f : FuncId} {α0 ρ : Type} {A0 : Enc α0} {R : Enc ρ} {Q : α0 → List Prop} {F : α0 → ρ} (Q' : α0 → List Prop) (U : α0 → ρ) (hq : ∀ x0, Conj (Q x0) → Conj (Q' x0)) (hU : ∀ x0, Conj (Q x0) → (U x0) = (F x0))
    (h : ∀ x0, symFn P ctrs lps f [A0.pv x0] = some ((Q' x0), R.pv (U x0))) : ∀ args ps r, p1 A0 R Q F args = some (ps, r) → Conj ps → ∃ qs, symFn P ctrs lps f args = some (qs, r) ∧ Conj qs := by
  intro args ps r e hc
  unfold p1 at e
  split at e
  · split at e
    · rename_i h0
      cases e
      rw [A0.ok _ _ h0]
      exact ⟨_, (h _).trans (by rw [hU _ hc]), hq _ hc⟩
    · cases e
  · cases e
theorem k1 {P : Program} {ctrs : FuncId → Option Contract} {lps : Nat → St → Tree} {f : FuncId} {α0 ρ : Type} {A0 : Enc α0} {R : Enc ρ} {F : α0 → ρ} (h : ∀ x0, symFn P ctrs lps f [A0.pv x0] = some ([], R.pv (F x0))) : ∀ args ps r, c1 A0 R F args = some (ps, r) → Conj ps → ∃ qs, symFn P ctrs lps f args = some (qs, r) ∧ Conj qs :=
  g1 (fun _ => []) F (fun _ _ => trivial) (fun _ _ => rfl) h
/-- A contract with 2 arguments, and what it asks for. -/
def p2 {α0 α1 ρ : Type} (A0 : Enc α0) (A1 : Enc α1) (R : Enc ρ) (Q : α0 → α1 → List Prop) (F : α0 → α1 → ρ) : Contract := fun
  | [a0, a1] => (match A0.dec a0, A1.dec a1 with
    | some x0, some x1 => some ((Q x0 x1), R.pv (F x0 x1))
    | _, _ => none)
  | _ => none
abbrev c2 {α0 α1 ρ : Type} (A0 : Enc α0) (A1 : Enc α1) (R : Enc ρ) (F : α0 → α1 → ρ) : Contract := p2 A0 A1 R (fun _ _ => []) F
theorem g2 {P : Program} {ctrs : FuncId → Option Contract} {lps : Nat → St → Tree} {f : FuncId} {α0 α1 ρ : Type} {A0 : Enc α0} {A1 : Enc α1} {R : Enc ρ} {Q : α0 → α1 → List Prop} {F : α0 → α1 → ρ} (Q' : α0 → α1 → List Prop) (U : α0 → α1 → ρ) (hq : ∀ x0 x1, Conj (Q x0 x1) → Conj (Q' x0 x1)) (hU : ∀ x0 x1, Conj (Q x0 x1) → (U x0 x1) = (F x0 x1))
    (h : ∀ x0 x1, symFn P ctrs lps f [A0.pv x0, A1.pv x1] = some ((Q' x0 x1), R.pv (U x0 x1))) : ∀ args ps r, p2 A0 A1 R Q F args = some (ps, r) → Conj ps → ∃ qs, symFn P ctrs lps f args = some (qs, r) ∧ Conj qs := by
  intro args ps r e hc
  unfold p2 at e
  split at e
  · split at e
    · rename_i h0 h1
      cases e
      rw [A0.ok _ _ h0, A1.ok _ _ h1]
      exact ⟨_, (h _ _).trans (by rw [hU _ _ hc]), hq _ _ hc⟩
    · cases e
  · cases e
theorem k2 {P : Program} {ctrs : FuncId → Option Contract} {lps : Nat → St → Tree} {f : FuncId} {α0 α1 ρ : Type} {A0 : Enc α0} {A1 : Enc α1} {R : Enc ρ} {F : α0 → α1 → ρ} (h : ∀ x0 x1, symFn P ctrs lps f [A0.pv x0, A1.pv x1] = some ([], R.pv (F x0 x1))) : ∀ args ps r, c2 A0 A1 R F args = some (ps, r) → Conj ps → ∃ qs, symFn P ctrs lps f args = some (qs, r) ∧ Conj qs :=
  g2 (fun _ _ => []) F (fun _ _ _ => trivial) (fun _ _ _ => rfl) h
/-- A contract with 3 arguments, and what it asks for. -/
def p3 {α0 α1 α2 ρ : Type} (A0 : Enc α0) (A1 : Enc α1) (A2 : Enc α2) (R : Enc ρ) (Q : α0 → α1 → α2 → List Prop) (F : α0 → α1 → α2 → ρ) : Contract := fun
  | [a0, a1, a2] => (match A0.dec a0, A1.dec a1, A2.dec a2 with
    | some x0, some x1, some x2 => some ((Q x0 x1 x2), R.pv (F x0 x1 x2))
    | _, _, _ => none)
  | _ => none
abbrev c3 {α0 α1 α2 ρ : Type} (A0 : Enc α0) (A1 : Enc α1) (A2 : Enc α2) (R : Enc ρ) (F : α0 → α1 → α2 → ρ) : Contract := p3 A0 A1 A2 R (fun _ _ _ => []) F
theorem g3 {P : Program} {ctrs : FuncId → Option Contract} {lps : Nat → St → Tree} {f : FuncId} {α0 α1 α2 ρ : Type} {A0 : Enc α0} {A1 : Enc α1} {A2 : Enc α2} {R : Enc ρ} {Q : α0 → α1 → α2 → List Prop} {F : α0 → α1 → α2 → ρ} (Q' : α0 → α1 → α2 → List Prop) (U : α0 → α1 → α2 → ρ) (hq : ∀ x0 x1 x2, Conj (Q x0 x1 x2) → Conj (Q' x0 x1 x2)) (hU : ∀ x0 x1 x2, Conj (Q x0 x1 x2) → (U x0 x1 x2) = (F x0 x1 x2))
    (h : ∀ x0 x1 x2, symFn P ctrs lps f [A0.pv x0, A1.pv x1, A2.pv x2] = some ((Q' x0 x1 x2), R.pv (U x0 x1 x2))) : ∀ args ps r, p3 A0 A1 A2 R Q F args = some (ps, r) → Conj ps → ∃ qs, symFn P ctrs lps f args = some (qs, r) ∧ Conj qs := by
  intro args ps r e hc
  unfold p3 at e
  split at e
  · split at e
    · rename_i h0 h1 h2
      cases e
      rw [A0.ok _ _ h0, A1.ok _ _ h1, A2.ok _ _ h2]
      exact ⟨_, (h _ _ _).trans (by rw [hU _ _ _ hc]), hq _ _ _ hc⟩
    · cases e
  · cases e
theorem k3 {P : Program} {ctrs : FuncId → Option Contract} {lps : Nat → St → Tree} {f : FuncId} {α0 α1 α2 ρ : Type} {A0 : Enc α0} {A1 : Enc α1} {A2 : Enc α2} {R : Enc ρ} {F : α0 → α1 → α2 → ρ} (h : ∀ x0 x1 x2, symFn P ctrs lps f [A0.pv x0, A1.pv x1, A2.pv x2] = some ([], R.pv (F x0 x1 x2))) : ∀ args ps r, c3 A0 A1 A2 R F args = some (ps, r) → Conj ps → ∃ qs, symFn P ctrs lps f args = some (qs, r) ∧ Conj qs :=
  g3 (fun _ _ _ => []) F (fun _ _ _ _ => trivial) (fun _ _ _ _ => rfl) h
/-- A contract with 4 arguments, and what it asks for. -/
def p4 {α0 α1 α2 α3 ρ : Type} (A0 : Enc α0) (A1 : Enc α1) (A2 : Enc α2) (A3 : Enc α3) (R : Enc ρ) (Q : α0 → α1 → α2 → α3 → List Prop) (F : α0 → α1 → α2 → α3 → ρ) : Contract := fun
  | [a0, a1, a2, a3] => (match A0.dec a0, A1.dec a1, A2.dec a2, A3.dec a3 with
    | some x0, some x1, some x2, some x3 => some ((Q x0 x1 x2 x3), R.pv (F x0 x1 x2 x3))
    | _, _, _, _ => none)
  | _ => none
abbrev c4 {α0 α1 α2 α3 ρ : Type} (A0 : Enc α0) (A1 : Enc α1) (A2 : Enc α2) (A3 : Enc α3) (R : Enc ρ) (F : α0 → α1 → α2 → α3 → ρ) : Contract := p4 A0 A1 A2 A3 R (fun _ _ _ _ => []) F
theorem g4 {P : Program} {ctrs : FuncId → Option Contract} {lps : Nat → St → Tree} {f : FuncId} {α0 α1 α2 α3 ρ : Type} {A0 : Enc α0} {A1 : Enc α1} {A2 : Enc α2} {A3 : Enc α3} {R : Enc ρ} {Q : α0 → α1 → α2 → α3 → List Prop} {F : α0 → α1 → α2 → α3 → ρ} (Q' : α0 → α1 → α2 → α3 → List Prop) (U : α0 → α1 → α2 → α3 → ρ) (hq : ∀ x0 x1 x2 x3, Conj (Q x0 x1 x2 x3) → Conj (Q' x0 x1 x2 x3)) (hU : ∀ x0 x1 x2 x3, Conj (Q x0 x1 x2 x3) → (U x0 x1 x2 x3) = (F x0 x1 x2 x3))
    (h : ∀ x0 x1 x2 x3, symFn P ctrs lps f [A0.pv x0, A1.pv x1, A2.pv x2, A3.pv x3] = some ((Q' x0 x1 x2 x3), R.pv (U x0 x1 x2 x3))) : ∀ args ps r, p4 A0 A1 A2 A3 R Q F args = some (ps, r) → Conj ps → ∃ qs, symFn P ctrs lps f args = some (qs, r) ∧ Conj qs := by
  intro args ps r e hc
  unfold p4 at e
  split at e
  · split at e
    · rename_i h0 h1 h2 h3
      cases e
      rw [A0.ok _ _ h0, A1.ok _ _ h1, A2.ok _ _ h2, A3.ok _ _ h3]
      exact ⟨_, (h _ _ _ _).trans (by rw [hU _ _ _ _ hc]), hq _ _ _ _ hc⟩
    · cases e
  · cases e
theorem k4 {P : Program} {ctrs : FuncId → Option Contract} {lps : Nat → St → Tree} {f : FuncId} {α0 α1 α2 α3 ρ : Type} {A0 : Enc α0} {A1 : Enc α1} {A2 : Enc α2} {A3 : Enc α3} {R : Enc ρ} {F : α0 → α1 → α2 → α3 → ρ} (h : ∀ x0 x1 x2 x3, symFn P ctrs lps f [A0.pv x0, A1.pv x1, A2.pv x2, A3.pv x3] = some ([], R.pv (F x0 x1 x2 x3))) : ∀ args ps r, c4 A0 A1 A2 A3 R F args = some (ps, r) → Conj ps → ∃ qs, symFn P ctrs lps f args = some (qs, r) ∧ Conj qs :=
  g4 (fun _ _ _ _ => []) F (fun _ _ _ _ _ => trivial) (fun _ _ _ _ _ => rfl) h
/-- A contract with 5 arguments, and what it asks for. -/
def p5 {α0 α1 α2 α3 α4 ρ : Type} (A0 : Enc α0) (A1 : Enc α1) (A2 : Enc α2) (A3 : Enc α3) (A4 : Enc α4) (R : Enc ρ) (Q : α0 → α1 → α2 → α3 → α4 → List Prop) (F : α0 → α1 → α2 → α3 → α4 → ρ) : Contract := fun
  | [a0, a1, a2, a3, a4] => (match A0.dec a0, A1.dec a1, A2.dec a2, A3.dec a3, A4.dec a4 with
    | some x0, some x1, some x2, some x3, some x4 => some ((Q x0 x1 x2 x3 x4), R.pv (F x0 x1 x2 x3 x4))
    | _, _, _, _, _ => none)
  | _ => none
abbrev c5 {α0 α1 α2 α3 α4 ρ : Type} (A0 : Enc α0) (A1 : Enc α1) (A2 : Enc α2) (A3 : Enc α3) (A4 : Enc α4) (R : Enc ρ) (F : α0 → α1 → α2 → α3 → α4 → ρ) : Contract := p5 A0 A1 A2 A3 A4 R (fun _ _ _ _ _ => []) F
theorem g5 {P : Program} {ctrs : FuncId → Option Contract} {lps : Nat → St → Tree} {f : FuncId} {α0 α1 α2 α3 α4 ρ : Type} {A0 : Enc α0} {A1 : Enc α1} {A2 : Enc α2} {A3 : Enc α3} {A4 : Enc α4} {R : Enc ρ} {Q : α0 → α1 → α2 → α3 → α4 → List Prop} {F : α0 → α1 → α2 → α3 → α4 → ρ} (Q' : α0 → α1 → α2 → α3 → α4 → List Prop) (U : α0 → α1 → α2 → α3 → α4 → ρ) (hq : ∀ x0 x1 x2 x3 x4, Conj (Q x0 x1 x2 x3 x4) → Conj (Q' x0 x1 x2 x3 x4)) (hU : ∀ x0 x1 x2 x3 x4, Conj (Q x0 x1 x2 x3 x4) → (U x0 x1 x2 x3 x4) = (F x0 x1 x2 x3 x4))
    (h : ∀ x0 x1 x2 x3 x4, symFn P ctrs lps f [A0.pv x0, A1.pv x1, A2.pv x2, A3.pv x3, A4.pv x4] = some ((Q' x0 x1 x2 x3 x4), R.pv (U x0 x1 x2 x3 x4))) : ∀ args ps r, p5 A0 A1 A2 A3 A4 R Q F args = some (ps, r) → Conj ps → ∃ qs, symFn P ctrs lps f args = some (qs, r) ∧ Conj qs := by
  intro args ps r e hc
  unfold p5 at e
  split at e
  · split at e
    · rename_i h0 h1 h2 h3 h4
      cases e
      rw [A0.ok _ _ h0, A1.ok _ _ h1, A2.ok _ _ h2, A3.ok _ _ h3, A4.ok _ _ h4]
      exact ⟨_, (h _ _ _ _ _).trans (by rw [hU _ _ _ _ _ hc]), hq _ _ _ _ _ hc⟩
    · cases e
  · cases e
theorem k5 {P : Program} {ctrs : FuncId → Option Contract} {lps : Nat → St → Tree} {f : FuncId} {α0 α1 α2 α3 α4 ρ : Type} {A0 : Enc α0} {A1 : Enc α1} {A2 : Enc α2} {A3 : Enc α3} {A4 : Enc α4} {R : Enc ρ} {F : α0 → α1 → α2 → α3 → α4 → ρ} (h : ∀ x0 x1 x2 x3 x4, symFn P ctrs lps f [A0.pv x0, A1.pv x1, A2.pv x2, A3.pv x3, A4.pv x4] = some ([], R.pv (F x0 x1 x2 x3 x4))) : ∀ args ps r, c5 A0 A1 A2 A3 A4 R F args = some (ps, r) → Conj ps → ∃ qs, symFn P ctrs lps f args = some (qs, r) ∧ Conj qs :=
  g5 (fun _ _ _ _ _ => []) F (fun _ _ _ _ _ _ => trivial) (fun _ _ _ _ _ _ => rfl) h
/-- A contract with 6 arguments, and what it asks for. -/
def p6 {α0 α1 α2 α3 α4 α5 ρ : Type} (A0 : Enc α0) (A1 : Enc α1) (A2 : Enc α2) (A3 : Enc α3) (A4 : Enc α4) (A5 : Enc α5) (R : Enc ρ) (Q : α0 → α1 → α2 → α3 → α4 → α5 → List Prop) (F : α0 → α1 → α2 → α3 → α4 → α5 → ρ) : Contract := fun
  | [a0, a1, a2, a3, a4, a5] => (match A0.dec a0, A1.dec a1, A2.dec a2, A3.dec a3, A4.dec a4, A5.dec a5 with
    | some x0, some x1, some x2, some x3, some x4, some x5 => some ((Q x0 x1 x2 x3 x4 x5), R.pv (F x0 x1 x2 x3 x4 x5))
    | _, _, _, _, _, _ => none)
  | _ => none
abbrev c6 {α0 α1 α2 α3 α4 α5 ρ : Type} (A0 : Enc α0) (A1 : Enc α1) (A2 : Enc α2) (A3 : Enc α3) (A4 : Enc α4) (A5 : Enc α5) (R : Enc ρ) (F : α0 → α1 → α2 → α3 → α4 → α5 → ρ) : Contract := p6 A0 A1 A2 A3 A4 A5 R (fun _ _ _ _ _ _ => []) F
theorem g6 {P : Program} {ctrs : FuncId → Option Contract} {lps : Nat → St → Tree} {f : FuncId} {α0 α1 α2 α3 α4 α5 ρ : Type} {A0 : Enc α0} {A1 : Enc α1} {A2 : Enc α2} {A3 : Enc α3} {A4 : Enc α4} {A5 : Enc α5} {R : Enc ρ} {Q : α0 → α1 → α2 → α3 → α4 → α5 → List Prop} {F : α0 → α1 → α2 → α3 → α4 → α5 → ρ} (Q' : α0 → α1 → α2 → α3 → α4 → α5 → List Prop) (U : α0 → α1 → α2 → α3 → α4 → α5 → ρ) (hq : ∀ x0 x1 x2 x3 x4 x5, Conj (Q x0 x1 x2 x3 x4 x5) → Conj (Q' x0 x1 x2 x3 x4 x5)) (hU : ∀ x0 x1 x2 x3 x4 x5, Conj (Q x0 x1 x2 x3 x4 x5) → (U x0 x1 x2 x3 x4 x5) = (F x0 x1 x2 x3 x4 x5))
    (h : ∀ x0 x1 x2 x3 x4 x5, symFn P ctrs lps f [A0.pv x0, A1.pv x1, A2.pv x2, A3.pv x3, A4.pv x4, A5.pv x5] = some ((Q' x0 x1 x2 x3 x4 x5), R.pv (U x0 x1 x2 x3 x4 x5))) : ∀ args ps r, p6 A0 A1 A2 A3 A4 A5 R Q F args = some (ps, r) → Conj ps → ∃ qs, symFn P ctrs lps f args = some (qs, r) ∧ Conj qs := by
  intro args ps r e hc
  unfold p6 at e
  split at e
  · split at e
    · rename_i h0 h1 h2 h3 h4 h5
      cases e
      rw [A0.ok _ _ h0, A1.ok _ _ h1, A2.ok _ _ h2, A3.ok _ _ h3, A4.ok _ _ h4, A5.ok _ _ h5]
      exact ⟨_, (h _ _ _ _ _ _).trans (by rw [hU _ _ _ _ _ _ hc]), hq _ _ _ _ _ _ hc⟩
    · cases e
  · cases e
theorem k6 {P : Program} {ctrs : FuncId → Option Contract} {lps : Nat → St → Tree} {f : FuncId} {α0 α1 α2 α3 α4 α5 ρ : Type} {A0 : Enc α0} {A1 : Enc α1} {A2 : Enc α2} {A3 : Enc α3} {A4 : Enc α4} {A5 : Enc α5} {R : Enc ρ} {F : α0 → α1 → α2 → α3 → α4 → α5 → ρ} (h : ∀ x0 x1 x2 x3 x4 x5, symFn P ctrs lps f [A0.pv x0, A1.pv x1, A2.pv x2, A3.pv x3, A4.pv x4, A5.pv x5] = some ([], R.pv (F x0 x1 x2 x3 x4 x5))) : ∀ args ps r, c6 A0 A1 A2 A3 A4 A5 R F args = some (ps, r) → Conj ps → ∃ qs, symFn P ctrs lps f args = some (qs, r) ∧ Conj qs :=
  g6 (fun _ _ _ _ _ _ => []) F (fun _ _ _ _ _ _ _ => trivial) (fun _ _ _ _ _ _ _ => rfl) h
/-- A contract with 7 arguments, and what it asks for. -/
def p7 {α0 α1 α2 α3 α4 α5 α6 ρ : Type} (A0 : Enc α0) (A1 : Enc α1) (A2 : Enc α2) (A3 : Enc α3) (A4 : Enc α4) (A5 : Enc α5) (A6 : Enc α6) (R : Enc ρ) (Q : α0 → α1 → α2 → α3 → α4 → α5 → α6 → List Prop) (F : α0 → α1 → α2 → α3 → α4 → α5 → α6 → ρ) : Contract := fun
  | [a0, a1, a2, a3, a4, a5, a6] => (match A0.dec a0, A1.dec a1, A2.dec a2, A3.dec a3, A4.dec a4, A5.dec a5, A6.dec a6 with
    | some x0, some x1, some x2, some x3, some x4, some x5, some x6 => some ((Q x0 x1 x2 x3 x4 x5 x6), R.pv (F x0 x1 x2 x3 x4 x5 x6))
    | _, _, _, _, _, _, _ => none)
  | _ => none
abbrev c7 {α0 α1 α2 α3 α4 α5 α6 ρ : Type} (A0 : Enc α0) (A1 : Enc α1) (A2 : Enc α2) (A3 : Enc α3) (A4 : Enc α4) (A5 : Enc α5) (A6 : Enc α6) (R : Enc ρ) (F : α0 → α1 → α2 → α3 → α4 → α5 → α6 → ρ) : Contract := p7 A0 A1 A2 A3 A4 A5 A6 R (fun _ _ _ _ _ _ _ => []) F
theorem g7 {P : Program} {ctrs : FuncId → Option Contract} {lps : Nat → St → Tree} {f : FuncId} {α0 α1 α2 α3 α4 α5 α6 ρ : Type} {A0 : Enc α0} {A1 : Enc α1} {A2 : Enc α2} {A3 : Enc α3} {A4 : Enc α4} {A5 : Enc α5} {A6 : Enc α6} {R : Enc ρ} {Q : α0 → α1 → α2 → α3 → α4 → α5 → α6 → List Prop} {F : α0 → α1 → α2 → α3 → α4 → α5 → α6 → ρ} (Q' : α0 → α1 → α2 → α3 → α4 → α5 → α6 → List Prop) (U : α0 → α1 → α2 → α3 → α4 → α5 → α6 → ρ) (hq : ∀ x0 x1 x2 x3 x4 x5 x6, Conj (Q x0 x1 x2 x3 x4 x5 x6) → Conj (Q' x0 x1 x2 x3 x4 x5 x6)) (hU : ∀ x0 x1 x2 x3 x4 x5 x6, Conj (Q x0 x1 x2 x3 x4 x5 x6) → (U x0 x1 x2 x3 x4 x5 x6) = (F x0 x1 x2 x3 x4 x5 x6))
    (h : ∀ x0 x1 x2 x3 x4 x5 x6, symFn P ctrs lps f [A0.pv x0, A1.pv x1, A2.pv x2, A3.pv x3, A4.pv x4, A5.pv x5, A6.pv x6] = some ((Q' x0 x1 x2 x3 x4 x5 x6), R.pv (U x0 x1 x2 x3 x4 x5 x6))) : ∀ args ps r, p7 A0 A1 A2 A3 A4 A5 A6 R Q F args = some (ps, r) → Conj ps → ∃ qs, symFn P ctrs lps f args = some (qs, r) ∧ Conj qs := by
  intro args ps r e hc
  unfold p7 at e
  split at e
  · split at e
    · rename_i h0 h1 h2 h3 h4 h5 h6
      cases e
      rw [A0.ok _ _ h0, A1.ok _ _ h1, A2.ok _ _ h2, A3.ok _ _ h3, A4.ok _ _ h4, A5.ok _ _ h5, A6.ok _ _ h6]
      exact ⟨_, (h _ _ _ _ _ _ _).trans (by rw [hU _ _ _ _ _ _ _ hc]), hq _ _ _ _ _ _ _ hc⟩
    · cases e
  · cases e
theorem k7 {P : Program} {ctrs : FuncId → Option Contract} {lps : Nat → St → Tree} {f : FuncId} {α0 α1 α2 α3 α4 α5 α6 ρ : Type} {A0 : Enc α0} {A1 : Enc α1} {A2 : Enc α2} {A3 : Enc α3} {A4 : Enc α4} {A5 : Enc α5} {A6 : Enc α6} {R : Enc ρ} {F : α0 → α1 → α2 → α3 → α4 → α5 → α6 → ρ} (h : ∀ x0 x1 x2 x3 x4 x5 x6, symFn P ctrs lps f [A0.pv x0, A1.pv x1, A2.pv x2, A3.pv x3, A4.pv x4, A5.pv x5, A6.pv x6] = some ([], R.pv (F x0 x1 x2 x3 x4 x5 x6))) : ∀ args ps r, c7 A0 A1 A2 A3 A4 A5 A6 R F args = some (ps, r) → Conj ps → ∃ qs, symFn P ctrs lps f args = some (qs, r) ∧ Conj qs :=
  g7 (fun _ _ _ _ _ _ _ => []) F (fun _ _ _ _ _ _ _ _ => trivial) (fun _ _ _ _ _ _ _ _ => rfl) h
/-- A contract with 8 arguments, and what it asks for. -/
def p8 {α0 α1 α2 α3 α4 α5 α6 α7 ρ : Type} (A0 : Enc α0) (A1 : Enc α1) (A2 : Enc α2) (A3 : Enc α3) (A4 : Enc α4) (A5 : Enc α5) (A6 : Enc α6) (A7 : Enc α7) (R : Enc ρ) (Q : α0 → α1 → α2 → α3 → α4 → α5 → α6 → α7 → List Prop) (F : α0 → α1 → α2 → α3 → α4 → α5 → α6 → α7 → ρ) : Contract := fun
  | [a0, a1, a2, a3, a4, a5, a6, a7] => (match A0.dec a0, A1.dec a1, A2.dec a2, A3.dec a3, A4.dec a4, A5.dec a5, A6.dec a6, A7.dec a7 with
    | some x0, some x1, some x2, some x3, some x4, some x5, some x6, some x7 => some ((Q x0 x1 x2 x3 x4 x5 x6 x7), R.pv (F x0 x1 x2 x3 x4 x5 x6 x7))
    | _, _, _, _, _, _, _, _ => none)
  | _ => none
abbrev c8 {α0 α1 α2 α3 α4 α5 α6 α7 ρ : Type} (A0 : Enc α0) (A1 : Enc α1) (A2 : Enc α2) (A3 : Enc α3) (A4 : Enc α4) (A5 : Enc α5) (A6 : Enc α6) (A7 : Enc α7) (R : Enc ρ) (F : α0 → α1 → α2 → α3 → α4 → α5 → α6 → α7 → ρ) : Contract := p8 A0 A1 A2 A3 A4 A5 A6 A7 R (fun _ _ _ _ _ _ _ _ => []) F
theorem g8 {P : Program} {ctrs : FuncId → Option Contract} {lps : Nat → St → Tree} {f : FuncId} {α0 α1 α2 α3 α4 α5 α6 α7 ρ : Type} {A0 : Enc α0} {A1 : Enc α1} {A2 : Enc α2} {A3 : Enc α3} {A4 : Enc α4} {A5 : Enc α5} {A6 : Enc α6} {A7 : Enc α7} {R : Enc ρ} {Q : α0 → α1 → α2 → α3 → α4 → α5 → α6 → α7 → List Prop} {F : α0 → α1 → α2 → α3 → α4 → α5 → α6 → α7 → ρ} (Q' : α0 → α1 → α2 → α3 → α4 → α5 → α6 → α7 → List Prop) (U : α0 → α1 → α2 → α3 → α4 → α5 → α6 → α7 → ρ) (hq : ∀ x0 x1 x2 x3 x4 x5 x6 x7, Conj (Q x0 x1 x2 x3 x4 x5 x6 x7) → Conj (Q' x0 x1 x2 x3 x4 x5 x6 x7)) (hU : ∀ x0 x1 x2 x3 x4 x5 x6 x7, Conj (Q x0 x1 x2 x3 x4 x5 x6 x7) → (U x0 x1 x2 x3 x4 x5 x6 x7) = (F x0 x1 x2 x3 x4 x5 x6 x7))
    (h : ∀ x0 x1 x2 x3 x4 x5 x6 x7, symFn P ctrs lps f [A0.pv x0, A1.pv x1, A2.pv x2, A3.pv x3, A4.pv x4, A5.pv x5, A6.pv x6, A7.pv x7] = some ((Q' x0 x1 x2 x3 x4 x5 x6 x7), R.pv (U x0 x1 x2 x3 x4 x5 x6 x7))) : ∀ args ps r, p8 A0 A1 A2 A3 A4 A5 A6 A7 R Q F args = some (ps, r) → Conj ps → ∃ qs, symFn P ctrs lps f args = some (qs, r) ∧ Conj qs := by
  intro args ps r e hc
  unfold p8 at e
  split at e
  · split at e
    · rename_i h0 h1 h2 h3 h4 h5 h6 h7
      cases e
      rw [A0.ok _ _ h0, A1.ok _ _ h1, A2.ok _ _ h2, A3.ok _ _ h3, A4.ok _ _ h4, A5.ok _ _ h5, A6.ok _ _ h6, A7.ok _ _ h7]
      exact ⟨_, (h _ _ _ _ _ _ _ _).trans (by rw [hU _ _ _ _ _ _ _ _ hc]), hq _ _ _ _ _ _ _ _ hc⟩
    · cases e
  · cases e
theorem k8 {P : Program} {ctrs : FuncId → Option Contract} {lps : Nat → St → Tree} {f : FuncId} {α0 α1 α2 α3 α4 α5 α6 α7 ρ : Type} {A0 : Enc α0} {A1 : Enc α1} {A2 : Enc α2} {A3 : Enc α3} {A4 : Enc α4} {A5 : Enc α5} {A6 : Enc α6} {A7 : Enc α7} {R : Enc ρ} {F : α0 → α1 → α2 → α3 → α4 → α5 → α6 → α7 → ρ} (h : ∀ x0 x1 x2 x3 x4 x5 x6 x7, symFn P ctrs lps f [A0.pv x0, A1.pv x1, A2.pv x2, A3.pv x3, A4.pv x4, A5.pv x5, A6.pv x6, A7.pv x7] = some ([], R.pv (F x0 x1 x2 x3 x4 x5 x6 x7))) : ∀ args ps r, c8 A0 A1 A2 A3 A4 A5 A6 A7 R F args = some (ps, r) → Conj ps → ∃ qs, symFn P ctrs lps f args = some (qs, r) ∧ Conj qs :=
  g8 (fun _ _ _ _ _ _ _ _ => []) F (fun _ _ _ _ _ _ _ _ _ => trivial) (fun _ _ _ _ _ _ _ _ _ => rfl) h

/-! ### arguments -/

theorem args_agg {P : Program} {D : Nat} {t : TypeId} {ts : List TypeId} {vs : List PV} (L : List Lf) (ha : isAggT P t = true) (hl : leafs P D t = L) (h : ArgsAre P D (t :: ts) vs) :
    ∃ cells rest, vs = .fv (.agg cells) :: rest ∧ AllLf L cells ∧ ArgsAre P D ts rest := by
  cases h with
  | cons hs hr =>
    refine ⟨_, _, ?_, hl ▸ hs, hr⟩
    unfold ofCells
    rw [ha]; rfl

/-! ### the values of chapters 3 and 4 -/

def eV : Enc Fx.Vec := ⟨fun | .fv (.agg [.int .i64 x, .int .i64 y]) => some ⟨x, y⟩ | _ => none, fun v => V2 v.x v.y, fun p x h => by
  split at h
  · cases h; rfl
  · cases h⟩
def eT : Enc Fx.Tf := ⟨fun | .fv (.agg [.int .i64 x, .int .i64 y, .int .i64 a]) => some ⟨x, y, a⟩ | _ => none, fun t => .fv (.agg [.int .i64 t.px, .int .i64 t.py, .int .i64 t.a]), fun p x h => by
  split at h
  · cases h; rfl
  · cases h⟩

section
variable {P : Program}
theorem args_V {D : Nat} {t : TypeId} {ts : List TypeId} {vs : List PV} (ha : isAggT P t = true) (hl : leafs P D t = [.int .i64, .int .i64]) (h : ArgsAre P D (t :: ts) vs) : ∃ v rest, vs = eV.pv v :: rest ∧ ArgsAre P D ts rest := by
  obtain ⟨cells, rest, rfl, h1, h2⟩ := args_agg _ ha hl h
  obtain ⟨_, _, rfl, ⟨x, rfl, _⟩, _, _, rfl, ⟨y, rfl, _⟩, rfl⟩ := h1
  exact ⟨⟨x, y⟩, rest, rfl, h2⟩
theorem args_T {D : Nat} {t : TypeId} {ts : List TypeId} {vs : List PV} (ha : isAggT P t = true) (hl : leafs P D t = [.int .i64, .int .i64, .int .i64]) (h : ArgsAre P D (t :: ts) vs) : ∃ v rest, vs = eT.pv v :: rest ∧ ArgsAre P D ts rest := by
  obtain ⟨cells, rest, rfl, h1, h2⟩ := args_agg _ ha hl h
  obtain ⟨_, _, rfl, ⟨x, rfl, _⟩, _, _, rfl, ⟨y, rfl, _⟩, _, _, rfl, ⟨z, rfl, _⟩, rfl⟩ := h1
  exact ⟨⟨x, y, z⟩, rest, rfl, h2⟩
end

/-! ### encodings of rows of cells -/

/-- One cell, and the leaf that it is. -/
structure OneC (α : Type) where
  dec : Cell → Option α
  cell : α → Cell
  lf : Lf
  ok : ∀ l x, dec l = some x → l = cell x
  tot : ∀ c, LeafIs lf c → ∃ x, dec c = some x
structure CEnc (α : Type) where
  dec : List Cell → Option α
  cells : α → List Cell
  lfs : List Lf
  ok : ∀ l x, dec l = some x → l = cells x
  tot : ∀ l, AllLf lfs l → ∃ x, dec l = some x

theorem cEnd_ok (l : List Cell) (x : Unit) (h : (match l with | [] => some () | _ => none) = some x) : l = [] := by
  cases l with
  | nil => rfl
  | cons _ _ => cases h
def cEnd : CEnc Unit := ⟨fun | [] => some () | _ => none, fun _ => [], [], cEnd_ok, fun l h => (by cases h; exact ⟨(), rfl⟩)⟩
theorem cInt_ok (l : Cell) (x : Int) (h : (match l with | .int .i64 n => some n | _ => none) = some x) : l = .int .i64 x := by
  split at h
  · cases h; rfl
  · cases h
def cInt : OneC Int := ⟨fun | .int .i64 n => some n | _ => none, fun n => .int .i64 n, .int .i64, cInt_ok, fun c h => (by obtain ⟨n, rfl, _⟩ := h; exact ⟨n, rfl⟩)⟩
theorem cBool_ok (l : Cell) (x : Bool) (h : (match l with | .bool n => some n | _ => none) = some x) : l = .bool x := by
  split at h
  · cases h; rfl
  · cases h
def cBool : OneC Bool := ⟨fun | .bool n => some n | _ => none, fun n => .bool n, .bool, cBool_ok, fun c h => (by obtain ⟨n, rfl⟩ := h; exact ⟨n, rfl⟩)⟩
def consDec {α β : Type} (a : OneC α) (b : CEnc β) : List Cell → Option (α × β)
  | [] => none
  | c :: l => (match a.dec c, b.dec l with
    | some x, some y => some (x, y)
    | _, _ => none)
theorem consDec_ok {α β : Type} (a : OneC α) (b : CEnc β) (l : List Cell) (x : α × β) (h : consDec a b l = some x) : l = a.cell x.1 :: b.cells x.2 := by
  cases l with
  | nil => cases h
  | cons c l =>
    simp only [consDec] at h
    split at h
    · rename_i y z h1 h2
      cases h
      rw [a.ok _ _ h1, b.ok _ _ h2]
    · cases h
theorem consDec_tot {α β : Type} (a : OneC α) (b : CEnc β) (l : List Cell) (h : AllLf (a.lf :: b.lfs) l) : ∃ x, consDec a b l = some x := by
  obtain ⟨c, r, rfl, h1, h2⟩ := h
  obtain ⟨x, hx⟩ := a.tot c h1
  obtain ⟨y, hy⟩ := b.tot r h2
  exact ⟨(x, y), by simp only [consDec, hx, hy]⟩
def OneC.cons {α β : Type} (a : OneC α) (b : CEnc β) : CEnc (α × β) := ⟨consDec a b, fun x => a.cell x.1 :: b.cells x.2, a.lf :: b.lfs, consDec_ok a b, consDec_tot a b⟩
/-- The encoding of a struct out of its cells. -/
def CEnc.enc {α β : Type} (a : CEnc α) (f : α → β) (g : β → List Cell) (hg : ∀ x, g (f x) = a.cells x) : Enc β := ⟨fun | .fv (.agg l) => (a.dec l).map f | _ => none, fun x => .fv (.agg (g x)), fun p x h => by
  split at h
  · rename_i l
    cases h1 : a.dec l with
    | none => rw [h1] at h; cases h
    | some y =>
      rw [h1] at h
      cases h
      rw [hg, ← a.ok _ _ h1]
  · cases h⟩
theorem args_enc {P : Program} {D : Nat} {t : TypeId} {ts : List TypeId} {vs : List PV} {α β : Type} (a : CEnc α) (f : α → β) (g : β → List Cell) (hg : ∀ x, g (f x) = a.cells x) (ha : isAggT P t = true) (hl : leafs P D t = a.lfs) (h : ArgsAre P D (t :: ts) vs) :
    ∃ v rest, vs = (a.enc f g hg).pv v :: rest ∧ ArgsAre P D ts rest := by
  obtain ⟨cells, rest, rfl, h1, h2⟩ := args_agg _ ha hl h
  obtain ⟨x, hx⟩ := a.tot cells h1
  refine ⟨f x, rest, ?_, h2⟩
  show _ = PV.fv (.agg (g (f x))) :: rest
  rw [hg, ← a.ok _ _ hx]

/-- Two numbers, returned. -/
def eII : Enc (Int × Int) := ⟨fun _ => none, fun x => .tup [.one (.int .i64 x.1), .one (.int .i64 x.2)], fun _ _ h => nomatch h⟩
def eVV : Enc (Fx.Vec × Fx.Vec) := ⟨fun _ => none, fun x => .tup [.agg [.int .i64 x.1.x, .int .i64 x.1.y], .agg [.int .i64 x.2.x, .int .i64 x.2.y]], fun _ _ h => nomatch h⟩
/-! ### slices and records -/

theorem SL.as_self (k : K) (l : List k.Ty) : SL.as k ⟨k, l⟩ = some l := by cases k <;> rfl
def decSl (k : K) : Cell → Option (List k.Ty)
  | .slc false m => m.as k
  | _ => none
theorem decSl_ok {k : K} {c : Cell} {l : List k.Ty} (h : decSl k c = some l) : c = .slc false ⟨k, l⟩ := by
  unfold decSl at h
  split at h
  · rw [SL.as_eq h]
  · cases h
/-- A slice among a struct's cells. -/
def cSl (k : K) : OneC (List k.Ty) := ⟨decSl k, fun l => .slc false ⟨k, l⟩, .slc k, fun _ _ h => decSl_ok h, fun c h => (by obtain ⟨l, rfl, _⟩ := h; exact ⟨l, SL.as_self k l⟩)⟩
/-- A slice, as an argument. -/
def eSl (k : K) : Enc (List k.Ty) := ⟨fun | .fv (.one c) => decSl k c | _ => none, fun l => .fv (.one (.slc false ⟨k, l⟩)), fun p x h => by
  split at h
  · rw [decSl_ok h]
  · cases h⟩
/-- A new slice, as the only result. -/
def eFr (e : TypeId) (k : K) : Enc (List k.Ty) := ⟨fun _ => none, fun l => .fv (.one (.fresh e ⟨k, l⟩)), fun _ _ h => nomatch h⟩
theorem args_Sl {P : Program} {D : Nat} {t : TypeId} {ts : List TypeId} {vs : List PV} (k : K) (ha : isAggT P t = false) (hl : leafs P D t = [.slc k]) (h : ArgsAre P D (t :: ts) vs) : ∃ (l : List k.Ty) (rest : _), vs = (eSl k).pv l :: rest ∧ RangeC 3 (.slc false ⟨k, l⟩) ∧ ArgsAre P D ts rest := by
  cases h with
  | cons hs hr =>
    rw [hl] at hs
    obtain ⟨_, _, rfl, ⟨l, rfl, h1⟩, rfl⟩ := hs
    refine ⟨l, _, ?_, h1, hr⟩
    unfold ofCells
    rw [ha]; rfl
/-- A function that captures nothing. -/
def eFn (g : FuncId) : Enc Unit := ⟨fun | .fv (.one (.raw (.func (.func f) first captured))) => (match first.toList, captured.toList, Nat.beq f g with | [], [], true => some () | _, _, _ => none) | _ => none, fun _ => .fv (.one (.raw (.func (.func g) #[] #[]))), fun p x h => by
  split at h
  · rename_i f first captured
    split at h
    · rename_i h1 h2 h3
      have e1 : first = #[] := Array.ext' h1
      have e2 : captured = #[] := Array.ext' h2
      rw [Nat.eq_of_beq_eq_true h3, e1, e2]
    · cases h
  · cases h⟩

/-- Triangles and their sum, returned. -/
def eFan : Enc (List Fx.Sb × Int) := ⟨fun _ => none, fun x => .tup [.one (.slc true ⟨.sb, x.1⟩), .one (.int .i64 x.2)], fun _ _ h => nomatch h⟩
/-- A shape. -/
structure Shp where
  kind : Int
  radius : Int
  vs : List Fx.Vec
def shC : CEnc (Int × Int × List Fx.Vec × Unit) := cInt.cons (cInt.cons ((cSl .vec).cons cEnd))
def shF : Int × Int × List Fx.Vec × Unit → Shp := fun (a, b, c, ()) => ⟨a, b, c⟩
def shG (x : Shp) : List Cell := [.int .i64 x.kind, .int .i64 x.radius, .slc false ⟨.vec, x.vs⟩]
theorem shFG : ∀ x, shG (shF x) = shC.cells x := fun _ => rfl
def eSh : Enc Shp := shC.enc shF shG shFG
def mdC : CEnc (Int × Int × Int × Int × Unit) := cInt.cons (cInt.cons (cInt.cons (cInt.cons cEnd)))
def mdF : Int × Int × Int × Int × Unit → Fx.Md := fun (a, b, c, d, ()) => ⟨a, b, c, d⟩
def mdG (x : Fx.Md) : List Cell := [.int .i64 x.m, .int .i64 x.cx, .int .i64 x.cy, .int .i64 x.i]
theorem mdFG : ∀ x, mdG (mdF x) = mdC.cells x := fun _ => rfl
def eMd : Enc Fx.Md := mdC.enc mdF mdG mdFG
def sbC : CEnc (Int × Int × Int × Int × Int × Unit) := cInt.cons (cInt.cons (cInt.cons (cInt.cons (cInt.cons cEnd))))
def sbF : Int × Int × Int × Int × Int × Unit → Fx.Sb := fun (a, b, c, d, e, ()) => ⟨a, b, c, d, e⟩
def sbG (x : Fx.Sb) : List Cell := [.int .i64 x.vx, .int .i64 x.vy, .int .i64 x.w, .int .i64 x.im, .int .i64 x.ii]
theorem sbFG : ∀ x, sbG (sbF x) = sbC.cells x := fun _ => rfl
def eSb : Enc Fx.Sb := sbC.enc sbF sbG sbFG
def rwC : CEnc (Int × Int × Int × Int × Int × Int × Int × Int × Int × Int × Int × Int × Int × Int × Unit) := cInt.cons (cInt.cons (cInt.cons (cInt.cons (cInt.cons (cInt.cons (cInt.cons (cInt.cons (cInt.cons (cInt.cons (cInt.cons (cInt.cons (cInt.cons (cInt.cons cEnd)))))))))))))
def rwF : Int × Int × Int × Int × Int × Int × Int × Int × Int × Int × Int × Int × Int × Int × Unit → Fx.Row := fun (a, b, c, d, e, f, g, h, i, j, k, l, m, n, ()) => ⟨a, b, c, d, e, f, g, h, i, j, k, l, m, n⟩
def rwG (x : Fx.Row) : List Cell := K.cells .row x
theorem rwFG : ∀ x, rwG (rwF x) = rwC.cells x := fun _ => rfl
def eRw : Enc Fx.Row := rwC.enc rwF rwG rwFG
def fxC : CEnc (Int × Int × List Fx.Vec × Int × Int × Int × Bool × Int × Int × Int × Unit) := cInt.cons (cInt.cons ((cSl .vec).cons (cInt.cons (cInt.cons (cInt.cons (cBool.cons (cInt.cons (cInt.cons (cInt.cons cEnd)))))))))
def fxF : Int × Int × List Fx.Vec × Int × Int × Int × Bool × Int × Int × Int × Unit → Fx.Fix := fun (a, b, c, d, e, f, g, h, i, j, ()) => ⟨a, b, c, d, e, f, g, h, i, j⟩
def fxG (x : Fx.Fix) : List Cell := K.cells .fix x
theorem fxFG : ∀ x, fxG (fxF x) = fxC.cells x := fun _ => rfl
def eFx : Enc Fx.Fix := fxC.enc fxF fxG fxFG

end Go.Eng
