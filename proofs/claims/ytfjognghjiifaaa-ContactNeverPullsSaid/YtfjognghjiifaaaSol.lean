/- The contracts of solving rows, program and reference. -/
import Derived.Test.YtfjognghjiifaaaJr
import Derived.Test.YtfjognghjiifaaaEngKick
open Go Go.Eng
namespace Go.Proofs.Ytfjognghjiifaaa
open Go.Fx (an orr)

theorem cRelV : Sound Try.prog 41 (c2 eRw (eSl .sb) eI Fx.relV) :=
  con (lps := noLps) mixed (.cons cSbAt (.cons cVdot (.cons cVsub (.cons cAdd (.cons cMul (.cons cSub .nil)))))) Try.func41 (by kernel_rfl) (by kernel_rfl) (noLoops (by kernel_rfl)) (k2 (fun _ _ => by kernel_rfl))
def clRQ (l : List (K.Ty .row)) : List Prop := [Conj [(SL.mk .row l).len = 0] → PV.fv (FV.one (Cell.fresh 59 ⟨.row, []⟩)) = PV.fv (FV.one (Cell.fresh 59 ⟨.row, [] ++ l⟩)), (0 + l.length) * 112 ≤ 140737488355328]
theorem clRQ_ok (l : List (K.Ty .row)) (h : l.length * 112 ≤ 140737488355328) : Conj (clRQ l) := ⟨fun h0 => by
  have h0 : l.length = 0 := h0.1
  rw [List.length_eq_zero_iff.1 h0]; rfl, by rw [Nat.zero_add]; exact h, trivial⟩
theorem cClR : Sound Try.prog 38 (p1 (eSl .row) (eFr 59 .row) (fun l => [l.length * 112 ≤ 140737488355328]) (fun l => l)) :=
  con (lps := noLps) mixed .nil Try.func38 (by kernel_rfl) (by kernel_rfl) (noLoops (by kernel_rfl)) (g1 clRQ (fun l => l) (fun l h => clRQ_ok l h.1) (fun _ _ => rfl) (fun _ => by kernel_rfl))
def clSQ (l : List (K.Ty .sb)) : List Prop := [Conj [(SL.mk .sb l).len = 0] → PV.fv (FV.one (Cell.fresh 84 ⟨.sb, []⟩)) = PV.fv (FV.one (Cell.fresh 84 ⟨.sb, [] ++ l⟩)), (0 + l.length) * 40 ≤ 140737488355328]
theorem clSQ_ok (l : List (K.Ty .sb)) (h : l.length * 40 ≤ 140737488355328) : Conj (clSQ l) := ⟨fun h0 => by
  have h0 : l.length = 0 := h0.1
  rw [List.length_eq_zero_iff.1 h0]; rfl, by rw [Nat.zero_add]; exact h, trivial⟩
theorem cClS : Sound Try.prog 39 (p1 (eSl .sb) (eFr 84 .sb) (fun l => [l.length * 40 ≤ 140737488355328]) (fun l => l)) :=
  con (lps := noLps) mixed .nil Try.func39 (by kernel_rfl) (by kernel_rfl) (noLoops (by kernel_rfl)) (g1 clSQ (fun l => l) (fun l h => clSQ_ok l h.1) (fun _ _ => rfl) (fun _ => by kernel_rfl))
def bndQ (l : List Fx.Row) (i : Int) : List Prop := [Fx.outOf l i = false → 0 ≤ i ∧ i < (l.length : Int), Fx.outOf l i = false → Fx.own1 l i = false → 0 ≤ (Fx.rowAt l i).fo ∧ (Fx.rowAt l i).fo < (l.length : Int)]
theorem bndQ_ok (l : List Fx.Row) (i : Int) : Conj (bndQ l i) := ⟨Fx.outOf_false, fun _ h => Fx.outOf_false (Fx.of_orr h).1, trivial⟩
theorem cBnd : Sound Try.prog 22 (c2 (eSl .row) eI eII Fx.bounds) :=
  con (lps := noLps) mixed (.cons cMul .nil) Try.func22 (by kernel_rfl) (by kernel_rfl) (noLoops (by kernel_rfl)) (g2 bndQ Fx.bounds (fun l i _ => bndQ_ok l i) (fun _ _ _ => rfl) (fun _ _ => by kernel_rfl))
theorem kckEq (mul add sub : Int → Int → Int) (va vs : Fx.Vec → Fx.Vec → Fx.Vec) (vsc : Fx.Vec → Int → Fx.Vec) (r : Fx.Row) (s : List Fx.Sb) (d : Int) : symFn Try.prog (tbl [(39, p1 (eSl .sb) (eFr 84 .sb) (fun l => [l.length * 40 ≤ 140737488355328]) (fun l => l)), (25, f2 mul), (43, f2 sub), (40, f2 add), (53, c2 eV eV eV vs), (61, c2 eV eV eV va), (60, c2 eV eI eV vsc)]) noLps 44 [eRw.pv r, (eSl .sb).pv s, eI.pv d] =
    some (Fx.kickQ mul sub va vs vsc r s d, (eFr 84 .sb).pv (Fx.kickG mul add sub va vs vsc r s d)) := by kernel_rfl
theorem cKck : Sound Try.prog 44 (p3 eRw (eSl .sb) eI (eFr 84 .sb) (fun _ s _ => [s.length * 40 ≤ 140737488355328]) Fx.kicked) :=
  con (lps := noLps) mixed (AllSound.cons cClS (.cons cMul (.cons cSub (.cons cAdd (.cons cVsub (.cons cVadd (.cons cVscale .nil))))))) Try.func44 (by kernel_rfl) (by kernel_rfl) (noLoops (by kernel_rfl))
    (g3 (fun r s d => Fx.kickQ Fx.mul Fx.sub Fx.vadd Fx.vsub Fx.vscale r s d) (fun r s d => Fx.kicked r s d) (fun r s d h => Fx.kickQ_ok _ _ _ _ _ r s d h.1) (fun _ _ _ _ => rfl) (fun r s d => kckEq _ _ _ _ _ _ r s d))
section
variable (rel : Fx.Row → List Fx.Sb → Int) (bnd : List Fx.Row → Int → Int × Int) (mul add sub : Int → Int → Int) (clamp : Int → Int → Int → Int) (kick : Fx.Row → List Fx.Sb → Int → List Fx.Sb) (l : List Fx.Row) (i : Int) (s : List Fx.Sb)
def slvQ : List Prop := [l.length * 112 ≤ 140737488355328, Fx.outOf l i = true → s.length * 40 ≤ 140737488355328, Fx.outOf l i = false → 0 ≤ i ∧ i < (l.length : Int), Fx.outOf l i = false → i.toNat < l.length, Fx.outOf l i = false → i.toNat < l.length, Fx.outOf l i = false → i.toNat < l.length, Fx.outOf l i = false → i.toNat < l.length, Fx.outOf l i = false → i.toNat < l.length, Fx.outOf l i = false → i.toNat < l.length, Fx.outOf l i = false → i.toNat < l.length, Fx.outOf l i = false → i.toNat < l.length,
  Fx.outOf l i = false → i.toNat < (l.set i.toNat ((Fx.rowAt l i).wim (Fx.nImG rel bnd mul add sub clamp l i s))).length, Fx.outOf l i = false → s.length * 40 ≤ 140737488355328]
theorem slvQ_ok (h1 : l.length * 112 ≤ 140737488355328) (h2 : s.length * 40 ≤ 140737488355328) : Conj (slvQ rel bnd mul add sub clamp l i s) := by
  have hl : Fx.outOf l i = false → i.toNat < l.length := fun h => by have := Fx.outOf_false h; omega
  exact ⟨h1, fun _ => h2, Fx.outOf_false, hl, hl, hl, hl, hl, hl, hl, hl, fun h => by rw [List.length_set]; exact hl h, fun _ => h2, trivial⟩
theorem slvEq : symFn Try.prog (tbl [(38, p1 (eSl .row) (eFr 59 .row) (fun l => [l.length * 112 ≤ 140737488355328]) (fun l => l)), (39, p1 (eSl .sb) (eFr 84 .sb) (fun l => [l.length * 40 ≤ 140737488355328]) (fun l => l)), (25, f2 mul), (43, f2 sub), (40, f2 add), (41, c2 eRw (eSl .sb) eI rel), (22, c2 (eSl .row) eI eII bnd), (42, f3 clamp), (44, p3 eRw (eSl .sb) eI (eFr 84 .sb) (fun _ s _ => [s.length * 40 ≤ 140737488355328]) kick)]) noLps 23 [(eSl .row).pv l, eI.pv i, (eSl .sb).pv s] =
    some (slvQ rel bnd mul add sub clamp l i s, eSS.pv (Fx.sv1G rel bnd mul add sub clamp l i s, Fx.sv2G rel bnd mul add sub clamp kick l i s)) := by kernel_rfl
end
theorem cSlv : Sound Try.prog 23 (p3 (eSl .row) eI (eSl .sb) eSS (fun l _ s => [l.length * 112 ≤ 140737488355328, s.length * 40 ≤ 140737488355328]) (fun l i s => (Fx.solved1 l i s, Fx.solved2 l i s))) :=
  con (lps := noLps) mixed (AllSound.cons cClR (.cons cClS (.cons cMul (.cons cSub (.cons cAdd (.cons cRelV (.cons cBnd (.cons cClamp (.cons cKck .nil))))))))) Try.func23 (by kernel_rfl) (by kernel_rfl) (noLoops (by kernel_rfl))
    (g3 (fun l i s => slvQ Fx.relV Fx.bounds Fx.mul Fx.add Fx.sub Fx.clamp l i s) (fun l i s => (Fx.solved1 l i s, Fx.solved2 l i s)) (fun l i s h => slvQ_ok _ _ _ _ _ _ l i s h.1 h.2.1) (fun _ _ _ _ => rfl) (fun l i s => slvEq _ _ _ _ _ _ _ l i s))
end Go.Proofs.Ytfjognghjiifaaa
