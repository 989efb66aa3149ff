/- THE ENGINE, PART 27: a distance joint pushes or pulls; plain laws. -/
import Derived.Test.YtpolkkblmcmlnaaEngKick
namespace Go.Fx
open Go.Eng
theorem solve_one (r : Row) (s : List Sb) (hfo : r.fo = -1) (h : r.lo ≤ r.up) : ∃ t, solved1 [r] 0 s = [r.wim t] ∧ r.lo ≤ t ∧ t ≤ r.up := by
  have er : rowAt [r] 0 = r := rfl
  have eo : own1 [r] 0 = true := by
    unfold own1 outOf orr
    rw [er, hfo]; rfl
  have eb : bounds [r] 0 = (r.lo, r.up) := by
    unfold bounds bnd
    rw [show outOf [r] 0 = false from rfl, eo, er]; rfl
  refine ⟨nImG relV bounds mul add sub clamp [r] 0 s, ?_, ?_⟩
  · unfold solved1 sv1G
    rw [show outOf [r] 0 = false from rfl, er]; rfl
  · unfold nImG
    rw [eb]
    exact clamp_le h
def uniG (long lo up : Int) (l : List Row) (m0 : Row) (mlen : Nat) : Bool :=
  bif (l.length : Int) != 1 then an (an (an ((l.length : Int) == 0) (decide (long > lo))) (decide (long < up))) true else bif (mlen : Int) != 1 then false else bif lo == up then an (an ((l.getD 0 row0).lo == -536870911) ((l.getD 0 row0).up == 536870911)) true
    else an (an (an (orr (decide (long > lo)) (decide (m0.im ≥ 0))) (orr (decide (long < up)) (decide (m0.im ≤ 0)))) (orr (decide (long ≤ lo)) (decide (long ≥ up)))) true
theorem uni_one (long lo up : Int) (r : Row) (s : List Sb) (hfo : r.fo = -1) (h1 : lo = up → r.lo = -536870911 ∧ r.up = 536870911) (h2 : lo ≠ up → long ≤ lo → long < up ∧ r.lo = 0 ∧ r.up = 536870911) (h3 : lo ≠ up → ¬ long ≤ lo → long ≥ up ∧ r.lo = -536870911 ∧ r.up = 0) :
    uniG long lo up [r] ((solved1 [r] 0 s).getD 0 row0) (solved1 [r] 0 s).length = true := by
  have hb : r.lo ≤ r.up := by
    by_cases e : lo = up
    · have := h1 e; omega
    · by_cases e2 : long ≤ lo
      · have := h2 e e2; omega
      · have := h3 e e2; omega
  obtain ⟨t, e, t1, t2⟩ := solve_one r s hfo hb
  rw [e]
  unfold uniG
  by_cases e1 : lo = up
  · obtain ⟨b1, b2⟩ := h1 e1
    simp [e1, an, b1, b2]
  · have el : (lo == up) = false := by simpa using e1
    by_cases e2 : long ≤ lo
    · obtain ⟨a1, b1, b2⟩ := h2 e1 e2
      have : t ≥ 0 := by omega
      simp [el, an, orr, e2, a1, Row.wim, this, Int.not_lt.2 e2]
    · obtain ⟨a1, b1, b2⟩ := h3 e1 e2
      have : t ≤ 0 := by omega
      simp [el, an, orr, Row.wim, this, Int.not_le.1 e2, a1]
theorem drow_lo (j : Joint) (a b : Bd) (ia ib : Int) (s : List Sb) (dt : Int) (n : Vec) (lo up : Int) : (drow j a b ia ib s dt n lo up).lo = lo := rfl
theorem drow_up (j : Joint) (a b : Bd) (ia ib : Int) (s : List Sb) (dt : Int) (n : Vec) (lo up : Int) : (drow j a b ia ib s dt n lo up).up = up := rfl
theorem drow_fo (j : Joint) (a b : Bd) (ia ib : Int) (s : List Sb) (dt : Int) (n : Vec) (lo up : Int) : (drow j a b ia ib s dt n lo up).fo = -1 := rfl
theorem uni_true (j : Joint) (a b : Bd) (ia ib : Int) (s : List Sb) (dt : Int) (hk : (j.kind != 1) = false) (hl : j.lo ≤ j.up) :
    uniG (jlen j a b) j.lo j.up (drows j a b ia ib s dt) ((solved1 (drows j a b ia ib s dt) 0 s).getD 0 row0) (solved1 (drows j a b ia ib s dt) 0 s).length = true := by
  have hN : dNone j a b = an (decide (jlen j a b > j.lo)) (decide (jlen j a b < j.up)) := by simp only [dNone, hk, orr, cond_false]
  by_cases hn : dNone j a b = true
  · have hd : drows j a b ia ib s dt = [] := by unfold drows; rw [hn]; rfl
    rw [hN] at hn
    obtain ⟨h1, h2⟩ := of_an hn
    rw [hd]
    unfold uniG
    rw [h1, h2]; rfl
  · have hn : dNone j a b = false := by simpa using hn
    have key : ∀ n, uniG (jlen j a b) j.lo j.up (drowsOf j a b ia ib s dt n) ((solved1 (drowsOf j a b ia ib s dt n) 0 s).getD 0 row0) (solved1 (drowsOf j a b ia ib s dt n) 0 s).length = true := fun n => by
      unfold drowsOf
      by_cases c1 : j.lo ≥ j.up
      · rw [decide_eq_true c1, cond_true]
        exact uni_one _ _ _ (drow j a b ia ib s dt n (-536870911) 536870911) s (drow_fo ..) (fun _ => ⟨drow_lo .., drow_up ..⟩) (fun e => absurd (Int.le_antisymm hl c1) e) (fun e => absurd (Int.le_antisymm hl c1) e)
      · rw [decide_eq_false c1, cond_false]
        by_cases c2 : jlen j a b ≤ j.lo
        · rw [decide_eq_true c2, cond_true]
          exact uni_one _ _ _ (drow j a b ia ib s dt n 0 536870911) s (drow_fo ..) (fun e => absurd (Int.le_of_eq e.symm) c1) (fun _ _ => ⟨by omega, drow_lo .., drow_up ..⟩) (fun _ e => absurd c2 e)
        · rw [decide_eq_false c2, cond_false]
          refine uni_one _ _ _ (drow j a b ia ib s dt n (-536870911) 0) s (drow_fo ..) (fun e => absurd (Int.le_of_eq e.symm) c1) (fun _ e => absurd e c2) (fun _ _ => ⟨?_, drow_lo .., drow_up ..⟩)
          rw [hN] at hn
          unfold an at hn
          rw [decide_eq_true (show jlen j a b > j.lo by omega)] at hn
          have := of_decide_eq_false hn
          omega
    unfold drows
    rw [hn]
    cases (jdiff j a b).eqb ⟨0, 0⟩
    · exact key _
    · exact key _
end Go.Fx
