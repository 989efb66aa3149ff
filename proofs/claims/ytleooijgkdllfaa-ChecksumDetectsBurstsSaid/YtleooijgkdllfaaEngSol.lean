/- THE ENGINE, PART 22: solving rows: plain models. -/
import Derived.Test.YtleooijgkdllfaaEngJr
namespace Go.Fx
open Go.Eng
def maxZ (x : Int) : Int := if 0 > x then 0 else x
def maxZR (x : Int) : Int := if x > 0 then x else 0
theorem maxZR_eq (x : Int) : maxZR x = maxZ x := by unfold maxZR maxZ; split <;> split <;> omega
def rowAt (l : List Row) (i : Int) : Row := l.getD i.toNat row0
def outOf {α : Type} (l : List α) (i : Int) : Bool := orr (decide (i < 0)) (decide (i ≥ (l.length : Int)))
theorem outOf_false {α : Type} {l : List α} {i : Int} (h : outOf l i = false) : 0 ≤ i ∧ i < l.length := by
  unfold outOf at h
  obtain ⟨h1, h2⟩ := of_orr h
  have := of_decide_eq_false h1; have := of_decide_eq_false h2
  omega
def own1 (l : List Row) (i : Int) : Bool := orr (outOf l (rowAt l i).fo) ((rowAt l i).fo == i)
def bnd (mx : Int → Int) (l : List Row) (i : Int) : Int × Int :=
  (bif outOf l i then 0 else bif own1 l i then (rowAt l i).lo else w64 (0 - mx (mul (rowAt l i).fr (rowAt l (rowAt l i).fo).im)), bif outOf l i then 0 else bif own1 l i then (rowAt l i).up else mx (mul (rowAt l i).fr (rowAt l (rowAt l i).fo).im))
def bounds (l : List Row) (i : Int) : Int × Int := bnd maxZ l i
def boundsR (l : List Row) (i : Int) : Int × Int := bnd maxZR l i
theorem boundsR_eq (l : List Row) (i : Int) : boundsR l i = bounds l i := by
  unfold boundsR bounds
  rw [show maxZR = maxZ from funext maxZR_eq]
def inOf (s : List Sb) (i : Int) : Bool := an (decide (i ≥ 0)) (decide (i < (s.length : Int)))
def kickA (r : Row) (d : Int) (a : Sb) : Sb := ⟨(vsub a.v (vscale r.n (mul d a.im))).x, (vsub a.v (vscale r.n (mul d a.im))).y, sub a.w (mul (mul d r.aa) a.ii), a.im, a.ii⟩
def kickB (r : Row) (d : Int) (b : Sb) : Sb := ⟨(vadd b.v (vscale r.n (mul d b.im))).x, (vadd b.v (vscale r.n (mul d b.im))).y, add b.w (mul (mul d r.ab) b.ii), b.im, b.ii⟩
def kick1 (r : Row) (s : List Sb) (d : Int) : List Sb := bif inOf s r.a then s.set r.a.toNat (kickA r d (s.getD r.a.toNat sb0)) else s
def kick (r : Row) (s : List Sb) (d : Int) : List Sb := bif inOf s r.b then (kick1 r s d).set r.b.toNat (kickB r d ((kick1 r s d).getD r.b.toNat sb0)) else kick1 r s d
theorem kick1_len (r : Row) (s : List Sb) (d : Int) : (kick1 r s d).length = s.length := by unfold kick1; cases inOf s r.a <;> simp
theorem kick_len (r : Row) (s : List Sb) (d : Int) : (kick r s d).length = s.length := by unfold kick; cases inOf s r.b <;> simp [kick1_len]
def newIm (l : List Row) (i : Int) (s : List Sb) : Int :=
  clamp (sub (rowAt l i).im (mul (rowAt l i).em (add (add (relV (rowAt l i) s) (rowAt l i).bi) (mul (rowAt l i).so (rowAt l i).im)))) (bounds l i).1 (bounds l i).2
def Row.wim (r : Row) (t : Int) : Row := ⟨r.a, r.b, r.nx, r.ny, r.aa, r.ab, r.em, r.bi, r.lo, r.up, r.so, t, r.fo, r.fr⟩
def solve1 (l : List Row) (i : Int) (s : List Sb) : List Row := bif outOf l i then l else l.set i.toNat ((rowAt l i).wim (newIm l i s))
def solve2 (l : List Row) (i : Int) (s : List Sb) : List Sb := bif outOf l i then s else kick ((rowAt l i).wim (newIm l i s)) s (sub (newIm l i s) (rowAt l i).im)
end Go.Fx
