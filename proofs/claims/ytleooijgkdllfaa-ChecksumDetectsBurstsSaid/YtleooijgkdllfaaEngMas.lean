/- THE ENGINE, PART 12: polygons, shapes, masses: plain models. -/
import Derived.Test.YtleooijgkdllfaaEngJnt
namespace Go.Fx
open Go.Eng
def inRch (v : Vec) : Bool := an (an (an (decide (v.x ≥ -1048576)) (decide (v.x ≤ 1048576))) (decide (v.y ≥ -1048576))) (decide (v.y ≤ 1048576))
def ortN (a b c : Vec) : Int := w64 (w64 (w64 ((vsat b).x - (vsat a).x) * w64 ((vsat c).y - (vsat a).y)) - w64 (w64 ((vsat b).y - (vsat a).y) * w64 ((vsat c).x - (vsat a).x)))
def ort (a b c : Vec) : Int := bif decide (ortN a b c > 0) then 1 else bif decide (ortN a b c < 0) then -1 else 0
def ortP (a b c : Vec) : Int := if (if ortN a b c > -1 then ortN a b c else -1) < 1 then (if ortN a b c > -1 then ortN a b c else -1) else 1
theorem ortP_eq (a b c : Vec) : ortP a b c = ort a b c := by
  unfold ortP ort
  generalize ortN a b c = n
  by_cases h : n > 0
  · rw [if_pos (by omega : n > -1), if_neg (by omega), decide_eq_true h]; rfl
  · rw [decide_eq_false h]
    by_cases h2 : n < 0
    · rw [if_neg (by omega : ¬ n > -1), if_pos (by omega), decide_eq_true h2]; rfl
    · rw [if_pos (by omega : n > -1), if_pos (by omega), decide_eq_false h2]
      show n = 0
      omega
def nxt (l : List Vec) (i : Nat) : Int := (w64 ((i : Int) + 1)).tmod l.length
/-- No vertex lies behind this edge. -/
def cvxE (l : List Vec) (j nx : Int) (a : Vec) : Bool := isL (runF (fun i (_ : Unit) => bif bif bif (i : Int) != j then (i : Int) != nx else false then ort a (l.getD nx.toNat ⟨0, 0⟩) (l.getD i ⟨0, 0⟩) != 1 else false then Sum.inr () else Sum.inl ()) l.length 0 ())
def allRch (l : List Vec) : Bool := isL (runF (fun i (_ : Unit) => bif !inRch (l.getD i ⟨0, 0⟩) then Sum.inr () else Sum.inl ()) l.length 0 ())
def cvxA (l : List Vec) : Bool := isL (runF (fun i (_ : Unit) => bif cvxE l i (nxt l i) (l.getD i ⟨0, 0⟩) then Sum.inl () else Sum.inr ()) l.length 0 ())
def cvxFew (l : List Vec) : Bool := orr (decide ((l.length : Int) < 3)) (decide ((l.length : Int) > 8))
def cvxBad (l : List Vec) : Bool := orr (orr (decide ((l.length : Int) < 3)) (decide ((l.length : Int) > 8))) (!allRch l)
def cvx (l : List Vec) : Bool := bif cvxBad l then false else cvxA l
theorem cvx_eq (l : List Vec) : (bif cvxBad l then false else bif cvxA l then true else false) = cvx l := by
  unfold cvx
  cases cvxBad l <;> cases cvxA l <;> rfl
theorem cvxR_eq (l : List Vec) : (bif cvxFew l then false else bif allRch l then bif cvxA l then true else false else false) = cvx l := by
  unfold cvx cvxBad
  show _ = bif orr (cvxFew l) (!allRch l) then false else cvxA l
  cases cvxFew l <;> cases allRch l <;> cases cvxA l <;> rfl
theorem cvx_len {l : List Vec} (h : cvx l = true) : 3 ≤ l.length ∧ l.length ≤ 8 := by
  unfold cvx cvxBad at h
  by_cases h1 : (l.length : Int) < 3
  · rw [decide_eq_true h1] at h; cases h
  · by_cases h2 : (l.length : Int) > 8
    · rw [decide_eq_true h2, decide_eq_false h1] at h; cases h
    · omega
theorem nxt_ok {l : List Vec} {i : Nat} (h : i < l.length) (hn : l.length ≤ maxLen) : 0 ≤ nxt l i ∧ nxt l i < l.length := by
  unfold nxt w64
  rw [wrap_succ h hn]
  have h1 := Int.tmod_lt_of_pos ((i + 1 : Nat) : Int) (b := l.length) (by omega)
  have h2 := Int.tmod_nonneg (l.length : Int) (a := ((i + 1 : Nat) : Int)) (by omega)
  exact ⟨h2, h1⟩
theorem wrap_two {i n : Nat} (h : i ≤ n - 2) (hn : n ≤ maxLen) : IntKind.i64.wrap ((i : Int) + 1 + 1) = (i : Int) + 1 + 1 := by
  simp only [maxLen] at hn
  rw [wrap_i64 (by omega) (by omega)]
theorem wrap_two' {i n : Nat} (h : i < n - 2) (hn : n ≤ maxLen) : IntKind.i64.wrap ((i : Int) + 1 + 1) = ((i + 1 : Nat) : Int) + 1 := by
  rw [wrap_two (Nat.le_of_lt h) hn]; omega
theorem cond_two {i n : Nat} (h : i ≤ n - 2) (hn : n ≤ maxLen) : decide (IntKind.i64.wrap ((i : Int) + 1 + 1) < (n : Int)) = decide (i < n - 2) := by
  rw [wrap_two h hn]
  by_cases h1 : i < n - 2
  · rw [decide_eq_true h1, decide_eq_true (by omega)]
  · rw [decide_eq_false h1, decide_eq_false (by omega)]
/-- The number of edge i, and how the shortest one is found. -/
def edge (l : List Vec) (i : Nat) : Int := vlen (vsub (l.getD (nxt l i).toNat ⟨0, 0⟩) (l.getD i ⟨0, 0⟩))
def edgeR (l : List Vec) (i : Nat) : Int := vlenR (vsub (l.getD (nxt l i).toNat ⟨0, 0⟩) (l.getD i ⟨0, 0⟩))
theorem edgeR_eq (l : List Vec) (i : Nat) : edgeR l i = edge l i := vlenR_eq _
def seP (l : List Vec) : Int := foldN (fun i s => if edge l i < s then edge l i else s) l.length 0 536870911
def seR (l : List Vec) : Int := foldN (fun i s => bif orr (decide (s < 0)) (decide (edgeR l i < s)) then edgeR l i else s) l.length 0 (-1)
def shortP (l : List Vec) : Int := bif !cvx l then 0 else seP l
def shortR (l : List Vec) : Int := bif !cvx l then 0 else seR l
/-- The triangle behind vertex i + 1. -/
def tri (l : List Vec) (o : Vec) (i : Nat) : Sb :=
  ⟨w64 ((l.getD (i + 1) ⟨0, 0⟩).x - o.x), w64 ((l.getD (i + 1) ⟨0, 0⟩).y - o.y), w64 ((l.getD (w64 ((i : Int) + 1 + 1)).toNat ⟨0, 0⟩).x - o.x), w64 ((l.getD (w64 ((i : Int) + 1 + 1)).toNat ⟨0, 0⟩).y - o.y),
    rdiv (w64 (w64 (w64 ((l.getD (i + 1) ⟨0, 0⟩).x - o.x) * w64 ((l.getD (w64 ((i : Int) + 1 + 1)).toNat ⟨0, 0⟩).y - o.y)) - w64 (w64 ((l.getD (i + 1) ⟨0, 0⟩).y - o.y) * w64 ((l.getD (w64 ((i : Int) + 1 + 1)).toNat ⟨0, 0⟩).x - o.x)))) 65536⟩
def crossR (l : List Vec) (i : Int) : Int :=
  rdiv (w64 (w64 (w64 ((l.getD i.toNat ⟨0, 0⟩).x - (l.getD 0 ⟨0, 0⟩).x) * w64 ((l.getD (w64 (i + 1)).toNat ⟨0, 0⟩).y - (l.getD 0 ⟨0, 0⟩).y)) - w64 (w64 ((l.getD i.toNat ⟨0, 0⟩).y - (l.getD 0 ⟨0, 0⟩).y) * w64 ((l.getD (w64 (i + 1)).toNat ⟨0, 0⟩).x - (l.getD 0 ⟨0, 0⟩).x)))) 65536
def fanS (l : List Vec) (i : Nat) (x : List Sb × Int) : List Sb × Int := (x.1 ++ [tri l (l.getD 0 ⟨0, 0⟩) i], w64 (x.2 + (tri l (l.getD 0 ⟨0, 0⟩) i).ii))
def fan (l : List Vec) : List Sb × Int := foldN (fanS l) (l.length - 2) 0 ([], 0)
def cenX (t : Sb) (x : Int) : Int := w64 (x + w64 (w64 (t.vx + t.w) * t.ii))
def cenY (t : Sb) (y : Int) : Int := w64 (y + w64 (w64 (t.vy + t.im) * t.ii))
theorem cross_ok {l : List Vec} {i : Int} (h : 1 ≤ i ∧ i + 1 < (l.length : Int) ∧ l.length ≤ 8) : Conj [0 ≤ i ∧ i < (l.length : Int), 0 ≤ (0 : Int) ∧ (0 : Int) < (l.length : Int), 0 ≤ i ∧ i < (l.length : Int), 0 ≤ (0 : Int) ∧ (0 : Int) < (l.length : Int), 0 ≤ w64 (i + 1) ∧ w64 (i + 1) < (l.length : Int), 0 ≤ (0 : Int) ∧ (0 : Int) < (l.length : Int), 0 ≤ w64 (i + 1) ∧ w64 (i + 1) < (l.length : Int), 0 ≤ (0 : Int) ∧ (0 : Int) < (l.length : Int)] := by
  have hw : w64 (i + 1) = i + 1 := by unfold w64; rw [wrap_i64 (by omega) (by omega)]
  rw [hw]
  exact ⟨⟨by omega, by omega⟩, ⟨by omega, by omega⟩, ⟨by omega, by omega⟩, ⟨by omega, by omega⟩, ⟨by omega, by omega⟩, ⟨by omega, by omega⟩, ⟨by omega, by omega⟩, ⟨by omega, by omega⟩, trivial⟩
def cenRX (l : List Vec) (o : Vec) (i : Nat) (x : Int) : Int := w64 (x + w64 (w64 (w64 (w64 ((l.getD (i + 1) ⟨0, 0⟩).x - o.x) + (l.getD (w64 ((i : Int) + 1 + 1)).toNat ⟨0, 0⟩).x) - o.x) * crossR l ((i : Int) + 1)))
def cenRY (l : List Vec) (o : Vec) (i : Nat) (y : Int) : Int := w64 (y + w64 (w64 (w64 (w64 ((l.getD (i + 1) ⟨0, 0⟩).y - o.y) + (l.getD (w64 ((i : Int) + 1 + 1)).toNat ⟨0, 0⟩).y) - o.y) * crossR l ((i : Int) + 1)))
def areaP (l : List Vec) : Int := bif !cvx l then 0 else rdiv (fan l).2 2
def areaR (l : List Vec) : Int := bif !cvx l then 0 else rdiv (foldN (fun i s => w64 (s + crossR l ((i : Int) + 1))) (l.length - 2) 0 0) 2
end Go.Fx
