/- THE ENGINE, PART 13: polygons: both ways give the same. -/
import Derived.Test.YtleooijgkdllfaaEngMas
namespace Go.Fx
open Go.Eng
theorem w64_eq (x : Int) : w64 x = (x + 9223372036854775808) % 18446744073709551616 - 9223372036854775808 := by
  unfold w64
  simp only [IntKind.wrap, IntKind.bits, IntKind.signed]
  simp
  omega
theorem foldN_congr {β : Type} {f g : Nat → β → β} : ∀ (k i : Nat) (x : β), (∀ j x, i ≤ j → j < i + k → f j x = g j x) → foldN f k i x = foldN g k i x
  | 0, _, _, _ => rfl
  | k + 1, i, x, h => by
    simp only [foldN]
    rw [h i x (Nat.le_refl _) (by omega)]
    exact foldN_congr k (i + 1) _ fun j x h1 h2 => h j x (by omega) (by omega)
/-- A fold seen through a map. -/
theorem foldN_map {β γ : Type} {f : Nat → β → β} {g : Nat → γ → γ} (m : β → γ) : ∀ (k i : Nat) (x : β), (∀ j x, i ≤ j → j < i + k → m (f j x) = g j (m x)) → m (foldN f k i x) = foldN g k i (m x)
  | 0, _, _, _ => rfl
  | k + 1, i, x, h => by
    simp only [foldN]
    rw [foldN_map m k (i + 1) _ fun j x h1 h2 => h j x (by omega) (by omega), h i x (Nat.le_refl _) (by omega)]
theorem foldN_inv {β : Type} {f : Nat → β → β} (p : Nat → β → Prop) : ∀ (k i : Nat) (x : β), p i x → (∀ j x, i ≤ j → j < i + k → p j x → p (j + 1) (f j x)) → p (i + k) (foldN f k i x)
  | 0, _, _, h, _ => h
  | k + 1, i, x, h, hs => by
    simp only [foldN]
    have := foldN_inv p k (i + 1) (f i x) (hs i x (Nat.le_refl _) (by omega) h) fun j x h1 h2 h3 => hs j x (by omega) (by omega) h3
    rw [show i + (k + 1) = i + 1 + k by omega]; exact this

def org (l : List Vec) : Vec := l.getD 0 ⟨0, 0⟩
theorem fan_fold (l : List Vec) : ∀ (k i : Nat) (T : List Sb) (s : Int), foldN (fanS l) k i (T, s) = (T ++ (List.range' i k).map (tri l (org l)), foldN (fun i s => w64 (s + (tri l (org l) i).ii)) k i s)
  | 0, _, T, s => by simp [foldN]
  | k + 1, i, T, s => by
    simp only [foldN]
    rw [show fanS l i (T, s) = (T ++ [tri l (org l) i], w64 (s + (tri l (org l) i).ii)) from rfl, fan_fold l k (i + 1)]
    simp [List.range'_succ]
theorem tri_ii (l : List Vec) (i : Nat) : (tri l (org l) i).ii = crossR l ((i : Int) + 1) := by
  unfold tri crossR org
  rw [show ((i : Int) + 1).toNat = i + 1 by omega]
theorem fan_eq (l : List Vec) : fan l = ((List.range' 0 (l.length - 2)).map (tri l (org l)), foldN (fun i s => w64 (s + crossR l ((i : Int) + 1))) (l.length - 2) 0 0) := by
  unfold fan
  rw [fan_fold]
  simp only [List.nil_append]
  rw [foldN_congr (g := fun i s => w64 (s + crossR l ((i : Int) + 1))) _ _ _ fun j x _ _ => by rw [tri_ii]]
theorem area_eq (l : List Vec) : areaR l = areaP l := by
  unfold areaR areaP
  rw [fan_eq]
theorem fan_len (l : List Vec) : (fan l).1.length = l.length - 2 := by rw [fan_eq]; simp
theorem fan_get (l : List Vec) {i : Nat} (h : i < l.length - 2) : (fan l).1.getD i ⟨0, 0, 0, 0, 0⟩ = tri l (org l) i := by
  rw [fan_eq]
  simp [List.getD, h]
theorem cenX_eq (l : List Vec) (i : Nat) (x : Int) : cenX (tri l (org l) i) x = cenRX l (org l) i x := by
  unfold cenX cenRX
  rw [tri_ii]
  congr 4
  show w64 (w64 (_ - _) + w64 (_ - _)) = _
  generalize (l.getD (i + 1) ⟨0, 0⟩).x = a
  generalize (l.getD (w64 ((i : Int) + 1 + 1)).toNat ⟨0, 0⟩).x = b
  simp only [w64_eq]; omega
theorem cenY_eq (l : List Vec) (i : Nat) (x : Int) : cenY (tri l (org l) i) x = cenRY l (org l) i x := by
  unfold cenY cenRY
  rw [tri_ii]
  congr 4
  show w64 (w64 (_ - _) + w64 (_ - _)) = _
  generalize (l.getD (i + 1) ⟨0, 0⟩).y = a
  generalize (l.getD (w64 ((i : Int) + 1 + 1)).toNat ⟨0, 0⟩).y = b
  simp only [w64_eq]; omega
def cenS (l : List Vec) : Int × Int := foldN (fun i x => (cenX ((fan l).1.getD i ⟨0, 0, 0, 0, 0⟩) x.1, cenY ((fan l).1.getD i ⟨0, 0, 0, 0, 0⟩) x.2)) (fan l).1.length 0 (0, 0)
def cenQ (l : List Vec) : Int × Int × Int := foldN (fun i x => (w64 (x.1 + crossR l ((i : Int) + 1)), cenRX l (org l) i x.2.1, cenRY l (org l) i x.2.2)) (l.length - 2) 0 (0, 0, 0)
theorem cenQ_eq (l : List Vec) : cenQ l = ((fan l).2, cenS l) := by
  have h1 : (cenQ l).1 = (fan l).2 := by
    unfold cenQ
    rw [foldN_map (g := fun i s => w64 (s + crossR l ((i : Int) + 1))) (m := fun x : Int × Int × Int => x.1) _ _ _ (fun _ _ _ _ => rfl), fan_eq]
  have h2 : (cenQ l).2 = cenS l := by
    unfold cenQ cenS
    rw [fan_len]
    exact foldN_map (m := fun x : Int × Int × Int => x.2) _ _ _ fun j x _ hj => by rw [fan_get l (by omega), cenX_eq, cenY_eq]
  rw [← h1, ← h2]
def cenOf (c : Bool) (o : Vec) (s : Int) (q : Int × Int) : Vec := ⟨bif !c then 0 else bif s == 0 then o.x else w64 (o.x + rdiv q.1 (w64 (3 * s))), bif !c then 0 else bif s == 0 then o.y else w64 (o.y + rdiv q.2 (w64 (3 * s)))⟩
def cen (l : List Vec) : Vec := cenOf (cvx l) (org l) (fan l).2 (cenS l)
def cenRef (l : List Vec) : Vec := cenOf (cvx l) (org l) (cenQ l).1 (cenQ l).2
theorem cen_eq (l : List Vec) : cenRef l = cen l := by unfold cenRef cen; rw [cenQ_eq]

/-! ### the shortest edge -/
theorem runF_isL {β ε : Type} {step : Nat → β → Sum β ε} {P : Nat → Prop} (hP : ∀ i x, (∃ y, step i x = .inl y) → P i) : ∀ (k i : Nat) (x : β), isL (runF step k i x) = true → ∀ j, i ≤ j → j < i + k → P j
  | 0, _, _, _, j, h1, h2 => by omega
  | k + 1, i, x, h, j, h1, h2 => by
    simp only [runF] at h
    split at h
    · rename_i y hy
      by_cases hj : j = i
      · exact hj ▸ hP i x ⟨y, hy⟩
      · exact runF_isL hP k (i + 1) y h j (by omega) (by omega)
    · cases h
theorem allRch_get {l : List Vec} (h : allRch l = true) (i : Nat) (hi : i < l.length) : inRch (l.getD i ⟨0, 0⟩) = true := by
  refine runF_isL (P := fun i => inRch (l.getD i ⟨0, 0⟩) = true) (fun i x ⟨y, hy⟩ => ?_) _ _ _ h i (Nat.zero_le _) (by omega)
  cases e : inRch (l.getD i ⟨0, 0⟩) with
  | true => rfl
  | false => rw [e] at hy; cases hy
theorem inRch_iff (v : Vec) : inRch v = true ↔ (-1048576 ≤ v.x ∧ v.x ≤ 1048576) ∧ (-1048576 ≤ v.y ∧ v.y ≤ 1048576) := by
  unfold inRch
  constructor
  · intro h
    obtain ⟨h, h4⟩ := of_an h
    obtain ⟨h, h3⟩ := of_an h
    obtain ⟨h1, h2⟩ := of_an h
    have := of_decide_eq_true h1; have := of_decide_eq_true h2; have := of_decide_eq_true h3; have := of_decide_eq_true h4
    omega
  · rintro ⟨⟨h1, h2⟩, h3, h4⟩
    exact an_true (an_true (an_true (decide_eq_true h1) (decide_eq_true h2)) (decide_eq_true h3)) (decide_eq_true h4)
theorem cvx_rch {l : List Vec} (h : cvx l = true) : allRch l = true := by
  unfold cvx cvxBad at h
  cases e : allRch l with
  | true => rfl
  | false => rw [e] at h; simp [orr] at h
theorem sq_nn (x : Int) : 0 ≤ x * x := by
  rcases Int.le_total 0 x with h | h
  · exact Int.mul_nonneg h h
  · have := Int.mul_nonneg (a := -x) (b := -x) (by omega) (by omega)
    rwa [Int.neg_mul_neg] at this
theorem vlen_nn (v : Vec) : 0 ≤ vlen v := by
  unfold vlen
  have hx := sat_bounds v.x; have hy := sat_bounds v.y
  by_cases h : 0 ≤ vdist2 ⟨0, 0⟩ v ∧ vdist2 ⟨0, 0⟩ v ≤ 4611686018427387904
  · exact (isqrt_spec h.1 h.2).1
  · unfold isqrt
    rw [if_pos (by omega)]; exact Int.le_refl _
theorem vlen_small {v : Vec} {m : Int} (hm : 0 ≤ m) (hm' : m ≤ 268435456) (hx : -m ≤ v.x ∧ v.x ≤ m) (hy : -m ≤ v.y ∧ v.y ≤ m) : vlen v * vlen v ≤ 2 * (m * m) := by
  have e : vlen v = isqrt (v.x * v.x + v.y * v.y) := by
    have h1 := prod_bounds hm hx.1 hx.2 hx.1 hx.2
    have h2 := prod_bounds hm hy.1 hy.2 hy.1 hy.2
    have h3 := prod_bounds (m := 268435456) (by omega) (a := m) (b := m) (by omega) hm' (by omega) hm'
    unfold vlen vdist2
    have h0 : sat 0 = 0 := rfl
    rw [h0, Int.sub_zero, Int.sub_zero, sat_id (x := v.x) (by omega) (by omega), sat_id (x := v.y) (by omega) (by omega), w64_id (n := v.x) (by omega) (by omega), w64_id (n := v.y) (by omega) (by omega),
      w64_id (n := v.x * v.x) (by omega) (by omega), w64_id (n := v.y * v.y) (by omega) (by omega), w64_id (by omega) (by omega)]
  have h1 := prod_bounds hm hx.1 hx.2 hx.1 hx.2
  have h2 := prod_bounds hm hy.1 hy.2 hy.1 hy.2
  have h3 := prod_bounds (m := 268435456) (by omega) (a := m) (b := m) (by omega) hm' (by omega) hm'
  have h4 := sq_nn v.x
  have h5 := sq_nn v.y
  have := (isqrt_spec (n := v.x * v.x + v.y * v.y) (by omega) (by omega)).2.1
  rw [e]; omega
theorem edge_bounds {l : List Vec} (h : cvx l = true) {i : Nat} (hi : i < l.length) : 0 ≤ edge l i ∧ edge l i ≤ 536870911 := by
  have hr := cvx_rch h
  have hl := cvx_len h
  have hn := nxt_ok hi (by simp only [maxLen]; omega)
  have a := (inRch_iff _).1 (allRch_get hr i hi)
  have b := (inRch_iff _).1 (allRch_get hr (nxt l i).toNat (by omega))
  unfold edge
  refine ⟨vlen_nn _, ?_⟩
  have hs : ∀ x y : Int, -1048576 ≤ x → x ≤ 1048576 → -1048576 ≤ y → y ≤ 1048576 → -2097152 ≤ sub x y ∧ sub x y ≤ 2097152 := fun x y h1 h2 h3 h4 => by
    unfold sub
    rw [sat_id (x := x) (by omega) (by omega), sat_id (x := y) (by omega) (by omega), sat_id (by omega) (by omega)]; omega
  have := vlen_small (v := vsub (l.getD (nxt l i).toNat ⟨0, 0⟩) (l.getD i ⟨0, 0⟩)) (m := 2097152) (by omega) (by omega) (hs _ _ b.1.1 b.1.2 a.1.1 a.1.2) (hs _ _ b.2.1 b.2.2 a.2.1 a.2.2)
  have h0 := vlen_nn (vsub (l.getD (nxt l i).toNat ⟨0, 0⟩) (l.getD i ⟨0, 0⟩))
  generalize vlen (vsub (l.getD (nxt l i).toNat ⟨0, 0⟩) (l.getD i ⟨0, 0⟩)) = z at this h0 ⊢
  by_cases hz : z ≤ 536870911
  · exact hz
  · have h9 : (536870912 : Int) * 536870912 ≤ z * z := Int.mul_le_mul (by omega) (by omega) (by omega) (by omega)
    exact absurd (Int.le_trans h9 this) (by decide)
theorem short_eq (l : List Vec) : shortR l = shortP l := by
  unfold shortR shortP
  cases h : cvx l with
  | false => rfl
  | true =>
    show seR l = seP l
    have e0 : seR l = foldN (fun i s => bif orr (decide (s < 0)) (decide (edge l i < s)) then edge l i else s) l.length 0 (-1) := by
      unfold seR; simp only [edgeR_eq]
    rw [e0]
    have hl := cvx_len h
    unfold seP
    obtain ⟨k, hk⟩ : ∃ k, l.length = k + 1 := ⟨l.length - 1, by omega⟩
    have hb : ∀ i, i < k + 1 → 0 ≤ edge l i ∧ edge l i ≤ 536870911 := fun i hi => edge_bounds h (by omega)
    rw [hk]
    simp only [foldN]
    have h0 := hb 0 (by omega)
    rw [show (decide ((-1 : Int) < 0)) = true from rfl]
    have e : (if edge l 0 < 536870911 then edge l 0 else 536870911) = edge l 0 := by split <;> omega
    rw [e]
    show foldN _ k 1 (edge l 0) = _
    have key : ∀ (k' i : Nat) (s : Int), i + k' ≤ k + 1 → 0 ≤ s → foldN (fun i s => bif orr (decide (s < 0)) (decide (edge l i < s)) then edge l i else s) k' i s = foldN (fun i s => if edge l i < s then edge l i else s) k' i s := by
      intro k'
      induction k' with
      | zero => intros; rfl
      | succ k' ih =>
        intro i s hi hs
        simp only [foldN]
        have h1 := hb i (by omega)
        have e2 : (bif orr (decide (s < 0)) (decide (edge l i < s)) then edge l i else s) = if edge l i < s then edge l i else s := by
          rw [decide_eq_false (by omega : ¬ s < 0)]
          simp only [orr, cond_false, Bool.cond_decide]
        rw [e2]
        exact ih (i + 1) _ (by omega) (by split <;> omega)
    exact key k 1 _ (by omega) h0.1
end Go.Fx
