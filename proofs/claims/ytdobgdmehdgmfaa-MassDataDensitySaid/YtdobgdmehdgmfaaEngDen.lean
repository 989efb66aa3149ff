/- THE ENGINE, PART 18: a larger density gives no smaller mass. -/
import Derived.Test.YtdobgdmehdgmfaaEngGeo
namespace Go.Fx
open Go.Eng
/-! ### a convex polygon of the program -/
def pv (l : List Vec) (k : Nat) : Vec := l.getD (k % l.length) ⟨0, 0⟩
def Boxed (z : Vec) : Prop := (-1048576 ≤ z.x ∧ z.x ≤ 1048576) ∧ (-1048576 ≤ z.y ∧ z.y ≤ 1048576)
theorem nxt_mod {l : List Vec} {i : Nat} (hl : 3 ≤ l.length ∧ l.length ≤ 8) (h : i < l.length) : nxt l i = (((i + 1) % l.length : Nat) : Int) := by
  by_cases e : i + 1 < l.length
  · rw [nxt_lt hl.2 e, Nat.mod_eq_of_lt e]; omega
  · have e2 : l.length = i + 1 := by omega
    rw [nxt_last hl.2 e2, e2, Nat.mod_self]; rfl
theorem crs_bound {a b c : Vec} (ha : Boxed a) (hb : Boxed b) (hc : Boxed c) : -8796093022208 ≤ crs a b c ∧ crs a b c ≤ 8796093022208 := by
  unfold crs
  have h1 := prod_bounds (m := 2097152) (a := b.x - a.x) (b := c.y - a.y) (by omega) (by have := ha.1; have := hb.1; omega) (by have := ha.1; have := hb.1; omega) (by have := ha.2; have := hc.2; omega) (by have := ha.2; have := hc.2; omega)
  have h2 := prod_bounds (m := 2097152) (a := b.y - a.y) (b := c.x - a.x) (by omega) (by have := ha.2; have := hb.2; omega) (by have := ha.2; have := hb.2; omega) (by have := ha.1; have := hc.1; omega) (by have := ha.1; have := hc.1; omega)
  omega
theorem crs_w64 {a b c : Vec} (ha : Boxed a) (hb : Boxed b) (hc : Boxed c) : w64 (w64 (w64 (b.x - a.x) * w64 (c.y - a.y)) - w64 (w64 (b.y - a.y) * w64 (c.x - a.x))) = crs a b c := by
  have h1 := prod_bounds (m := 2097152) (a := b.x - a.x) (b := c.y - a.y) (by omega) (by have := ha.1; have := hb.1; omega) (by have := ha.1; have := hb.1; omega) (by have := ha.2; have := hc.2; omega) (by have := ha.2; have := hc.2; omega)
  have h2 := prod_bounds (m := 2097152) (a := b.y - a.y) (b := c.x - a.x) (by omega) (by have := ha.2; have := hb.2; omega) (by have := ha.2; have := hb.2; omega) (by have := ha.1; have := hc.1; omega) (by have := ha.1; have := hc.1; omega)
  obtain ⟨ha1, ha2⟩ := ha; obtain ⟨hb1, hb2⟩ := hb; obtain ⟨hc1, hc2⟩ := hc
  rw [w64_id (n := b.x - a.x) (by omega) (by omega), w64_id (n := c.y - a.y) (by omega) (by omega), w64_id (n := b.y - a.y) (by omega) (by omega), w64_id (n := c.x - a.x) (by omega) (by omega),
    w64_id (n := (b.x - a.x) * (c.y - a.y)) (by omega) (by omega), w64_id (n := (b.y - a.y) * (c.x - a.x)) (by omega) (by omega), w64_id (by omega) (by omega)]
  rfl
theorem vsat_box {a : Vec} (h : Boxed a) : vsat a = a := by
  unfold vsat
  rw [sat_id (by have := h.1; omega) (by have := h.1; omega), sat_id (by have := h.2; omega) (by have := h.2; omega)]
theorem ort_crs {a b c : Vec} (ha : Boxed a) (hb : Boxed b) (hc : Boxed c) (h : ort a b c = 1) : 0 < crs a b c := by
  have e : ortN a b c = crs a b c := by
    unfold ortN
    rw [vsat_box ha, vsat_box hb, vsat_box hc, crs_w64 ha hb hc]
  unfold ort at h
  rw [e] at h
  by_cases h1 : crs a b c > 0
  · exact h1
  · rw [decide_eq_false h1] at h
    by_cases h2 : crs a b c < 0
    · rw [decide_eq_true h2] at h; exact absurd h (by decide)
    · rw [decide_eq_false h2] at h; exact absurd h (by decide)
theorem cvx_box {l : List Vec} (h : cvx l = true) (k : Nat) : Boxed (pv l k) := by
  have hl := cvx_len h
  exact (inRch_iff _).1 (allRch_get (cvx_rch h) _ (Nat.mod_lt _ (by omega)))
theorem cvx_conv {l : List Vec} (h : cvx l = true) {i m : Nat} (hi : i < l.length) (hm : m < l.length) (h1 : m ≠ i) (h2 : m ≠ (i + 1) % l.length) : ort (l.getD i ⟨0, 0⟩) (l.getD ((i + 1) % l.length) ⟨0, 0⟩) (l.getD m ⟨0, 0⟩) = 1 := by
  have hl := cvx_len h
  have hA : cvxA l = true := by
    unfold cvx at h
    cases e : cvxBad l with
    | true => rw [e] at h; cases h
    | false => rw [e] at h; exact h
  have hE : cvxE l i (nxt l i) (l.getD i ⟨0, 0⟩) = true := by
    refine runF_isL (P := fun i => cvxE l i (nxt l i) (l.getD i ⟨0, 0⟩) = true) (fun i x ⟨y, hy⟩ => ?_) _ _ _ hA i (Nat.zero_le _) (by omega)
    cases e : cvxE l i (nxt l i) (l.getD i ⟨0, 0⟩) with
    | true => rfl
    | false => rw [e] at hy; cases hy
  have := isL_get (p := fun k => bif bif (k : Int) != i then (k : Int) != nxt l i else false then ort (l.getD i ⟨0, 0⟩) (l.getD (nxt l i).toNat ⟨0, 0⟩) (l.getD k ⟨0, 0⟩) != 1 else false) (e := fun _ => ()) hE m (Nat.zero_le _) (by omega)
  rw [nxt_mod hl hi] at this
  have e1 : ((m : Int) != i) = true := by simp; omega
  have e2 : ((m : Int) != (((i + 1) % l.length : Nat) : Int)) = true := by
    simp only [bne_iff_ne, ne_eq]
    omega
  rw [e1, e2] at this
  have this : (ort (l.getD i ⟨0, 0⟩) (l.getD ((((i + 1) % l.length : Nat) : Int)).toNat ⟨0, 0⟩) (l.getD m ⟨0, 0⟩) != 1) = false := this
  rw [Int.toNat_natCast] at this
  simpa using this
theorem cvx_poly {l : List Vec} (h : cvx l = true) : Poly (pv l) l.length := by
  have hl := cvx_len h
  refine ⟨hl.1, hl.2, fun k => by unfold pv; rw [Nat.add_mod_right], cvx_box h, fun k m h1 h2 => ?_⟩
  refine ort_crs (cvx_box h k) (cvx_box h (k + 1)) (cvx_box h m) ?_
  have := cvx_conv h (i := k % l.length) (m := m % l.length) (Nat.mod_lt _ (by omega)) (Nat.mod_lt _ (by omega)) h1 (by rw [Nat.mod_add_mod]; exact h2)
  rw [Nat.mod_add_mod] at this
  exact this
/-! ### its fan -/
theorem rdiv_2 {n : Int} (h0 : -4611686018427387904 ≤ n) (h1 : n ≤ 4611686018427387904) : n - 32768 ≤ 65536 * rdiv n 65536 ∧ 65536 * rdiv n 65536 ≤ n + 32768 := by
  have := rdiv_near (d := 65536) h0 h1 (by omega) (by omega)
  omega
theorem pv_lt (l : List Vec) {k : Nat} (h : k < l.length) : pv l k = l.getD k ⟨0, 0⟩ := by unfold pv; rw [Nat.mod_eq_of_lt h]
theorem crossR_eq {l : List Vec} (h : cvx l = true) {j : Nat} (hj : j < l.length - 2) : crossR l ((j : Int) + 1) = rdiv (crs (pv l 0) (pv l (j + 1)) (pv l (j + 2))) 65536 := by
  have hl := cvx_len h
  unfold crossR
  have e1 : ((j : Int) + 1).toNat = j + 1 := by omega
  have e2 : (w64 ((j : Int) + 1 + 1)).toNat = j + 2 := by rw [w64_id (by omega) (by omega)]; omega
  rw [e1, e2, ← pv_lt l (k := 0) (by omega), ← pv_lt l (k := j + 1) (by omega), ← pv_lt l (k := j + 2) (by omega), crs_w64 (cvx_box h _) (cvx_box h _) (cvx_box h _)]
def ccs (l : List Vec) (j : Nat) : Int := crossR l ((j : Int) + 1)
theorem ccs_bounds {l : List Vec} (h : cvx l = true) {j : Nat} (hj : j < l.length - 2) : (crs (pv l 0) (pv l (j + 1)) (pv l (j + 2)) - 32768 ≤ 65536 * ccs l j ∧ 65536 * ccs l j ≤ crs (pv l 0) (pv l (j + 1)) (pv l (j + 2)) + 32768) ∧ 0 ≤ ccs l j ∧ ccs l j ≤ 134217729 := by
  have hb := crs_bound (cvx_box h 0) (cvx_box h (j + 1)) (cvx_box h (j + 2))
  have hp := (cvx_poly h).nn (j + 1) 0
  rw [← crs_cyc] at hp
  unfold ccs
  rw [crossR_eq h hj]
  have h1 := rdiv_2 (n := crs (pv l 0) (pv l (j + 1)) (pv l (j + 2))) (by omega) (by omega)
  have h2 := rdiv_nonneg (d := 65536) hp
  exact ⟨h1, h2, by omega⟩
theorem ccs_sum {l : List Vec} (h : cvx l = true) : 0 ≤ isum (ccs l) (l.length - 2) ∧ isum (ccs l) (l.length - 2) ≤ 805306374 := by
  have hl := cvx_len h
  refine ⟨isum_nn _ fun k hk => (ccs_bounds h hk).2.1, ?_⟩
  have h1 := isum_le (f := ccs l) (g := fun _ => 134217729) (l.length - 2) fun k hk => (ccs_bounds h hk).2.2
  rw [isum_const] at h1
  have h2 : ((l.length - 2 : Nat) : Int) * 134217729 ≤ 6 * 134217729 := Int.mul_le_mul_of_nonneg_right (by omega) (by omega)
  omega
theorem fan_sum {l : List Vec} (h : cvx l = true) : (fan l).2 = isum (ccs l) (l.length - 2) := by
  rw [fan_eq]
  show foldN (fun i s => w64 (s + ccs l i)) (l.length - 2) 0 0 = _
  rw [foldN_sum0]
  have := ccs_sum h
  exact w64_id (by omega) (by omega)
theorem area_S {l : List Vec} (h : cvx l = true) (ha : 256 ≤ areaP l) : 511 ≤ isum (ccs l) (l.length - 2) := by
  unfold areaP at ha
  rw [h, fan_sum h] at ha
  have ha : 256 ≤ rdiv (isum (ccs l) (l.length - 2)) 2 := ha
  have := ccs_sum h
  have := rdiv_near (n := isum (ccs l) (l.length - 2)) (d := 2) (by omega) (by omega) (by omega) (by omega)
  omega
def fxs (l : List Vec) (j : Nat) : Int := ccs l j * ((pv l (j + 1)).x - (pv l 0).x + ((pv l (j + 2)).x - (pv l 0).x))
def fys (l : List Vec) (j : Nat) : Int := ccs l j * ((pv l (j + 1)).y - (pv l 0).y + ((pv l (j + 2)).y - (pv l 0).y))
theorem term_bound {c d : Int} (hc : 0 ≤ c) (hd : -4194304 ≤ d ∧ d ≤ 4194304) : -(4194304 * c) ≤ c * d ∧ c * d ≤ 4194304 * c := by
  have h1 := Int.mul_le_mul_of_nonneg_left hd.2 hc
  have h2 := Int.mul_le_mul_of_nonneg_left hd.1 hc
  rw [Int.mul_comm c 4194304] at h1
  rw [show c * -4194304 = -(4194304 * c) by omega] at h2
  exact ⟨h2, h1⟩
theorem sum_bound {l : List Vec} (_h : cvx l = true) {f : Nat → Int} (hf : ∀ j, j < l.length - 2 → -(4194304 * ccs l j) ≤ f j ∧ f j ≤ 4194304 * ccs l j) : -(4194304 * isum (ccs l) (l.length - 2)) ≤ isum f (l.length - 2) ∧ isum f (l.length - 2) ≤ 4194304 * isum (ccs l) (l.length - 2) := by
  have h1 := isum_le (f := f) (g := fun j => 4194304 * ccs l j) _ fun j hj => (hf j hj).2
  have h2 := isum_le (f := fun j => -4194304 * ccs l j) (g := f) _ fun j hj => by have := (hf j hj).1; omega
  rw [isum_mul] at h1 h2
  omega
theorem dx_bound {l : List Vec} (h : cvx l = true) (j : Nat) : (-4194304 ≤ (pv l (j + 1)).x - (pv l 0).x + ((pv l (j + 2)).x - (pv l 0).x) ∧ (pv l (j + 1)).x - (pv l 0).x + ((pv l (j + 2)).x - (pv l 0).x) ≤ 4194304) ∧
    (-4194304 ≤ (pv l (j + 1)).y - (pv l 0).y + ((pv l (j + 2)).y - (pv l 0).y) ∧ (pv l (j + 1)).y - (pv l 0).y + ((pv l (j + 2)).y - (pv l 0).y) ≤ 4194304) := by
  have a := cvx_box h 0; have b := cvx_box h (j + 1); have c := cvx_box h (j + 2)
  unfold Boxed at a b c
  omega
theorem cenS_eq {l : List Vec} (h : cvx l = true) : cenS l = (isum (fxs l) (l.length - 2), isum (fys l) (l.length - 2)) := by
  have hl := cvx_len h
  have hs := ccs_sum h
  have key : ∀ j, j < l.length - 2 → w64 (w64 ((tri l (org l) j).vx + (tri l (org l) j).w) * (tri l (org l) j).ii) = fxs l j ∧ w64 (w64 ((tri l (org l) j).vy + (tri l (org l) j).im) * (tri l (org l) j).ii) = fys l j := fun j hj => by
    rw [tri_ii]
    have e2 : (w64 ((j : Int) + 1 + 1)).toNat = j + 2 := by rw [w64_id (by omega) (by omega)]; omega
    have a := cvx_box h 0; have b := cvx_box h (j + 1); have c := cvx_box h (j + 2)
    have hd := dx_bound h j
    have hc := (ccs_bounds h hj).2
    have tx := term_bound hc.1 hd.1
    have ty := term_bound hc.1 hd.2
    unfold Boxed at a b c
    unfold tri org
    show w64 (w64 (w64 ((l.getD (j + 1) ⟨0, 0⟩).x - (l.getD 0 ⟨0, 0⟩).x) + w64 ((l.getD (w64 ((j : Int) + 1 + 1)).toNat ⟨0, 0⟩).x - (l.getD 0 ⟨0, 0⟩).x)) * ccs l j) = _ ∧ w64 (w64 (w64 ((l.getD (j + 1) ⟨0, 0⟩).y - (l.getD 0 ⟨0, 0⟩).y) + w64 ((l.getD (w64 ((j : Int) + 1 + 1)).toNat ⟨0, 0⟩).y - (l.getD 0 ⟨0, 0⟩).y)) * ccs l j) = _
    rw [e2, ← pv_lt l (k := 0) (by omega), ← pv_lt l (k := j + 1) (by omega), ← pv_lt l (k := j + 2) (by omega)]
    unfold fxs fys
    constructor
    · rw [w64_id (n := (pv l (j + 1)).x - (pv l 0).x) (by omega) (by omega), w64_id (n := (pv l (j + 2)).x - (pv l 0).x) (by omega) (by omega), w64_id (n := (pv l (j + 1)).x - (pv l 0).x + ((pv l (j + 2)).x - (pv l 0).x)) (by omega) (by omega), Int.mul_comm, w64_id (by omega) (by omega)]
    · rw [w64_id (n := (pv l (j + 1)).y - (pv l 0).y) (by omega) (by omega), w64_id (n := (pv l (j + 2)).y - (pv l 0).y) (by omega) (by omega), w64_id (n := (pv l (j + 1)).y - (pv l 0).y + ((pv l (j + 2)).y - (pv l 0).y)) (by omega) (by omega), Int.mul_comm, w64_id (by omega) (by omega)]
  unfold cenS
  rw [fan_len, foldN_congr (g := fun i (x : Int × Int) => (w64 (x.1 + fxs l i), w64 (x.2 + fys l i))) _ _ _ fun j x _ hj => by
    rw [fan_get l (by omega)]
    unfold cenX cenY
    rw [(key j (by omega)).1, (key j (by omega)).2]]
  have h1 := foldN_map (f := fun i (x : Int × Int) => (w64 (x.1 + fxs l i), w64 (x.2 + fys l i))) (g := fun i x => w64 (x + fxs l i)) (fun x : Int × Int => x.1) (l.length - 2) 0 (0, 0) (fun _ _ _ _ => rfl)
  have h2 := foldN_map (f := fun i (x : Int × Int) => (w64 (x.1 + fxs l i), w64 (x.2 + fys l i))) (g := fun i x => w64 (x + fys l i)) (fun x : Int × Int => x.2) (l.length - 2) 0 (0, 0) (fun _ _ _ _ => rfl)
  have b1 := sum_bound h (f := fxs l) fun j hj => term_bound (ccs_bounds h hj).2.1 (dx_bound h j).1
  have b2 := sum_bound h (f := fys l) fun j hj => term_bound (ccs_bounds h hj).2.1 (dx_bound h j).2
  refine Prod.ext ?_ ?_
  · rw [h1, foldN_sum0, w64_id (by omega) (by omega)]
  · rw [h2, foldN_sum0, w64_id (by omega) (by omega)]
theorem quot_small {S q X : Int} (hS : 511 ≤ S) (hX : -(4194304 * S) ≤ X ∧ X ≤ 4194304 * S) (h : -(3 * S) ≤ 2 * (3 * S * q - X) ∧ 2 * (3 * S * q - X) ≤ 3 * S) : -1398102 ≤ q ∧ q ≤ 1398102 := by
  constructor
  · by_cases hq : -1398102 ≤ q
    · exact hq
    · have h1 : S * q ≤ S * (-1398103) := Int.mul_le_mul_of_nonneg_left (by omega) (by omega)
      rw [Int.mul_assoc] at h
      omega
  · by_cases hq : q ≤ 1398102
    · exact hq
    · have h1 : S * 1398103 ≤ S * q := Int.mul_le_mul_of_nonneg_left (by omega) (by omega)
      rw [Int.mul_assoc] at h
      omega
/-- The centroid, and where it lies. -/
theorem cen_in {l : List Vec} (h : cvx l = true) (ha : 256 ≤ areaP l) : (∀ i, 0 ≤ crs (pv l i) (pv l (i + 1)) (cen l)) ∧ (-2446678 ≤ (cen l).x ∧ (cen l).x ≤ 2446678) ∧ (-2446678 ≤ (cen l).y ∧ (cen l).y ≤ 2446678) := by
  have hl := cvx_len h
  have hS := area_S h ha
  have hs := ccs_sum h
  have b1 := sum_bound h (f := fxs l) fun j hj => term_bound (ccs_bounds h hj).2.1 (dx_bound h j).1
  have b2 := sum_bound h (f := fys l) fun j hj => term_bound (ccs_bounds h hj).2.1 (dx_bound h j).2
  have n1 := rdiv_near (n := isum (fxs l) (l.length - 2)) (d := 3 * isum (ccs l) (l.length - 2)) (by omega) (by omega) (by omega) (by omega)
  have n2 := rdiv_near (n := isum (fys l) (l.length - 2)) (d := 3 * isum (ccs l) (l.length - 2)) (by omega) (by omega) (by omega) (by omega)
  have q1 := quot_small hS b1 (q := rdiv (isum (fxs l) (l.length - 2)) (3 * isum (ccs l) (l.length - 2))) ⟨by omega, by omega⟩
  have q2 := quot_small hS b2 (q := rdiv (isum (fys l) (l.length - 2)) (3 * isum (ccs l) (l.length - 2))) ⟨by omega, by omega⟩
  have box := cvx_box h 0
  unfold Boxed at box
  have hne : (isum (ccs l) (l.length - 2) == 0) = false := by simp; omega
  have e : cen l = ⟨(pv l 0).x + rdiv (isum (fxs l) (l.length - 2)) (3 * isum (ccs l) (l.length - 2)), (pv l 0).y + rdiv (isum (fys l) (l.length - 2)) (3 * isum (ccs l) (l.length - 2))⟩ := by
    unfold cen cenOf org
    rw [h, fan_sum h, cenS_eq h, hne, w64_id (n := 3 * isum (ccs l) (l.length - 2)) (by omega) (by omega), ← pv_lt l (k := 0) (by omega)]
    show (⟨w64 _, w64 _⟩ : Vec) = _
    dsimp only
    rw [w64_id (n := (pv l 0).x + _) (by omega) (by omega), w64_id (n := (pv l 0).y + _) (by omega) (by omega)]
  rw [e]
  refine ⟨fun i => ?_, by show _ ≤ (pv l 0).x + _ ∧ (pv l 0).x + _ ≤ _; omega, by show _ ≤ (pv l 0).y + _ ∧ (pv l 0).y + _ ≤ _; omega⟩
  exact (cvx_poly h).centroid (ccs l) (fun j hj => (ccs_bounds h hj).1) hS _ _ ⟨by show _ ≤ 2 * (_ - isum (fxs l) _); omega, by show 2 * (_ - isum (fxs l) _) ≤ _; omega⟩ ⟨by show _ ≤ 2 * (_ - isum (fys l) _); omega, by show 2 * (_ - isum (fys l) _) ≤ _; omega⟩ i
/-! ### its inertia -/
theorem rdiv_up {R : Int} (h0 : 0 ≤ R) (h1 : R ≤ 4611686018427387904) : 2 * R + 2 ≤ 131072 * rdiv R 65536 + 65536 ∨ 131072 * rdiv R 65536 = 2 * R + 65536 ∨ 2 * R + 1 ≤ 131072 * rdiv R 65536 + 65536 := by
  right; right
  rw [rdiv_nn h0 h1 (by omega) (by omega)]
  unfold rnat
  split <;> omega
theorem rdiv_up' {R : Int} (h0 : 0 ≤ R) (h1 : R ≤ 4611686018427387904) : 2 * R + 1 ≤ 131072 * rdiv R 65536 + 65536 := by
  rw [rdiv_nn h0 h1 (by omega) (by omega)]
  unfold rnat
  split <;> omega
/-- Three rounded products that cannot come below zero. -/
theorem dots_nn {R1 R2 R3 : Int} (h1 : 0 ≤ R1) (h3 : 0 ≤ R3) (h : 0 ≤ R1 + 2 * R2 + R3) (b1 : R1 ≤ 4611686018427387904) (b2 : -4611686018427387904 ≤ R2 ∧ R2 ≤ 4611686018427387904) (b3 : R3 ≤ 4611686018427387904) : 0 ≤ rdiv R1 65536 + rdiv R2 65536 + rdiv R3 65536 := by
  have e1 := rdiv_up' h1 b1; have e3 := rdiv_up' h3 b3
  have e2 := rdiv_near (n := R2) (d := 65536) b2.1 b2.2 (by omega) (by omega)
  have n1 := rdiv_nonneg (d := 65536) h1; have n3 := rdiv_nonneg (d := 65536) h3
  omega
def Near (z : Vec) : Prop := (-3495254 ≤ z.x ∧ z.x ≤ 3495254) ∧ (-3495254 ≤ z.y ∧ z.y ≤ 3495254)
theorem prod_near {n : Int} (h0 : -24433600991232 ≤ n) (h1 : n ≤ 24433600991232) : prod n = rdiv n 65536 ∧ -372828003 ≤ rdiv n 65536 ∧ rdiv n 65536 ≤ 372828003 := by
  have := rdiv_2 (n := n) (by omega) (by omega)
  unfold prod
  rw [sat_id (by omega) (by omega)]
  omega
theorem near_prod {a b : Int} (ha : -3495254 ≤ a ∧ a ≤ 3495254) (hb : -3495254 ≤ b ∧ b ≤ 3495254) : -12216800524516 ≤ a * b ∧ a * b ≤ 12216800524516 := by
  have := prod_bounds (m := 3495254) (by omega) ha.1 ha.2 hb.1 hb.2
  omega
theorem near_dot {u v : Vec} (hu : Near u) (hv : Near v) : vdot u v = rdiv (u.x * v.x + u.y * v.y) 65536 ∧ (-372828003 ≤ vdot u v ∧ vdot u v ≤ 372828003) ∧ (-24433601049032 ≤ u.x * v.x + u.y * v.y ∧ u.x * v.x + u.y * v.y ≤ 24433601049032) := by
  have h1 := near_prod hu.1 hv.1; have h2 := near_prod hu.2 hv.2
  unfold Near at hu hv
  unfold vdot
  rw [sat_id (x := u.x) (by omega) (by omega), sat_id (x := u.y) (by omega) (by omega), sat_id (x := v.x) (by omega) (by omega), sat_id (x := v.y) (by omega) (by omega), w64_id (n := u.x * v.x) (by omega) (by omega), w64_id (n := u.y * v.y) (by omega) (by omega), w64_id (by omega) (by omega)]
  have := rdiv_2 (n := u.x * v.x + u.y * v.y) (by omega) (by omega)
  unfold prod
  rw [sat_id (by omega) (by omega)]
  omega
theorem near_cross {u v : Vec} (hu : Near u) (hv : Near v) : vcross u v = rdiv (u.x * v.y - u.y * v.x) 65536 ∧ -372828003 ≤ vcross u v ∧ vcross u v ≤ 372828003 := by
  have h1 := near_prod hu.1 hv.2; have h2 := near_prod hu.2 hv.1
  unfold Near at hu hv
  unfold vcross
  rw [sat_id (x := u.x) (by omega) (by omega), sat_id (x := u.y) (by omega) (by omega), sat_id (x := v.x) (by omega) (by omega), sat_id (x := v.y) (by omega) (by omega), w64_id (n := u.x * v.y) (by omega) (by omega), w64_id (n := u.y * v.x) (by omega) (by omega), w64_id (by omega) (by omega)]
  have := rdiv_2 (n := u.x * v.y - u.y * v.x) (by omega) (by omega)
  unfold prod
  rw [sat_id (by omega) (by omega)]
  omega
theorem ptm_nn {u v : Vec} (hu : Near u) (hv : Near v) (hc : 0 ≤ u.x * v.y - u.y * v.x) : 0 ≤ ptm u v ∧ ptm u v ≤ 417002160000000000 := by
  have d1 := near_dot hu hu; have d2 := near_dot hu hv; have d3 := near_dot hv hv
  have c := near_cross hu hv
  have hk : 0 ≤ vcross u v := by rw [c.1]; exact rdiv_nonneg hc
  have hQ : 0 ≤ vdot u u + vdot u v + vdot v v := by
    rw [d1.1, d2.1, d3.1]
    have s1 := sq_nn u.x; have s2 := sq_nn u.y; have s3 := sq_nn v.x; have s4 := sq_nn v.y
    have s5 := sq_nn (u.x + v.x); have s6 := sq_nn (u.y + v.y)
    have e5 : (u.x + v.x) * (u.x + v.x) = u.x * u.x + 2 * (u.x * v.x) + v.x * v.x := by grind
    have e6 : (u.y + v.y) * (u.y + v.y) = u.y * u.y + 2 * (u.y * v.y) + v.y * v.y := by grind
    exact dots_nn (by omega) (by omega) (by omega) (by omega) ⟨by omega, by omega⟩ (by omega)
  unfold ptm
  rw [w64_id (n := vdot u u + vdot u v) (by omega) (by omega), w64_id (n := vdot u u + vdot u v + vdot v v) (by omega) (by omega)]
  have h1 := Int.mul_nonneg hk hQ
  have h2 : vcross u v * (vdot u u + vdot u v + vdot v v) ≤ 372828003 * 1118484009 := Int.mul_le_mul (by omega) (by omega) hQ (by omega)
  rw [w64_id (by omega) (by omega)]
  omega
theorem vAt_near {l : List Vec} (h : cvx l = true) (ha : 256 ≤ areaP l) (i : Nat) (hi : i < l.length) : Near (vAt l (cen l) i) ∧ (vAt l (cen l) i).x = (pv l i).x - (cen l).x ∧ (vAt l (cen l) i).y = (pv l i).y - (cen l).y := by
  have hc := (cen_in h ha).2
  have hb := cvx_box h i
  rw [pv_lt l hi] at hb ⊢
  unfold Boxed at hb
  unfold vAt vsub sub Near
  dsimp only
  rw [sat_id (x := (l.getD i ⟨0, 0⟩).x) (by omega) (by omega), sat_id (x := (cen l).x) (by omega) (by omega), sat_id (x := (l.getD i ⟨0, 0⟩).y) (by omega) (by omega), sat_id (x := (cen l).y) (by omega) (by omega)] 
  rw [sat_id (x := (l.getD i ⟨0, 0⟩).x - (cen l).x) (by omega) (by omega), sat_id (x := (l.getD i ⟨0, 0⟩).y - (cen l).y) (by omega) (by omega)]
  exact ⟨⟨⟨by omega, by omega⟩, by omega, by omega⟩, rfl, rfl⟩
theorem pint_nn {l : List Vec} (h : cvx l = true) (ha : 256 ≤ areaP l) : 0 ≤ (pint l (cen l)).1 := by
  have hl := cvx_len h
  rw [pint_eq]
  show 0 ≤ foldN (fun i x => w64 (x + ptm (uAt l (cen l) i) (vAt l (cen l) i))) l.length 0 0
  rw [foldN_sum0]
  have key : ∀ i, i < l.length → 0 ≤ ptm (uAt l (cen l) i) (vAt l (cen l) i) ∧ ptm (uAt l (cen l) i) (vAt l (cen l) i) ≤ 417002160000000000 := fun i hi => by
    have hv := vAt_near h ha i hi
    obtain ⟨j, hj, eu, ei⟩ : ∃ j, j < l.length ∧ uAt l (cen l) i = vAt l (cen l) j ∧ pv l (j + 1) = pv l i := by
      cases i with
      | zero =>
        have e : plast l = l.length - 1 := by unfold plast; rw [w64_id (by omega) (by omega)]; omega
        exact ⟨l.length - 1, by omega, by show vAt l (cen l) (plast l) = _; rw [e], by rw [show l.length - 1 + 1 = 0 + l.length by omega, (cvx_poly h).per]⟩
      | succ i => exact ⟨i, by omega, rfl, rfl⟩
    have hu := vAt_near h ha j hj
    rw [eu]
    refine ptm_nn hu.1 hv.1 ?_
    have hc := (cen_in h ha).1 j
    rw [ei] at hc
    rw [hu.2.1, hu.2.2, hv.2.1, hv.2.2]
    have e : ((pv l j).x - (cen l).x) * ((pv l i).y - (cen l).y) - ((pv l j).y - (cen l).y) * ((pv l i).x - (cen l).x) = crs (pv l j) (pv l i) (cen l) := by unfold crs; grind
    rw [e]; exact hc
  have h1 := isum_nn (f := fun i => ptm (uAt l (cen l) i) (vAt l (cen l) i)) l.length fun k hk => (key k hk).1
  have h2 := isum_le (f := fun i => ptm (uAt l (cen l) i) (vAt l (cen l) i)) (g := fun _ => 417002160000000000) l.length fun k hk => (key k hk).2
  rw [isum_const] at h2
  have h3 : (l.length : Int) * 417002160000000000 ≤ 8 * 417002160000000000 := Int.mul_le_mul_of_nonneg_right (by omega) (by omega)
  rw [w64_id (by omega) (by omega)]
  exact h1
/-! ### masses -/
theorem mul_nn {a b : Int} (ha : 0 ≤ a) (hb : 0 ≤ b) : 0 ≤ mul a b := by
  unfold mul
  exact sat_nn (rdiv_nonneg (Int.mul_nonneg (sat_nn ha) (sat_nn hb)))
theorem add_nn {a b : Int} (ha : 0 ≤ a) (hb : 0 ≤ b) : 0 ≤ add a b := by
  unfold add
  have := sat_nn ha; have := sat_nn hb
  exact sat_nn (by omega)
theorem sat_mono {a b : Int} (h : a ≤ b) : sat a ≤ sat b := by
  unfold sat
  repeat' split
  all_goals omega
theorem rdiv_mono {a b : Int} (h0 : 0 ≤ a) (h : a ≤ b) (h1 : b ≤ 4611686018427387904) : rdiv a 65536 ≤ rdiv b 65536 := by
  rw [rdiv_nn h0 (by omega) (by omega) (by omega), rdiv_nn (by omega) h1 (by omega) (by omega)]
  unfold rnat
  split <;> split <;> omega
theorem mul_mono_r {a b b' : Int} (ha : 0 ≤ a) (hb : 0 ≤ b) (h : b ≤ b') : mul a b ≤ mul a b' := by
  unfold mul
  have h1 := sat_nn ha; have h2 := sat_nn hb
  have := sat_mul a b'
  exact sat_mono (rdiv_mono (Int.mul_nonneg h1 h2) (Int.mul_le_mul_of_nonneg_left (sat_mono h) h1) (by omega))
theorem mul_comm' (a b : Int) : mul a b = mul b a := by unfold mul; rw [Int.mul_comm]
theorem mul_mono_l {a a' b : Int} (ha : 0 ≤ a) (hb : 0 ≤ b) (h : a ≤ a') : mul a b ≤ mul a' b := by
  rw [mul_comm' a, mul_comm' a']; exact mul_mono_r hb ha h
structure DenOk (x y : Md) : Prop where
  m0 : 0 ≤ x.m
  mm : x.m ≤ y.m
  i0 : 0 ≤ x.i
  ii : x.i ≤ y.i
  cx : x.cx = y.cx
  cy : x.cy = y.cy
theorem den_area {s : Shp} (ok : ShOk s) (h3 : s.kind = 3) : cvx s.vs = true ∧ 256 ≤ areaP s.vs := by
  have ht := ok.tail
  unfold stail at ht
  rw [h3] at ht
  have ht : (bif orr (orr (!cvx s.vs) (decide (shortP s.vs < 4096))) (decide (areaP s.vs < 256)) then (12 : Int) else 0) = 0 := ht
  cases e : orr (orr (!cvx s.vs) (decide (shortP s.vs < 4096))) (decide (areaP s.vs < 256)) with
  | true => rw [e] at ht; exact absurd ht (by decide)
  | false =>
    obtain ⟨e1, e2⟩ := of_orr e
    obtain ⟨e3, _⟩ := of_orr e1
    exact ⟨by simpa using e3, by have := of_decide_eq_false e2; omega⟩
theorem den_ok (s : Shp) {a b : Int} (h0 : 0 ≤ a) (h1 : a ≤ b) (h2 : b ≤ 262144) : DenOk (ofSh s a) (ofSh s b) := by
  unfold ofSh ofG
  have eb : ∀ d, 0 ≤ d → d ≤ 262144 → ofBad shErr s d = (shErr s != 0) := fun d h3 h4 => by
    unfold ofBad
    rw [decide_eq_false (by omega), decide_eq_false (by omega)]
    cases (shErr s != 0) <;> rfl
  rw [eb a h0 (by omega), eb b (by omega) h2]
  cases hs : (shErr s != 0) with
  | true => exact ⟨Int.le_refl _, Int.le_refl _, Int.le_refl _, Int.le_refl _, rfl, rfl⟩
  | false =>
    have ok : ShOk s := sh_ok (by simpa using hs)
    cases k1 : (s.kind == 1) with
    | true =>
      have hk := eq_of_beq k1
      have hr := ok.r12 (by omega)
      have hq := mul_nn (a := s.radius) (b := s.radius) (by omega) (by omega)
      have hD := mul_nn (a := 205888) (by omega) hq
      have hm := mul_mono_r (a := mul 205888 (mul s.radius s.radius)) hD h0 h1
      have hn := mul_nn hD h0
      exact ⟨hn, hm, mul_nn hn (rdiv_nonneg hq), mul_mono_l hn (rdiv_nonneg hq) hm, rfl, rfl⟩
    | false =>
      cases k2 : (s.kind == 2) with
      | true =>
        have hk := eq_of_beq k2
        have hr := ok.r12 (by omega)
        have hq := mul_nn (a := s.radius) (b := s.radius) (by omega) (by omega)
        have hl := vlen_nn (vsub (Shp.v s 1) (Shp.v s 0))
        have hA := add_nn (mul_nn (a := 205888) (by omega) hq) (mul_nn (add_nn (a := s.radius) (b := s.radius) (by omega) (by omega)) hl)
        have hU := add_nn (rdiv_nonneg (d := 2) hq) (rdiv_nonneg (d := 12) (mul_nn hl hl))
        have hm := mul_mono_r hA h0 h1
        have hn := mul_nn hA h0
        exact ⟨hn, hm, mul_nn hn hU, mul_mono_l hn hU hm, rfl, rfl⟩
      | false =>
        have k1 := ne_of_beq_false k1; have k2 := ne_of_beq_false k2
        have hk : s.kind = 3 := by have := ok.kind; omega
        obtain ⟨hc, ha⟩ := den_area ok hk
        have hm := mul_mono_r (a := areaP s.vs) (by omega) h0 h1
        have hn := mul_nn (a := areaP s.vs) (by omega) h0
        have hU := rdiv_nonneg (d := 6) (rdiv_nonneg (d := (pint s.vs (cen s.vs)).2.1) (pint_nn hc ha))
        refine ⟨hn, hm, ?_, ?_, rfl, rfl⟩
        · show 0 ≤ polI _ _ _
          unfold polI
          cases decide ((pint s.vs (cen s.vs)).2.1 < 1)
          · exact mul_nn hn hU
          · exact Int.le_refl _
        · show polI _ _ _ ≤ polI _ _ _
          unfold polI
          cases decide ((pint s.vs (cen s.vs)).2.1 < 1)
          · exact mul_mono_l hn hU hm
          · exact Int.le_refl _
def denU (ofs : Shp → Int → Md) (s : Shp) (a b : Int) : Bool :=
  bif orr (orr (orr (decide ((s.vs.length : Int) > 20)) (decide (a < 0))) (decide (b < a))) (decide (b > 262144)) then true
  else an (an (an (an (an (decide ((ofs s a).m ≥ 0)) (decide ((ofs s a).m ≤ (ofs s b).m))) (decide ((ofs s a).i ≥ 0))) (decide ((ofs s a).i ≤ (ofs s b).i))) ((ofs s a).cx == (ofs s b).cx && ((ofs s a).cy == (ofs s b).cy && true))) true
theorem den_true (s : Shp) (a b : Int) : denU ofSh s a b = true := by
  unfold denU
  cases h : orr (orr (orr (decide ((s.vs.length : Int) > 20)) (decide (a < 0))) (decide (b < a))) (decide (b > 262144)) with
  | true => rfl
  | false =>
    obtain ⟨h, h4⟩ := of_orr h
    obtain ⟨h, h3⟩ := of_orr h
    obtain ⟨_, h2⟩ := of_orr h
    have h2 := of_decide_eq_false h2; have h3 := of_decide_eq_false h3; have h4 := of_decide_eq_false h4
    have ok := den_ok s (a := a) (b := b) (by omega) (by omega) (by omega)
    exact an_true (an_true (an_true (an_true (an_true (decide_eq_true ok.m0) (decide_eq_true ok.mm)) (decide_eq_true ok.i0)) (decide_eq_true ok.ii)) (by rw [ok.cx, ok.cy]; simp)) rfl
end Go.Fx
