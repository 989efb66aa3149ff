/- THE ENGINE, PART 17: a convex polygon's centroid, rounded, lies inside. -/
import Derived.Test.YtdobgdmehdgmfaaEngMd
namespace Go.Fx
open Go.Eng
/-! ### sums -/
theorem isum_add (f g : Nat → Int) : ∀ n, isum (fun k => f k + g k) n = isum f n + isum g n
  | 0 => rfl
  | n + 1 => by simp only [isum]; rw [isum_add f g n]; omega
theorem isum_sub (f g : Nat → Int) : ∀ n, isum (fun k => f k - g k) n = isum f n - isum g n
  | 0 => rfl
  | n + 1 => by simp only [isum]; rw [isum_sub f g n]; omega
theorem isum_mul (c : Int) (f : Nat → Int) : ∀ n, isum (fun k => c * f k) n = c * isum f n
  | 0 => by simp [isum]
  | n + 1 => by simp only [isum]; rw [isum_mul c f n, Int.mul_add]
theorem isum_le {f g : Nat → Int} : ∀ n, (∀ k, k < n → f k ≤ g k) → isum f n ≤ isum g n
  | 0, _ => Int.le_refl _
  | n + 1, h => by
    have h1 := isum_le n fun k hk => h k (by omega)
    have h2 := h n (by omega)
    simp only [isum]; omega
theorem isum_nn {f : Nat → Int} : ∀ n, (∀ k, k < n → 0 ≤ f k) → 0 ≤ isum f n
  | 0, _ => Int.le_refl _
  | n + 1, h => by
    have h1 := isum_nn n fun k hk => h k (by omega)
    have h2 := h n (by omega)
    simp only [isum]; omega
theorem isum_tel (g : Nat → Int) : ∀ n, isum (fun k => g (k + 1) - g k) n = g n - g 0
  | 0 => by simp [isum]
  | n + 1 => by simp only [isum]; rw [isum_tel g n]; omega
theorem isum_const (c : Int) : ∀ n, isum (fun _ => c) n = n * c
  | 0 => by simp [isum]
  | n + 1 => by simp only [isum]; rw [isum_const c n]; rw [Int.natCast_add, Int.add_mul]; omega
theorem isum_rot {h : Nat → Int} {n : Nat} (hp : ∀ k, h (k + n) = h k) : ∀ r, isum (fun k => h (r + k)) n = isum h n
  | 0 => by simp only [Nat.zero_add]
  | r + 1 => by
    have e1 : isum (fun k => h (r + k)) (n + 1) = h (r + 0) + isum (fun j => h (r + (j + 1))) n := isum_shift (fun k => h (r + k)) n
    have e2 : isum (fun k => h (r + k)) (n + 1) = isum (fun k => h (r + k)) n + h (r + n) := rfl
    have e3 : (fun k => h (r + 1 + k)) = (fun j => h (r + (j + 1))) := by funext k; rw [show r + 1 + k = r + (k + 1) by omega]
    have e4 := hp r
    rw [e3, ← isum_rot hp r]
    rw [show h (r + 0) = h r from rfl] at e1
    exact Int.add_left_cancel (a := h r) (by rw [← e1, e2, e4, Int.add_comm])

/-! ### four points -/
def crs (a b c : Vec) : Int := (b.x - a.x) * (c.y - a.y) - (b.y - a.y) * (c.x - a.x)
theorem crs_cyc (a b c : Vec) : crs a b c = crs b c a := by unfold crs; grind
theorem crs_same (a b : Vec) : crs a a b = 0 := by unfold crs; grind
theorem crs_same' (a b : Vec) : crs a b a = 0 := by unfold crs; grind
theorem crs_same'' (a b : Vec) : crs a b b = 0 := by unfold crs; grind
theorem id_area (q q' p p' : Vec) : crs q p p' - crs q' p p' = crs q q' p' - crs q q' p := by unfold crs; grind
theorem id_fan (a b q q' p p' : Vec) : crs q p p' * (crs a b q + crs a b p + crs a b p') - crs q' p p' * (crs a b q' + crs a b p + crs a b p') =
    crs q q' p' * (crs a b q + crs a b q' + crs a b p') - crs q q' p * (crs a b q + crs a b q' + crs a b p) := by unfold crs; grind
def dd (s t : Int) (z : Vec) : Int := s * z.x + t * z.y
theorem id_d (a b q p p' : Vec) (s t : Int) : (s * (b.x - a.x) + t * (b.y - a.y)) * crs q p p' =
    (dd s t p + dd s t p') * (crs a b p' - crs a b p) + ((crs a b q * dd s t p' - dd s t q * crs a b p' - dd s t p' * crs a b p') - (crs a b q * dd s t p - dd s t q * crs a b p - dd s t p * crs a b p)) := by unfold crs dd; grind
theorem id_cone (a b p c s z : Vec) : crs p c s * (crs a b z - crs a b c) = crs p c z * (crs a b s - crs a b c) + crs c s z * (crs a b p - crs a b c) := by unfold crs; grind

/-- A convex polygon in the box of shapes, its vertices numbered round and round. -/
structure Poly (p : Nat → Vec) (n : Nat) : Prop where
  n3 : 3 ≤ n
  n8 : n ≤ 8
  per : ∀ k, p (k + n) = p k
  box : ∀ k, (-1048576 ≤ (p k).x ∧ (p k).x ≤ 1048576) ∧ (-1048576 ≤ (p k).y ∧ (p k).y ≤ 1048576)
  conv : ∀ k m, m % n ≠ k % n → m % n ≠ (k + 1) % n → 0 < crs (p k) (p (k + 1)) (p m)

section
variable {p : Nat → Vec} {n : Nat}
theorem per_mul (h : ∀ k, p (k + n) = p k) (r : Nat) : ∀ t, p (r + n * t) = p r
  | 0 => by simp
  | t + 1 => by rw [show r + n * (t + 1) = (r + n * t) + n by rw [Nat.mul_succ]; omega, h, per_mul h r t]
theorem per_mod (h : ∀ k, p (k + n) = p k) (k : Nat) : p k = p (k % n) := by
  have h1 := per_mul h (k % n) (k / n)
  rw [Nat.mod_add_div] at h1
  exact h1
theorem Poly.nn (h : Poly p n) (k m : Nat) : 0 ≤ crs (p k) (p (k + 1)) (p m) := by
  by_cases h1 : m % n = k % n
  · rw [show p m = p k by rw [per_mod h.per m, per_mod h.per k, h1], crs_same']; exact Int.le_refl _
  · by_cases h2 : m % n = (k + 1) % n
    · rw [show p m = p (k + 1) by rw [per_mod h.per m, per_mod h.per (k + 1), h2], crs_same'']; exact Int.le_refl _
    · exact Int.le_of_lt (h.conv k m h1 h2)

/-- Twice the area, seen from a point. -/
def A2 (p : Nat → Vec) (n : Nat) (q : Vec) : Int := isum (fun k => crs q (p k) (p (k + 1))) n
theorem A2_eq (h : Poly p n) (q q' : Vec) : A2 p n q = A2 p n q' := by
  have e : isum (fun k => crs q (p k) (p (k + 1)) - crs q' (p k) (p (k + 1))) n = 0 := by
    rw [isum_congr (g := fun k => crs q q' (p (k + 1)) - crs q q' (p k)) n fun k _ => id_area _ _ _ _]
    rw [isum_tel (fun k => crs q q' (p k)), show p n = p 0 by have := h.per 0; rwa [Nat.zero_add] at this]; omega
  rw [isum_sub] at e
  unfold A2; omega
def Fm (p : Nat → Vec) (n : Nat) (a b q : Vec) : Int := isum (fun k => crs q (p k) (p (k + 1)) * (crs a b q + crs a b (p k) + crs a b (p (k + 1)))) n
theorem Fm_eq (h : Poly p n) (a b q q' : Vec) : Fm p n a b q = Fm p n a b q' := by
  have e : isum (fun k => crs q (p k) (p (k + 1)) * (crs a b q + crs a b (p k) + crs a b (p (k + 1))) - crs q' (p k) (p (k + 1)) * (crs a b q' + crs a b (p k) + crs a b (p (k + 1)))) n = 0 := by
    rw [isum_congr (g := fun k => crs q q' (p (k + 1)) * (crs a b q + crs a b q' + crs a b (p (k + 1))) - crs q q' (p k) * (crs a b q + crs a b q' + crs a b (p k))) n fun k _ => id_fan _ _ _ _ _ _]
    rw [isum_tel (fun k => crs q q' (p k) * (crs a b q + crs a b q' + crs a b (p k))), show p n = p 0 by have := h.per 0; rwa [Nat.zero_add] at this]; omega
  rw [isum_sub] at e
  unfold Fm; omega

def absv (x : Int) : Int := if 0 ≤ x then x else -x
/-- A row of numbers that rises and then falls. -/
theorem unimodal {f : Nat → Int} {M : Int} (h0 : f 0 = 0) (hM : ∀ k, f k ≤ M) : ∀ m, (∀ k, 1 ≤ k → k < m → f (k + 1) ≥ f k → ¬ f (k - 1) ≥ f k) →
    isum (fun k => absv (f (k + 1) - f k)) m = f m ∨ (isum (fun k => absv (f (k + 1) - f k)) m ≤ 2 * M - f m ∧ 1 ≤ m ∧ f (m - 1) ≥ f m)
  | 0, _ => .inl (by simp [isum, h0])
  | m + 1, hn => by
    have ih := unimodal h0 hM m fun k h1 h2 => hn k h1 (by omega)
    have hm := hM m
    simp only [isum]
    unfold absv at ih ⊢
    by_cases hc : f (m + 1) ≥ f m
    · rw [if_pos (by omega)]
      rcases ih with ih | ⟨ih, h1, h2⟩
      · left; omega
      · exact absurd h2 (hn m h1 (by omega) hc)
    · rw [if_neg (by omega)]
      right
      rw [Nat.add_sub_cancel]
      rcases ih with ih | ⟨ih, h1, h2⟩
      · exact ⟨by omega, by omega, by omega⟩
      · exact ⟨by omega, by omega, by omega⟩

/-- The largest of some numbers. -/
theorem exists_max (f : Nat → Int) : ∀ n, 0 < n → ∃ m, m < n ∧ ∀ k, k < n → f k ≤ f m
  | 0, h => by omega
  | 1, _ => ⟨0, by omega, fun k hk => by have : k = 0 := by omega
                                         subst this; exact Int.le_refl _⟩
  | n + 2, _ => by
    obtain ⟨m, h1, h2⟩ := exists_max f (n + 1) (by omega)
    by_cases h : f (n + 1) ≤ f m
    · exact ⟨m, by omega, fun k hk => by
        by_cases e : k = n + 1
        · subst e; exact h
        · exact h2 k (by omega)⟩
    · exact ⟨n + 1, by omega, fun k hk => by
        by_cases e : k = n + 1
        · subst e; exact Int.le_refl _
        · have := h2 k (by omega); omega⟩

theorem mod_ne {a t n : Nat} (h0 : 0 < t) (h1 : t < n) : (a + t) % n ≠ a % n := fun e => by
  have h2 := Nat.sub_mod_eq_zero_of_mod_eq e
  rw [Nat.add_sub_cancel_left, Nat.mod_eq_of_lt h1] at h2
  omega
theorem mul_abs_le {u w B : Int} (h : -B ≤ u ∧ u ≤ B) : u * w ≤ B * absv w := by
  unfold absv
  by_cases hw : 0 ≤ w
  · rw [if_pos hw]; exact Int.mul_le_mul_of_nonneg_right h.2 hw
  · rw [if_neg hw, show u * w = (-u) * (-w) by rw [Int.neg_mul_neg]]
    exact Int.mul_le_mul_of_nonneg_right (by omega) (by omega)
theorem exists_sign (x : Int) : ∃ s : Int, (s = 1 ∨ s = -1) ∧ s * x = absv x := by
  unfold absv
  by_cases h : 0 ≤ x
  · exact ⟨1, .inl rfl, by rw [if_pos h]; omega⟩
  · exact ⟨-1, .inr rfl, by rw [if_neg h]; omega⟩
theorem dd_box {s t : Int} (hs : s = 1 ∨ s = -1) (ht : t = 1 ∨ t = -1) {z : Vec} (h : (-1048576 ≤ z.x ∧ z.x ≤ 1048576) ∧ (-1048576 ≤ z.y ∧ z.y ≤ 1048576)) : -2097152 ≤ dd s t z ∧ dd s t z ≤ 2097152 := by
  unfold dd
  rcases hs with rfl | rfl <;> rcases ht with rfl | rfl <;> omega

/-- How far the polygon reaches from one of its edges. -/
theorem Poly.reach (h : Poly p n) (i : Nat) : ∃ m, m < n ∧ (∀ k, crs (p i) (p (i + 1)) (p k) ≤ crs (p i) (p (i + 1)) (p m)) ∧
    ∀ q, (absv ((p (i + 1)).x - (p i).x) + absv ((p (i + 1)).y - (p i).y)) * A2 p n q ≤ 8388608 * crs (p i) (p (i + 1)) (p m) := by
  obtain ⟨m, hm, hmax⟩ := exists_max (fun k => crs (p i) (p (i + 1)) (p k)) n (by have := h.n3; omega)
  have hmax : ∀ k, crs (p i) (p (i + 1)) (p k) ≤ crs (p i) (p (i + 1)) (p m) := fun k => by
    rw [per_mod h.per k]; exact hmax _ (Nat.mod_lt _ (by have := h.n3; omega))
  refine ⟨m, hm, hmax, fun q => ?_⟩
  generalize hM : crs (p i) (p (i + 1)) (p m) = M at hmax ⊢
  obtain ⟨s, hs, es⟩ := exists_sign ((p (i + 1)).x - (p i).x)
  obtain ⟨t, ht, et⟩ := exists_sign ((p (i + 1)).y - (p i).y)
  rw [← es, ← et]
  -- the area, in other coordinates
  have e1 : (s * ((p (i + 1)).x - (p i).x) + t * ((p (i + 1)).y - (p i).y)) * A2 p n q = isum (fun k => (dd s t (p k) + dd s t (p (k + 1))) * (crs (p i) (p (i + 1)) (p (k + 1)) - crs (p i) (p (i + 1)) (p k))) n := by
    unfold A2
    rw [← isum_mul, isum_congr (g := fun k => (dd s t (p k) + dd s t (p (k + 1))) * (crs (p i) (p (i + 1)) (p (k + 1)) - crs (p i) (p (i + 1)) (p k)) + ((fun k => crs (p i) (p (i + 1)) q * dd s t (p k) - dd s t q * crs (p i) (p (i + 1)) (p k) - dd s t (p k) * crs (p i) (p (i + 1)) (p k)) (k + 1) - (fun k => crs (p i) (p (i + 1)) q * dd s t (p k) - dd s t q * crs (p i) (p (i + 1)) (p k) - dd s t (p k) * crs (p i) (p (i + 1)) (p k)) k)) n fun k _ => id_d _ _ _ _ _ _ _]
    rw [isum_add, isum_tel (fun k => crs (p i) (p (i + 1)) q * dd s t (p k) - dd s t q * crs (p i) (p (i + 1)) (p k) - dd s t (p k) * crs (p i) (p (i + 1)) (p k)), show p n = p 0 by have := h.per 0; rwa [Nat.zero_add] at this]
    omega
  rw [e1]
  -- each edge
  have e2 : isum (fun k => (dd s t (p k) + dd s t (p (k + 1))) * (crs (p i) (p (i + 1)) (p (k + 1)) - crs (p i) (p (i + 1)) (p k))) n ≤ isum (fun k => 4194304 * absv (crs (p i) (p (i + 1)) (p (k + 1)) - crs (p i) (p (i + 1)) (p k))) n := isum_le n fun k _ => by
    have h1 := dd_box hs ht (h.box k); have h2 := dd_box hs ht (h.box (k + 1))
    exact mul_abs_le ⟨by omega, by omega⟩
  rw [isum_mul (f := fun k => absv (crs (p i) (p (i + 1)) (p (k + 1)) - crs (p i) (p (i + 1)) (p k)))] at e2
  -- once up, once down
  have hn3 := h.n3
  have e3 := isum_rot (h := fun k => absv (crs (p i) (p (i + 1)) (p (k + 1)) - crs (p i) (p (i + 1)) (p k))) (n := n) (fun k => by
    show absv (crs (p i) (p (i + 1)) (p (k + n + 1)) - crs (p i) (p (i + 1)) (p (k + n))) = _
    rw [show k + n + 1 = k + 1 + n by omega, h.per, h.per]) (i + 1)
  have f0 : crs (p i) (p (i + 1)) (p (i + 1 + 0)) = 0 := crs_same'' _ _
  have fl : crs (p i) (p (i + 1)) (p (i + 1 + (n - 1))) = 0 := by
    rw [show i + 1 + (n - 1) = i + n by omega, h.per]; exact crs_same' _ _
  have fn : crs (p i) (p (i + 1)) (p (i + 1 + n)) = 0 := by rw [h.per]; exact crs_same'' _ _
  have hM0 : 0 ≤ M := by have := hmax i; rw [crs_same'] at this; exact this
  have e4 : isum (fun k => absv (crs (p i) (p (i + 1)) (p (i + 1 + (k + 1))) - crs (p i) (p (i + 1)) (p (i + 1 + k)))) (n - 1) ≤ 2 * M := by
    have hu := unimodal (f := fun k => crs (p i) (p (i + 1)) (p (i + 1 + k))) (M := M) f0 (fun k => hmax _) (n - 1) (fun k h1 h2 h3 h4 => by
      have hc := id_cone (p i) (p (i + 1)) (p (i + k)) (p (i + k + 1)) (p (i + k + 2)) (p i)
      rw [crs_same'] at hc
      have h3 : crs (p i) (p (i + 1)) (p (i + 1 + (k + 1))) ≥ crs (p i) (p (i + 1)) (p (i + 1 + k)) := h3
      have h4 : crs (p i) (p (i + 1)) (p (i + 1 + (k - 1))) ≥ crs (p i) (p (i + 1)) (p (i + 1 + k)) := h4
      rw [show i + 1 + (k + 1) = i + k + 2 by omega, show i + 1 + k = i + k + 1 by omega] at h3
      rw [show i + 1 + (k - 1) = i + k by omega, show i + 1 + k = i + k + 1 by omega] at h4
      have hD : 0 < crs (p (i + k)) (p (i + k + 1)) (p (i + k + 2)) := h.conv (i + k) (i + k + 2) (mod_ne (by omega) (by omega)) (mod_ne (a := i + k + 1) (t := 1) (by omega) (by omega))
      have hL : 0 < crs (p i) (p (i + 1)) (p (i + k + 1)) := h.conv i (i + k + 1) (mod_ne (a := i) (t := k + 1) (by omega) (by omega)) (by rw [show i + k + 1 = i + 1 + k by omega]; exact mod_ne (by omega) (by omega))
      have g1 := Int.mul_nonneg (h.nn (i + k) i) (show 0 ≤ crs (p i) (p (i + 1)) (p (i + k + 2)) - crs (p i) (p (i + 1)) (p (i + k + 1)) by omega)
      have g2 := Int.mul_nonneg (h.nn (i + k + 1) i) (show 0 ≤ crs (p i) (p (i + 1)) (p (i + k)) - crs (p i) (p (i + 1)) (p (i + k + 1)) by omega)
      have g3 := Int.mul_pos hD hL
      rw [Int.zero_sub, Int.mul_neg] at hc
      rw [show i + k + 1 + 1 = i + k + 2 by omega] at g2
      omega)
    rw [fl] at hu
    rcases hu with hu | ⟨hu, _⟩
    · have hu : isum (fun k => absv (crs (p i) (p (i + 1)) (p (i + 1 + (k + 1))) - crs (p i) (p (i + 1)) (p (i + 1 + k)))) (n - 1) = 0 := hu
      omega
    · have hu : isum (fun k => absv (crs (p i) (p (i + 1)) (p (i + 1 + (k + 1))) - crs (p i) (p (i + 1)) (p (i + 1 + k)))) (n - 1) ≤ 2 * M - 0 := hu
      omega
  have e5 : isum (fun k => (fun k => absv (crs (p i) (p (i + 1)) (p (k + 1)) - crs (p i) (p (i + 1)) (p k))) (i + 1 + k)) n ≤ 2 * M := by
    obtain ⟨n', hn'⟩ : ∃ n', n = n' + 1 := ⟨n - 1, by omega⟩
    subst hn'
    rw [Nat.add_sub_cancel] at e4 fl
    simp only [isum]
    have e6 : absv (crs (p i) (p (i + 1)) (p (i + 1 + n' + 1)) - crs (p i) (p (i + 1)) (p (i + 1 + n'))) = 0 := by
      rw [fl, show i + 1 + n' + 1 = i + 1 + (n' + 1) by omega, fn]; rfl
    rw [e6]
    have e7 : isum (fun k => absv (crs (p i) (p (i + 1)) (p (i + 1 + k + 1)) - crs (p i) (p (i + 1)) (p (i + 1 + k)))) n' = isum (fun k => absv (crs (p i) (p (i + 1)) (p (i + 1 + (k + 1))) - crs (p i) (p (i + 1)) (p (i + 1 + k)))) n' := rfl
    omega
  rw [e3] at e5
  omega

theorem num_end {A D M S T Ts Sg : Int} (hD : 0 ≤ D) (_hM : 0 ≤ M) (h1 : Ts - 32768 * Sg ≤ 65536 * T) (h2 : M * A ≤ Ts) (h3 : Sg ≤ 18 * M) (h4 : D * A ≤ 8388608 * M) (h5 : 65536 * S ≤ A + 196608) (hS : 511 ≤ S) : 3 * S * D ≤ 2 * T := by
  have hA : 33292288 ≤ A := by omega
  have a1 : D * A * (A - 589824) ≤ 8388608 * M * (A - 589824) := Int.mul_le_mul_of_nonneg_right h4 (by omega)
  have a2 : D * (65536 * S) ≤ D * (A + 196608) := Int.mul_le_mul_of_nonneg_left h5 hD
  have a4 : 0 ≤ (A - 33292288) * (A - 33292288) := Int.mul_nonneg (by omega) (by omega)
  have a5 : 0 ≤ 2 * (A * (A - 589824)) - 25165824 * (A + 196608) := by
    have e : A * (A - 589824) = (A - 33292288) * (A - 33292288) + 65994752 * A - 33292288 * 33292288 := by grind
    omega
  have a6 := Int.mul_nonneg hD a5
  have e1 : D * (2 * (A * (A - 589824)) - 25165824 * (A + 196608)) = 2 * (D * A * (A - 589824)) - 25165824 * (D * (A + 196608)) := by grind
  have e2 : 8388608 * M * (A - 589824) = 8388608 * (M * A) - 8388608 * 589824 * M := by grind
  have e3 : D * (65536 * S) = 65536 * (S * D) := by grind
  have e4 : 3 * S * D = 3 * (S * D) := by grind
  rw [e1] at a6
  rw [e2] at a1
  rw [e3] at a2
  rw [e4]
  omega

theorem isum_trim {h : Nat → Int} {n : Nat} (hn : 2 ≤ n) (h0 : h 0 = 0) (h1 : h (n - 1) = 0) : isum h n = isum (fun j => h (j + 1)) (n - 2) := by
  obtain ⟨m, rfl⟩ : ∃ m, n = m + 2 := ⟨n - 2, by omega⟩
  rw [isum_shift h (m + 1), h0]
  simp only [isum]
  rw [show m + 2 - 1 = m + 1 by omega] at h1
  rw [show m + 2 - 2 = m by omega, h1]
  omega

/-- **The rounded centroid lies on the inner side of each edge.** -/
theorem Poly.centroid (h : Poly p n) (cc : Nat → Int) (hcc : ∀ j, j < n - 2 → crs (p 0) (p (j + 1)) (p (j + 2)) - 32768 ≤ 65536 * cc j ∧ 65536 * cc j ≤ crs (p 0) (p (j + 1)) (p (j + 2)) + 32768) (hS : 511 ≤ isum cc (n - 2)) (qx qy : Int)
    (hx : -(3 * isum cc (n - 2)) ≤ 2 * (3 * isum cc (n - 2) * qx - isum (fun j => cc j * ((p (j + 1)).x - (p 0).x + ((p (j + 2)).x - (p 0).x))) (n - 2)) ∧ 2 * (3 * isum cc (n - 2) * qx - isum (fun j => cc j * ((p (j + 1)).x - (p 0).x + ((p (j + 2)).x - (p 0).x))) (n - 2)) ≤ 3 * isum cc (n - 2))
    (hy : -(3 * isum cc (n - 2)) ≤ 2 * (3 * isum cc (n - 2) * qy - isum (fun j => cc j * ((p (j + 1)).y - (p 0).y + ((p (j + 2)).y - (p 0).y))) (n - 2)) ∧ 2 * (3 * isum cc (n - 2) * qy - isum (fun j => cc j * ((p (j + 1)).y - (p 0).y + ((p (j + 2)).y - (p 0).y))) (n - 2)) ≤ 3 * isum cc (n - 2)) (i : Nat) :
    0 ≤ crs (p i) (p (i + 1)) ⟨(p 0).x + qx, (p 0).y + qy⟩ := by
  have hn3 := h.n3
  have hn8 := h.n8
  obtain ⟨m, hm, hmax, hreach⟩ := h.reach i
  have hp0 : p n = p 0 := by have := h.per 0; rwa [Nat.zero_add] at this
  -- the fan
  have hA : A2 p n (p 0) = isum (fun j => crs (p 0) (p (j + 1)) (p (j + 2))) (n - 2) := by
    unfold A2
    refine isum_trim (by omega) (crs_same _ _) ?_
    show crs (p 0) (p (n - 1)) (p (n - 1 + 1)) = 0
    rw [show n - 1 + 1 = n by omega, hp0]; exact crs_same' _ _
  have hF : Fm p n (p i) (p (i + 1)) (p 0) = isum (fun j => crs (p 0) (p (j + 1)) (p (j + 2)) * (crs (p i) (p (i + 1)) (p 0) + crs (p i) (p (i + 1)) (p (j + 1)) + crs (p i) (p (i + 1)) (p (j + 2)))) (n - 2) := by
    unfold Fm
    refine isum_trim (by omega) (by show crs _ _ _ * _ = 0; rw [crs_same, Int.zero_mul]) ?_
    show crs (p 0) (p (n - 1)) (p (n - 1 + 1)) * _ = 0
    rw [show n - 1 + 1 = n by omega, hp0, crs_same', Int.zero_mul]
  have hFm : crs (p i) (p (i + 1)) (p m) * A2 p n (p 0) ≤ Fm p n (p i) (p (i + 1)) (p 0) := by
    rw [Fm_eq h (p i) (p (i + 1)) (p 0) (p m), A2_eq h (p 0) (p m)]
    unfold Fm A2
    rw [← isum_mul]
    refine isum_le n fun k _ => ?_
    show crs (p i) (p (i + 1)) (p m) * crs (p m) (p k) (p (k + 1)) ≤ _
    rw [Int.mul_comm]
    refine Int.mul_le_mul_of_nonneg_left ?_ (by rw [crs_cyc]; exact h.nn k m)
    have := h.nn i k; have := h.nn i (k + 1); omega
  have hs : ∀ j, 0 ≤ crs (p i) (p (i + 1)) (p 0) + crs (p i) (p (i + 1)) (p (j + 1)) + crs (p i) (p (i + 1)) (p (j + 2)) := fun j => by
    have := h.nn i 0; have := h.nn i (j + 1); have := h.nn i (j + 2); omega
  have hSg : isum (fun j => crs (p i) (p (i + 1)) (p 0) + crs (p i) (p (i + 1)) (p (j + 1)) + crs (p i) (p (i + 1)) (p (j + 2))) (n - 2) ≤ 18 * crs (p i) (p (i + 1)) (p m) := by
    have h1 := isum_le (f := fun j => crs (p i) (p (i + 1)) (p 0) + crs (p i) (p (i + 1)) (p (j + 1)) + crs (p i) (p (i + 1)) (p (j + 2))) (g := fun _ => 3 * crs (p i) (p (i + 1)) (p m)) (n - 2) fun k _ => by
      have := hmax 0; have := hmax (k + 1); have := hmax (k + 2); omega
    rw [isum_const] at h1
    have h2 : ((n - 2 : Nat) : Int) * (3 * crs (p i) (p (i + 1)) (p m)) ≤ 6 * (3 * crs (p i) (p (i + 1)) (p m)) := Int.mul_le_mul_of_nonneg_right (by omega) (by have := h.nn i m; omega)
    omega
  have hT : Fm p n (p i) (p (i + 1)) (p 0) - 32768 * isum (fun j => crs (p i) (p (i + 1)) (p 0) + crs (p i) (p (i + 1)) (p (j + 1)) + crs (p i) (p (i + 1)) (p (j + 2))) (n - 2) ≤
      65536 * isum (fun j => cc j * (crs (p i) (p (i + 1)) (p 0) + crs (p i) (p (i + 1)) (p (j + 1)) + crs (p i) (p (i + 1)) (p (j + 2)))) (n - 2) := by
    rw [hF, ← isum_mul, ← isum_mul, ← isum_sub]
    refine isum_le _ fun j hj => ?_
    have h1 := (hcc j hj).1
    have h2 := Int.mul_le_mul_of_nonneg_right h1 (hs j)
    rw [Int.sub_mul, Int.mul_assoc] at h2
    exact h2
  have hSA : 65536 * isum cc (n - 2) ≤ A2 p n (p 0) + 196608 := by
    rw [hA, ← isum_mul]
    have h1 := isum_le (f := fun k => 65536 * cc k) (g := fun j => crs (p 0) (p (j + 1)) (p (j + 2)) + 32768) (n - 2) fun j hj => (hcc j hj).2
    rw [isum_add, isum_const] at h1
    omega
  have hD : 0 ≤ absv ((p (i + 1)).x - (p i).x) + absv ((p (i + 1)).y - (p i).y) := by unfold absv; split <;> split <;> omega
  have hend := num_end hD (h.nn i m) hT hFm hSg (hreach (p 0)) hSA hS
  -- the centroid itself
  have e1 : isum (fun j => cc j * (crs (p i) (p (i + 1)) (p 0) + crs (p i) (p (i + 1)) (p (j + 1)) + crs (p i) (p (i + 1)) (p (j + 2)))) (n - 2) =
      3 * crs (p i) (p (i + 1)) (p 0) * isum cc (n - 2) + (((p (i + 1)).x - (p i).x) * isum (fun j => cc j * ((p (j + 1)).y - (p 0).y + ((p (j + 2)).y - (p 0).y))) (n - 2) - ((p (i + 1)).y - (p i).y) * isum (fun j => cc j * ((p (j + 1)).x - (p 0).x + ((p (j + 2)).x - (p 0).x))) (n - 2)) := by
    rw [← isum_mul, ← isum_mul, ← isum_mul, ← isum_sub, ← isum_add]
    exact isum_congr _ fun j _ => by unfold crs; grind
  generalize hX : isum (fun j => cc j * ((p (j + 1)).x - (p 0).x + ((p (j + 2)).x - (p 0).x))) (n - 2) = X at *
  generalize hY : isum (fun j => cc j * ((p (j + 1)).y - (p 0).y + ((p (j + 2)).y - (p 0).y))) (n - 2) = Y at *
  generalize hS' : isum cc (n - 2) = S at *
  generalize isum (fun j => cc j * (crs (p i) (p (i + 1)) (p 0) + crs (p i) (p (i + 1)) (p (j + 1)) + crs (p i) (p (i + 1)) (p (j + 2)))) (n - 2) = T at *
  have e2 : 6 * S * crs (p i) (p (i + 1)) ⟨(p 0).x + qx, (p 0).y + qy⟩ = 2 * T + ((2 * (3 * S * qy - Y)) * ((p (i + 1)).x - (p i).x) - (2 * (3 * S * qx - X)) * ((p (i + 1)).y - (p i).y)) := by
    rw [e1]; unfold crs; grind
  have g1 := mul_abs_le (u := -(2 * (3 * S * qy - Y))) (w := (p (i + 1)).x - (p i).x) (B := 3 * S) ⟨by omega, by omega⟩
  have g2 := mul_abs_le (u := 2 * (3 * S * qx - X)) (w := (p (i + 1)).y - (p i).y) (B := 3 * S) ⟨by omega, by omega⟩
  rw [Int.neg_mul] at g1
  rw [Int.mul_add] at hend
  have g3 : 0 ≤ 6 * S * crs (p i) (p (i + 1)) ⟨(p 0).x + qx, (p 0).y + qy⟩ := by omega
  have hpos : 0 < 6 * S := by omega
  exact Int.nonneg_of_mul_nonneg_right g3 hpos
end
end Go.Fx
