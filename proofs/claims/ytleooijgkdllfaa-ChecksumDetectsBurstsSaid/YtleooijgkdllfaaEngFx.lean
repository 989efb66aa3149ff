/- PLAIN: fixed-point numbers. -/
import Derived.Test.YtleooijgkdllfaaEngLoop
namespace Go.Fx
open Go Go.Eng

/-! ### wrapping -/

theorem wrap_i64 {n : Int} (h0 : -9223372036854775808 ≤ n) (h1 : n ≤ 9223372036854775807) : IntKind.i64.wrap n = n := by
  simp only [IntKind.wrap, IntKind.bits, IntKind.signed]
  simp
  omega

theorem wrap_u64 {n : Int} (h0 : 0 ≤ n) (h1 : n ≤ 18446744073709551615) : IntKind.u64.wrap n = n := by
  simp only [IntKind.wrap, IntKind.bits, IntKind.signed]
  simp
  omega

theorem or_add {r : Int} {k : Nat} (h0 : 0 ≤ r) (hm : r % 2 ^ (k + 1) = 0) (h1 : r + 2 ^ (k + 1) ≤ 4294967296) :
    IntKind.i64.wrap ((BitVec.ofInt IntKind.i64.bits r ||| BitVec.ofInt IntKind.i64.bits (2 ^ k)).toNat) = r + 2 ^ k := by
  obtain ⟨R, rfl⟩ := Int.eq_ofNat_of_zero_le h0
  have hp : (2 : Int) ^ k = ((2 ^ k : Nat) : Int) := by simp
  have hp' : (2 : Int) ^ (k + 1) = ((2 ^ (k + 1) : Nat) : Int) := by simp
  rw [hp'] at hm h1
  have hm' : R % 2 ^ (k + 1) = 0 := by omega
  have hlt : (2 : Nat) ^ k < 2 ^ (k + 1) := Nat.pow_lt_pow_right (by omega) (by omega)
  have hR : R + 2 ^ (k + 1) ≤ 4294967296 := by omega
  have hor : R ||| 2 ^ k = R + 2 ^ k := by
    have := Nat.two_pow_add_eq_or_of_lt hlt (R / 2 ^ (k + 1))
    rw [Nat.mul_div_cancel' (Nat.dvd_of_mod_eq_zero hm')] at this
    exact this.symm
  rw [hp]
  show IntKind.i64.wrap ((BitVec.ofInt 64 (R : Int) ||| BitVec.ofInt 64 ((2 ^ k : Nat) : Int)).toNat) = _
  rw [BitVec.ofInt_natCast, BitVec.ofInt_natCast, BitVec.toNat_or, BitVec.toNat_ofNat, BitVec.toNat_ofNat, Nat.mod_eq_of_lt (by omega), Nat.mod_eq_of_lt (by omega), hor]
  rw [wrap_i64 (by omega) (by omega)]
  simp

/-! ### the integer square root -/

/-- A sum of bits, the highest first. -/
def isqF : Nat → Int → Int → Int
  | 0, _, r => r
  | k + 1, n, r => isqF k n (if (r + 2 ^ k) * (r + 2 ^ k) ≤ n then r + 2 ^ k else r)

def isqrt (n : Int) : Int := if n < 0 ∨ 4611686018427387904 < n then 0 else isqF 32 n 0

theorem isqF_spec : ∀ (k : Nat) (n r : Int), 0 ≤ r → r * r ≤ n → n < (r + 2 ^ k) * (r + 2 ^ k) → r ≤ isqF k n r ∧ isqF k n r * isqF k n r ≤ n ∧ n < (isqF k n r + 1) * (isqF k n r + 1)
  | 0, n, r, h0, h1, h2 => ⟨Int.le_refl _, h1, by simpa [isqF] using h2⟩
  | k + 1, n, r, h0, h1, h2 => by
    have hp : (0 : Int) < 2 ^ k := Int.pow_pos (by omega)
    have e : r + 2 ^ (k + 1) = r + 2 ^ k + 2 ^ k := by rw [Int.pow_succ]; omega
    rw [e] at h2
    simp only [isqF]
    split
    · rename_i h
      obtain ⟨a, b, c⟩ := isqF_spec k n (r + 2 ^ k) (by omega) h h2
      exact ⟨by omega, b, c⟩
    · rename_i h
      exact isqF_spec k n r h0 h1 (by omega)

theorem isqrt_spec {n : Int} (h0 : 0 ≤ n) (h1 : n ≤ 4611686018427387904) : 0 ≤ isqrt n ∧ isqrt n * isqrt n ≤ n ∧ n < (isqrt n + 1) * (isqrt n + 1) := by
  unfold isqrt
  rw [if_neg (by omega)]
  exact isqF_spec 32 n 0 (Int.le_refl _) (by simpa using h0) (by simp; omega)

/-- The bit that is tried with 'k' steps to go. -/
def bitv : Nat → Int
  | 0 => 0
  | k + 1 => 2 ^ k

/-- The loop's invariant: k steps to go. -/
structure IsqInv (n : Int) (x : Nat × Int) : Prop where
  k : x.1 ≤ 32
  r0 : 0 ≤ x.2
  m : x.2 % 2 ^ x.1 = 0
  b : x.2 + 2 ^ x.1 ≤ 4294967296
  e : isqF x.1 n x.2 = isqF 32 n 0

theorem pow_le {k : Nat} (h : k ≤ 32) : (2 : Int) ^ k ≤ 4294967296 := by
  have h1 : (2 : Nat) ^ k ≤ 2 ^ 32 := Nat.pow_le_pow_right (by omega) h
  have h2 : ((2 ^ k : Nat) : Int) ≤ ((2 ^ 32 : Nat) : Int) := Int.ofNat_le.2 h1
  simpa using h2

theorem IsqInv.start (n : Int) : IsqInv n (32, 0) := ⟨Nat.le_refl _, Int.le_refl _, by simp, by simp, rfl⟩

theorem pow_pos2 (k : Nat) : (0 : Int) < 2 ^ k := Int.pow_pos (by omega)

theorem mod_half {r : Int} {k : Nat} (h : r % 2 ^ (k + 1) = 0) : r % 2 ^ k = 0 ∧ (r + 2 ^ k) % 2 ^ k = 0 := by
  rw [Int.pow_succ] at h
  have hd : (2 : Int) ^ k * 2 ∣ r := Int.dvd_of_emod_eq_zero h
  have h2 : (2 : Int) ^ k ∣ r := Int.dvd_trans (Int.dvd_mul_right _ _) hd
  exact ⟨Int.emod_eq_zero_of_dvd h2, Int.emod_eq_zero_of_dvd (Int.dvd_add h2 (Int.dvd_refl _))⟩

theorem IsqInv.yes {n : Int} {k : Nat} {r : Int} (h : IsqInv n (k + 1, r)) (hle : (r + 2 ^ k) * (r + 2 ^ k) ≤ n) : IsqInv n (k, r + 2 ^ k) := by
  obtain ⟨h1, h2, h3, h4, h5⟩ := h
  simp only at h1 h2 h3 h4 h5
  have hp := pow_pos2 k
  refine ⟨by simp only; omega, by simp only; omega, (mod_half h3).2, ?_, ?_⟩
  · simp only; rw [Int.pow_succ] at h4; omega
  · simp only [isqF, if_pos hle] at h5; exact h5

theorem IsqInv.no {n : Int} {k : Nat} {r : Int} (h : IsqInv n (k + 1, r)) (hle : ¬ (r + 2 ^ k) * (r + 2 ^ k) ≤ n) : IsqInv n (k, r) := by
  obtain ⟨h1, h2, h3, h4, h5⟩ := h
  simp only at h1 h2 h3 h4 h5
  have hp := pow_pos2 k
  refine ⟨by simp only; omega, h2, (mod_half h3).1, ?_, ?_⟩
  · simp only; rw [Int.pow_succ] at h4; omega
  · simp only [isqF, if_neg hle] at h5; exact h5

theorem bitv_half (k : Nat) : (bitv (k + 1)) / 2 = bitv k := by
  cases k with
  | zero => rfl
  | succ k => simp only [bitv, Int.pow_succ]; omega

theorem sq_le {s : Int} (h0 : 0 ≤ s) (h1 : s ≤ 4294967295) : 0 ≤ s * s ∧ s * s ≤ 18446744065119617025 :=
  ⟨Int.mul_nonneg h0 h0, Int.mul_le_mul h1 h1 h0 (by omega)⟩

/-- The program's test. -/
theorem IsqInv.test {n : Int} {k : Nat} {r : Int} (h : IsqInv n (k + 1, r)) (h0 : 0 ≤ n) (h1 : n ≤ 4611686018427387904) :
    IntKind.i64.wrap ((BitVec.ofInt IntKind.i64.bits r ||| BitVec.ofInt IntKind.i64.bits (bitv (k + 1))).toNat) = r + 2 ^ k ∧
    (IntKind.u64.wrap (IntKind.u64.wrap (r + 2 ^ k) * IntKind.u64.wrap (r + 2 ^ k)) ≤ IntKind.u64.wrap n ↔ (r + 2 ^ k) * (r + 2 ^ k) ≤ n) := by
  obtain ⟨a1, a2, a3, a4, _⟩ := h
  simp only at a1 a2 a3 a4
  have hp := pow_pos2 k
  have hb : r + 2 ^ k ≤ 4294967295 := by rw [Int.pow_succ] at a4; omega
  obtain ⟨s1, s2⟩ := sq_le (s := r + 2 ^ k) (by omega) hb
  refine ⟨or_add a2 a3 a4, ?_⟩
  rw [wrap_u64 (n := r + 2 ^ k) (by omega) (by omega), wrap_u64 s1 (by omega), wrap_u64 (n := n) (by omega) (by omega)]

/-- The reference's test. -/
theorem IsqInv.test' {n : Int} {k : Nat} {r : Int} (h : IsqInv n (k + 1, r)) (h0 : 0 ≤ n) (h1 : n ≤ 4611686018427387904) :
    IntKind.i64.wrap (r + bitv (k + 1)) = r + 2 ^ k ∧ r + 2 ^ k ≠ 0 ∧ (r + 2 ^ k ≤ IntKind.i64.wrap (n.tdiv (r + 2 ^ k)) ↔ (r + 2 ^ k) * (r + 2 ^ k) ≤ n) := by
  obtain ⟨a1, a2, a3, a4, _⟩ := h
  simp only at a1 a2 a3 a4
  have hp := pow_pos2 k
  have hb : r + 2 ^ k ≤ 4294967295 := by rw [Int.pow_succ] at a4; omega
  have hs : 0 < r + 2 ^ k := by omega
  refine ⟨by simp only [bitv]; exact wrap_i64 (by omega) (by omega), by omega, ?_⟩
  rw [Int.tdiv_eq_ediv_of_nonneg h0]
  have hd0 : 0 ≤ n / (r + 2 ^ k) := Int.ediv_nonneg h0 (by omega)
  have hd1 : n / (r + 2 ^ k) ≤ n := Int.ediv_le_self _ h0
  rw [wrap_i64 (by omega) (by omega)]
  exact Int.le_ediv_iff_mul_le hs

theorem bitv_shr (k : Nat) : (bitv (k + 1)).fdiv (2 ^ min (Int.toNat 1) IntKind.i64.bits) = bitv k := by
  have : (2 : Int) ^ min (Int.toNat 1) IntKind.i64.bits = 2 := by decide
  rw [this, Int.fdiv_eq_ediv_of_nonneg _ (by omega)]
  exact bitv_half k

theorem bitv_bounds {k : Nat} (h : k ≤ 32) : 0 ≤ bitv k ∧ bitv k ≤ 4294967296 := by
  cases k with
  | zero => exact ⟨Int.le_refl _, by simp [bitv]⟩
  | succ k => exact ⟨Int.le_of_lt (pow_pos2 k), pow_le (by omega)⟩

theorem bitv_tdiv {k : Nat} (h : k + 1 ≤ 32) : IntKind.i64.wrap ((bitv (k + 1)).tdiv 2) = bitv k := by
  have := bitv_bounds (k := k + 1) h
  have := bitv_bounds (k := k) (by omega)
  rw [Int.tdiv_eq_ediv_of_nonneg (by omega), bitv_half]
  exact wrap_i64 (by omega) (by omega)

theorem bitv_pos (k : Nat) : bitv (k + 1) > 0 := pow_pos2 k

/-! ### the numbers of chapter 1 -/

def sat (x : Int) : Int := if x > 536870911 then 536870911 else if x < -536870911 then -536870911 else x
def add (a b : Int) : Int := sat (sat a + sat b)
def sub (a b : Int) : Int := sat (sat a - sat b)
def clamp (x l h : Int) : Int := if l > h ∨ x < l then l else if x > h then h else x
/-- A quotient of numbers that are not negative, to the nearest. -/
def rnat (m d : Int) : Int := if m % d ≥ d - m % d then m / d + 1 else m / d
def badDiv (n d : Int) : Prop := d < 1 ∨ d > 4611686018427387904 ∨ n < -4611686018427387904 ∨ n > 4611686018427387904
instance (n d : Int) : Decidable (badDiv n d) := by unfold badDiv; infer_instance
def rdiv (n d : Int) : Int := if badDiv n d then 0 else if n < 0 then -rnat (-n) d else rnat n d
def mul (a b : Int) : Int := sat (rdiv (sat a * sat b) 65536)
def div (a b : Int) : Int :=
  if sat b = 0 then (if sat a > 0 then 536870911 else if sat a < 0 then -536870911 else 0)
  else if sat b < 0 then sat (rdiv (-(sat a * 65536)) (-sat b)) else sat (rdiv (sat a * 65536) (sat b))

theorem sat_bounds (x : Int) : -536870911 ≤ sat x ∧ sat x ≤ 536870911 := by unfold sat; split <;> (try split) <;> omega
theorem sat_id {x : Int} (h0 : -536870911 ≤ x) (h1 : x ≤ 536870911) : sat x = x := by unfold sat; rw [if_neg (by omega), if_neg (by omega)]
theorem sat_sat (x : Int) : sat (sat x) = sat x := sat_id (sat_bounds x).1 (sat_bounds x).2
theorem sat_neg (x : Int) : sat (-x) = -sat x := by unfold sat; repeat' split
                                                    all_goals omega
theorem mul_bounds (a b : Int) : -536870911 ≤ mul a b ∧ mul a b ≤ 536870911 := sat_bounds _
theorem add_bounds (a b : Int) : -536870911 ≤ add a b ∧ add a b ≤ 536870911 := sat_bounds _
theorem sub_bounds (a b : Int) : -536870911 ≤ sub a b ∧ sub a b ≤ 536870911 := sat_bounds _
theorem div_bounds (a b : Int) : -536870911 ≤ div a b ∧ div a b ≤ 536870911 := by
  unfold div
  split
  · split
    · omega
    · split <;> omega
  · split <;> exact sat_bounds _

theorem prod_bounds {a b m : Int} (hm : 0 ≤ m) (ha0 : -m ≤ a) (ha1 : a ≤ m) (hb0 : -m ≤ b) (hb1 : b ≤ m) : -(m * m) ≤ a * b ∧ a * b ≤ m * m := by
  have h1 : a.natAbs ≤ m.natAbs := by omega
  have h2 : b.natAbs ≤ m.natAbs := by omega
  have h3 := Nat.mul_le_mul h1 h2
  rw [← Int.natAbs_mul, ← Int.natAbs_mul] at h3
  have h4 : 0 ≤ m * m := Int.mul_nonneg hm hm
  omega

theorem sat_mul (a b : Int) : -288230375077969921 ≤ sat a * sat b ∧ sat a * sat b ≤ 288230375077969921 := by
  have h := prod_bounds (a := sat a) (b := sat b) (m := 536870911) (by omega) (sat_bounds a).1 (sat_bounds a).2 (sat_bounds b).1 (sat_bounds b).2
  omega

theorem rnat_spec {m d : Int} (hm : 0 ≤ m) (hd : 1 ≤ d) : 0 ≤ rnat m d ∧ rnat m d ≤ m / d + 1 ∧ 2 * (d * rnat m d) ≤ 2 * m + d ∧ 2 * m < 2 * (d * rnat m d) + d + 1 := by
  have h1 := Int.emod_nonneg m (by omega : d ≠ 0)
  have h2 := Int.emod_lt_of_pos m (by omega : 0 < d)
  have h3 := Int.mul_ediv_add_emod m d
  have h4 : 0 ≤ m / d := Int.ediv_nonneg hm (by omega)
  unfold rnat
  split
  · have h5 : d * (m / d + 1) = d * (m / d) + d := by rw [Int.mul_add]; omega
    rw [h5]
    omega
  · omega

/-- The program's code, as it computes. -/
def satP (x : Int) : Int := if 536870911 < if -536870911 > x then -536870911 else x then 536870911 else if -536870911 > x then -536870911 else x
theorem satP_eq (x : Int) : satP x = sat x := by unfold satP sat; repeat' split
                                                 all_goals omega
def satR (x : Int) : Int := bif decide (x > 536870911) then 536870911 else bif decide (x < -536870911) then -536870911 else x
theorem satR_eq (x : Int) : satR x = sat x := by simp only [satR, sat, Bool.cond_decide]
def addP (a b : Int) : Int := sat (IntKind.i64.wrap (sat a + sat b))
theorem addP_eq (a b : Int) : addP a b = add a b := by
  have := sat_bounds a; have := sat_bounds b
  unfold addP add; rw [wrap_i64 (by omega) (by omega)]
def subP (a b : Int) : Int := sat (IntKind.i64.wrap (sat a - sat b))
theorem subP_eq (a b : Int) : subP a b = sub a b := by
  have := sat_bounds a; have := sat_bounds b
  unfold subP sub; rw [wrap_i64 (by omega) (by omega)]
def mulP (a b : Int) : Int := sat (rdiv (IntKind.i64.wrap (sat a * sat b)) 65536)
theorem mulP_eq (a b : Int) : mulP a b = mul a b := by
  have := sat_mul a b
  unfold mulP mul; rw [wrap_i64 (by omega) (by omega)]
def clampP (x y z : Int) : Int := bif bif decide (y > z) then true else decide (x < y) then y else bif decide (x > z) then z else x
theorem clampP_eq (x y z : Int) : clampP x y z = clamp x y z := by
  unfold clampP clamp
  by_cases h1 : y > z <;> by_cases h2 : x < y <;> simp [h1, h2, Bool.cond_decide]
def badB (x y : Int) : Bool := bif bif bif decide (y < 1) then true else decide (y > 4611686018427387904) then true else decide (x < -4611686018427387904) then true else decide (x > 4611686018427387904)
theorem badB_eq (x y : Int) : badB x y = decide (badDiv x y) := by
  unfold badB badDiv
  by_cases h1 : y < 1 <;> by_cases h2 : y > 4611686018427387904 <;> by_cases h3 : x < -4611686018427387904 <;> simp [h1, h2, h3]
def rdivP (x y : Int) : Int :=
  bif badB x y then 0
  else bif decide (x.tmod y ≥ IntKind.i64.wrap (y - x.tmod y)) then IntKind.i64.wrap (IntKind.i64.wrap (x.tdiv y) + 1)
  else bif decide (IntKind.i64.wrap (0 - x.tmod y) ≥ IntKind.i64.wrap (y + x.tmod y)) then IntKind.i64.wrap (IntKind.i64.wrap (x.tdiv y) - 1)
  else IntKind.i64.wrap (x.tdiv y)
theorem ediv_small {m d : Int} (hm : 0 ≤ m) (hd : 1 ≤ d) : 0 ≤ m / d ∧ m / d ≤ m ∧ 0 ≤ m % d ∧ m % d < d ∧ m % d ≤ m :=
  ⟨Int.ediv_nonneg hm (by omega), Int.ediv_le_self _ hm, Int.emod_nonneg _ (by omega), Int.emod_lt_of_pos _ (by omega), by
    have h1 := Int.mul_ediv_add_emod m d
    have h2 : 0 ≤ d * (m / d) := Int.mul_nonneg (by omega) (Int.ediv_nonneg hm (by omega))
    omega⟩
theorem rdivP_eq (x y : Int) : rdivP x y = rdiv x y := by
  unfold rdivP rdiv
  rw [badB_eq]
  by_cases hb : badDiv x y
  · simp [hb]
  · simp only [hb, decide_false, cond_false, if_false, Bool.cond_decide]
    unfold badDiv at hb
    by_cases hx : x < 0
    · obtain ⟨m, rfl⟩ : ∃ m, x = -m := ⟨-x, by omega⟩
      obtain ⟨h1, h2, h3, h4, h5⟩ := ediv_small (m := m) (d := y) (by omega) (by omega)
      rw [Int.neg_tdiv, Int.neg_tmod, Int.tdiv_eq_ediv_of_nonneg (by omega), Int.tmod_eq_emod_of_nonneg (by omega), if_pos hx, Int.neg_neg]
      rw [wrap_i64 (n := y - -(m % y)) (by omega) (by omega), wrap_i64 (n := y + -(m % y)) (by omega) (by omega), wrap_i64 (n := 0 - -(m % y)) (by omega) (by omega), wrap_i64 (n := -(m / y)) (by omega) (by omega), wrap_i64 (n := -(m / y) - 1) (by omega) (by omega), wrap_i64 (n := -(m / y) + 1) (by omega) (by omega)]
      unfold rnat
      repeat' split
      all_goals omega
    · obtain ⟨h1, h2, h3, h4, h5⟩ := ediv_small (m := x) (d := y) (by omega) (by omega)
      rw [Int.tdiv_eq_ediv_of_nonneg (by omega), Int.tmod_eq_emod_of_nonneg (by omega), if_neg hx]
      rw [wrap_i64 (n := y - (x % y)) (by omega) (by omega), wrap_i64 (n := y + (x % y)) (by omega) (by omega), wrap_i64 (n := 0 - (x % y)) (by omega) (by omega), wrap_i64 (n := (x / y)) (by omega) (by omega), wrap_i64 (n := (x / y) - 1) (by omega) (by omega), wrap_i64 (n := (x / y) + 1) (by omega) (by omega)]
      unfold rnat
      repeat' split
      all_goals omega
def rdivQ (x y : Int) : List Prop := [badB x y = false → y ≠ 0, badB x y = false → y ≠ 0]
theorem rdivQ_ok (x y : Int) : Conj (rdivQ x y) := by
  have h : badB x y = false → y ≠ 0 := by
    rw [badB_eq]; intro h; simp only [decide_eq_false_iff_not] at h; unfold badDiv at h; omega
  exact ⟨h, h, trivial⟩
def outR (x : Int) : Bool := bif decide (x > 4611686018427387904) then true else decide (x < -4611686018427387904)
def badR (x y : Int) : Bool := bif bif decide (y < 1) then true else outR y then true else outR x
theorem badR_eq (x y : Int) : badR x y = decide (badDiv x y) := by
  unfold badR outR badDiv
  by_cases h1 : y < 1
  · simp [h1]
  · have h2 : ¬ y < -4611686018427387904 := by omega
    by_cases h3 : y > 4611686018427387904 <;> by_cases h4 : x < -4611686018427387904 <;> by_cases h5 : x > 4611686018427387904 <;> simp [h1, h2, h3, h4, h5]
def restR (m y : Int) : Int := IntKind.i64.wrap (m - IntKind.i64.wrap (IntKind.i64.wrap (m.tdiv y) * y))
def rdivR (x y : Int) : Int :=
  bif badR x y then 0
  else bif decide (x < 0) then
    (bif decide (restR (IntKind.i64.wrap (0 - x)) y ≥ IntKind.i64.wrap (y - restR (IntKind.i64.wrap (0 - x)) y)) then
      (bif decide (x < 0) then IntKind.i64.wrap (0 - IntKind.i64.wrap (IntKind.i64.wrap ((IntKind.i64.wrap (0 - x)).tdiv y) + 1)) else IntKind.i64.wrap (IntKind.i64.wrap ((IntKind.i64.wrap (0 - x)).tdiv y) + 1))
     else
      (bif decide (x < 0) then IntKind.i64.wrap (0 - IntKind.i64.wrap ((IntKind.i64.wrap (0 - x)).tdiv y)) else IntKind.i64.wrap ((IntKind.i64.wrap (0 - x)).tdiv y)))
  else
    (bif decide (restR x y ≥ IntKind.i64.wrap (y - restR x y)) then
      (bif decide (x < 0) then IntKind.i64.wrap (0 - IntKind.i64.wrap (IntKind.i64.wrap (x.tdiv y) + 1)) else IntKind.i64.wrap (IntKind.i64.wrap (x.tdiv y) + 1))
     else
      (bif decide (x < 0) then IntKind.i64.wrap (0 - IntKind.i64.wrap (x.tdiv y)) else IntKind.i64.wrap (x.tdiv y)))
theorem restR_eq {m y : Int} (hm : 0 ≤ m) (hm1 : m ≤ 4611686018427387904) (hy : 1 ≤ y) : restR m y = m % y := by
  obtain ⟨h1, h2, h3, h4, h5⟩ := ediv_small (m := m) (d := y) hm hy
  have h6 := Int.mul_ediv_add_emod m y
  unfold restR
  rw [Int.tdiv_eq_ediv_of_nonneg hm, wrap_i64 (n := m / y) (by omega) (by omega), Int.mul_comm (m / y) y, wrap_i64 (n := y * (m / y)) (by omega) (by omega), wrap_i64 (by omega) (by omega)]
  omega
theorem rdivR_eq (x y : Int) : rdivR x y = rdiv x y := by
  unfold rdivR rdiv
  rw [badR_eq]
  by_cases hb : badDiv x y
  · simp [hb]
  · simp only [hb, decide_false, cond_false, if_false, Bool.cond_decide]
    unfold badDiv at hb
    by_cases hx : x < 0
    · simp only [hx, if_true]
      rw [wrap_i64 (n := 0 - x) (by omega) (by omega), show 0 - x = -x by omega]
      generalize hm : -x = m
      obtain ⟨h1, h2, h3, h4, h5⟩ := ediv_small (m := m) (d := y) (by omega) (by omega)
      rw [restR_eq (by omega) (by omega) (by omega), Int.tdiv_eq_ediv_of_nonneg (by omega), wrap_i64 (n := y - m % y) (by omega) (by omega), wrap_i64 (n := m / y) (by omega) (by omega), wrap_i64 (n := m / y + 1) (by omega) (by omega), wrap_i64 (n := 0 - (m / y + 1)) (by omega) (by omega), wrap_i64 (n := 0 - (m / y)) (by omega) (by omega)]
      unfold rnat
      repeat' split
      all_goals omega
    · simp only [hx, if_false]
      obtain ⟨h1, h2, h3, h4, h5⟩ := ediv_small (m := x) (d := y) (by omega) (by omega)
      rw [restR_eq (by omega) (by omega) (by omega), Int.tdiv_eq_ediv_of_nonneg (by omega), wrap_i64 (n := y - x % y) (by omega) (by omega), wrap_i64 (n := x / y) (by omega) (by omega), wrap_i64 (n := x / y + 1) (by omega) (by omega)]
      rfl
def rdivRQ (x y : Int) : List Prop := [badR x y = false → decide (x < 0) = true → y ≠ 0, badR x y = false → decide (x < 0) = false → y ≠ 0]
theorem rdivRQ_ok (x y : Int) : Conj (rdivRQ x y) := by
  have h : badR x y = false → y ≠ 0 := by
    rw [badR_eq]; intro h; simp only [decide_eq_false_iff_not] at h; unfold badDiv at h; omega
  exact ⟨fun e _ => h e, fun e _ => h e, trivial⟩
def divP (x y : Int) : Int :=
  bif sat y == 0 then IntKind.i64.wrap (clamp (IntKind.i64.wrap (sat x * 65536)) (-1) 1 * 536870911)
  else bif decide (sat y < 0) then sat (rdiv (IntKind.i64.wrap (0 - IntKind.i64.wrap (sat x * 65536))) (IntKind.i64.wrap (0 - sat y)))
  else sat (rdiv (IntKind.i64.wrap (sat x * 65536)) (sat y))
theorem divP_eq (x y : Int) : divP x y = div x y := by
  have hx := sat_bounds x; have hy := sat_bounds y
  unfold divP div
  rw [wrap_i64 (n := sat x * 65536) (by omega) (by omega), wrap_i64 (n := 0 - sat x * 65536) (by omega) (by omega), wrap_i64 (n := 0 - sat y) (by omega) (by omega), Int.zero_sub, Int.zero_sub]
  by_cases h0 : sat y = 0
  · simp only [h0, beq_self_eq_true, cond_true, if_true]
    unfold clamp
    rw [wrap_i64 (by repeat' split
                     all_goals omega) (by repeat' split
                                          all_goals omega)]
    repeat' split
    all_goals omega
  · have : (sat y == 0) = false := by simp [h0]
    simp only [this, cond_false, h0, if_false, Bool.cond_decide]
def divR (x y : Int) : Int :=
  bif bif sat y == 0 then decide (sat x > 0) else false then 536870911
  else bif bif sat y == 0 then decide (sat x < 0) else false then -536870911
  else bif decide (sat y < 0) then sat (rdiv (IntKind.i64.wrap (IntKind.i64.wrap (0 - sat x) * 65536)) (IntKind.i64.wrap (0 - sat y)))
  else sat (rdiv (IntKind.i64.wrap (sat x * 65536)) (sat y))
theorem divR_eq (x y : Int) : divR x y = div x y := by
  have hx := sat_bounds x; have hy := sat_bounds y
  unfold divR div
  rw [wrap_i64 (n := sat x * 65536) (by omega) (by omega), wrap_i64 (n := 0 - sat x) (by omega) (by omega), wrap_i64 (n := (0 - sat x) * 65536) (by omega) (by omega), wrap_i64 (n := 0 - sat y) (by omega) (by omega), Int.zero_sub, Int.zero_sub, Int.neg_mul]
  by_cases h0 : sat y = 0
  · have hb : rdiv (sat x * 65536) 0 = 0 := by unfold rdiv; rw [if_pos (by unfold badDiv; omega)]
    simp only [h0, beq_self_eq_true, cond_true, if_true, Bool.cond_decide, hb]
    simp only [show ¬ ((0 : Int) < 0) by omega, if_false, show sat 0 = 0 from rfl]
  · have : (sat y == 0) = false := by simp [h0]
    simp only [this, cond_false, h0, if_false, Bool.cond_decide]

/-! ### the angles of chapter 2 -/

def norm (a : Int) : Int := if a.tmod 411776 ≥ 205888 then a.tmod 411776 - 411776 else if a.tmod 411776 < -205888 then a.tmod 411776 + 411776 else a.tmod 411776
def absi (x : Int) : Int := if x < 0 then -x else x
def sinq (x : Int) : Int := mul (div x 102944) (sub 102873 (mul (mul (div x 102944) (div x 102944)) (sub 41906 (mul (mul (div x 102944) (div x 102944)) 4569))))
def fold (x : Int) : Int := if x > 102944 then 205888 - x else x
def sin (a : Int) : Int := if norm a < 0 then -sinq (fold (absi (norm a))) else sinq (fold (absi (norm a)))
def cos (a : Int) : Int := sin (102944 - absi (norm a))
def rlen (c s : Int) : Int := isqrt (c * c + s * s)
def rotc (a : Int) : Int := div (cos a) (rlen (cos a) (sin a))
def rots (a : Int) : Int := div (sin a) (rlen (cos a) (sin a))
def diff (a b : Int) : Int := norm (norm b - norm a)

theorem tmod_bounds (a : Int) : -411776 < a.tmod 411776 ∧ a.tmod 411776 < 411776 := by
  have h1 := Int.tmod_lt_of_pos a (b := 411776) (by omega)
  have h2 := Int.tmod_lt_of_pos (-a) (b := 411776) (by omega)
  rw [Int.neg_tmod] at h2
  omega
theorem norm_bounds (a : Int) : -205888 ≤ norm a ∧ norm a < 205888 := by
  have := tmod_bounds a
  unfold norm; repeat' split
  all_goals omega
def normP (x : Int) : Int := bif decide (x.tmod 411776 ≥ 205888) then IntKind.i64.wrap (x.tmod 411776 - 411776) else bif decide (x.tmod 411776 < -205888) then IntKind.i64.wrap (x.tmod 411776 + 411776) else x.tmod 411776
theorem normP_eq (x : Int) : normP x = norm x := by
  have := tmod_bounds x
  unfold normP norm
  rw [wrap_i64 (by omega) (by omega), wrap_i64 (by omega) (by omega)]
  simp only [Bool.cond_decide]
def normR (x : Int) : Int :=
  bif decide (x.tmod 411776 ≥ 205888) then
    (bif decide (IntKind.i64.wrap (x.tmod 411776 - 411776) < -205888) then IntKind.i64.wrap (IntKind.i64.wrap (x.tmod 411776 - 411776) + 411776) else IntKind.i64.wrap (x.tmod 411776 - 411776))
  else bif decide (x.tmod 411776 < -205888) then IntKind.i64.wrap (x.tmod 411776 + 411776) else x.tmod 411776
theorem normR_eq (x : Int) : normR x = norm x := by
  have := tmod_bounds x
  unfold normR norm
  rw [wrap_i64 (n := x.tmod 411776 - 411776) (by omega) (by omega), wrap_i64 (n := x.tmod 411776 + 411776) (by omega) (by omega)]
  simp only [Bool.cond_decide]
  split
  · rw [if_neg (by omega)]
  · rfl
def absP (x : Int) : Int := bif decide (x < 0) then IntKind.i64.wrap (0 - x) else x
theorem absP_eq {x : Int} (h0 : -9223372036854775807 ≤ x) (h1 : x ≤ 9223372036854775807) : absP x = absi x := by
  unfold absP absi
  rw [wrap_i64 (by omega) (by omega), Bool.cond_decide, Int.zero_sub]
theorem absP_norm (a : Int) : absP (norm a) = absi (norm a) := by
  have := norm_bounds a
  exact absP_eq (by omega) (by omega)
theorem absi_norm (a : Int) : 0 ≤ absi (norm a) ∧ absi (norm a) ≤ 205888 := by
  have := norm_bounds a
  unfold absi; split <;> omega
def sinP (x : Int) : Int :=
  bif decide (absP (norm x) > 102944) then
    (bif decide (norm x < 0) then IntKind.i64.wrap (0 - sinq (IntKind.i64.wrap (205888 - absP (norm x)))) else sinq (IntKind.i64.wrap (205888 - absP (norm x))))
  else bif decide (norm x < 0) then IntKind.i64.wrap (0 - sinq (absP (norm x))) else sinq (absP (norm x))
theorem sinq_bounds (x : Int) : -536870911 ≤ sinq x ∧ sinq x ≤ 536870911 := mul_bounds _ _
theorem sinP_eq (x : Int) : sinP x = sin x := by
  have h1 := absi_norm x
  unfold sinP sin fold
  rw [absP_norm, wrap_i64 (n := 205888 - absi (norm x)) (by omega) (by omega)]
  have h2 := sinq_bounds (205888 - absi (norm x))
  have h3 := sinq_bounds (absi (norm x))
  rw [wrap_i64 (n := 0 - sinq (205888 - absi (norm x))) (by omega) (by omega), wrap_i64 (n := 0 - sinq (absi (norm x))) (by omega) (by omega)]
  simp only [Bool.cond_decide]
  repeat' split
  all_goals omega
theorem sin_bounds (a : Int) : -536870911 ≤ sin a ∧ sin a ≤ 536870911 := by
  have := sinq_bounds (fold (absi (norm a)))
  unfold sin; split <;> omega
def cosP (x : Int) : Int := sin (IntKind.i64.wrap (102944 - absP (norm x)))
theorem cosP_eq (x : Int) : cosP x = cos x := by
  have h1 := absi_norm x
  unfold cosP cos
  rw [absP_norm, wrap_i64 (by omega) (by omega)]
def rlenP (c s : Int) : Int := isqrt (IntKind.i64.wrap (IntKind.i64.wrap (c * c) + IntKind.i64.wrap (s * s)))
theorem rlenP_eq (a b : Int) : rlenP (cos a) (sin b) = rlen (cos a) (sin b) := by
  have h1 := prod_bounds (a := cos a) (b := cos a) (m := 536870911) (by omega) (sin_bounds _).1 (sin_bounds _).2 (sin_bounds _).1 (sin_bounds _).2
  have h2 := prod_bounds (a := sin b) (b := sin b) (m := 536870911) (by omega) (sin_bounds _).1 (sin_bounds _).2 (sin_bounds _).1 (sin_bounds _).2
  unfold rlenP rlen
  rw [wrap_i64 (n := cos a * cos a) (by omega) (by omega), wrap_i64 (n := sin b * sin b) (by omega) (by omega), wrap_i64 (by omega) (by omega)]
def rotcP (a : Int) : Int := div (cos a) (rlenP (cos a) (sin a))
def rotsP (a : Int) : Int := div (sin a) (rlenP (cos a) (sin a))
theorem rotcP_eq (a : Int) : rotcP a = rotc a := by unfold rotcP rotc; rw [rlenP_eq]
theorem rotsP_eq (a : Int) : rotsP a = rots a := by unfold rotsP rots; rw [rlenP_eq]
def diffP (a b : Int) : Int := norm (IntKind.i64.wrap (norm b - norm a))
theorem diffP_eq (a b : Int) : diffP a b = diff a b := by
  have := norm_bounds a; have := norm_bounds b
  unfold diffP diff; rw [wrap_i64 (by omega) (by omega)]

theorem norm_mod (a : Int) : ∃ k, norm a = a + 411776 * k := by
  have h := Int.mul_tdiv_add_tmod a 411776
  unfold norm
  repeat' split
  · exact ⟨-(a.tdiv 411776) - 1, by omega⟩
  · exact ⟨-(a.tdiv 411776) + 1, by omega⟩
  · exact ⟨-(a.tdiv 411776), by omega⟩
theorem norm_unique {a n k : Int} (h0 : -205888 ≤ n) (h1 : n < 205888) (h : n = a + 411776 * k) : norm a = n := by
  obtain ⟨j, hj⟩ := norm_mod a
  have := norm_bounds a
  omega
theorem norm_id {n : Int} (h0 : -205888 ≤ n) (h1 : n < 205888) : norm n = n := norm_unique (k := 0) h0 h1 (by omega)
theorem norm_turns (a k : Int) : norm (a + k * 411776) = norm a := by
  obtain ⟨j, hj⟩ := norm_mod a
  have := norm_bounds a
  exact norm_unique (k := j - k) this.1 this.2 (by omega)
theorem norm_neg (a : Int) : norm (-a) = if norm a = -205888 then -205888 else -norm a := by
  obtain ⟨j, hj⟩ := norm_mod a
  have := norm_bounds a
  split
  · exact norm_unique (k := -j - 1) (by omega) (by omega) (by omega)
  · exact norm_unique (k := -j) (by omega) (by omega) (by omega)
theorem absi_norm_neg (a : Int) : absi (norm (-a)) = absi (norm a) := by
  have := norm_bounds a
  rw [norm_neg]; unfold absi; repeat' split
  all_goals omega
theorem sinq_zero : sinq 0 = 0 := by decide
theorem sin_neg (a : Int) : sin (-a) = -sin a := by
  have hb := norm_bounds a
  unfold sin
  rw [absi_norm_neg]
  have h := norm_neg a
  split at h
  · rename_i h1
    have h2 : fold (absi (norm a)) = 0 := by rw [h1]; rfl
    rw [h2, sinq_zero]
    repeat' split
    all_goals omega
  · by_cases h1 : norm a = 0
    · have h2 : fold (absi (norm a)) = 0 := by rw [h1]; rfl
      rw [h2, sinq_zero]
      repeat' split
      all_goals omega
    · repeat' split
      all_goals omega
theorem cos_neg (a : Int) : cos (-a) = cos a := by unfold cos; rw [absi_norm_neg]
theorem diff_bounds (a b : Int) : -205888 ≤ diff a b ∧ diff a b < 205888 := norm_bounds _
theorem diff_self (a : Int) : diff a a = 0 := by unfold diff; rw [Int.sub_self]; rfl
theorem diff_adds (a b : Int) : norm (norm a + diff a b) = norm b := by
  have h1 := norm_bounds b
  obtain ⟨k, hk⟩ := norm_mod (norm b - norm a)
  exact norm_unique (k := -k) h1.1 h1.2 (by unfold diff; omega)
theorem diff_swap (a b : Int) : diff b a = if diff a b = -205888 then -205888 else -diff a b := by
  have h : norm a - norm b = -(norm b - norm a) := by omega
  unfold diff
  rw [h]; exact norm_neg _

/-! ### a rotation's length -/

theorem notBad {n d : Int} (h0 : 1 ≤ d) (h1 : d ≤ 4611686018427387904) (h2 : -4611686018427387904 ≤ n) (h3 : n ≤ 4611686018427387904) : ¬ badDiv n d := by unfold badDiv; omega
theorem rdiv_nn {n d : Int} (h0 : 0 ≤ n) (h1 : n ≤ 4611686018427387904) (h2 : 1 ≤ d) (h3 : d ≤ 4611686018427387904) : rdiv n d = rnat n d := by
  unfold rdiv; rw [if_neg (notBad (by omega) (by omega) (by omega) (by omega)), if_neg (by omega)]
theorem rdiv_neg {n d : Int} (h1 : -4611686018427387904 ≤ n) (h1' : n ≤ 4611686018427387904) (h2 : 1 ≤ d) (h3 : d ≤ 4611686018427387904) : rdiv (-n) d = -rdiv n d := by
  unfold rdiv; rw [if_neg (notBad (by omega) (by omega) (by omega) (by omega)), if_neg (notBad (by omega) (by omega) (by omega) (by omega))]
  by_cases hn : n = 0
  · subst hn; rw [if_neg (by omega), if_neg (by omega)]
    have : rnat 0 d = 0 := by unfold rnat; simp; omega
    rw [Int.neg_zero, this]; rfl
  · by_cases h : n < 0
    · rw [if_neg (by omega), if_pos h]; omega
    · rw [if_pos (by omega), if_neg h, Int.neg_neg]
/-- How far a rounded quotient is off. -/
theorem rdiv_near {n d : Int} (h1 : -4611686018427387904 ≤ n) (h1' : n ≤ 4611686018427387904) (h2 : 1 ≤ d) (h3 : d ≤ 4611686018427387904) : -d ≤ 2 * (d * rdiv n d) - 2 * n ∧ 2 * (d * rdiv n d) - 2 * n ≤ d := by
  by_cases h : 0 ≤ n
  · rw [rdiv_nn h h1' h2 h3]
    have := rnat_spec h h2
    omega
  · have h4 : rdiv n d = -rdiv (-n) d := by rw [rdiv_neg h1 h1' h2 h3]; omega
    rw [h4, rdiv_nn (by omega) (by omega) h2 h3, Int.mul_neg]
    have := rnat_spec (m := -n) (d := d) (by omega) h2
    omega
theorem mul_near {a b : Int} (ha0 : 0 ≤ a) (ha1 : a ≤ 131072) (hb0 : 0 ≤ b) (hb1 : b ≤ 131072) : 0 ≤ mul a b ∧ -65536 ≤ 131072 * mul a b - 2 * (a * b) ∧ 131072 * mul a b - 2 * (a * b) ≤ 65536 := by
  have h1 : 0 ≤ a * b := Int.mul_nonneg ha0 hb0
  have h2 : a * b ≤ 131072 * 131072 := Int.mul_le_mul ha1 hb1 hb0 (by omega)
  unfold mul
  rw [sat_id (x := a) (by omega) (by omega), sat_id (x := b) (by omega) (by omega)]
  have h3 := rdiv_near (n := a * b) (d := 65536) (by omega) (by omega) (by omega) (by omega)
  have h4 : 0 ≤ rdiv (a * b) 65536 := by rw [rdiv_nn h1 (by omega) (by omega) (by omega)]; exact (rnat_spec h1 (by omega)).1
  rw [sat_id (by omega) (by omega)]
  omega
theorem sub_small {a b : Int} (h0 : -131072 ≤ a) (h1 : a ≤ 131072) (h2 : -131072 ≤ b) (h3 : b ≤ 131072) : sub a b = a - b := by
  unfold sub
  rw [sat_id (x := a) (by omega) (by omega), sat_id (x := b) (by omega) (by omega), sat_id (by omega) (by omega)]
/-- The sine of the upper half of the first quadrant is no less than this. -/
theorem sinq_big {x : Int} (h0 : 51472 ≤ x) (h1 : x ≤ 102944) : 29000 ≤ sinq x := by
  have hz : 32768 ≤ div x 102944 ∧ div x 102944 ≤ 65536 := by
    unfold div
    rw [sat_id (x := x) (by omega) (by omega), show sat 102944 = 102944 from rfl, if_neg (by omega), if_neg (by omega)]
    have := rdiv_near (n := x * 65536) (d := 102944) (by omega) (by omega) (by omega) (by omega)
    rw [sat_id (by omega) (by omega)]
    omega
  unfold sinq
  generalize div x 102944 = z at hz
  have hzz : z * z ≤ 65536 * 65536 := Int.mul_le_mul hz.2 hz.2 (by omega) (by omega)
  obtain ⟨y0, y1, y2⟩ := mul_near (a := z) (b := z) (by omega) (by omega) (by omega) (by omega)
  generalize mul z z = y at y0 y1 y2
  have hy : y ≤ 65536 := by omega
  obtain ⟨q0, q1, q2⟩ := mul_near (a := y) (b := 4569) (by omega) (by omega) (by omega) (by omega)
  generalize mul y 4569 = q at q0 q1 q2
  rw [sub_small (a := 41906) (b := q) (by omega) (by omega) (by omega) (by omega)]
  obtain ⟨u0, u1, u2⟩ := mul_near (a := y) (b := 41906 - q) (by omega) (by omega) (by omega) (by omega)
  have hu : y * (41906 - q) ≤ 65536 * 41906 := Int.mul_le_mul hy (by omega) (by omega) (by omega)
  generalize mul y (41906 - q) = u at u0 u1 u2
  rw [sub_small (a := 102873) (b := u) (by omega) (by omega) (by omega) (by omega)]
  obtain ⟨v0, v1, v2⟩ := mul_near (a := z) (b := 102873 - u) (by omega) (by omega) (by omega) (by omega)
  have hv : 32768 * 60000 ≤ z * (102873 - u) := Int.mul_le_mul hz.1 (by omega) (by omega) (by omega)
  omega
theorem sinq_small {x : Int} (h0 : 0 ≤ x) (h1 : x ≤ 102944) : 0 ≤ sinq x ∧ sinq x ≤ 110000 := by
  have hz : 0 ≤ div x 102944 ∧ div x 102944 ≤ 65536 := by
    unfold div
    rw [sat_id (x := x) (by omega) (by omega), show sat 102944 = 102944 from rfl, if_neg (by omega), if_neg (by omega)]
    have := rdiv_near (n := x * 65536) (d := 102944) (by omega) (by omega) (by omega) (by omega)
    rw [sat_id (by omega) (by omega)]
    omega
  unfold sinq
  generalize div x 102944 = z at hz
  have hzz : z * z ≤ 65536 * 65536 := Int.mul_le_mul hz.2 hz.2 (by omega) (by omega)
  obtain ⟨y0, y1, y2⟩ := mul_near (a := z) (b := z) (by omega) (by omega) (by omega) (by omega)
  generalize mul z z = y at y0 y1 y2
  have hy : y ≤ 65536 := by omega
  obtain ⟨q0, q1, q2⟩ := mul_near (a := y) (b := 4569) (by omega) (by omega) (by omega) (by omega)
  generalize mul y 4569 = q at q0 q1 q2
  rw [sub_small (a := 41906) (b := q) (by omega) (by omega) (by omega) (by omega)]
  obtain ⟨u0, u1, u2⟩ := mul_near (a := y) (b := 41906 - q) (by omega) (by omega) (by omega) (by omega)
  have hu : y * (41906 - q) ≤ 65536 * 41906 := Int.mul_le_mul hy (by omega) (by omega) (by omega)
  generalize mul y (41906 - q) = u at u0 u1 u2
  rw [sub_small (a := 102873) (b := u) (by omega) (by omega) (by omega) (by omega)]
  obtain ⟨v0, v1, v2⟩ := mul_near (a := z) (b := 102873 - u) (by omega) (by omega) (by omega) (by omega)
  have hv : z * (102873 - u) ≤ 65536 * 102873 := Int.mul_le_mul hz.2 (by omega) (by omega) (by omega)
  omega

/-- The absolute values of sine and cosine: two numbers of the first quadrant that add up to it. -/
theorem sin_cos_quad (a : Int) : ∃ x, 0 ≤ x ∧ x ≤ 102944 ∧ (sin a = sinq x ∨ sin a = -sinq x) ∧ (cos a = sinq (102944 - x) ∨ cos a = -sinq (102944 - x)) := by
  have h := absi_norm a
  refine ⟨fold (absi (norm a)), ?_, ?_, ?_, ?_⟩
  · unfold fold; split <;> omega
  · unfold fold; split <;> omega
  · unfold sin; split
    · exact .inr rfl
    · exact .inl rfl
  · unfold cos
    generalize hw : absi (norm a) = w at h
    have hn : norm (102944 - w) = 102944 - w := norm_id (by omega) (by omega)
    unfold sin
    rw [hn]
    by_cases h1 : w > 102944
    · have h2 : fold (absi (102944 - w)) = 102944 - fold w := by
        unfold fold absi; repeat' split
        all_goals omega
      rw [h2]; split
      · exact .inr rfl
      · exact .inl rfl
    · have h2 : fold (absi (102944 - w)) = 102944 - fold w := by
        unfold fold absi; repeat' split
        all_goals omega
      rw [h2]; split
      · exact .inr rfl
      · exact .inl rfl

theorem prod2 {a b m k : Int} (ha0 : -m ≤ a) (ha1 : a ≤ m) (hb0 : -k ≤ b) (hb1 : b ≤ k) : -(m * k) ≤ a * b ∧ a * b ≤ m * k := by
  have h1 : a.natAbs ≤ m.natAbs := by omega
  have h2 : b.natAbs ≤ k.natAbs := by omega
  have h3 := Nat.mul_le_mul h1 h2
  rw [← Int.natAbs_mul, ← Int.natAbs_mul] at h3
  have h4 : 0 ≤ m * k := Int.mul_nonneg (by omega) (by omega)
  omega
theorem root_le {c s l : Int} (hl : 0 ≤ l) (h : c * c + s * s < (l + 1) * (l + 1)) : -l ≤ c ∧ c ≤ l := by
  have hs : 0 ≤ s * s := by rw [← Int.natAbs_mul_self]; omega
  constructor
  · apply Int.not_lt.1; intro hc
    have : (l + 1) * (l + 1) ≤ -c * -c := Int.mul_le_mul (by omega) (by omega) (by omega) (by omega)
    rw [Int.neg_mul_neg] at this
    omega
  · apply Int.not_lt.1; intro hc
    have : (l + 1) * (l + 1) ≤ c * c := Int.mul_le_mul (by omega) (by omega) (by omega) (by omega)
    omega
theorem near_small {c l C : Int} (hl0 : 1 ≤ l) (hc : -l ≤ c ∧ c ≤ l) (hC : -l ≤ 2 * (l * C) - 2 * (c * 65536) ∧ 2 * (l * C) - 2 * (c * 65536) ≤ l) : -65537 ≤ C ∧ C ≤ 65537 := by
  constructor
  · apply Int.not_lt.1; intro h
    have : l * C ≤ l * -65538 := Int.mul_le_mul_of_nonneg_left (by omega) (by omega)
    omega
  · apply Int.not_lt.1; intro h
    have : l * 65538 ≤ l * C := Int.mul_le_mul_of_nonneg_left (by omega) (by omega)
    omega
theorem rot_square (c s l C S e f : Int) (he : l * C = 65536 * c + e) (hf : l * S = 65536 * s + f) :
    (l * l) * (C * C + S * S - 4294967296) = 4294967296 * (c * c + s * s - l * l) + 131072 * (c * e) + 131072 * (s * f) + e * e + f * f := by
  have h : (l * l) * (C * C + S * S - 4294967296) = (l * C) * (l * C) + (l * S) * (l * S) - 4294967296 * (l * l) := by grind
  rw [h, he, hf]; grind

/-- The plain law of a rotation: two numbers, their length, and the two rounded quotients. -/
theorem rot_unit {c s l C S : Int} (hl0 : 29000 ≤ l) (hl : l * l ≤ c * c + s * s) (hl' : c * c + s * s < (l + 1) * (l + 1))
    (hC : -l ≤ 2 * (l * C) - 2 * (c * 65536) ∧ 2 * (l * C) - 2 * (c * 65536) ≤ l) (hS : -l ≤ 2 * (l * S) - 2 * (s * 65536) ∧ 2 * (l * S) - 2 * (s * 65536) ≤ l) :
    -524288 < C * C + S * S - 4294967296 ∧ C * C + S * S - 4294967296 < 524288 ∧ (-131072 ≤ C ∧ C ≤ 131072) ∧ (-131072 ≤ S ∧ S ≤ 131072) := by
  obtain ⟨e, he⟩ : ∃ e, l * C = 65536 * c + e := ⟨l * C - 65536 * c, by omega⟩
  obtain ⟨f, hf⟩ : ∃ f, l * S = 65536 * s + f := ⟨l * S - 65536 * s, by omega⟩
  have hsq := rot_square c s l C S e f he hf
  have c1 := root_le (by omega) hl'
  have s1 := root_le (c := s) (s := c) (l := l) (by omega) (by omega)
  have C1 := near_small (by omega) c1 hC
  have S1 := near_small (by omega) s1 hS
  refine ⟨?_, ?_, by omega, by omega⟩
  all_goals
    have p1 := prod2 (a := c) (b := 2 * e) (m := l) (k := l) c1.1 c1.2 (by omega) (by omega)
    have p2 := prod2 (a := s) (b := 2 * f) (m := l) (k := l) s1.1 s1.2 (by omega) (by omega)
    have p3 := prod2 (a := 2 * e) (b := 2 * e) (m := l) (k := l) (by omega) (by omega) (by omega) (by omega)
    have p4 := prod2 (a := 2 * f) (b := 2 * f) (m := l) (k := l) (by omega) (by omega) (by omega) (by omega)
    have q1 : c * (2 * e) = 2 * (c * e) := by grind
    have q2 : s * (2 * f) = 2 * (s * f) := by grind
    have q3 : (2 * e) * (2 * e) = 4 * (e * e) := by grind
    have q4 : (2 * f) * (2 * f) = 4 * (f * f) := by grind
    have q5 : (l + 1) * (l + 1) = l * l + 2 * l + 1 := by grind
    have q6 : 29000 * l ≤ l * l := Int.mul_le_mul_of_nonneg_right hl0 (by omega)
    have e0 : 0 ≤ e * e := by rw [← Int.natAbs_mul_self]; omega
    have f0 : 0 ≤ f * f := by rw [← Int.natAbs_mul_self]; omega
    rw [q1] at p1; rw [q2] at p2; rw [q3] at p3; rw [q4] at p4; rw [q5] at hl'
    generalize hD : C * C + S * S - 4294967296 = D at hsq ⊢
    apply Int.not_le.1; intro h
  · have : (l * l) * D ≤ (l * l) * -524288 := Int.mul_le_mul_of_nonneg_left h (by omega)
    omega
  · have : (l * l) * 524288 ≤ (l * l) * D := Int.mul_le_mul_of_nonneg_left h (by omega)
    omega

theorem sqrt_big {c s l : Int} (h : 29000 ≤ c ∨ c ≤ -29000 ∨ 29000 ≤ s ∨ s ≤ -29000) (hl0 : 0 ≤ l) (hl : c * c + s * s < (l + 1) * (l + 1)) : 29000 ≤ l := by
  have c1 := root_le hl0 hl
  have s1 := root_le (c := s) (s := c) hl0 (by omega)
  omega

theorem rot_ok (a : Int) : -524288 < rotc a * rotc a + rots a * rots a - 4294967296 ∧ rotc a * rotc a + rots a * rots a - 4294967296 < 524288 ∧ (-131072 ≤ rotc a ∧ rotc a ≤ 131072) ∧ (-131072 ≤ rots a ∧ rots a ≤ 131072) := by
  obtain ⟨x, x0, x1, hs, hc⟩ := sin_cos_quad a
  have b1 := sinq_small x0 x1
  have b2 := sinq_small (x := 102944 - x) (by omega) (by omega)
  have hbig : 29000 ≤ cos a ∨ cos a ≤ -29000 ∨ 29000 ≤ sin a ∨ sin a ≤ -29000 := by
    by_cases h : 51472 ≤ x
    · have := sinq_big h x1; omega
    · have := sinq_big (x := 102944 - x) (by omega) (by omega); omega
  have c1 : -110000 ≤ cos a ∧ cos a ≤ 110000 := by omega
  have s1 : -110000 ≤ sin a ∧ sin a ≤ 110000 := by omega
  have p1 := prod_bounds (m := 110000) (by omega) c1.1 c1.2 c1.1 c1.2
  have p2 := prod_bounds (m := 110000) (by omega) s1.1 s1.2 s1.1 s1.2
  have c0 : 0 ≤ cos a * cos a := by rw [← Int.natAbs_mul_self]; omega
  have s0 : 0 ≤ sin a * sin a := by rw [← Int.natAbs_mul_self]; omega
  obtain ⟨l0, l1, l2⟩ := isqrt_spec (n := cos a * cos a + sin a * sin a) (by omega) (by omega)
  unfold rotc rots rlen
  generalize isqrt (cos a * cos a + sin a * sin a) = l at l0 l1 l2
  have hl := sqrt_big hbig l0 l2
  have hlm : l ≤ 536870911 := by
    apply Int.not_lt.1; intro h
    have : 536870911 * 536870911 ≤ l * l := Int.mul_le_mul (by omega) (by omega) (by omega) (by omega)
    omega
  have k : ∀ c, -110000 ≤ c ∧ c ≤ 110000 → -l ≤ c ∧ c ≤ l → div c l = rdiv (c * 65536) l := fun c hc hcl => by
    unfold div
    rw [sat_id (x := c) (by omega) (by omega), sat_id (x := l) (by omega) (by omega), if_neg (by omega), if_neg (by omega)]
    have h1 := rdiv_near (n := c * 65536) (d := l) (by omega) (by omega) (by omega) (by omega)
    have := near_small (by omega) hcl h1
    exact sat_id (by omega) (by omega)
  have c2 := root_le (by omega) l2
  have s2 := root_le (c := sin a) (s := cos a) (l := l) (by omega) (by omega)
  rw [k _ c1 c2, k _ s1 s2]
  exact rot_unit hl l1 l2 (rdiv_near (by omega) (by omega) (by omega) (by omega)) (rdiv_near (by omega) (by omega) (by omega) (by omega))

/-! ### vectors and transforms, chapters 3 and 4 -/

def lerp (a b t : Int) : Int := add a (mul (sub b a) t)
def prod (n : Int) : Int := sat (rdiv n 65536)
def vsat (v : Vec) : Vec := ⟨sat v.x, sat v.y⟩
def vadd (a b : Vec) : Vec := ⟨add a.x b.x, add a.y b.y⟩
def vsub (a b : Vec) : Vec := ⟨sub a.x b.x, sub a.y b.y⟩
def vscale (v : Vec) (k : Int) : Vec := ⟨mul v.x k, mul v.y k⟩
def vlerp (a b : Vec) (t : Int) : Vec := ⟨lerp a.x b.x t, lerp a.y b.y t⟩
def w64 (n : Int) : Int := IntKind.i64.wrap n
/-- The rotation r, of the vector v. -/
def vrot (r v : Vec) : Vec := ⟨prod (w64 (w64 (sat r.x * sat v.x) - w64 (sat r.y * sat v.y))), prod (w64 (w64 (sat r.y * sat v.x) + w64 (sat r.x * sat v.y)))⟩
def virot (r v : Vec) : Vec := ⟨prod (w64 (w64 (sat r.x * sat v.x) + w64 (sat r.y * sat v.y))), prod (w64 (w64 (sat r.x * sat v.y) - w64 (sat r.y * sat v.x)))⟩
def vdot (a b : Vec) : Int := prod (w64 (w64 (sat a.x * sat b.x) + w64 (sat a.y * sat b.y)))
def vcross (a b : Vec) : Int := prod (w64 (w64 (sat a.x * sat b.y) - w64 (sat a.y * sat b.x)))
def vperp (v : Vec) : Vec := ⟨w64 (0 - sat v.y), sat v.x⟩
def vspin (w : Int) (v : Vec) : Vec := ⟨w64 (0 - mul w v.y), mul w v.x⟩
def vlen2 (v : Vec) : Int := w64 (w64 (sat v.x * sat v.x) + w64 (sat v.y * sat v.y))
def vdist2 (a b : Vec) : Int := w64 (w64 (w64 (sat b.x - sat a.x) * w64 (sat b.x - sat a.x)) + w64 (w64 (sat b.y - sat a.y) * w64 (sat b.y - sat a.y)))
def vlen (v : Vec) : Int := isqrt (vdist2 ⟨0, 0⟩ v)
def vlenR (v : Vec) : Int := isqrt (vlen2 v)
def vnorm (v : Vec) : Vec := ⟨bif vlen v == 0 then 0 else div v.x (vlen v), bif vlen v == 0 then 0 else div v.y (vlen v)⟩
def rot (a : Int) : Vec := ⟨rotc a, rots a⟩

structure Tf where
  px : Int
  py : Int
  a : Int
def Tf.p (t : Tf) : Vec := ⟨t.px, t.py⟩
def inWorld (x : Int) : Bool := bif decide (x ≥ -268435456) then decide (x ≤ 268435456) else false
def Tf.apply (t : Tf) (v : Vec) : Vec := vadd (vrot (rot t.a) v) t.p
def Tf.applyInv (t : Tf) (v : Vec) : Vec := virot (rot t.a) (vsub v t.p)
def turn (a d : Int) : Int := norm (w64 (norm a + d))
def Tf.mul (a b : Tf) : Tf := ⟨(a.apply b.p).x, (a.apply b.p).y, turn a.a (norm b.a)⟩
def Tf.lerp (a b : Tf) (t : Int) : Tf := ⟨Fx.lerp a.px b.px t, Fx.lerp a.py b.py t, turn a.a (Fx.mul (diff a.a b.a) t)⟩
def Tf.move (t : Tf) (c v : Vec) (w dt : Int) : Tf :=
  ⟨sub (add (t.apply c).x (Fx.mul v.x dt)) (vrot (rot (turn t.a (Fx.mul w dt))) c).x, sub (add (t.apply c).y (Fx.mul v.y dt)) (vrot (rot (turn t.a (Fx.mul w dt))) c).y, turn t.a (Fx.mul w dt)⟩
def Tf.valid (t : Tf) : Bool := bif bif bif inWorld t.px then inWorld t.py else false then decide (t.a ≥ -205888) else false then decide (t.a < 205888) else false

def an (x y : Bool) : Bool := bif x then y else false
def orr (x y : Bool) : Bool := bif x then true else y
theorem an_true {x y : Bool} (h : x = true) (h' : y = true) : an x y = true := by subst h h'; rfl
theorem of_an {x y : Bool} (h : an x y = true) : x = true ∧ y = true := by unfold an at h; cases x <;> simp_all
theorem of_orr {x y : Bool} (h : orr x y = false) : x = false ∧ y = false := by unfold orr at h; cases x <;> simp_all
def Vec.eqb (a b : Vec) : Bool := a.x == b.x && (a.y == b.y && true)
def Tf.eqb (a b : Tf) : Bool := a.px == b.px && (a.py == b.py && true) && (a.a == b.a && true)
theorem Vec.eqb_self (a : Vec) : a.eqb a = true := by simp [Vec.eqb]
theorem Vec.eqb_of {a b : Vec} (h : a = b) : a.eqb b = true := by rw [h]; exact b.eqb_self
theorem Tf.eqb_self (a : Tf) : a.eqb a = true := by simp [Tf.eqb]
theorem Tf.eqb_of {a b : Tf} (h : a = b) : a.eqb b = true := by rw [h]; exact b.eqb_self

theorem rdiv_zero (d : Int) : rdiv 0 d = 0 := by
  unfold rdiv
  split
  · rfl
  · rename_i h
    rw [if_neg (by omega)]
    unfold badDiv at h
    unfold rnat; simp; omega
theorem mul_zero_r (x : Int) : mul x 0 = 0 := by
  unfold mul; rw [show sat 0 = 0 from rfl, Int.mul_zero, rdiv_zero]; rfl
theorem mul_zero_l (x : Int) : mul 0 x = 0 := by
  unfold mul; rw [show sat 0 = 0 from rfl, Int.zero_mul, rdiv_zero]; rfl
theorem rdiv_one {s : Int} (h0 : -536870911 ≤ s) (h1 : s ≤ 536870911) : rdiv (65536 * s) 65536 = s := by
  have := rdiv_near (n := 65536 * s) (d := 65536) (by omega) (by omega) (by omega) (by omega)
  omega
theorem prod_one (s : Int) : prod (65536 * sat s) = sat s := by
  have := sat_bounds s
  unfold prod; rw [rdiv_one this.1 this.2, sat_sat]
theorem rot_zero : rot 0 = ⟨65536, 0⟩ := by unfold rot; rw [show rotc 0 = 65536 by decide +kernel, show rots 0 = 0 by decide +kernel]
theorem w64_id {n : Int} (h0 : -9223372036854775808 ≤ n) (h1 : n ≤ 9223372036854775807) : w64 n = n := wrap_i64 h0 h1
theorem vrot_zero (v : Vec) : vrot (rot 0) v = vsat v := by
  have hx := sat_bounds v.x
  have hy := sat_bounds v.y
  rw [rot_zero]
  unfold vrot vsat
  simp only [show sat 65536 = 65536 from rfl, show sat 0 = 0 from rfl, Int.zero_mul]
  rw [w64_id (n := 65536 * sat v.x) (by omega) (by omega), w64_id (n := 65536 * sat v.y) (by omega) (by omega), show w64 0 = 0 from rfl, Int.sub_zero, Int.zero_add, w64_id (n := 65536 * sat v.x) (by omega) (by omega), w64_id (n := 65536 * sat v.y) (by omega) (by omega), prod_one, prod_one]
theorem virot_zero (v : Vec) : virot (rot 0) v = vsat v := by
  have hx := sat_bounds v.x
  have hy := sat_bounds v.y
  rw [rot_zero]
  unfold virot vsat
  simp only [show sat 65536 = 65536 from rfl, show sat 0 = 0 from rfl, Int.zero_mul]
  rw [w64_id (n := 65536 * sat v.x) (by omega) (by omega), w64_id (n := 65536 * sat v.y) (by omega) (by omega), show w64 0 = 0 from rfl, Int.sub_zero, Int.add_zero, w64_id (n := 65536 * sat v.x) (by omega) (by omega), w64_id (n := 65536 * sat v.y) (by omega) (by omega), prod_one, prod_one]
theorem vadd_sat (a b : Vec) : vadd (vsat a) b = vadd a b := by simp only [vadd, vsat, add, sat_sat]
theorem vsat_vsub (a b : Vec) : vsat (vsub a b) = vsub a b := by simp only [vsub, vsat, sub, sat_sat]
theorem apply_zero (x y : Int) (v : Vec) : Tf.apply ⟨x, y, 0⟩ v = vadd v ⟨x, y⟩ := by unfold Tf.apply; rw [vrot_zero, vadd_sat]; rfl
theorem applyInv_zero (x y : Int) (v : Vec) : Tf.applyInv ⟨x, y, 0⟩ v = vsub v ⟨x, y⟩ := by unfold Tf.applyInv; rw [virot_zero, vsat_vsub]; rfl
theorem inWorld_iff (x : Int) : inWorld x = true ↔ -268435456 ≤ x ∧ x ≤ 268435456 := by
  unfold inWorld
  by_cases h : x ≥ -268435456 <;> simp [h] <;> omega
theorem valid_iff (t : Tf) : t.valid = true ↔ (-268435456 ≤ t.px ∧ t.px ≤ 268435456) ∧ (-268435456 ≤ t.py ∧ t.py ≤ 268435456) ∧ -205888 ≤ t.a ∧ t.a < 205888 := by
  rw [← inWorld_iff, ← inWorld_iff]
  unfold Tf.valid
  cases inWorld t.px <;> cases inWorld t.py <;> by_cases h : t.a ≥ -205888 <;> simp [h] <;> omega
theorem add_zero {x : Int} (h0 : -536870911 ≤ x) (h1 : x ≤ 536870911) : add x 0 = x := by
  unfold add; rw [show sat 0 = 0 from rfl, Int.add_zero, sat_sat, sat_id h0 h1]
theorem turn_zero {a : Int} (h0 : -205888 ≤ a) (h1 : a < 205888) : turn a 0 = a := by
  unfold turn; rw [norm_id h0 h1, Int.add_zero, w64_id (by omega) (by omega), norm_id h0 h1]
theorem turn_bounds (a d : Int) : -205888 ≤ turn a d ∧ turn a d < 205888 := norm_bounds _
theorem lerp_zero (a b : Tf) (h : a.valid = true) : a.lerp b 0 = a := by
  rw [valid_iff] at h
  unfold Tf.lerp lerp
  rw [mul_zero_r, mul_zero_r, mul_zero_r, add_zero (by omega) (by omega), add_zero (by omega) (by omega), turn_zero (by omega) (by omega)]
/-- A rotated local point is small. -/
theorem prod_small {a b c d : Int} (ha : -131072 ≤ a ∧ a ≤ 131072) (hb : -1048576 ≤ b ∧ b ≤ 1048576) (hc : -131072 ≤ c ∧ c ≤ 131072) (hd : -1048576 ≤ d ∧ d ≤ 1048576) :
    (-4194305 ≤ prod (w64 (w64 (a * b) - w64 (c * d))) ∧ prod (w64 (w64 (a * b) - w64 (c * d))) ≤ 4194305) ∧ -4194305 ≤ prod (w64 (w64 (a * b) + w64 (c * d))) ∧ prod (w64 (w64 (a * b) + w64 (c * d))) ≤ 4194305 := by
  have p1 := prod2 (a := a) (b := b) ha.1 ha.2 hb.1 hb.2
  have p2 := prod2 (a := c) (b := d) hc.1 hc.2 hd.1 hd.2
  rw [w64_id (n := a * b) (by omega) (by omega), w64_id (n := c * d) (by omega) (by omega), w64_id (n := a * b - c * d) (by omega) (by omega), w64_id (n := a * b + c * d) (by omega) (by omega)]
  have q1 := rdiv_near (n := a * b - c * d) (d := 65536) (by omega) (by omega) (by omega) (by omega)
  have q2 := rdiv_near (n := a * b + c * d) (d := 65536) (by omega) (by omega) (by omega) (by omega)
  unfold prod
  rw [sat_id (by omega) (by omega), sat_id (by omega) (by omega)]
  omega
theorem vrot_small {a : Int} {c : Vec} (hx : -1048576 ≤ c.x ∧ c.x ≤ 1048576) (hy : -1048576 ≤ c.y ∧ c.y ≤ 1048576) :
    (-4194305 ≤ (vrot (rot a) c).x ∧ (vrot (rot a) c).x ≤ 4194305) ∧ -4194305 ≤ (vrot (rot a) c).y ∧ (vrot (rot a) c).y ≤ 4194305 := by
  obtain ⟨_, _, h3, h4⟩ := rot_ok a
  unfold vrot rot
  simp only
  rw [sat_id (x := rotc a) (by omega) (by omega), sat_id (x := rots a) (by omega) (by omega), sat_id (x := c.x) (by omega) (by omega), sat_id (x := c.y) (by omega) (by omega)]
  exact ⟨(prod_small h3 hx h4 hy).1, (prod_small h4 hx h3 hy).2⟩
theorem move_same {t : Tf} {c v : Vec} {w dt : Int} (ht : t.valid = true) (hx : -1048576 ≤ c.x ∧ c.x ≤ 1048576) (hy : -1048576 ≤ c.y ∧ c.y ≤ 1048576) (h1 : mul v.x dt = 0) (h2 : mul v.y dt = 0) (h3 : mul w dt = 0) : t.move c v w dt = t := by
  rw [valid_iff] at ht
  unfold Tf.move
  rw [h1, h2, h3, turn_zero (by omega) (by omega)]
  obtain ⟨r1, r2⟩ := vrot_small (a := t.a) hx hy
  have k : ∀ r p : Int, -4194305 ≤ r ∧ r ≤ 4194305 → -268435456 ≤ p ∧ p ≤ 268435456 → sub (add (add r p) 0) r = p := fun r p hr hp => by
    have e : add r p = r + p := by unfold add; rw [sat_id (x := r) (by omega) (by omega), sat_id (x := p) (by omega) (by omega), sat_id (by omega) (by omega)]
    rw [e, add_zero (by omega) (by omega)]
    unfold sub
    rw [sat_id (x := r + p) (by omega) (by omega), sat_id (x := r) (by omega) (by omega), sat_id (by omega) (by omega)]
    omega
  have e1 : (t.apply c).x = add (vrot (rot t.a) c).x t.px := rfl
  have e2 : (t.apply c).y = add (vrot (rot t.a) c).y t.py := rfl
  rw [e1, e2, k _ _ r1 ht.1, k _ _ r2 ht.2.1]

/-! ### joints, chapter 24 -/

end Go.Fx
