/- PLAIN: fixed-point numbers. -/
import Derived.Test.YtpjpgfiljedfcaaEngLoop
namespace Go.Fx
open Go Go.Eng

/-! ### wrapping -/

theorem wrap_i64 {n : Int} (h0 : -9223372036854775808 ≤ n) (h1 : n ≤ 9223372036854775807) : IntKind.i64.wrap n = n := by
  simp only [IntKind.wrap, IntKind.bits, IntKind.signed]
  simp
  omega

theorem wrap_u64 {n : Int} (h0 : 0 ≤ n) (h1 : n ≤ 18446744073709551615) : IntKind.u64.wrap n = n := by
  simp only [IntKind.wrap, IntKind.bits, IntKind.signed]
  simp
  omega

theorem or_add {r : Int} {k : Nat} (h0 : 0 ≤ r) (hm : r % 2 ^ (k + 1) = 0) (h1 : r + 2 ^ (k + 1) ≤ 4294967296) :
    IntKind.i64.wrap ((BitVec.ofInt IntKind.i64.bits r ||| BitVec.ofInt IntKind.i64.bits (2 ^ k)).toNat) = r + 2 ^ k := by
  obtain ⟨R, rfl⟩ := Int.eq_ofNat_of_zero_le h0
  have hp : (2 : Int) ^ k = ((2 ^ k : Nat) : Int) := by simp
  have hp' : (2 : Int) ^ (k + 1) = ((2 ^ (k + 1) : Nat) : Int) := by simp
  rw [hp'] at hm h1
  have hm' : R % 2 ^ (k + 1) = 0 := by omega
  have hlt : (2 : Nat) ^ k < 2 ^ (k + 1) := Nat.pow_lt_pow_right (by omega) (by omega)
  have hR : R + 2 ^ (k + 1) ≤ 4294967296 := by omega
  have hor : R ||| 2 ^ k = R + 2 ^ k := by
    have := Nat.two_pow_add_eq_or_of_lt hlt (R / 2 ^ (k + 1))
    rw [Nat.mul_div_cancel' (Nat.dvd_of_mod_eq_zero hm')] at this
    exact this.symm
  rw [hp]
  show IntKind.i64.wrap ((BitVec.ofInt 64 (R : Int) ||| BitVec.ofInt 64 ((2 ^ k : Nat) : Int)).toNat) = _
  rw [BitVec.ofInt_natCast, BitVec.ofInt_natCast, BitVec.toNat_or, BitVec.toNat_ofNat, BitVec.toNat_ofNat, Nat.mod_eq_of_lt (by omega), Nat.mod_eq_of_lt (by omega), hor]
  rw [wrap_i64 (by omega) (by omega)]
  simp

/-! ### the integer square root -/

/-- A sum of bits, the highest first. -/
def isqF : Nat → Int → Int → Int
  | 0, _, r => r
  | k + 1, n, r => isqF k n (if (r + 2 ^ k) * (r + 2 ^ k) ≤ n then r + 2 ^ k else r)

def isqrt (n : Int) : Int := if n < 0 ∨ 4611686018427387904 < n then 0 else isqF 32 n 0

theorem isqF_spec : ∀ (k : Nat) (n r : Int), 0 ≤ r → r * r ≤ n → n < (r + 2 ^ k) * (r + 2 ^ k) → r ≤ isqF k n r ∧ isqF k n r * isqF k n r ≤ n ∧ n < (isqF k n r + 1) * (isqF k n r + 1)
  | 0, n, r, h0, h1, h2 => ⟨Int.le_refl _, h1, by simpa [isqF] using h2⟩
  | k + 1, n, r, h0, h1, h2 => by
    have hp : (0 : Int) < 2 ^ k := Int.pow_pos (by omega)
    have e : r + 2 ^ (k + 1) = r + 2 ^ k + 2 ^ k := by rw [Int.pow_succ]; omega
    rw [e] at h2
    simp only [isqF]
    split
    · rename_i h
      obtain ⟨a, b, c⟩ := isqF_spec k n (r + 2 ^ k) (by omega) h h2
      exact ⟨by omega, b, c⟩
    · rename_i h
      exact isqF_spec k n r h0 h1 (by omega)

theorem isqrt_spec {n : Int} (h0 : 0 ≤ n) (h1 : n ≤ 4611686018427387904) : 0 ≤ isqrt n ∧ isqrt n * isqrt n ≤ n ∧ n < (isqrt n + 1) * (isqrt n + 1) := by
  unfold isqrt
  rw [if_neg (by omega)]
  exact isqF_spec 32 n 0 (Int.le_refl _) (by simpa using h0) (by simp; omega)

/-- The bit that is tried with 'k' steps to go. -/
def bitv : Nat → Int
  | 0 => 0
  | k + 1 => 2 ^ k

/-- The loop's invariant: k steps to go. -/
structure IsqInv (n : Int) (x : Nat × Int) : Prop where
  k : x.1 ≤ 32
  r0 : 0 ≤ x.2
  m : x.2 % 2 ^ x.1 = 0
  b : x.2 + 2 ^ x.1 ≤ 4294967296
  e : isqF x.1 n x.2 = isqF 32 n 0

theorem pow_le {k : Nat} (h : k ≤ 32) : (2 : Int) ^ k ≤ 4294967296 := by
  have h1 : (2 : Nat) ^ k ≤ 2 ^ 32 := Nat.pow_le_pow_right (by omega) h
  have h2 : ((2 ^ k : Nat) : Int) ≤ ((2 ^ 32 : Nat) : Int) := Int.ofNat_le.2 h1
  simpa using h2

theorem IsqInv.start (n : Int) : IsqInv n (32, 0) := ⟨Nat.le_refl _, Int.le_refl _, by simp, by simp, rfl⟩

theorem pow_pos2 (k : Nat) : (0 : Int) < 2 ^ k := Int.pow_pos (by omega)

theorem mod_half {r : Int} {k : Nat} (h : r % 2 ^ (k + 1) = 0) : r % 2 ^ k = 0 ∧ (r + 2 ^ k) % 2 ^ k = 0 := by
  rw [Int.pow_succ] at h
  have hd : (2 : Int) ^ k * 2 ∣ r := Int.dvd_of_emod_eq_zero h
  have h2 : (2 : Int) ^ k ∣ r := Int.dvd_trans (Int.dvd_mul_right _ _) hd
  exact ⟨Int.emod_eq_zero_of_dvd h2, Int.emod_eq_zero_of_dvd (Int.dvd_add h2 (Int.dvd_refl _))⟩

theorem IsqInv.yes {n : Int} {k : Nat} {r : Int} (h : IsqInv n (k + 1, r)) (hle : (r + 2 ^ k) * (r + 2 ^ k) ≤ n) : IsqInv n (k, r + 2 ^ k) := by
  obtain ⟨h1, h2, h3, h4, h5⟩ := h
  simp only at h1 h2 h3 h4 h5
  have hp := pow_pos2 k
  refine ⟨by simp only; omega, by simp only; omega, (mod_half h3).2, ?_, ?_⟩
  · simp only; rw [Int.pow_succ] at h4; omega
  · simp only [isqF, if_pos hle] at h5; exact h5

theorem IsqInv.no {n : Int} {k : Nat} {r : Int} (h : IsqInv n (k + 1, r)) (hle : ¬ (r + 2 ^ k) * (r + 2 ^ k) ≤ n) : IsqInv n (k, r) := by
  obtain ⟨h1, h2, h3, h4, h5⟩ := h
  simp only at h1 h2 h3 h4 h5
  have hp := pow_pos2 k
  refine ⟨by simp only; omega, h2, (mod_half h3).1, ?_, ?_⟩
  · simp only; rw [Int.pow_succ] at h4; omega
  · simp only [isqF, if_neg hle] at h5; exact h5

theorem bitv_half (k : Nat) : (bitv (k + 1)) / 2 = bitv k := by
  cases k with
  | zero => rfl
  | succ k => simp only [bitv, Int.pow_succ]; omega

theorem sq_le {s : Int} (h0 : 0 ≤ s) (h1 : s ≤ 4294967295) : 0 ≤ s * s ∧ s * s ≤ 18446744065119617025 :=
  ⟨Int.mul_nonneg h0 h0, Int.mul_le_mul h1 h1 h0 (by omega)⟩

/-- The program's test. -/
theorem IsqInv.test {n : Int} {k : Nat} {r : Int} (h : IsqInv n (k + 1, r)) (h0 : 0 ≤ n) (h1 : n ≤ 4611686018427387904) :
    IntKind.i64.wrap ((BitVec.ofInt IntKind.i64.bits r ||| BitVec.ofInt IntKind.i64.bits (bitv (k + 1))).toNat) = r + 2 ^ k ∧
    (IntKind.u64.wrap (IntKind.u64.wrap (r + 2 ^ k) * IntKind.u64.wrap (r + 2 ^ k)) ≤ IntKind.u64.wrap n ↔ (r + 2 ^ k) * (r + 2 ^ k) ≤ n) := by
  obtain ⟨a1, a2, a3, a4, _⟩ := h
  simp only at a1 a2 a3 a4
  have hp := pow_pos2 k
  have hb : r + 2 ^ k ≤ 4294967295 := by rw [Int.pow_succ] at a4; omega
  obtain ⟨s1, s2⟩ := sq_le (s := r + 2 ^ k) (by omega) hb
  refine ⟨or_add a2 a3 a4, ?_⟩
  rw [wrap_u64 (n := r + 2 ^ k) (by omega) (by omega), wrap_u64 s1 (by omega), wrap_u64 (n := n) (by omega) (by omega)]

/-- The reference's test. -/
theorem IsqInv.test' {n : Int} {k : Nat} {r : Int} (h : IsqInv n (k + 1, r)) (h0 : 0 ≤ n) (h1 : n ≤ 4611686018427387904) :
    IntKind.i64.wrap (r + bitv (k + 1)) = r + 2 ^ k ∧ r + 2 ^ k ≠ 0 ∧ (r + 2 ^ k ≤ IntKind.i64.wrap (n.tdiv (r + 2 ^ k)) ↔ (r + 2 ^ k) * (r + 2 ^ k) ≤ n) := by
  obtain ⟨a1, a2, a3, a4, _⟩ := h
  simp only at a1 a2 a3 a4
  have hp := pow_pos2 k
  have hb : r + 2 ^ k ≤ 4294967295 := by rw [Int.pow_succ] at a4; omega
  have hs : 0 < r + 2 ^ k := by omega
  refine ⟨by simp only [bitv]; exact wrap_i64 (by omega) (by omega), by omega, ?_⟩
  rw [Int.tdiv_eq_ediv_of_nonneg h0]
  have hd0 : 0 ≤ n / (r + 2 ^ k) := Int.ediv_nonneg h0 (by omega)
  have hd1 : n / (r + 2 ^ k) ≤ n := Int.ediv_le_self _ h0
  rw [wrap_i64 (by omega) (by omega)]
  exact Int.le_ediv_iff_mul_le hs

theorem bitv_shr (k : Nat) : (bitv (k + 1)).fdiv (2 ^ min (Int.toNat 1) IntKind.i64.bits) = bitv k := by
  have : (2 : Int) ^ min (Int.toNat 1) IntKind.i64.bits = 2 := by decide
  rw [this, Int.fdiv_eq_ediv_of_nonneg _ (by omega)]
  exact bitv_half k

theorem bitv_bounds {k : Nat} (h : k ≤ 32) : 0 ≤ bitv k ∧ bitv k ≤ 4294967296 := by
  cases k with
  | zero => exact ⟨Int.le_refl _, by simp [bitv]⟩
  | succ k => exact ⟨Int.le_of_lt (pow_pos2 k), pow_le (by omega)⟩

theorem bitv_tdiv {k : Nat} (h : k + 1 ≤ 32) : IntKind.i64.wrap ((bitv (k + 1)).tdiv 2) = bitv k := by
  have := bitv_bounds (k := k + 1) h
  have := bitv_bounds (k := k) (by omega)
  rw [Int.tdiv_eq_ediv_of_nonneg (by omega), bitv_half]
  exact wrap_i64 (by omega) (by omega)

theorem bitv_pos (k : Nat) : bitv (k + 1) > 0 := pow_pos2 k

/-! ### the numbers of chapter 1 -/

def sat (x : Int) : Int := if x > 536870911 then 536870911 else if x < -536870911 then -536870911 else x
def add (a b : Int) : Int := sat (sat a + sat b)
def sub (a b : Int) : Int := sat (sat a - sat b)
def clamp (x l h : Int) : Int := if l > h ∨ x < l then l else if x > h then h else x
/-- A quotient of numbers that are not negative, to the nearest. -/
def rnat (m d : Int) : Int := if m % d ≥ d - m % d then m / d + 1 else m / d
def badDiv (n d : Int) : Prop := d < 1 ∨ d > 4611686018427387904 ∨ n < -4611686018427387904 ∨ n > 4611686018427387904
instance (n d : Int) : Decidable (badDiv n d) := by unfold badDiv; infer_instance
def rdiv (n d : Int) : Int := if badDiv n d then 0 else if n < 0 then -rnat (-n) d else rnat n d
def mul (a b : Int) : Int := sat (rdiv (sat a * sat b) 65536)
def div (a b : Int) : Int :=
  if sat b = 0 then (if sat a > 0 then 536870911 else if sat a < 0 then -536870911 else 0)
  else if sat b < 0 then sat (rdiv (-(sat a * 65536)) (-sat b)) else sat (rdiv (sat a * 65536) (sat b))

theorem sat_bounds (x : Int) : -536870911 ≤ sat x ∧ sat x ≤ 536870911 := by unfold sat; split <;> (try split) <;> omega
theorem sat_id {x : Int} (h0 : -536870911 ≤ x) (h1 : x ≤ 536870911) : sat x = x := by unfold sat; rw [if_neg (by omega), if_neg (by omega)]
theorem sat_sat (x : Int) : sat (sat x) = sat x := sat_id (sat_bounds x).1 (sat_bounds x).2
theorem sat_neg (x : Int) : sat (-x) = -sat x := by unfold sat; repeat' split
                                                    all_goals omega
theorem mul_bounds (a b : Int) : -536870911 ≤ mul a b ∧ mul a b ≤ 536870911 := sat_bounds _
theorem add_bounds (a b : Int) : -536870911 ≤ add a b ∧ add a b ≤ 536870911 := sat_bounds _
theorem sub_bounds (a b : Int) : -536870911 ≤ sub a b ∧ sub a b ≤ 536870911 := sat_bounds _
theorem div_bounds (a b : Int) : -536870911 ≤ div a b ∧ div a b ≤ 536870911 := by
  unfold div
  split
  · split
    · omega
    · split <;> omega
  · split <;> exact sat_bounds _

theorem prod_bounds {a b m : Int} (hm : 0 ≤ m) (ha0 : -m ≤ a) (ha1 : a ≤ m) (hb0 : -m ≤ b) (hb1 : b ≤ m) : -(m * m) ≤ a * b ∧ a * b ≤ m * m := by
  have h1 : a.natAbs ≤ m.natAbs := by omega
  have h2 : b.natAbs ≤ m.natAbs := by omega
  have h3 := Nat.mul_le_mul h1 h2
  rw [← Int.natAbs_mul, ← Int.natAbs_mul] at h3
  have h4 : 0 ≤ m * m := Int.mul_nonneg hm hm
  omega

theorem sat_mul (a b : Int) : -288230375077969921 ≤ sat a * sat b ∧ sat a * sat b ≤ 288230375077969921 := by
  have h := prod_bounds (a := sat a) (b := sat b) (m := 536870911) (by omega) (sat_bounds a).1 (sat_bounds a).2 (sat_bounds b).1 (sat_bounds b).2
  omega

theorem rnat_spec {m d : Int} (hm : 0 ≤ m) (hd : 1 ≤ d) : 0 ≤ rnat m d ∧ rnat m d ≤ m / d + 1 ∧ 2 * (d * rnat m d) ≤ 2 * m + d ∧ 2 * m < 2 * (d * rnat m d) + d + 1 := by
  have h1 := Int.emod_nonneg m (by omega : d ≠ 0)
  have h2 := Int.emod_lt_of_pos m (by omega : 0 < d)
  have h3 := Int.mul_ediv_add_emod m d
  have h4 : 0 ≤ m / d := Int.ediv_nonneg hm (by omega)
  unfold rnat
  split
  · have h5 : d * (m / d + 1) = d * (m / d) + d := by rw [Int.mul_add]; omega
    rw [h5]
    omega
  · omega

/-- The program's code, as it computes. -/
def satP (x : Int) : Int := if 536870911 < if -536870911 > x then -536870911 else x then 536870911 else if -536870911 > x then -536870911 else x
theorem satP_eq (x : Int) : satP x = sat x := by unfold satP sat; repeat' split
                                                 all_goals omega
def satR (x : Int) : Int := bif decide (x > 536870911) then 536870911 else bif decide (x < -536870911) then -536870911 else x
theorem satR_eq (x : Int) : satR x = sat x := by simp only [satR, sat, Bool.cond_decide]
def addP (a b : Int) : Int := sat (IntKind.i64.wrap (sat a + sat b))
theorem addP_eq (a b : Int) : addP a b = add a b := by
  have := sat_bounds a; have := sat_bounds b
  unfold addP add; rw [wrap_i64 (by omega) (by omega)]
def subP (a b : Int) : Int := sat (IntKind.i64.wrap (sat a - sat b))
theorem subP_eq (a b : Int) : subP a b = sub a b := by
  have := sat_bounds a; have := sat_bounds b
  unfold subP sub; rw [wrap_i64 (by omega) (by omega)]
def mulP (a b : Int) : Int := sat (rdiv (IntKind.i64.wrap (sat a * sat b)) 65536)
theorem mulP_eq (a b : Int) : mulP a b = mul a b := by
  have := sat_mul a b
  unfold mulP mul; rw [wrap_i64 (by omega) (by omega)]
def clampP (x y z : Int) : Int := bif bif decide (y > z) then true else decide (x < y) then y else bif decide (x > z) then z else x
theorem clampP_eq (x y z : Int) : clampP x y z = clamp x y z := by
  unfold clampP clamp
  by_cases h1 : y > z <;> by_cases h2 : x < y <;> simp [h1, h2, Bool.cond_decide]
def badB (x y : Int) : Bool := bif bif bif decide (y < 1) then true else decide (y > 4611686018427387904) then true else decide (x < -4611686018427387904) then true else decide (x > 4611686018427387904)
theorem badB_eq (x y : Int) : badB x y = decide (badDiv x y) := by
  unfold badB badDiv
  by_cases h1 : y < 1 <;> by_cases h2 : y > 4611686018427387904 <;> by_cases h3 : x < -4611686018427387904 <;> simp [h1, h2, h3]
def rdivP (x y : Int) : Int :=
  bif badB x y then 0
  else bif decide (x.tmod y ≥ IntKind.i64.wrap (y - x.tmod y)) then IntKind.i64.wrap (IntKind.i64.wrap (x.tdiv y) + 1)
  else bif decide (IntKind.i64.wrap (0 - x.tmod y) ≥ IntKind.i64.wrap (y + x.tmod y)) then IntKind.i64.wrap (IntKind.i64.wrap (x.tdiv y) - 1)
  else IntKind.i64.wrap (x.tdiv y)
theorem ediv_small {m d : Int} (hm : 0 ≤ m) (hd : 1 ≤ d) : 0 ≤ m / d ∧ m / d ≤ m ∧ 0 ≤ m % d ∧ m % d < d ∧ m % d ≤ m :=
  ⟨Int.ediv_nonneg hm (by omega), Int.ediv_le_self _ hm, Int.emod_nonneg _ (by omega), Int.emod_lt_of_pos _ (by omega), by
    have h1 := Int.mul_ediv_add_emod m d
    have h2 : 0 ≤ d * (m / d) := Int.mul_nonneg (by omega) (Int.ediv_nonneg hm (by omega))
    omega⟩
theorem rdivP_eq (x y : Int) : rdivP x y = rdiv x y := by
  unfold rdivP rdiv
  rw [badB_eq]
  by_cases hb : badDiv x y
  · simp [hb]
  · simp only [hb, decide_false, cond_false, if_false, Bool.cond_decide]
    unfold badDiv at hb
    by_cases hx : x < 0
    · obtain ⟨m, rfl⟩ : ∃ m, x = -m := ⟨-x, by omega⟩
      obtain ⟨h1, h2, h3, h4, h5⟩ := ediv_small (m := m) (d := y) (by omega) (by omega)
      rw [Int.neg_tdiv, Int.neg_tmod, Int.tdiv_eq_ediv_of_nonneg (by omega), Int.tmod_eq_emod_of_nonneg (by omega), if_pos hx, Int.neg_neg]
      rw [wrap_i64 (n := y - -(m % y)) (by omega) (by omega), wrap_i64 (n := y + -(m % y)) (by omega) (by omega), wrap_i64 (n := 0 - -(m % y)) (by omega) (by omega), wrap_i64 (n := -(m / y)) (by omega) (by omega), wrap_i64 (n := -(m / y) - 1) (by omega) (by omega), wrap_i64 (n := -(m / y) + 1) (by omega) (by omega)]
      unfold rnat
      repeat' split
      all_goals omega
    · obtain ⟨h1, h2, h3, h4, h5⟩ := ediv_small (m := x) (d := y) (by omega) (by omega)
      rw [Int.tdiv_eq_ediv_of_nonneg (by omega), Int.tmod_eq_emod_of_nonneg (by omega), if_neg hx]
      rw [wrap_i64 (n := y - (x % y)) (by omega) (by omega), wrap_i64 (n := y + (x % y)) (by omega) (by omega), wrap_i64 (n := 0 - (x % y)) (by omega) (by omega), wrap_i64 (n := (x / y)) (by omega) (by omega), wrap_i64 (n := (x / y) - 1) (by omega) (by omega), wrap_i64 (n := (x / y) + 1) (by omega) (by omega)]
      unfold rnat
      repeat' split
      all_goals omega
def rdivQ (x y : Int) : List Prop := [badB x y = false → y ≠ 0, badB x y = false → y ≠ 0]
theorem rdivQ_ok (x y : Int) : Conj (rdivQ x y) := by
  have h : badB x y = false → y ≠ 0 := by
    rw [badB_eq]; intro h; simp only [decide_eq_false_iff_not] at h; unfold badDiv at h; omega
  exact ⟨h, h, trivial⟩
def outR (x : Int) : Bool := bif decide (x > 4611686018427387904) then true else decide (x < -4611686018427387904)
def badR (x y : Int) : Bool := bif bif decide (y < 1) then true else outR y then true else outR x
theorem badR_eq (x y : Int) : badR x y = decide (badDiv x y) := by
  unfold badR outR badDiv
  by_cases h1 : y < 1
  · simp [h1]
  · have h2 : ¬ y < -4611686018427387904 := by omega
    by_cases h3 : y > 4611686018427387904 <;> by_cases h4 : x < -4611686018427387904 <;> by_cases h5 : x > 4611686018427387904 <;> simp [h1, h2, h3, h4, h5]
def restR (m y : Int) : Int := IntKind.i64.wrap (m - IntKind.i64.wrap (IntKind.i64.wrap (m.tdiv y) * y))
def rdivR (x y : Int) : Int :=
  bif badR x y then 0
  else bif decide (x < 0) then
    (bif decide (restR (IntKind.i64.wrap (0 - x)) y ≥ IntKind.i64.wrap (y - restR (IntKind.i64.wrap (0 - x)) y)) then
      (bif decide (x < 0) then IntKind.i64.wrap (0 - IntKind.i64.wrap (IntKind.i64.wrap ((IntKind.i64.wrap (0 - x)).tdiv y) + 1)) else IntKind.i64.wrap (IntKind.i64.wrap ((IntKind.i64.wrap (0 - x)).tdiv y) + 1))
     else
      (bif decide (x < 0) then IntKind.i64.wrap (0 - IntKind.i64.wrap ((IntKind.i64.wrap (0 - x)).tdiv y)) else IntKind.i64.wrap ((IntKind.i64.wrap (0 - x)).tdiv y)))
  else
    (bif decide (restR x y ≥ IntKind.i64.wrap (y - restR x y)) then
      (bif decide (x < 0) then IntKind.i64.wrap (0 - IntKind.i64.wrap (IntKind.i64.wrap (x.tdiv y) + 1)) else IntKind.i64.wrap (IntKind.i64.wrap (x.tdiv y) + 1))
     else
      (bif decide (x < 0) then IntKind.i64.wrap (0 - IntKind.i64.wrap (x.tdiv y)) else IntKind.i64.wrap (x.tdiv y)))
theorem restR_eq {m y : Int} (hm : 0 ≤ m) (hm1 : m ≤ 4611686018427387904) (hy : 1 ≤ y) : restR m y = m % y := by
  obtain ⟨h1, h2, h3, h4, h5⟩ := ediv_small (m := m) (d := y) hm hy
  have h6 := Int.mul_ediv_add_emod m y
  unfold restR
  rw [Int.tdiv_eq_ediv_of_nonneg hm, wrap_i64 (n := m / y) (by omega) (by omega), Int.mul_comm (m / y) y, wrap_i64 (n := y * (m / y)) (by omega) (by omega), wrap_i64 (by omega) (by omega)]
  omega
theorem rdivR_eq (x y : Int) : rdivR x y = rdiv x y := by
  unfold rdivR rdiv
  rw [badR_eq]
  by_cases hb : badDiv x y
  · simp [hb]
  · simp only [hb, decide_false, cond_false, if_false, Bool.cond_decide]
    unfold badDiv at hb
    by_cases hx : x < 0
    · simp only [hx, if_true]
      rw [wrap_i64 (n := 0 - x) (by omega) (by omega), show 0 - x = -x by omega]
      generalize hm : -x = m
      obtain ⟨h1, h2, h3, h4, h5⟩ := ediv_small (m := m) (d := y) (by omega) (by omega)
      rw [restR_eq (by omega) (by omega) (by omega), Int.tdiv_eq_ediv_of_nonneg (by omega), wrap_i64 (n := y - m % y) (by omega) (by omega), wrap_i64 (n := m / y) (by omega) (by omega), wrap_i64 (n := m / y + 1) (by omega) (by omega), wrap_i64 (n := 0 - (m / y + 1)) (by omega) (by omega), wrap_i64 (n := 0 - (m / y)) (by omega) (by omega)]
      unfold rnat
      repeat' split
      all_goals omega
    · simp only [hx, if_false]
      obtain ⟨h1, h2, h3, h4, h5⟩ := ediv_small (m := x) (d := y) (by omega) (by omega)
      rw [restR_eq (by omega) (by omega) (by omega), Int.tdiv_eq_ediv_of_nonneg (by omega), wrap_i64 (n := y - x % y) (by omega) (by omega), wrap_i64 (n := x / y) (by omega) (by omega), wrap_i64 (n := x / y + 1) (by omega) (by omega)]
      rfl
def rdivRQ (x y : Int) : List Prop := [badR x y = false → decide (x < 0) = true → y ≠ 0, badR x y = false → decide (x < 0) = false → y ≠ 0]
theorem rdivRQ_ok (x y : Int) : Conj (rdivRQ x y) := by
  have h : badR x y = false → y ≠ 0 := by
    rw [badR_eq]; intro h; simp only [decide_eq_false_iff_not] at h; unfold badDiv at h; omega
  exact ⟨fun e _ => h e, fun e _ => h e, trivial⟩
def divP (x y : Int) : Int :=
  bif sat y == 0 then IntKind.i64.wrap (clamp (IntKind.i64.wrap (sat x * 65536)) (-1) 1 * 536870911)
  else bif decide (sat y < 0) then sat (rdiv (IntKind.i64.wrap (0 - IntKind.i64.wrap (sat x * 65536))) (IntKind.i64.wrap (0 - sat y)))
  else sat (rdiv (IntKind.i64.wrap (sat x * 65536)) (sat y))
theorem divP_eq (x y : Int) : divP x y = div x y := by
  have hx := sat_bounds x; have hy := sat_bounds y
  unfold divP div
  rw [wrap_i64 (n := sat x * 65536) (by omega) (by omega), wrap_i64 (n := 0 - sat x * 65536) (by omega) (by omega), wrap_i64 (n := 0 - sat y) (by omega) (by omega), Int.zero_sub, Int.zero_sub]
  by_cases h0 : sat y = 0
  · simp only [h0, beq_self_eq_true, cond_true, if_true]
    unfold clamp
    rw [wrap_i64 (by repeat' split
                     all_goals omega) (by repeat' split
                                          all_goals omega)]
    repeat' split
    all_goals omega
  · have : (sat y == 0) = false := by simp [h0]
    simp only [this, cond_false, h0, if_false, Bool.cond_decide]
def divR (x y : Int) : Int :=
  bif bif sat y == 0 then decide (sat x > 0) else false then 536870911
  else bif bif sat y == 0 then decide (sat x < 0) else false then -536870911
  else bif decide (sat y < 0) then sat (rdiv (IntKind.i64.wrap (IntKind.i64.wrap (0 - sat x) * 65536)) (IntKind.i64.wrap (0 - sat y)))
  else sat (rdiv (IntKind.i64.wrap (sat x * 65536)) (sat y))
theorem divR_eq (x y : Int) : divR x y = div x y := by
  have hx := sat_bounds x; have hy := sat_bounds y
  unfold divR div
  rw [wrap_i64 (n := sat x * 65536) (by omega) (by omega), wrap_i64 (n := 0 - sat x) (by omega) (by omega), wrap_i64 (n := (0 - sat x) * 65536) (by omega) (by omega), wrap_i64 (n := 0 - sat y) (by omega) (by omega), Int.zero_sub, Int.zero_sub, Int.neg_mul]
  by_cases h0 : sat y = 0
  · have hb : rdiv (sat x * 65536) 0 = 0 := by unfold rdiv; rw [if_pos (by unfold badDiv; omega)]
    simp only [h0, beq_self_eq_true, cond_true, if_true, Bool.cond_decide, hb]
    simp only [show ¬ ((0 : Int) < 0) by omega, if_false, show sat 0 = 0 from rfl]
  · have : (sat y == 0) = false := by simp [h0]
    simp only [this, cond_false, h0, if_false, Bool.cond_decide]

/-! ### the angles of chapter 2 -/

def norm (a : Int) : Int := if a.tmod 411776 ≥ 205888 then a.tmod 411776 - 411776 else if a.tmod 411776 < -205888 then a.tmod 411776 + 411776 else a.tmod 411776
def absi (x : Int) : Int := if x < 0 then -x else x
def sinq (x : Int) : Int := mul (div x 102944) (sub 102873 (mul (mul (div x 102944) (div x 102944)) (sub 41906 (mul (mul (div x 102944) (div x 102944)) 4569))))
def fold (x : Int) : Int := if x > 102944 then 205888 - x else x
def sin (a : Int) : Int := if norm a < 0 then -sinq (fold (absi (norm a))) else sinq (fold (absi (norm a)))
def cos (a : Int) : Int := sin (102944 - absi (norm a))
def rlen (c s : Int) : Int := isqrt (c * c + s * s)
def rotc (a : Int) : Int := div (cos a) (rlen (cos a) (sin a))
def rots (a : Int) : Int := div (sin a) (rlen (cos a) (sin a))
def diff (a b : Int) : Int := norm (norm b - norm a)

theorem tmod_bounds (a : Int) : -411776 < a.tmod 411776 ∧ a.tmod 411776 < 411776 := by
  have h1 := Int.tmod_lt_of_pos a (b := 411776) (by omega)
  have h2 := Int.tmod_lt_of_pos (-a) (b := 411776) (by omega)
  rw [Int.neg_tmod] at h2
  omega
theorem norm_bounds (a : Int) : -205888 ≤ norm a ∧ norm a < 205888 := by
  have := tmod_bounds a
  unfold norm; repeat' split
  all_goals omega
def normP (x : Int) : Int := bif decide (x.tmod 411776 ≥ 205888) then IntKind.i64.wrap (x.tmod 411776 - 411776) else bif decide (x.tmod 411776 < -205888) then IntKind.i64.wrap (x.tmod 411776 + 411776) else x.tmod 411776
theorem normP_eq (x : Int) : normP x = norm x := by
  have := tmod_bounds x
  unfold normP norm
  rw [wrap_i64 (by omega) (by omega), wrap_i64 (by omega) (by omega)]
  simp only [Bool.cond_decide]
def normR (x : Int) : Int :=
  bif decide (x.tmod 411776 ≥ 205888) then
    (bif decide (IntKind.i64.wrap (x.tmod 411776 - 411776) < -205888) then IntKind.i64.wrap (IntKind.i64.wrap (x.tmod 411776 - 411776) + 411776) else IntKind.i64.wrap (x.tmod 411776 - 411776))
  else bif decide (x.tmod 411776 < -205888) then IntKind.i64.wrap (x.tmod 411776 + 411776) else x.tmod 411776
theorem normR_eq (x : Int) : normR x = norm x := by
  have := tmod_bounds x
  unfold normR norm
  rw [wrap_i64 (n := x.tmod 411776 - 411776) (by omega) (by omega), wrap_i64 (n := x.tmod 411776 + 411776) (by omega) (by omega)]
  simp only [Bool.cond_decide]
  split
  · rw [if_neg (by omega)]
  · rfl
def absP (x : Int) : Int := bif decide (x < 0) then IntKind.i64.wrap (0 - x) else x
theorem absP_eq {x : Int} (h0 : -9223372036854775807 ≤ x) (h1 : x ≤ 9223372036854775807) : absP x = absi x := by
  unfold absP absi
  rw [wrap_i64 (by omega) (by omega), Bool.cond_decide, Int.zero_sub]
theorem absP_norm (a : Int) : absP (norm a) = absi (norm a) := by
  have := norm_bounds a
  exact absP_eq (by omega) (by omega)
theorem absi_norm (a : Int) : 0 ≤ absi (norm a) ∧ absi (norm a) ≤ 205888 := by
  have := norm_bounds a
  unfold absi; split <;> omega
def sinP (x : Int) : Int :=
  bif decide (absP (norm x) > 102944) then
    (bif decide (norm x < 0) then IntKind.i64.wrap (0 - sinq (IntKind.i64.wrap (205888 - absP (norm x)))) else sinq (IntKind.i64.wrap (205888 - absP (norm x))))
  else bif decide (norm x < 0) then IntKind.i64.wrap (0 - sinq (absP (norm x))) else sinq (absP (norm x))
theorem sinq_bounds (x : Int) : -536870911 ≤ sinq x ∧ sinq x ≤ 536870911 := mul_bounds _ _
theorem sinP_eq (x : Int) : sinP x = sin x := by
  have h1 := absi_norm x
  unfold sinP sin fold
  rw [absP_norm, wrap_i64 (n := 205888 - absi (norm x)) (by omega) (by omega)]
  have h2 := sinq_bounds (205888 - absi (norm x))
  have h3 := sinq_bounds (absi (norm x))
  rw [wrap_i64 (n := 0 - sinq (205888 - absi (norm x))) (by omega) (by omega), wrap_i64 (n := 0 - sinq (absi (norm x))) (by omega) (by omega)]
  simp only [Bool.cond_decide]
  repeat' split
  all_goals omega
theorem sin_bounds (a : Int) : -536870911 ≤ sin a ∧ sin a ≤ 536870911 := by
  have := sinq_bounds (fold (absi (norm a)))
  unfold sin; split <;> omega
def cosP (x : Int) : Int := sin (IntKind.i64.wrap (102944 - absP (norm x)))
theorem cosP_eq (x : Int) : cosP x = cos x := by
  have h1 := absi_norm x
  unfold cosP cos
  rw [absP_norm, wrap_i64 (by omega) (by omega)]
def rlenP (c s : Int) : Int := isqrt (IntKind.i64.wrap (IntKind.i64.wrap (c * c) + IntKind.i64.wrap (s * s)))
theorem rlenP_eq (a b : Int) : rlenP (cos a) (sin b) = rlen (cos a) (sin b) := by
  have h1 := prod_bounds (a := cos a) (b := cos a) (m := 536870911) (by omega) (sin_bounds _).1 (sin_bounds _).2 (sin_bounds _).1 (sin_bounds _).2
  have h2 := prod_bounds (a := sin b) (b := sin b) (m := 536870911) (by omega) (sin_bounds _).1 (sin_bounds _).2 (sin_bounds _).1 (sin_bounds _).2
  unfold rlenP rlen
  rw [wrap_i64 (n := cos a * cos a) (by omega) (by omega), wrap_i64 (n := sin b * sin b) (by omega) (by omega), wrap_i64 (by omega) (by omega)]
def rotcP (a : Int) : Int := div (cos a) (rlenP (cos a) (sin a))
def rotsP (a : Int) : Int := div (sin a) (rlenP (cos a) (sin a))
theorem rotcP_eq (a : Int) : rotcP a = rotc a := by unfold rotcP rotc; rw [rlenP_eq]
theorem rotsP_eq (a : Int) : rotsP a = rots a := by unfold rotsP rots; rw [rlenP_eq]
def diffP (a b : Int) : Int := norm (IntKind.i64.wrap (norm b - norm a))
theorem diffP_eq (a b : Int) : diffP a b = diff a b := by
  have := norm_bounds a; have := norm_bounds b
  unfold diffP diff; rw [wrap_i64 (by omega) (by omega)]

end Go.Fx
