/- THE ENGINE, PART 33: mixing is one to one. -/
import Derived.Test.YtleooijgkdllfaaEngChk
namespace Go.Fx
open Go.Eng
theorem ofN (V : BitVec 64) : BitVec.ofInt 64 (V.toNat : Int) = V := by simp
theorem wU_nat (V : BitVec 64) : wU (V.toNat : Int) = V.toNat := by
  have := V.isLt
  rw [wU_eq]; omega
theorem fdivN (V : BitVec 64) (k : Nat) (p : Int) (hp : p = ((2 ^ k : Nat) : Int)) : (V.toNat : Int).fdiv p = ((V >>> k).toNat : Int) := by
  rw [hp, BitVec.toNat_ushiftRight, Nat.shiftRight_eq_div_pow, Int.fdiv_eq_ediv_of_nonneg _ (Int.natCast_nonneg _)]
  exact (Int.natCast_ediv _ _).symm
theorem xU_nat (V W : BitVec 64) : xU V.toNat W.toNat = ((V ^^^ W).toNat : Int) := by
  unfold xU
  rw [ofN, ofN, wU_nat]
theorem mulN (V C : BitVec 64) : wU ((V.toNat : Int) * (C.toNat : Int)) = ((V * C).toNat : Int) := by
  rw [wU_eq, BitVec.toNat_mul]
  have : (V.toNat : Int) * (C.toNat : Int) = ((V.toNat * C.toNat : Nat) : Int) := by simp
  rw [this]
  omega
def mA (V : BitVec 64) : BitVec 64 := V * 11400714819323198485#64
def mB (V : BitVec 64) : BitVec 64 := (V ^^^ (V >>> 32)) * 15485907386658061715#64
def mC (V : BitVec 64) : BitVec 64 := V ^^^ (V >>> 29)
theorem mixB_nat (V : BitVec 64) : mixB V.toNat = ((mB V).toNat : Int) := by
  unfold mixB mB
  rw [fdivN V 32 _ (by decide), xU_nat]
  exact mulN _ 15485907386658061715#64
theorem mixC_nat (V : BitVec 64) : mixC V.toNat = ((mC V).toNat : Int) := by
  unfold mixC mC
  rw [fdivN V 29 _ (by decide), xU_nat]
theorem mixA_nat (h n : Int) : mixA h n = ((mA (BitVec.ofInt 64 h ^^^ BitVec.ofInt 64 n)).toNat : Int) := by
  have e : BitVec.ofInt 64 (wU n) = BitVec.ofInt 64 n := by
    apply BitVec.eq_of_toNat_eq
    rw [BitVec.toNat_ofInt, BitVec.toNat_ofInt, wU_eq]
    omega
  unfold mixA mA xU
  rw [e, wU_nat]
  exact mulN _ 11400714819323198485#64
theorem mix_nat (h n : Int) : mix h n = ((mC (mB (mA (BitVec.ofInt 64 h ^^^ BitVec.ofInt 64 n)))).toNat : Int) := by
  unfold mix
  rw [mixA_nat, mixB_nat, mixC_nat]
theorem mul_inj {C D V W : BitVec 64} (hc : C * D = 1#64) (h : V * C = W * C) : V = W := by
  have := congrArg (· * D) h
  simp only [BitVec.mul_assoc, hc, BitVec.mul_one] at this
  exact this
theorem shift_inj {k : Nat} (hk : 22 ≤ k) {V W : BitVec 64} (h : V ^^^ (V >>> k) = W ^^^ (W >>> k)) : V = W := by
  have h1 : (V ^^^ W) = (V ^^^ W) >>> k := by
    rw [BitVec.ushiftRight_xor_distrib]
    have h2 : (V ^^^ (V >>> k)) ^^^ (W ^^^ (W >>> k)) = 0#64 := by rw [h, BitVec.xor_self]
    have h3 : (V ^^^ W) ^^^ (V >>> k ^^^ W >>> k) = 0#64 := by
      rw [← h2]
      ac_rfl
    exact BitVec.xor_eq_zero_iff.1 h3
  have h4 : V ^^^ W = (V ^^^ W) >>> (k + k + k) := by
    rw [BitVec.shiftRight_add, BitVec.shiftRight_add]
    have q1 : (V ^^^ W) >>> k = ((V ^^^ W) >>> k) >>> k := congrArg (fun x : BitVec 64 => x >>> k) h1
    have q2 : ((V ^^^ W) >>> k) >>> k = (((V ^^^ W) >>> k) >>> k) >>> k := congrArg (fun x : BitVec 64 => (x >>> k) >>> k) h1
    exact h1.trans (q1.trans q2)
  have h5 : (V ^^^ W) >>> (k + k + k) = 0#64 := by
    apply BitVec.eq_of_getLsbD_eq
    intro i hi
    rw [BitVec.getLsbD_ushiftRight, BitVec.getLsbD_of_ge _ _ (by omega)]
    simp
  exact BitVec.xor_eq_zero_iff.1 (h4.trans h5)
theorem mA_inj {V W : BitVec 64} (h : mA V = mA W) : V = W := mul_inj (D := 17428512612931826493#64) (by decide) h
theorem mB_inj {V W : BitVec 64} (h : mB V = mB W) : V = W := shift_inj (by decide) (mul_inj (D := 14982988110149298331#64) (by decide) h)
theorem mC_inj {V W : BitVec 64} (h : mC V = mC W) : V = W := shift_inj (by decide) h
theorem mix_xor {h g n m : Int} (e : mix h n = mix g m) : BitVec.ofInt 64 h ^^^ BitVec.ofInt 64 n = BitVec.ofInt 64 g ^^^ BitVec.ofInt 64 m := by
  rw [mix_nat, mix_nat] at e
  have e := BitVec.eq_of_toNat_eq (Int.ofNat.inj e)
  exact mA_inj (mB_inj (mC_inj e))
theorem xor_left {V W X : BitVec 64} (h : V ^^^ X = W ^^^ X) : V = W := by
  have := congrArg (· ^^^ X) h
  simpa [BitVec.xor_assoc] using this
theorem xor_right {V W X : BitVec 64} (h : X ^^^ V = X ^^^ W) : V = W := xor_left (X := X) (by rw [BitVec.xor_comm V, BitVec.xor_comm W]; exact h)
theorem ofInt_inj {a b : Int} (h : BitVec.ofInt 64 a = BitVec.ofInt 64 b) (hab : a - b < 18446744073709551616 ∧ b - a < 18446744073709551616) : a = b := by
  have := congrArg BitVec.toNat h
  rw [BitVec.toNat_ofInt, BitVec.toNat_ofInt] at this
  omega
theorem mix_h {h g n : Int} (hh : 0 ≤ h ∧ h ≤ 18446744073709551615) (hg : 0 ≤ g ∧ g ≤ 18446744073709551615) : (mix h n == mix g n) = (h == g) := by
  by_cases e : h = g
  · rw [e, beq_self_eq_true, beq_self_eq_true]
  · have : mix h n ≠ mix g n := fun e2 => e (ofInt_inj (xor_left (mix_xor e2)) (by omega))
    rw [beq_false_of_ne this, beq_false_of_ne e]
theorem mix_n {h a b : Int} (ha : -9223372036854775808 ≤ a ∧ a ≤ 9223372036854775807) (hb : -9223372036854775808 ≤ b ∧ b ≤ 9223372036854775807) : (mix h a == mix h b) = (a == b) := by
  by_cases e : a = b
  · rw [e, beq_self_eq_true, beq_self_eq_true]
  · have : mix h a ≠ mix h b := fun e2 => e (ofInt_inj (xor_right (mix_xor e2)) (by omega))
    rw [beq_false_of_ne this, beq_false_of_ne e]
end Go.Fx
