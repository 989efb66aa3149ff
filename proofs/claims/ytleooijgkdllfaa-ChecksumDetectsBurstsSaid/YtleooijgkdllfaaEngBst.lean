/- THE ENGINE, PART 34: a register of 32 bits notices every burst. -/
import Derived.Test.YtleooijgkdllfaaEngChk
import Derived.Laws.Strings
namespace Go.Bst
open Go.Eng Go.Fx
/-! ### the register, as bits -/
abbrev W := BitVec 32
def b1 (e : Bool) : W := if e then 1#32 else 0#32
def stp (v : W) : W := if v.getLsbD 0 then (v >>> 1) ^^^ 2197175160#32 else v >>> 1
theorem stp_xor (a b : W) : stp (a ^^^ b) = stp a ^^^ stp b := by
  unfold stp
  rw [BitVec.getLsbD_xor, BitVec.ushiftRight_xor_distrib]
  cases a.getLsbD 0 <;> cases b.getLsbD 0
  · rfl
  · show (a >>> 1 ^^^ b >>> 1) ^^^ 2197175160#32 = a >>> 1 ^^^ (b >>> 1 ^^^ 2197175160#32)
    rw [BitVec.xor_assoc]
  · show (a >>> 1 ^^^ b >>> 1) ^^^ 2197175160#32 = (a >>> 1 ^^^ 2197175160#32) ^^^ b >>> 1
    rw [BitVec.xor_assoc, BitVec.xor_assoc, BitVec.xor_comm (b >>> 1)]
  · show (a >>> 1 ^^^ b >>> 1) = (a >>> 1 ^^^ 2197175160#32) ^^^ (b >>> 1 ^^^ 2197175160#32)
    rw [BitVec.xor_assoc, BitVec.xor_comm (b >>> 1) 2197175160#32, ← BitVec.xor_assoc 2197175160#32, BitVec.xor_self, BitVec.zero_xor]
theorem stp_zero : stp 0#32 = 0#32 := by decide
theorem stp_ne {v : W} (h : stp v = 0#32) : v = 0#32 := by
  unfold stp at h
  cases h0 : v.getLsbD 0 with
  | true =>
    rw [h0, if_pos rfl] at h
    have h1 : v >>> 1 = 2197175160#32 := BitVec.xor_eq_zero_iff.1 h
    have h2 := congrArg (fun x : W => x.getLsbD 31) h1
    simp only [BitVec.getLsbD_ushiftRight] at h2
    rw [BitVec.getLsbD_of_ge _ _ (by decide)] at h2
    exact absurd h2 (by decide)
  | false =>
    rw [h0, if_neg (by decide)] at h
    apply BitVec.eq_of_getLsbD_eq
    intro i hi
    rw [BitVec.getLsbD_zero]
    by_cases hi0 : i = 0
    · rw [hi0]; exact h0
    · have h2 := congrArg (fun x : W => x.getLsbD (i - 1)) h
      simp only [BitVec.getLsbD_ushiftRight, BitVec.getLsbD_zero] at h2
      rw [show 1 + (i - 1) = i from by omega] at h2
      exact h2
theorem stp_dbl {w : W} (h : w.getLsbD 31 = false) : stp (w <<< 1) = w := by
  have h0 : (w <<< 1).getLsbD 0 = false := by rw [BitVec.getLsbD_shiftLeft]; simp
  unfold stp
  rw [h0, if_neg (by decide)]
  apply BitVec.eq_of_getLsbD_eq
  intro i hi
  rw [BitVec.getLsbD_ushiftRight, BitVec.getLsbD_shiftLeft]
  by_cases hi1 : i = 31
  · subst hi1; rw [h]; simp
  · have e1 : 1 + i - 1 = i := by omega
    have e2 : decide (1 + i < 32) = true := decide_eq_true (by omega)
    have e3 : decide (1 + i < 1) = false := decide_eq_false (by omega)
    rw [e1, e2, e3]; simp
def stpN : Nat → W → W
  | 0, v => v
  | n + 1, v => stpN n (stp v)
theorem stpN_ne : ∀ (n : Nat) {v : W}, stpN n v = 0#32 → v = 0#32
  | 0, _, h => h
  | n + 1, _, h => stp_ne (stpN_ne n h)
theorem stpN_zero : ∀ n : Nat, stpN n 0#32 = 0#32
  | 0 => rfl
  | n + 1 => by show stpN n (stp 0#32) = _; rw [stp_zero, stpN_zero n]
/-- Bits, one after the other. -/
def reg (r : W) : List Bool → W
  | [] => r
  | e :: es => reg (stp (r ^^^ b1 e)) es
theorem reg_app : ∀ (a b : List Bool) (r : W), reg r (a ++ b) = reg (reg r a) b
  | [], _, _ => rfl
  | e :: a, b, r => reg_app a b (stp (r ^^^ b1 e))
theorem b1_xor (e f : Bool) : b1 (Bool.xor e f) = b1 e ^^^ b1 f := by cases e <;> cases f <;> decide
theorem reg_xor : ∀ (a b : List Bool) (r q : W), a.length = b.length → reg (r ^^^ q) (List.zipWith Bool.xor a b) = reg r a ^^^ reg q b
  | [], [], _, _, _ => rfl
  | [], _ :: _, _, _, h => by cases h
  | _ :: _, [], _, _, h => by cases h
  | e :: a, f :: b, r, q, h => by
    show reg (stp ((r ^^^ q) ^^^ b1 (Bool.xor e f))) (List.zipWith Bool.xor a b) = reg (stp (r ^^^ b1 e)) a ^^^ reg (stp (q ^^^ b1 f)) b
    rw [← reg_xor a b _ _ (by simpa using h), ← stp_xor, b1_xor]
    congr 2
    rw [BitVec.xor_assoc, BitVec.xor_assoc, ← BitVec.xor_assoc q, BitVec.xor_comm q, BitVec.xor_assoc (b1 e)]
theorem reg_false : ∀ (n : Nat) (r : W), reg r (List.replicate n false) = stpN n r
  | 0, _ => rfl
  | n + 1, r => by
    show reg (stp (r ^^^ b1 false)) (List.replicate n false) = stpN n (stp r)
    rw [reg_false n, show r ^^^ b1 false = r from by show r ^^^ 0#32 = r; simp]
/-- The number that bits stand for. -/
def wd : List Bool → W
  | [] => 0#32
  | e :: es => b1 e ^^^ (wd es <<< 1)
theorem b1_get (e : Bool) (i : Nat) : (b1 e).getLsbD i = (e && decide (i = 0)) := by
  cases e
  · show (0#32).getLsbD i = _; simp
  · show (1#32).getLsbD i = _
    by_cases h : i = 0
    · subst h; rfl
    · simp [BitVec.getLsbD_one, h]
theorem wd_get : ∀ (es : List Bool) (i : Nat), i < 32 → (wd es).getLsbD i = es.getD i false
  | [], i, _ => by show (0#32).getLsbD i = _; simp
  | e :: es, i, hi => by
    show (b1 e ^^^ (wd es <<< 1)).getLsbD i = _
    rw [BitVec.getLsbD_xor, b1_get, BitVec.getLsbD_shiftLeft]
    cases i with
    | zero => simp
    | succ j =>
      have h := wd_get es j (by omega)
      have e2 : decide (j + 1 < 32) = true := decide_eq_true hi
      rw [e2]
      simp [h]
theorem wd_hi (es : List Bool) (h : es.length ≤ 31) : (wd es).getLsbD 31 = false := by
  rw [wd_get es 31 (by decide), List.getD_eq_getElem?_getD, List.getElem?_eq_none (by omega)]; rfl
theorem reg_wd : ∀ (es : List Bool) (r : W), es.length ≤ 32 → reg r es = stpN es.length (r ^^^ wd es)
  | [], r, _ => by show r = r ^^^ 0#32; simp
  | e :: es, r, h => by
    have hl : es.length ≤ 31 := by simpa using h
    show reg (stp (r ^^^ b1 e)) es = stpN es.length (stp (r ^^^ (b1 e ^^^ (wd es <<< 1))))
    rw [reg_wd es _ (by omega), ← BitVec.xor_assoc, stp_xor (r ^^^ b1 e), stp_dbl (wd_hi es hl)]
/-- A burst never leaves the register at zero. -/
theorem burst (n m : Nat) (w : List Bool) (h : w.length ≤ 32) (hw : ∃ i, i < w.length ∧ w.getD i false = true) : reg 0#32 (List.replicate n false ++ (w ++ List.replicate m false)) ≠ 0#32 := by
  rw [reg_app, reg_app, reg_false, reg_false, stpN_zero, reg_wd w _ h, BitVec.zero_xor]
  intro e
  have e := stpN_ne _ (stpN_ne _ e)
  obtain ⟨i, hi, hb⟩ := hw
  rw [← wd_get w i (by omega), e] at hb
  simp at hb
/-! ### the register of bytes -/
def bits8 (x : Int) : List Bool := (List.range 8).map fun j => x.toNat.testBit j
def bl (l : List Int) : List Bool := l.flatMap bits8
def Rng (l : List Int) : Prop := ∀ x ∈ l, 0 ≤ x ∧ x ≤ 255
theorem ofW (v : W) : BitVec.ofInt 32 (v.toNat : Int) = v := by simp
theorem wW_nat (v : W) : wW (v.toNat : Int) = v.toNat := by
  have := v.isLt
  rw [wW_eq]; omega
theorem xW_nat (v u : W) : xW v.toNat u.toNat = ((v ^^^ u).toNat : Int) := by
  unfold xW
  rw [ofW, ofW, wW_nat]
theorem fdivW (v : W) (k : Nat) (p : Int) (hp : p = ((2 ^ k : Nat) : Int)) : (v.toNat : Int).fdiv p = ((v >>> k).toNat : Int) := by
  rw [hp, BitVec.toNat_ushiftRight, Nat.shiftRight_eq_div_pow, Int.fdiv_eq_ediv_of_nonneg _ (Int.natCast_nonneg _)]
  exact (Int.natCast_ediv _ _).symm
theorem updS_nat (v : W) : updS v.toNat = ((stp v).toNat : Int) := by
  have hv := v.isLt
  unfold updS
  rw [aW_one (by omega) (by omega), fdivW v 1 _ (by decide)]
  have hx : xW ((v >>> 1).toNat : Int) 2197175160 = (((v >>> 1) ^^^ 2197175160#32).toNat : Int) := xW_nat (v >>> 1) 2197175160#32
  rw [hx]
  unfold stp
  have h0 : v.getLsbD 0 = decide (v.toNat % 2 = 1) := by
    show v.toNat.testBit 0 = _
    rw [Nat.testBit_zero]
  rw [h0]
  by_cases h : v.toNat % 2 = 1
  · rw [show ((v.toNat : Int) % 2 == 1) = true from beq_iff_eq.2 (by omega), cond_true, decide_eq_true h, if_pos rfl]
  · rw [show ((v.toNat : Int) % 2 == 1) = false from beq_eq_false_iff_ne.2 (by omega), cond_false, decide_eq_false h, if_neg (by decide)]
theorem updN_nat : ∀ (n i : Nat) (v : W), foldN (fun _ c => updS c) n i (v.toNat : Int) = ((stpN n v).toNat : Int)
  | 0, _, _ => rfl
  | n + 1, i, v => by
    show foldN (fun _ c => updS c) n (i + 1) (updS v.toNat) = _
    rw [updS_nat]
    exact updN_nat n (i + 1) (stp v)
theorem bits8_len (x : Int) : (bits8 x).length = 8 := by unfold bits8; simp
theorem bits8_get (x : Int) (j : Nat) (h : j < 8) : (bits8 x).getD j false = x.toNat.testBit j := by
  unfold bits8
  rw [List.getD_eq_getElem?_getD, List.getElem?_map, List.getElem?_range h]; rfl
theorem toNat_ofI {x : Int} (h : 0 ≤ x ∧ x ≤ 255) : (BitVec.ofInt 32 x).toNat = x.toNat := by
  rw [BitVec.toNat_ofInt]; omega
theorem wd_bits8 {x : Int} (h : 0 ≤ x ∧ x ≤ 255) : wd (bits8 x) = BitVec.ofInt 32 x := by
  apply BitVec.eq_of_getLsbD_eq
  intro i hi
  rw [wd_get _ i hi]
  have e : (BitVec.ofInt 32 x).getLsbD i = x.toNat.testBit i := by
    show (BitVec.ofInt 32 x).toNat.testBit i = _
    rw [toNat_ofI h]
  rw [e]
  by_cases h8 : i < 8
  · exact bits8_get x i h8
  · rw [List.getD_eq_getElem?_getD, List.getElem?_eq_none (by rw [bits8_len]; omega)]
    exact (Nat.testBit_lt_two_pow (Nat.lt_of_lt_of_le (by omega : x.toNat < 2 ^ 8) (Nat.pow_le_pow_right (by decide) (by omega)))).symm
theorem crcS_nat (l : List Int) (i : Nat) (v : W) (h : 0 ≤ l.getD i 0 ∧ l.getD i 0 ≤ 255) : crcS l i v.toNat = ((reg v (bits8 (l.getD i 0))).toNat : Int) := by
  have e1 : wW (l.getD i 0) = ((BitVec.ofInt 32 (l.getD i 0)).toNat : Int) := by
    rw [toNat_ofI h, wW_eq]; omega
  unfold crcS
  rw [e1, xW_nat]
  unfold upd8
  rw [updN_nat, reg_wd _ _ (by rw [bits8_len]; decide), bits8_len, wd_bits8 h]
theorem crcF_fold (l : List Int) (hr : Rng l) : ∀ (k i : Nat) (v : W), i + k ≤ l.length → foldN (crcS l) k i (v.toNat : Int) = ((reg v (bl ((l.drop i).take k))).toNat : Int)
  | 0, i, v, _ => by rw [List.take_zero]; rfl
  | k + 1, i, v, h => by
    have hi : i < l.length := by omega
    have hg : l.getD i 0 = l[i] := by rw [List.getD_eq_getElem?_getD, List.getElem?_eq_getElem hi]; rfl
    have hx : 0 ≤ l.getD i 0 ∧ l.getD i 0 ≤ 255 := by rw [hg]; exact hr _ (List.getElem_mem hi)
    show foldN (crcS l) k (i + 1) (crcS l i v.toNat) = _
    rw [crcS_nat l i v hx, crcF_fold l hr k (i + 1) _ (by omega), List.drop_eq_getElem_cons hi, List.take_succ_cons, ← hg]
    show _ = ((reg v (bits8 (l.getD i 0) ++ bl (List.take k (List.drop (i + 1) l)))).toNat : Int)
    rw [reg_app]
def ones : W := 4294967295#32
theorem crcF_nat (l : List Int) (hr : Rng l) : crcF l = ((reg ones (bl l)).toNat : Int) := by
  have h := crcF_fold l hr l.length 0 ones (by omega)
  rw [List.drop_zero, List.take_length] at h
  exact h
theorem crc_nat (l : List Int) (hr : Rng l) : crc l = ((ones ^^^ reg ones (bl l)).toNat : Int) := by
  unfold crc nW
  rw [crcF_nat l hr, ofW]
  exact wW_nat _
theorem bl_len (l : List Int) : (bl l).length = 8 * l.length := by
  unfold bl
  rw [List.length_flatMap]
  induction l with
  | nil => rfl
  | cons x l ih => simp only [List.map_cons, List.sum_cons, List.length_cons, bits8_len] at *; omega
theorem bl_get : ∀ (l : List Int) (n : Nat), n < 8 * l.length → (bl l).getD n false = (l.getD (n / 8) 0).toNat.testBit (n % 8)
  | [], n, h => by simp at h
  | x :: l, n, h => by
    show (bits8 x ++ bl l).getD n false = _
    rw [List.getD_eq_getElem?_getD]
    by_cases h8 : n < 8
    · rw [List.getElem?_append_left (by rw [bits8_len]; exact h8), ← List.getD_eq_getElem?_getD, bits8_get x n h8, show n / 8 = 0 from by omega, show n % 8 = n from by omega]
      rfl
    · rw [List.getElem?_append_right (by rw [bits8_len]; omega), bits8_len, ← List.getD_eq_getElem?_getD, bl_get l (n - 8) (by simp only [List.length_cons] at h; omega), show n / 8 = (n - 8) / 8 + 1 from by omega, show n % 8 = (n - 8) % 8 from by omega]
      rfl
def tail4 (c : Int) : List Int := [wB c, wB (c.fdiv (2 ^ (min (Int.toNat 8) 32))), wB (c.fdiv (2 ^ (min (Int.toNat 16) 32))), wB (c.fdiv (2 ^ (min (Int.toNat 24) 32)))]
theorem tail_bit (C : W) (q : Nat) (p : Int) (hp : p = ((2 ^ (8 * q) : Nat) : Int)) (j : Nat) (hj : j < 8) : (wB ((C.toNat : Int).fdiv p)).toNat.testBit j = C.getLsbD (8 * q + j) := by
  have e : (wB ((C.toNat : Int).fdiv p)).toNat = C.toNat / 2 ^ (8 * q) % 2 ^ 8 := by
    rw [hp, Int.fdiv_eq_ediv_of_nonneg _ (Int.natCast_nonneg _), ← Int.natCast_ediv, wB_eq]
    omega
  rw [e, Nat.testBit_mod_two_pow, Nat.testBit_div_two_pow, decide_eq_true hj, Bool.true_and]
  show _ = C.toNat.testBit _
  rw [Nat.add_comm]
theorem wd_tail (C : W) : wd (bl (tail4 (C.toNat : Int))) = C := by
  apply BitVec.eq_of_getLsbD_eq
  intro i hi
  rw [wd_get _ i hi, bl_get _ i (by show i < 8 * 4; omega)]
  have hq : i / 8 = 0 ∨ i / 8 = 1 ∨ i / 8 = 2 ∨ i / 8 = 3 := by omega
  have e0 : wB (C.toNat : Int) = wB ((C.toNat : Int).fdiv 1) := by rw [Int.fdiv_one]
  rcases hq with h | h | h | h <;> rw [h]
  · show (wB (C.toNat : Int)).toNat.testBit _ = _
    rw [e0, tail_bit C 0 1 (by decide) _ (by omega), show 8 * 0 + i % 8 = i from by omega]
  · show (wB ((C.toNat : Int).fdiv (2 ^ (min (Int.toNat 8) 32)))).toNat.testBit _ = _
    rw [tail_bit C 1 _ (by decide) _ (by omega), show 8 * 1 + i % 8 = i from by omega]
  · show (wB ((C.toNat : Int).fdiv (2 ^ (min (Int.toNat 16) 32)))).toNat.testBit _ = _
    rw [tail_bit C 2 _ (by decide) _ (by omega), show 8 * 2 + i % 8 = i from by omega]
  · show (wB ((C.toNat : Int).fdiv (2 ^ (min (Int.toNat 24) 32)))).toNat.testBit _ = _
    rw [tail_bit C 3 _ (by decide) _ (by omega), show 8 * 3 + i % 8 = i from by omega]
/-- A sealed buffer leaves a register that does not depend on it. -/
theorem reg_sld (l : List Int) (hr : Rng l) : reg ones (bl (sld l)) = stpN 32 ones := by
  have e : sld l = l ++ tail4 (crc l) := rfl
  have hb : bl (l ++ tail4 (crc l)) = bl l ++ bl (tail4 (crc l)) := List.flatMap_append ..
  rw [e, hb, reg_app, crc_nat l hr]
  have hl : (bl (tail4 ((ones ^^^ reg ones (bl l)).toNat : Int))).length = 32 := by rw [bl_len]; rfl
  rw [reg_wd _ _ (by rw [hl]; decide), hl, wd_tail, BitVec.xor_comm ones, ← BitVec.xor_assoc, BitVec.xor_self, BitVec.zero_xor]
end Go.Bst
namespace Go.Bst
open Go.Eng Go.Fx
/-! ### strings of bytes -/
theorem ofNat_inj {x y : Int} (hx : 0 ≤ x ∧ x ≤ 255) (hy : 0 ≤ y ∧ y ≤ 255) (h : UInt8.ofNat x.toNat = UInt8.ofNat y.toNat) : x = y := by
  have h := congrArg UInt8.toNat h
  rw [UInt8.toNat_ofNat', UInt8.toNat_ofNat'] at h
  omega
theorem map_inj : ∀ {l m : List Int}, Rng l → Rng m → (l.map fun n => UInt8.ofNat n.toNat) = (m.map fun n => UInt8.ofNat n.toNat) → l = m
  | [], [], _, _, _ => rfl
  | [], _ :: _, _, _, h => by cases h
  | _ :: _, [], _, _, h => by cases h
  | x :: l, y :: m, hl, hm, h => by
    simp only [List.map_cons, List.cons.injEq] at h
    rw [ofNat_inj (hl x (by simp)) (hm y (by simp)) h.1, map_inj (fun z hz => hl z (by simp [hz])) (fun z hz => hm z (by simp [hz])) h.2]
theorem strEq_eq {l m : List Int} (hl : Rng l) (hm : Rng m) (h : strEq (strOf l) (strOf m) = true) : l = m := by
  unfold strEq at h
  have h := eq_of_beq h
  rw [ByteArray.toList_eq, ByteArray.toList_eq] at h
  exact map_inj hl hm h
theorem rng_sld {l : List Int} (h : Rng l) : Rng (sld l) := by
  intro x hx
  unfold sld at hx
  rcases List.mem_append.1 hx with hx | hx
  · exact h x hx
  · simp only [List.mem_cons, List.not_mem_nil, or_false] at hx
    rcases hx with rfl | rfl | rfl | rfl <;> exact wB_bounds _
theorem rng_getD {l : List Int} (h : Rng l) (n : Nat) : 0 ≤ l.getD n 0 ∧ l.getD n 0 ≤ 255 := by
  by_cases hn : n < l.length
  · rw [List.getD_eq_getElem?_getD, List.getElem?_eq_getElem hn]; exact h _ (List.getElem_mem hn)
  · rw [List.getD_eq_getElem?_getD, List.getElem?_eq_none (by omega)]; exact ⟨by decide, by decide⟩
/-! ### inverted bits -/
def bitof (l : List Int) (n : Nat) : Bool := (l.getD (n / 8) 0).toNat.testBit (n % 8)
/-- Is bit n inverted after k rounds? -/
def errb (F g k n : Nat) : Bool := decide (F ≤ n) && decide (n < F + k) && g.testBit (n - F)
theorem xB_two {x : Int} (hx : 0 ≤ x ∧ x ≤ 255) {r : Nat} (hr : r < 8) : xB x ((2 ^ r : Nat) : Int) = ((x.toNat ^^^ 2 ^ r : Nat) : Int) := by
  have h1 : (BitVec.ofInt 8 x).toNat = x.toNat := by rw [BitVec.toNat_ofInt]; omega
  have hp : 2 ^ r < 2 ^ 8 := Nat.pow_lt_pow_right (by decide) hr
  have h0 : ∀ q : Nat, q < 2 ^ 8 → (BitVec.ofInt 8 (q : Int)).toNat = q := fun q hq => by rw [BitVec.toNat_ofInt]; omega
  have h2 := h0 (2 ^ r) hp
  have h3 : x.toNat ^^^ 2 ^ r < 2 ^ 8 := Nat.xor_lt_two_pow (by omega) hp
  unfold xB
  rw [BitVec.toNat_xor, h1, h2, wB_id (by omega) (by omega)]
theorem xB_rng (x y : Int) : 0 ≤ xB x y ∧ xB x y ≤ 255 := wB_bounds _
theorem rng_set {l : List Int} (h : Rng l) (n : Nat) {y : Int} (hy : 0 ≤ y ∧ y ≤ 255) : Rng (l.set n y) := fun x hx => by
  rcases List.mem_or_eq_of_mem_set hx with hx | hx
  · exact h x hx
  · rw [hx]; exact hy
theorem bitof_set {l : List Int} (h : Rng l) {N : Nat} (hN : N < 8 * l.length) (n : Nat) : bitof (l.set (N / 8) (xB (l.getD (N / 8) 0) ((2 ^ (N % 8) : Nat) : Int))) n = Bool.xor (bitof l n) (decide (n = N)) := by
  unfold bitof
  have hN8 : N / 8 < l.length := by omega
  by_cases hq : n / 8 = N / 8
  · rw [hq, List.getD_eq_getElem?_getD, List.getElem?_set_self hN8, Option.getD_some, xB_two (rng_getD h _) (by omega), Int.toNat_natCast, Nat.testBit_xor, Nat.testBit_two_pow]
    congr 1
    by_cases e : n = N
    · subst e; simp
    · rw [decide_eq_false e, decide_eq_false (by omega)]
  · have e : n ≠ N := fun e => hq (by rw [e])
    rw [List.getD_eq_getElem?_getD, List.getElem?_set_ne (fun e => hq e.symm), ← List.getD_eq_getElem?_getD, decide_eq_false e, Bool.xor_false]
theorem errb_succ_ne {F g k n : Nat} (h : n ≠ F + k) : errb F g (k + 1) n = errb F g k n := by
  unfold errb
  have e : decide (n < F + (k + 1)) = decide (n < F + k) := by
    by_cases h2 : n < F + k
    · rw [decide_eq_true h2]; exact decide_eq_true (by omega)
    · rw [decide_eq_false h2]; exact decide_eq_false (by omega)
  rw [e]
theorem errb_succ_eq (F g k : Nat) : errb F g (k + 1) (F + k) = g.testBit k := by
  unfold errb
  rw [decide_eq_true (by omega), decide_eq_true (by omega), Nat.add_sub_cancel_left]; simp
theorem errb_self (F g k : Nat) : errb F g k (F + k) = false := by
  unfold errb
  rw [decide_eq_false (show ¬ F + k < F + k by omega)]; simp
theorem ext_getD {a b : List Bool} (hl : a.length = b.length) (h : ∀ n, n < a.length → a.getD n false = b.getD n false) : a = b := by
  refine List.ext_getElem hl fun n h1 h2 => ?_
  have := h n h1
  rw [List.getD_eq_getElem?_getD, List.getD_eq_getElem?_getD, List.getElem?_eq_getElem h1, List.getElem?_eq_getElem h2] at this
  exact this
theorem range_map_getD (f : Nat → Bool) {L n : Nat} (h : n < L) : ((List.range L).map f).getD n false = f n := by
  rw [List.getD_eq_getElem?_getD, List.getElem?_map, List.getElem?_range h]; rfl
theorem err_shape {F g L : Nat} (hF : F < L) : (List.range L).map (errb F g 32) = List.replicate F false ++ (((List.range (min 32 (L - F))).map g.testBit) ++ List.replicate (L - F - min 32 (L - F)) false) := by
  refine ext_getD (by simp only [List.length_map, List.length_range, List.length_append, List.length_replicate]; omega) fun n hn => ?_
  have hn : n < L := by simpa using hn
  rw [range_map_getD _ hn]
  unfold errb
  rw [List.getD_eq_getElem?_getD]
  by_cases h1 : n < F
  · rw [List.getElem?_append_left (by rw [List.length_replicate]; exact h1), List.getElem?_replicate, if_pos h1, decide_eq_false (show ¬ F ≤ n by omega)]; rfl
  · rw [List.getElem?_append_right (by rw [List.length_replicate]; omega), List.length_replicate, decide_eq_true (show F ≤ n by omega)]
    by_cases h2 : n < F + 32
    · rw [List.getElem?_append_left (by rw [List.length_map, List.length_range]; omega), List.getElem?_map, List.getElem?_range (by omega), decide_eq_true h2]; rfl
    · rw [List.getElem?_append_right (by rw [List.length_map, List.length_range]; omega), decide_eq_false h2, List.getElem?_replicate]
      split <;> rfl
/-- A buffer in which a burst of bits is inverted is not a sealed one. -/
theorem not_sealed {b c x : List Int} (hb : Rng b) (hx : Rng x) {F g : Nat} (hl : c.length = (sld b).length) (hF : F < 8 * (sld b).length) (hc : ∀ n, n < 8 * (sld b).length → bitof c n = Bool.xor (bitof (sld b) n) (errb F g 32 n))
    (ht : ∃ j, j < 32 ∧ g.testBit j = true ∧ F + j < 8 * (sld b).length) : sld x ≠ c := by
  intro e
  have h1 := reg_sld b hb
  have h2 := reg_sld x hx
  rw [e] at h2
  have hz : bl c = List.zipWith Bool.xor (bl (sld b)) ((List.range (8 * (sld b).length)).map (errb F g 32)) := by
    refine ext_getD (by rw [bl_len, List.length_zipWith, bl_len, List.length_map, List.length_range, hl]; omega) fun n hn => ?_
    rw [bl_len, hl] at hn
    rw [bl_get c n (by omega)]
    have g1 : (bl (sld b))[n]? = some (bitof (sld b) n) := by
      have := bl_get (sld b) n hn
      rw [List.getD_eq_getElem?_getD, List.getElem?_eq_getElem (by rw [bl_len]; exact hn)] at this
      rw [List.getElem?_eq_getElem (by rw [bl_len]; exact hn)]
      exact congrArg some this
    have g2 : ((List.range (8 * (sld b).length)).map (errb F g 32))[n]? = some (errb F g 32 n) := by
      rw [List.getElem?_map, List.getElem?_range hn]; rfl
    have g3 : (List.zipWith Bool.xor (bl (sld b)) ((List.range (8 * (sld b).length)).map (errb F g 32))).getD n false = Bool.xor (bitof (sld b) n) (errb F g 32 n) := by
      rw [List.getD_eq_getElem?_getD, List.getElem?_zipWith, g1, g2]; rfl
    exact (hc n hn).trans g3.symm
  rw [hz] at h2
  have h3 := reg_xor (bl (sld b)) ((List.range (8 * (sld b).length)).map (errb F g 32)) ones 0#32 (by rw [bl_len, List.length_map, List.length_range])
  rw [show ones ^^^ 0#32 = ones from by decide, h2, h1, err_shape hF] at h3
  obtain ⟨j, j1, j2, j3⟩ := ht
  have h4 := burst F (8 * (sld b).length - F - min 32 (8 * (sld b).length - F)) ((List.range (min 32 (8 * (sld b).length - F))).map g.testBit) (by rw [List.length_map, List.length_range]; omega) ⟨j, by rw [List.length_map, List.length_range]; omega, by rw [range_map_getD _ (by omega)]; exact j2⟩
  refine h4 ?_
  have h5 := congrArg (fun v => stpN 32 ones ^^^ v) h3
  simp only [← BitVec.xor_assoc, BitVec.xor_self, BitVec.zero_xor] at h5
  exact h5.symm
end Go.Bst
