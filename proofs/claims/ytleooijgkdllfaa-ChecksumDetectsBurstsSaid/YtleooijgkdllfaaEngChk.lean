/- THE ENGINE, PART 32: hashes and checksums: encodings, plain models. -/
import Derived.Test.YtleooijgkdllfaaEngPrm
import Derived.Test.YtleooijgkdllfaaEngKick
namespace Go.Eng
open Go
def eU32 : Enc Int := ⟨fun | .fv (.one (.int .u32 n)) => some n | _ => none, fun n => .fv (.one (.int .u32 n)), fun p x h => by
  split at h
  · cases h; rfl
  · cases h⟩
def eU16 : Enc Int := ⟨fun | .fv (.one (.int .u16 n)) => some n | _ => none, fun n => .fv (.one (.int .u16 n)), fun p x h => by
  split at h
  · cases h; rfl
  · cases h⟩
/-- Bytes and a number, returned. -/
def eOpn : Enc (List Int × Int) := ⟨fun _ => none, fun x => .tup [.one (.slc true ⟨.u8, x.1⟩), .one (.int .i64 x.2)], fun _ _ h => nomatch h⟩
theorem strEq_self (a : ByteArray) : strEq a a = true := by unfold strEq; simp
end Go.Eng
namespace Go.Fx
open Go.Eng
def wW (n : Int) : Int := IntKind.u32.wrap n
def wB (n : Int) : Int := IntKind.u8.wrap n
theorem wW_eq (n : Int) : wW n = n % 4294967296 := by
  unfold wW
  simp only [IntKind.wrap, IntKind.bits, IntKind.signed]
  simp
theorem wB_eq (n : Int) : wB n = n % 256 := by
  unfold wB
  simp only [IntKind.wrap, IntKind.bits, IntKind.signed]
  simp
theorem wW_id {n : Int} (h0 : 0 ≤ n) (h1 : n ≤ 4294967295) : wW n = n := by rw [wW_eq]; omega
theorem wW_bounds (n : Int) : 0 ≤ wW n ∧ wW n ≤ 4294967295 := by rw [wW_eq]; omega
theorem wB_id {n : Int} (h0 : 0 ≤ n) (h1 : n ≤ 255) : wB n = n := by rw [wB_eq]; omega
theorem wB_bounds (n : Int) : 0 ≤ wB n ∧ wB n ≤ 255 := by rw [wB_eq]; omega
def xW (a b : Int) : Int := wW ((BitVec.ofInt 32 a ^^^ BitVec.ofInt 32 b).toNat)
def aW (a b : Int) : Int := wW ((BitVec.ofInt 32 a &&& BitVec.ofInt 32 b).toNat)
def xB (a b : Int) : Int := wB ((BitVec.ofInt 8 a ^^^ BitVec.ofInt 8 b).toNat)
def nW (a : Int) : Int := wW ((BitVec.ofInt 32 4294967295 ^^^ BitVec.ofInt 32 a).toNat)
/-! ### hashes -/
def mixA (h n : Int) : Int := wU (xU h (wU n) * 11400714819323198485)
def mixB (x : Int) : Int := wU (xU x (x.fdiv (2 ^ (min (Int.toNat 32) 64))) * 15485907386658061715)
def mixC (x : Int) : Int := xU x (x.fdiv (2 ^ (min (Int.toNat 29) 64)))
def mix (h n : Int) : Int := mixC (mixB (mixA h n))
def mixBR (x : Int) : Int := wU (xU x (wU (x.tdiv 4294967296)) * 15485907386658061715)
def mixCR (x : Int) : Int := xU x (wU (x.tdiv 536870912))
def mixR (h n : Int) : Int := mixCR (mixBR (mixA h n))
theorem mixR_eq (h n : Int) : mixR h n = mix h n := by
  have h1 := wU_bounds (xU h (wU n) * 11400714819323198485)
  have e1 := shr_div (t := mixA h n) h1.1 h1.2 4294967296 (by decide)
  have hB : mixBR (mixA h n) = mixB (mixA h n) := by
    unfold mixBR mixB
    rw [show (mixA h n).tdiv 4294967296 = (mixA h n).tdiv ((4294967296 : Nat) : Int) from rfl, e1]
    rfl
  unfold mixR mix
  rw [hB]
  have h2 := wU_bounds (xU (mixA h n) ((mixA h n).fdiv (2 ^ (min (Int.toNat 32) 64))) * 15485907386658061715)
  have e2 := shr_div (t := mixB (mixA h n)) h2.1 h2.2 536870912 (by decide)
  unfold mixCR mixC
  rw [show (mixB (mixA h n)).tdiv 536870912 = (mixB (mixA h n)).tdiv ((536870912 : Nat) : Int) from rfl, e2]
  rfl
def hash (l : List Int) : Int := foldN (fun i h => mix h (l.getD i 0)) l.length 0 (wU (l.length : Int))
/-! ### the register -/
def poly : Int := 2197175160
def updS (c : Int) : Int := bif aW c 1 == 1 then xW (c.fdiv (2 ^ (min (Int.toNat 1) 32))) 2197175160 else c.fdiv (2 ^ (min (Int.toNat 1) 32))
def upd8 (c : Int) : Int := foldN (fun _ c => updS c) 8 0 c
def crcS (l : List Int) (i : Nat) (s : Int) : Int := upd8 (xW s (wW (l.getD i 0)))
def crcF (l : List Int) : Int := foldN (crcS l) l.length 0 4294967295
def crc (l : List Int) : Int := nW (crcF l)
def updR (c : Int) : Int := bif c.tmod 2 == 1 then xW (wW (c.tdiv 2)) 2197175160 else wW (c.tdiv 2)
theorem toNat_of32 {c : Int} (h0 : 0 ≤ c) (h1 : c ≤ 4294967295) : (BitVec.ofInt 32 c).toNat = c.toNat := by
  rw [BitVec.toNat_ofInt]
  omega
theorem aW_one {c : Int} (h0 : 0 ≤ c) (h1 : c ≤ 4294967295) : aW c 1 = c % 2 := by
  unfold aW
  rw [BitVec.toNat_and, toNat_of32 h0 h1, show (BitVec.ofInt 32 1).toNat = 1 from rfl, Nat.and_one_is_mod, wW_id (by omega) (by omega)]
  omega
theorem updR_eq {c : Int} (h0 : 0 ≤ c) (h1 : c ≤ 4294967295) : updR c = updS c := by
  have e1 : c.tmod 2 = c % 2 := Int.tmod_eq_emod_of_nonneg h0
  have e2 : wW (c.tdiv 2) = c.fdiv (2 ^ (min (Int.toNat 1) 32)) := by
    rw [Int.tdiv_eq_ediv_of_nonneg h0, wW_id (by omega) (by omega), Int.fdiv_eq_ediv_of_nonneg _ (by decide)]
    rfl
  unfold updR updS
  rw [aW_one h0 h1, e1, e2]
theorem updS_bounds {c : Int} (h0 : 0 ≤ c) (h1 : c ≤ 4294967295) : 0 ≤ updS c ∧ updS c ≤ 4294967295 := by
  unfold updS
  cases aW c 1 == 1 with
  | true => exact wW_bounds _
  | false =>
    rw [cond_false, Int.fdiv_eq_ediv_of_nonneg _ (by decide), show (2 : Int) ^ (min (Int.toNat 1) 32) = 2 from rfl]
    omega
theorem xW_nW (a : Int) : xW a 4294967295 = nW a := by
  unfold xW nW
  rw [BitVec.xor_comm]
def sld (l : List Int) : List Int := l ++ [wB (crc l), wB ((crc l).fdiv (2 ^ (min (Int.toNat 8) 32))), wB ((crc l).fdiv (2 ^ (min (Int.toNat 16) 32))), wB ((crc l).fdiv (2 ^ (min (Int.toNat 24) 32)))]
theorem sld_len (l : List Int) : (sld l).length = l.length + 4 := by unfold sld; rw [List.length_append]; rfl
theorem sld_take (l : List Int) : (sld l).take l.length = l := by unfold sld; exact List.take_left' rfl
def openN (l : List Int) : Int := w64 ((l.length : Int) - 4)
def openBad (l : List Int) : Bool := !strEq (strOf (sld (List.take (openN l).toNat l))) (strOf l)
def opn (l : List Int) : List Int × Int := (bif decide (openN l < 0) then [] else bif openBad l then [] else List.take (openN l).toNat l, bif decide (openN l < 0) then 4 else bif openBad l then 22 else 0)
def opnR (l : List Int) : List Int × Int := (bif decide ((l.length : Int) < 4) then [] else bif openBad l then [] else [] ++ List.take (openN l).toNat l, bif decide ((l.length : Int) < 4) then 4 else bif openBad l then 22 else 0)
theorem opnR_eq (l : List Int) (h : l.length ≤ 65536) : opnR l = opn l := by
  have e : decide ((l.length : Int) < 4) = decide (openN l < 0) := by
    unfold openN
    rw [w64_id (by omega) (by omega)]
    by_cases h4 : (l.length : Int) < 4
    · rw [decide_eq_true h4, decide_eq_true (by omega)]
    · rw [decide_eq_false h4, decide_eq_false (by omega)]
  unfold opnR opn
  rw [e, List.nil_append]
theorem opn_sld (l : List Int) (h : l.length ≤ 65536) : opn (sld l) = (l, 0) := by
  have e0 : openN (sld l) = l.length := by
    unfold openN
    rw [sld_len, w64_id (by omega) (by omega)]
    omega
  have e1 : List.take (openN (sld l)).toNat (sld l) = l := by rw [e0, Int.toNat_natCast, sld_take]
  have e2 : openBad (sld l) = false := by unfold openBad; rw [e1, strEq_self]; rfl
  have e3 : decide (openN (sld l) < 0) = false := by rw [e0]; exact decide_eq_false (by omega)
  unfold opn
  rw [e3, e2, e1]
  rfl
end Go.Fx
