/- THE ENGINE, PART 28: numbers without a sign, shuffling: encodings, plain models, plain laws. -/
import Derived.Test.YtleooijgkdllfaaEngPer
namespace Go.Eng
open Go
def eU : Enc Int := ⟨fun | .fv (.one (.int .u64 n)) => some n | _ => none, fun n => .fv (.one (.int .u64 n)), fun p x h => by
  split at h
  · cases h; rfl
  · cases h⟩
def eUU : Enc (Int × Int) := ⟨fun _ => none, fun x => .tup [.one (.int .u64 x.1), .one (.int .u64 x.2)], fun _ _ h => nomatch h⟩
def eIU : Enc (Int × Int) := ⟨fun _ => none, fun x => .tup [.one (.int .i64 x.1), .one (.int .u64 x.2)], fun _ _ h => nomatch h⟩
def eSU : Enc (List Int × Int) := ⟨fun _ => none, fun x => .tup [.one (.slc true ⟨.i64, x.1⟩), .one (.int .u64 x.2)], fun _ _ h => nomatch h⟩
end Go.Eng
namespace Go.Fx
open Go.Eng
def wU (n : Int) : Int := IntKind.u64.wrap n
theorem wU_eq (n : Int) : wU n = n % 18446744073709551616 := by
  unfold wU
  simp only [IntKind.wrap, IntKind.bits, IntKind.signed]
  simp
theorem wU_id {n : Int} (h0 : 0 ≤ n) (h1 : n ≤ 18446744073709551615) : wU n = n := by rw [wU_eq]; omega
theorem wU_bounds (n : Int) : 0 ≤ wU n ∧ wU n ≤ 18446744073709551615 := by rw [wU_eq]; omega
def xU (a b : Int) : Int := wU ((BitVec.ofInt 64 a ^^^ BitVec.ofInt 64 b).toNat)
def nextT (s : Int) : Int := wU (wU (s * 6364136223846793005) + 1442695040888963407)
def nextM (s : Int) : Int := wU (xU (nextT s) ((nextT s).fdiv (2 ^ (min (Int.toNat 29) 64))) * 2685821657736338717)
def nextU (s : Int) : Int := xU (nextM s) ((nextM s).fdiv (2 ^ (min (Int.toNat 32) 64)))
def nextTR (s : Int) : Int := wU (wU (6364136223846793005 * s) + 1442695040888963407)
def nextMR (s : Int) : Int := wU (xU (nextTR s) (wU ((nextTR s).tdiv 536870912)) * 2685821657736338717)
def nextUR (s : Int) : Int := xU (nextMR s) (wU ((nextMR s).tdiv 4294967296))
theorem shr_div {t : Int} (h0 : 0 ≤ t) (h1 : t ≤ 18446744073709551615) (d : Nat) (hd : 0 < d) : wU (t.tdiv d) = t.fdiv d := by
  rw [Int.tdiv_eq_ediv_of_nonneg h0, Int.fdiv_eq_ediv_of_nonneg _ (by omega)]
  have e0 : 0 ≤ t / (d : Int) := Int.ediv_nonneg h0 (by omega)
  have e1 : t / (d : Int) ≤ t := Int.ediv_le_self _ h0
  exact wU_id e0 (by omega)
theorem nextTR_eq (s : Int) : nextTR s = nextT s := by unfold nextTR nextT; rw [Int.mul_comm]
theorem nextMR_eq (s : Int) : nextMR s = nextM s := by
  unfold nextMR nextM
  rw [nextTR_eq]
  have h := wU_bounds (wU (s * 6364136223846793005) + 1442695040888963407)
  have e := shr_div (t := nextT s) h.1 h.2 536870912 (by decide)
  rw [show (nextT s).tdiv 536870912 = (nextT s).tdiv ((536870912 : Nat) : Int) from rfl, e]
  rfl
theorem nextUR_eq (s : Int) : nextUR s = nextU s := by
  unfold nextUR nextU
  rw [nextMR_eq]
  have h := wU_bounds (xU (nextT s) ((nextT s).fdiv (2 ^ (min (Int.toNat 29) 64))) * 2685821657736338717)
  have e := shr_div (t := nextM s) h.1 h.2 4294967296 (by decide)
  rw [show (nextM s).tdiv 4294967296 = (nextM s).tdiv ((4294967296 : Nat) : Int) from rfl, e]
  rfl
theorem nextU_nn (s : Int) : 0 ≤ nextU s := (wU_bounds _).1
/-- A number below n, and the next state. -/
def intn (n s : Int) : Int × Int := (bif decide (n < 1) then 0 else w64 ((nextU s).tmod (wU n)), bif decide (n < 1) then s else nextT s)
theorem intn_range {n s : Int} (h1 : 1 ≤ n) (h2 : n ≤ 9223372036854775807) : 0 ≤ (intn n s).1 ∧ (intn n s).1 < n := by
  unfold intn
  rw [decide_eq_false (show ¬ n < 1 by omega)]
  simp only [cond_false]
  rw [wU_id (by omega) (by omega), Int.tmod_eq_emod_of_nonneg (nextU_nn s)]
  have e0 := Int.emod_nonneg (nextU s) (show n ≠ 0 by omega)
  have e1 := Int.emod_lt_of_pos (nextU s) (show 0 < n by omega)
  rw [w64_id (by omega) (by omega)]
  exact ⟨e0, e1⟩
/-- One exchange of a shuffle, from the end. -/
def shufS (n : Int) (i : Nat) (x : List Int × Int) : List Int × Int :=
  ((x.1.set (n - 1 - i).toNat (x.1.getD (intn (w64 (n - 1 - i + 1)) x.2).1.toNat 0)).set (intn (w64 (n - 1 - i + 1)) x.2).1.toNat (x.1.getD (n - 1 - i).toNat 0), (intn (w64 (n - 1 - i + 1)) x.2).2)
def shuf (n s : Int) (l : List Int) : List Int × Int := foldN (shufS n) (n - 1).toNat 0 (l, s)
def permBad (n : Int) : Bool := orr (decide (n < 0)) (decide (n > 4096))
def perm (n s : Int) : List Int × Int := (bif permBad n then [] else (shuf n s (mapN n.toNat fun i => (i : Int))).1, bif permBad n then s else (shuf n s (mapN n.toNat fun i => (i : Int))).2)
theorem permBad_no {n : Int} (h : permBad n = false) : 0 ≤ n ∧ n ≤ 4096 := by
  unfold permBad at h
  obtain ⟨h1, h2⟩ := of_orr h
  have := of_decide_eq_false h1; have := of_decide_eq_false h2
  omega
theorem shuf_ok {n : Int} (h0 : 0 ≤ n) (h1 : n ≤ 4096) (k : Nat) (hk : k ≤ (n - 1).toNat) (x : List Int × Int) (hx : x.1.length = n.toNat ∧ IsPm x.1 x.1.length) :
    (foldN (shufS n) k 0 x).1.length = n.toNat ∧ IsPm (foldN (shufS n) k 0 x).1 (foldN (shufS n) k 0 x).1.length := by
  refine foldN_inv (f := shufS n) (fun _ y => y.1.length = n.toNat ∧ IsPm y.1 y.1.length) k 0 x hx fun j y _ hj hy => ?_
  have hr := intn_range (n := w64 (n - 1 - j + 1)) (s := y.2) (by rw [w64_id (by omega) (by omega)]; omega) (by rw [w64_id (by omega) (by omega)]; omega)
  have hw : w64 (n - 1 - (j : Int) + 1) = n - j := by rw [w64_id (by omega) (by omega)]; omega
  have hi : (n - 1 - (j : Int)).toNat < y.1.length := by have := hy.1; omega
  have hk' : (intn (w64 (n - 1 - j + 1)) y.2).1.toNat < y.1.length := by have := hy.1; rw [hw] at hr ⊢; omega
  have e : (shufS n j y).1 = swp y.1 (n - 1 - (j : Int)).toNat (intn (w64 (n - 1 - j + 1)) y.2).1.toNat := rfl
  rw [e]
  exact ⟨(swp_len _ _ _).trans hy.1, swp_pm hy.2 hi hk'⟩
theorem perm_ok (n s : Int) : IsPm (perm n s).1 (perm n s).1.length ∧ (permBad n = false → (perm n s).1.length = n.toNat) := by
  unfold perm
  cases hb : permBad n with
  | true => exact ⟨⟨fun i hi => absurd hi (by simp), fun i j hi => absurd hi (by simp)⟩, fun h => by cases h⟩
  | false =>
    obtain ⟨h0, h1⟩ := permBad_no hb
    have h := shuf_ok h0 h1 (n - 1).toNat (Nat.le_refl _) (mapN n.toNat fun i => (i : Int), s) ⟨mapN_len _ _, ident_pm n.toNat⟩
    exact ⟨h.2, fun _ => h.1⟩
theorem isP_of {l : List Int} (h : IsPm l l.length) : isP l = true := (isP_iff l).2 h
/-- The reference's composition. -/
def compR (a b : List Int) : List Int := bif orr (orr (!isP a) (!isP b)) ((a.length : Int) != b.length) then [] else appl 0 a b
theorem compR_eq (a b : List Int) : compR a b = comp a b := by
  unfold compR comp appl orr an
  cases isP a <;> cases isP b <;> cases h : ((a.length : Int) == b.length) <;> simp [bne, h]
def applR {α : Type} (d : α) (l : List α) (o : List Int) : List α := bif orr (!isP o) ((l.length : Int) != o.length) then [] else mapN o.length (fun i => l.getD (o.getD i 0).toNat d)
theorem applR_eq {α : Type} (d : α) (l : List α) (o : List Int) : applR d l o = appl d l o := by
  unfold applR appl orr an
  cases isP o <;> cases h : ((l.length : Int) == o.length) <;> simp [bne, h]
def applP {α : Type} (d : α) (l : List α) (o : List Int) : List α := bif orr ((l.length : Int) != o.length) (!isP o) then [] else appP d l o
theorem applP_eq {α : Type} (d : α) (l : List α) (o : List Int) : applP d l o = appl d l o := by
  unfold applP appl orr an
  rw [appP_eq]
  cases isP o <;> cases h : ((l.length : Int) == o.length) <;> simp [bne, h]
end Go.Fx
