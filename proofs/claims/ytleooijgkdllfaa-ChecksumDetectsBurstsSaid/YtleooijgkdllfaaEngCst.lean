/- THE ENGINE, PART 20: rows of constraints: plain models. -/
import Derived.Test.YtleooijgkdllfaaEngMd
namespace Go.Fx
open Go.Eng
def sb0 : Sb := ⟨0, 0, 0, 0, 0⟩
def Sb.sel (c : Bool) (a b : Sb) : Sb := ⟨bif c then a.vx else b.vx, bif c then a.vy else b.vy, bif c then a.w else b.w, bif c then a.im else b.im, bif c then a.ii else b.ii⟩
def Sb.v (s : Sb) : Vec := ⟨s.vx, s.vy⟩
def Row.n (r : Row) : Vec := ⟨r.nx, r.ny⟩
def sbAt (s : List Sb) (i : Int) : Sb := Sb.sel (orr (decide (i < 0)) (decide (i ≥ (s.length : Int)))) sb0 (s.getD i.toNat sb0)
def sbAtQ (s : List Sb) (i : Int) : List Prop := [orr (decide (i < 0)) (decide (i ≥ (s.length : Int))) = false → 0 ≤ i ∧ i < (s.length : Int)]
theorem sbAtQ_ok (s : List Sb) (i : Int) : Conj (sbAtQ s i) := by
  refine ⟨fun h => ?_, trivial⟩
  obtain ⟨h1, h2⟩ := of_orr h
  have := of_decide_eq_false h1; have := of_decide_eq_false h2
  omega
section
variable (at' : List Sb → Int → Sb) (mul add sub div : Int → Int → Int) (dot : Vec → Vec → Int) (vs : Vec → Vec → Vec) (clamp : Int → Int → Int → Int)
def relVG (r : Row) (s : List Sb) : Int := sub (add (dot r.n (vs (at' s r.b).v (at' s r.a).v)) (mul (at' s r.b).w r.ab)) (mul (at' s r.a).w r.aa)
def effKG (r : Row) (s : List Sb) : Int := add (add (add (mul (add (at' s r.a).im (at' s r.b).im) (dot r.n r.n)) (mul (mul r.aa r.aa) (at' s r.a).ii)) (mul (mul r.ab r.ab) (at' s r.b).ii)) r.so
def effG (r : Row) (s : List Sb) : Int := bif decide (effKG at' mul add dot r s < 1) then 0 else div 65536 (effKG at' mul add dot r s)
def corrG (c dt : Int) : Int := clamp (mul 13107 (div c dt)) (-262144) 262144
end
def relV (r : Row) (s : List Sb) : Int := relVG sbAt mul add sub vdot vsub r s
def eff (r : Row) (s : List Sb) : Int := effG sbAt mul add div vdot r s
def corr (c dt : Int) : Int := corrG mul div clamp c dt
def Bd.md (b : Bd) : Md := ofFix b.fixtures
def Bd.wc (b : Bd) : Vec := b.t.apply ⟨(ofFix b.fixtures).cx, (ofFix b.fixtures).cy⟩
def effQ (t0 t1 t2 : Int) : List Prop := [0 ≤ (0 : Int) ∧ (0 : Int) < ((⟨.i64, [t0, t1, t2]⟩ : SL).len : Int), Int.toNat 0 < (⟨.i64, [t0, t1, t2]⟩ : SL).len, 0 ≤ w64 (0 + 1) ∧ w64 (0 + 1) < ((⟨.i64, [t0, t1, t2]⟩ : SL).len : Int), (w64 (0 + 1)).toNat < (⟨.i64, [t0, t1, t2]⟩ : SL).len,
  0 ≤ w64 (w64 (0 + 1) + 1) ∧ w64 (w64 (0 + 1) + 1) < ((⟨.i64, [t0, t1, t2]⟩ : SL).len : Int), (w64 (w64 (0 + 1) + 1)).toNat < (⟨.i64, [t0, t1, t2]⟩ : SL).len]
theorem effQ_ok (t0 t1 t2 : Int) : Conj (effQ t0 t1 t2) :=
  ⟨⟨by decide, (by decide : (0 : Int) < ((3 : Nat) : Int))⟩, (by decide : Int.toNat 0 < 3), ⟨by decide, (by decide : w64 (0 + 1) < ((3 : Nat) : Int))⟩, (by decide : (w64 (0 + 1)).toNat < 3), ⟨by decide, (by decide : w64 (w64 (0 + 1) + 1) < ((3 : Nat) : Int))⟩, (by decide : (w64 (w64 (0 + 1) + 1)).toNat < 3), trivial⟩
/-! ### distances -/
def jdiff (j : Joint) (a b : Bd) : Vec := vsub (anchors j a.t b.t).2 (anchors j a.t b.t).1
def jlen (j : Joint) (a b : Bd) : Int := vlen (jdiff j a b)
def jlerr (j : Joint) (a b : Bd) : Int := bif decide (jlen j a b < j.lo) then sub (jlen j a b) j.lo else bif decide (jlen j a b > j.up) then sub (jlen j a b) j.up else 0
def arms (j : Joint) (a b : Bd) (n : Vec) : Int × Int := (vcross (vsub (anchors j a.t b.t).1 a.wc) n, vcross (vsub (anchors j a.t b.t).2 b.wc) n)
def prow (j : Joint) (a b : Bd) (ia ib : Int) (n : Vec) (s : List Sb) : Row :=
  ⟨ia, ib, n.x, n.y, (arms j a b n).1, (arms j a b n).2, eff ⟨ia, ib, n.x, n.y, (arms j a b n).1, (arms j a b n).2, 0, 0, -536870911, 536870911, j.so, 0, -1, 0⟩ s, 0, -536870911, 536870911, j.so, 0, -1, 0⟩
def bd0 : Bd := ⟨0, 0, 0, 0, 0, 0, 0, 0, 0, 0, 0, 0, 0, 0, false, false, false, false, 0, []⟩
section
variable (j : Joint) (a b : Bd) (ia ib : Int) (s : List Sb) (dt : Int)
def drow (n : Vec) (lo up : Int) : Row := ⟨ia, ib, n.x, n.y, (arms j a b n).1, (arms j a b n).2, (prow j a b ia ib n s).em, corr (jlerr j a b) dt, lo, up, j.so, j.i0, -1, 0⟩
def drowsOf (n : Vec) : List Row := bif decide (j.lo ≥ j.up) then [drow j a b ia ib s dt n (-536870911) 536870911] else bif decide (jlen j a b ≤ j.lo) then [drow j a b ia ib s dt n 0 536870911] else [drow j a b ia ib s dt n (-536870911) 0]
def dNone : Bool := orr (j.kind != 1) (an (decide (jlen j a b > j.lo)) (decide (jlen j a b < j.up)))
def drows : List Row := bif dNone j a b then [] else bif (jdiff j a b).eqb ⟨0, 0⟩ then drowsOf j a b ia ib s dt ⟨65536, 0⟩ else drowsOf j a b ia ib s dt (vnorm (jdiff j a b))
def drowsOfR (n : Vec) : List Row := bif an (decide (j.lo < j.up)) (decide (jlen j a b ≤ j.lo)) then [drow j a b ia ib s dt n 0 536870911] else bif decide (j.lo < j.up) then [drow j a b ia ib s dt n (-536870911) 0] else [drow j a b ia ib s dt n (-536870911) 536870911]
def drowsR : List Row := bif dNone j a b then [] else bif jlen j a b == 0 then drowsOfR j a b ia ib s dt ⟨65536, 0⟩ else drowsOfR j a b ia ib s dt (vnorm (jdiff j a b))
/-! ### angles, motors, limits -/
def arow (so : Int) : Row := ⟨ia, ib, 0, 0, 65536, 65536, eff ⟨ia, ib, 0, 0, 65536, 65536, 0, 0, -536870911, 536870911, so, 0, -1, 0⟩ s, 0, -536870911, 536870911, so, 0, -1, 0⟩
def motor (r : Row) : List Row := bif !j.em then [] else [⟨r.a, r.b, r.nx, r.ny, r.aa, r.ab, r.em, sub 0 j.ms, sub 0 (mul j.mf dt), mul j.mf dt, r.so, j.i2, r.fo, r.fr⟩]
def lrow (r : Row) (im bi lo up : Int) : Row := ⟨r.a, r.b, r.nx, r.ny, r.aa, r.ab, r.em, bi, lo, up, r.so, im, r.fo, r.fr⟩
def limits (v lo up : Int) (en : Bool) (im dt : Int) (r : Row) : List Row :=
  bif orr (!en) (an (decide (lo < v)) (decide (v < up))) then [] else bif lo == up then [lrow r im (corr (sub v lo) dt) r.lo r.up] else bif decide (v ≤ lo) then [lrow r im (corr (sub v lo) dt) 0 r.up] else [lrow r im (corr (sub v up) dt) r.lo 0]
def limitsR (v lo up : Int) (en : Bool) (im dt : Int) (r : Row) : List Row :=
  bif orr (!en) (an (decide (v > lo)) (decide (v < up))) then [] else bif an (lo != up) (decide (v ≤ lo)) then (bif an (lo != up) (decide (v > lo)) then [lrow r im (corr (sub v up) dt) 0 0] else [lrow r im (corr (sub v lo) dt) 0 r.up])
    else bif an (lo != up) (decide (v > lo)) then [lrow r im (corr (sub v up) dt) r.lo 0] else [lrow r im (corr (sub v lo) dt) r.lo r.up]
def pt1 : Row := ⟨ia, ib, 65536, 0, (arms j a b ⟨65536, 0⟩).1, (arms j a b ⟨65536, 0⟩).2, (prow j a b ia ib ⟨65536, 0⟩ s).em, corr (sub (anchors j a.t b.t).2.x (anchors j a.t b.t).1.x) dt, -536870911, 536870911, j.so, j.i0, -1, 0⟩
def pt2 : Row := ⟨ia, ib, 0, 65536, (arms j a b ⟨0, 65536⟩).1, (arms j a b ⟨0, 65536⟩).2, (prow j a b ia ib ⟨0, 65536⟩ s).em, corr (sub (anchors j a.t b.t).2.y (anchors j a.t b.t).1.y) dt, -536870911, 536870911, j.so, j.i1, -1, 0⟩
def points : List Row := [pt1 j a b ia ib s dt, pt2 j a b ia ib s dt]
def rrows : List Row := bif j.kind != 2 then [] else motor j dt (arow ia ib s 0) ++ limits (relAng j a.t b.t) j.lo j.up j.el j.i3 dt (arow ia ib s 0) ++ points j a b ia ib s dt
/-! ### sliding -/
def sarms (n : Vec) : Int × Int := (vcross (vadd (vsub (anchors j a.t b.t).1 a.wc) (vsub (anchors j a.t b.t).2 (anchors j a.t b.t).1)) n, vcross (vsub (anchors j a.t b.t).2 b.wc) n)
def srow (n : Vec) (so : Int) : Row := ⟨ia, ib, n.x, n.y, (sarms j a b n).1, (sarms j a b n).2, eff ⟨ia, ib, n.x, n.y, (sarms j a b n).1, (sarms j a b n).2, 0, 0, -536870911, 536870911, so, 0, -1, 0⟩ s, 0, -536870911, 536870911, so, 0, -1, 0⟩
def offset : Int := vdot (vsub (anchors j a.t b.t).2 (anchors j a.t b.t).1) (vperp (wAxis j a.t))
def sang : Row := ⟨ia, ib, 0, 0, 65536, 65536, (arow ia ib s j.so).em, corr (relAng j a.t b.t) dt, -536870911, 536870911, j.so, j.i1, -1, 0⟩
def sacr : Row := ⟨ia, ib, (vperp (wAxis j a.t)).x, (vperp (wAxis j a.t)).y, (sarms j a b (vperp (wAxis j a.t))).1, (sarms j a b (vperp (wAxis j a.t))).2, (srow j a b ia ib s (vperp (wAxis j a.t)) j.so).em, corr (offset j a b) dt, -536870911, 536870911, j.so, j.i0, -1, 0⟩
def srows : List Row := bif j.kind != 3 then [] else motor j dt (srow j a b ia ib s (wAxis j a.t) 0) ++ limits (transl j a.t b.t) j.lo j.up j.el j.i3 dt (srow j a b ia ib s (wAxis j a.t) 0) ++ [sang j a b ia ib s dt, sacr j a b ia ib s dt]
/-! ### welds -/
def wang : Row := ⟨ia, ib, 0, 0, 65536, 65536, (arow ia ib s j.so).em, corr (relAng j a.t b.t) dt, -536870911, 536870911, j.so, j.i2, -1, 0⟩
def wrows : List Row := bif j.kind != 4 then [] else wang j a b ia ib s dt :: points j a b ia ib s dt
def tarm (q n : Vec) : Int := vcross (vsub q b.wc) n
def trow (q n : Vec) (most off sum : Int) : Row := ⟨-1, ib, n.x, n.y, 0, tarm b q n, eff ⟨-1, ib, n.x, n.y, 0, tarm b q n, 0, 0, w64 (0 - most), most, j.so, sum, -1, 0⟩ s, corr off dt, w64 (0 - most), most, j.so, sum, -1, 0⟩
def tdiff : Vec := vsub (anchors j bd0.t b.t).2 (anchors j bd0.t b.t).1
def trows : List Row := bif j.kind != 5 then [] else [trow j b ib s dt (anchors j bd0.t b.t).2 ⟨65536, 0⟩ (mul j.mf dt) (tdiff j b).x j.i0, trow j b ib s dt (anchors j bd0.t b.t).2 ⟨0, 65536⟩ (mul j.mf dt) (tdiff j b).y j.i1]
def jrows : List Row := bif j.kind == 1 then drows j a b ia ib s dt else bif j.kind == 2 then rrows j a b ia ib s dt else bif j.kind == 3 then srows j a b ia ib s dt else bif j.kind == 4 then wrows j a b ia ib s dt else bif j.kind == 5 then trows j b ib s dt else []
end
def vnormR (v : Vec) : Vec := ⟨bif vlenR v == 0 then 0 else div v.x (vlenR v), bif vlenR v == 0 then 0 else div v.y (vlenR v)⟩
theorem vnormR_eq (v : Vec) : vnormR v = vnorm v := by unfold vnormR vnorm; rw [vlenR_eq]
theorem limitsR_eq (v lo up : Int) (en : Bool) (im dt : Int) (r : Row) : limitsR v lo up en im dt r = limits v lo up en im dt r := by
  unfold limitsR limits an orr
  have hD : decide (v ≤ lo) = !decide (lo < v) := by by_cases h : lo < v <;> simp [h, Int.not_le.2, Int.not_lt.1]
  rw [hD, show decide (v > lo) = decide (lo < v) from rfl, show (lo != up) = !(lo == up) from rfl]
  generalize decide (lo < v) = A
  generalize decide (v < up) = B
  generalize (lo == up) = C
  cases en <;> cases A <;> cases B <;> cases C <;> simp only [cond_true, cond_false, Bool.not_true, Bool.not_false]
theorem sat_zero {x : Int} (h : sat x = 0) : x = 0 := by
  unfold sat at h
  split at h
  · omega
  · split at h <;> omega
theorem vlen_zero {v : Vec} : vlen v = 0 ↔ v.x = 0 ∧ v.y = 0 := by
  rw [← vlenR_eq]
  unfold vlenR vlen2
  have hx := sat_bounds v.x; have hy := sat_bounds v.y
  have e1 : sat v.x = 0 ↔ v.x = 0 := ⟨sat_zero, fun h => by rw [h]; rfl⟩
  have e2 : sat v.y = 0 ↔ v.y = 0 := ⟨sat_zero, fun h => by rw [h]; rfl⟩
  rw [← e1, ← e2]
  generalize sat v.x = p at hx
  generalize sat v.y = q at hy
  have b1 := prod_bounds (m := 536870911) (a := p) (b := p) (by omega) (by omega) (by omega) (by omega) (by omega)
  have b2 := prod_bounds (m := 536870911) (a := q) (b := q) (by omega) (by omega) (by omega) (by omega) (by omega)
  rw [w64_id (n := p * p) (by omega) (by omega), w64_id (n := q * q) (by omega) (by omega), w64_id (by omega) (by omega)]
  have s1 := sq_nn p; have s2 := sq_nn q
  obtain ⟨r0, r1, r2⟩ := isqrt_spec (n := p * p + q * q) (by omega) (by omega)
  constructor
  · intro h
    rw [h] at r2
    have : p * p = 0 := by omega
    have : q * q = 0 := by omega
    exact ⟨(Int.mul_eq_zero.1 ‹p * p = 0›).elim id id, (Int.mul_eq_zero.1 ‹q * q = 0›).elim id id⟩
  · rintro ⟨rfl, rfl⟩
    decide +kernel
theorem vlen_beq (v : Vec) : (vlen v == 0) = v.eqb ⟨0, 0⟩ := by
  rw [Bool.eq_iff_iff]
  simp only [beq_iff_eq, vlen_zero, Vec.eqb, Bool.and_eq_true, and_true]
theorem drowsOfR_eq (j : Joint) (a b : Bd) (ia ib : Int) (s : List Sb) (dt : Int) (n : Vec) : drowsOfR j a b ia ib s dt n = drowsOf j a b ia ib s dt n := by
  unfold drowsOfR drowsOf an
  by_cases h1 : j.lo < j.up
  · by_cases h2 : jlen j a b ≤ j.lo <;> simp [h1, h2, Int.not_le.2 h1]
  · simp [h1, Int.not_lt.1 h1]
theorem drowsR_eq (j : Joint) (a b : Bd) (ia ib : Int) (s : List Sb) (dt : Int) : drowsR j a b ia ib s dt = drows j a b ia ib s dt := by
  unfold drowsR drows
  rw [drowsOfR_eq, drowsOfR_eq, show (jlen j a b == 0) = (jdiff j a b).eqb ⟨0, 0⟩ from vlen_beq _]
/-! ### memory -/
def apQ (l m : List Row) : Prop := (l.length + m.length) * 112 ≤ 140737488355328
def anQ (l : List Row) : Prop := l.length * 112 ≤ 140737488355328
theorem motor_len (j : Joint) (dt : Int) (r : Row) : (motor j dt r).length ≤ 1 := by unfold motor; cases j.em <;> simp
theorem limits_len (v lo up : Int) (en : Bool) (im dt : Int) (r : Row) : (limits v lo up en im dt r).length ≤ 1 := by
  unfold limits
  cases orr (!en) (an (decide (lo < v)) (decide (v < up))) <;> cases (lo == up) <;> cases decide (v ≤ lo) <;> simp
section
variable (j : Joint) (a b : Bd) (ia ib : Int) (s : List Sb) (dt : Int)
def rrowsQ : List Prop := [(j.kind != 2) = false → apQ (motor j dt (arow ia ib s 0)) (limits (relAng j a.t b.t) j.lo j.up j.el j.i3 dt (arow ia ib s 0)),
  (j.kind != 2) = false → apQ (motor j dt (arow ia ib s 0) ++ limits (relAng j a.t b.t) j.lo j.up j.el j.i3 dt (arow ia ib s 0)) (points j a b ia ib s dt)]
theorem rrowsQ_ok : Conj (rrowsQ j a b ia ib s dt) := by
  have h1 := motor_len j dt (arow ia ib s 0)
  have h2 := limits_len (relAng j a.t b.t) j.lo j.up j.el j.i3 dt (arow ia ib s 0)
  refine ⟨fun _ => ?_, fun _ => ?_, trivial⟩
  · unfold apQ; omega
  · unfold apQ; rw [List.length_append]; show (_ + 2) * 112 ≤ _; omega
def srowsQ : List Prop := [(j.kind != 3) = false → apQ (motor j dt (srow j a b ia ib s (wAxis j a.t) 0)) (limits (transl j a.t b.t) j.lo j.up j.el j.i3 dt (srow j a b ia ib s (wAxis j a.t) 0)),
  (j.kind != 3) = false → apQ (motor j dt (srow j a b ia ib s (wAxis j a.t) 0) ++ limits (transl j a.t b.t) j.lo j.up j.el j.i3 dt (srow j a b ia ib s (wAxis j a.t) 0)) [sang j a b ia ib s dt, sacr j a b ia ib s dt]]
theorem srowsQ_ok : Conj (srowsQ j a b ia ib s dt) := by
  have h1 := motor_len j dt (srow j a b ia ib s (wAxis j a.t) 0)
  have h2 := limits_len (transl j a.t b.t) j.lo j.up j.el j.i3 dt (srow j a b ia ib s (wAxis j a.t) 0)
  refine ⟨fun _ => ?_, fun _ => ?_, trivial⟩
  · unfold apQ; omega
  · unfold apQ; rw [List.length_append]; show (_ + 2) * 112 ≤ _; omega
def wrowsQ : List Prop := [(j.kind != 4) = false → apQ [wang j a b ia ib s dt] (points j a b ia ib s dt)]
theorem wrowsQ_ok : Conj (wrowsQ j a b ia ib s dt) := ⟨fun _ => (by decide : (1 + 2) * 112 ≤ 140737488355328), trivial⟩
end
section
variable (j : Joint) (a b : Bd) (ia ib : Int) (s : List Sb) (dt : Int)
def mlim : List Row := motor j dt (srow j a b ia ib s (wAxis j a.t) 0) ++ limits (transl j a.t b.t) j.lo j.up j.el j.i3 dt (srow j a b ia ib s (wAxis j a.t) 0)
def sacrR (n : Vec) : Row := ⟨ia, ib, n.x, n.y, (sarms j a b n).1, (sarms j a b n).2, eff ⟨ia, ib, n.x, n.y, (sarms j a b n).1, (sarms j a b n).2, (srow j a b ia ib s n 0).em, 0, -536870911, 536870911, j.so, 0, -1, 0⟩ s, corr (offset j a b) dt, -536870911, 536870911, j.so, j.i0, -1, 0⟩
def srowsR : List Row := bif j.kind != 3 then [] else mlim j a b ia ib s dt ++ [sang j a b ia ib s dt] ++ [sacrR j a b ia ib s dt (vperp (wAxis j a.t))]
theorem eff_em (a b nx ny aa ab em em' bi lo up so im fo fr : Int) : eff ⟨a, b, nx, ny, aa, ab, em, bi, lo, up, so, im, fo, fr⟩ s = eff ⟨a, b, nx, ny, aa, ab, em', bi, lo, up, so, im, fo, fr⟩ s := by
  unfold eff effG effKG Row.n
  dsimp only
theorem sacrR_eq : sacrR j a b ia ib s dt (vperp (wAxis j a.t)) = sacr j a b ia ib s dt := by
  unfold sacrR sacr
  rw [eff_em (em' := 0)]
  unfold srow
  rfl
theorem srowsR_eq : srowsR j a b ia ib s dt = srows j a b ia ib s dt := by
  unfold srowsR srows
  rw [sacrR_eq, List.append_assoc]
  rfl
def srowsRQ : List Prop := [(j.kind != 3) = false → apQ [] (motor j dt (srow j a b ia ib s (wAxis j a.t) 0)), (j.kind != 3) = false → apQ (motor j dt (srow j a b ia ib s (wAxis j a.t) 0)) (limits (transl j a.t b.t) j.lo j.up j.el j.i3 dt (srow j a b ia ib s (wAxis j a.t) 0)),
  (j.kind != 3) = false → apQ (mlim j a b ia ib s dt) [sang j a b ia ib s dt], (j.kind != 3) = false → apQ (mlim j a b ia ib s dt ++ [sang j a b ia ib s dt]) [sacrR j a b ia ib s dt (vperp (wAxis j a.t))]]
theorem srowsRQ_ok : Conj (srowsRQ j a b ia ib s dt) := by
  have h1 := motor_len j dt (srow j a b ia ib s (wAxis j a.t) 0)
  have h2 := limits_len (transl j a.t b.t) j.lo j.up j.el j.i3 dt (srow j a b ia ib s (wAxis j a.t) 0)
  have h3 : (mlim j a b ia ib s dt).length ≤ 2 := by unfold mlim; rw [List.length_append]; omega
  refine ⟨fun _ => ?_, fun _ => ?_, fun _ => ?_, fun _ => ?_, trivial⟩
  · unfold apQ; show (0 + _) * 112 ≤ _; omega
  · unfold apQ; omega
  · unfold apQ; show (_ + 1) * 112 ≤ _; omega
  · unfold apQ; rw [List.length_append]; show (_ + 1 + 1) * 112 ≤ _; omega
end
end Go.Fx
namespace Go.Eng
open Go
/-- A contract with 9 arguments, and what it asks for. -/
def p9 {α0 α1 α2 α3 α4 α5 α6 α7 α8 ρ : Type} (A0 : Enc α0) (A1 : Enc α1) (A2 : Enc α2) (A3 : Enc α3) (A4 : Enc α4) (A5 : Enc α5) (A6 : Enc α6) (A7 : Enc α7) (A8 : Enc α8) (R : Enc ρ) (Q : α0 → α1 → α2 → α3 → α4 → α5 → α6 → α7 → α8 → List Prop) (F : α0 → α1 → α2 → α3 → α4 → α5 → α6 → α7 → α8 → ρ) : Contract := fun
  | [a0, a1, a2, a3, a4, a5, a6, a7, a8] => (match A0.dec a0, A1.dec a1, A2.dec a2, A3.dec a3, A4.dec a4, A5.dec a5, A6.dec a6, A7.dec a7, A8.dec a8 with
    | some x0, some x1, some x2, some x3, some x4, some x5, some x6, some x7, some x8 => some ((Q x0 x1 x2 x3 x4 x5 x6 x7 x8), R.pv (F x0 x1 x2 x3 x4 x5 x6 x7 x8))
    | _, _, _, _, _, _, _, _, _ => none)
  | _ => none
abbrev c9 {α0 α1 α2 α3 α4 α5 α6 α7 α8 ρ : Type} (A0 : Enc α0) (A1 : Enc α1) (A2 : Enc α2) (A3 : Enc α3) (A4 : Enc α4) (A5 : Enc α5) (A6 : Enc α6) (A7 : Enc α7) (A8 : Enc α8) (R : Enc ρ) (F : α0 → α1 → α2 → α3 → α4 → α5 → α6 → α7 → α8 → ρ) : Contract := p9 A0 A1 A2 A3 A4 A5 A6 A7 A8 R (fun _ _ _ _ _ _ _ _ _ => []) F
theorem g9 {P : Program} {ctrs : FuncId → Option Contract} {lps : Nat → St → Tree} {f : FuncId} {α0 α1 α2 α3 α4 α5 α6 α7 α8 ρ : Type} {A0 : Enc α0} {A1 : Enc α1} {A2 : Enc α2} {A3 : Enc α3} {A4 : Enc α4} {A5 : Enc α5} {A6 : Enc α6} {A7 : Enc α7} {A8 : Enc α8} {R : Enc ρ} {Q : α0 → α1 → α2 → α3 → α4 → α5 → α6 → α7 → α8 → List Prop} {F : α0 → α1 → α2 → α3 → α4 → α5 → α6 → α7 → α8 → ρ} (Q' : α0 → α1 → α2 → α3 → α4 → α5 → α6 → α7 → α8 → List Prop) (U : α0 → α1 → α2 → α3 → α4 → α5 → α6 → α7 → α8 → ρ) (hq : ∀ x0 x1 x2 x3 x4 x5 x6 x7 x8, Conj (Q x0 x1 x2 x3 x4 x5 x6 x7 x8) → Conj (Q' x0 x1 x2 x3 x4 x5 x6 x7 x8)) (hU : ∀ x0 x1 x2 x3 x4 x5 x6 x7 x8, Conj (Q x0 x1 x2 x3 x4 x5 x6 x7 x8) → (U x0 x1 x2 x3 x4 x5 x6 x7 x8) = (F x0 x1 x2 x3 x4 x5 x6 x7 x8))
    (h : ∀ x0 x1 x2 x3 x4 x5 x6 x7 x8, symFn P ctrs lps f [A0.pv x0, A1.pv x1, A2.pv x2, A3.pv x3, A4.pv x4, A5.pv x5, A6.pv x6, A7.pv x7, A8.pv x8] = some ((Q' x0 x1 x2 x3 x4 x5 x6 x7 x8), R.pv (U x0 x1 x2 x3 x4 x5 x6 x7 x8))) : ∀ args ps r, p9 A0 A1 A2 A3 A4 A5 A6 A7 A8 R Q F args = some (ps, r) → Conj ps → ∃ qs, symFn P ctrs lps f args = some (qs, r) ∧ Conj qs := by
  intro args ps r e hc
  unfold p9 at e
  split at e
  · split at e
    · rename_i h0 h1 h2 h3 h4 h5 h6 h7 h8
      cases e
      rw [A0.ok _ _ h0, A1.ok _ _ h1, A2.ok _ _ h2, A3.ok _ _ h3, A4.ok _ _ h4, A5.ok _ _ h5, A6.ok _ _ h6, A7.ok _ _ h7, A8.ok _ _ h8]
      exact ⟨_, (h _ _ _ _ _ _ _ _ _).trans (by rw [hU _ _ _ _ _ _ _ _ _ hc]), hq _ _ _ _ _ _ _ _ _ hc⟩
    · cases e
  · cases e
theorem k9 {P : Program} {ctrs : FuncId → Option Contract} {lps : Nat → St → Tree} {f : FuncId} {α0 α1 α2 α3 α4 α5 α6 α7 α8 ρ : Type} {A0 : Enc α0} {A1 : Enc α1} {A2 : Enc α2} {A3 : Enc α3} {A4 : Enc α4} {A5 : Enc α5} {A6 : Enc α6} {A7 : Enc α7} {A8 : Enc α8} {R : Enc ρ} {F : α0 → α1 → α2 → α3 → α4 → α5 → α6 → α7 → α8 → ρ} (h : ∀ x0 x1 x2 x3 x4 x5 x6 x7 x8, symFn P ctrs lps f [A0.pv x0, A1.pv x1, A2.pv x2, A3.pv x3, A4.pv x4, A5.pv x5, A6.pv x6, A7.pv x7, A8.pv x8] = some ([], R.pv (F x0 x1 x2 x3 x4 x5 x6 x7 x8))) : ∀ args ps r, c9 A0 A1 A2 A3 A4 A5 A6 A7 A8 R F args = some (ps, r) → Conj ps → ∃ qs, symFn P ctrs lps f args = some (qs, r) ∧ Conj qs :=
  g9 (fun _ _ _ _ _ _ _ _ _ => []) F (fun _ _ _ _ _ _ _ _ _ _ => trivial) (fun _ _ _ _ _ _ _ _ _ _ => rfl) h
/-- A contract with 10 arguments, and what it asks for. -/
def p10 {α0 α1 α2 α3 α4 α5 α6 α7 α8 α9 ρ : Type} (A0 : Enc α0) (A1 : Enc α1) (A2 : Enc α2) (A3 : Enc α3) (A4 : Enc α4) (A5 : Enc α5) (A6 : Enc α6) (A7 : Enc α7) (A8 : Enc α8) (A9 : Enc α9) (R : Enc ρ) (Q : α0 → α1 → α2 → α3 → α4 → α5 → α6 → α7 → α8 → α9 → List Prop) (F : α0 → α1 → α2 → α3 → α4 → α5 → α6 → α7 → α8 → α9 → ρ) : Contract := fun
  | [a0, a1, a2, a3, a4, a5, a6, a7, a8, a9] => (match A0.dec a0, A1.dec a1, A2.dec a2, A3.dec a3, A4.dec a4, A5.dec a5, A6.dec a6, A7.dec a7, A8.dec a8, A9.dec a9 with
    | some x0, some x1, some x2, some x3, some x4, some x5, some x6, some x7, some x8, some x9 => some ((Q x0 x1 x2 x3 x4 x5 x6 x7 x8 x9), R.pv (F x0 x1 x2 x3 x4 x5 x6 x7 x8 x9))
    | _, _, _, _, _, _, _, _, _, _ => none)
  | _ => none
abbrev c10 {α0 α1 α2 α3 α4 α5 α6 α7 α8 α9 ρ : Type} (A0 : Enc α0) (A1 : Enc α1) (A2 : Enc α2) (A3 : Enc α3) (A4 : Enc α4) (A5 : Enc α5) (A6 : Enc α6) (A7 : Enc α7) (A8 : Enc α8) (A9 : Enc α9) (R : Enc ρ) (F : α0 → α1 → α2 → α3 → α4 → α5 → α6 → α7 → α8 → α9 → ρ) : Contract := p10 A0 A1 A2 A3 A4 A5 A6 A7 A8 A9 R (fun _ _ _ _ _ _ _ _ _ _ => []) F
theorem g10 {P : Program} {ctrs : FuncId → Option Contract} {lps : Nat → St → Tree} {f : FuncId} {α0 α1 α2 α3 α4 α5 α6 α7 α8 α9 ρ : Type} {A0 : Enc α0} {A1 : Enc α1} {A2 : Enc α2} {A3 : Enc α3} {A4 : Enc α4} {A5 : Enc α5} {A6 : Enc α6} {A7 : Enc α7} {A8 : Enc α8} {A9 : Enc α9} {R : Enc ρ} {Q : α0 → α1 → α2 → α3 → α4 → α5 → α6 → α7 → α8 → α9 → List Prop} {F : α0 → α1 → α2 → α3 → α4 → α5 → α6 → α7 → α8 → α9 → ρ} (Q' : α0 → α1 → α2 → α3 → α4 → α5 → α6 → α7 → α8 → α9 → List Prop) (U : α0 → α1 → α2 → α3 → α4 → α5 → α6 → α7 → α8 → α9 → ρ) (hq : ∀ x0 x1 x2 x3 x4 x5 x6 x7 x8 x9, Conj (Q x0 x1 x2 x3 x4 x5 x6 x7 x8 x9) → Conj (Q' x0 x1 x2 x3 x4 x5 x6 x7 x8 x9)) (hU : ∀ x0 x1 x2 x3 x4 x5 x6 x7 x8 x9, Conj (Q x0 x1 x2 x3 x4 x5 x6 x7 x8 x9) → (U x0 x1 x2 x3 x4 x5 x6 x7 x8 x9) = (F x0 x1 x2 x3 x4 x5 x6 x7 x8 x9))
    (h : ∀ x0 x1 x2 x3 x4 x5 x6 x7 x8 x9, symFn P ctrs lps f [A0.pv x0, A1.pv x1, A2.pv x2, A3.pv x3, A4.pv x4, A5.pv x5, A6.pv x6, A7.pv x7, A8.pv x8, A9.pv x9] = some ((Q' x0 x1 x2 x3 x4 x5 x6 x7 x8 x9), R.pv (U x0 x1 x2 x3 x4 x5 x6 x7 x8 x9))) : ∀ args ps r, p10 A0 A1 A2 A3 A4 A5 A6 A7 A8 A9 R Q F args = some (ps, r) → Conj ps → ∃ qs, symFn P ctrs lps f args = some (qs, r) ∧ Conj qs := by
  intro args ps r e hc
  unfold p10 at e
  split at e
  · split at e
    · rename_i h0 h1 h2 h3 h4 h5 h6 h7 h8 h9
      cases e
      rw [A0.ok _ _ h0, A1.ok _ _ h1, A2.ok _ _ h2, A3.ok _ _ h3, A4.ok _ _ h4, A5.ok _ _ h5, A6.ok _ _ h6, A7.ok _ _ h7, A8.ok _ _ h8, A9.ok _ _ h9]
      exact ⟨_, (h _ _ _ _ _ _ _ _ _ _).trans (by rw [hU _ _ _ _ _ _ _ _ _ _ hc]), hq _ _ _ _ _ _ _ _ _ _ hc⟩
    · cases e
  · cases e
theorem k10 {P : Program} {ctrs : FuncId → Option Contract} {lps : Nat → St → Tree} {f : FuncId} {α0 α1 α2 α3 α4 α5 α6 α7 α8 α9 ρ : Type} {A0 : Enc α0} {A1 : Enc α1} {A2 : Enc α2} {A3 : Enc α3} {A4 : Enc α4} {A5 : Enc α5} {A6 : Enc α6} {A7 : Enc α7} {A8 : Enc α8} {A9 : Enc α9} {R : Enc ρ} {F : α0 → α1 → α2 → α3 → α4 → α5 → α6 → α7 → α8 → α9 → ρ} (h : ∀ x0 x1 x2 x3 x4 x5 x6 x7 x8 x9, symFn P ctrs lps f [A0.pv x0, A1.pv x1, A2.pv x2, A3.pv x3, A4.pv x4, A5.pv x5, A6.pv x6, A7.pv x7, A8.pv x8, A9.pv x9] = some ([], R.pv (F x0 x1 x2 x3 x4 x5 x6 x7 x8 x9))) : ∀ args ps r, c10 A0 A1 A2 A3 A4 A5 A6 A7 A8 A9 R F args = some (ps, r) → Conj ps → ∃ qs, symFn P ctrs lps f args = some (qs, r) ∧ Conj qs :=
  g10 (fun _ _ _ _ _ _ _ _ _ _ => []) F (fun _ _ _ _ _ _ _ _ _ _ _ => trivial) (fun _ _ _ _ _ _ _ _ _ _ _ => rfl) h
/-- A pointer to a record that is only read. -/
def eP (k : K) : Enc k.Ty := ⟨fun | .fv (.one (.rp m 0 0)) => (match m.as k with | some [x] => some x | _ => none) | _ => none, fun x => .fv (.one (.rp ⟨k, [x]⟩ 0 0)), fun p x h => by
  split at h
  · split at h
    · rename_i m _ _ hm
      cases h
      rw [SL.as_eq hm]
    · cases h
  · cases h⟩
end Go.Eng
