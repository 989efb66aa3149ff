/- THE ENGINE, PART 11: joints and bodies: plain models and encodings. -/
import Derived.Test.YtleooijgkdllfaaEngEnc
namespace Go.Fx
/-! ### joints -/

def Joint.pa (j : Joint) : Vec := ⟨j.ax, j.ay⟩
def Joint.pb (j : Joint) : Vec := ⟨j.bx, j.bby⟩
def Joint.axis (j : Joint) : Vec := ⟨j.ux, j.uy⟩
def inR (x lo hi : Int) : Bool := an (decide (x ≥ lo)) (decide (x ≤ hi))
def ptIn (v : Vec) (m : Int) : Bool := an (inR v.x (w64 (0 - m)) m) (inR v.y (w64 (0 - m)) m)
def limLo (k : Int) : Int := bif k == 1 then 0 else bif k == 2 then -205888 else -268435456
def limHi (k : Int) : Int := bif k == 1 then 268435456 else bif k == 2 then 205888 else 268435456
def nt (x y : Bool) : Bool := bif !x then false else y
section
variable (rg : Int → Int → Int → Bool) (pt : Vec → Int → Bool) (ll lh : Int → Int) (j : Joint)
def Joint.impsG (b : Bool) : Bool := nt (rg j.i0 (-536870911) 536870911) (nt (rg j.i1 (-536870911) 536870911) (nt (rg j.i2 (-536870911) 536870911) (nt (rg j.i3 (-536870911) 536870911) b)))
def Joint.numsG (reach : Int) : Bool :=
  j.impsG rg (an (an (an (an (an (an (an (an (an (an (rg j.id 1 1099511627776) (pt j.pa reach)) (pt j.pb 1048576)) (rg j.ra (-205888) 205887)) (rg j.lo (ll j.kind) (lh j.kind))) (rg j.up (ll j.kind) (lh j.kind))) (decide (j.lo ≤ j.up))) (rg j.ms (-16777216) 16777216)) (rg j.mf 0 536870911)) (rg j.so 0 536870911)) (rg j.br 0 536870911))
def Joint.numsOf : Bool := bif j.kind == 5 then j.numsG rg pt ll lh 268435456 else j.numsG rg pt ll lh 1048576
end
def Joint.nums (j : Joint) : Bool := j.numsOf inR ptIn limLo limHi
def Joint.bodies (j : Joint) : Bool := bif j.kind == 5 then an (j.ba == 0) (inR j.bb 1 1099511627776) else an (an (inR j.ba 1 1099511627776) (inR j.bb 1 1099511627776)) (j.ba != j.bb)
def Joint.plain (j : Joint) : Bool := j.ux == 0 && (j.uy == 0 && true)
def Joint.bad (j : Joint) : Bool :=
  bif j.kind == 3 then !inR (vlen j.axis) 65520 65552
  else bif j.kind == 1 then orr (orr (!j.plain) j.em) (!j.el)
  else bif j.kind == 4 then orr (orr (!j.plain) j.em) j.el
  else bif j.kind == 5 then orr (orr (!j.plain) j.em) j.el
  else !j.plain
def Joint.limR (j : Joint) : Bool :=
  bif orr (orr (!inR j.lo (-268435456) 268435456) (!inR j.up (-268435456) 268435456)) (decide (j.lo > j.up)) then false
  else bif j.kind == 1 then decide (j.lo ≥ 0) else orr (j.kind != 2) (an (decide (j.lo ≥ -205888)) (decide (j.up ≤ 205888)))
def Joint.attached (j : Joint) (x : Int) : Bool := bif x != 0 then orr (j.ba == x) (j.bb == x) else false
def Joint.zeroed (j : Joint) : Bool := j.i0 == 0 && (j.i1 == 0 && (j.i2 == 0 && (j.i3 == 0 && true)))
def Joint.reset (j : Joint) : Joint := { j with i0 := 0, i1 := 0, i2 := 0, i3 := 0 }
def Bd.t (b : Bd) : Tf := ⟨b.px, b.py, b.pa⟩
def Joint.err (j : Joint) (rv bo ic : Bool) : Int := bif orr (decide (j.kind < 1)) (decide (j.kind > 5)) then 10 else bif !rv then 6 else bif !bo then 14 else bif ic then 15 else 0
def Joint.errP (j : Joint) : Int := j.err j.nums j.bodies j.bad
section
variable (rg : Int → Int → Int → Bool) (pt : Vec → Int → Bool) (lv : Joint → Bool) (vl : Vec → Int) (rv : Joint → Bool) (j : Joint)
def Joint.rangeG (reach : Int) : Bool :=
  j.impsG rg (bif orr (orr (orr (orr (!rg j.id 1 1099511627776) (!pt j.pa reach)) (!pt j.pb 1048576)) (!rg j.ra (-205888) 205887)) (!lv j) then false
    else an (an (an (rg j.ms (-16777216) 16777216) (rg j.mf 0 536870911)) (rg j.so 0 536870911)) (rg j.br 0 536870911))
def Joint.rangeOf : Bool := bif j.kind == 5 then j.rangeG rg pt lv 268435456 else j.rangeG rg pt lv 1048576
def Joint.errG : Int :=
  bif orr (decide (j.kind < 1)) (decide (j.kind > 5)) then 10
  else bif !rv j then 6
  else bif orr (orr (!rg j.bb 1 1099511627776) (an (j.kind == 5) (j.ba != 0))) (an (j.kind != 5) (orr (!rg j.ba 1 1099511627776) (j.ba == j.bb))) then 14
  else bif orr (an (j.kind == 3) (!rg (vl j.axis) 65520 65552)) (an (j.kind != 3) (!j.plain)) then 15
  else bif orr (orr (an (orr (j.kind == 1) (orr (j.kind == 4) (j.kind == 5))) j.em) (an (orr (j.kind == 4) (j.kind == 5)) j.el)) (an (j.kind == 1) (!j.el)) then 15
  else 0
end
def Joint.range (j : Joint) : Bool := j.rangeOf inR ptIn Joint.limR
def Joint.errR (j : Joint) : Int := j.errG inR vlenR Joint.range
theorem bool_ext {x y : Bool} (h : x = true ↔ y = true) : x = y := by cases x <;> cases y <;> simp_all
theorem Joint.range_eq (j : Joint) : j.range = j.nums := by
  unfold Joint.range Joint.nums Joint.rangeOf Joint.numsOf
  have hl : (an (an (inR j.lo (limLo j.kind) (limHi j.kind)) (inR j.up (limLo j.kind) (limHi j.kind))) (decide (j.lo ≤ j.up))) = j.limR := by
    unfold inR limLo limHi Joint.limR inR
    by_cases h1 : j.kind = 1
    · rw [h1]; apply bool_ext; simp only [an, orr, cond_eq_ite, beq_iff_eq]; simp; omega
    · by_cases h2 : j.kind = 2
      · rw [h2]; apply bool_ext; simp only [an, orr, cond_eq_ite, beq_iff_eq]; simp; omega
      · apply bool_ext; simp [an, orr, cond_eq_ite, h1, h2]
  have h : ∀ m, j.rangeG inR ptIn Joint.limR m = j.numsG inR ptIn limLo limHi m := by
    intro m
    unfold Joint.rangeG Joint.numsG
    congr 1
    rw [← hl]
    generalize inR j.id 1 1099511627776 = a0
    generalize ptIn j.pa m = a1
    generalize ptIn j.pb 1048576 = a2
    generalize inR j.ra (-205888) 205887 = a3
    generalize inR j.lo (limLo j.kind) (limHi j.kind) = a4
    generalize inR j.up (limLo j.kind) (limHi j.kind) = a5
    generalize decide (j.lo ≤ j.up) = a6
    cases a0 <;> cases a1 <;> cases a2 <;> cases a3 <;> cases a4 <;> cases a5 <;> cases a6 <;> rfl
  rw [h, h]
theorem vlenR_eq (v : Vec) : vlenR v = vlen v := by
  unfold vlenR vlen vlen2 vdist2 w64
  have h0 : sat 0 = 0 := rfl
  have hx := sat_bounds v.x; have hy := sat_bounds v.y
  rw [h0, Int.sub_zero, Int.sub_zero, wrap_i64 (n := sat v.x) (by omega) (by omega), wrap_i64 (n := sat v.y) (by omega) (by omega)]
theorem Joint.err_eq (j : Joint) : j.errR = j.errP := by
  unfold Joint.errR Joint.errP Joint.errG Joint.err
  rw [Joint.range_eq]
  have hk : (orr (decide (j.kind < 1)) (decide (j.kind > 5))) = true ∨ j.kind = 1 ∨ j.kind = 2 ∨ j.kind = 3 ∨ j.kind = 4 ∨ j.kind = 5 := by
    by_cases h : 1 ≤ j.kind ∧ j.kind ≤ 5
    · right; omega
    · left
      by_cases h1 : j.kind < 1
      · simp [orr, h1]
      · have : j.kind > 5 := by omega
        simp [orr, this]
  rcases hk with h | h
  · rw [h]; rfl
  unfold Joint.bodies Joint.bad
  rw [vlenR_eq]
  generalize inR (vlen j.axis) 65520 65552 = a0
  generalize inR j.bb 1 1099511627776 = a1
  generalize inR j.ba 1 1099511627776 = a2
  generalize j.plain = a3
  generalize j.nums = a4
  have e : (j.ba != j.bb) = !(j.ba == j.bb) := rfl
  have e0 : (j.ba != 0) = !(j.ba == 0) := rfl
  rw [e, e0]
  generalize (j.ba == j.bb) = a5
  generalize (j.ba == 0) = a6
  generalize j.em = a7
  generalize j.el = a8
  rcases h with h | h | h | h | h <;> rw [h] <;> cases a0 <;> cases a1 <;> cases a2 <;> cases a3 <;> cases a4 <;> cases a5 <;> cases a6 <;> cases a7 <;> cases a8 <;> rfl
def Vec.sel (c : Bool) (a b : Vec) : Vec := ⟨bif c then a.x else b.x, bif c then a.y else b.y⟩
def anchors (j : Joint) (a b : Tf) : Vec × Vec := (Vec.sel (j.kind != 5) (a.apply j.pa) j.pa, b.apply j.pb)
def relAng (j : Joint) (a b : Tf) : Int := bif j.kind == 5 then 0 else diff (norm (w64 (norm a.a + norm j.ra))) b.a
def wAxis (j : Joint) (a : Tf) : Vec := vrot (rot a.a) j.axis
def transl (j : Joint) (a b : Tf) : Int := vdot (wAxis j a) (vsub (anchors j a b).2 (anchors j a b).1)
def Joint.eqb (a b : Joint) : Bool := a.id == b.id && (a.kind == b.kind && (a.ba == b.ba && (a.bb == b.bb && (a.pa.eqb b.pa && (a.pb.eqb b.pb && (a.axis.eqb b.axis && (a.ra == b.ra && (a.el == b.el && (a.lo == b.lo && (a.up == b.up && (a.em == b.em && (a.ms == b.ms && (a.mf == b.mf && (a.so == b.so && (a.br == b.br && (a.cc == b.cc && ((a.i0 == b.i0 && (a.i1 == b.i1 && (a.i2 == b.i2 && (a.i3 == b.i3 && true)))) && true)))))))))))))))))
theorem Joint.eqb_self (a : Joint) : a.eqb a = true := by simp [Joint.eqb, Vec.eqb_self]
theorem w64_norm2 (x y : Int) : w64 (norm x + norm y) = norm x + norm y := by
  have := norm_bounds x; have := norm_bounds y
  unfold w64; rw [wrap_i64 (by omega) (by omega)]
theorem relAng_bounds (j : Joint) (a b : Tf) : -205888 ≤ relAng j a b ∧ relAng j a b < 205888 := by
  unfold relAng
  cases (j.kind == 5)
  · exact diff_bounds _ _
  · exact ⟨by show (-205888 : Int) ≤ 0; omega, by show (0 : Int) < 205888; omega⟩
theorem norm_congr {x y : Int} (k : Int) (h : x = y + 411776 * k) : norm x = norm y := by
  rw [h, Int.mul_comm]; exact norm_turns y k
theorem relAng_mul (j : Joint) (p a b : Tf) : relAng j (p.mul a) (p.mul b) = relAng j a b := by
  unfold relAng
  cases (j.kind == 5)
  · show diff (norm (w64 (norm (turn p.a (norm a.a)) + norm j.ra))) (turn p.a (norm b.a)) = diff (norm (w64 (norm a.a + norm j.ra))) b.a
    rw [w64_norm2, w64_norm2]
    unfold turn diff
    rw [show norm a.a = norm (norm a.a) from (norm_id (norm_bounds _).1 (norm_bounds _).2).symm, show norm b.a = norm (norm b.a) from (norm_id (norm_bounds _).1 (norm_bounds _).2).symm, w64_norm2, w64_norm2]
    generalize ha : norm a.a = x
    generalize hb : norm b.a = y
    obtain ⟨k1, h1⟩ := norm_mod (norm p.a + norm x)
    obtain ⟨k2, h2⟩ := norm_mod (norm p.a + norm y)
    rw [norm_id (n := norm (norm p.a + norm x)) (norm_bounds _).1 (norm_bounds _).2, norm_id (n := norm (norm p.a + norm y)) (norm_bounds _).1 (norm_bounds _).2]
    obtain ⟨k3, h3⟩ := norm_mod (norm (norm p.a + norm x) + norm j.ra)
    obtain ⟨k4, h4⟩ := norm_mod (norm x + norm j.ra)
    rw [norm_id (n := norm (norm (norm p.a + norm x) + norm j.ra)) (norm_bounds _).1 (norm_bounds _).2, norm_id (n := norm (norm x + norm j.ra)) (norm_bounds _).1 (norm_bounds _).2]
    exact norm_congr (k2 - k3 - k1 + k4) (by omega)
  · rfl
def resetValid (j t : Joint) : Bool :=
  bif j.errP != 0 then true else an (an (an (j.reset.errP == 0) true) (orr (j.lo == j.up) (t.errP == 6))) true
def Joint.swap (j : Joint) : Joint := ⟨j.id, j.kind, j.ba, j.bb, j.ax, j.ay, j.bx, j.bby, j.ux, j.uy, j.ra, j.el, j.up, j.lo, j.em, j.ms, j.mf, j.so, j.br, j.cc, 0, 0, 0, 0⟩
theorem errP_ok {j : Joint} (h : j.errP = 0) : orr (decide (j.kind < 1)) (decide (j.kind > 5)) = false ∧ j.nums = true ∧ j.bodies = true ∧ j.bad = false := by
  unfold Joint.errP Joint.err at h
  revert h
  cases orr (decide (j.kind < 1)) (decide (j.kind > 5)) <;> cases j.nums <;> cases j.bodies <;> cases j.bad <;> simp
theorem numsR_imps {j : Joint} {m : Int} (h : j.numsG inR ptIn limLo limHi m = true) : (Joint.reset j).numsG inR ptIn limLo limHi m = true := by
  unfold Joint.numsG Joint.impsG nt at h ⊢
  revert h
  show _ → (bif !inR 0 (-536870911) 536870911 then false else bif !inR 0 (-536870911) 536870911 then false else bif !inR 0 (-536870911) 536870911 then false else bif !inR 0 (-536870911) 536870911 then false else _) = true
  rw [show inR 0 (-536870911) 536870911 = true from rfl]
  cases inR j.i0 (-536870911) 536870911 <;> cases inR j.i1 (-536870911) 536870911 <;> cases inR j.i2 (-536870911) 536870911 <;> cases inR j.i3 (-536870911) 536870911 <;> first | exact fun h => h | exact fun h => nomatch h
theorem nums_reset {j : Joint} (h : j.nums = true) : (Joint.reset j).nums = true := by
  unfold Joint.nums Joint.numsOf at h ⊢
  show (bif j.kind == 5 then _ else _) = true
  cases e : (j.kind == 5) <;> rw [e] at h <;> exact numsR_imps h
theorem numsR_le {j : Joint} {m : Int} (h : j.numsG inR ptIn limLo limHi m = true) : j.lo ≤ j.up := by
  unfold Joint.numsG Joint.impsG nt at h
  have h1 : ∀ a b : Bool, (bif !a then false else b) = true → b = true := by decide
  have h := h1 _ _ (h1 _ _ (h1 _ _ (h1 _ _ h)))
  exact of_decide_eq_true (of_an (of_an (of_an (of_an (of_an h).1).1).1).1).2
theorem nums_le {j : Joint} (h : j.nums = true) : j.lo ≤ j.up := by
  unfold Joint.nums Joint.numsOf at h
  cases e : (j.kind == 5) <;> rw [e] at h <;> exact numsR_le h
theorem resetValid_true (j : Joint) : resetValid j j.swap = true := by
  unfold resetValid
  by_cases h : j.errP = 0
  · rw [show (j.errP != 0) = false by rw [h]; rfl]
    obtain ⟨h1, h2, h3, h4⟩ := errP_ok h
    have e1 : (Joint.reset j).errP = 0 := by
      unfold Joint.errP Joint.err
      rw [nums_reset h2]
      show (bif orr (decide (j.kind < 1)) (decide (j.kind > 5)) then (10 : Int) else bif !true then 6 else bif !j.bodies then 14 else bif j.bad then 15 else 0) = 0
      rw [h1, h3, h4]; rfl
    have e2 : orr (j.lo == j.up) (j.swap.errP == 6) = true := by
      by_cases hl : j.lo = j.up
      · rw [hl]; simp [orr]
      · have e3 : j.swap.nums = false := by
          cases e : j.swap.nums with
          | false => rfl
          | true =>
            have h5 : j.up ≤ j.lo := nums_le e
            have := nums_le h2
            omega
        have : j.swap.errP = 6 := by
          unfold Joint.errP Joint.err
          rw [e3]
          show (bif orr (decide (j.kind < 1)) (decide (j.kind > 5)) then (10 : Int) else 6) = 6
          rw [h1]; rfl
        rw [this]; simp [orr]
    rw [e1, e2]; rfl
  · rw [show (j.errP != 0) = true by simp [h]]; rfl
def bodiesTwo (j : Joint) : Bool :=
  bif j.errP != 0 then true
  else bif j.kind == 5 then an (an (an (j.ba == 0) (j.attached j.bb)) (!j.attached j.ba)) true
  else an (an (an (j.ba != j.bb) (j.attached j.ba)) (j.attached j.bb)) true
theorem bodiesTwo_true (j : Joint) : bodiesTwo j = true := by
  unfold bodiesTwo
  by_cases h : j.errP = 0
  · rw [show (j.errP != 0) = false by rw [h]; rfl]
    obtain ⟨h1, h2, h3, h4⟩ := errP_ok h
    unfold Joint.bodies at h3
    cases e : (j.kind == 5) with
    | true =>
      rw [e] at h3
      obtain ⟨h5, h6⟩ := of_an h3
      unfold inR at h6
      have := of_decide_eq_true (of_an h6).1
      have h5 : j.ba = 0 := by simpa using h5
      unfold Joint.attached
      rw [h5]
      have : j.bb ≠ 0 := by omega
      simp [an, orr, this]
    | false =>
      rw [e] at h3
      obtain ⟨h5, h6⟩ := of_an h3
      obtain ⟨h7, h8⟩ := of_an h5
      unfold inR at h7 h8
      have := of_decide_eq_true (of_an h7).1
      have := of_decide_eq_true (of_an h8).1
      unfold Joint.attached
      have h9 : j.ba ≠ 0 := by omega
      have h10 : j.bb ≠ 0 := by omega
      rw [h6]
      simp [an, orr, h9, h10]
  · rw [show (j.errP != 0) = true by simp [h]]; rfl
end Go.Fx
namespace Go.Eng
open Go
/-! ### joints -/

def jC : CEnc (Int × Int × Int × Int × Int × Int × Int × Int × Int × Int × Int × Bool × Int × Int × Bool × Int × Int × Int × Int × Bool × Int × Int × Int × Int × Unit) := (cInt.cons (cInt.cons (cInt.cons (cInt.cons (cInt.cons (cInt.cons (cInt.cons (cInt.cons (cInt.cons (cInt.cons (cInt.cons (cBool.cons (cInt.cons (cInt.cons (cBool.cons (cInt.cons (cInt.cons (cInt.cons (cInt.cons (cBool.cons (cInt.cons (cInt.cons (cInt.cons (cInt.cons cEnd))))))))))))))))))))))))
def jF : Int × Int × Int × Int × Int × Int × Int × Int × Int × Int × Int × Bool × Int × Int × Bool × Int × Int × Int × Int × Bool × Int × Int × Int × Int × Unit → Fx.Joint := fun (v0, v1, v2, v3, v4, v5, v6, v7, v8, v9, v10, v11, v12, v13, v14, v15, v16, v17, v18, v19, v20, v21, v22, v23, ()) => ⟨v0, v1, v2, v3, v4, v5, v6, v7, v8, v9, v10, v11, v12, v13, v14, v15, v16, v17, v18, v19, v20, v21, v22, v23⟩
def jG (j : Fx.Joint) : List Cell := [.int .i64 j.id, .int .i64 j.kind, .int .i64 j.ba, .int .i64 j.bb, .int .i64 j.ax, .int .i64 j.ay, .int .i64 j.bx, .int .i64 j.bby, .int .i64 j.ux, .int .i64 j.uy, .int .i64 j.ra, .bool j.el, .int .i64 j.lo, .int .i64 j.up, .bool j.em, .int .i64 j.ms, .int .i64 j.mf, .int .i64 j.so, .int .i64 j.br, .bool j.cc, .int .i64 j.i0, .int .i64 j.i1, .int .i64 j.i2, .int .i64 j.i3]
theorem jFG : ∀ x, jG (jF x) = jC.cells x := fun _ => rfl
def eJ : Enc Fx.Joint := jC.enc jF jG jFG
theorem args_J {P : Program} {D : Nat} {t : TypeId} {ts : List TypeId} {vs : List PV} (ha : isAggT P t = true) (hl : leafs P D t = jC.lfs) (h : ArgsAre P D (t :: ts) vs) : ∃ v rest, vs = eJ.pv v :: rest ∧ ArgsAre P D ts rest := args_enc jC jF jG jFG ha hl h
def bdC : CEnc (Int × Int × Int × Int × Int × Int × Int × Int × Int × Int × Int × Int × Int × Int × Bool × Bool × Bool × Bool × Int × List Fx.Fix × Unit) := (cInt.cons (cInt.cons (cInt.cons (cInt.cons (cInt.cons (cInt.cons (cInt.cons (cInt.cons (cInt.cons (cInt.cons (cInt.cons (cInt.cons (cInt.cons (cInt.cons (cBool.cons (cBool.cons (cBool.cons (cBool.cons (cInt.cons ((cSl .fix).cons cEnd))))))))))))))))))))
def bdF : Int × Int × Int × Int × Int × Int × Int × Int × Int × Int × Int × Int × Int × Int × Bool × Bool × Bool × Bool × Int × List Fx.Fix × Unit → Fx.Bd := fun (v0, v1, v2, v3, v4, v5, v6, v7, v8, v9, v10, v11, v12, v13, v14, v15, v16, v17, v18, v19, ()) => ⟨v0, v1, v2, v3, v4, v5, v6, v7, v8, v9, v10, v11, v12, v13, v14, v15, v16, v17, v18, v19⟩
def bdG (b : Fx.Bd) : List Cell := [.int .i64 b.id, .int .i64 b.kind, .int .i64 b.px, .int .i64 b.py, .int .i64 b.pa, .int .i64 b.vx, .int .i64 b.vy, .int .i64 b.w, .int .i64 b.fx, .int .i64 b.fy, .int .i64 b.tq, .int .i64 b.ld, .int .i64 b.ad, .int .i64 b.gs, .bool b.bullet, .bool b.fixed, .bool b.nosleep, .bool b.asleep, .int .i64 b.idle, .slc false ⟨.fix, b.fixtures⟩]
theorem bdFG : ∀ x, bdG (bdF x) = bdC.cells x := fun _ => rfl
def eBd : Enc Fx.Bd := bdC.enc bdF bdG bdFG
/-- Two transforms in an array. -/
def eTT : Enc (Fx.Tf × Fx.Tf) := ⟨fun | .fv (.agg [.int .i64 x, .int .i64 y, .int .i64 a, .int .i64 x', .int .i64 y', .int .i64 a']) => some (⟨x, y, a⟩, ⟨x', y', a'⟩) | _ => none, fun t => .fv (.agg [.int .i64 t.1.px, .int .i64 t.1.py, .int .i64 t.1.a, .int .i64 t.2.px, .int .i64 t.2.py, .int .i64 t.2.a]), fun p x h => by
  split at h
  · cases h; rfl
  · cases h⟩
theorem args_TT {P : Program} {D : Nat} {t : TypeId} {ts : List TypeId} {vs : List PV} (ha : isAggT P t = true) (hl : leafs P D t = [.int .i64, .int .i64, .int .i64, .int .i64, .int .i64, .int .i64]) (h : ArgsAre P D (t :: ts) vs) : ∃ v rest, vs = eTT.pv v :: rest ∧ ArgsAre P D ts rest := by
  obtain ⟨cells, rest, rfl, h1, h2⟩ := args_agg _ ha hl h
  obtain ⟨c0, r, rfl, ⟨x0, rfl, _⟩, c1, r, rfl, ⟨x1, rfl, _⟩, c2, r, rfl, ⟨x2, rfl, _⟩, c3, r, rfl, ⟨x3, rfl, _⟩, c4, r, rfl, ⟨x4, rfl, _⟩, c5, r, rfl, ⟨x5, rfl, _⟩, rfl⟩ := h1
  exact ⟨(⟨x0, x1, x2⟩, ⟨x3, x4, x5⟩), rest, rfl, h2⟩
end Go.Eng
