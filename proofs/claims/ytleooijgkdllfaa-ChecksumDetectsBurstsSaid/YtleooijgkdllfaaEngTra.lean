/- THE ENGINE, PART 25: both bodies moved by one vector; counts of joints' rows; plain laws. -/
import Derived.Test.YtleooijgkdllfaaEngPl
namespace Go.Fx
open Go.Eng
theorem prod_mid {a b c d : Int} (ha : -131072 ≤ a ∧ a ≤ 131072) (hb : -33554432 ≤ b ∧ b ≤ 33554432) (hc : -131072 ≤ c ∧ c ≤ 131072) (hd : -33554432 ≤ d ∧ d ≤ 33554432) :
    (-134217729 ≤ prod (w64 (w64 (a * b) - w64 (c * d))) ∧ prod (w64 (w64 (a * b) - w64 (c * d))) ≤ 134217729) ∧ -134217729 ≤ prod (w64 (w64 (a * b) + w64 (c * d))) ∧ prod (w64 (w64 (a * b) + w64 (c * d))) ≤ 134217729 := by
  have p1 := prod2 (a := a) (b := b) ha.1 ha.2 hb.1 hb.2
  have p2 := prod2 (a := c) (b := d) hc.1 hc.2 hd.1 hd.2
  rw [w64_id (n := a * b) (by omega) (by omega), w64_id (n := c * d) (by omega) (by omega), w64_id (n := a * b - c * d) (by omega) (by omega), w64_id (n := a * b + c * d) (by omega) (by omega)]
  have q1 := rdiv_near (n := a * b - c * d) (d := 65536) (by omega) (by omega) (by omega) (by omega)
  have q2 := rdiv_near (n := a * b + c * d) (d := 65536) (by omega) (by omega) (by omega) (by omega)
  unfold prod
  rw [sat_id (by omega) (by omega), sat_id (by omega) (by omega)]
  omega
/-- Both components lie in [-2^25, 2^25]. -/
def Near (v : Vec) : Prop := (-33554432 ≤ v.x ∧ v.x ≤ 33554432) ∧ (-33554432 ≤ v.y ∧ v.y ≤ 33554432)
theorem vrot_mid {a : Int} {c : Vec} (h : Near c) :
    (-134217729 ≤ (vrot (rot a) c).x ∧ (vrot (rot a) c).x ≤ 134217729) ∧ -134217729 ≤ (vrot (rot a) c).y ∧ (vrot (rot a) c).y ≤ 134217729 := by
  obtain ⟨hx, hy⟩ := h
  obtain ⟨_, _, h3, h4⟩ := rot_ok a
  unfold vrot rot
  simp only
  rw [sat_id (x := rotc a) (by omega) (by omega), sat_id (x := rots a) (by omega) (by omega), sat_id (x := c.x) (by omega) (by omega), sat_id (x := c.y) (by omega) (by omega)]
  exact ⟨(prod_mid h3 hx h4 hy).1, (prod_mid h4 hx h3 hy).2⟩
def Tf.by (t : Tf) (d : Vec) : Tf := ⟨w64 (t.px + d.x), w64 (t.py + d.y), t.a⟩
/-- v, moved by d. -/
def Moved (u v d : Vec) : Prop := u = ⟨v.x + d.x, v.y + d.y⟩ ∧ (-167772161 ≤ v.x ∧ v.x ≤ 167772161) ∧ (-167772161 ≤ v.y ∧ v.y ≤ 167772161)
theorem add_id {a b : Int} (h0 : -536870911 ≤ a ∧ a ≤ 536870911) (h1 : -536870911 ≤ b ∧ b ≤ 536870911) (h2 : -536870911 ≤ a + b ∧ a + b ≤ 536870911) : add a b = a + b := by
  unfold add; rw [sat_id h0.1 h0.2, sat_id h1.1 h1.2, sat_id h2.1 h2.2]
theorem apply_moved {t : Tf} {c d : Vec} (hp : Near t.p) (hc : Near c) (hd : Near d) : Moved ((t.by d).apply c) (t.apply c) d := by
  have hr := vrot_mid (a := t.a) hc
  obtain ⟨hx, hy⟩ := hp
  obtain ⟨dx, dy⟩ := hd
  have hx' : -33554432 ≤ t.px ∧ t.px ≤ 33554432 := hx
  have hy' : -33554432 ≤ t.py ∧ t.py ≤ 33554432 := hy
  unfold Moved Tf.apply Tf.by vadd
  simp only [Tf.p]
  rw [w64_id (n := t.px + d.x) (by omega) (by omega), w64_id (n := t.py + d.y) (by omega) (by omega)]
  rw [add_id (a := (vrot (rot t.a) c).x) (b := t.px + d.x) (by omega) (by omega) (by omega), add_id (a := (vrot (rot t.a) c).y) (b := t.py + d.y) (by omega) (by omega) (by omega), add_id (a := (vrot (rot t.a) c).x) (b := t.px) (by omega) (by omega) (by omega), add_id (a := (vrot (rot t.a) c).y) (b := t.py) (by omega) (by omega) (by omega)]
  refine ⟨?_, by omega, by omega⟩
  rw [Int.add_assoc, Int.add_assoc]
theorem sub_moved {x y d : Int} (hx : -167772161 ≤ x ∧ x ≤ 167772161) (hy : -167772161 ≤ y ∧ y ≤ 167772161) (hd : -33554432 ≤ d ∧ d ≤ 33554432) : sub (x + d) (y + d) = sub x y := by
  unfold sub
  rw [sat_id (x := x + d) (by omega) (by omega), sat_id (x := y + d) (by omega) (by omega), sat_id (x := x) (by omega) (by omega), sat_id (x := y) (by omega) (by omega), show x + d - (y + d) = x - y by omega]
theorem vsub_moved {u v u' v' d : Vec} (h : Moved u u' d) (h' : Moved v v' d) (hd : Near d) : vsub u v = vsub u' v' := by
  obtain ⟨rfl, h1, h2⟩ := h
  obtain ⟨rfl, h3, h4⟩ := h'
  unfold vsub
  simp only
  rw [sub_moved h1 h3 hd.1, sub_moved h2 h4 hd.2]
/-- The body, moved by d. -/
def Bd.by (b : Bd) (d : Vec) : Bd := ⟨b.id, b.kind, w64 (b.px + d.x), w64 (b.py + d.y), b.pa, b.vx, b.vy, b.w, b.fx, b.fy, b.tq, b.ld, b.ad, b.gs, b.bullet, b.fixed, b.nosleep, b.asleep, b.idle, b.fixtures⟩
theorem sel_tt (u v : Vec) : Vec.sel true u v = u := rfl
theorem by_t (b : Bd) (d : Vec) : (b.by d).t = b.t.by d := rfl
theorem by_wc (b : Bd) (d : Vec) : (b.by d).wc = (b.t.by d).apply ⟨b.md.cx, b.md.cy⟩ := rfl
theorem wc_eq (b : Bd) : b.wc = b.t.apply ⟨b.md.cx, b.md.cy⟩ := rfl
theorem by_wAxis (j : Joint) (b : Bd) (d : Vec) : wAxis j (b.t.by d) = wAxis j b.t := rfl
section
variable {j : Joint} {a b : Bd} {d : Vec}
theorem anchors_moved (hk : (j.kind == 5) = false) (ha : Near a.t.p) (hb : Near b.t.p) (hd : Near d) (h1 : Near j.pa) (h2 : Near j.pb) :
    Moved (anchors j (a.by d).t (b.by d).t).1 (anchors j a.t b.t).1 d ∧ Moved (anchors j (a.by d).t (b.by d).t).2 (anchors j a.t b.t).2 d := by
  have e : (j.kind != 5) = true := by rw [bne, hk]; rfl
  unfold anchors
  rw [e, sel_tt, sel_tt, by_t, by_t]
  exact ⟨apply_moved ha h1 hd, apply_moved hb h2 hd⟩
theorem offset_moved (hk : (j.kind == 5) = false) (ha : Near a.t.p) (hb : Near b.t.p) (hd : Near d) (h1 : Near j.pa) (h2 : Near j.pb) : offset j (a.by d) (b.by d) = offset j a b := by
  obtain ⟨m1, m2⟩ := anchors_moved hk ha hb hd h1 h2
  unfold offset
  rw [vsub_moved m2 m1 hd, by_t, by_wAxis]
theorem wc_moved (ha : Near a.t.p) (hd : Near d) (hc : Near ⟨a.md.cx, a.md.cy⟩) : Moved (a.by d).wc a.wc d := by
  rw [by_wc, wc_eq]
  exact apply_moved ha hc hd
theorem srow_moved (hk : (j.kind == 5) = false) (ha : Near a.t.p) (hb : Near b.t.p) (hd : Near d) (h1 : Near j.pa) (h2 : Near j.pb) (ca : Near ⟨a.md.cx, a.md.cy⟩) (cb : Near ⟨b.md.cx, b.md.cy⟩) (ia ib : Int) (s : List Sb) (n : Vec) (so : Int) :
    srow j (a.by d) (b.by d) ia ib s n so = srow j a b ia ib s n so := by
  obtain ⟨m1, m2⟩ := anchors_moved hk ha hb hd h1 h2
  have e : sarms j (a.by d) (b.by d) n = sarms j a b n := by
    unfold sarms
    rw [vsub_moved m2 m1 hd, vsub_moved m1 (wc_moved ha hd ca) hd, vsub_moved m2 (wc_moved hb hd cb) hd]
  unfold srow
  rw [e]
end
/-! ### chapter 30 -/
theorem drows_cases (j : Joint) (a b : Bd) (ia ib : Int) (s : List Sb) (dt : Int) : drows j a b ia ib s dt = [] ∨ ∃ n lo up, drows j a b ia ib s dt = [drow j a b ia ib s dt n lo up] := by
  have h : ∀ n, ∃ n' lo up, drowsOf j a b ia ib s dt n = [drow j a b ia ib s dt n' lo up] := fun n => by
    unfold drowsOf
    cases decide (j.lo ≥ j.up)
    · cases decide (jlen j a b ≤ j.lo)
      · exact ⟨_, _, _, rfl⟩
      · exact ⟨_, _, _, rfl⟩
    · exact ⟨_, _, _, rfl⟩
  unfold drows
  cases dNone j a b
  · right
    cases (jdiff j a b).eqb ⟨0, 0⟩
    · exact h _
    · exact h _
  · exact .inl rfl
theorem drows_none {j : Joint} {a b : Bd} {ia ib : Int} {s : List Sb} {dt : Int} (h : (j.kind != 1) = true) : drows j a b ia ib s dt = [] := by
  unfold drows dNone orr
  rw [h]; rfl
end Go.Fx
