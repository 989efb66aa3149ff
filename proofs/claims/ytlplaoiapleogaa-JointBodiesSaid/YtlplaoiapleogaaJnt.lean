/- The contracts of the joints, chapter 24, program and reference. -/
import Derived.Test.YtlplaoiapleogaaVec
import Derived.Test.YtlplaoiapleogaaEngJnt
open Go Go.Eng
namespace Go.Proofs.Ytlplaoiapleogaa
open Go.Fx (an orr)

theorem cInR : Sound Try.prog 46 (c3 eI eI eI eB Fx.inR) :=
  con (lps := noLps) mixed .nil Try.func46 (by kernel_rfl) (by kernel_rfl) (noLoops (by kernel_rfl)) (k3 (fun _ _ _ => by kernel_rfl))
theorem cPtIn : Sound Try.prog 47 (c2 eV eI eB Fx.ptIn) :=
  con (lps := noLps) mixed (.cons cInR .nil) Try.func47 (by kernel_rfl) (by kernel_rfl) (noLoops (by kernel_rfl)) (k2 (fun _ _ => by kernel_rfl))
theorem cLim : Sound Try.prog 45 (c1 eI eII (fun k => (Fx.limLo k, Fx.limHi k))) :=
  con (lps := noLps) mixed .nil Try.func45 (by kernel_rfl) (by kernel_rfl) (noLoops (by kernel_rfl)) (k1 (fun _ => by kernel_rfl))
theorem cJbod : Sound Try.prog 26 (c1 eJ eB Fx.Joint.bodies) :=
  con (lps := noLps) mixed (.cons cInR .nil) Try.func26 (by kernel_rfl) (by kernel_rfl) (noLoops (by kernel_rfl)) (k1 (fun _ => by kernel_rfl))
theorem cJbad : Sound Try.prog 27 (c1 eJ eB Fx.Joint.bad) :=
  con (lps := noLps) mixed (.cons cInR (.cons cVlen .nil)) Try.func27 (by kernel_rfl) (by kernel_rfl) (noLoops (by kernel_rfl)) (k1 (fun _ => by kernel_rfl))
theorem cAtt : Sound Try.prog 14 (c2 eJ eI eB Fx.Joint.attached) :=
  con (lps := noLps) mixed .nil Try.func14 (by kernel_rfl) (by kernel_rfl) (noLoops (by kernel_rfl)) (k2 (fun _ _ => by kernel_rfl))
theorem rInR : Sound Try.prog 29 (c3 eI eI eI eB Fx.inR) :=
  con (lps := noLps) mixed .nil Try.func29 (by kernel_rfl) (by kernel_rfl) (noLoops (by kernel_rfl)) (k3 (fun _ _ _ => by kernel_rfl))
theorem rInS : Sound Try.prog 49 (c2 eV eI eB Fx.ptIn) :=
  con (lps := noLps) mixed (.cons rInR .nil) Try.func49 (by kernel_rfl) (by kernel_rfl) (noLoops (by kernel_rfl)) (k2 (fun _ _ => by kernel_rfl))
theorem rLim : Sound Try.prog 50 (c1 eJ eB Fx.Joint.limR) :=
  con (lps := noLps) mixed (.cons rInR .nil) Try.func50 (by kernel_rfl) (by kernel_rfl) (noLoops (by kernel_rfl)) (k1 (fun _ => by kernel_rfl))
theorem rVlen : Sound Try.prog 30 (c1 eV eI Fx.vlenR) :=
  con (lps := noLps) mixed (.cons rVsat (.cons rIsqrt .nil)) Try.func30 (by kernel_rfl) (by kernel_rfl) (noLoops (by kernel_rfl)) (k1 (fun _ => by kernel_rfl))
theorem rAtt : Sound Try.prog 15 (c2 eJ eI eB Fx.Joint.attached) :=
  con (lps := noLps) mixed .nil Try.func15 (by kernel_rfl) (by kernel_rfl) (noLoops (by kernel_rfl)) (k2 (fun _ _ => by kernel_rfl))
theorem rReset : Sound Try.prog 17 (c1 eJ eJ Fx.Joint.reset) :=
  con (lps := noLps) mixed .nil Try.func17 (by kernel_rfl) (by kernel_rfl) (noLoops (by kernel_rfl)) (k1 (fun _ => by kernel_rfl))
noncomputable def numsL (rg : Int → Int → Int → Bool) (pt : Fx.Vec → Int → Bool) (ll lh : Int → Int) : List (FuncId × Contract) := [(46, c3 eI eI eI eB rg), (47, c2 eV eI eB pt), (45, c1 eI eII (fun k => (ll k, lh k)))]
noncomputable def numsLps (rg : Int → Int → Int → Bool) (pt : Fx.Vec → Int → Bool) (ll lh : Int → Int) : Nat → St → Tree := fun _ => unroll Try.prog (tbl (numsL rg pt ll lh)) noLps (lb Try.f25) [true, true, true, true, false]
theorem numsEq (rg : Int → Int → Int → Bool) (pt : Fx.Vec → Int → Bool) (ll lh : Int → Int) (j : Fx.Joint) : symFn Try.prog (tbl (numsL rg pt ll lh)) (numsLps rg pt ll lh) 25 [eJ.pv j] = some ([], eB.pv (j.numsOf rg pt ll lh)) := by kernel_rfl
theorem cNums : Sound Try.prog 25 (c1 eJ eB Fx.Joint.nums) :=
  con (lps := numsLps Fx.inR Fx.ptIn Fx.limLo Fx.limHi) mixed (l := numsL Fx.inR Fx.ptIn Fx.limLo Fx.limHi) (.cons cInR (.cons cPtIn (.cons cLim .nil))) Try.func25 (by kernel_rfl) (by kernel_rfl)
    (oneLoop (lps := numsLps Fx.inR Fx.ptIn Fx.limLo Fx.limHi) (b := lb Try.f25) (by kernel_rfl) (unroll_ok mixed (AllSound.cons cInR (.cons cPtIn (.cons cLim .nil))).tbl (noLoops (by kernel_rfl)) _)) (k1 (numsEq _ _ _ _))
theorem reset_eq (c : Bool) (x : Int) : (bif c then x else x) = x := by cases c <;> rfl
theorem reset_eqB (c : Bool) (x : Bool) : (bif c then x else x) = x := by cases c <;> rfl
def resetU (j : Fx.Joint) : Fx.Joint := ⟨bif j.zeroed then j.id else j.id, bif j.zeroed then j.kind else j.kind, bif j.zeroed then j.ba else j.ba, bif j.zeroed then j.bb else j.bb, bif j.zeroed then j.ax else j.ax, bif j.zeroed then j.ay else j.ay, bif j.zeroed then j.bx else j.bx, bif j.zeroed then j.bby else j.bby, bif j.zeroed then j.ux else j.ux, bif j.zeroed then j.uy else j.uy, bif j.zeroed then j.ra else j.ra, bif j.zeroed then j.el else j.el, bif j.zeroed then j.lo else j.lo, bif j.zeroed then j.up else j.up, bif j.zeroed then j.em else j.em, bif j.zeroed then j.ms else j.ms, bif j.zeroed then j.mf else j.mf, bif j.zeroed then j.so else j.so, bif j.zeroed then j.br else j.br, bif j.zeroed then j.cc else j.cc, bif j.zeroed then j.i0 else 0, bif j.zeroed then j.i1 else 0, bif j.zeroed then j.i2 else 0, bif j.zeroed then j.i3 else 0⟩
theorem resetU_eq (j : Fx.Joint) : resetU j = j.reset := by
  unfold resetU Fx.Joint.reset
  cases h : j.zeroed with
  | false => rfl
  | true =>
    unfold Fx.Joint.zeroed at h
    simp only [Bool.and_true, Bool.and_eq_true, beq_iff_eq] at h
    obtain ⟨h0, h1, h2, h3⟩ := h
    simp only [cond_true, h0, h1, h2, h3]
theorem cReset : Sound Try.prog 16 (c1 eJ eJ Fx.Joint.reset) :=
  con (lps := noLps) mixed .nil Try.func16 (by kernel_rfl) (by kernel_rfl) (noLoops (by kernel_rfl)) (g1 (fun _ => []) resetU (fun _ _ => trivial) (fun j _ => resetU_eq j) (fun _ => by kernel_rfl))
theorem cJval : Sound Try.prog 9 (c1 eJ eI Fx.Joint.errP) :=
  con (lps := noLps) mixed (.cons cNums (.cons cJbod (.cons cJbad .nil))) Try.func9 (by kernel_rfl) (by kernel_rfl) (noLoops (by kernel_rfl)) (k1 (fun _ => by kernel_rfl))
def anchU (j : Fx.Joint) (a b : Fx.Bd) : Fx.Vec × Fx.Vec := (Fx.Vec.sel (j.kind != 5) (a.t.apply j.pa) j.pa, Fx.Vec.sel (j.kind != 5) (b.t.apply j.pb) (b.t.apply j.pb))
theorem sel_self (c : Bool) (v : Fx.Vec) : Fx.Vec.sel c v v = v := by cases c <;> rfl
theorem anchU_eq (j : Fx.Joint) (a b : Fx.Bd) : anchU j a b = Fx.anchors j a.t b.t := by unfold anchU; rw [sel_self]; rfl
theorem cAnch : Sound Try.prog 18 (c3 eJ eBd eBd eVV (fun j a b => Fx.anchors j a.t b.t)) :=
  con (lps := noLps) mixed (.cons cApply .nil) Try.func18 (by kernel_rfl) (by kernel_rfl) (noLoops (by kernel_rfl)) (g3 (fun _ _ _ => []) anchU (fun _ _ _ _ => trivial) (fun j a b _ => anchU_eq j a b) (fun _ _ _ => by kernel_rfl))
theorem cRel : Sound Try.prog 13 (c3 eJ eBd eBd eI (fun j a b => Fx.relAng j a.t b.t)) :=
  con (lps := noLps) mixed (.cons cNorm (.cons cDiff .nil)) Try.func13 (by kernel_rfl) (by kernel_rfl) (noLoops (by kernel_rfl)) (k3 (fun _ _ _ => by kernel_rfl))
theorem cWax : Sound Try.prog 21 (c2 eJ eBd eV (fun j a => Fx.wAxis j a.t)) :=
  con (lps := noLps) mixed (.cons cRot (.cons cVrot .nil)) Try.func21 (by kernel_rfl) (by kernel_rfl) (noLoops (by kernel_rfl)) (k2 (fun _ _ => by kernel_rfl))
theorem cTrl : Sound Try.prog 23 (c3 eJ eBd eBd eI (fun j a b => Fx.transl j a.t b.t)) :=
  con (lps := noLps) mixed (.cons cAnch (.cons cWax (.cons cVsub (.cons cVdot .nil)))) Try.func23 (by kernel_rfl) (by kernel_rfl) (noLoops (by kernel_rfl)) (k3 (fun _ _ _ => by kernel_rfl))
theorem rAnch : Sound Try.prog 19 (c3 eJ eBd eBd eVV (fun j a b => Fx.anchors j a.t b.t)) :=
  con (lps := noLps) mixed (.cons rApply .nil) Try.func19 (by kernel_rfl) (by kernel_rfl) (noLoops (by kernel_rfl)) (g3 (fun _ _ _ => []) anchU (fun _ _ _ _ => trivial) (fun j a b _ => anchU_eq j a b) (fun _ _ _ => by kernel_rfl))
theorem rRel : Sound Try.prog 20 (c3 eJ eBd eBd eI (fun j a b => Fx.relAng j a.t b.t)) :=
  con (lps := noLps) mixed (.cons rNorm (.cons rDiff .nil)) Try.func20 (by kernel_rfl) (by kernel_rfl) (noLoops (by kernel_rfl)) (k3 (fun _ _ _ => by kernel_rfl))
theorem rWax : Sound Try.prog 22 (c2 eJ eBd eV (fun j a => Fx.wAxis j a.t)) :=
  con (lps := noLps) mixed (.cons rRot (.cons rVrot .nil)) Try.func22 (by kernel_rfl) (by kernel_rfl) (noLoops (by kernel_rfl)) (k2 (fun _ _ => by kernel_rfl))
theorem rTrl : Sound Try.prog 24 (c3 eJ eBd eBd eI (fun j a b => Fx.transl j a.t b.t)) :=
  con (lps := noLps) mixed (.cons rAnch (.cons rWax (.cons rVsub (.cons rVdot .nil)))) Try.func24 (by kernel_rfl) (by kernel_rfl) (noLoops (by kernel_rfl)) (k3 (fun _ _ _ => by kernel_rfl))
noncomputable def rangeL (rg : Int → Int → Int → Bool) (pt : Fx.Vec → Int → Bool) (lv : Fx.Joint → Bool) : List (FuncId × Contract) := [(29, c3 eI eI eI eB rg), (49, c2 eV eI eB pt), (50, c1 eJ eB lv)]
noncomputable def rangeLps (rg : Int → Int → Int → Bool) (pt : Fx.Vec → Int → Bool) (lv : Fx.Joint → Bool) : Nat → St → Tree := fun _ => unroll Try.prog (tbl (rangeL rg pt lv)) noLps (lb Try.f28) [true, true, true, true, false]
theorem rangeEq (rg : Int → Int → Int → Bool) (pt : Fx.Vec → Int → Bool) (lv : Fx.Joint → Bool) (j : Fx.Joint) : symFn Try.prog (tbl (rangeL rg pt lv)) (rangeLps rg pt lv) 28 [eJ.pv j] = some ([], eB.pv (j.rangeOf rg pt lv)) := by kernel_rfl
theorem rRange : Sound Try.prog 28 (c1 eJ eB Fx.Joint.range) :=
  con (lps := rangeLps Fx.inR Fx.ptIn Fx.Joint.limR) mixed (l := rangeL Fx.inR Fx.ptIn Fx.Joint.limR) (.cons rInR (.cons rInS (.cons rLim .nil))) Try.func28 (by kernel_rfl) (by kernel_rfl)
    (oneLoop (lps := rangeLps Fx.inR Fx.ptIn Fx.Joint.limR) (b := lb Try.f28) (by kernel_rfl) (unroll_ok mixed (AllSound.cons rInR (.cons rInS (.cons rLim .nil))).tbl (noLoops (by kernel_rfl)) _)) (k1 (rangeEq _ _ _))
theorem errEq (rg : Int → Int → Int → Bool) (vl : Fx.Vec → Int) (rv : Fx.Joint → Bool) (j : Fx.Joint) : symFn Try.prog (tbl [(29, c3 eI eI eI eB rg), (30, c1 eV eI vl), (28, c1 eJ eB rv)]) noLps 10 [eJ.pv j] = some ([], eI.pv (j.errG rg vl rv)) := by kernel_rfl
theorem rJval : Sound Try.prog 10 (c1 eJ eI Fx.Joint.errR) :=
  con (lps := noLps) mixed (l := [(29, c3 eI eI eI eB Fx.inR), (30, c1 eV eI Fx.vlenR), (28, c1 eJ eB Fx.Joint.range)]) (.cons rInR (.cons rVlen (.cons rRange .nil))) Try.func10 (by kernel_rfl) (by kernel_rfl) (noLoops (by kernel_rfl)) (k1 (errEq _ _ _))
end Go.Proofs.Ytlplaoiapleogaa
