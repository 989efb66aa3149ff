/- The contracts of constraints and of bodies' masses, program and reference. -/
import Derived.Test.YtbjpfekcghnppaaGreatMdC
import Derived.Test.YtbjpfekcghnppaaGreatJnt
import Derived.Test.YtbjpfekcghnppaaGreatEngCst
open Go Go.Eng
namespace Go.Proofs.YtbjpfekcghnppaaGreat
open Go.Fx (an orr)

theorem cSbAt : Sound Tryz.prog 94 (c2 (eSl .sb) eI eSb Fx.sbAt) :=
  con (lps := noLps) mixed .nil Tryz.func94 (by kernel_rfl) (by kernel_rfl) (noLoops (by kernel_rfl)) (g2 Fx.sbAtQ Fx.sbAt (fun s i _ => Fx.sbAtQ_ok s i) (fun _ _ _ => rfl) (fun _ _ => by kernel_rfl))
theorem rSbAt : Sound Tryz.prog 108 (c2 (eSl .sb) eI eSb Fx.sbAt) :=
  con (lps := noLps) mixed .nil Tryz.func108 (by kernel_rfl) (by kernel_rfl) (noLoops (by kernel_rfl)) (g2 Fx.sbAtQ Fx.sbAt (fun s i _ => Fx.sbAtQ_ok s i) (fun _ _ _ => rfl) (fun _ _ => by kernel_rfl))
theorem cAngT : Sound Tryz.prog 96 (c2 eI eI eI (fun a i => Fx.mul (Fx.mul a a) i)) :=
  con (lps := noLps) mixed (.cons cMul .nil) Tryz.func96 (by kernel_rfl) (by kernel_rfl) (noLoops (by kernel_rfl)) (k2 (fun _ _ => by kernel_rfl))
theorem cCorr : Sound Tryz.prog 39 (c2 eI eI eI Fx.corr) :=
  con (lps := noLps) mixed (.cons cMul (.cons cDiv (.cons cClamp .nil))) Tryz.func39 (by kernel_rfl) (by kernel_rfl) (noLoops (by kernel_rfl)) (k2 (fun _ _ => by kernel_rfl))
theorem rCorr : Sound Tryz.prog 62 (c2 eI eI eI Fx.corr) :=
  con (lps := noLps) mixed (.cons rMul (.cons rDiv (.cons rClamp .nil))) Tryz.func62 (by kernel_rfl) (by kernel_rfl) (noLoops (by kernel_rfl)) (k2 (fun _ _ => by kernel_rfl))
noncomputable def effL (at' : List Fx.Sb → Int → Fx.Sb) (mul add div : Int → Int → Int) (dot : Fx.Vec → Fx.Vec → Int) : List (FuncId × Contract) := [(94, c2 (eSl .sb) eI eSb at'), (34, f2 mul), (95, f2 add), (81, f2 div), (88, c2 eV eV eI dot), (96, c2 eI eI eI (fun a i => mul (mul a a) i))]
noncomputable def effLps (at' : List Fx.Sb → Int → Fx.Sb) (mul add div : Int → Int → Int) (dot : Fx.Vec → Fx.Vec → Int) : Nat → St → Tree := fun _ => unroll Tryz.prog (tbl (effL at' mul add div dot)) noLps (lb Tryz.f57) [true, true, true, false]
theorem effEq (at' : List Fx.Sb → Int → Fx.Sb) (mul add div : Int → Int → Int) (dot : Fx.Vec → Fx.Vec → Int) (r : Fx.Row) (s : List Fx.Sb) : symFn Tryz.prog (tbl (effL at' mul add div dot)) (effLps at' mul add div dot) 57 [eRw.pv r, (eSl .sb).pv s] = some (Fx.effQ (mul (mul r.aa r.aa) (at' s r.a).ii) (mul (mul r.ab r.ab) (at' s r.b).ii) r.so, eI.pv (Fx.effG at' mul add div dot r s)) := by kernel_rfl
theorem cEff : Sound Tryz.prog 57 (c2 eRw (eSl .sb) eI Fx.eff) :=
  con (lps := effLps Fx.sbAt Fx.mul Fx.add Fx.div Fx.vdot) mixed (l := effL Fx.sbAt Fx.mul Fx.add Fx.div Fx.vdot) (.cons cSbAt (.cons cMul (.cons cAdd (.cons cDiv (.cons cVdot (.cons cAngT .nil)))))) Tryz.func57 (by kernel_rfl) (by kernel_rfl)
    (oneLoop (lps := effLps Fx.sbAt Fx.mul Fx.add Fx.div Fx.vdot) (b := lb Tryz.f57) (by kernel_rfl) (unroll_ok mixed (AllSound.cons cSbAt (.cons cMul (.cons cAdd (.cons cDiv (.cons cVdot (.cons cAngT .nil)))))).tbl (noLoops (by kernel_rfl)) _)) (g2 (fun r s => Fx.effQ (Fx.mul (Fx.mul r.aa r.aa) (Fx.sbAt s r.a).ii) (Fx.mul (Fx.mul r.ab r.ab) (Fx.sbAt s r.b).ii) r.so) Fx.eff (fun _ _ _ => Fx.effQ_ok _ _ _) (fun _ _ _ => rfl) (effEq _ _ _ _ _))
theorem rEff : Sound Tryz.prog 71 (c2 eRw (eSl .sb) eI Fx.eff) :=
  con (lps := noLps) mixed (.cons rSbAt (.cons rMul (.cons rAdd (.cons rDiv (.cons rVdot .nil))))) Tryz.func71 (by kernel_rfl) (by kernel_rfl) (noLoops (by kernel_rfl)) (k2 (fun _ _ => by kernel_rfl))
theorem cMdB : Sound Tryz.prog 93 (c1 eBd eMd Fx.Bd.md) :=
  con (lps := noLps) mixed (.cons cOfFx .nil) Tryz.func93 (by kernel_rfl) (by kernel_rfl) (noLoops (by kernel_rfl)) (k1 (fun _ => by kernel_rfl))
theorem rMdB : Sound Tryz.prog 116 (c1 eBd eMd Fx.Bd.md) :=
  con (lps := noLps) mixed (.cons rOfFx .nil) Tryz.func116 (by kernel_rfl) (by kernel_rfl) (noLoops (by kernel_rfl)) (k1 (fun _ => by kernel_rfl))
theorem cWc : Sound Tryz.prog 56 (c1 eBd eV Fx.Bd.wc) :=
  con (lps := noLps) mixed (.cons cMdB (.cons cApply .nil)) Tryz.func56 (by kernel_rfl) (by kernel_rfl) (noLoops (by kernel_rfl)) (k1 (fun _ => by kernel_rfl))
theorem rWc : Sound Tryz.prog 101 (c1 eBd eV Fx.Bd.wc) :=
  con (lps := noLps) mixed (.cons rMdB (.cons rApply .nil)) Tryz.func101 (by kernel_rfl) (by kernel_rfl) (noLoops (by kernel_rfl)) (k1 (fun _ => by kernel_rfl))
theorem rVnorm : Sound Tryz.prog 59 (c1 eV eV Fx.vnorm) :=
  con (lps := noLps) mixed (.cons rVlen (.cons rDiv .nil)) Tryz.func59 (by kernel_rfl) (by kernel_rfl) (noLoops (by kernel_rfl)) (g1 (fun _ => []) Fx.vnormR (fun _ _ => trivial) (fun v _ => Fx.vnormR_eq v) (fun _ => by kernel_rfl))
theorem cDif : Sound Tryz.prog 36 (c3 eJ eBd eBd eV Fx.jdiff) :=
  con (lps := noLps) mixed (.cons cAnch (.cons cVsub .nil)) Tryz.func36 (by kernel_rfl) (by kernel_rfl) (noLoops (by kernel_rfl)) (k3 (fun _ _ _ => by kernel_rfl))
theorem cLen : Sound Tryz.prog 35 (c3 eJ eBd eBd eI Fx.jlen) :=
  con (lps := noLps) mixed (.cons cDif (.cons cVlen .nil)) Tryz.func35 (by kernel_rfl) (by kernel_rfl) (noLoops (by kernel_rfl)) (k3 (fun _ _ _ => by kernel_rfl))
theorem cLer : Sound Tryz.prog 40 (c3 eJ eBd eBd eI Fx.jlerr) :=
  con (lps := noLps) mixed (.cons cLen (.cons cSub .nil)) Tryz.func40 (by kernel_rfl) (by kernel_rfl) (noLoops (by kernel_rfl)) (k3 (fun _ _ _ => by kernel_rfl))
theorem cPrw : Sound Tryz.prog 38 (c7 eJ eBd eBd eI eI eV (eSl .sb) eRw Fx.prow) :=
  con (lps := noLps) mixed (.cons cAnch (.cons cWc (.cons cVsub (.cons cVcross (.cons cEff .nil))))) Tryz.func38 (by kernel_rfl) (by kernel_rfl) (noLoops (by kernel_rfl)) (k7 (fun _ _ _ _ _ _ _ => by kernel_rfl))
theorem rLen : Sound Tryz.prog 29 (c3 eJ eBd eBd eI Fx.jlen) :=
  con (lps := noLps) mixed (.cons rAnch (.cons rVsub (.cons rVlen .nil))) Tryz.func29 (by kernel_rfl) (by kernel_rfl) (noLoops (by kernel_rfl)) (g3 (fun _ _ _ => []) (fun j a b => Fx.vlenR (Fx.jdiff j a b)) (fun _ _ _ _ => trivial) (fun _ _ _ _ => Fx.vlenR_eq _) (fun _ _ _ => by kernel_rfl))
theorem rLer : Sound Tryz.prog 63 (c3 eJ eBd eBd eI Fx.jlerr) :=
  con (lps := noLps) mixed (.cons rLen (.cons rSub .nil)) Tryz.func63 (by kernel_rfl) (by kernel_rfl) (noLoops (by kernel_rfl)) (k3 (fun _ _ _ => by kernel_rfl))
theorem rPrw : Sound Tryz.prog 61 (c7 eJ eBd eBd eI eI eV (eSl .sb) eRw Fx.prow) :=
  con (lps := noLps) mixed (.cons rAnch (.cons rWc (.cons rVsub (.cons rVcross (.cons rEff .nil))))) Tryz.func61 (by kernel_rfl) (by kernel_rfl) (noLoops (by kernel_rfl)) (k7 (fun _ _ _ _ _ _ _ => by kernel_rfl))
end Go.Proofs.YtbjpfekcghnppaaGreat
