/- The contracts of constraints and of bodies' masses, program and reference. -/
import Derived.Test.YtpolkkblmcmlnaaGreatMdC
import Derived.Test.YtpolkkblmcmlnaaGreatJnt
import Derived.Test.YtpolkkblmcmlnaaGreatEngCst
open Go Go.Eng
namespace Go.Proofs.YtpolkkblmcmlnaaGreat
open Go.Fx (an orr)

theorem cSbAt : Sound Tryz.prog 48 (c2 (eSl .sb) eI eSb Fx.sbAt) :=
  con (lps := noLps) mixed .nil Tryz.func48 (by kernel_rfl) (by kernel_rfl) (noLoops (by kernel_rfl)) (g2 Fx.sbAtQ Fx.sbAt (fun s i _ => Fx.sbAtQ_ok s i) (fun _ _ _ => rfl) (fun _ _ => by kernel_rfl))
theorem rSbAt : Sound Tryz.prog 56 (c2 (eSl .sb) eI eSb Fx.sbAt) :=
  con (lps := noLps) mixed .nil Tryz.func56 (by kernel_rfl) (by kernel_rfl) (noLoops (by kernel_rfl)) (g2 Fx.sbAtQ Fx.sbAt (fun s i _ => Fx.sbAtQ_ok s i) (fun _ _ _ => rfl) (fun _ _ => by kernel_rfl))
theorem cAngT : Sound Tryz.prog 51 (c2 eI eI eI (fun a i => Fx.mul (Fx.mul a a) i)) :=
  con (lps := noLps) mixed (.cons cMul .nil) Tryz.func51 (by kernel_rfl) (by kernel_rfl) (noLoops (by kernel_rfl)) (k2 (fun _ _ => by kernel_rfl))
theorem cCorr : Sound Tryz.prog 17 (c2 eI eI eI Fx.corr) :=
  con (lps := noLps) mixed (.cons cMul (.cons cDiv (.cons cClamp .nil))) Tryz.func17 (by kernel_rfl) (by kernel_rfl) (noLoops (by kernel_rfl)) (k2 (fun _ _ => by kernel_rfl))
theorem rCorr : Sound Tryz.prog 22 (c2 eI eI eI Fx.corr) :=
  con (lps := noLps) mixed (.cons rMul (.cons rDiv (.cons rClamp .nil))) Tryz.func22 (by kernel_rfl) (by kernel_rfl) (noLoops (by kernel_rfl)) (k2 (fun _ _ => by kernel_rfl))
noncomputable def effL (at' : List Fx.Sb → Int → Fx.Sb) (mul add div : Int → Int → Int) (dot : Fx.Vec → Fx.Vec → Int) : List (FuncId × Contract) := [(48, c2 (eSl .sb) eI eSb at'), (37, f2 mul), (49, f2 add), (35, f2 div), (50, c2 eV eV eI dot), (51, c2 eI eI eI (fun a i => mul (mul a a) i))]
noncomputable def effLps (at' : List Fx.Sb → Int → Fx.Sb) (mul add div : Int → Int → Int) (dot : Fx.Vec → Fx.Vec → Int) : Nat → St → Tree := fun _ => unroll Tryz.prog (tbl (effL at' mul add div dot)) noLps (lb Tryz.f28) [true, true, true, false]
theorem effEq (at' : List Fx.Sb → Int → Fx.Sb) (mul add div : Int → Int → Int) (dot : Fx.Vec → Fx.Vec → Int) (r : Fx.Row) (s : List Fx.Sb) : symFn Tryz.prog (tbl (effL at' mul add div dot)) (effLps at' mul add div dot) 28 [eRw.pv r, (eSl .sb).pv s] = some (Fx.effQ (mul (mul r.aa r.aa) (at' s r.a).ii) (mul (mul r.ab r.ab) (at' s r.b).ii) r.so, eI.pv (Fx.effG at' mul add div dot r s)) := by kernel_rfl
theorem cEff : Sound Tryz.prog 28 (c2 eRw (eSl .sb) eI Fx.eff) :=
  con (lps := effLps Fx.sbAt Fx.mul Fx.add Fx.div Fx.vdot) mixed (l := effL Fx.sbAt Fx.mul Fx.add Fx.div Fx.vdot) (.cons cSbAt (.cons cMul (.cons cAdd (.cons cDiv (.cons cVdot (.cons cAngT .nil)))))) Tryz.func28 (by kernel_rfl) (by kernel_rfl)
    (oneLoop (lps := effLps Fx.sbAt Fx.mul Fx.add Fx.div Fx.vdot) (b := lb Tryz.f28) (by kernel_rfl) (unroll_ok mixed (AllSound.cons cSbAt (.cons cMul (.cons cAdd (.cons cDiv (.cons cVdot (.cons cAngT .nil)))))).tbl (noLoops (by kernel_rfl)) _)) (g2 (fun r s => Fx.effQ (Fx.mul (Fx.mul r.aa r.aa) (Fx.sbAt s r.a).ii) (Fx.mul (Fx.mul r.ab r.ab) (Fx.sbAt s r.b).ii) r.so) Fx.eff (fun _ _ _ => Fx.effQ_ok _ _ _) (fun _ _ _ => rfl) (effEq _ _ _ _ _))
theorem rEff : Sound Tryz.prog 31 (c2 eRw (eSl .sb) eI Fx.eff) :=
  con (lps := noLps) mixed (.cons rSbAt (.cons rMul (.cons rAdd (.cons rDiv (.cons rVdot .nil))))) Tryz.func31 (by kernel_rfl) (by kernel_rfl) (noLoops (by kernel_rfl)) (k2 (fun _ _ => by kernel_rfl))
theorem cMdB : Sound Tryz.prog 47 (c1 eBd eMd Fx.Bd.md) :=
  con (lps := noLps) mixed (.cons cOfFx .nil) Tryz.func47 (by kernel_rfl) (by kernel_rfl) (noLoops (by kernel_rfl)) (k1 (fun _ => by kernel_rfl))
theorem rMdB : Sound Tryz.prog 55 (c1 eBd eMd Fx.Bd.md) :=
  con (lps := noLps) mixed (.cons rOfFx .nil) Tryz.func55 (by kernel_rfl) (by kernel_rfl) (noLoops (by kernel_rfl)) (k1 (fun _ => by kernel_rfl))
theorem cWc : Sound Tryz.prog 27 (c1 eBd eV Fx.Bd.wc) :=
  con (lps := noLps) mixed (.cons cMdB (.cons cApply .nil)) Tryz.func27 (by kernel_rfl) (by kernel_rfl) (noLoops (by kernel_rfl)) (k1 (fun _ => by kernel_rfl))
theorem rWc : Sound Tryz.prog 30 (c1 eBd eV Fx.Bd.wc) :=
  con (lps := noLps) mixed (.cons rMdB (.cons rApply .nil)) Tryz.func30 (by kernel_rfl) (by kernel_rfl) (noLoops (by kernel_rfl)) (k1 (fun _ => by kernel_rfl))
theorem rVnorm : Sound Tryz.prog 20 (c1 eV eV Fx.vnorm) :=
  con (lps := noLps) mixed (.cons rVlen (.cons rDiv .nil)) Tryz.func20 (by kernel_rfl) (by kernel_rfl) (noLoops (by kernel_rfl)) (g1 (fun _ => []) Fx.vnormR (fun _ _ => trivial) (fun v _ => Fx.vnormR_eq v) (fun _ => by kernel_rfl))
theorem cDif : Sound Tryz.prog 15 (c3 eJ eBd eBd eV Fx.jdiff) :=
  con (lps := noLps) mixed (.cons cAnch (.cons cVsub .nil)) Tryz.func15 (by kernel_rfl) (by kernel_rfl) (noLoops (by kernel_rfl)) (k3 (fun _ _ _ => by kernel_rfl))
theorem cLen : Sound Tryz.prog 13 (c3 eJ eBd eBd eI Fx.jlen) :=
  con (lps := noLps) mixed (.cons cDif (.cons cVlen .nil)) Tryz.func13 (by kernel_rfl) (by kernel_rfl) (noLoops (by kernel_rfl)) (k3 (fun _ _ _ => by kernel_rfl))
theorem cLer : Sound Tryz.prog 14 (c3 eJ eBd eBd eI Fx.jlerr) :=
  con (lps := noLps) mixed (.cons cLen (.cons cSub .nil)) Tryz.func14 (by kernel_rfl) (by kernel_rfl) (noLoops (by kernel_rfl)) (k3 (fun _ _ _ => by kernel_rfl))
theorem cPrw : Sound Tryz.prog 10 (c7 eJ eBd eBd eI eI eV (eSl .sb) eRw Fx.prow) :=
  con (lps := noLps) mixed (.cons cAnch (.cons cWc (.cons cVsub (.cons cVcross (.cons cEff .nil))))) Tryz.func10 (by kernel_rfl) (by kernel_rfl) (noLoops (by kernel_rfl)) (k7 (fun _ _ _ _ _ _ _ => by kernel_rfl))
theorem rLen : Sound Tryz.prog 18 (c3 eJ eBd eBd eI Fx.jlen) :=
  con (lps := noLps) mixed (.cons rAnch (.cons rVsub (.cons rVlen .nil))) Tryz.func18 (by kernel_rfl) (by kernel_rfl) (noLoops (by kernel_rfl)) (g3 (fun _ _ _ => []) (fun j a b => Fx.vlenR (Fx.jdiff j a b)) (fun _ _ _ _ => trivial) (fun _ _ _ _ => Fx.vlenR_eq _) (fun _ _ _ => by kernel_rfl))
theorem rLer : Sound Tryz.prog 23 (c3 eJ eBd eBd eI Fx.jlerr) :=
  con (lps := noLps) mixed (.cons rLen (.cons rSub .nil)) Tryz.func23 (by kernel_rfl) (by kernel_rfl) (noLoops (by kernel_rfl)) (k3 (fun _ _ _ => by kernel_rfl))
theorem rPrw : Sound Tryz.prog 11 (c7 eJ eBd eBd eI eI eV (eSl .sb) eRw Fx.prow) :=
  con (lps := noLps) mixed (.cons rAnch (.cons rWc (.cons rVsub (.cons rVcross (.cons rEff .nil))))) Tryz.func11 (by kernel_rfl) (by kernel_rfl) (noLoops (by kernel_rfl)) (k7 (fun _ _ _ _ _ _ _ => by kernel_rfl))
end Go.Proofs.YtpolkkblmcmlnaaGreat
