/- The contracts of constraints and of bodies' masses, program and reference. -/
import Derived.Test.YtpolkkblmcmlnaaMdC
import Derived.Test.YtpolkkblmcmlnaaJnt
import Derived.Test.YtpolkkblmcmlnaaEngCst
open Go Go.Eng
namespace Go.Proofs.Ytpolkkblmcmlnaa
open Go.Fx (an orr)

theorem cSbAt : Sound Try.prog 47 (c2 (eSl .sb) eI eSb Fx.sbAt) :=
  con (lps := noLps) mixed .nil Try.func47 (by kernel_rfl) (by kernel_rfl) (noLoops (by kernel_rfl)) (g2 Fx.sbAtQ Fx.sbAt (fun s i _ => Fx.sbAtQ_ok s i) (fun _ _ _ => rfl) (fun _ _ => by kernel_rfl))
theorem cAngT : Sound Try.prog 60 (c2 eI eI eI (fun a i => Fx.mul (Fx.mul a a) i)) :=
  con (lps := noLps) mixed (.cons cMul .nil) Try.func60 (by kernel_rfl) (by kernel_rfl) (noLoops (by kernel_rfl)) (k2 (fun _ _ => by kernel_rfl))
theorem cCorr : Sound Try.prog 24 (c2 eI eI eI Fx.corr) :=
  con (lps := noLps) mixed (.cons cMul (.cons cDiv (.cons cClamp .nil))) Try.func24 (by kernel_rfl) (by kernel_rfl) (noLoops (by kernel_rfl)) (k2 (fun _ _ => by kernel_rfl))
noncomputable def effL (at' : List Fx.Sb → Int → Fx.Sb) (mul add div : Int → Int → Int) (dot : Fx.Vec → Fx.Vec → Int) : List (FuncId × Contract) := [(47, c2 (eSl .sb) eI eSb at'), (29, f2 mul), (27, f2 add), (43, f2 div), (48, c2 eV eV eI dot), (60, c2 eI eI eI (fun a i => mul (mul a a) i))]
noncomputable def effLps (at' : List Fx.Sb → Int → Fx.Sb) (mul add div : Int → Int → Int) (dot : Fx.Vec → Fx.Vec → Int) : Nat → St → Tree := fun _ => unroll Try.prog (tbl (effL at' mul add div dot)) noLps (lb Try.f46) [true, true, true, false]
theorem effEq (at' : List Fx.Sb → Int → Fx.Sb) (mul add div : Int → Int → Int) (dot : Fx.Vec → Fx.Vec → Int) (r : Fx.Row) (s : List Fx.Sb) : symFn Try.prog (tbl (effL at' mul add div dot)) (effLps at' mul add div dot) 46 [eRw.pv r, (eSl .sb).pv s] = some (Fx.effQ (mul (mul r.aa r.aa) (at' s r.a).ii) (mul (mul r.ab r.ab) (at' s r.b).ii) r.so, eI.pv (Fx.effG at' mul add div dot r s)) := by kernel_rfl
theorem cEff : Sound Try.prog 46 (c2 eRw (eSl .sb) eI Fx.eff) :=
  con (lps := effLps Fx.sbAt Fx.mul Fx.add Fx.div Fx.vdot) mixed (l := effL Fx.sbAt Fx.mul Fx.add Fx.div Fx.vdot) (.cons cSbAt (.cons cMul (.cons cAdd (.cons cDiv (.cons cVdot (.cons cAngT .nil)))))) Try.func46 (by kernel_rfl) (by kernel_rfl)
    (oneLoop (lps := effLps Fx.sbAt Fx.mul Fx.add Fx.div Fx.vdot) (b := lb Try.f46) (by kernel_rfl) (unroll_ok mixed (AllSound.cons cSbAt (.cons cMul (.cons cAdd (.cons cDiv (.cons cVdot (.cons cAngT .nil)))))).tbl (noLoops (by kernel_rfl)) _)) (g2 (fun r s => Fx.effQ (Fx.mul (Fx.mul r.aa r.aa) (Fx.sbAt s r.a).ii) (Fx.mul (Fx.mul r.ab r.ab) (Fx.sbAt s r.b).ii) r.so) Fx.eff (fun _ _ _ => Fx.effQ_ok _ _ _) (fun _ _ _ => rfl) (effEq _ _ _ _ _))
theorem cMdB : Sound Try.prog 59 (c1 eBd eMd Fx.Bd.md) :=
  con (lps := noLps) mixed (.cons cOfFx .nil) Try.func59 (by kernel_rfl) (by kernel_rfl) (noLoops (by kernel_rfl)) (k1 (fun _ => by kernel_rfl))
theorem cWc : Sound Try.prog 45 (c1 eBd eV Fx.Bd.wc) :=
  con (lps := noLps) mixed (.cons cMdB (.cons cApply .nil)) Try.func45 (by kernel_rfl) (by kernel_rfl) (noLoops (by kernel_rfl)) (k1 (fun _ => by kernel_rfl))
theorem cDif : Sound Try.prog 16 (c3 eJ eBd eBd eV Fx.jdiff) :=
  con (lps := noLps) mixed (.cons cAnch (.cons cVsub .nil)) Try.func16 (by kernel_rfl) (by kernel_rfl) (noLoops (by kernel_rfl)) (k3 (fun _ _ _ => by kernel_rfl))
theorem cLen : Sound Try.prog 8 (c3 eJ eBd eBd eI Fx.jlen) :=
  con (lps := noLps) mixed (.cons cDif (.cons cVlen .nil)) Try.func8 (by kernel_rfl) (by kernel_rfl) (noLoops (by kernel_rfl)) (k3 (fun _ _ _ => by kernel_rfl))
theorem cLer : Sound Try.prog 10 (c3 eJ eBd eBd eI Fx.jlerr) :=
  con (lps := noLps) mixed (.cons cLen (.cons cSub .nil)) Try.func10 (by kernel_rfl) (by kernel_rfl) (noLoops (by kernel_rfl)) (k3 (fun _ _ _ => by kernel_rfl))
theorem cPrw : Sound Try.prog 23 (c7 eJ eBd eBd eI eI eV (eSl .sb) eRw Fx.prow) :=
  con (lps := noLps) mixed (.cons cAnch (.cons cWc (.cons cVsub (.cons cVcross (.cons cEff .nil))))) Try.func23 (by kernel_rfl) (by kernel_rfl) (noLoops (by kernel_rfl)) (k7 (fun _ _ _ _ _ _ _ => by kernel_rfl))
theorem rLen : Sound Try.prog 9 (c3 eJ eBd eBd eI Fx.jlen) :=
  con (lps := noLps) mixed (.cons rAnch (.cons rVsub (.cons rVlen .nil))) Try.func9 (by kernel_rfl) (by kernel_rfl) (noLoops (by kernel_rfl)) (g3 (fun _ _ _ => []) (fun j a b => Fx.vlenR (Fx.jdiff j a b)) (fun _ _ _ _ => trivial) (fun _ _ _ _ => Fx.vlenR_eq _) (fun _ _ _ => by kernel_rfl))
theorem rLer : Sound Try.prog 11 (c3 eJ eBd eBd eI Fx.jlerr) :=
  con (lps := noLps) mixed (.cons rLen (.cons rSub .nil)) Try.func11 (by kernel_rfl) (by kernel_rfl) (noLoops (by kernel_rfl)) (k3 (fun _ _ _ => by kernel_rfl))
end Go.Proofs.Ytpolkkblmcmlnaa
