/- The contracts of constraints and of bodies' masses, program and reference. -/
import Derived.Test.YtfjognghjiifaaaGreatMdC
import Derived.Test.YtfjognghjiifaaaGreatJnt
import Derived.Test.YtfjognghjiifaaaGreatEngCst
open Go Go.Eng
namespace Go.Proofs.YtfjognghjiifaaaGreat
open Go.Fx (an orr)

theorem cSbAt : Sound Tryz.prog 61 (c2 (eSl .sb) eI eSb Fx.sbAt) :=
  con (lps := noLps) mixed .nil Tryz.func61 (by kernel_rfl) (by kernel_rfl) (noLoops (by kernel_rfl)) (g2 Fx.sbAtQ Fx.sbAt (fun s i _ => Fx.sbAtQ_ok s i) (fun _ _ _ => rfl) (fun _ _ => by kernel_rfl))
theorem rSbAt : Sound Tryz.prog 70 (c2 (eSl .sb) eI eSb Fx.sbAt) :=
  con (lps := noLps) mixed .nil Tryz.func70 (by kernel_rfl) (by kernel_rfl) (noLoops (by kernel_rfl)) (g2 Fx.sbAtQ Fx.sbAt (fun s i _ => Fx.sbAtQ_ok s i) (fun _ _ _ => rfl) (fun _ _ => by kernel_rfl))
theorem cAngT : Sound Tryz.prog 63 (c2 eI eI eI (fun a i => Fx.mul (Fx.mul a a) i)) :=
  con (lps := noLps) mixed (.cons cMul .nil) Tryz.func63 (by kernel_rfl) (by kernel_rfl) (noLoops (by kernel_rfl)) (k2 (fun _ _ => by kernel_rfl))
theorem cCorr : Sound Tryz.prog 38 (c2 eI eI eI Fx.corr) :=
  con (lps := noLps) mixed (.cons cMul (.cons cDiv (.cons cClamp .nil))) Tryz.func38 (by kernel_rfl) (by kernel_rfl) (noLoops (by kernel_rfl)) (k2 (fun _ _ => by kernel_rfl))
theorem rCorr : Sound Tryz.prog 46 (c2 eI eI eI Fx.corr) :=
  con (lps := noLps) mixed (.cons rMul (.cons rDiv (.cons rClamp .nil))) Tryz.func46 (by kernel_rfl) (by kernel_rfl) (noLoops (by kernel_rfl)) (k2 (fun _ _ => by kernel_rfl))
noncomputable def effL (at' : List Fx.Sb → Int → Fx.Sb) (mul add div : Int → Int → Int) (dot : Fx.Vec → Fx.Vec → Int) : List (FuncId × Contract) := [(61, c2 (eSl .sb) eI eSb at'), (30, f2 mul), (39, f2 add), (37, f2 div), (62, c2 eV eV eI dot), (63, c2 eI eI eI (fun a i => mul (mul a a) i))]
noncomputable def effLps (at' : List Fx.Sb → Int → Fx.Sb) (mul add div : Int → Int → Int) (dot : Fx.Vec → Fx.Vec → Int) : Nat → St → Tree := fun _ => unroll Tryz.prog (tbl (effL at' mul add div dot)) noLps (lb Tryz.f36) [true, true, true, false]
theorem effEq (at' : List Fx.Sb → Int → Fx.Sb) (mul add div : Int → Int → Int) (dot : Fx.Vec → Fx.Vec → Int) (r : Fx.Row) (s : List Fx.Sb) : symFn Tryz.prog (tbl (effL at' mul add div dot)) (effLps at' mul add div dot) 36 [eRw.pv r, (eSl .sb).pv s] = some (Fx.effQ (mul (mul r.aa r.aa) (at' s r.a).ii) (mul (mul r.ab r.ab) (at' s r.b).ii) r.so, eI.pv (Fx.effG at' mul add div dot r s)) := by kernel_rfl
theorem cEff : Sound Tryz.prog 36 (c2 eRw (eSl .sb) eI Fx.eff) :=
  con (lps := effLps Fx.sbAt Fx.mul Fx.add Fx.div Fx.vdot) mixed (l := effL Fx.sbAt Fx.mul Fx.add Fx.div Fx.vdot) (.cons cSbAt (.cons cMul (.cons cAdd (.cons cDiv (.cons cVdot (.cons cAngT .nil)))))) Tryz.func36 (by kernel_rfl) (by kernel_rfl)
    (oneLoop (lps := effLps Fx.sbAt Fx.mul Fx.add Fx.div Fx.vdot) (b := lb Tryz.f36) (by kernel_rfl) (unroll_ok mixed (AllSound.cons cSbAt (.cons cMul (.cons cAdd (.cons cDiv (.cons cVdot (.cons cAngT .nil)))))).tbl (noLoops (by kernel_rfl)) _)) (g2 (fun r s => Fx.effQ (Fx.mul (Fx.mul r.aa r.aa) (Fx.sbAt s r.a).ii) (Fx.mul (Fx.mul r.ab r.ab) (Fx.sbAt s r.b).ii) r.so) Fx.eff (fun _ _ _ => Fx.effQ_ok _ _ _) (fun _ _ _ => rfl) (effEq _ _ _ _ _))
theorem rEff : Sound Tryz.prog 44 (c2 eRw (eSl .sb) eI Fx.eff) :=
  con (lps := noLps) mixed (.cons rSbAt (.cons rMul (.cons rAdd (.cons rDiv (.cons rVdot .nil))))) Tryz.func44 (by kernel_rfl) (by kernel_rfl) (noLoops (by kernel_rfl)) (k2 (fun _ _ => by kernel_rfl))
theorem cMdB : Sound Tryz.prog 32 (c1 eBd eMd Fx.Bd.md) :=
  con (lps := noLps) mixed (.cons cOfFx .nil) Tryz.func32 (by kernel_rfl) (by kernel_rfl) (noLoops (by kernel_rfl)) (k1 (fun _ => by kernel_rfl))
theorem rMdB : Sound Tryz.prog 69 (c1 eBd eMd Fx.Bd.md) :=
  con (lps := noLps) mixed (.cons rOfFx .nil) Tryz.func69 (by kernel_rfl) (by kernel_rfl) (noLoops (by kernel_rfl)) (k1 (fun _ => by kernel_rfl))
theorem cWc : Sound Tryz.prog 18 (c1 eBd eV Fx.Bd.wc) :=
  con (lps := noLps) mixed (.cons cMdB (.cons cApply .nil)) Tryz.func18 (by kernel_rfl) (by kernel_rfl) (noLoops (by kernel_rfl)) (k1 (fun _ => by kernel_rfl))
theorem rWc : Sound Tryz.prog 43 (c1 eBd eV Fx.Bd.wc) :=
  con (lps := noLps) mixed (.cons rMdB (.cons rApply .nil)) Tryz.func43 (by kernel_rfl) (by kernel_rfl) (noLoops (by kernel_rfl)) (k1 (fun _ => by kernel_rfl))
end Go.Proofs.YtfjognghjiifaaaGreat
