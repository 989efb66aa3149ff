/- The contracts of constraints and of bodies' masses, program and reference. -/
import Derived.Test.YtfjognghjiifaaaMdC
import Derived.Test.YtfjognghjiifaaaJnt
import Derived.Test.YtfjognghjiifaaaEngCst
open Go Go.Eng
namespace Go.Proofs.Ytfjognghjiifaaa
open Go.Fx (an orr)

theorem cSbAt : Sound Try.prog 58 (c2 (eSl .sb) eI eSb Fx.sbAt) :=
  con (lps := noLps) mixed .nil Try.func58 (by kernel_rfl) (by kernel_rfl) (noLoops (by kernel_rfl)) (g2 Fx.sbAtQ Fx.sbAt (fun s i _ => Fx.sbAtQ_ok s i) (fun _ _ _ => rfl) (fun _ _ => by kernel_rfl))
theorem cAngT : Sound Try.prog 66 (c2 eI eI eI (fun a i => Fx.mul (Fx.mul a a) i)) :=
  con (lps := noLps) mixed (.cons cMul .nil) Try.func66 (by kernel_rfl) (by kernel_rfl) (noLoops (by kernel_rfl)) (k2 (fun _ _ => by kernel_rfl))
theorem cCorr : Sound Try.prog 56 (c2 eI eI eI Fx.corr) :=
  con (lps := noLps) mixed (.cons cMul (.cons cDiv (.cons cClamp .nil))) Try.func56 (by kernel_rfl) (by kernel_rfl) (noLoops (by kernel_rfl)) (k2 (fun _ _ => by kernel_rfl))
noncomputable def effL (at' : List Fx.Sb → Int → Fx.Sb) (mul add div : Int → Int → Int) (dot : Fx.Vec → Fx.Vec → Int) : List (FuncId × Contract) := [(58, c2 (eSl .sb) eI eSb at'), (25, f2 mul), (40, f2 add), (55, f2 div), (59, c2 eV eV eI dot), (66, c2 eI eI eI (fun a i => mul (mul a a) i))]
noncomputable def effLps (at' : List Fx.Sb → Int → Fx.Sb) (mul add div : Int → Int → Int) (dot : Fx.Vec → Fx.Vec → Int) : Nat → St → Tree := fun _ => unroll Try.prog (tbl (effL at' mul add div dot)) noLps (lb Try.f54) [true, true, true, false]
theorem effEq (at' : List Fx.Sb → Int → Fx.Sb) (mul add div : Int → Int → Int) (dot : Fx.Vec → Fx.Vec → Int) (r : Fx.Row) (s : List Fx.Sb) : symFn Try.prog (tbl (effL at' mul add div dot)) (effLps at' mul add div dot) 54 [eRw.pv r, (eSl .sb).pv s] = some (Fx.effQ (mul (mul r.aa r.aa) (at' s r.a).ii) (mul (mul r.ab r.ab) (at' s r.b).ii) r.so, eI.pv (Fx.effG at' mul add div dot r s)) := by kernel_rfl
theorem cEff : Sound Try.prog 54 (c2 eRw (eSl .sb) eI Fx.eff) :=
  con (lps := effLps Fx.sbAt Fx.mul Fx.add Fx.div Fx.vdot) mixed (l := effL Fx.sbAt Fx.mul Fx.add Fx.div Fx.vdot) (.cons cSbAt (.cons cMul (.cons cAdd (.cons cDiv (.cons cVdot (.cons cAngT .nil)))))) Try.func54 (by kernel_rfl) (by kernel_rfl)
    (oneLoop (lps := effLps Fx.sbAt Fx.mul Fx.add Fx.div Fx.vdot) (b := lb Try.f54) (by kernel_rfl) (unroll_ok mixed (AllSound.cons cSbAt (.cons cMul (.cons cAdd (.cons cDiv (.cons cVdot (.cons cAngT .nil)))))).tbl (noLoops (by kernel_rfl)) _)) (g2 (fun r s => Fx.effQ (Fx.mul (Fx.mul r.aa r.aa) (Fx.sbAt s r.a).ii) (Fx.mul (Fx.mul r.ab r.ab) (Fx.sbAt s r.b).ii) r.so) Fx.eff (fun _ _ _ => Fx.effQ_ok _ _ _) (fun _ _ _ => rfl) (effEq _ _ _ _ _))
theorem cMdB : Sound Try.prog 50 (c1 eBd eMd Fx.Bd.md) :=
  con (lps := noLps) mixed (.cons cOfFx .nil) Try.func50 (by kernel_rfl) (by kernel_rfl) (noLoops (by kernel_rfl)) (k1 (fun _ => by kernel_rfl))
theorem cWc : Sound Try.prog 32 (c1 eBd eV Fx.Bd.wc) :=
  con (lps := noLps) mixed (.cons cMdB (.cons cApply .nil)) Try.func32 (by kernel_rfl) (by kernel_rfl) (noLoops (by kernel_rfl)) (k1 (fun _ => by kernel_rfl))
end Go.Proofs.Ytfjognghjiifaaa
