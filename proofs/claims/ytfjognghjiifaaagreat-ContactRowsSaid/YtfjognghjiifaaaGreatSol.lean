/- The contracts of solving rows, program and reference. -/
import Derived.Test.YtfjognghjiifaaaGreatJr
import Derived.Test.YtfjognghjiifaaaGreatEngKick
open Go Go.Eng
namespace Go.Proofs.YtfjognghjiifaaaGreat
open Go.Fx (an orr)

theorem cRelV : Sound Tryz.prog 40 (c2 eRw (eSl .sb) eI Fx.relV) :=
  con (lps := noLps) mixed (.cons cSbAt (.cons cVdot (.cons cVsub (.cons cAdd (.cons cMul (.cons cSub .nil)))))) Tryz.func40 (by kernel_rfl) (by kernel_rfl) (noLoops (by kernel_rfl)) (k2 (fun _ _ => by kernel_rfl))
theorem rRelV : Sound Tryz.prog 48 (c2 eRw (eSl .sb) eI Fx.relV) :=
  con (lps := noLps) mixed (.cons rSbAt (.cons rVdot (.cons rVsub (.cons rAdd (.cons rMul (.cons rSub .nil)))))) Tryz.func48 (by kernel_rfl) (by kernel_rfl) (noLoops (by kernel_rfl)) (k2 (fun _ _ => by kernel_rfl))
end Go.Proofs.YtfjognghjiifaaaGreat
