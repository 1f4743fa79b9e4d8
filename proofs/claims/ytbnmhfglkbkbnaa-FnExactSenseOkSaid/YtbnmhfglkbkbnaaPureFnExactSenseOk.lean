/- The pure statement of FnExactSenseOk: both tell the same of every number. No condition. -/
import Derived.Test.YtbnmhfglkbkbnaaPFnExactSenseOkx1
namespace Go.Proofs.Ytbnmhfglkbkbnaa.Pure
open Go.RowKit Go.Proofs.Ytbnmhfglkbkbnaa.PFnExactSenseOk Go.Proofs.YtbnmhfglkbkbnaaW.PrintWords Go.Proofs.YtbnmhfglkbkbnaaW.PrintLast
set_option linter.unusedVariables false
set_option linter.unusedSimpArgs false

theorem FnExactSenseOk : laws_FnExactSenseOk.Pure := by
  intro a0
  intros
  simp [laws_FnExactSenseOk.f, spec_SenseOk.f, impl_SenseOk.f, spec_l01In.f, impl_within.f]
  split <;> simp
end Go.Proofs.Ytbnmhfglkbkbnaa.Pure
