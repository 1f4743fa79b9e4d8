/- One step of the reference's machine. No condition. -/
import Derived.Test.YtbnmhfglkbkbnaaTStepI
namespace Go.Proofs.Ytbnmhfglkbkbnaa.Pure
open Go Go.Proofs.YtbnmhfglkbkbnaaA Go.Proofs.YtbnmhfglkbkbnaaU Go.Proofs.Ytbnmhfglkbkbnaa.QA
set_option linter.unusedVariables false
set_option linter.unusedSimpArgs false
theorem word_mod {z : Int} (h : Word z) : z % 65536 = z := by
  unfold Word at h
  omega
end Go.Proofs.Ytbnmhfglkbkbnaa.Pure
