/- One step of the reference's machine. No condition. -/
import Derived.Test.YtacpibmmodeacaaTStepI
namespace Go.Proofs.Ytacpibmmodeacaa.Pure
open Go Go.Proofs.YtacpibmmodeacaaA Go.Proofs.YtacpibmmodeacaaU Go.Proofs.Ytacpibmmodeacaa.QA
set_option linter.unusedVariables false
set_option linter.unusedSimpArgs false
theorem word_mod {z : Int} (h : Word z) : z % 65536 = z := by
  unfold Word at h
  omega
end Go.Proofs.Ytacpibmmodeacaa.Pure
