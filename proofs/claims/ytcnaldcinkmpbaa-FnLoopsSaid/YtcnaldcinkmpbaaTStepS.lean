/- One step of the reference's machine. No condition. -/
import Derived.Test.YtcnaldcinkmpbaaTStepI
namespace Go.Proofs.Ytcnaldcinkmpbaa.Pure
open Go Go.Proofs.YtcnaldcinkmpbaaA Go.Proofs.YtcnaldcinkmpbaaU Go.Proofs.Ytcnaldcinkmpbaa.QA
set_option linter.unusedVariables false
set_option linter.unusedSimpArgs false
theorem word_mod {z : Int} (h : Word z) : z % 65536 = z := by
  unfold Word at h
  omega
end Go.Proofs.Ytcnaldcinkmpbaa.Pure
