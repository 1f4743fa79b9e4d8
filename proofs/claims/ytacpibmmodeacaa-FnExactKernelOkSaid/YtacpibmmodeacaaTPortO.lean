/- Ports: when the reference tells that they are right. No condition. -/
import Derived.Test.YtacpibmmodeacaaTPort
namespace Go.Proofs.Ytacpibmmodeacaa.Pure
open Go Go.Proofs.YtacpibmmodeacaaA Go.Proofs.YtacpibmmodeacaaU Go.Proofs.Ytacpibmmodeacaa.QA
set_option linter.unusedVariables false
set_option linter.unusedSimpArgs false
theorem portOk_s {k : Nat} {p : Port5} : spec_PortOk.f k p = some (B (PortOk p)) := by
  have h : spec_PortOk.f k p = impl_PortOk.f k p := by
    unfold spec_PortOk.f impl_PortOk.f
    simp only [isPart_p, in_i, in_s, Option.bind_some]
  rw [h, portOk_i]
end Go.Proofs.Ytacpibmmodeacaa.Pure
