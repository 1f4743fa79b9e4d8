/- Ports: when they are right; what is sent and taken by the program. No condition. -/
import Derived.Test.YtcnaldcinkmpbaaTBase
namespace Go.Proofs.Ytcnaldcinkmpbaa.Pure
open Go Go.Proofs.YtcnaldcinkmpbaaA Go.Proofs.YtcnaldcinkmpbaaU Go.Proofs.Ytcnaldcinkmpbaa.QA
set_option linter.unusedVariables false
set_option linter.unusedSimpArgs false
abbrev Port5 := Int × Int × Int × Int × Int
abbrev M2 : Ty := .pair (.int .i64) (.int .i64)
structure PortOk (p : Port5) : Prop where
  fr : 1 ≤ p.2.1 ∧ p.2.1 ≤ 4
  tp : 1 ≤ p.2.2.1 ∧ p.2.2.1 ≤ 4
  ne : ¬ p.2.1 = p.2.2.1
  kd : (p.1 = 1 ∧ (1 ≤ p.2.2.2.1 ∧ p.2.2.2.1 ≤ 6) ∧ p.2.2.2.2 = 0) ∨ (p.1 = 2 ∧ p.2.2.2.1 = 1 ∧ (1 ≤ p.2.2.2.2 ∧ p.2.2.2.2 ≤ 100))
theorem isPart_p {k : Nat} (x : Int) : impl_isPart.f k x = some (decide (1 ≤ x ∧ x ≤ 4)) := by
  unfold impl_isPart.f
  rw [in_i]
  rfl
/-- What has been sent, and when it was. -/
def Stamps (l : List (Int × Int)) : Prop := ∀ x, x ∈ l → -9223372036854775808 ≤ x.2 ∧ x.2 < 9223372036854775808
end Go.Proofs.Ytcnaldcinkmpbaa.Pure
