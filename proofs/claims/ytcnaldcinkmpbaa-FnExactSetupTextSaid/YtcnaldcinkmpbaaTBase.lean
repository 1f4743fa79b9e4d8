/- Numbers within bounds, as both programs ask it. No condition. -/
import Derived.Test.YtcnaldcinkmpbaaUWords
import Derived.Test.YtcnaldcinkmpbaaBQA
namespace Go.Proofs.Ytcnaldcinkmpbaa.Pure
open Go Go.Proofs.YtcnaldcinkmpbaaA Go.Proofs.YtcnaldcinkmpbaaU Go.Proofs.Ytcnaldcinkmpbaa.QA
set_option linter.unusedVariables false
theorem in_s {k : Nat} (x lo hi : Int) : spec_l01In.f k x lo hi = some (decide (lo ≤ x ∧ x ≤ hi)) := by
  unfold spec_l01In.f
  by_cases h : lo ≤ x <;> simp [h]
theorem in_i {k : Nat} (x lo hi : Int) : impl_within.f k x lo hi = some (decide (lo ≤ x ∧ x ≤ hi)) := by
  unfold impl_within.f
  by_cases h : lo ≤ x <;> simp [h]
end Go.Proofs.Ytcnaldcinkmpbaa.Pure
