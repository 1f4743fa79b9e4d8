/- The plain law of FnExactSetupText. No condition. -/
import Derived.Test.YtcnaldcinkmpbaaTSetupText
import Derived.Test.YtcnaldcinkmpbaaTMSetup
import Derived.Test.YtcnaldcinkmpbaaQFnExactSetupText
namespace Go.Proofs.Ytcnaldcinkmpbaa.Pure
open Go Go.Proofs.YtcnaldcinkmpbaaA Go.Proofs.YtcnaldcinkmpbaaU Go.Proofs.Ytcnaldcinkmpbaa.QA Go.Proofs.Ytcnaldcinkmpbaa.QFnExactSetupText
set_option linter.unusedVariables false
theorem FnExactSetupText : ∀ (x0 : den (.pair (.sl 74 (.pair (.int .i64) (.int .i64))) (.pair (.sl 193 (.pair (.int .i64) (.int .i64))) (.pair (.sl 195 (.pair (.int .i64) (.pair (.int .i64) (.pair (.int .i64) (.pair (.int .i64) (.int .i64)))))) (.pair (.sl 197 (.pair (.int .i64) (.pair (.int .i64) (.int .i64)))) (.sl 9 .str)))))), Wf (.pair (.sl 74 (.pair (.int .i64) (.int .i64))) (.pair (.sl 193 (.pair (.int .i64) (.int .i64))) (.pair (.sl 195 (.pair (.int .i64) (.pair (.int .i64) (.pair (.int .i64) (.pair (.int .i64) (.int .i64)))))) (.pair (.sl 197 (.pair (.int .i64) (.pair (.int .i64) (.int .i64)))) (.sl 9 .str))))) x0 → ∃ k, laws_FnExactSetupText.f k x0 = some true := by
  intro s G
  refine ⟨1048577, ?_⟩
  have hk : 1048576 < 1048577 := by omega
  generalize 1048577 = k at hk
  refine ok_eq ?_
  unfold laws_FnExactSetupText.f
  refine ok_bind (szSetup_f (s := s) hk G (by omega) (by omega)) (fun t1 h1 => ok_if (fun _ => ok_some rfl) (fun n1 => ?_))
  obtain ⟨l1, hs⟩ := h1 (by omega)
  simp only [toSetup_f hs hk, text_s hs.toSmall hk, text_i hs.toSmall hk, eqSetup_f hs.toSmall hk, Option.bind_some, not_true_eq_false, ↓reduceIte]
  exact ok_some rfl
end Go.Proofs.Ytcnaldcinkmpbaa.Pure
