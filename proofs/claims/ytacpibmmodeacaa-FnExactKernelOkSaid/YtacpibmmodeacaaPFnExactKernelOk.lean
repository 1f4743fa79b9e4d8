/- The plain law of FnExactKernelOk. No condition. -/
import Derived.Test.YtacpibmmodeacaaTMKernel
import Derived.Test.YtacpibmmodeacaaQFnExactKernelOk
namespace Go.Proofs.Ytacpibmmodeacaa.Pure
open Go Go.Proofs.YtacpibmmodeacaaA Go.Proofs.YtacpibmmodeacaaU Go.Proofs.Ytacpibmmodeacaa.QA Go.Proofs.Ytacpibmmodeacaa.QFnExactKernelOk
set_option linter.unusedVariables false
theorem FnExactKernelOk : ∀ (x0 : den (.pair (.pair (.sl 214 (.pair (.int .i64) (.int .i64))) (.pair (.sl 216 (.pair (.int .i64) (.int .i64))) (.pair (.sl 218 (.pair (.int .i64) (.pair (.int .i64) (.pair (.int .i64) (.pair (.int .i64) (.int .i64)))))) (.pair (.sl 220 (.pair (.int .i64) (.pair (.int .i64) (.int .i64)))) (.sl 9 .str))))) (.pair (.sl 3 (.int .i64)) (.pair (.sl 200 (.pair (.int .i64) (.pair (.pair (.int .i64) (.sl 3 (.int .i64))) (.pair (.int .i64) (.pair (.int .i64) (.int .i64)))))) (.pair (.sl 204 (.sl 243 (.pair (.int .i64) (.int .i64)))) (.pair (.sl 3 (.int .i64)) (.pair (.int .i64) (.pair .bool (.sl 208 (.pair (.int .i64) (.pair (.int .i64) (.pair (.int .i64) (.pair (.int .i64) (.int .i64)))))))))))))), Wf (.pair (.pair (.sl 214 (.pair (.int .i64) (.int .i64))) (.pair (.sl 216 (.pair (.int .i64) (.int .i64))) (.pair (.sl 218 (.pair (.int .i64) (.pair (.int .i64) (.pair (.int .i64) (.pair (.int .i64) (.int .i64)))))) (.pair (.sl 220 (.pair (.int .i64) (.pair (.int .i64) (.int .i64)))) (.sl 9 .str))))) (.pair (.sl 3 (.int .i64)) (.pair (.sl 200 (.pair (.int .i64) (.pair (.pair (.int .i64) (.sl 3 (.int .i64))) (.pair (.int .i64) (.pair (.int .i64) (.int .i64)))))) (.pair (.sl 204 (.sl 243 (.pair (.int .i64) (.int .i64)))) (.pair (.sl 3 (.int .i64)) (.pair (.int .i64) (.pair .bool (.sl 208 (.pair (.int .i64) (.pair (.int .i64) (.pair (.int .i64) (.pair (.int .i64) (.int .i64))))))))))))) x0 → ∃ k, laws_FnExactKernelOk.f k x0 = some true := by
  intro K G
  refine ⟨1048577, ?_⟩
  have hk : 1048576 < 1048577 := by omega
  generalize 1048577 = k at hk
  refine ok_eq ?_
  unfold laws_FnExactKernelOk.f
  refine ok_bind (szKernel_f (K := K) hk G (by omega) (by omega)) (fun t1 h1 => ok_if (fun _ => ok_some rfl) (fun n1 => ?_))
  obtain ⟨l1, hs⟩ := h1 (by omega)
  have e : (K.1, K.2) = K := rfl
  simp only [e, toKernel_f hs hk, kernelOk_s hs.toSmallK hk, kernelOk_i hs.toSmallK hk, eqKernel_f hs.toSmallK hk, Option.bind_some, not_true_eq_false, ↓reduceIte]
  exact ok_some rfl
end Go.Proofs.Ytacpibmmodeacaa.Pure
