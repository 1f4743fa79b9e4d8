/- The plain law of FnExactRunCost. No condition. -/
import Derived.Test.YtcnaldcinkmpbaaTRun
import Derived.Test.YtcnaldcinkmpbaaQFnExactRunCost
namespace Go.Proofs.Ytcnaldcinkmpbaa.Pure
open Go Go.Proofs.YtcnaldcinkmpbaaA Go.Proofs.YtcnaldcinkmpbaaU Go.Proofs.Ytcnaldcinkmpbaa.QA Go.Proofs.Ytcnaldcinkmpbaa.QFnExactRunCost
set_option linter.unusedVariables false
theorem FnExactRunCost : ∀ (x0 : den (.sl 145 (.pair (.int .i64) (.int .i64)))) (x1 : den (.sl 3 (.int .i64))) (x2 : den (.pair (.int .i64) (.int .i64))) (x3 : den (.int .i64)), Wf (.sl 145 (.pair (.int .i64) (.int .i64))) x0 → Wf (.sl 3 (.int .i64)) x1 → Wf (.pair (.int .i64) (.int .i64)) x2 → Wf (.int .i64) x3 → ∃ k, laws_FnExactRunCost.f k x0 x1 x2 x3 = some true := by
  intro code a r most G1 G2 G3 G4
  refine ⟨1048577, ?_⟩
  have hk : 1048576 < 1048577 := by omega
  generalize 1048577 = k at hk
  refine ok_eq ?_
  unfold laws_FnExactRunCost.f
  refine ok_bind (szInstrS_f (xs := code) G1.2 (by omega) (by omega)) (fun t2 h2 => ok_if (fun _ => ok_some rfl) (fun n2 => ?_))
  obtain ⟨l2, hl⟩ := h2 (by omega)
  refine ok_bind (szArena_f (c := a) G2.2 (by omega) (by omega)) (fun t3 h3 => ok_if (fun _ => ok_some rfl) (fun n3 => ?_))
  obtain ⟨l3, ha⟩ := h3 (by omega)
  have hr := (wf_i64 (z := r.1) G3.1).2
  simp only [Option.bind_some, toInstrS_f hl hk, toArena_f ha hk, toRegion_f, runCost_s hk hl ha, runCost_i hk hl ha hr, eqInstrS_f hl hk, eqArena_f ha hk, not_true_eq_false, ↓reduceIte]
  exact ok_some rfl
end Go.Proofs.Ytcnaldcinkmpbaa.Pure
