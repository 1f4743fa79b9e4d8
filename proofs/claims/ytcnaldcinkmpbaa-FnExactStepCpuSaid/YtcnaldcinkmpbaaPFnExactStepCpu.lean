/- The plain law of FnExactStepCpu. No condition. -/
import Derived.Test.YtcnaldcinkmpbaaTMCpu
import Derived.Test.YtcnaldcinkmpbaaQFnExactStepCpu
namespace Go.Proofs.Ytcnaldcinkmpbaa.Pure
open Go Go.Proofs.YtcnaldcinkmpbaaA Go.Proofs.YtcnaldcinkmpbaaU Go.Proofs.Ytcnaldcinkmpbaa.QA Go.Proofs.Ytcnaldcinkmpbaa.QFnExactStepCpu
set_option linter.unusedVariables false
theorem FnExactStepCpu : ∀ (x0 : den (.pair (.int .i64) (.sl 3 (.int .i64)))) (x1 : den (.sl 145 (.pair (.int .i64) (.int .i64)))) (x2 : den (.sl 3 (.int .i64))) (x3 : den (.pair (.int .i64) (.int .i64))) (x4 : den (.int .i64)), Wf (.pair (.int .i64) (.sl 3 (.int .i64))) x0 → Wf (.sl 145 (.pair (.int .i64) (.int .i64))) x1 → Wf (.sl 3 (.int .i64)) x2 → Wf (.pair (.int .i64) (.int .i64)) x3 → Wf (.int .i64) x4 → ∃ k, laws_FnExactStepCpu.f k x0 x1 x2 x3 x4 = some true := by
  intro c code a r time G0 G1 G2 G3 G4
  refine ⟨1048577, ?_⟩
  have hk : 1048576 < 1048577 := by omega
  generalize 1048577 = k at hk
  refine ok_eq ?_
  unfold laws_FnExactStepCpu.f
  refine ok_bind (szCpu_f (c := c) G0.2.2 (by omega) (by omega)) (fun t1 h1 => ok_if (fun _ => ok_some rfl) (fun n1 => ?_))
  obtain ⟨l1, hc⟩ := h1 (by omega)
  refine ok_bind (szInstrS_f (xs := code) G1.2 (by omega) (by omega)) (fun t2 h2 => ok_if (fun _ => ok_some rfl) (fun n2 => ?_))
  obtain ⟨l2, hl⟩ := h2 (by omega)
  refine ok_bind (szArena_f (c := a) G2.2 (by omega) (by omega)) (fun t3 h3 => ok_if (fun _ => ok_some rfl) (fun n3 => ?_))
  obtain ⟨l3, ha⟩ := h3 (by omega)
  have hr := (wf_i64 (z := r.1) G3.1).2
  clear G0 G1 G2 G3 G4 h1 h2 h3 n1 n2 n3 l1 l2 l3
  have z1 : (stepM c code a r time).1.2.length ≤ 1048576 := step_len2 hc
  have z2 : (stepM c code a r time).2.1.length ≤ 1048576 := by rw [step_len.2.1]; exact ha
  have m1 := markCpu_f (k := k) (c := c) (m := 1) hc hk (by omega) (by omega)
  have e1 := MIntS_le (m := 1) c.2.length
  have m2 := markInstrS_f (k := k) (xs := code) (m := mi NIntS 1 c.2.length) hl hk (by omega) (by omega)
  have e2 := MInstrS_le (m := mi NIntS 1 c.2.length) code.length
  have m3 := markArena_f (k := k) (c := a) (m := mi NInstrS (mi NIntS 1 c.2.length) code.length) ha hk (by omega) (by omega)
  have e3 := MIntS_le (m := mi NInstrS (mi NIntS 1 c.2.length) code.length) a.length
  have n3 : ¬ mi NIntS (mi NInstrS (mi NIntS 1 c.2.length) code.length) a.length < 0 := by omega
  simp only [Option.bind_some, toCpu_f hc hk, toInstrS_f hl hk, toArena_f ha hk, toRegion_f, step_s hk hl hc ha, step_i hk hl hc ha hr, eqCpu_f z1 hk, eqArena_f z2 hk, eqEffect_f, eqCpu_f hc hk, eqInstrS_f hl hk, eqArena_f ha hk, m1, m2, m3, n3, not_true_eq_false, ↓reduceIte]
  generalize stepM c code a r time = s at *
  have m4 := markCpu_f (k := k) (c := s.1) (m := 1) z1 hk (by omega) (by omega)
  have e4 := MIntS_le (m := 1) s.1.2.length
  have m5 := markArena_f (k := k) (c := s.2.1) (m := mi NIntS 1 s.1.2.length) z2 hk (by omega) (by omega)
  have e5 := MIntS_le (m := mi NIntS 1 s.1.2.length) s.2.1.length
  have m6 := heldCpu_f (k := k) (L := s.1.2.length) (pc := s.1.1) (m := 1) z1 hk (by omega) (by omega)
  have m7 := heldArena_f (k := k) (L := s.2.1.length) (m := mi NIntS 1 s.1.2.length) z2 hk (by omega) (by omega)
  have n6 : ¬ mi NIntS 1 s.1.2.length < 0 := by omega
  have n7 : ¬ mi NIntS (mi NIntS 1 s.1.2.length) s.2.1.length < 0 := by omega
  simp only [m4, m5, m6, m7, n6, n7, Option.bind_some, not_true_eq_false, ↓reduceIte]
  exact ok_some rfl
end Go.Proofs.Ytcnaldcinkmpbaa.Pure
