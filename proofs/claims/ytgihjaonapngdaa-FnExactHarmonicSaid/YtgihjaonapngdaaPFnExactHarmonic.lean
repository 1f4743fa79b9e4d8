/- The plain law of FnExactHarmonic. No condition. -/
import Derived.Test.YtgihjaonapngdaaTHarm
import Derived.Test.YtgihjaonapngdaaQFnExactHarmonic
namespace Go.Proofs.Ytgihjaonapngdaa.Pure
open Go Go.Proofs.YtgihjaonapngdaaA Go.Proofs.YtgihjaonapngdaaU Go.Proofs.Ytgihjaonapngdaa.QA Go.Proofs.Ytgihjaonapngdaa.QFnExactHarmonic
set_option linter.unusedVariables false
theorem harm_len {P Bu : List Int} : (Harm.harm P Bu).1.length ≤ 12 := by
  unfold Harm.harm
  split
  · rename_i h
    have := h.2
    dsimp only
    omega
  · simp
theorem FnExactHarmonic : ∀ (x0 : den (.sl 3 (.int .i64))) (x1 : den (.sl 3 (.int .i64))), Wf (.sl 3 (.int .i64)) x0 → Wf (.sl 3 (.int .i64)) x1 → ∃ k, laws_FnExactHarmonic.f k x0 x1 = some true := by
  intro P Bu _ _
  refine ⟨1048577, ?_⟩
  have hk : 1048576 < 1048577 := by omega
  generalize 1048577 = k at hk
  refine ok_eq ?_
  unfold laws_FnExactHarmonic.f
  refine ok_if (fun _ => ok_some rfl) (fun h1 => ok_if (fun _ => ok_some rfl) (fun h2 => ?_))
  have hP : P.length ≤ 1048576 := by
    have h : ¬ (1048576 : Int) < (P.length : Int) := h1
    omega
  have hB : Bu.length ≤ 1048576 := by
    have h : ¬ (1048576 : Int) < (Bu.length : Int) := h2
    omega
  have hw := harm_len (P := P) (Bu := Bu)
  have hw' : (Harm.harm P Bu).1.length ≤ 1048576 := by omega
  have m1 := markIntS_f (k := k) (xs := P) (m := 1) hP hk (by omega) (by omega)
  have e1 := MIntS_le (m := 1) P.length
  have m2 := markIntS_f (k := k) (xs := Bu) (m := mi NIntS 1 P.length) hB hk (by omega) (by omega)
  have e2 := MIntS_le (m := mi NIntS 1 P.length) Bu.length
  have m3 := markWindowS_f (k := k) (xs := (Harm.harm P Bu).1) (m := 1) hw' hk (by omega) (by omega)
  have m4 := heldWindowS_f (k := k) (L := (Harm.harm P Bu).1.length) (m := 1) hw' hk (by omega) (by omega)
  have e3 := MWindowS_le (m := 1) (Harm.harm P Bu).1.length
  have n1 : ¬ mi NIntS (mi NIntS 1 P.length) Bu.length < 0 := by omega
  have n2 : ¬ mi NWindowS 1 (Harm.harm P Bu).1.length < 0 := by omega
  simp only [Option.bind_some, toIntS_f hP hk, toIntS_f hB hk, Harm.harm_i hk, Harm.harm_s hk, eqWindowS_f hw' hk, eqIntS_f hP hk, eqIntS_f hB hk, m1, m2, m3, m4, not_true_eq_false, ↓reduceIte, n1, n2]
  exact ok_some rfl
end Go.Proofs.Ytgihjaonapngdaa.Pure
