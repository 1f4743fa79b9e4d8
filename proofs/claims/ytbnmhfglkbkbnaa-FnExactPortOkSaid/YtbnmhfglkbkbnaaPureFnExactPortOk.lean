/- The pure statement of FnExactPortOk: both tell the same of every port. No condition. -/
import Derived.Test.YtbnmhfglkbkbnaaPFnExactPortOkx1
namespace Go.Proofs.Ytbnmhfglkbkbnaa.Pure
open Go.RowKit Go.Proofs.Ytbnmhfglkbkbnaa.PFnExactPortOk Go.Proofs.YtbnmhfglkbkbnaaW.PrintWords Go.Proofs.YtbnmhfglkbkbnaaW.PrintLast
set_option linter.unusedVariables false
set_option linter.unusedSimpArgs false

theorem same (a b c d e : Int) : impl_PortOk.f 1 a b c d e = spec_PortOk.f 1 a b c d e := by
  simp only [impl_PortOk.f, spec_PortOk.f, impl_isPart.f, impl_PortOk.j0, spec_PortOk.j0, impl_within.f, spec_l01In.f, Option.bind_some]
  cases h1 : (if b ≥ 1 then some (decide (b ≤ 4)) else some false) with
  | none => rfl
  | some x =>
    cases h2 : (if c ≥ 1 then some (decide (c ≤ 4)) else some false) with
    | none => rfl
    | some y => rfl
theorem ok_some (a b c : Int) : ∃ t, spec_l01In.f a b c = some t := by unfold spec_l01In.f; split <;> exact ⟨_, rfl⟩
theorem ends0 (x : Bool) (a b c d e : Int) : ∃ r, spec_PortOk.j0 1 x a b c d e = some r := by
  obtain ⟨t, ht⟩ := ok_some d 1 6
  obtain ⟨u, hu⟩ := ok_some e 1 100
  simp only [spec_PortOk.j0, ht, hu, Option.bind_some]
  split
  · exact ⟨_, rfl⟩
  · split
    · split <;> exact ⟨_, rfl⟩
    · split
      · split <;> exact ⟨_, rfl⟩
      · exact ⟨_, rfl⟩
theorem ends (a b c d e : Int) : ∃ r, spec_PortOk.f 1 a b c d e = some r := by
  obtain ⟨t, ht⟩ := ok_some b 1 4
  obtain ⟨u, hu⟩ := ok_some c 1 4
  simp only [spec_PortOk.f, ht, hu, Option.bind_some]
  split
  · split <;> exact ends0 _ _ _ _ _ _
  · exact ends0 _ _ _ _ _ _
theorem FnExactPortOk : ∀ (a b c d e : Int), (((Lit.int .i64 a).wf = true) ∧ ((Lit.int .i64 b).wf = true) ∧ ((Lit.int .i64 c).wf = true) ∧ ((Lit.int .i64 d).wf = true) ∧ ((Lit.int .i64 e).wf = true)) → ∃ k, laws_FnExactPortOk.f k a b c d e = some true := by
  intro a b c d e _
  obtain ⟨r, hr⟩ := ends a b c d e
  refine ⟨1, ?_⟩
  simp [laws_FnExactPortOk.f, laws_toPort.f, same, hr]
end Go.Proofs.Ytbnmhfglkbkbnaa.Pure
