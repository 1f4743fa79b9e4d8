/- The pure statement of FnExactHas: both tell the same of every two numbers. No condition. -/
import Derived.Test.YtbnmhfglkbkbnaaPFnExactHasx1
namespace Go.Proofs.Ytbnmhfglkbkbnaa.Pure
open Go.RowKit Go.Proofs.Ytbnmhfglkbkbnaa.PFnExactHas Go.Proofs.YtbnmhfglkbkbnaaW.PrintWords Go.Proofs.YtbnmhfglkbkbnaaW.PrintLast
set_option linter.unusedVariables false
set_option linter.unusedSimpArgs false

theorem fifteen {P : Int → Prop} (h : ∀ m : Fin 16, P (m.val : Int)) (a : Int) (h0 : 0 ≤ a) (h1 : a ≤ 15) : P a := by
  have := h ⟨a.toNat, by omega⟩
  simpa [Int.toNat_of_nonneg h0] using this
theorem has_in (a : Int) (h0 : 0 ≤ a) (h1 : a ≤ 15) : ∀ b : Int, b = 1 ∨ b = 2 ∨ b = 4 ∨ b = 8 → laws_FnExactHas.f a b = some true := by
  refine fifteen (P := fun a => ∀ b : Int, b = 1 ∨ b = 2 ∨ b = 4 ∨ b = 8 → laws_FnExactHas.f a b = some true) ?_ a h0 h1
  rintro m b (rfl | rfl | rfl | rfl) <;> revert m <;> decide +kernel
theorem FnExactHas : laws_FnExactHas.Pure := by
  intro a0 a1
  intros
  by_cases h0 : 0 ≤ a0
  · by_cases h1 : a0 ≤ 15
    · by_cases hb : a1 = 1 ∨ a1 = 2 ∨ a1 = 4 ∨ a1 = 8
      · exact has_in a0 h0 h1 a1 hb
      · have e1 : ¬ a1 = 1 := fun h => hb (by omega)
        have e2 : ¬ a1 = 2 := fun h => hb (by omega)
        have e3 : ¬ a1 = 4 := fun h => hb (by omega)
        have e4 : ¬ a1 = 8 := fun h => hb (by omega)
        simp [laws_FnExactHas.f, spec_Has.f, impl_Has.f, spec_SenseOk.f, impl_SenseOk.f, spec_l01In.f, impl_within.f, h0, h1, e1, e2, e3, e4]
    · simp [laws_FnExactHas.f, spec_Has.f, impl_Has.f, spec_SenseOk.f, impl_SenseOk.f, spec_l01In.f, impl_within.f, h0, h1]
  · simp [laws_FnExactHas.f, spec_Has.f, impl_Has.f, spec_SenseOk.f, impl_SenseOk.f, spec_l01In.f, impl_within.f, h0]
end Go.Proofs.Ytbnmhfglkbkbnaa.Pure
