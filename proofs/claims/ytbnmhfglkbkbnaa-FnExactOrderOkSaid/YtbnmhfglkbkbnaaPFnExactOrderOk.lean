/- The plain law of FnExactOrderOk: both tell the same of every order. No condition. -/
import Derived.Test.YtbnmhfglkbkbnaaTBase
import Derived.Test.YtbnmhfglkbkbnaaQFnExactOrderOk
namespace Go.Proofs.Ytbnmhfglkbkbnaa.Pure
open Go Go.Proofs.YtbnmhfglkbkbnaaA Go.Proofs.YtbnmhfglkbkbnaaU Go.Proofs.Ytbnmhfglkbkbnaa.QA Go.Proofs.Ytbnmhfglkbkbnaa.QFnExactOrderOk
set_option linter.unusedVariables false
theorem order_both (k : Nat) (o : Int × Int × Int × Int) : ∃ r, spec_OrderOk.f k o = some r ∧ impl_OrderOk.f k o = some r := by
  obtain ⟨a, b, c, d⟩ := o
  by_cases h1 : a = 1
  · simp only [spec_OrderOk.f, impl_OrderOk.f, if_pos h1, in_s, in_i, Option.bind_some]
    generalize w64 (3 * c) = m
    have e : decide (1 ≤ b ∧ b ≤ min 1000 m) = (decide (1 ≤ b ∧ b ≤ 1000) && decide (b ≤ m)) := by
      rw [Bool.eq_iff_iff]
      simp
      omega
    rw [e]
    cases decide (1 ≤ c ∧ c ≤ 1000) <;> cases decide (1 ≤ b ∧ b ≤ 1000) <;> by_cases hm : b ≤ m <;> simp [hm]
  · by_cases h2 : a = 2
    · subst h2
      simp only [spec_OrderOk.f, impl_OrderOk.f, if_neg h1, in_s, in_i, Option.bind_some]
      cases decide (1 ≤ d ∧ d ≤ 100) <;> by_cases hb : b = 0 <;> by_cases hc : c = 0 <;> simp [hb, hc]
    · simp only [spec_OrderOk.f, impl_OrderOk.f, if_neg h1, if_neg h2, in_s, in_i, Option.bind_some]
      cases decide (3 ≤ a ∧ a ≤ 6) <;> by_cases hb : b = 0 <;> by_cases hc : c = 0 <;> simp [hb, hc]
theorem FnExactOrderOk : ∀ (x0 : den (.pair (.int .i64) (.pair (.int .i64) (.pair (.int .i64) (.int .i64))))), Wf (.pair (.int .i64) (.pair (.int .i64) (.pair (.int .i64) (.int .i64)))) x0 → ∃ k, laws_FnExactOrderOk.f k x0 = some true := by
  intro o _
  refine ⟨0, ?_⟩
  obtain ⟨r, h1, h2⟩ := order_both 0 o
  simp [laws_FnExactOrderOk.f, laws_toOrder.f, h1, h2]
end Go.Proofs.Ytbnmhfglkbkbnaa.Pure
