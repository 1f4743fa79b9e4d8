/- Orders that are right. No condition. -/
import Derived.Test.YtgihjaonapngdaaTBase
namespace Go.Proofs.Ytgihjaonapngdaa.Pure
open Go Go.Proofs.YtgihjaonapngdaaA Go.Proofs.YtgihjaonapngdaaU Go.Proofs.Ytgihjaonapngdaa.QA
set_option linter.unusedVariables false
theorem order_both (k : Nat) (o : Int × Int × Int × Int) : ∃ r, spec_OrderOk.f k o = some r ∧ impl_OrderOk.f k o = some r ∧ (r = true → (0 ≤ o.2.1 ∧ o.2.1 ≤ 5000) ∧ (0 ≤ o.2.2.1 ∧ o.2.2.1 ≤ 5000) ∧ (0 ≤ o.2.2.2 ∧ o.2.2.2 ≤ 5000)) := by
  obtain ⟨a, b, c, d⟩ := o
  by_cases h1 : a = 1
  · simp only [spec_OrderOk.f, impl_OrderOk.f, if_pos h1, in_s, in_i, Option.bind_some]
    generalize w64 (3 * c) = m
    have e : decide (1 ≤ b ∧ b ≤ min 1000 m) = (decide (1 ≤ b ∧ b ≤ 1000) && decide (b ≤ m)) := by
      rw [Bool.eq_iff_iff]
      simp
      omega
    rw [e]
    by_cases hc : 1 ≤ c ∧ c ≤ 1000
    · by_cases hb : 1 ≤ b ∧ b ≤ 1000
      · by_cases hm : b ≤ m
        · simp [hm, hc, hb]
          omega
        · simp [hm, hc, hb]
      · by_cases hm : b ≤ m <;> simp [hm, hc, hb]
    · simp [hc]
  · by_cases h2 : a = 2
    · subst h2
      simp only [spec_OrderOk.f, impl_OrderOk.f, if_neg h1, in_s, in_i, Option.bind_some]
      by_cases hd : 1 ≤ d ∧ d ≤ 100
      · by_cases hb : b = 0 <;> by_cases hc : c = 0 <;> simp [hb, hc, hd]
        omega
      · by_cases hb : b = 0 <;> by_cases hc : c = 0 <;> simp [hb, hc, hd]
    · simp only [spec_OrderOk.f, impl_OrderOk.f, if_neg h1, if_neg h2, in_s, in_i, Option.bind_some]
      cases decide (3 ≤ a ∧ a ≤ 6) <;> by_cases hb : b = 0 <;> by_cases hc : c = 0 <;> simp [hb, hc]
      omega
end Go.Proofs.Ytgihjaonapngdaa.Pure
