/- Ports: when they are right; what is sent and taken by the program. No condition. -/
import Derived.Test.YtacpibmmodeacaaTBase
namespace Go.Proofs.Ytacpibmmodeacaa.Pure
open Go Go.Proofs.YtacpibmmodeacaaA Go.Proofs.YtacpibmmodeacaaU Go.Proofs.Ytacpibmmodeacaa.QA
set_option linter.unusedVariables false
set_option linter.unusedSimpArgs false
abbrev Port5 := Int × Int × Int × Int × Int
abbrev M2 : Ty := .pair (.int .i64) (.int .i64)
structure PortOk (p : Port5) : Prop where
  fr : 1 ≤ p.2.1 ∧ p.2.1 ≤ 4
  tp : 1 ≤ p.2.2.1 ∧ p.2.2.1 ≤ 4
  ne : ¬ p.2.1 = p.2.2.1
  kd : (p.1 = 1 ∧ (1 ≤ p.2.2.2.1 ∧ p.2.2.2.1 ≤ 6) ∧ p.2.2.2.2 = 0) ∨ (p.1 = 2 ∧ p.2.2.2.1 = 1 ∧ (1 ≤ p.2.2.2.2 ∧ p.2.2.2.2 ≤ 100))
theorem isPart_p {k : Nat} (x : Int) : impl_isPart.f k x = some (decide (1 ≤ x ∧ x ≤ 4)) := by
  unfold impl_isPart.f
  rw [in_i]
  rfl
theorem portOk_i {k : Nat} {p : Port5} : impl_PortOk.f k p = some (B (PortOk p)) := by
  refine ok_eq ?_
  unfold impl_PortOk.f
  simp only [isPart_p, in_i, Option.bind_some, decide_eq_true_eq]
  have no : ¬ PortOk p → Ok (some false) (fun r => r = B (PortOk p)) := fun h => ok_some (B_no h).symm
  refine ok_if (fun h => no (fun g => h g.fr)) (fun h1 => ok_if (fun h => no (fun g => h g.tp)) (fun h2 => ok_if (fun h => no (fun g => g.ne h)) (fun h3 => ok_if (fun h4 => ?_) (fun h4 => ?_))))
  · refine ok_if (fun h5 => ok_some (B_of (decide_eq_true_iff.trans ⟨fun h => ⟨Classical.not_not.1 h1, Classical.not_not.1 h2, h3, .inl ⟨h4, h5, h⟩⟩, fun g => ?_⟩))) (fun h5 => no (fun g => ?_))
    · rcases g.kd with h | h
      · exact h.2.2
      · exact absurd h.1 (by omega)
    · rcases g.kd with h | h
      · exact h5 h.2.1
      · exact absurd h.1 (by omega)
  · refine ok_if (fun h5 => ok_if (fun h6 => ok_some (B_of (decide_eq_true_iff.trans ⟨fun h => ⟨Classical.not_not.1 h1, Classical.not_not.1 h2, h3, .inr ⟨h5, h6, h⟩⟩, fun g => ?_⟩))) (fun h6 => no (fun g => ?_))) (fun h5 => no (fun g => ?_))
    · rcases g.kd with h | h
      · exact absurd h.1 h4
      · exact h.2.2
    · rcases g.kd with h | h
      · exact h4 h.1
      · exact h6 h.2.1
    · rcases g.kd with h | h
      · exact h4 h.1
      · exact h5 h.1
/-- What has been sent, and when it was. -/
def Stamps (l : List (Int × Int)) : Prop := ∀ x, x ∈ l → -9223372036854775808 ≤ x.2 ∧ x.2 < 9223372036854775808
end Go.Proofs.Ytacpibmmodeacaa.Pure
