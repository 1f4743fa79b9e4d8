/- The plain words and the plain law of FnExactSenseNames. No condition. -/
import Derived.Test.YtkabaommohhbgaaUWords
import Derived.Test.YtkabaommohhbgaaBQA
import Derived.Test.YtkabaommohhbgaaQFnExactSenseNames
/- Numbers within bounds, as both programs ask it. No condition. -/
namespace Go.Proofs.Ytkabaommohhbgaa.Pure
open Go Go.Proofs.YtkabaommohhbgaaA Go.Proofs.YtkabaommohhbgaaU Go.Proofs.Ytkabaommohhbgaa.QA
set_option linter.unusedVariables false
theorem in_s {k : Nat} (x lo hi : Int) : spec_l01In.f k x lo hi = some (decide (lo ≤ x ∧ x ≤ hi)) := by
 unfold spec_l01In.f
 by_cases h : lo ≤ x <;> simp [h]
theorem in_i {k : Nat} (x lo hi : Int) : impl_within.f k x lo hi = some (decide (lo ≤ x ∧ x ≤ hi)) := by
 unfold impl_within.f
 by_cases h : lo ≤ x <;> simp [h]
end Go.Proofs.Ytkabaommohhbgaa.Pure
/- What is felt, and its names: sixteen sets. No condition. -/
namespace Go.Proofs.Ytkabaommohhbgaa.Pure
open Go Go.Proofs.YtkabaommohhbgaaA Go.Proofs.YtkabaommohhbgaaU Go.Proofs.Ytkabaommohhbgaa.QA
set_option linter.unusedVariables false
set_option linter.unusedSimpArgs false
theorem all16 {p : Nat → Bool} (h : (List.range 16).all p = true) {b : Nat} (hb : b < 16) : p b = true := List.all_eq_true.1 h b (List.mem_range.2 hb)
/-- The names of a set. -/
def nm (b : Nat) : ByteArray := (spec_SenseNames.f 1048577 (b : Int)).getD ⟨#[]⟩
theorem names_s {b : Nat} (hb : b < 16) : spec_SenseNames.f 1048577 (b : Int) = some (nm b) :=
 of_decide_eq_true (all16 (p := fun b => decide (spec_SenseNames.f 1048577 (b : Int) = some (nm b))) (by kernel_rfl) hb)
theorem names_i {b : Nat} (hb : b < 16) : impl_SenseNames.f 1048577 (b : Int) = some (nm b) :=
 of_decide_eq_true (all16 (p := fun b => decide (impl_SenseNames.f 1048577 (b : Int) = some (nm b))) (by kernel_rfl) hb)
theorem nat16 {x : Int} (h : 0 ≤ x ∧ x ≤ 15) : ∃ b : Nat, b < 16 ∧ x = (b : Int) := ⟨x.toNat, by omega, by omega⟩
theorem senseOk_s {k : Nat} (x : Int) : spec_SenseOk.f k x = some (decide (0 ≤ x ∧ x ≤ 15)) := by
 unfold spec_SenseOk.f
 rw [in_s]
 rfl
theorem senseOk_i {k : Nat} (x : Int) : impl_SenseOk.f k x = some (decide (0 ≤ x ∧ x ≤ 15)) := by
 unfold impl_SenseOk.f
 rw [in_i]
 rfl
theorem names_both (x : Int) : ∃ r, spec_SenseNames.f 1048577 x = some r ∧ impl_SenseNames.f 1048577 x = some r := by
 by_cases h : 0 ≤ x ∧ x ≤ 15
 ·obtain ⟨b, hb, rfl⟩ := nat16 h
  exact ⟨nm b, names_s hb, names_i hb⟩
 ·refine ⟨⟨#[]⟩, ?_, ?_⟩
  ·unfold spec_SenseNames.f
   rw [senseOk_s, decide_eq_false h]
   rfl
  ·unfold impl_SenseNames.f
   rw [senseOk_i, decide_eq_false h]
   rfl
end Go.Proofs.Ytkabaommohhbgaa.Pure
/- The plain law of FnExactSenseNames: both tell the same names of every number. No condition. -/
namespace Go.Proofs.Ytkabaommohhbgaa.Pure
open Go Go.Proofs.YtkabaommohhbgaaA Go.Proofs.YtkabaommohhbgaaU Go.Proofs.Ytkabaommohhbgaa.QA Go.Proofs.Ytkabaommohhbgaa.QFnExactSenseNames
set_option linter.unusedVariables false
theorem FnExactSenseNames : ∀ (x0 : den (.int .i64)), Wf (.int .i64) x0 → ∃ k, laws_FnExactSenseNames.f k x0 = some true := by
 intro x _
 refine ⟨1048577, ?_⟩
 obtain ⟨r, h1, h2⟩ := names_both x
 simp [laws_FnExactSenseNames.f, h1, h2]
end Go.Proofs.Ytkabaommohhbgaa.Pure
