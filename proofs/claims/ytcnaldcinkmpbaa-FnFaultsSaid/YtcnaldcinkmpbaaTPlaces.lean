/- Twelve drawn numbers. No condition. -/
import Derived.Test.YtcnaldcinkmpbaaTDraw
namespace Go.Proofs.Ytcnaldcinkmpbaa.Pure
open Go Go.Proofs.YtcnaldcinkmpbaaA Go.Proofs.YtcnaldcinkmpbaaU Go.Proofs.Ytcnaldcinkmpbaa.QA
set_option linter.unusedVariables false
/-- Twelve numbers of 0 .. 9999. -/
def Places (p : List Int) : Prop := p.length = 12 ∧ ∀ i, i < 12 → 0 ≤ (el (.int .i64) p i : Int) ∧ (el (.int .i64) p i : Int) ≤ 9999
theorem places_at {p : List Int} (h : Places p) {i : Nat} (hi : i < 12) : ∃ x : Int, el (.int .i64) p i = x ∧ 0 ≤ x ∧ x ≤ 9999 := ⟨_, rfl, h.2 i hi⟩
theorem tmod_in {x n : Int} (hx : 0 ≤ x) (hn : 0 < n) : 0 ≤ Int.tmod x n ∧ Int.tmod x n < n := ⟨Int.tmod_nonneg _ hx, Int.tmod_lt_of_pos _ hn⟩
/-- What a law over drawn bytes begins with. -/
theorem big_ok {k : Nat} {xs : List Int} {g : Bool → Option Bool} (h : xs.length ≤ 1048576 → Ok (g false) (fun r => r = true)) (h2 : Ok (g true) (fun r => r = true)) : Ok ((laws_big.f k xs).bind g) (fun r => r = true) := by
  unfold laws_big.f
  refine ok_let ?_
  by_cases hb : xs.length ≤ 1048576
  · rw [decide_eq_false (by omega)]
    exact h hb
  · rw [decide_eq_true (by omega)]
    exact h2
end Go.Proofs.Ytcnaldcinkmpbaa.Pure
