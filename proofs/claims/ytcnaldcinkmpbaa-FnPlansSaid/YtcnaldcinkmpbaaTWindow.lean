/- The window of a turn. No condition. -/
import Derived.Test.YtcnaldcinkmpbaaTPlan
namespace Go.Proofs.Ytcnaldcinkmpbaa.Pure
open Go Go.Proofs.YtcnaldcinkmpbaaA Go.Proofs.YtcnaldcinkmpbaaU Go.Proofs.Ytcnaldcinkmpbaa.QA
set_option linter.unusedVariables false
theorem window_i {k : Nat} {L : List (Int × Int)} {n : Nat} (hk : 1048576 < k) (h : PlanOk L) : impl_WindowAt.f k L (n : Int) = some (el W2 L (n % L.length)) := by
  have h1 := h.2
  have e : Int.tmod (n : Int) (L.length : Int) = ((n % L.length : Nat) : Int) := by
    rw [Int.tmod_eq_emod_of_nonneg (by omega)]
    omega
  have hlt : n % L.length < L.length := Nat.mod_lt _ (by omega)
  unfold impl_WindowAt.f
  rw [planOk_i (by omega) hk, B_yes h]
  simp only [Option.bind_some, not_true_eq_false, ↓reduceIte]
  rw [if_neg (by omega), if_pos (by omega), e, if_pos (by omega), if_pos (by omega)]
  rfl
theorem window_neg {k : Nat} {L : List (Int × Int)} (hk : 1048576 < k) (h : PlanOk L) : impl_WindowAt.f k L (-1) = some (0, 0) := by
  have h1 := h.2
  unfold impl_WindowAt.f
  rw [planOk_i (by omega) hk, B_yes h]
  simp
end Go.Proofs.Ytcnaldcinkmpbaa.Pure
