/- Texts of numbers. No condition. -/
import Derived.Test.YtcnaldcinkmpbaaTBase
import Derived.KernelRfl
namespace Go.Proofs.Ytcnaldcinkmpbaa.Pure
open Go Go.Proofs.YtcnaldcinkmpbaaA Go.Proofs.YtcnaldcinkmpbaaU Go.Proofs.Ytcnaldcinkmpbaa.QA
set_option linter.unusedVariables false
theorem u8_w (z : Int) : IntKind.u8.wrap z = z % 256 := by simp [IntKind.wrap, IntKind.signed, IntKind.bits]
theorem chrs_size (xs : List Int) : (chrs xs).size = xs.length := by
  show (chrs xs).data.size = _
  simp [chrs]
theorem chrs_app (xs ys : List Int) : chrs (xs ++ ys) = chrs xs ++ chrs ys := by
  apply ByteArray.ext
  simp [chrs]
/-- The bytes of a number. -/
def varL (n : Nat) : List Int := if n > 127 then ((n % 128 + 128 : Nat) : Int) :: varL (n / 128) else [(n : Int)]
termination_by n
decreasing_by omega
theorem varL_len : ∀ (d n : Nat), n < 128 ^ d → (varL n).length ≤ d + 1
  | 0, n, h => by
    rw [varL, if_neg (by simp at h; omega)]
    simp
  | d + 1, n, h => by
    rw [varL]
    split
    · have := varL_len d (n / 128) (by rw [Nat.pow_succ] at h; omega)
      rw [List.length_cons]
      omega
    · simp
/-- The bytes of numbers. -/
def numsL : List Nat → List Int
  | [] => []
  | n :: L => varL n ++ numsL L
end Go.Proofs.Ytcnaldcinkmpbaa.Pure
