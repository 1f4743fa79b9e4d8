/- What is the same is told to be the same. No condition. -/
import Derived.Test.YtcnaldcinkmpbaaTBase
namespace Go.Proofs.Ytcnaldcinkmpbaa.Pure
open Go Go.Proofs.YtcnaldcinkmpbaaA Go.Proofs.YtcnaldcinkmpbaaU Go.Proofs.Ytcnaldcinkmpbaa.QA
set_option linter.unusedVariables false
theorem sameInts_f {k : Nat} {xs : List Int} (hl : xs.length ≤ 1048576) (hk : 1048576 < k) : laws_sameInts.f k xs xs = some true := by
  have l : ∀ (d j n : Nat), j + d = xs.length → d < n → laws_sameInts.l1 k n ((j : Int), xs, xs, ()) = some true := by
    intro d
    induction d with
    | zero =>
      intro j n hj hn
      obtain ⟨n, rfl⟩ : ∃ n', n = n' + 1 := ⟨n - 1, by omega⟩
      rw [laws_sameInts.l1, if_neg (by omega)]
    | succ d ih =>
      intro j n hj hn
      obtain ⟨n, rfl⟩ : ∃ n', n = n' + 1 := ⟨n - 1, by omega⟩
      have h0 : (0 : Int) ≤ (j : Int) := by omega
      have h1 : (j : Int) < (xs.length : Int) := by omega
      have h4 : w64 ((j : Int) + 1) = ((j + 1 : Nat) : Int) := w_id (z := (j : Int) + 1) (by omega) (by omega)
      simp only [laws_sameInts.l1, h0, h1, h4, ↓reduceIte, Int.toNat_natCast, not_true_eq_false]
      exact ih (j + 1) n (by omega) (by omega)
  have := l xs.length 0 k (by omega) (by omega)
  unfold laws_sameInts.f
  rw [if_neg (fun h => h rfl)]
  exact this
theorem sameCpu_f {k : Nat} {c : Int × List Int} (hl : c.2.length ≤ 1048576) (hk : 1048576 < k) : laws_sameCpu.f k c c = some true := by
  unfold laws_sameCpu.f
  rw [if_pos rfl, sameInts_f hl hk]
  rfl
end Go.Proofs.Ytcnaldcinkmpbaa.Pure
