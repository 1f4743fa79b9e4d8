/- The plain words and the plain law of FnExactReadSense. No condition. -/
import Derived.Test.YtkabaommohhbgaaUWords
import Derived.Test.YtkabaommohhbgaaBQA
import Derived.Test.YtkabaommohhbgaaQFnExactReadSense
/- Numbers within bounds, as both programs ask it. No condition. -/
namespace Go.Proofs.Ytkabaommohhbgaa.Pure
open Go Go.Proofs.YtkabaommohhbgaaA Go.Proofs.YtkabaommohhbgaaU Go.Proofs.Ytkabaommohhbgaa.QA
set_option linter.unusedVariables false
end Go.Proofs.Ytkabaommohhbgaa.Pure
/- What is felt, and its names: sixteen sets. No condition. -/
namespace Go.Proofs.Ytkabaommohhbgaa.Pure
open Go Go.Proofs.YtkabaommohhbgaaA Go.Proofs.YtkabaommohhbgaaU Go.Proofs.Ytkabaommohhbgaa.QA
set_option linter.unusedVariables false
set_option linter.unusedSimpArgs false
theorem all16 {p : Nat → Bool} (h : (List.range 16).all p = true) {b : Nat} (hb : b < 16) : p b = true := List.all_eq_true.1 h b (List.mem_range.2 hb)
/-- The names of a set. -/
def nm (b : Nat) : ByteArray := (spec_SenseNames.f 1048577 (b : Int)).getD ⟨#[]⟩
theorem names_s {b : Nat} (hb : b < 16) : spec_SenseNames.f 1048577 (b : Int) = some (nm b) :=
 of_decide_eq_true (all16 (p := fun b => decide (spec_SenseNames.f 1048577 (b : Int) = some (nm b))) (by kernel_rfl) hb)
theorem names_i {b : Nat} (hb : b < 16) : impl_SenseNames.f 1048577 (b : Int) = some (nm b) :=
 of_decide_eq_true (all16 (p := fun b => decide (impl_SenseNames.f 1048577 (b : Int) = some (nm b))) (by kernel_rfl) hb)
/-- The first set, from j on, that has these names. -/
def rd (x : ByteArray) : Nat → Nat → Int × Bool
 | 0, _ => (0, false)
 | d + 1, j => if nm j = x then ((j : Int), true) else rd x d (j + 1)
theorem reads_s {x : ByteArray} : ∀ (d j n : Nat), j + d = 16 → d < n → spec_ReadSense.l1 1048577 n (x, (j : Int), ()) = some (rd x d j)
 | d, j, 0, _, h => absurd h (by omega)
 | 0, j, n + 1, hj, _ => by
  rw [spec_ReadSense.l1, if_neg (by omega)]
  rfl
 | d + 1, j, n + 1, hj, hn => by
  have ih := reads_s (x := x) d (j + 1) n (by omega) (by omega)
  have hw : w64 ((j : Int) + 1) = ((j + 1 : Nat) : Int) := w_id (by omega) (by omega)
  rw [spec_ReadSense.l1, if_pos (by omega), names_s (by omega), hw, ih, rd]
  simp only [Option.bind_some]
  split <;> rfl
theorem reads_i {x : ByteArray} : ∀ (d j n : Nat), j + d = 16 → d < n → impl_ReadSense.l1 1048577 n (x, (j : Int), ()) = some (rd x d j)
 | d, j, 0, _, h => absurd h (by omega)
 | 0, j, n + 1, hj, _ => by
  rw [impl_ReadSense.l1, if_neg (by omega)]
  rfl
 | d + 1, j, n + 1, hj, hn => by
  have ih := reads_i (x := x) d (j + 1) n (by omega) (by omega)
  have hw : w64 ((j : Int) + 1) = ((j + 1 : Nat) : Int) := w_id (by omega) (by omega)
  rw [impl_ReadSense.l1, if_pos (by omega), names_i (by omega), hw, ih, rd]
  simp only [Option.bind_some]
  split <;> rfl
theorem read_s (x : ByteArray) : spec_ReadSense.f 1048577 x = some (rd x 16 0) := reads_s 16 0 1048577 (by omega) (by omega)
theorem read_i (x : ByteArray) : impl_ReadSense.f 1048577 x = some (rd x 16 0) := reads_i 16 0 1048577 (by omega) (by omega)
end Go.Proofs.Ytkabaommohhbgaa.Pure
/- The plain law of FnExactReadSense: both read the same out of every text. No condition. -/
namespace Go.Proofs.Ytkabaommohhbgaa.Pure
open Go Go.Proofs.YtkabaommohhbgaaA Go.Proofs.YtkabaommohhbgaaU Go.Proofs.Ytkabaommohhbgaa.QA Go.Proofs.Ytkabaommohhbgaa.QFnExactReadSense
set_option linter.unusedVariables false
theorem FnExactReadSense : ∀ (x0 : den .str), Wf .str x0 → ∃ k, laws_FnExactReadSense.f k x0 = some true := by
 intro x _
 refine ⟨1048577, ?_⟩
 unfold laws_FnExactReadSense.f
 split
 ·rfl
 ·rw [read_s, read_i]
  simp
end Go.Proofs.Ytkabaommohhbgaa.Pure
