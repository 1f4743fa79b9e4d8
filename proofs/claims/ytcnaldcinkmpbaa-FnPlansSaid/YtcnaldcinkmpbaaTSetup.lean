/- Set-ups: their faults. No condition. -/
import Derived.Test.YtcnaldcinkmpbaaTPortO
import Derived.Test.YtcnaldcinkmpbaaTHealth
import Derived.Test.YtcnaldcinkmpbaaTPlan
namespace Go.Proofs.Ytcnaldcinkmpbaa.Pure
open Go Go.Proofs.YtcnaldcinkmpbaaA Go.Proofs.YtcnaldcinkmpbaaU Go.Proofs.Ytcnaldcinkmpbaa.QA
set_option linter.unusedVariables false
set_option linter.unusedSimpArgs false
abbrev P5 : Ty := .pair (.int .i64) (.pair (.int .i64) (.pair (.int .i64) (.pair (.int .i64) (.int .i64))))
abbrev Setup := List (Int × Int) × List (Int × Int) × List Port5 × List (Int × Int × Int) × List ByteArray
theorem allS {p : Nat → Prop} {j : Nat} (h : ∀ i, i < j → p i) (hj : p j) : ∀ i, i < j + 1 → p i := fun i hi => by
  rcases Nat.lt_or_ge i j with h' | h'
  · exact h i h'
  · obtain rfl : i = j := by omega
    exact hj
/-! ### regions -/
def RegIn (r : Int × Int) : Prop := 0 ≤ r.1 ∧ 1 ≤ r.2 ∧ r.2 ≤ 64 ∧ r.1 ≤ 64 - r.2
def Over (r o : Int × Int) : Prop := r.1 < o.1 + o.2 ∧ o.1 < r.1 + r.2
def RegAt (L : List (Int × Int)) (i : Nat) : Prop := RegIn (el W2 L i) ∧ ∀ j, j < i → ¬ Over (el W2 L i) (el W2 L j)
def RegionsOk (L : List (Int × Int)) : Prop := (∀ i, i < L.length → RegAt L i) ∧ 1 ≤ L.length ∧ L.length ≤ 4
/-! ### codes -/
def CodeRead (s : ByteArray) : Prop := s.size % 2 = 0 ∧ s.size ≤ 120
/-- The instructions that stand in a text's bytes. -/
def insOf (s : ByteArray) (n : Nat) : List (Int × Int) := (List.range n).map fun i => (bt s ((2 * i : Nat) : Int), bt s ((2 * i + 1 : Nat) : Int))
theorem insOf_len (s : ByteArray) (n : Nat) : (insOf s n).length = n := by simp [insOf]
theorem insOf_next (s : ByteArray) (n : Nat) : insOf s (n + 1) = insOf s n ++ [(bt s ((2 * n : Nat) : Int), bt s ((2 * n + 1 : Nat) : Int))] := by simp [insOf, List.range_succ]
noncomputable def readM (s : ByteArray) : List (Int × Int) × Bool := if B (CodeRead s) = true then (insOf s (s.size / 2), true) else ([], false)
theorem bt_in (s : ByteArray) (i : Int) : 0 ≤ bt s i ∧ bt s i ≤ 255 := by
  unfold bt
  have := (s.toList.getD i.toNat 0).toNat_lt
  omega
theorem tmod2 (n : Nat) : (Int.tmod (n : Int) 2 = 0) ↔ n % 2 = 0 := by
  rw [Int.tmod_eq_emod_of_nonneg (by omega)]
  omega
def CodesOk (L : List ByteArray) (n : Int) : Prop := (∀ i, i < L.length → CodeRead (el .str L i)) ∧ (L.length : Int) = n
/-! ### ports and parts -/
def PortsOk (L : List Port5) : Prop := (∀ i, i < L.length → PortOk (el P5 L i)) ∧ L.length ≤ 6
structure PartsOk (s : Setup) : Prop where
  wins : ∀ i, i < s.2.1.length → (el W2 s.2.1 i).1 ≤ (s.1.length : Int)
  pfr : ∀ i, i < s.2.2.1.length → (el P5 s.2.2.1 i).2.1 ≤ (s.1.length : Int)
  pto : ∀ i, i < s.2.2.1.length → (el P5 s.2.2.1 i).2.2.1 ≤ (s.1.length : Int)
  rls : ∀ i, i < s.2.2.2.1.length → (el R3 s.2.2.2.1 i).1 ≤ (s.1.length : Int)
/-! ### the fault -/
noncomputable def faultM (s : Setup) : Int :=
  if ¬ B (RegionsOk s.1) = true then 1 else if ¬ B (PlanOk s.2.1) = true then 2 else if ¬ B (PortsOk s.2.2.1) = true then 3 else if ¬ B (RulesOk s.2.2.2.1) = true then 4 else if ¬ B (CodesOk s.2.2.2.2 (s.1.length : Int)) = true then 5 else if ¬ B (PartsOk s) = true then 6 else 0
structure Small (s : Setup) : Prop where
  a : s.1.length ≤ 1048576
  b : s.2.1.length ≤ 1048576
  c : s.2.2.1.length ≤ 1048576
  d : s.2.2.2.1.length ≤ 1048576
  e : s.2.2.2.2.length ≤ 1048576
end Go.Proofs.Ytcnaldcinkmpbaa.Pure
