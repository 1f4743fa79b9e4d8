/- Machines: when they and code are right, places of cells, remainders, copies. No condition. -/
import Derived.Test.YtcnaldcinkmpbaaTBase
namespace Go.Proofs.Ytcnaldcinkmpbaa.Pure
open Go Go.Proofs.YtcnaldcinkmpbaaA Go.Proofs.YtcnaldcinkmpbaaU Go.Proofs.Ytcnaldcinkmpbaa.QA
set_option linter.unusedVariables false
abbrev I1 : Ty := .int .i64
abbrev C2 : Ty := .pair (.int .i64) (.int .i64)
def Word (z : Int) : Prop := 0 ≤ z ∧ z ≤ 65535
def WordsOk (S : List Int) : Prop := ∀ i, i < S.length → Word (el I1 S i)
def CpuOk (c : Int × List Int) : Prop := (0 ≤ c.1 ∧ c.1 ≤ 60) ∧ c.2.length ≤ 8 ∧ WordsOk c.2
def InsOk (x : Int × Int) : Prop := (0 ≤ x.1 ∧ x.1 ≤ 255) ∧ (0 ≤ x.2 ∧ x.2 ≤ 255)
def CodeOk (L : List (Int × Int)) : Prop := (∀ i, i < L.length → InsOk (el C2 L i)) ∧ L.length ≤ 60
theorem all_next {p : Nat → Prop} {j : Nat} (h : ∀ i, i < j → p i) (hj : p j) : ∀ i, i < j + 1 → p i := fun i hi => by
  rcases Nat.lt_or_ge i j with h' | h'
  · exact h i h'
  · obtain rfl : i = j := by omega
    exact hj
theorem codeOk_s {k : Nat} {L : List (Int × Int)} (hl : L.length ≤ 1048576) (hk : 1048576 < k) : spec_CodeOk.f k L = some (B (CodeOk L)) := by
  refine ok_eq ?_
  unfold spec_CodeOk.f
  refine ok_loop (L := spec_CodeOk.l1 k) (I := fun d s => ∃ j : Nat, s = ((j : Int), L, ()) ∧ j + d = L.length ∧ ∀ i, i < j → InsOk (el C2 L i)) ?_ k L.length _ (by omega) ⟨0, rfl, by omega, fun i hi => absurd hi (by omega)⟩
  rintro d n s ⟨j, rfl, hd, hq⟩ ih
  rw [spec_CodeOk.l1]
  have h4 : w64 ((j : Int) + 1) = ((j + 1 : Nat) : Int) := w64_id (by omega) (by omega)
  refine ok_if (fun hc => ?_) (fun hc => ok_some (B_of (decide_eq_true_iff.trans ⟨fun h => ⟨fun i hi => hq i (by omega), by omega⟩, fun h => by have := h.2; omega⟩)))
  have c0 : (0 : Int) ≤ (j : Int) := by omega
  simp only [c0, hc, ↓reduceIte, in_s, h4, Int.toNat_natCast, Option.bind_some, decide_eq_true_eq]
  have bad : ¬ InsOk (el C2 L j) → Ok (some false) (fun r => r = B (CodeOk L)) := fun h => ok_some (B_no (fun hr => h (hr.1 j (by omega)))).symm
  refine ok_if (fun h => bad (fun g => h g.1)) (fun h1 => ok_if (fun h => bad (fun g => h g.2)) (fun h2 => ?_))
  exact ih (d - 1) _ (by omega) ⟨j + 1, rfl, by omega, all_next hq ⟨Classical.not_not.1 h1, Classical.not_not.1 h2⟩⟩
/-- The place of a cell; -1 where there is none. -/
def cellAt (a : List Int) (r : Int × Int) (p : Int) : Int := if 0 ≤ r.1 ∧ 0 ≤ p ∧ p < r.2 ∧ p < (a.length : Int) - r.1 then r.1 + p else -1
theorem cellAt_lt {a : List Int} {r : Int × Int} {p : Int} (h : ¬ cellAt a r p < 0) : 0 ≤ cellAt a r p ∧ cellAt a r p < (a.length : Int) := by
  unfold cellAt at h ⊢
  split at h
  · rename_i hc
    rw [if_pos hc]
    omega
  · omega
end Go.Proofs.Ytcnaldcinkmpbaa.Pure
