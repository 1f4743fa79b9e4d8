/- Machines: when they and code are right, places of cells, remainders, copies. No condition. -/
import Derived.Test.YtacpibmmodeacaaTBase
namespace Go.Proofs.Ytacpibmmodeacaa.Pure
open Go Go.Proofs.YtacpibmmodeacaaA Go.Proofs.YtacpibmmodeacaaU Go.Proofs.Ytacpibmmodeacaa.QA
set_option linter.unusedVariables false
abbrev I1 : Ty := .int .i64
abbrev C2 : Ty := .pair (.int .i64) (.int .i64)
def Word (z : Int) : Prop := 0 ≤ z ∧ z ≤ 65535
def WordsOk (S : List Int) : Prop := ∀ i, i < S.length → Word (el I1 S i)
def CpuOk (c : Int × List Int) : Prop := (0 ≤ c.1 ∧ c.1 ≤ 60) ∧ c.2.length ≤ 8 ∧ WordsOk c.2
def InsOk (x : Int × Int) : Prop := (0 ≤ x.1 ∧ x.1 ≤ 255) ∧ (0 ≤ x.2 ∧ x.2 ≤ 255)
def CodeOk (L : List (Int × Int)) : Prop := (∀ i, i < L.length → InsOk (el C2 L i)) ∧ L.length ≤ 60
theorem all_next {p : Nat → Prop} {j : Nat} (h : ∀ i, i < j → p i) (hj : p j) : ∀ i, i < j + 1 → p i := fun i hi => by
  rcases Nat.lt_or_ge i j with h' | h'
  · exact h i h'
  · obtain rfl : i = j := by omega
    exact hj
theorem words_i {k : Nat} {S : List Int} (hl : S.length ≤ 1048576) (hk : 1048576 < k) : impl_wordsOk.f k S = some (B (WordsOk S)) := by
  refine ok_eq ?_
  unfold impl_wordsOk.f
  refine ok_loop (L := impl_wordsOk.l1 k) (I := fun d s => ∃ j : Nat, s = ((S.length : Int), (j : Int), S, ()) ∧ j + d = S.length ∧ ∀ i, i < j → Word (el I1 S i)) ?_ k S.length _ (by omega) ⟨0, rfl, by omega, fun i hi => absurd hi (by omega)⟩
  rintro d n s ⟨j, rfl, hd, hq⟩ ih
  rw [impl_wordsOk.l1]
  have hw : ∀ x, impl_isWord.f k x = some (decide (0 ≤ x ∧ x ≤ 65535)) := fun x => by
    unfold impl_isWord.f
    rw [in_i]
    rfl
  have h4 : w64 ((j : Int) + 1) = ((j + 1 : Nat) : Int) := by
    rcases Nat.lt_or_ge j S.length with h | h
    · exact w64_id (by omega) (by omega)
    · exact w64_id (by omega) (by omega)
  refine ok_if (fun hc => ?_) (fun hc => ok_some (B_yes fun i hi => hq i (by omega)).symm)
  rw [if_pos (by omega), if_pos hc, hw, h4]
  simp only [Int.toNat_natCast, Option.bind_some, decide_eq_true_eq]
  refine ok_if (fun h => ok_some (B_no fun hr => h (hr j (by omega))).symm) (fun h => ?_)
  exact ih (d - 1) _ (by omega) ⟨j + 1, rfl, by omega, all_next hq (Classical.not_not.1 h)⟩
theorem cpuOk_i {k : Nat} {c : Int × List Int} (hk : 1048576 < k) : impl_CpuOk.f k c = some (B (CpuOk c)) := by
  refine ok_eq ?_
  unfold impl_CpuOk.f
  rw [in_i]
  refine ok_let (ok_if (fun h1 => ?_) (fun h1 => ok_some (B_no fun h => h1 (decide_eq_true h.1)).symm))
  refine ok_if (fun h2 => ?_) (fun h2 => ok_some (B_no fun h => h2 (by have := h.2.1; omega)).symm)
  rw [words_i (by omega) hk]
  refine ok_let (ok_some (B_of ?_))
  exact B_iff.trans ⟨fun h => ⟨of_decide_eq_true h1, by omega, h⟩, fun h => h.2.2⟩
theorem cpuOk_s {k : Nat} {c : Int × List Int} (hl : c.2.length ≤ 1048576) (hk : 1048576 < k) : spec_CpuOk.f k c = some (B (CpuOk c)) := by
  obtain ⟨pc, S⟩ := c
  simp only at hl
  refine ok_eq ?_
  unfold spec_CpuOk.f
  refine ok_loop (L := spec_CpuOk.l1 k) (I := fun d s => ∃ j : Nat, s = ((j : Int), pc, S, ()) ∧ j + d = S.length ∧ ∀ i, i < j → Word (el I1 S i)) ?_ k S.length _ (by omega) ⟨0, rfl, by omega, fun i hi => absurd hi (by omega)⟩
  rintro d n s ⟨j, rfl, hd, hq⟩ ih
  rw [spec_CpuOk.l1]
  have h4 : w64 ((j : Int) + 1) = ((j + 1 : Nat) : Int) := w64_id (by omega) (by omega)
  refine ok_if (fun hc => ?_) (fun hc => ?_)
  · rw [if_pos (by omega), if_pos hc, in_s, h4]
    simp only [Int.toNat_natCast, Option.bind_some, decide_eq_true_eq]
    refine ok_if (fun h => ok_some (B_no fun hr => h (hr.2.2 j (by dsimp only; omega))).symm) (fun h => ?_)
    exact ih (d - 1) _ (by omega) ⟨j + 1, rfl, by omega, all_next hq (Classical.not_not.1 h)⟩
  · rw [in_s]
    simp only [Option.bind_some, decide_eq_true_eq]
    refine ok_if (fun h1 => ok_some (B_of (decide_eq_true_iff.trans ⟨fun h => ⟨h1, by dsimp only; omega, fun i hi => hq i (by dsimp only at hi; omega)⟩, fun h => ?_⟩))) (fun h1 => ok_some (B_no fun h => h1 h.1).symm)
    have := h.2.1
    dsimp only at this
    omega
/-- The place of a cell; -1 where there is none. -/
def cellAt (a : List Int) (r : Int × Int) (p : Int) : Int := if 0 ≤ r.1 ∧ 0 ≤ p ∧ p < r.2 ∧ p < (a.length : Int) - r.1 then r.1 + p else -1
theorem cellAt_lt {a : List Int} {r : Int × Int} {p : Int} (h : ¬ cellAt a r p < 0) : 0 ≤ cellAt a r p ∧ cellAt a r p < (a.length : Int) := by
  unfold cellAt at h ⊢
  split at h
  · rename_i hc
    rw [if_pos hc]
    omega
  · omega
end Go.Proofs.Ytacpibmmodeacaa.Pure
