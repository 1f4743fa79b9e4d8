/- Machines: when they and code are right, places of cells, remainders, copies. No condition. -/
import Derived.Test.YtcnaldcinkmpbaaTBase
namespace Go.Proofs.Ytcnaldcinkmpbaa.Pure
open Go Go.Proofs.YtcnaldcinkmpbaaA Go.Proofs.YtcnaldcinkmpbaaU Go.Proofs.Ytcnaldcinkmpbaa.QA
set_option linter.unusedVariables false
abbrev I1 : Ty := .int .i64
abbrev C2 : Ty := .pair (.int .i64) (.int .i64)
def Word (z : Int) : Prop := 0 ≤ z ∧ z ≤ 65535
def WordsOk (S : List Int) : Prop := ∀ i, i < S.length → Word (el I1 S i)
def CpuOk (c : Int × List Int) : Prop := (0 ≤ c.1 ∧ c.1 ≤ 60) ∧ c.2.length ≤ 8 ∧ WordsOk c.2
def InsOk (x : Int × Int) : Prop := (0 ≤ x.1 ∧ x.1 ≤ 255) ∧ (0 ≤ x.2 ∧ x.2 ≤ 255)
def CodeOk (L : List (Int × Int)) : Prop := (∀ i, i < L.length → InsOk (el C2 L i)) ∧ L.length ≤ 60
theorem all_next {p : Nat → Prop} {j : Nat} (h : ∀ i, i < j → p i) (hj : p j) : ∀ i, i < j + 1 → p i := fun i hi => by
  rcases Nat.lt_or_ge i j with h' | h'
  · exact h i h'
  · obtain rfl : i = j := by omega
    exact hj
theorem mod_i {k : Nat} (z : Int) : impl_modulo.f k z 65536 = some (z % 65536) := by
  unfold impl_modulo.f
  rw [if_pos (by omega), if_pos (by omega)]
  have h1 : -65536 < Int.tmod z 65536 ∧ Int.tmod z 65536 < 65536 := by
    rw [Int.tmod_eq_emod]
    split <;> omega
  rw [w64_id (by omega) (by omega), Int.tmod_eq_emod_of_nonneg (by omega)]
  congr 1
  rw [Int.tmod_eq_emod]
  split <;> omega
theorem ints_i {k : Nat} {xs : List Int} (h : xs.length ≤ 1048576) : impl_copyInts.f k xs = some xs := by
  unfold impl_copyInts.f
  simp only [Option.bind_some, List.length_nil, List.nil_append]
  rw [if_pos (by omega)]
theorem arena_i {k : Nat} {xs : List Int} (h : xs.length ≤ 1048576) : impl_copyArena.f k xs = some xs := by
  unfold impl_copyArena.f
  rw [ints_i h]
  rfl
theorem cpu_i {k : Nat} {c : Int × List Int} (h : c.2.length ≤ 1048576) : impl_copyCpu.f k c = some c := by
  unfold impl_copyCpu.f
  rw [ints_i h]
  rfl
theorem words_i {k : Nat} {S : List Int} (hl : S.length ≤ 1048576) (hk : 1048576 < k) : impl_wordsOk.f k S = some (B (WordsOk S)) := by
  refine ok_eq ?_
  unfold impl_wordsOk.f
  refine ok_loop (L := impl_wordsOk.l1 k) (I := fun d s => ∃ j : Nat, s = ((S.length : Int), (j : Int), S, ()) ∧ j + d = S.length ∧ ∀ i, i < j → Word (el I1 S i)) ?_ k S.length _ (by omega) ⟨0, rfl, by omega, fun i hi => absurd hi (by omega)⟩
  rintro d n s ⟨j, rfl, hd, hq⟩ ih
  rw [impl_wordsOk.l1]
  have hw : ∀ x, impl_isWord.f k x = some (decide (0 ≤ x ∧ x ≤ 65535)) := fun x => by
    unfold impl_isWord.f
    rw [in_i]
    rfl
  have h4 : w64 ((j : Int) + 1) = ((j + 1 : Nat) : Int) := by
    rcases Nat.lt_or_ge j S.length with h | h
    · exact w64_id (by omega) (by omega)
    · exact w64_id (by omega) (by omega)
  refine ok_if (fun hc => ?_) (fun hc => ok_some (B_yes fun i hi => hq i (by omega)).symm)
  rw [if_pos (by omega), if_pos hc, hw, h4]
  simp only [Int.toNat_natCast, Option.bind_some, decide_eq_true_eq]
  refine ok_if (fun h => ok_some (B_no fun hr => h (hr j (by omega))).symm) (fun h => ?_)
  exact ih (d - 1) _ (by omega) ⟨j + 1, rfl, by omega, all_next hq (Classical.not_not.1 h)⟩
theorem cpuOk_i {k : Nat} {c : Int × List Int} (hk : 1048576 < k) : impl_CpuOk.f k c = some (B (CpuOk c)) := by
  refine ok_eq ?_
  unfold impl_CpuOk.f
  rw [in_i]
  refine ok_let (ok_if (fun h1 => ?_) (fun h1 => ok_some (B_no fun h => h1 (decide_eq_true h.1)).symm))
  refine ok_if (fun h2 => ?_) (fun h2 => ok_some (B_no fun h => h2 (by have := h.2.1; omega)).symm)
  rw [words_i (by omega) hk]
  refine ok_let (ok_some (B_of ?_))
  exact B_iff.trans ⟨fun h => ⟨of_decide_eq_true h1, by omega, h⟩, fun h => h.2.2⟩
theorem codeOk_i {k : Nat} {L : List (Int × Int)} (hl : L.length ≤ 1048576) (hk : 1048576 < k) : impl_CodeOk.f k L = some (B (CodeOk L)) := by
  refine ok_eq ?_
  unfold impl_CodeOk.f
  refine ok_loop (L := impl_CodeOk.l1 k) (I := fun d s => ∃ j : Nat, s = ((L.length : Int), (j : Int), L, ()) ∧ j + d = L.length ∧ ∀ i, i < j → InsOk (el C2 L i)) ?_ k L.length _ (by omega) ⟨0, rfl, by omega, fun i hi => absurd hi (by omega)⟩
  rintro d n s ⟨j, rfl, hd, hq⟩ ih
  rw [impl_CodeOk.l1]
  have h4 : w64 ((j : Int) + 1) = ((j + 1 : Nat) : Int) := w64_id (by omega) (by omega)
  refine ok_if (fun hc => ?_) (fun hc => ok_some (B_of (decide_eq_true_iff.trans ⟨fun h => ⟨fun i hi => hq i (by omega), by omega⟩, fun h => by have := h.2; omega⟩)))
  rw [if_pos (by omega), if_pos hc]
  simp only [in_i, h4, Int.toNat_natCast, Option.bind_some, decide_eq_true_eq]
  have bad : ¬ InsOk (el C2 L j) → Ok (some false) (fun r => r = B (CodeOk L)) := fun h => ok_some (B_no (fun hr => h (hr.1 j (by omega)))).symm
  refine ok_if (fun h => bad (fun g => h g.1)) (fun h1 => ok_if (fun h => bad (fun g => h g.2)) (fun h2 => ?_))
  exact ih (d - 1) _ (by omega) ⟨j + 1, rfl, by omega, all_next hq ⟨Classical.not_not.1 h1, Classical.not_not.1 h2⟩⟩
theorem codeOk_s {k : Nat} {L : List (Int × Int)} (hl : L.length ≤ 1048576) (hk : 1048576 < k) : spec_CodeOk.f k L = some (B (CodeOk L)) := by
  refine ok_eq ?_
  unfold spec_CodeOk.f
  refine ok_loop (L := spec_CodeOk.l1 k) (I := fun d s => ∃ j : Nat, s = ((j : Int), L, ()) ∧ j + d = L.length ∧ ∀ i, i < j → InsOk (el C2 L i)) ?_ k L.length _ (by omega) ⟨0, rfl, by omega, fun i hi => absurd hi (by omega)⟩
  rintro d n s ⟨j, rfl, hd, hq⟩ ih
  rw [spec_CodeOk.l1]
  have h4 : w64 ((j : Int) + 1) = ((j + 1 : Nat) : Int) := w64_id (by omega) (by omega)
  refine ok_if (fun hc => ?_) (fun hc => ok_some (B_of (decide_eq_true_iff.trans ⟨fun h => ⟨fun i hi => hq i (by omega), by omega⟩, fun h => by have := h.2; omega⟩)))
  have c0 : (0 : Int) ≤ (j : Int) := by omega
  simp only [c0, hc, ↓reduceIte, in_s, h4, Int.toNat_natCast, Option.bind_some, decide_eq_true_eq]
  have bad : ¬ InsOk (el C2 L j) → Ok (some false) (fun r => r = B (CodeOk L)) := fun h => ok_some (B_no (fun hr => h (hr.1 j (by omega)))).symm
  refine ok_if (fun h => bad (fun g => h g.1)) (fun h1 => ok_if (fun h => bad (fun g => h g.2)) (fun h2 => ?_))
  exact ih (d - 1) _ (by omega) ⟨j + 1, rfl, by omega, all_next hq ⟨Classical.not_not.1 h1, Classical.not_not.1 h2⟩⟩
/-- The place of a cell; -1 where there is none. -/
def cellAt (a : List Int) (r : Int × Int) (p : Int) : Int := if 0 ≤ r.1 ∧ 0 ≤ p ∧ p < r.2 ∧ p < (a.length : Int) - r.1 then r.1 + p else -1
theorem cellAt_lt {a : List Int} {r : Int × Int} {p : Int} (h : ¬ cellAt a r p < 0) : 0 ≤ cellAt a r p ∧ cellAt a r p < (a.length : Int) := by
  unfold cellAt at h ⊢
  split at h
  · rename_i hc
    rw [if_pos hc]
    omega
  · omega
theorem cellAt_i {k : Nat} {a : List Int} {r : Int × Int} {p : Int} (ha : a.length ≤ 1048576) (hr : r.1 < 9223372036854775808) : impl_cellAt.f k a r p = some (cellAt a r p) := by
  unfold impl_cellAt.f cellAt
  by_cases h1 : r.1 < 0
  · rw [if_pos h1, if_neg (by omega)]
  · rw [if_neg h1]
    by_cases h2 : p < 0
    · rw [if_pos h2, if_neg (by omega)]
    · rw [if_neg h2]
      by_cases h3 : r.2 ≤ p
      · rw [if_pos h3, if_neg (by omega)]
      · rw [if_neg h3]
        rw [w64_id (z := (a.length : Int) - r.1) (by omega) (by omega)]
        by_cases h4 : (a.length : Int) - r.1 ≤ p
        · rw [if_pos h4, if_neg (by omega)]
        · rw [if_neg h4, if_pos (by omega), w64_id (by omega) (by omega)]
end Go.Proofs.Ytcnaldcinkmpbaa.Pure
