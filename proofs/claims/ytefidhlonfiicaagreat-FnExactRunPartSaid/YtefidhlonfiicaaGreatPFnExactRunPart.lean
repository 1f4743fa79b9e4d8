/- The plain words and the plain law of FnExactRunPart. No condition. -/
import Derived.Test.YtefidhlonfiicaaGreatUWords
import Derived.Test.YtefidhlonfiicaaGreatBQA
import Derived.Test.YtefidhlonfiicaaGreatQFnExactRunPart
/- Numbers within bounds, as both programs ask it. No condition. -/
namespace Go.Proofs.YtefidhlonfiicaaGreat.Pure
open Go Go.Proofs.YtefidhlonfiicaaGreatA Go.Proofs.YtefidhlonfiicaaGreatU Go.Proofs.YtefidhlonfiicaaGreat.QA
set_option linter.unusedVariables false
theorem in_s {k : Nat} (x lo hi : Int) : spec_l01In.f k x lo hi = some (decide (lo ≤ x ∧ x ≤ hi)) := by
 unfold spec_l01In.f
 by_cases h : lo ≤ x <;> simp [h]
theorem in_i {k : Nat} (x lo hi : Int) : impl_within.f k x lo hi = some (decide (lo ≤ x ∧ x ≤ hi)) := by
 unfold impl_within.f
 by_cases h : lo ≤ x <;> simp [h]
end Go.Proofs.YtefidhlonfiicaaGreat.Pure
/- Machines: when they and code are right, places of cells, remainders, copies. No condition. -/
namespace Go.Proofs.YtefidhlonfiicaaGreat.Pure
open Go Go.Proofs.YtefidhlonfiicaaGreatA Go.Proofs.YtefidhlonfiicaaGreatU Go.Proofs.YtefidhlonfiicaaGreat.QA
set_option linter.unusedVariables false
abbrev I1 : Ty := .int .i64
abbrev C2 : Ty := .pair (.int .i64) (.int .i64)
def Word (z : Int) : Prop := 0 ≤ z ∧ z ≤ 65535
def WordsOk (S : List Int) : Prop := ∀ i, i < S.length → Word (el I1 S i)
def CpuOk (c : Int × List Int) : Prop := (0 ≤ c.1 ∧ c.1 ≤ 60) ∧ c.2.length ≤ 8 ∧ WordsOk c.2
def InsOk (x : Int × Int) : Prop := (0 ≤ x.1 ∧ x.1 ≤ 255) ∧ (0 ≤ x.2 ∧ x.2 ≤ 255)
def CodeOk (L : List (Int × Int)) : Prop := (∀ i, i < L.length → InsOk (el C2 L i)) ∧ L.length ≤ 60
theorem all_next {p : Nat → Prop} {j : Nat} (h : ∀ i, i < j → p i) (hj : p j) : ∀ i, i < j + 1 → p i := fun i hi => by
 rcases Nat.lt_or_ge i j with h' | h'
 ·exact h i h'
 ·obtain rfl : i = j := by omega
  exact hj
theorem mod_s {k : Nat} (z : Int) : spec_l04Mod.f k z = some (z % 65536) := by
 unfold spec_l04Mod.f
 by_cases h : 0 ≤ z
 ·rw [Int.tmod_eq_emod_of_nonneg h, if_neg (by omega)]
 ·have e : Int.tmod z 65536 = if z % 65536 = 0 then 0 else z % 65536 - 65536 := by
   rw [Int.tmod_eq_emod]
   split <;> split <;> omega
  rw [e]
  by_cases h2 : z % 65536 = 0
  ·rw [if_pos h2, if_neg (by omega), h2]
  ·rw [if_neg h2, if_pos (by omega), w64_id (by omega) (by omega)]
   congr 1
   omega
theorem mod_i {k : Nat} (z : Int) : impl_modulo.f k z 65536 = some (z % 65536) := by
 unfold impl_modulo.f
 rw [if_pos (by omega), if_pos (by omega)]
 have h1 : -65536 < Int.tmod z 65536 ∧ Int.tmod z 65536 < 65536 := by
  rw [Int.tmod_eq_emod]
  split <;> omega
 rw [w64_id (by omega) (by omega), Int.tmod_eq_emod_of_nonneg (by omega)]
 congr 1
 rw [Int.tmod_eq_emod]
 split <;> omega
theorem ints_i {k : Nat} {xs : List Int} (h : xs.length ≤ 1048576) : impl_copyInts.f k xs = some xs := by
 unfold impl_copyInts.f
 simp only [Option.bind_some, List.length_nil, List.nil_append]
 rw [if_pos (by omega)]
theorem arena_i {k : Nat} {xs : List Int} (h : xs.length ≤ 1048576) : impl_copyArena.f k xs = some xs := by
 unfold impl_copyArena.f
 rw [ints_i h]
 rfl
theorem cpu_i {k : Nat} {c : Int × List Int} (h : c.2.length ≤ 1048576) : impl_copyCpu.f k c = some c := by
 unfold impl_copyCpu.f
 rw [ints_i h]
 rfl
theorem arena_s {k : Nat} {xs : List Int} (h : xs.length ≤ 1048576) : spec_l04Copy.f k xs = some xs := by
 unfold spec_l04Copy.f
 simp only [Option.bind_some, List.length_nil, List.nil_append]
 rw [if_pos (by omega)]
theorem cpu_s {k : Nat} {c : Int × List Int} (h : c.2.length ≤ 1048576) : spec_l06Copy.f k c = some c := by
 unfold spec_l06Copy.f
 simp only [Option.bind_some, List.length_nil, List.nil_append]
 rw [if_pos (by omega)]
theorem words_i {k : Nat} {S : List Int} (hl : S.length ≤ 1048576) (hk : 1048576 < k) : impl_wordsOk.f k S = some (B (WordsOk S)) := by
 refine ok_eq ?_
 unfold impl_wordsOk.f
 refine ok_loop (L := impl_wordsOk.l1 k) (I := fun d s => ∃ j : Nat, s = ((S.length : Int), (j : Int), S, ()) ∧ j + d = S.length ∧ ∀ i, i < j → Word (el I1 S i)) ?_ k S.length _ (by omega) ⟨0, rfl, by omega, fun i hi => absurd hi (by omega)⟩
 rintro d n s ⟨j, rfl, hd, hq⟩ ih
 rw [impl_wordsOk.l1]
 have hw : ∀ x, impl_isWord.f k x = some (decide (0 ≤ x ∧ x ≤ 65535)) := fun x => by
  unfold impl_isWord.f
  rw [in_i]
  rfl
 have h4 : w64 ((j : Int) + 1) = ((j + 1 : Nat) : Int) := by
  rcases Nat.lt_or_ge j S.length with h | h
  ·exact w64_id (by omega) (by omega)
  ·exact w64_id (by omega) (by omega)
 refine ok_if (fun hc => ?_) (fun hc => ok_some (B_yes fun i hi => hq i (by omega)).symm)
 rw [if_pos (by omega), if_pos hc, hw, h4]
 simp only [Int.toNat_natCast, Option.bind_some, decide_eq_true_eq]
 refine ok_if (fun h => ok_some (B_no fun hr => h (hr j (by omega))).symm) (fun h => ?_)
 exact ih (d - 1) _ (by omega) ⟨j + 1, rfl, by omega, all_next hq (Classical.not_not.1 h)⟩
theorem cpuOk_i {k : Nat} {c : Int × List Int} (hk : 1048576 < k) : impl_CpuOk.f k c = some (B (CpuOk c)) := by
 refine ok_eq ?_
 unfold impl_CpuOk.f
 rw [in_i]
 refine ok_let (ok_if (fun h1 => ?_) (fun h1 => ok_some (B_no fun h => h1 (decide_eq_true h.1)).symm))
 refine ok_if (fun h2 => ?_) (fun h2 => ok_some (B_no fun h => h2 (by have := h.2.1; omega)).symm)
 rw [words_i (by omega) hk]
 refine ok_let (ok_some (B_of ?_))
 exact B_iff.trans ⟨fun h => ⟨of_decide_eq_true h1, by omega, h⟩, fun h => h.2.2⟩
theorem cpuOk_s {k : Nat} {c : Int × List Int} (hl : c.2.length ≤ 1048576) (hk : 1048576 < k) : spec_CpuOk.f k c = some (B (CpuOk c)) := by
 obtain ⟨pc, S⟩ := c
 simp only at hl
 refine ok_eq ?_
 unfold spec_CpuOk.f
 refine ok_loop (L := spec_CpuOk.l1 k) (I := fun d s => ∃ j : Nat, s = ((j : Int), pc, S, ()) ∧ j + d = S.length ∧ ∀ i, i < j → Word (el I1 S i)) ?_ k S.length _ (by omega) ⟨0, rfl, by omega, fun i hi => absurd hi (by omega)⟩
 rintro d n s ⟨j, rfl, hd, hq⟩ ih
 rw [spec_CpuOk.l1]
 have h4 : w64 ((j : Int) + 1) = ((j + 1 : Nat) : Int) := w64_id (by omega) (by omega)
 refine ok_if (fun hc => ?_) (fun hc => ?_)
 ·rw [if_pos (by omega), if_pos hc, in_s, h4]
  simp only [Int.toNat_natCast, Option.bind_some, decide_eq_true_eq]
  refine ok_if (fun h => ok_some (B_no fun hr => h (hr.2.2 j (by dsimp only; omega))).symm) (fun h => ?_)
  exact ih (d - 1) _ (by omega) ⟨j + 1, rfl, by omega, all_next hq (Classical.not_not.1 h)⟩
 ·rw [in_s]
  simp only [Option.bind_some, decide_eq_true_eq]
  refine ok_if (fun h1 => ok_some (B_of (decide_eq_true_iff.trans ⟨fun h => ⟨h1, by dsimp only; omega, fun i hi => hq i (by dsimp only at hi; omega)⟩, fun h => ?_⟩))) (fun h1 => ok_some (B_no fun h => h1 h.1).symm)
  have := h.2.1
  dsimp only at this
  omega
theorem codeOk_i {k : Nat} {L : List (Int × Int)} (hl : L.length ≤ 1048576) (hk : 1048576 < k) : impl_CodeOk.f k L = some (B (CodeOk L)) := by
 refine ok_eq ?_
 unfold impl_CodeOk.f
 refine ok_loop (L := impl_CodeOk.l1 k) (I := fun d s => ∃ j : Nat, s = ((L.length : Int), (j : Int), L, ()) ∧ j + d = L.length ∧ ∀ i, i < j → InsOk (el C2 L i)) ?_ k L.length _ (by omega) ⟨0, rfl, by omega, fun i hi => absurd hi (by omega)⟩
 rintro d n s ⟨j, rfl, hd, hq⟩ ih
 rw [impl_CodeOk.l1]
 have h4 : w64 ((j : Int) + 1) = ((j + 1 : Nat) : Int) := w64_id (by omega) (by omega)
 refine ok_if (fun hc => ?_) (fun hc => ok_some (B_of (decide_eq_true_iff.trans ⟨fun h => ⟨fun i hi => hq i (by omega), by omega⟩, fun h => by have := h.2; omega⟩)))
 rw [if_pos (by omega), if_pos hc]
 simp only [in_i, h4, Int.toNat_natCast, Option.bind_some, decide_eq_true_eq]
 have bad : ¬ InsOk (el C2 L j) → Ok (some false) (fun r => r = B (CodeOk L)) := fun h => ok_some (B_no (fun hr => h (hr.1 j (by omega)))).symm
 refine ok_if (fun h => bad (fun g => h g.1)) (fun h1 => ok_if (fun h => bad (fun g => h g.2)) (fun h2 => ?_))
 exact ih (d - 1) _ (by omega) ⟨j + 1, rfl, by omega, all_next hq ⟨Classical.not_not.1 h1, Classical.not_not.1 h2⟩⟩
theorem codeOk_s {k : Nat} {L : List (Int × Int)} (hl : L.length ≤ 1048576) (hk : 1048576 < k) : spec_CodeOk.f k L = some (B (CodeOk L)) := by
 refine ok_eq ?_
 unfold spec_CodeOk.f
 refine ok_loop (L := spec_CodeOk.l1 k) (I := fun d s => ∃ j : Nat, s = ((j : Int), L, ()) ∧ j + d = L.length ∧ ∀ i, i < j → InsOk (el C2 L i)) ?_ k L.length _ (by omega) ⟨0, rfl, by omega, fun i hi => absurd hi (by omega)⟩
 rintro d n s ⟨j, rfl, hd, hq⟩ ih
 rw [spec_CodeOk.l1]
 have h4 : w64 ((j : Int) + 1) = ((j + 1 : Nat) : Int) := w64_id (by omega) (by omega)
 refine ok_if (fun hc => ?_) (fun hc => ok_some (B_of (decide_eq_true_iff.trans ⟨fun h => ⟨fun i hi => hq i (by omega), by omega⟩, fun h => by have := h.2; omega⟩)))
 have c0 : (0 : Int) ≤ (j : Int) := by omega
 simp only [c0, hc, ↓reduceIte, in_s, h4, Int.toNat_natCast, Option.bind_some, decide_eq_true_eq]
 have bad : ¬ InsOk (el C2 L j) → Ok (some false) (fun r => r = B (CodeOk L)) := fun h => ok_some (B_no (fun hr => h (hr.1 j (by omega)))).symm
 refine ok_if (fun h => bad (fun g => h g.1)) (fun h1 => ok_if (fun h => bad (fun g => h g.2)) (fun h2 => ?_))
 exact ih (d - 1) _ (by omega) ⟨j + 1, rfl, by omega, all_next hq ⟨Classical.not_not.1 h1, Classical.not_not.1 h2⟩⟩
/-- The place of a cell; -1 where there is none. -/
def cellAt (a : List Int) (r : Int × Int) (p : Int) : Int := if 0 ≤ r.1 ∧ 0 ≤ p ∧ p < r.2 ∧ p < (a.length : Int) - r.1 then r.1 + p else -1
theorem cellAt_lt {a : List Int} {r : Int × Int} {p : Int} (h : ¬ cellAt a r p < 0) : 0 ≤ cellAt a r p ∧ cellAt a r p < (a.length : Int) := by
 unfold cellAt at h ⊢
 split at h
 ·rename_i hc
  rw [if_pos hc]
  omega
 ·omega
theorem cellAt_i {k : Nat} {a : List Int} {r : Int × Int} {p : Int} (ha : a.length ≤ 1048576) (hr : r.1 < 9223372036854775808) : impl_cellAt.f k a r p = some (cellAt a r p) := by
 unfold impl_cellAt.f cellAt
 by_cases h1 : r.1 < 0
 ·rw [if_pos h1, if_neg (by omega)]
 ·rw [if_neg h1]
  by_cases h2 : p < 0
  ·rw [if_pos h2, if_neg (by omega)]
  ·rw [if_neg h2]
   by_cases h3 : r.2 ≤ p
   ·rw [if_pos h3, if_neg (by omega)]
   ·rw [if_neg h3]
    rw [w64_id (z := (a.length : Int) - r.1) (by omega) (by omega)]
    by_cases h4 : (a.length : Int) - r.1 ≤ p
    ·rw [if_pos h4, if_neg (by omega)]
    ·rw [if_neg h4, if_pos (by omega), w64_id (by omega) (by omega)]
theorem cellAt_s {k : Nat} {a : List Int} {r : Int × Int} {p : Int} (ha : a.length ≤ 1048576) : spec_l04At.f k a r p = some (cellAt a r p) := by
 unfold spec_l04At.f cellAt
 by_cases h2 : p < 0
 ·rw [if_pos h2, if_neg (by omega)]
 ·rw [if_neg h2]
  by_cases h3 : r.2 ≤ p
  ·rw [if_pos h3, if_neg (by omega)]
  ·rw [if_neg h3, w64_id (z := (a.length : Int) - 1) (by omega) (by omega), in_s]
   simp only [Option.bind_some, decide_eq_true_eq]
   by_cases h1 : 0 ≤ r.1 ∧ r.1 ≤ (a.length : Int) - 1
   ·rw [if_neg (fun h => h h1), w64_id (z := (a.length : Int) - r.1) (by omega) (by omega)]
    by_cases h4 : (a.length : Int) - r.1 ≤ p
    ·rw [if_pos h4, if_neg (by omega)]
    ·rw [if_neg h4, if_pos (by omega), w64_id (by omega) (by omega)]
   ·rw [if_pos h1, if_neg (by omega)]
end Go.Proofs.YtefidhlonfiicaaGreat.Pure
/- One step of a machine. No condition. -/
namespace Go.Proofs.YtefidhlonfiicaaGreat.Pure
open Go Go.Proofs.YtefidhlonfiicaaGreatA Go.Proofs.YtefidhlonfiicaaGreatU Go.Proofs.YtefidhlonfiicaaGreat.QA
set_option linter.unusedVariables false
set_option linter.unusedSimpArgs false
abbrev Step := (Int × List Int) × List Int × Int × Int × Int × Int
def takesM (op : Int) : Int := if op = 2 ∨ op = 10 ∨ op = 11 ∨ op = 12 ∨ op = 13 ∨ op = 16 then 1 else if 3 ≤ op ∧ op ≤ 8 then 2 else 0
def putsM (op : Int) : Int := if op = 11 then 2 else if op = 1 ∨ op = 2 ∨ (4 ≤ op ∧ op ≤ 8) ∨ op = 17 then 1 else 0
def top (S : List Int) : Int := el I1 S (S.length - 1)
def sec (S : List Int) : Int := el I1 S (S.length - 2)
def low (S : List Int) (t : Nat) : List Int := S.take (S.length - t)
def trapX (x : Int × Int) (S a : List Int) (r : Int × Int) : Int :=
 if 17 < x.1 then 1 else
 if (S.length : Int) < takesM x.1 then 5 else
 if x.1 = 2 ∧ cellAt a r (top S + x.2) < 0 then 2 else
 if x.1 = 3 ∧ cellAt a r (sec S + x.2) < 0 then 2 else
 if x.1 = 7 ∧ top S = 0 then 3 else
 if 8 < (S.length : Int) - takesM x.1 + putsM x.1 then 4 else 0
noncomputable def trapM (c : Int × List Int) (code : List (Int × Int)) (a : List Int) (r : Int × Int) : Int :=
 if B (CpuOk c ∧ CodeOk code ∧ c.1 < (code.length : Int)) = true then trapX (el C2 code c.1.toNat) c.2 a r else 6
def reckon (op a b : Int) : Int := if op = 4 then (a + b) % 65536 else if op = 5 then (a - b) % 65536 else if op = 6 then (a * b) % 65536 else if op = 7 then a / b else if a < b then 1 else 0
def doX (pc : Int) (x : Int × Int) (S a : List Int) (r : Int × Int) (time : Int) : Step :=
 if x.1 = 1 then ((pc + 1, S ++ [x.2]), a, 0, 0, 0, 0) else
 if x.1 = 2 then ((pc + 1, low S 1 ++ [el I1 a (cellAt a r (top S + x.2)).toNat % 65536]), a, 0, 0, 0, 0) else
 if x.1 = 3 then ((pc + 1, low S 2), a.set (cellAt a r (sec S + x.2)).toNat (top S), 0, 0, 0, 0) else
 if 4 ≤ x.1 ∧ x.1 ≤ 8 then ((pc + 1, low S 2 ++ [reckon x.1 (sec S) (top S)]), a, 0, 0, 0, 0) else
 if x.1 = 9 then ((min x.2 60, S), a, 0, 0, 0, 0) else
 if x.1 = 10 then ((if top S = 0 then min x.2 60 else pc + 1, low S 1), a, 0, 0, 0, 0) else
 if x.1 = 11 then ((pc + 1, low S 1 ++ [top S, top S]), a, 0, 0, 0, 0) else
 if x.1 = 12 then ((pc + 1, low S 1), a, 0, 0, 0, 0) else
 if x.1 = 13 ∨ x.1 = 16 then ((pc + 1, low S 1), a, x.1, x.2, top S, 0) else
 if x.1 = 14 ∨ x.1 = 15 then ((pc + 1, S), a, x.1, x.2, 0, 0) else
 if x.1 = 17 then ((pc + 1, S ++ [time % 65536]), a, 0, 0, 0, 0) else
 ((pc + 1, S), a, 0, 0, 0, 0)
noncomputable def stepM (c : Int × List Int) (code : List (Int × Int)) (a : List Int) (r : Int × Int) (time : Int) : Step :=
 if trapM c code a r = 0 then doX c.1 (el C2 code c.1.toNat) c.2 a r time else (c, a, 0, 0, 0, trapM c code a r)
/-! ### the last ones of a stack -/
theorem snoc1 {S : List Int} (h : 1 ≤ S.length) : ∃ T u, S = T ++ [u] := ⟨S.dropLast, S.getLast (by intro e; rw [e] at h; simp at h), (List.dropLast_concat_getLast _).symm⟩
theorem snoc2 {S : List Int} (h : 2 ≤ S.length) : ∃ T u v, S = T ++ [u, v] := by
 obtain ⟨T, v, rfl⟩ := snoc1 (S := S) (by omega)
 obtain ⟨T, u, rfl⟩ := snoc1 (S := T) (by simp at h; omega)
 exact ⟨T, u, v, by simp⟩
theorem op_cases {op : Int} (h0 : 0 ≤ op) (h1 : ¬ 17 < op) : op = 0 ∨ op = 1 ∨ op = 2 ∨ op = 3 ∨ op = 4 ∨ op = 5 ∨ op = 6 ∨ op = 7 ∨ op = 8 ∨ op = 9 ∨ op = 10 ∨ op = 11 ∨ op = 12 ∨ op = 13 ∨ op = 14 ∨ op = 15 ∨ op = 16 ∨ op = 17 := by omega
theorem takes_in (op : Int) : 0 ≤ takesM op ∧ takesM op ≤ 2 := by
 unfold takesM
 repeat' split
 all_goals omega
theorem puts_in (op : Int) : 0 ≤ putsM op ∧ putsM op ≤ 2 := by
 unfold putsM
 repeat' split
 all_goals omega
theorem takes_i {k : Nat} {op : Int} : impl_takes.f k op = some (takesM op) := by
 have hj : ∀ b, impl_takes.j1 k (op, b, ()) = some (if b = true then 1 else if 3 ≤ op ∧ op ≤ 8 then 2 else 0) := fun b => by
  unfold impl_takes.j1
  cases b with
  | true => simp
  | false =>
   simp only [Bool.false_eq_true, ↓reduceIte]
   repeat' split
   all_goals first | rfl | (exfalso; omega)
 unfold impl_takes.f takesM
 simp only [hj, decide_eq_true_eq, ↓reduceIte]
 repeat' split
 all_goals first | rfl | (exfalso; omega)
theorem puts_i {k : Nat} {op : Int} : impl_puts.f k op = some (putsM op) := by
 unfold impl_puts.f putsM
 repeat' split
 all_goals first | rfl | (exfalso; omega)
theorem hasOp_i {k : Nat} {op : Int} : impl_hasOp.f k op = some (decide (0 ≤ op ∧ op ≤ 17)) := by
 unfold impl_hasOp.f
 rw [in_i]
 rfl
theorem trap_i {k : Nat} {c : Int × List Int} {code : List (Int × Int)} {a : List Int} {r : Int × Int} (hk : 1048576 < k) (hc : code.length ≤ 1048576) (ha : a.length ≤ 1048576) (hr : r.1 < 9223372036854775808) :
  impl_trapOf.f k c code a r = some (trapM c code a r) := by
 obtain ⟨pc, S⟩ := c
 unfold impl_trapOf.f
 rw [cpuOk_i hk, codeOk_i hc hk]
 simp only [Option.bind_some]
 by_cases h1 : CpuOk (pc, S)
 ·by_cases h2 : CodeOk code
  ·by_cases h3 : pc < (code.length : Int)
   ·have h0 : 0 ≤ pc := h1.1.1
    have e : trapM (pc, S) code a r = trapX (el C2 code pc.toNat) S a r := by
     unfold trapM
     rw [B_yes ⟨h1, h2, h3⟩, if_pos rfl]
    have hx := h2.1 pc.toNat (by omega)
    have hS : S.length ≤ 8 := h1.2.1
    have hWt : 1 ≤ S.length → Word (top S) := fun h => h1.2.2 (S.length - 1) (by dsimp only; omega)
    have hWs : 2 ≤ S.length → Word (sec S) := fun h => h1.2.2 (S.length - 2) (by dsimp only; omega)
    have f1 : 1 ≤ S.length → w64 ((S.length : Int) - 1) = ((S.length - 1 : Nat) : Int) := fun h => by rw [w64_id (by omega) (by omega)]; omega
    have f2 : 2 ≤ S.length → w64 ((S.length : Int) - 2) = ((S.length - 2 : Nat) : Int) := fun h => by rw [w64_id (by omega) (by omega)]; omega
    rw [e, B_yes h1, B_yes h2, if_neg (fun h => h rfl), if_neg (fun h => h rfl), if_neg (by omega), if_pos h0, if_pos h3]
    clear e
    obtain ⟨op, g, hxe⟩ : ∃ op g : Int, el C2 code pc.toNat = (op, g) := ⟨_, _, rfl⟩
    rw [hxe] at hx
    simp only [show el (.pair (.int .i64) (.int .i64)) code pc.toNat = (op, g) from hxe]
    simp only [hasOp_i, takes_i, puts_i, Option.bind_some, decide_eq_true_eq] at hx ⊢
    have hx1 := hx.1
    have hx2 := hx.2
    simp only at hx1 hx2
    unfold trapX
    simp only
    by_cases h4 : 17 < op
    ·rw [if_pos (by omega), if_pos h4]
    ·rw [if_neg (by omega), if_neg h4]
     have ht := takes_in op
     have hp := puts_in op
     have e1 : w64 ((S.length : Int) - takesM op) = (S.length : Int) - takesM op := w64_id (by omega) (by omega)
     have e2 : w64 ((S.length : Int) - takesM op + putsM op) = (S.length : Int) - takesM op + putsM op := w64_id (by omega) (by omega)
     rw [e1, e2]
     by_cases h5 : (S.length : Int) < takesM op
     ·rw [if_pos h5, if_pos h5]
     ·rw [if_neg h5, if_neg h5]
      have e3 : (if 8 < (S.length : Int) - takesM op + putsM op then some 4 else some 0) = some (if 8 < (S.length : Int) - takesM op + putsM op then (4 : Int) else 0) := by split <;> rfl
      rw [e3]
      generalize (if 8 < (S.length : Int) - takesM op + putsM op then (4 : Int) else 0) = q
      by_cases o2 : op = 2
      ·subst o2
       have hl : 1 ≤ S.length := by simp [takesM] at h5; omega
       have hW := hWt hl
       have e4 : w64 (top S + g) = top S + g := w64_id (by unfold Word at hW; omega) (by unfold Word at hW; omega)
       rw [if_pos rfl, f1 hl, if_pos (by omega), if_pos (by omega)]
       simp only [Int.toNat_natCast]
       simp only [show el (.int .i64) S (S.length - 1) = top S from rfl, e4, cellAt_i ha hr, Option.bind_some, true_and, Int.reduceEq, false_and, ↓reduceIte]
       split <;> rfl
      ·by_cases o3 : op = 3
       ·subst o3
        have hl : 2 ≤ S.length := by simp [takesM] at h5; omega
        have hW := hWs hl
        have e4 : w64 (sec S + g) = sec S + g := w64_id (by unfold Word at hW; omega) (by unfold Word at hW; omega)
        rw [if_neg o2, if_pos rfl, f2 hl, if_pos (by omega), if_pos (by omega)]
        simp only [Int.toNat_natCast]
        simp only [show el (.int .i64) S (S.length - 2) = sec S from rfl, e4, cellAt_i ha hr, Option.bind_some, true_and, Int.reduceEq, false_and, ↓reduceIte]
        split <;> rfl
       ·by_cases o7 : op = 7
        ·subst o7
         have hl : 2 ≤ S.length := by simp [takesM] at h5; omega
         rw [if_neg o2, if_neg o3, if_pos rfl, f1 (by omega), if_pos (by omega), if_pos (by omega)]
         simp only [Int.toNat_natCast]
         simp only [show el (.int .i64) S (S.length - 1) = top S from rfl, true_and, Int.reduceEq, false_and, ↓reduceIte]
         split <;> rfl
        ·simp only [o2, o3, o7, false_and, ↓reduceIte]
   ·have e : trapM (pc, S) code a r = 6 := by
     unfold trapM
     rw [B_no (fun h => h3 h.2.2)]
     rfl
    rw [e, B_yes h1, B_yes h2, if_neg (fun h => h rfl), if_neg (fun h => h rfl), if_pos (by omega)]
  ·have e : trapM (pc, S) code a r = 6 := by
    unfold trapM
    rw [B_no (fun h => h2 h.2.1)]
    rfl
   rw [e, B_yes h1, B_no h2, if_neg (fun h => h rfl)]
   simp
 ·have e : trapM (pc, S) code a r = 6 := by
   unfold trapM
   rw [B_no (fun h => h1 h.1)]
   rfl
  rw [e, B_no h1]
  simp
end Go.Proofs.YtefidhlonfiicaaGreat.Pure
/- One step of the program's machine. No condition. -/
namespace Go.Proofs.YtefidhlonfiicaaGreat.Pure
open Go Go.Proofs.YtefidhlonfiicaaGreatA Go.Proofs.YtefidhlonfiicaaGreatU Go.Proofs.YtefidhlonfiicaaGreat.QA
set_option linter.unusedVariables false
set_option linter.unusedSimpArgs false
/-- What is known where nothing traps. -/
structure NoTrap (pc op g : Int) (S : List Int) (a : List Int) (r : Int × Int) : Prop where
 pc0 : 0 ≤ pc
 pc1 : pc < 60
 words : WordsOk S
 len : S.length ≤ 8
 op0 : 0 ≤ op
 op1 : ¬ 17 < op
 g0 : 0 ≤ g ∧ g ≤ 255
 tk : takesM op ≤ (S.length : Int)
 ld : op = 2 → ¬ cellAt a r (top S + g) < 0
 st : op = 3 → ¬ cellAt a r (sec S + g) < 0
 dv : op = 7 → ¬ top S = 0
 ov : (S.length : Int) - takesM op + putsM op ≤ 8
theorem trap0 {c : Int × List Int} {code : List (Int × Int)} {a : List Int} {r : Int × Int} (h : trapM c code a r = 0) :
  CpuOk c ∧ CodeOk code ∧ c.1 < (code.length : Int) ∧ NoTrap c.1 (el C2 code c.1.toNat).1 (el C2 code c.1.toNat).2 c.2 a r := by
 unfold trapM at h
 split at h
 ·rename_i hb
  obtain ⟨h1, h2, h3⟩ := B_iff.1 hb
  refine ⟨h1, h2, h3, ?_⟩
  have h60 := h2.2
  have hx := h2.1 c.1.toNat (by have := h1.1; omega)
  obtain ⟨op, g, hxe⟩ : ∃ op g : Int, el C2 code c.1.toNat = (op, g) := ⟨_, _, rfl⟩
  rw [hxe] at h hx ⊢
  unfold trapX at h
  simp only at h ⊢
  split at h
  ·exact absurd h (by omega)
  split at h
  ·exact absurd h (by omega)
  split at h
  ·exact absurd h (by omega)
  split at h
  ·exact absurd h (by omega)
  split at h
  ·exact absurd h (by omega)
  split at h
  ·exact absurd h (by omega)
  rename_i q1 q2 q3 q4 q5 q6
  exact ⟨h1.1.1, by omega, h1.2.2, h1.2.1, hx.1.1, q1, hx.2, by omega, fun o h => q3 ⟨o, h⟩, fun o h => q4 ⟨o, h⟩, fun o h => q5 ⟨o, h⟩, by omega⟩
 ·exact absurd h (by omega)
theorem el_0 {x : Int} {xs : List Int} : el (.int .i64) (@List.cons Int x xs) 0 = x := rfl
theorem el_1 {x y : Int} {xs : List Int} : el (.int .i64) (@List.cons Int x (@List.cons Int y xs)) 1 = y := rfl
theorem drop1 {S : List Int} (h : 1 ≤ S.length) : S.drop (S.length - 1) = [top S] := by
 obtain ⟨T, u, rfl⟩ := snoc1 h
 have e : top (T ++ [u]) = u := el_mid (t := I1) (by simp)
 rw [e]
 simp
theorem drop2 {S : List Int} (h : 2 ≤ S.length) : S.drop (S.length - 2) = [sec S, top S] := by
 obtain ⟨T, u, v, rfl⟩ := snoc2 h
 have e : top (T ++ [u, v]) = v := by
  have e2 : T ++ [u, v] = (T ++ [u]) ++ [v] := by simp
  rw [e2]
  exact el_mid (t := I1) (by simp)
 have e3 : sec (T ++ [u, v]) = u := el_mid (t := I1) (by simp)
 rw [e, e3]
 simp
theorem taken_i {k : Nat} {pc : Int} {S : List Int} {t : Nat} (hS : S.length ≤ 8) (ht : t ≤ S.length) : impl_Cpu_taken.f k (pc, S) (t : Int) = some (S.drop (S.length - t), pc, S.take (S.length - t)) := by
 unfold impl_Cpu_taken.f
 have e : w64 ((S.length : Int) - (t : Int)) = ((S.length - t : Nat) : Int) := by rw [w64_id (by omega) (by omega)]; omega
 have c1 : (0 : Int) ≤ ((S.length - t : Nat) : Int) := by omega
 have c2 : ((S.length - t : Nat) : Int) ≤ (S.length : Int) := by omega
 simp only [e, c1, c2, ↓reduceIte, Int.toNat_natCast]
 rw [ints_i (by rw [List.length_drop]; omega)]
 rfl
theorem put_i {k : Nat} {pc : Int} {S : List Int} {v : Int} (hS : S.length ≤ 1000) : impl_Cpu_put.f k (pc, S) v = some (pc, S ++ [v]) := by
 unfold impl_Cpu_put.f
 simp only [Option.bind_some, List.length_cons, List.length_nil]
 rw [if_pos (by omega)]
theorem mul_in {a b : Int} (ha : Word a) (hb : Word b) : 0 ≤ a * b ∧ a * b ≤ 65535 * 65535 := ⟨Int.mul_nonneg ha.1 hb.1, Int.mul_le_mul ha.2 hb.2 hb.1 (by omega)⟩
theorem computed_i {k : Nat} {op a b : Int} (ha : Word a) (hb : Word b) (h : op = 7 → ¬ b = 0) : impl_computed.f k op a b = some (reckon op a b) := by
 have hm := mul_in ha hb
 have ha' := ha
 have hb' := hb
 unfold Word at ha' hb'
 unfold impl_computed.f reckon
 rw [w64_id (z := a + b) (by omega) (by omega), w64_id (z := a - b) (by omega) (by omega), w64_id (z := a * b) (by omega) (by omega), mod_i, mod_i, mod_i]
 by_cases o4 : op = 4
 ·rw [if_pos o4, if_pos o4]; rfl
 rw [if_neg o4, if_neg o4]
 by_cases o5 : op = 5
 ·rw [if_pos o5, if_pos o5]; rfl
 rw [if_neg o5, if_neg o5]
 by_cases o6 : op = 6
 ·rw [if_pos o6, if_pos o6]; rfl
 rw [if_neg o6, if_neg o6]
 by_cases o7 : op = 7
 ·rw [if_pos o7, if_pos o7, if_pos (h o7)]
  have e : Int.tdiv a b = a / b := Int.tdiv_eq_ediv_of_nonneg ha'.1
  have h1 : 0 ≤ a / b := Int.ediv_nonneg ha'.1 hb'.1
  have h2 : a / b ≤ a := Int.ediv_le_self _ ha'.1
  rw [e, w64_id (by omega) (by omega)]
 rw [if_neg o7, if_neg o7]
 split <;> rfl
theorem low_len (S : List Int) (t : Nat) : (low S t).length ≤ S.length := by
 unfold low
 rw [List.length_take]
 omega
theorem top_w {S : List Int} (h : WordsOk S) (hl : 1 ≤ S.length) : Word (top S) := h (S.length - 1) (by omega)
theorem sec_w {S : List Int} (h : WordsOk S) (hl : 2 ≤ S.length) : Word (sec S) := h (S.length - 2) (by omega)
theorem step_i {k : Nat} {c : Int × List Int} {code : List (Int × Int)} {a : List Int} {r : Int × Int} {time : Int} (hk : 1048576 < k) (hc : code.length ≤ 1048576) (hs : c.2.length ≤ 1048576) (ha : a.length ≤ 1048576) (hr : r.1 < 9223372036854775808) :
  impl_StepCpu.f k c code a r time = some (stepM c code a r time) := by
 unfold impl_StepCpu.f stepM
 rw [cpu_i hs, arena_i ha, trap_i hk hc ha hr]
 simp only [Option.bind_some]
 by_cases h0 : trapM c code a r = 0
 ·obtain ⟨-, -, hp, nt⟩ := trap0 h0
  rw [if_neg (fun h => h h0), if_pos h0, if_pos nt.pc0, if_pos hp, takes_i]
  clear h0 hp
  obtain ⟨pc, S⟩ := c
  simp only at nt hs ⊢
  obtain ⟨op, g, hxe⟩ : ∃ op g : Int, el C2 code pc.toNat = (op, g) := ⟨_, _, rfl⟩
  rw [hxe] at nt ⊢
  simp only [show el (.pair (.int .i64) (.int .i64)) code pc.toNat = (op, g) from hxe] at nt ⊢
  clear hxe
  have hpc : w64 (pc + 1) = pc + 1 := w64_id (by have := nt.pc0; omega) (by have := nt.pc1; omega)
  have hS := nt.len
  have hg := nt.g0
  have t0 : impl_Cpu_taken.f k (pc, S) 0 = some ([], pc, S) := by
   have := taken_i (k := k) (pc := pc) (t := 0) hS (by omega)
   simpa using this
  have t1 : 1 ≤ S.length → impl_Cpu_taken.f k (pc, S) 1 = some ([top S], pc, low S 1) := fun h => by
   have := taken_i (k := k) (pc := pc) (t := 1) hS h
   rw [drop1 h] at this
   exact this
  have t2 : 2 ≤ S.length → impl_Cpu_taken.f k (pc, S) 2 = some ([sec S, top S], pc, low S 2) := fun h => by
   have := taken_i (k := k) (pc := pc) (t := 2) hS h
   rw [drop2 h] at this
   exact this
  have l1 := low_len S 1
  have l2 := low_len S 2
  have p0 : ∀ v, impl_Cpu_put.f k (pc + 1, S) v = some (pc + 1, S ++ [v]) := fun v => put_i (by omega)
  have p1 : ∀ v, impl_Cpu_put.f k (pc + 1, low S 1) v = some (pc + 1, low S 1 ++ [v]) := fun v => put_i (by omega)
  have p2 : ∀ v, impl_Cpu_put.f k (pc + 1, low S 2) v = some (pc + 1, low S 2 ++ [v]) := fun v => put_i (by omega)
  have p3 : ∀ u v, impl_Cpu_put.f k (pc + 1, low S 1 ++ [u]) v = some (pc + 1, low S 1 ++ [u] ++ [v]) := fun u v => put_i (by rw [List.length_append, List.length_cons, List.length_nil]; omega)
  have i1 : (0 : Int) < (([top S] : List Int).length : Int) := by simp
  have i2 : (0 : Int) < (([sec S, top S] : List Int).length : Int) := by simp
  have i3 : (1 : Int) < (([sec S, top S] : List Int).length : Int) := by simp
  have i4 : (0 : Int) ≤ 0 := by omega
  have i5 : (0 : Int) ≤ 1 := by omega
  have i6 : (0 : Nat) ≤ 0 := by omega
  have hw := nt.words
  have htk := nt.tk
  rcases op_cases nt.op0 nt.op1 with h | h | h | h | h | h | h | h | h | h | h | h | h | h | h | h | h | h <;> subst h
  ·simp only [show takesM 0 = 0 from rfl, t0, Option.bind_some, Int.reduceEq, ↓reduceIte, decide_false, decide_true, Bool.false_eq_true, hpc, impl_StepCpu.j1, impl_StepCpu.j2, impl_StepCpu.j3, doX, Int.reduceLE, false_and, and_false, or_self, and_self, or_false, false_or]
  ·simp only [show takesM 1 = 0 from rfl, t0, p0, Option.bind_some, Int.reduceEq, ↓reduceIte, hpc, doX]
  ·have hl : 1 ≤ S.length := by simp [takesM] at htk; omega
   have hu := top_w hw hl
   have hc' := cellAt_lt (nt.ld rfl)
   have e : w64 (top S + g) = top S + g := w64_id (by unfold Word at hu; omega) (by unfold Word at hu; omega)
   simp only [show takesM 2 = 1 from rfl, t1 hl, Option.bind_some, Int.reduceEq, ↓reduceIte, hpc, doX, i1, i4, i6, el_0, e, cellAt_i ha hr, hc'.1, hc'.2, mod_i, p1]
  ·have hl : 2 ≤ S.length := by simp [takesM] at htk; omega
   have hu := sec_w hw hl
   have hc' := cellAt_lt (nt.st rfl)
   have e : w64 (sec S + g) = sec S + g := w64_id (by unfold Word at hu; omega) (by unfold Word at hu; omega)
   simp only [show takesM 3 = 2 from rfl, t2 hl, Option.bind_some, Int.reduceEq, ↓reduceIte, hpc, doX, i2, i3, i4, i5, i6, Nat.zero_le, el_0, el_1, e, cellAt_i ha hr, hc'.1, hc'.2]
  ·have hl : 2 ≤ S.length := by simp [takesM] at htk; omega
   simp only [show takesM 4 = 2 from rfl, t2 hl, Option.bind_some, Int.reduceEq, Int.reduceLE, ↓reduceIte, hpc, impl_StepCpu.j1, doX, i2, i3, i4, i5, i6, Nat.zero_le, el_0, el_1, computed_i (sec_w hw hl) (top_w hw (by omega)) nt.dv, p2, and_self]
  ·have hl : 2 ≤ S.length := by simp [takesM] at htk; omega
   simp only [show takesM 5 = 2 from rfl, t2 hl, Option.bind_some, Int.reduceEq, Int.reduceLE, ↓reduceIte, hpc, impl_StepCpu.j1, doX, i2, i3, i4, i5, i6, Nat.zero_le, el_0, el_1, computed_i (sec_w hw hl) (top_w hw (by omega)) nt.dv, p2, and_self]
  ·have hl : 2 ≤ S.length := by simp [takesM] at htk; omega
   simp only [show takesM 6 = 2 from rfl, t2 hl, Option.bind_some, Int.reduceEq, Int.reduceLE, ↓reduceIte, hpc, impl_StepCpu.j1, doX, i2, i3, i4, i5, i6, Nat.zero_le, el_0, el_1, computed_i (sec_w hw hl) (top_w hw (by omega)) nt.dv, p2, and_self]
  ·have hl : 2 ≤ S.length := by simp [takesM] at htk; omega
   simp only [show takesM 7 = 2 from rfl, t2 hl, Option.bind_some, Int.reduceEq, Int.reduceLE, ↓reduceIte, hpc, impl_StepCpu.j1, doX, i2, i3, i4, i5, i6, Nat.zero_le, el_0, el_1, computed_i (sec_w hw hl) (top_w hw (by omega)) nt.dv, p2, and_self]
  ·have hl : 2 ≤ S.length := by simp [takesM] at htk; omega
   simp only [show takesM 8 = 2 from rfl, t2 hl, Option.bind_some, Int.reduceEq, Int.reduceLE, ↓reduceIte, decide_true, hpc, impl_StepCpu.j1, doX, i2, i3, i4, i5, i6, Nat.zero_le, el_0, el_1, computed_i (sec_w hw hl) (top_w hw (by omega)) nt.dv, p2, and_self]
  ·simp only [show takesM 9 = 0 from rfl, t0, Option.bind_some, Int.reduceEq, Int.reduceLE, ↓reduceIte, decide_false, Bool.false_eq_true, hpc, impl_StepCpu.j1, doX, and_false]
  ·have hl : 1 ≤ S.length := by simp [takesM] at htk; omega
   simp only [show takesM 10 = 1 from rfl, t1 hl, Option.bind_some, Int.reduceEq, Int.reduceLE, ↓reduceIte, decide_false, Bool.false_eq_true, hpc, impl_StepCpu.j1, doX, and_false, i1, i4, i6, el_0]
   split <;> rfl
  ·have hl : 1 ≤ S.length := by simp [takesM] at htk; omega
   simp only [show takesM 11 = 1 from rfl, t1 hl, Option.bind_some, Int.reduceEq, Int.reduceLE, ↓reduceIte, decide_false, Bool.false_eq_true, hpc, impl_StepCpu.j1, doX, and_false, i1, i4, i6, el_0, p1, p3, List.append_assoc, List.singleton_append]
  ·have hl : 1 ≤ S.length := by simp [takesM] at htk; omega
   simp only [show takesM 12 = 1 from rfl, t1 hl, Option.bind_some, Int.reduceEq, Int.reduceLE, ↓reduceIte, decide_false, Bool.false_eq_true, hpc, impl_StepCpu.j1, impl_StepCpu.j2, impl_StepCpu.j3, doX, and_false]
  ·have hl : 1 ≤ S.length := by simp [takesM] at htk; omega
   simp only [show takesM 13 = 1 from rfl, t1 hl, Option.bind_some, Int.reduceEq, Int.reduceLE, ↓reduceIte, decide_false, Bool.false_eq_true, hpc, impl_StepCpu.j1, impl_StepCpu.j2, impl_StepCpu.j3, doX, and_false, i1, i4, i6, el_0, true_or]
  ·simp only [show takesM 14 = 0 from rfl, t0, Option.bind_some, Int.reduceEq, Int.reduceLE, ↓reduceIte, decide_false, Bool.false_eq_true, hpc, impl_StepCpu.j1, impl_StepCpu.j2, impl_StepCpu.j3, doX, and_false, or_self, true_or]
  ·simp only [show takesM 15 = 0 from rfl, t0, Option.bind_some, Int.reduceEq, Int.reduceLE, ↓reduceIte, decide_false, decide_true, Bool.false_eq_true, hpc, impl_StepCpu.j1, impl_StepCpu.j2, impl_StepCpu.j3, doX, and_false, or_self, or_true]
  ·have hl : 1 ≤ S.length := by simp [takesM] at htk; omega
   simp only [show takesM 16 = 1 from rfl, t1 hl, Option.bind_some, Int.reduceEq, Int.reduceLE, ↓reduceIte, decide_false, decide_true, Bool.false_eq_true, hpc, impl_StepCpu.j1, impl_StepCpu.j2, impl_StepCpu.j3, doX, and_false, i1, i4, i6, el_0, or_true]
  ·simp only [show takesM 17 = 0 from rfl, t0, Option.bind_some, Int.reduceEq, Int.reduceLE, ↓reduceIte, decide_false, Bool.false_eq_true, hpc, impl_StepCpu.j1, impl_StepCpu.j2, impl_StepCpu.j3, doX, and_false, or_self, mod_i, p0]
 ·rw [if_pos h0, if_neg h0]
end Go.Proofs.YtefidhlonfiicaaGreat.Pure
/- One step of the reference's machine. No condition. -/
namespace Go.Proofs.YtefidhlonfiicaaGreat.Pure
open Go Go.Proofs.YtefidhlonfiicaaGreatA Go.Proofs.YtefidhlonfiicaaGreatU Go.Proofs.YtefidhlonfiicaaGreat.QA
set_option linter.unusedVariables false
set_option linter.unusedSimpArgs false
theorem load_s {k : Nat} {a : List Int} {r : Int × Int} {p : Int} (ha : a.length ≤ 1048576) : spec_LoadCell.f k a r p = some (if cellAt a r p < 0 then (0, false) else (el I1 a (cellAt a r p).toNat, true)) := by
 unfold spec_LoadCell.f
 rw [cellAt_s ha]
 simp only [Option.bind_some]
 by_cases h : cellAt a r p < 0
 ·rw [if_pos h, if_pos h]
 ·have hc := cellAt_lt h
  rw [if_neg h, if_neg h, if_pos hc.1, if_pos hc.2]
theorem store_s {k : Nat} {a : List Int} {r : Int × Int} {p v : Int} (ha : a.length ≤ 1048576) : spec_StoreCell.f k a r p v = some (if cellAt a r p < 0 then (a, false) else (a.set (cellAt a r p).toNat (v % 65536), true)) := by
 unfold spec_StoreCell.f
 rw [cellAt_s ha, arena_s ha]
 simp only [Option.bind_some, mod_s]
 by_cases h : cellAt a r p < 0
 ·rw [if_pos h, if_pos h]
 ·have hc := cellAt_lt h
  rw [if_neg h, if_neg h, if_pos hc.1, if_pos hc.2]
theorem sum_s {k : Nat} {op a b : Int} (ha : Word a) (hb : Word b) : spec_l06Sum.f k op a b = some (if op = 7 ∧ b = 0 then (0, false) else (reckon op a b, true)) := by
 have hm := mul_in ha hb
 have ha' := ha
 have hb' := hb
 unfold Word at ha' hb'
 unfold spec_l06Sum.f reckon
 rw [w64_id (z := a + b) (by omega) (by omega), w64_id (z := a - b) (by omega) (by omega), w64_id (z := a * b) (by omega) (by omega), mod_s, mod_s, mod_s]
 simp only [Option.bind_some]
 by_cases o7 : op = 7
 ·subst o7
  simp only [Int.reduceEq, ↓reduceIte, true_and]
  by_cases h : b = 0
  ·rw [if_pos h, if_pos h]
  ·have e : Int.tdiv a b = a / b := Int.tdiv_eq_ediv_of_nonneg ha'.1
   have h1 : 0 ≤ a / b := Int.ediv_nonneg ha'.1 hb'.1
   have h2 : a / b ≤ a := Int.ediv_le_self _ ha'.1
   rw [if_neg h, if_neg h, if_pos h, e, w64_id (by omega) (by omega)]
 ·rw [if_neg (c := op = 7 ∧ b = 0) (fun h => o7 h.1), if_neg (c := op = 7) o7]
  by_cases o4 : op = 4
  ·rw [if_pos o4, if_pos o4]
  rw [if_neg o4, if_neg o4]
  by_cases o5 : op = 5
  ·rw [if_pos o5, if_pos o5]
  rw [if_neg o5, if_neg o5]
  by_cases o6 : op = 6
  ·rw [if_pos o6, if_pos o6]
  rw [if_neg o6, if_neg o6, if_neg o7]
  split <;> rfl
theorem j1_s {k : Nat} {z1 z2 z4 z5 z6 z7 z8 z9 z10 z11 z12 z13 z14 : Int} {z15 z16 z17 z18 z19 z20 S : List Int} (h1 : 0 ≤ z1 ∧ z1 ≤ 2) (h2 : 0 ≤ z2 ∧ z2 ≤ 2) (hS : S.length ≤ 8) (ha : z15.length ≤ 1048576) :
  spec_StepCpu.j1 k (z1, z2, (S.length : Int), z4, z5, z6, z7, z8, z9, z10, z11, z12, z13, z14, z15, z16, z17, z18, z19, z20, ()) = some (if 8 < (S.length : Int) - z1 + z2 then ((z9, z18), z15, 0, 0, 0, 4) else ((min z10 60, z19), z20, z11, z12, z13, z14)) := by
 rw [spec_StepCpu.j1, w64_id (z := (S.length : Int) - z1) (by omega) (by omega), w64_id (by omega) (by omega), arena_s ha]
 simp only [Option.bind_some]
 split
 ·rfl
 ·by_cases h : 60 < z10
  ·rw [if_pos h, Int.min_eq_right (by omega)]
  ·rw [if_neg h, Int.min_eq_left (by omega)]
theorem word_mod {z : Int} (h : Word z) : z % 65536 = z := by
 unfold Word at h
 omega
theorem step_s {k : Nat} {c : Int × List Int} {code : List (Int × Int)} {a : List Int} {r : Int × Int} {time : Int} (hk : 1048576 < k) (hc : code.length ≤ 1048576) (hs : c.2.length ≤ 1048576) (ha : a.length ≤ 1048576) :
  spec_StepCpu.f k c code a r time = some (stepM c code a r time) := by
 unfold spec_StepCpu.f
 rw [cpu_s hs, cpuOk_s hs hk, codeOk_s hc hk]
 simp only [Option.bind_some, arena_s ha]
 have bad : ¬ (CpuOk c ∧ CodeOk code ∧ c.1 < (code.length : Int)) → stepM c code a r time = (c, a, 0, 0, 0, 6) := fun h => by
  have e : trapM c code a r = 6 := by
   unfold trapM
   rw [B_no h]
   rfl
  unfold stepM
  rw [e]
  rfl
 by_cases g1 : ¬ CpuOk c
 ·have h1 := g1
  rw [B_no h1, bad (fun h => h1 h.1)]
  simp
 have h1 := Classical.not_not.1 g1
 by_cases g2 : ¬ CodeOk code
 ·have h2 := g2
  rw [B_no h2, B_yes h1, bad (fun h => h2 h.2.1)]
  simp
 have h2 := Classical.not_not.1 g2
 rw [B_yes h1, B_yes h2, if_neg (fun h => h rfl), if_neg (fun h => h rfl)]
 by_cases g3 : ¬ (c.1 < (code.length : Int))
 ·have h3 := g3
  rw [if_pos (by omega), bad (fun h => h3 h.2.2)]
 have h3 := Classical.not_not.1 g3
 rw [if_neg (by omega), if_pos h1.1.1, if_pos h3]
 have e : trapM c code a r = trapX (el C2 code c.1.toNat) c.2 a r := by
  unfold trapM
  rw [B_yes ⟨h1, h2, h3⟩, if_pos rfl]
 unfold stepM
 rw [e]
 clear e bad
 have hin := h2.1 c.1.toNat (by have := h1.1.1; omega)
 have h60 := h2.2
 clear h2
 obtain ⟨pc, S⟩ := c
 obtain ⟨⟨hp0, hp1⟩, hS, hw⟩ := h1
 simp only at hp0 hp1 hS hw h3 hs hin ⊢
 obtain ⟨op, g, hxe⟩ : ∃ op g : Int, el C2 code pc.toNat = (op, g) := ⟨_, _, rfl⟩
 rw [hxe] at hin ⊢
 simp only [show el (.pair (.int .i64) (.int .i64)) code pc.toNat = (op, g) from hxe]
 clear hxe
 have hop := hin.1
 have hg := hin.2
 simp only at hop hg
 clear hin
 by_cases h4 : 17 < op
 ·have e : trapX (op, g) S a r = 1 := by
   unfold trapX
   rw [if_pos h4]
  rw [if_pos h4, e]
  rfl
 rw [if_neg h4]
 have hpc : w64 (pc + 1) = pc + 1 := w64_id (by omega) (by omega)
 have hpm : min (pc + 1) 60 = pc + 1 := Int.min_eq_left (by omega)
 have w0 : w64 (S.length : Int) = (S.length : Int) := w64_id (by omega) (by omega)
 have w1 : 1 ≤ S.length → w64 ((S.length : Int) - 1) = ((S.length - 1 : Nat) : Int) := fun h => by rw [w64_id (by omega) (by omega)]; omega
 have w2 : 2 ≤ S.length → w64 ((S.length : Int) - 2) = ((S.length - 2 : Nat) : Int) := fun h => by rw [w64_id (by omega) (by omega)]; omega
 have b0 : (0 : Int) ≤ (S.length : Int) := by omega
 have b1 : (0 : Int) ≤ ((S.length - 1 : Nat) : Int) := by omega
 have b2 : (0 : Int) ≤ ((S.length - 2 : Nat) : Int) := by omega
 have d0 : ((S.length : Nat) : Int) ≤ (S.length : Int) := by omega
 have d1 : ((S.length - 1 : Nat) : Int) ≤ (S.length : Int) := by omega
 have d2 : ((S.length - 2 : Nat) : Int) ≤ (S.length : Int) := by omega
 have c1 : 1 ≤ S.length → ((S.length - 1 : Nat) : Int) < (S.length : Int) := fun h => by omega
 have c2 : 2 ≤ S.length → ((S.length - 2 : Nat) : Int) < (S.length : Int) := fun h => by omega
 have s0 : S.take S.length = S := List.take_length
 have s1 : S.take (S.length - 1) = low S 1 := rfl
 have s2 : S.take (S.length - 2) = low S 2 := rfl
 have l1 := low_len S 1
 have l2 := low_len S 2
 have q : ∀ T : List Int, T.length ≤ S.length → (0 + T.length) * 8 ≤ 140737488355328 := fun T h => by omega
 have q1 : ∀ T : List Int, T.length ≤ S.length → (T.length + (0 + 1)) * 8 ≤ 140737488355328 := fun T h => by omega
 have q2 : ∀ T : List Int, T.length ≤ S.length → (T.length + (0 + 1 + 1)) * 8 ≤ 140737488355328 := fun T h => by omega
 have eS := Nat.le_refl S.length
 have u1 : el (.int .i64) S (S.length - 1) = top S := rfl
 have u2 : el (.int .i64) S (S.length - 2) = sec S := rfl
 have n0 : ∀ x : Int, 0 ≤ x ∧ x ≤ 2 → (0 : Int) ≤ x ∧ x ≤ 2 := fun x h => h
 rcases op_cases hop.1 h4 with h | h | h | h | h | h | h | h | h | h | h | h | h | h | h | h | h | h <;> subst h
 ·have hn : spec_l06Needs.f k 0 = some (0, 0) := rfl
  have j : ∀ {z4 z5 z6 z7 z8 z9 z10 z11 z12 z13 z14 : Int} {z15 z16 z17 z18 z19 z20 : List Int}, z15.length ≤ 1048576 → spec_StepCpu.j1 k (0, 0, (S.length : Int), z4, z5, z6, z7, z8, z9, z10, z11, z12, z13, z14, z15, z16, z17, z18, z19, z20, ()) = some (if 8 < (S.length : Int) - 0 + 0 then ((z9, z18), z15, 0, 0, 0, 4) else ((min z10 60, z19), z20, z11, z12, z13, z14)) := fun h => j1_s (by omega) (by omega) hS h
  rw [hn]
  simp only [Option.bind_some, trapX, show takesM 0 = 0 from rfl, show putsM 0 = 0 from rfl, Int.reduceEq, Int.reduceLT, Int.reduceLE, false_and, true_and, ↓reduceIte, List.length_nil, List.nil_append]
  have hneg : ¬ (S.length : Int) < 0 := by omega
  simp only [hneg, ↓reduceIte]
  have hov : ¬ 8 < (S.length : Int) + 0 := by omega
  simp only [Int.sub_zero, w0, b0, d0, ↓reduceIte, Int.toNat_natCast, s0, q _ eS, Option.bind_some, Int.reduceEq, hpc, hpm, j ha, doX, List.length_cons, List.length_nil, q1 _ eS, q2 _ eS, spec_StepCpu.j2, spec_StepCpu.j3, spec_StepCpu.j4, decide_false, decide_true, Bool.false_eq_true, Int.reduceLE, and_false, false_and, and_self, true_or, or_true, or_self, hov]
 ·have hn : spec_l06Needs.f k 1 = some (0, 1) := rfl
  have j : ∀ {z4 z5 z6 z7 z8 z9 z10 z11 z12 z13 z14 : Int} {z15 z16 z17 z18 z19 z20 : List Int}, z15.length ≤ 1048576 → spec_StepCpu.j1 k (0, 1, (S.length : Int), z4, z5, z6, z7, z8, z9, z10, z11, z12, z13, z14, z15, z16, z17, z18, z19, z20, ()) = some (if 8 < (S.length : Int) - 0 + 1 then ((z9, z18), z15, 0, 0, 0, 4) else ((min z10 60, z19), z20, z11, z12, z13, z14)) := fun h => j1_s (by omega) (by omega) hS h
  rw [hn]
  simp only [Option.bind_some, trapX, show takesM 1 = 0 from rfl, show putsM 1 = 1 from rfl, Int.reduceEq, Int.reduceLT, Int.reduceLE, false_and, true_and, ↓reduceIte, List.length_nil, List.nil_append]
  have hneg : ¬ (S.length : Int) < 0 := by omega
  simp only [hneg, ↓reduceIte]
  simp only [Int.sub_zero, w0, b0, d0, ↓reduceIte, Int.toNat_natCast, s0, q _ eS, Option.bind_some, Int.reduceEq, hpc, hpm, j ha, doX, List.length_cons, List.length_nil, q1 _ eS, q2 _ eS, spec_StepCpu.j2, spec_StepCpu.j3, spec_StepCpu.j4, decide_false, decide_true, Bool.false_eq_true, Int.reduceLE, and_false, false_and, and_self, true_or, or_true, or_self, mod_s]
  by_cases hv : 8 < (S.length : Int) + 1
  ·simp only [hv, ↓reduceIte, Int.reduceEq]
  ·simp only [hv, ↓reduceIte]
 ·have hn : spec_l06Needs.f k 2 = some (1, 1) := rfl
  have j : ∀ {z4 z5 z6 z7 z8 z9 z10 z11 z12 z13 z14 : Int} {z15 z16 z17 z18 z19 z20 : List Int}, z15.length ≤ 1048576 → spec_StepCpu.j1 k (1, 1, (S.length : Int), z4, z5, z6, z7, z8, z9, z10, z11, z12, z13, z14, z15, z16, z17, z18, z19, z20, ()) = some (if 8 < (S.length : Int) - 1 + 1 then ((z9, z18), z15, 0, 0, 0, 4) else ((min z10 60, z19), z20, z11, z12, z13, z14)) := fun h => j1_s (by omega) (by omega) hS h
  rw [hn]
  simp only [Option.bind_some, trapX, show takesM 2 = 1 from rfl, show putsM 2 = 1 from rfl, Int.reduceEq, Int.reduceLT, Int.reduceLE, false_and, true_and, ↓reduceIte, List.length_nil, List.nil_append]
  by_cases hl : (S.length : Int) < 1
  ·rw [if_pos hl, if_pos hl]
   rfl
  rw [if_neg hl, if_neg hl]
  have hl1 : 1 ≤ S.length := by omega
  have ht := top_w hw hl1
  have e : w64 (top S + g) = top S + g := w64_id (by unfold Word at ht; omega) (by unfold Word at ht; omega)
  have hov : ¬ 8 < (S.length : Int) - 1 + 1 := by omega
  simp only [w1 hl1, b1, d1, ↓reduceIte, Int.toNat_natCast, s1, q _ l1, Option.bind_some, Int.reduceEq, hpc, hpm, j ha, doX, List.length_cons, List.length_nil, q1 _ l1, q2 _ l1, spec_StepCpu.j2, spec_StepCpu.j3, spec_StepCpu.j4, decide_false, decide_true, Bool.false_eq_true, Int.reduceLE, and_false, false_and, and_self, true_or, or_true, or_self, c1 hl1, u1, e, load_s ha, mod_s, hov]
  by_cases hz : cellAt a r (top S + g) < 0
  ·simp only [hz, ↓reduceIte, Bool.false_eq_true, not_false_eq_true, Int.reduceEq]
  ·simp only [hz, ↓reduceIte, not_true_eq_false]
 ·have hn : spec_l06Needs.f k 3 = some (2, 0) := rfl
  have j : ∀ {z4 z5 z6 z7 z8 z9 z10 z11 z12 z13 z14 : Int} {z15 z16 z17 z18 z19 z20 : List Int}, z15.length ≤ 1048576 → spec_StepCpu.j1 k (2, 0, (S.length : Int), z4, z5, z6, z7, z8, z9, z10, z11, z12, z13, z14, z15, z16, z17, z18, z19, z20, ()) = some (if 8 < (S.length : Int) - 2 + 0 then ((z9, z18), z15, 0, 0, 0, 4) else ((min z10 60, z19), z20, z11, z12, z13, z14)) := fun h => j1_s (by omega) (by omega) hS h
  rw [hn]
  simp only [Option.bind_some, trapX, show takesM 3 = 2 from rfl, show putsM 3 = 0 from rfl, Int.reduceEq, Int.reduceLT, Int.reduceLE, false_and, true_and, ↓reduceIte, List.length_nil, List.nil_append]
  by_cases hl : (S.length : Int) < 2
  ·rw [if_pos hl, if_pos hl]
   rfl
  rw [if_neg hl, if_neg hl]
  have hl2 : 2 ≤ S.length := by omega
  have hl1 : 1 ≤ S.length := by omega
  have ht := top_w hw hl1
  have hsx := sec_w hw hl2
  have e : w64 (sec S + g) = sec S + g := w64_id (by unfold Word at hsx; omega) (by unfold Word at hsx; omega)
  have hov : ¬ 8 < (S.length : Int) - 2 + 0 := by omega
  simp only [w2 hl2, b2, d2, ↓reduceIte, Int.toNat_natCast, s2, q _ l2, Option.bind_some, Int.reduceEq, hpc, hpm, j ha, doX, List.length_cons, List.length_nil, q1 _ l2, q2 _ l2, spec_StepCpu.j2, spec_StepCpu.j3, spec_StepCpu.j4, decide_false, decide_true, Bool.false_eq_true, Int.reduceLE, and_false, false_and, and_self, true_or, or_true, or_self, w1 hl1, b1, d1, c1 hl1, c2 hl2, u1, u2, e, store_s ha, word_mod ht, hov]
  by_cases hz : cellAt a r (sec S + g) < 0
  ·simp only [hz, ↓reduceIte, Bool.false_eq_true, not_false_eq_true, Int.reduceEq]
  ·simp only [hz, ↓reduceIte, not_true_eq_false]
 ·have hn : spec_l06Needs.f k 4 = some (2, 1) := rfl
  have j : ∀ {z4 z5 z6 z7 z8 z9 z10 z11 z12 z13 z14 : Int} {z15 z16 z17 z18 z19 z20 : List Int}, z15.length ≤ 1048576 → spec_StepCpu.j1 k (2, 1, (S.length : Int), z4, z5, z6, z7, z8, z9, z10, z11, z12, z13, z14, z15, z16, z17, z18, z19, z20, ()) = some (if 8 < (S.length : Int) - 2 + 1 then ((z9, z18), z15, 0, 0, 0, 4) else ((min z10 60, z19), z20, z11, z12, z13, z14)) := fun h => j1_s (by omega) (by omega) hS h
  rw [hn]
  simp only [Option.bind_some, trapX, show takesM 4 = 2 from rfl, show putsM 4 = 1 from rfl, Int.reduceEq, Int.reduceLT, Int.reduceLE, false_and, true_and, ↓reduceIte, List.length_nil, List.nil_append]
  by_cases hl : (S.length : Int) < 2
  ·rw [if_pos hl, if_pos hl]
   rfl
  rw [if_neg hl, if_neg hl]
  have hl2 : 2 ≤ S.length := by omega
  have hl1 : 1 ≤ S.length := by omega
  have ht := top_w hw hl1
  have hsx := sec_w hw hl2
  have hov : ¬ 8 < (S.length : Int) - 2 + 1 := by omega
  simp only [w2 hl2, b2, d2, ↓reduceIte, Int.toNat_natCast, s2, q _ l2, Option.bind_some, Int.reduceEq, hpc, hpm, j ha, doX, List.length_cons, List.length_nil, q1 _ l2, q2 _ l2, spec_StepCpu.j2, spec_StepCpu.j3, spec_StepCpu.j4, decide_false, decide_true, Bool.false_eq_true, Int.reduceLE, and_false, false_and, and_self, true_or, or_true, or_self, w1 hl1, b1, c1 hl1, c2 hl2, u1, u2, sum_s hsx ht, hov, not_true_eq_false]
 ·have hn : spec_l06Needs.f k 5 = some (2, 1) := rfl
  have j : ∀ {z4 z5 z6 z7 z8 z9 z10 z11 z12 z13 z14 : Int} {z15 z16 z17 z18 z19 z20 : List Int}, z15.length ≤ 1048576 → spec_StepCpu.j1 k (2, 1, (S.length : Int), z4, z5, z6, z7, z8, z9, z10, z11, z12, z13, z14, z15, z16, z17, z18, z19, z20, ()) = some (if 8 < (S.length : Int) - 2 + 1 then ((z9, z18), z15, 0, 0, 0, 4) else ((min z10 60, z19), z20, z11, z12, z13, z14)) := fun h => j1_s (by omega) (by omega) hS h
  rw [hn]
  simp only [Option.bind_some, trapX, show takesM 5 = 2 from rfl, show putsM 5 = 1 from rfl, Int.reduceEq, Int.reduceLT, Int.reduceLE, false_and, true_and, ↓reduceIte, List.length_nil, List.nil_append]
  by_cases hl : (S.length : Int) < 2
  ·rw [if_pos hl, if_pos hl]
   rfl
  rw [if_neg hl, if_neg hl]
  have hl2 : 2 ≤ S.length := by omega
  have hl1 : 1 ≤ S.length := by omega
  have ht := top_w hw hl1
  have hsx := sec_w hw hl2
  have hov : ¬ 8 < (S.length : Int) - 2 + 1 := by omega
  simp only [w2 hl2, b2, d2, ↓reduceIte, Int.toNat_natCast, s2, q _ l2, Option.bind_some, Int.reduceEq, hpc, hpm, j ha, doX, List.length_cons, List.length_nil, q1 _ l2, q2 _ l2, spec_StepCpu.j2, spec_StepCpu.j3, spec_StepCpu.j4, decide_false, decide_true, Bool.false_eq_true, Int.reduceLE, and_false, false_and, and_self, true_or, or_true, or_self, w1 hl1, b1, c1 hl1, c2 hl2, u1, u2, sum_s hsx ht, hov, not_true_eq_false]
 ·have hn : spec_l06Needs.f k 6 = some (2, 1) := rfl
  have j : ∀ {z4 z5 z6 z7 z8 z9 z10 z11 z12 z13 z14 : Int} {z15 z16 z17 z18 z19 z20 : List Int}, z15.length ≤ 1048576 → spec_StepCpu.j1 k (2, 1, (S.length : Int), z4, z5, z6, z7, z8, z9, z10, z11, z12, z13, z14, z15, z16, z17, z18, z19, z20, ()) = some (if 8 < (S.length : Int) - 2 + 1 then ((z9, z18), z15, 0, 0, 0, 4) else ((min z10 60, z19), z20, z11, z12, z13, z14)) := fun h => j1_s (by omega) (by omega) hS h
  rw [hn]
  simp only [Option.bind_some, trapX, show takesM 6 = 2 from rfl, show putsM 6 = 1 from rfl, Int.reduceEq, Int.reduceLT, Int.reduceLE, false_and, true_and, ↓reduceIte, List.length_nil, List.nil_append]
  by_cases hl : (S.length : Int) < 2
  ·rw [if_pos hl, if_pos hl]
   rfl
  rw [if_neg hl, if_neg hl]
  have hl2 : 2 ≤ S.length := by omega
  have hl1 : 1 ≤ S.length := by omega
  have ht := top_w hw hl1
  have hsx := sec_w hw hl2
  have hov : ¬ 8 < (S.length : Int) - 2 + 1 := by omega
  simp only [w2 hl2, b2, d2, ↓reduceIte, Int.toNat_natCast, s2, q _ l2, Option.bind_some, Int.reduceEq, hpc, hpm, j ha, doX, List.length_cons, List.length_nil, q1 _ l2, q2 _ l2, spec_StepCpu.j2, spec_StepCpu.j3, spec_StepCpu.j4, decide_false, decide_true, Bool.false_eq_true, Int.reduceLE, and_false, false_and, and_self, true_or, or_true, or_self, w1 hl1, b1, c1 hl1, c2 hl2, u1, u2, sum_s hsx ht, hov, not_true_eq_false]
 ·have hn : spec_l06Needs.f k 7 = some (2, 1) := rfl
  have j : ∀ {z4 z5 z6 z7 z8 z9 z10 z11 z12 z13 z14 : Int} {z15 z16 z17 z18 z19 z20 : List Int}, z15.length ≤ 1048576 → spec_StepCpu.j1 k (2, 1, (S.length : Int), z4, z5, z6, z7, z8, z9, z10, z11, z12, z13, z14, z15, z16, z17, z18, z19, z20, ()) = some (if 8 < (S.length : Int) - 2 + 1 then ((z9, z18), z15, 0, 0, 0, 4) else ((min z10 60, z19), z20, z11, z12, z13, z14)) := fun h => j1_s (by omega) (by omega) hS h
  rw [hn]
  simp only [Option.bind_some, trapX, show takesM 7 = 2 from rfl, show putsM 7 = 1 from rfl, Int.reduceEq, Int.reduceLT, Int.reduceLE, false_and, true_and, ↓reduceIte, List.length_nil, List.nil_append]
  by_cases hl : (S.length : Int) < 2
  ·rw [if_pos hl, if_pos hl]
   rfl
  rw [if_neg hl, if_neg hl]
  have hl2 : 2 ≤ S.length := by omega
  have hl1 : 1 ≤ S.length := by omega
  have ht := top_w hw hl1
  have hsx := sec_w hw hl2
  have hov : ¬ 8 < (S.length : Int) - 2 + 1 := by omega
  simp only [w2 hl2, b2, d2, ↓reduceIte, Int.toNat_natCast, s2, q _ l2, Option.bind_some, Int.reduceEq, hpc, hpm, j ha, doX, List.length_cons, List.length_nil, q1 _ l2, q2 _ l2, spec_StepCpu.j2, spec_StepCpu.j3, spec_StepCpu.j4, decide_false, decide_true, Bool.false_eq_true, Int.reduceLE, and_false, false_and, and_self, true_or, or_true, or_self, w1 hl1, b1, c1 hl1, c2 hl2, u1, u2, sum_s hsx ht, hov, not_true_eq_false]
  by_cases hz : top S = 0
  ·simp only [hz, ↓reduceIte, arena_s ha, Option.bind_some, and_self, Bool.false_eq_true, not_false_eq_true, Int.reduceEq]
  ·simp only [hz, ↓reduceIte, and_false, not_true_eq_false, Int.reduceEq]
 ·have hn : spec_l06Needs.f k 8 = some (2, 1) := rfl
  have j : ∀ {z4 z5 z6 z7 z8 z9 z10 z11 z12 z13 z14 : Int} {z15 z16 z17 z18 z19 z20 : List Int}, z15.length ≤ 1048576 → spec_StepCpu.j1 k (2, 1, (S.length : Int), z4, z5, z6, z7, z8, z9, z10, z11, z12, z13, z14, z15, z16, z17, z18, z19, z20, ()) = some (if 8 < (S.length : Int) - 2 + 1 then ((z9, z18), z15, 0, 0, 0, 4) else ((min z10 60, z19), z20, z11, z12, z13, z14)) := fun h => j1_s (by omega) (by omega) hS h
  rw [hn]
  simp only [Option.bind_some, trapX, show takesM 8 = 2 from rfl, show putsM 8 = 1 from rfl, Int.reduceEq, Int.reduceLT, Int.reduceLE, false_and, true_and, ↓reduceIte, List.length_nil, List.nil_append]
  by_cases hl : (S.length : Int) < 2
  ·rw [if_pos hl, if_pos hl]
   rfl
  rw [if_neg hl, if_neg hl]
  have hl2 : 2 ≤ S.length := by omega
  have hl1 : 1 ≤ S.length := by omega
  have ht := top_w hw hl1
  have hsx := sec_w hw hl2
  have hov : ¬ 8 < (S.length : Int) - 2 + 1 := by omega
  simp only [w2 hl2, b2, d2, ↓reduceIte, Int.toNat_natCast, s2, q _ l2, Option.bind_some, Int.reduceEq, hpc, hpm, j ha, doX, List.length_cons, List.length_nil, q1 _ l2, q2 _ l2, spec_StepCpu.j2, spec_StepCpu.j3, spec_StepCpu.j4, decide_false, decide_true, Bool.false_eq_true, Int.reduceLE, and_false, false_and, and_self, true_or, or_true, or_self, w1 hl1, b1, c1 hl1, c2 hl2, u1, u2, sum_s hsx ht, hov, not_true_eq_false]
 ·have hn : spec_l06Needs.f k 9 = some (0, 0) := rfl
  have j : ∀ {z4 z5 z6 z7 z8 z9 z10 z11 z12 z13 z14 : Int} {z15 z16 z17 z18 z19 z20 : List Int}, z15.length ≤ 1048576 → spec_StepCpu.j1 k (0, 0, (S.length : Int), z4, z5, z6, z7, z8, z9, z10, z11, z12, z13, z14, z15, z16, z17, z18, z19, z20, ()) = some (if 8 < (S.length : Int) - 0 + 0 then ((z9, z18), z15, 0, 0, 0, 4) else ((min z10 60, z19), z20, z11, z12, z13, z14)) := fun h => j1_s (by omega) (by omega) hS h
  rw [hn]
  simp only [Option.bind_some, trapX, show takesM 9 = 0 from rfl, show putsM 9 = 0 from rfl, Int.reduceEq, Int.reduceLT, Int.reduceLE, false_and, true_and, ↓reduceIte, List.length_nil, List.nil_append]
  have hneg : ¬ (S.length : Int) < 0 := by omega
  simp only [hneg, ↓reduceIte]
  have hov : ¬ 8 < (S.length : Int) + 0 := by omega
  simp only [Int.sub_zero, w0, b0, d0, ↓reduceIte, Int.toNat_natCast, s0, q _ eS, Option.bind_some, Int.reduceEq, hpc, hpm, j ha, doX, List.length_cons, List.length_nil, q1 _ eS, q2 _ eS, spec_StepCpu.j2, spec_StepCpu.j3, spec_StepCpu.j4, decide_false, decide_true, Bool.false_eq_true, Int.reduceLE, and_false, false_and, and_self, true_or, or_true, or_self, hov]
 ·have hn : spec_l06Needs.f k 10 = some (1, 0) := rfl
  have j : ∀ {z4 z5 z6 z7 z8 z9 z10 z11 z12 z13 z14 : Int} {z15 z16 z17 z18 z19 z20 : List Int}, z15.length ≤ 1048576 → spec_StepCpu.j1 k (1, 0, (S.length : Int), z4, z5, z6, z7, z8, z9, z10, z11, z12, z13, z14, z15, z16, z17, z18, z19, z20, ()) = some (if 8 < (S.length : Int) - 1 + 0 then ((z9, z18), z15, 0, 0, 0, 4) else ((min z10 60, z19), z20, z11, z12, z13, z14)) := fun h => j1_s (by omega) (by omega) hS h
  rw [hn]
  simp only [Option.bind_some, trapX, show takesM 10 = 1 from rfl, show putsM 10 = 0 from rfl, Int.reduceEq, Int.reduceLT, Int.reduceLE, false_and, true_and, ↓reduceIte, List.length_nil, List.nil_append]
  by_cases hl : (S.length : Int) < 1
  ·rw [if_pos hl, if_pos hl]
   rfl
  rw [if_neg hl, if_neg hl]
  have hl1 : 1 ≤ S.length := by omega
  have ht := top_w hw hl1
  have hov : ¬ 8 < (S.length : Int) - 1 + 0 := by omega
  simp only [w1 hl1, b1, d1, ↓reduceIte, Int.toNat_natCast, s1, q _ l1, Option.bind_some, Int.reduceEq, hpc, hpm, j ha, doX, List.length_cons, List.length_nil, q1 _ l1, q2 _ l1, spec_StepCpu.j2, spec_StepCpu.j3, spec_StepCpu.j4, decide_false, decide_true, Bool.false_eq_true, Int.reduceLE, and_false, false_and, and_self, true_or, or_true, or_self, c1 hl1, u1, hov]
  split <;> rfl
 ·have hn : spec_l06Needs.f k 11 = some (1, 2) := rfl
  have j : ∀ {z4 z5 z6 z7 z8 z9 z10 z11 z12 z13 z14 : Int} {z15 z16 z17 z18 z19 z20 : List Int}, z15.length ≤ 1048576 → spec_StepCpu.j1 k (1, 2, (S.length : Int), z4, z5, z6, z7, z8, z9, z10, z11, z12, z13, z14, z15, z16, z17, z18, z19, z20, ()) = some (if 8 < (S.length : Int) - 1 + 2 then ((z9, z18), z15, 0, 0, 0, 4) else ((min z10 60, z19), z20, z11, z12, z13, z14)) := fun h => j1_s (by omega) (by omega) hS h
  rw [hn]
  simp only [Option.bind_some, trapX, show takesM 11 = 1 from rfl, show putsM 11 = 2 from rfl, Int.reduceEq, Int.reduceLT, Int.reduceLE, false_and, true_and, ↓reduceIte, List.length_nil, List.nil_append]
  by_cases hl : (S.length : Int) < 1
  ·rw [if_pos hl, if_pos hl]
   rfl
  rw [if_neg hl, if_neg hl]
  have hl1 : 1 ≤ S.length := by omega
  have ht := top_w hw hl1
  simp only [w1 hl1, b1, d1, ↓reduceIte, Int.toNat_natCast, s1, q _ l1, Option.bind_some, Int.reduceEq, hpc, hpm, j ha, doX, List.length_cons, List.length_nil, q1 _ l1, q2 _ l1, spec_StepCpu.j2, spec_StepCpu.j3, spec_StepCpu.j4, decide_false, decide_true, Bool.false_eq_true, Int.reduceLE, and_false, false_and, and_self, true_or, or_true, or_self, c1 hl1, u1]
  by_cases hv : 8 < (S.length : Int) - 1 + 2
  ·simp only [hv, ↓reduceIte, Int.reduceEq]
  ·simp only [hv, ↓reduceIte]
 ·have hn : spec_l06Needs.f k 12 = some (1, 0) := rfl
  have j : ∀ {z4 z5 z6 z7 z8 z9 z10 z11 z12 z13 z14 : Int} {z15 z16 z17 z18 z19 z20 : List Int}, z15.length ≤ 1048576 → spec_StepCpu.j1 k (1, 0, (S.length : Int), z4, z5, z6, z7, z8, z9, z10, z11, z12, z13, z14, z15, z16, z17, z18, z19, z20, ()) = some (if 8 < (S.length : Int) - 1 + 0 then ((z9, z18), z15, 0, 0, 0, 4) else ((min z10 60, z19), z20, z11, z12, z13, z14)) := fun h => j1_s (by omega) (by omega) hS h
  rw [hn]
  simp only [Option.bind_some, trapX, show takesM 12 = 1 from rfl, show putsM 12 = 0 from rfl, Int.reduceEq, Int.reduceLT, Int.reduceLE, false_and, true_and, ↓reduceIte, List.length_nil, List.nil_append]
  by_cases hl : (S.length : Int) < 1
  ·rw [if_pos hl, if_pos hl]
   rfl
  rw [if_neg hl, if_neg hl]
  have hl1 : 1 ≤ S.length := by omega
  have ht := top_w hw hl1
  have hov : ¬ 8 < (S.length : Int) - 1 + 0 := by omega
  simp only [w1 hl1, b1, d1, ↓reduceIte, Int.toNat_natCast, s1, q _ l1, Option.bind_some, Int.reduceEq, hpc, hpm, j ha, doX, List.length_cons, List.length_nil, q1 _ l1, q2 _ l1, spec_StepCpu.j2, spec_StepCpu.j3, spec_StepCpu.j4, decide_false, decide_true, Bool.false_eq_true, Int.reduceLE, and_false, false_and, and_self, true_or, or_true, or_self, hov]
 ·have hn : spec_l06Needs.f k 13 = some (1, 0) := rfl
  have j : ∀ {z4 z5 z6 z7 z8 z9 z10 z11 z12 z13 z14 : Int} {z15 z16 z17 z18 z19 z20 : List Int}, z15.length ≤ 1048576 → spec_StepCpu.j1 k (1, 0, (S.length : Int), z4, z5, z6, z7, z8, z9, z10, z11, z12, z13, z14, z15, z16, z17, z18, z19, z20, ()) = some (if 8 < (S.length : Int) - 1 + 0 then ((z9, z18), z15, 0, 0, 0, 4) else ((min z10 60, z19), z20, z11, z12, z13, z14)) := fun h => j1_s (by omega) (by omega) hS h
  rw [hn]
  simp only [Option.bind_some, trapX, show takesM 13 = 1 from rfl, show putsM 13 = 0 from rfl, Int.reduceEq, Int.reduceLT, Int.reduceLE, false_and, true_and, ↓reduceIte, List.length_nil, List.nil_append]
  by_cases hl : (S.length : Int) < 1
  ·rw [if_pos hl, if_pos hl]
   rfl
  rw [if_neg hl, if_neg hl]
  have hl1 : 1 ≤ S.length := by omega
  have ht := top_w hw hl1
  have hov : ¬ 8 < (S.length : Int) - 1 + 0 := by omega
  simp only [w1 hl1, b1, d1, ↓reduceIte, Int.toNat_natCast, s1, q _ l1, Option.bind_some, Int.reduceEq, hpc, hpm, j ha, doX, List.length_cons, List.length_nil, q1 _ l1, q2 _ l1, spec_StepCpu.j2, spec_StepCpu.j3, spec_StepCpu.j4, decide_false, decide_true, Bool.false_eq_true, Int.reduceLE, and_false, false_and, and_self, true_or, or_true, or_self, c1 hl1, u1, hov]
 ·have hn : spec_l06Needs.f k 14 = some (0, 0) := rfl
  have j : ∀ {z4 z5 z6 z7 z8 z9 z10 z11 z12 z13 z14 : Int} {z15 z16 z17 z18 z19 z20 : List Int}, z15.length ≤ 1048576 → spec_StepCpu.j1 k (0, 0, (S.length : Int), z4, z5, z6, z7, z8, z9, z10, z11, z12, z13, z14, z15, z16, z17, z18, z19, z20, ()) = some (if 8 < (S.length : Int) - 0 + 0 then ((z9, z18), z15, 0, 0, 0, 4) else ((min z10 60, z19), z20, z11, z12, z13, z14)) := fun h => j1_s (by omega) (by omega) hS h
  rw [hn]
  simp only [Option.bind_some, trapX, show takesM 14 = 0 from rfl, show putsM 14 = 0 from rfl, Int.reduceEq, Int.reduceLT, Int.reduceLE, false_and, true_and, ↓reduceIte, List.length_nil, List.nil_append]
  have hneg : ¬ (S.length : Int) < 0 := by omega
  simp only [hneg, ↓reduceIte]
  have hov : ¬ 8 < (S.length : Int) + 0 := by omega
  simp only [Int.sub_zero, w0, b0, d0, ↓reduceIte, Int.toNat_natCast, s0, q _ eS, Option.bind_some, Int.reduceEq, hpc, hpm, j ha, doX, List.length_cons, List.length_nil, q1 _ eS, q2 _ eS, spec_StepCpu.j2, spec_StepCpu.j3, spec_StepCpu.j4, decide_false, decide_true, Bool.false_eq_true, Int.reduceLE, and_false, false_and, and_self, true_or, or_true, or_self, hov]
 ·have hn : spec_l06Needs.f k 15 = some (0, 0) := rfl
  have j : ∀ {z4 z5 z6 z7 z8 z9 z10 z11 z12 z13 z14 : Int} {z15 z16 z17 z18 z19 z20 : List Int}, z15.length ≤ 1048576 → spec_StepCpu.j1 k (0, 0, (S.length : Int), z4, z5, z6, z7, z8, z9, z10, z11, z12, z13, z14, z15, z16, z17, z18, z19, z20, ()) = some (if 8 < (S.length : Int) - 0 + 0 then ((z9, z18), z15, 0, 0, 0, 4) else ((min z10 60, z19), z20, z11, z12, z13, z14)) := fun h => j1_s (by omega) (by omega) hS h
  rw [hn]
  simp only [Option.bind_some, trapX, show takesM 15 = 0 from rfl, show putsM 15 = 0 from rfl, Int.reduceEq, Int.reduceLT, Int.reduceLE, false_and, true_and, ↓reduceIte, List.length_nil, List.nil_append]
  have hneg : ¬ (S.length : Int) < 0 := by omega
  simp only [hneg, ↓reduceIte]
  have hov : ¬ 8 < (S.length : Int) + 0 := by omega
  simp only [Int.sub_zero, w0, b0, d0, ↓reduceIte, Int.toNat_natCast, s0, q _ eS, Option.bind_some, Int.reduceEq, hpc, hpm, j ha, doX, List.length_cons, List.length_nil, q1 _ eS, q2 _ eS, spec_StepCpu.j2, spec_StepCpu.j3, spec_StepCpu.j4, decide_false, decide_true, Bool.false_eq_true, Int.reduceLE, and_false, false_and, and_self, true_or, or_true, or_self, hov]
 ·have hn : spec_l06Needs.f k 16 = some (1, 0) := rfl
  have j : ∀ {z4 z5 z6 z7 z8 z9 z10 z11 z12 z13 z14 : Int} {z15 z16 z17 z18 z19 z20 : List Int}, z15.length ≤ 1048576 → spec_StepCpu.j1 k (1, 0, (S.length : Int), z4, z5, z6, z7, z8, z9, z10, z11, z12, z13, z14, z15, z16, z17, z18, z19, z20, ()) = some (if 8 < (S.length : Int) - 1 + 0 then ((z9, z18), z15, 0, 0, 0, 4) else ((min z10 60, z19), z20, z11, z12, z13, z14)) := fun h => j1_s (by omega) (by omega) hS h
  rw [hn]
  simp only [Option.bind_some, trapX, show takesM 16 = 1 from rfl, show putsM 16 = 0 from rfl, Int.reduceEq, Int.reduceLT, Int.reduceLE, false_and, true_and, ↓reduceIte, List.length_nil, List.nil_append]
  by_cases hl : (S.length : Int) < 1
  ·rw [if_pos hl, if_pos hl]
   rfl
  rw [if_neg hl, if_neg hl]
  have hl1 : 1 ≤ S.length := by omega
  have ht := top_w hw hl1
  have hov : ¬ 8 < (S.length : Int) - 1 + 0 := by omega
  simp only [w1 hl1, b1, d1, ↓reduceIte, Int.toNat_natCast, s1, q _ l1, Option.bind_some, Int.reduceEq, hpc, hpm, j ha, doX, List.length_cons, List.length_nil, q1 _ l1, q2 _ l1, spec_StepCpu.j2, spec_StepCpu.j3, spec_StepCpu.j4, decide_false, decide_true, Bool.false_eq_true, Int.reduceLE, and_false, false_and, and_self, true_or, or_true, or_self, c1 hl1, u1, hov]
 ·have hn : spec_l06Needs.f k 17 = some (0, 1) := rfl
  have j : ∀ {z4 z5 z6 z7 z8 z9 z10 z11 z12 z13 z14 : Int} {z15 z16 z17 z18 z19 z20 : List Int}, z15.length ≤ 1048576 → spec_StepCpu.j1 k (0, 1, (S.length : Int), z4, z5, z6, z7, z8, z9, z10, z11, z12, z13, z14, z15, z16, z17, z18, z19, z20, ()) = some (if 8 < (S.length : Int) - 0 + 1 then ((z9, z18), z15, 0, 0, 0, 4) else ((min z10 60, z19), z20, z11, z12, z13, z14)) := fun h => j1_s (by omega) (by omega) hS h
  rw [hn]
  simp only [Option.bind_some, trapX, show takesM 17 = 0 from rfl, show putsM 17 = 1 from rfl, Int.reduceEq, Int.reduceLT, Int.reduceLE, false_and, true_and, ↓reduceIte, List.length_nil, List.nil_append]
  have hneg : ¬ (S.length : Int) < 0 := by omega
  simp only [hneg, ↓reduceIte]
  simp only [Int.sub_zero, w0, b0, d0, ↓reduceIte, Int.toNat_natCast, s0, q _ eS, Option.bind_some, Int.reduceEq, hpc, hpm, j ha, doX, List.length_cons, List.length_nil, q1 _ eS, q2 _ eS, spec_StepCpu.j2, spec_StepCpu.j3, spec_StepCpu.j4, decide_false, decide_true, Bool.false_eq_true, Int.reduceLE, and_false, false_and, and_self, true_or, or_true, or_self, mod_s]
  by_cases hv : 8 < (S.length : Int) + 1
  ·simp only [hv, ↓reduceIte, Int.reduceEq]
  ·simp only [hv, ↓reduceIte]
end Go.Proofs.YtefidhlonfiicaaGreat.Pure
/- The laws' own copies, comparisons and marks of machines and cells. No condition. -/
namespace Go.Proofs.YtefidhlonfiicaaGreat.Pure
open Go Go.Proofs.YtefidhlonfiicaaGreatA Go.Proofs.YtefidhlonfiicaaGreatU Go.Proofs.YtefidhlonfiicaaGreat.QA
set_option linter.unusedVariables false
theorem toCpu_f {k : Nat} {c : Int × List Int} (hl : c.2.length ≤ 1048576) (hk : 1048576 < k) : laws_toCpu.f k c = some c := by
 unfold laws_toCpu.f
 rw [toIntS_f hl hk]
 rfl
theorem toArena_f {k : Nat} {c : List Int} (hl : c.length ≤ 1048576) (hk : 1048576 < k) : laws_toArena.f k c = some c := by
 unfold laws_toArena.f
 rw [toIntS_f hl hk]
 rfl
theorem eqCpu_f {k : Nat} {c : Int × List Int} (hl : c.2.length ≤ 1048576) (hk : 1048576 < k) : laws_eqCpu.f k c c = some true := by
 unfold laws_eqCpu.f
 rw [if_neg (fun h => h rfl), eqIntS_f hl hk]
 rfl
theorem eqArena_f {k : Nat} {c : List Int} (hl : c.length ≤ 1048576) (hk : 1048576 < k) : laws_eqArena.f k c c = some true := by
 unfold laws_eqArena.f
 rw [eqIntS_f hl hk]
 rfl
theorem szCpu_f {k : Nat} {c : Int × List Int} {left : Int} (hx : c.2.length ≤ 9223372036854775807) (h0 : 0 ≤ left) (h1 : left ≤ 1048576) : Ok (laws_szCpu.f k c left) (fun r => 0 ≤ r → r ≤ left ∧ c.2.length ≤ 1048576) := by
 unfold laws_szCpu.f
 exact ok_bind (szIntS_f hx h0 h1) (fun r hr => ok_if (fun _ => ok_some (fun h => absurd h (by omega))) (fun _ => ok_some hr))
theorem szArena_f {k : Nat} {c : List Int} {left : Int} (hx : c.length ≤ 9223372036854775807) (h0 : 0 ≤ left) (h1 : left ≤ 1048576) : Ok (laws_szArena.f k c left) (fun r => 0 ≤ r → r ≤ left ∧ c.length ≤ 1048576) := by
 unfold laws_szArena.f
 exact ok_bind (szIntS_f hx h0 h1) (fun r hr => ok_if (fun _ => ok_some (fun h => absurd h (by omega))) (fun _ => ok_some hr))
theorem low_le (S : List Int) (t : Nat) (xs : List Int) : (low S t ++ xs).length ≤ S.length + xs.length := by
 have := low_len S t
 rw [List.length_append]
 omega
structure LenIs (S a : List Int) (s : Step) : Prop where
 st : s.1.2.length ≤ S.length + 2
 ar : s.2.1.length = a.length
theorem if_in {α : Type} {P : α → Prop} {c : Prop} [Decidable c] {x y : α} (hx : P x) (hy : P y) : P (if c then x else y) := by
 split
 ·exact hx
 ·exact hy
theorem doX_len {pc : Int} {x : Int × Int} {S a : List Int} {r : Int × Int} {time : Int} : LenIs S a (doX pc x S a r time) := by
 have h3 := low_le S 1 [el I1 a (cellAt a r (top S + x.2)).toNat % 65536]
 have h4 := low_le S 2 [reckon x.1 (sec S) (top S)]
 have h5 := low_le S 1 [top S, top S]
 simp only [List.length_cons, List.length_nil] at h3 h4 h5
 have q1 : ∀ pc e, LenIs S a ((pc, S), a, e) := fun pc e => ⟨by dsimp only; omega, rfl⟩
 have q2 : ∀ pc e t, LenIs S a ((pc, low S t), a, e) := fun pc e t => ⟨by have := low_len S t; dsimp only; omega, rfl⟩
 have q3 : ∀ pc e v, LenIs S a ((pc, S ++ [v]), a, e) := fun pc e v => ⟨by dsimp only; rw [List.length_append, List.length_cons, List.length_nil]; omega, rfl⟩
 unfold doX
 refine if_in (q3 _ _ _) (if_in ⟨by dsimp only; omega, rfl⟩ (if_in ⟨by have := low_len S 2; dsimp only; omega, List.length_set ..⟩ (if_in ⟨by dsimp only; omega, rfl⟩ (if_in (q1 _ _) (if_in (q2 _ _ _) (if_in ⟨by dsimp only; omega, rfl⟩ (if_in (q2 _ _ _) (if_in (q2 _ _ _) (if_in (q1 _ _) (if_in (q3 _ _ _) (q1 _ _)))))))))))
theorem step_len {c : Int × List Int} {code : List (Int × Int)} {a : List Int} {r : Int × Int} {time : Int} : (stepM c code a r time).1.2.length ≤ c.2.length + 2 ∧ (stepM c code a r time).2.1.length = a.length ∧ (trapM c code a r = 0 → c.2.length ≤ 8) ∧ (trapM c code a r ≠ 0 → (stepM c code a r time).1 = c) := by
 unfold stepM
 split
 ·rename_i h
  exact ⟨doX_len.st, doX_len.ar, fun _ => (trap0 h).1.2.1, fun h' => absurd h h'⟩
 ·rename_i h
  exact ⟨by dsimp only; omega, rfl, fun h' => absurd h' h, fun _ => rfl⟩
end Go.Proofs.YtefidhlonfiicaaGreat.Pure
/- Ports: when they are right; what is sent and taken by the program. No condition. -/
namespace Go.Proofs.YtefidhlonfiicaaGreat.Pure
open Go Go.Proofs.YtefidhlonfiicaaGreatA Go.Proofs.YtefidhlonfiicaaGreatU Go.Proofs.YtefidhlonfiicaaGreat.QA
set_option linter.unusedVariables false
set_option linter.unusedSimpArgs false
abbrev Port5 := Int × Int × Int × Int × Int
abbrev M2 : Ty := .pair (.int .i64) (.int .i64)
structure PortOk (p : Port5) : Prop where
 fr : 1 ≤ p.2.1 ∧ p.2.1 ≤ 4
 tp : 1 ≤ p.2.2.1 ∧ p.2.2.1 ≤ 4
 ne : ¬ p.2.1 = p.2.2.1
 kd : (p.1 = 1 ∧ (1 ≤ p.2.2.2.1 ∧ p.2.2.2.1 ≤ 6) ∧ p.2.2.2.2 = 0) ∨ (p.1 = 2 ∧ p.2.2.2.1 = 1 ∧ (1 ≤ p.2.2.2.2 ∧ p.2.2.2.2 ≤ 100))
theorem isPart_p {k : Nat} (x : Int) : impl_isPart.f k x = some (decide (1 ≤ x ∧ x ≤ 4)) := by
 unfold impl_isPart.f
 rw [in_i]
 rfl
theorem portOk_i {k : Nat} {p : Port5} : impl_PortOk.f k p = some (B (PortOk p)) := by
 refine ok_eq ?_
 unfold impl_PortOk.f
 simp only [isPart_p, in_i, Option.bind_some, decide_eq_true_eq]
 have no : ¬ PortOk p → Ok (some false) (fun r => r = B (PortOk p)) := fun h => ok_some (B_no h).symm
 refine ok_if (fun h => no (fun g => h g.fr)) (fun h1 => ok_if (fun h => no (fun g => h g.tp)) (fun h2 => ok_if (fun h => no (fun g => g.ne h)) (fun h3 => ok_if (fun h4 => ?_) (fun h4 => ?_))))
 ·refine ok_if (fun h5 => ok_some (B_of (decide_eq_true_iff.trans ⟨fun h => ⟨Classical.not_not.1 h1, Classical.not_not.1 h2, h3, .inl ⟨h4, h5, h⟩⟩, fun g => ?_⟩))) (fun h5 => no (fun g => ?_))
  ·rcases g.kd with h | h
   ·exact h.2.2
   ·exact absurd h.1 (by omega)
  ·rcases g.kd with h | h
   ·exact h5 h.2.1
   ·exact absurd h.1 (by omega)
 ·refine ok_if (fun h5 => ok_if (fun h6 => ok_some (B_of (decide_eq_true_iff.trans ⟨fun h => ⟨Classical.not_not.1 h1, Classical.not_not.1 h2, h3, .inr ⟨h5, h6, h⟩⟩, fun g => ?_⟩))) (fun h6 => no (fun g => ?_))) (fun h5 => no (fun g => ?_))
  ·rcases g.kd with h | h
   ·exact absurd h.1 h4
   ·exact h.2.2
  ·rcases g.kd with h | h
   ·exact h4 h.1
   ·exact h6 h.2.1
  ·rcases g.kd with h | h
   ·exact h4 h.1
   ·exact h5 h.1
/-- What has been sent, and when it was. -/
def Stamps (l : List (Int × Int)) : Prop := ∀ x, x ∈ l → -9223372036854775808 ≤ x.2 ∧ x.2 < 9223372036854775808
end Go.Proofs.YtefidhlonfiicaaGreat.Pure
/- Ports: when the reference tells that they are right. No condition. -/
namespace Go.Proofs.YtefidhlonfiicaaGreat.Pure
open Go Go.Proofs.YtefidhlonfiicaaGreatA Go.Proofs.YtefidhlonfiicaaGreatU Go.Proofs.YtefidhlonfiicaaGreat.QA
set_option linter.unusedVariables false
set_option linter.unusedSimpArgs false
theorem portOk_s {k : Nat} {p : Port5} : spec_PortOk.f k p = some (B (PortOk p)) := by
 have h : spec_PortOk.f k p = impl_PortOk.f k p := by
  unfold spec_PortOk.f impl_PortOk.f
  simp only [isPart_p, in_i, in_s, Option.bind_some]
 rw [h, portOk_i]
end Go.Proofs.YtefidhlonfiicaaGreat.Pure
/- Rules: which one is first, and when they are right. No condition. -/
namespace Go.Proofs.YtefidhlonfiicaaGreat.Pure
open Go Go.Proofs.YtefidhlonfiicaaGreatA Go.Proofs.YtefidhlonfiicaaGreatU Go.Proofs.YtefidhlonfiicaaGreat.QA
set_option linter.unusedVariables false
abbrev R3 : Ty := .pair (.int .i64) (.pair (.int .i64) (.int .i64))
def Fits (r : Int × Int × Int) (p f : Int) : Prop := r.1 = p ∧ r.2.1 = f
instance (r : Int × Int × Int) (p f : Int) : Decidable (Fits r p f) := inferInstanceAs (Decidable (_ ∧ _))
theorem ruleFor_ok {k : Nat} {L : List (Int × Int × Int)} {p f : Int} (hl : L.length ≤ 1048576) (hk : 1048576 < k) :
  Ok (impl_ruleFor.f k L p f) (fun r => (r = -1 ∧ ∀ j, j < L.length → ¬ Fits (el R3 L j) p f) ∨ ∃ i : Nat, r = (i : Int) ∧ i < L.length ∧ Fits (el R3 L i) p f ∧ ∀ j, j < i → ¬ Fits (el R3 L j) p f) := by
 unfold impl_ruleFor.f
 refine ok_loop (L := impl_ruleFor.l1 k) (I := fun d s => ∃ j : Nat, s = (p, f, (L.length : Int), (j : Int), L, ()) ∧ j + d = L.length ∧ ∀ i, i < j → ¬ Fits (el R3 L i) p f) ?_ k L.length _ (by omega) ⟨0, rfl, by omega, fun i hi => absurd hi (by omega)⟩
 rintro d n s ⟨j, rfl, hd, hq⟩ ih
 rw [impl_ruleFor.l1]
 refine ok_if (fun hc => ?_) (fun hc => ok_some (.inl ⟨rfl, fun i hi => hq i (by omega)⟩))
 rw [if_pos (by omega), if_pos hc]
 simp only [Int.toNat_natCast]
 have h4 : w64 ((j : Int) + 1) = ((j + 1 : Nat) : Int) := w64_id (by omega) (by omega)
 rw [h4]
 have go : ¬ Fits (el R3 L j) p f → Ok (impl_ruleFor.l1 k n (p, f, (L.length : Int), ((j + 1 : Nat) : Int), L, ())) _ := fun hf => ih (d - 1) _ (by omega) ⟨j + 1, rfl, by omega, fun i hi => by
  rcases Nat.lt_or_ge i j with h | h
  ·exact hq i h
  ·obtain rfl : i = j := by omega
   exact hf⟩
 refine ok_if (fun h1 => ok_if (fun h2 => ok_some (.inr ⟨j, rfl, by omega, ⟨h1, h2⟩, hq⟩)) (fun h2 => go (fun h => h2 h.2))) (fun h1 => go (fun h => h1 h.1))
/-! ### rules that are right -/
def RuleIn (r : Int × Int × Int) : Prop := (1 ≤ r.1 ∧ r.1 ≤ 4) ∧ (1 ≤ r.2.1 ∧ r.2.1 ≤ 2) ∧ (0 ≤ r.2.2 ∧ r.2.2 ≤ 4) ∧ ¬ (r.2.1 = 1 ∧ r.2.2 = 0)
def RuleAt (L : List (Int × Int × Int)) (i : Nat) : Prop := RuleIn (el R3 L i) ∧ ∀ j, j < i → ¬ Fits (el R3 L j) (el R3 L i).1 (el R3 L i).2.1
def RulesOk (L : List (Int × Int × Int)) : Prop := (∀ i, i < L.length → RuleAt L i) ∧ L.length ≤ 8
theorem isPart_i {k : Nat} (x : Int) : impl_isPart.f k x = some (decide (1 ≤ x ∧ x ≤ 4)) := by
 unfold impl_isPart.f
 rw [in_i]
 rfl
theorem rulesOk_i {k : Nat} {L : List (Int × Int × Int)} (hl : L.length ≤ 1048576) (hk : 1048576 < k) : impl_RulesOk.f k L = some (B (RulesOk L)) := by
 refine ok_eq ?_
 unfold impl_RulesOk.f
 refine ok_loop (L := impl_RulesOk.l1 k) (I := fun d s => ∃ j : Nat, s = ((L.length : Int), (j : Int), L, ()) ∧ j + d = L.length ∧ ∀ i, i < j → RuleAt L i) ?_ k L.length _ (by omega) ⟨0, rfl, by omega, fun i hi => absurd hi (by omega)⟩
 rintro d n s ⟨j, rfl, hd, hq⟩ ih
 rw [impl_RulesOk.l1]
 refine ok_if (fun hc => ?_) (fun hc => ok_some ?_)
 ·rw [if_pos (by omega), if_pos hc]
  simp only [Int.toNat_natCast, isPart_i, in_i, Option.bind_some, decide_eq_true_eq]
  have h4 : w64 ((j : Int) + 1) = ((j + 1 : Nat) : Int) := w64_id (by omega) (by omega)
  rw [h4]
  have bad : ¬ RuleAt L j → Ok (some false) (fun r => r = B (RulesOk L)) := fun h => ok_some (B_no (fun hr => h (hr.1 j (by omega)))).symm
  have go : RuleAt L j → Ok (impl_RulesOk.l1 k n ((L.length : Int), ((j + 1 : Nat) : Int), L, ())) (fun r => r = B (RulesOk L)) := fun hf => ih (d - 1) _ (by omega) ⟨j + 1, rfl, by omega, fun i hi => by
   rcases Nat.lt_or_ge i j with h | h
   ·exact hq i h
   ·obtain rfl : i = j := by omega
    exact hf⟩
  refine ok_if (fun h1 => bad (fun h => h1 h.1.1)) (fun h1 => ok_if (fun h2 => bad (fun h => h2 h.1.2.1)) (fun h2 => ok_if (fun h3 => bad (fun h => h3 h.1.2.2.1)) (fun h3 => ?_)))
  refine ok_bind (ruleFor_ok hl hk) (fun r hr => ?_)
  refine ok_if (fun h5 => bad (fun h => ?_)) (fun h5 => ?_)
  ·rcases hr with ⟨rfl, hn⟩ | ⟨i, rfl, hi, hf, hn⟩
   ·exact hn j (by omega) ⟨rfl, rfl⟩
   ·rcases Nat.lt_trichotomy i j with h' | h' | h'
    ·exact h.2 i h' hf
    ·exact h5 (by omega)
    ·exact hn j h' ⟨rfl, rfl⟩
  ·have h5' := Classical.not_not.1 h5
   have hn : ∀ i, i < j → ¬ Fits (el R3 L i) (el R3 L j).1 (el R3 L j).2.1 := by
    rcases hr with ⟨rfl, hn⟩ | ⟨i, rfl, hi, hf, hn⟩
    ·exact absurd h5' (by omega)
    ·obtain rfl : i = j := by omega
     exact hn
   have g : ¬ ((el R3 L j).2.1 = 1 ∧ (el R3 L j).2.2 = 0) → RuleAt L j := fun h6 => ⟨⟨Classical.not_not.1 h1, Classical.not_not.1 h2, Classical.not_not.1 h3, h6⟩, hn⟩
   exact ok_if (fun h6 => ok_if (fun h7 => bad (fun h => h.1.2.2.2 ⟨h6, h7⟩)) (fun h7 => go (g (fun h => h7 h.2)))) (fun h6 => go (g (fun h => h6 h.1)))
 ·refine B_of (decide_eq_true_iff.trans ⟨fun h => ⟨fun i hi => hq i (by omega), by omega⟩, fun h => ?_⟩)
  have := h.2
  omega
theorem rulesOk_s {k : Nat} {L : List (Int × Int × Int)} (hl : L.length ≤ 1048576) (hk : 1048576 < k) : spec_RulesOk.f k L = some (B (RulesOk L)) := by
 refine ok_eq ?_
 unfold spec_RulesOk.f
 refine ok_loop (L := spec_RulesOk.l1 k) (I := fun d s => ∃ j : Nat, s = ((j : Int), L, ()) ∧ j + d = L.length ∧ ∀ i, i < j → RuleAt L i) ?_ k L.length _ (by omega) ⟨0, rfl, by omega, fun i hi => absurd hi (by omega)⟩
 rintro d n s ⟨j, rfl, hd, hq⟩ ih
 rw [spec_RulesOk.l1]
 refine ok_if (fun hc => ?_) (fun hc => ok_some ?_)
 ·rw [if_pos (by omega), if_pos hc]
  simp only [Int.toNat_natCast, in_s, Option.bind_some, decide_eq_true_eq]
  have h4 : w64 ((j : Int) + 1) = ((j + 1 : Nat) : Int) := w64_id (by omega) (by omega)
  have bad : ¬ RuleAt L j → Ok (some false) (fun r => r = B (RulesOk L)) := fun h => ok_some (B_no (fun hr => h (hr.1 j (by omega)))).symm
  have go : RuleAt L j → Ok (spec_RulesOk.l1 k n (((j + 1 : Nat) : Int), L, ())) (fun r => r = B (RulesOk L)) := fun hf => ih (d - 1) _ (by omega) ⟨j + 1, rfl, by omega, fun i hi => by
   rcases Nat.lt_or_ge i j with h | h
   ·exact hq i h
   ·obtain rfl : i = j := by omega
    exact hf⟩
  refine ok_if (fun h1 => bad (fun h => h1 h.1.1)) (fun h1 => ok_if (fun h2 => bad (fun h => h2 h.1.2.1)) (fun h2 => ok_if (fun h3 => bad (fun h => h3 h.1.2.2.1)) (fun h3 => ?_)))
  have inner : ¬ ((el R3 L j).2.1 = 1 ∧ (el R3 L j).2.2 = 0) → Ok (spec_RulesOk.l2 k (spec_RulesOk.l1 k n) k ((j : Int), 0, (el R3 L j).1, (el R3 L j).2.1, (el R3 L j).2.2, L, ())) (fun r => r = B (RulesOk L)) := fun h6 => by
   refine ok_loop (L := spec_RulesOk.l2 k (spec_RulesOk.l1 k n)) (I := fun e s => ∃ i : Nat, s = ((j : Int), (i : Int), (el R3 L j).1, (el R3 L j).2.1, (el R3 L j).2.2, L, ()) ∧ i + e = j ∧ ∀ i', i' < i → ¬ Fits (el R3 L i') (el R3 L j).1 (el R3 L j).2.1) ?_ k j _ (by omega) ⟨0, rfl, by omega, fun i hi => absurd hi (by omega)⟩
   rintro e n' s ⟨i, rfl, he, hi⟩ ih2
   rw [spec_RulesOk.l2]
   refine ok_if (fun hc2 => ?_) (fun hc2 => ?_)
   ·have c0 : (0 : Int) ≤ (i : Int) := by omega
    have c1 : (i : Int) < (L.length : Int) := by omega
    have c2 : w64 ((i : Int) + 1) = ((i + 1 : Nat) : Int) := w64_id (by omega) (by omega)
    simp only [c0, c1, c2, ↓reduceIte, Int.toNat_natCast]
    have go2 : ¬ Fits (el R3 L i) (el R3 L j).1 (el R3 L j).2.1 → Ok (spec_RulesOk.l2 k (spec_RulesOk.l1 k n) n' ((j : Int), ((i + 1 : Nat) : Int), (el R3 L j).1, (el R3 L j).2.1, (el R3 L j).2.2, L, ())) (fun r => r = B (RulesOk L)) := fun hf => ih2 (e - 1) _ (by omega) ⟨i + 1, rfl, by omega, fun i' hi' => by
     rcases Nat.lt_or_ge i' i with h | h
     ·exact hi i' h
     ·obtain rfl : i' = i := by omega
      exact hf⟩
    exact ok_if (fun f1 => ok_if (fun f2 => bad (fun h => h.2 i (by omega) ⟨f1, f2⟩)) (fun f2 => go2 (fun h => f2 h.2))) (fun f1 => go2 (fun h => f1 h.1))
   ·rw [h4]
    exact go ⟨⟨Classical.not_not.1 h1, Classical.not_not.1 h2, Classical.not_not.1 h3, h6⟩, fun i' hi' => hi i' (by omega)⟩
  exact ok_if (fun h6 => ok_if (fun h7 => bad (fun h => h.1.2.2.2 ⟨h6, h7⟩)) (fun h7 => inner (fun h => h7 h.2))) (fun h6 => inner (fun h => h6 h.1))
 ·refine B_of (decide_eq_true_iff.trans ⟨fun h => ⟨fun i hi => hq i (by omega), by omega⟩, fun h => ?_⟩)
  have := h.2
  omega
end Go.Proofs.YtefidhlonfiicaaGreat.Pure
/- Plans: their time, and when they are right. No condition. -/
namespace Go.Proofs.YtefidhlonfiicaaGreat.Pure
open Go Go.Proofs.YtefidhlonfiicaaGreatA Go.Proofs.YtefidhlonfiicaaGreatU Go.Proofs.YtefidhlonfiicaaGreat.QA
set_option linter.unusedVariables false
abbrev W2 : Ty := .pair (.int .i64) (.int .i64)
def WinOk (w : Int × Int) : Prop := (1 ≤ w.1 ∧ w.1 ≤ 4) ∧ (1 ≤ w.2 ∧ w.2 ≤ 200)
def PlanOk (L : List (Int × Int)) : Prop := (∀ i, i < L.length → WinOk (el W2 L i)) ∧ 1 ≤ L.length ∧ L.length ≤ 12
theorem isPart_i' {k : Nat} (x : Int) : impl_isPart.f k x = some (decide (1 ≤ x ∧ x ≤ 4)) := by
 unfold impl_isPart.f
 rw [in_i]
 rfl
theorem isBudget_i {k : Nat} (x : Int) : impl_isBudget.f k x = some (decide (1 ≤ x ∧ x ≤ 200)) := by
 unfold impl_isBudget.f
 rw [in_i]
 rfl
theorem planOk_i {k : Nat} {L : List (Int × Int)} (hl : L.length ≤ 1048576) (hk : 1048576 < k) : impl_PlanOk.f k L = some (B (PlanOk L)) := by
 refine ok_eq ?_
 unfold impl_PlanOk.f
 refine ok_loop (L := impl_PlanOk.l1 k) (I := fun d s => ∃ j : Nat, s = ((L.length : Int), (j : Int), L, ()) ∧ j + d = L.length ∧ ∀ i, i < j → WinOk (el W2 L i)) ?_ k L.length _ (by omega) ⟨0, rfl, by omega, fun i hi => absurd hi (by omega)⟩
 rintro d n s ⟨j, rfl, hd, hq⟩ ih
 rw [impl_PlanOk.l1]
 refine ok_if (fun hc => ?_) (fun hc => ?_)
 ·rw [if_pos (by omega), if_pos hc]
  simp only [Int.toNat_natCast, isPart_i', isBudget_i, Option.bind_some, decide_eq_true_eq]
  have h4 : w64 ((j : Int) + 1) = ((j + 1 : Nat) : Int) := w64_id (by omega) (by omega)
  rw [h4]
  have bad : ¬ WinOk (el W2 L j) → Ok (some false) (fun r => r = B (PlanOk L)) := fun h => ok_some (B_no (fun hr => h (hr.1 j (by omega)))).symm
  refine ok_if (fun h => bad (fun g => h g.1)) (fun h1 => ok_if (fun h => bad (fun g => h g.2)) (fun h2 => ?_))
  exact ih (d - 1) _ (by omega) ⟨j + 1, rfl, by omega, fun i hi => by
   rcases Nat.lt_or_ge i j with h | h
   ·exact hq i h
   ·obtain rfl : i = j := by omega
    exact ⟨Classical.not_not.1 h1, Classical.not_not.1 h2⟩⟩
 ·rw [in_i]
  refine ok_let (ok_some ?_)
  refine B_of (decide_eq_true_iff.trans ⟨fun h => ⟨fun i hi => hq i (by omega), by omega, by omega⟩, fun h => ?_⟩)
  have := h.2
  omega
end Go.Proofs.YtefidhlonfiicaaGreat.Pure
/- Set-ups: their faults. No condition. -/
namespace Go.Proofs.YtefidhlonfiicaaGreat.Pure
open Go Go.Proofs.YtefidhlonfiicaaGreatA Go.Proofs.YtefidhlonfiicaaGreatU Go.Proofs.YtefidhlonfiicaaGreat.QA
set_option linter.unusedVariables false
set_option linter.unusedSimpArgs false
abbrev P5 : Ty := .pair (.int .i64) (.pair (.int .i64) (.pair (.int .i64) (.pair (.int .i64) (.int .i64))))
abbrev Setup := List (Int × Int) × List (Int × Int) × List Port5 × List (Int × Int × Int) × List ByteArray
theorem allS {p : Nat → Prop} {j : Nat} (h : ∀ i, i < j → p i) (hj : p j) : ∀ i, i < j + 1 → p i := fun i hi => by
 rcases Nat.lt_or_ge i j with h' | h'
 ·exact h i h'
 ·obtain rfl : i = j := by omega
  exact hj
/-! ### regions -/
def RegIn (r : Int × Int) : Prop := 0 ≤ r.1 ∧ 1 ≤ r.2 ∧ r.2 ≤ 64 ∧ r.1 ≤ 64 - r.2
def Over (r o : Int × Int) : Prop := r.1 < o.1 + o.2 ∧ o.1 < r.1 + r.2
def RegAt (L : List (Int × Int)) (i : Nat) : Prop := RegIn (el W2 L i) ∧ ∀ j, j < i → ¬ Over (el W2 L i) (el W2 L j)
def RegionsOk (L : List (Int × Int)) : Prop := (∀ i, i < L.length → RegAt L i) ∧ 1 ≤ L.length ∧ L.length ≤ 4
theorem regionsOk_i {k : Nat} {L : List (Int × Int)} (hl : L.length ≤ 1048576) (hk : 1048576 < k) : impl_RegionsOk.f k L = some (B (RegionsOk L)) := by
 refine ok_eq ?_
 unfold impl_RegionsOk.f
 refine ok_loop (L := impl_RegionsOk.l1 k) (I := fun d s => ∃ j : Nat, s = ((L.length : Int), (j : Int), L, ()) ∧ j + d = L.length ∧ ∀ i, i < j → RegAt L i) ?_ k L.length _ (by omega) ⟨0, rfl, by omega, fun i hi => absurd hi (by omega)⟩
 rintro d n s ⟨j, rfl, hd, hq⟩ ih
 rw [impl_RegionsOk.l1]
 refine ok_if (fun hc => ?_) (fun hc => ?_)
 ·have hj : j < L.length := by omega
  have c0 : (0 : Int) ≤ (j : Int) := by omega
  have c1 : (j : Int) ≤ (L.length : Int) := by omega
  have h4 : w64 ((j : Int) + 1) = ((j + 1 : Nat) : Int) := w64_id (by omega) (by omega)
  have bad : ¬ RegAt L j → Ok (some false) (fun r => r = B (RegionsOk L)) := fun h => ok_some (B_no (fun hr => h (hr.1 j hj))).symm
  have go : RegAt L j → Ok (impl_RegionsOk.l1 k n ((L.length : Int), ((j + 1 : Nat) : Int), L, ())) (fun r => r = B (RegionsOk L)) := fun h => ih (d - 1) _ (by omega) ⟨j + 1, rfl, by omega, allS hq h⟩
  obtain ⟨fr, z, hxe⟩ : ∃ fr z : Int, el W2 L j = (fr, z) := ⟨_, _, rfl⟩
  unfold RegAt at bad go
  rw [hxe] at bad go
  simp only [c0, c1, hc, ↓reduceIte, Int.toNat_natCast, show el (.pair (.int .i64) (.int .i64)) L j = (fr, z) from hxe]
  refine ok_if (fun (h1 : fr < (0 : Int)) => bad (fun h => ?_)) (fun (h1 : ¬ fr < (0 : Int)) => ok_if (fun (h2 : z < (1 : Int)) => bad (fun h => ?_)) (fun (h2 : ¬ z < (1 : Int)) => ok_if (fun (h3 : (64 : Int) < z) => bad (fun h => ?_)) (fun (h3 : ¬ (64 : Int) < z) => ?_)))
  ·have := h.1.1; dsimp only at this; omega
  ·have := h.1.2.1; dsimp only at this; omega
  ·have := h.1.2.2.1; dsimp only at this; omega
  ·rw [w64_id (z := 64 - z) (by omega) (by omega)]
   refine ok_if (fun (h5 : 64 - z < fr) => bad (fun h => ?_)) (fun (h5 : ¬ 64 - z < fr) => ?_)
   ·have := h.1.2.2.2; dsimp only at this; omega
   ·have hin : RegIn (fr, z) := ⟨by dsimp only; omega, by dsimp only; omega, by dsimp only; omega, by dsimp only; omega⟩
    have htl : (L.take j).length = j := by rw [List.length_take]; omega
    refine ok_loop (L := impl_RegionsOk.l2 k (impl_RegionsOk.l1 k n)) (I := fun e s => ∃ i : Nat, s = ((L.length : Int), (j : Int), ((j : Nat) : Int), (i : Int), fr, z, L, L.take j, ()) ∧ i + e = j ∧ ∀ i', i' < i → ¬ Over (fr, z) (el W2 L i')) ?_ k j _ (by omega) ⟨0, rfl, by omega, fun i hi => absurd hi (by omega)⟩
    rintro e n' s ⟨i, rfl, he, hi⟩ ih2
    rw [impl_RegionsOk.l2]
    refine ok_if (fun hc2 => ?_) (fun hc2 => ?_)
    ·have hij : i < j := by omega
     have c2 : (0 : Int) ≤ (i : Int) := by omega
     have c3 : (i : Int) < ((L.take j).length : Int) := by omega
     have c4 : w64 ((i : Int) + 1) = ((i + 1 : Nat) : Int) := w64_id (by omega) (by omega)
     have et : el W2 (L.take j) i = el W2 L i := el_at (t := W2) (by rw [List.getElem?_take, if_pos hij]; exact el_lt (t := W2) (by omega))
     obtain ⟨f2, z2, hx2⟩ : ∃ f2 z2 : Int, el W2 L i = (f2, z2) := ⟨_, _, rfl⟩
     have hin2 := (hq i hij).1
     rw [hx2] at hin2
     obtain ⟨q1, q2, q3, q4⟩ := hin2
     obtain ⟨p1, p2, p3, p4⟩ := hin
     simp only at q1 q2 q3 q4 p1 p2 p3 p4
     simp only [c2, c3, c4, ↓reduceIte, Int.toNat_natCast, show el (.pair (.int .i64) (.int .i64)) (L.take j) i = (f2, z2) from et.trans hx2]
     rw [w64_id (z := f2 + z2) (by omega) (by omega), w64_id (z := fr + z) (by omega) (by omega)]
     have go2 : ¬ Over (fr, z) (f2, z2) → Ok (impl_RegionsOk.l2 k (impl_RegionsOk.l1 k n) n' ((L.length : Int), (j : Int), ((j : Nat) : Int), ((i + 1 : Nat) : Int), fr, z, L, L.take j, ())) (fun r => r = B (RegionsOk L)) := fun h => ih2 (e - 1) _ (by omega) ⟨i + 1, rfl, by omega, allS hi (by rw [hx2]; exact h)⟩
     refine ok_if (fun o1 => ok_if (fun o2 => bad (fun h => h.2 i hij (by rw [hx2]; exact ⟨o1, o2⟩))) (fun o2 => go2 (fun h => o2 h.2))) (fun o1 => go2 (fun h => o1 h.1))
    ·rw [h4]
     exact go ⟨hin, fun i' hi' => hi i' (by omega)⟩
 ·rw [in_i]
  refine ok_let (ok_some (B_of (decide_eq_true_iff.trans ⟨fun h => ⟨fun i hi => hq i (by omega), by omega, by omega⟩, fun h => ?_⟩)))
  have := h.2
  omega
theorem regionsOk_s {k : Nat} {L : List (Int × Int)} (hl : L.length ≤ 1048576) (hk : 1048576 < k) : spec_RegionsOk.f k L = some (B (RegionsOk L)) := by
 refine ok_eq ?_
 unfold spec_RegionsOk.f
 refine ok_loop (L := spec_RegionsOk.l1 k) (I := fun d s => ∃ j : Nat, s = ((j : Int), L, ()) ∧ j + d = L.length ∧ ∀ i, i < j → RegAt L i) ?_ k L.length _ (by omega) ⟨0, rfl, by omega, fun i hi => absurd hi (by omega)⟩
 rintro d n s ⟨j, rfl, hd, hq⟩ ih
 rw [spec_RegionsOk.l1]
 refine ok_if (fun hc => ?_) (fun hc => ?_)
 ·have hj : j < L.length := by omega
  have c0 : (0 : Int) ≤ (j : Int) := by omega
  have h4 : w64 ((j : Int) + 1) = ((j + 1 : Nat) : Int) := w64_id (by omega) (by omega)
  have bad : ¬ RegAt L j → Ok (some false) (fun r => r = B (RegionsOk L)) := fun h => ok_some (B_no (fun hr => h (hr.1 j hj))).symm
  have go : RegAt L j → Ok (spec_RegionsOk.l1 k n (((j + 1 : Nat) : Int), L, ())) (fun r => r = B (RegionsOk L)) := fun h => ih (d - 1) _ (by omega) ⟨j + 1, rfl, by omega, allS hq h⟩
  obtain ⟨fr, z, hxe⟩ : ∃ fr z : Int, el W2 L j = (fr, z) := ⟨_, _, rfl⟩
  unfold RegAt at bad go
  rw [hxe] at bad go
  simp only [c0, hc, ↓reduceIte, Int.toNat_natCast, show el (.pair (.int .i64) (.int .i64)) L j = (fr, z) from hxe, in_s, Option.bind_some, decide_eq_true_eq]
  refine ok_if (fun h1 => bad (fun h => ?_)) (fun h1 => ?_)
  ·obtain ⟨p1, p2, p3, p4⟩ := h.1
   simp only at p1 p2 p3 p4
   omega
  ·have h1' := Classical.not_not.1 h1
   rw [w64_id (z := 64 - fr) (by omega) (by omega)]
   refine ok_if (fun h2 => bad (fun h => ?_)) (fun h2 => ?_)
   ·obtain ⟨p1, p2, p3, p4⟩ := h.1
    simp only at p1 p2 p3 p4
    omega
   ·have hin : RegIn (fr, z) := ⟨by dsimp only; omega, by dsimp only; omega, by dsimp only; omega, by dsimp only; omega⟩
    refine ok_loop (L := spec_RegionsOk.l2 k (spec_RegionsOk.l1 k n)) (I := fun e s => ∃ i : Nat, s = ((j : Int), (i : Int), fr, z, L, ()) ∧ i + e = j ∧ ∀ i', i' < i → ¬ Over (fr, z) (el W2 L i')) ?_ k j _ (by omega) ⟨0, rfl, by omega, fun i hi => absurd hi (by omega)⟩
    rintro e n' s ⟨i, rfl, he, hi⟩ ih2
    rw [spec_RegionsOk.l2]
    refine ok_if (fun hc2 => ?_) (fun hc2 => ?_)
    ·have hij : i < j := by omega
     have c2 : (0 : Int) ≤ (i : Int) := by omega
     have c3 : (i : Int) < (L.length : Int) := by omega
     have c4 : w64 ((i : Int) + 1) = ((i + 1 : Nat) : Int) := w64_id (by omega) (by omega)
     obtain ⟨f2, z2, hx2⟩ : ∃ f2 z2 : Int, el W2 L i = (f2, z2) := ⟨_, _, rfl⟩
     have hin2 := (hq i hij).1
     rw [hx2] at hin2
     obtain ⟨q1, q2, q3, q4⟩ := hin2
     obtain ⟨p1, p2, p3, p4⟩ := hin
     simp only at q1 q2 q3 q4 p1 p2 p3 p4
     simp only [c2, c3, c4, ↓reduceIte, Int.toNat_natCast, show el (.pair (.int .i64) (.int .i64)) L i = (f2, z2) from hx2]
     rw [w64_id (z := f2 + z2) (by omega) (by omega), w64_id (z := fr + z) (by omega) (by omega)]
     have go2 : ¬ Over (fr, z) (f2, z2) → Ok (spec_RegionsOk.l2 k (spec_RegionsOk.l1 k n) n' ((j : Int), ((i + 1 : Nat) : Int), fr, z, L, ())) (fun r => r = B (RegionsOk L)) := fun h => ih2 (e - 1) _ (by omega) ⟨i + 1, rfl, by omega, allS hi (by rw [hx2]; exact h)⟩
     refine ok_if (fun o1 => ok_if (fun o2 => bad (fun h => h.2 i hij (by rw [hx2]; exact ⟨o1, o2⟩))) (fun o2 => go2 (fun h => o2 h.2))) (fun o1 => go2 (fun h => o1 h.1))
    ·rw [h4]
     exact go ⟨hin, fun i' hi' => hi i' (by omega)⟩
 ·rw [in_s]
  refine ok_let (ok_some (B_of (decide_eq_true_iff.trans ⟨fun h => ⟨fun i hi => hq i (by omega), by omega, by omega⟩, fun h => ?_⟩)))
  have := h.2
  omega
theorem planOk_s {k : Nat} {L : List (Int × Int)} (hl : L.length ≤ 1048576) (hk : 1048576 < k) : spec_PlanOk.f k L = some (B (PlanOk L)) := by
 refine ok_eq ?_
 unfold spec_PlanOk.f
 refine ok_loop (L := spec_PlanOk.l1 k) (I := fun d s => ∃ j : Nat, s = ((j : Int), L, ()) ∧ j + d = L.length ∧ ∀ i, i < j → WinOk (el W2 L i)) ?_ k L.length _ (by omega) ⟨0, rfl, by omega, fun i hi => absurd hi (by omega)⟩
 rintro d n s ⟨j, rfl, hd, hq⟩ ih
 rw [spec_PlanOk.l1]
 refine ok_if (fun hc => ?_) (fun hc => ?_)
 ·have c0 : (0 : Int) ≤ (j : Int) := by omega
  have h4 : w64 ((j : Int) + 1) = ((j + 1 : Nat) : Int) := w64_id (by omega) (by omega)
  simp only [c0, hc, ↓reduceIte, Int.toNat_natCast, in_s, h4, Option.bind_some, decide_eq_true_eq]
  have bad : ¬ WinOk (el W2 L j) → Ok (some false) (fun r => r = B (PlanOk L)) := fun h => ok_some (B_no (fun hr => h (hr.1 j (by omega)))).symm
  refine ok_if (fun h => bad (fun g => h g.1)) (fun h1 => ok_if (fun h => bad (fun g => h g.2)) (fun h2 => ?_))
  exact ih (d - 1) _ (by omega) ⟨j + 1, rfl, by omega, allS hq ⟨Classical.not_not.1 h1, Classical.not_not.1 h2⟩⟩
 ·rw [in_s]
  refine ok_let (ok_some (B_of (decide_eq_true_iff.trans ⟨fun h => ⟨fun i hi => hq i (by omega), by omega, by omega⟩, fun h => ?_⟩)))
  have := h.2
  omega
/-! ### codes -/
def CodeRead (s : ByteArray) : Prop := s.size % 2 = 0 ∧ s.size ≤ 120
/-- The instructions that stand in a text's bytes. -/
def insOf (s : ByteArray) (n : Nat) : List (Int × Int) := (List.range n).map fun i => (bt s ((2 * i : Nat) : Int), bt s ((2 * i + 1 : Nat) : Int))
theorem insOf_len (s : ByteArray) (n : Nat) : (insOf s n).length = n := by simp [insOf]
theorem insOf_next (s : ByteArray) (n : Nat) : insOf s (n + 1) = insOf s n ++ [(bt s ((2 * n : Nat) : Int), bt s ((2 * n + 1 : Nat) : Int))] := by simp [insOf, List.range_succ]
noncomputable def readM (s : ByteArray) : List (Int × Int) × Bool := if B (CodeRead s) = true then (insOf s (s.size / 2), true) else ([], false)
theorem bt_in (s : ByteArray) (i : Int) : 0 ≤ bt s i ∧ bt s i ≤ 255 := by
 unfold bt
 have := (s.toList.getD i.toNat 0).toNat_lt
 omega
theorem tmod2 (n : Nat) : (Int.tmod (n : Int) 2 = 0) ↔ n % 2 = 0 := by
 rw [Int.tmod_eq_emod_of_nonneg (by omega)]
 omega
theorem read_i {k : Nat} {s : ByteArray} (hk : 1048576 < k) : impl_ReadCode.f k s = some (readM s) := by
 refine ok_eq ?_
 unfold impl_ReadCode.f readM
 refine ok_if (fun h => ok_some ?_) (fun h1 => ok_if (fun h => ok_some ?_) (fun h2 => ok_let ?_))
 ·rw [B_no (fun g => h ((tmod2 _).2 g.1))]
  rfl
 ·rw [B_no (fun g => by have := g.2; omega)]
  rfl
 ·have h0 : s.size % 2 = 0 := (tmod2 _).1 (Classical.not_not.1 h1)
  rw [B_yes ⟨h0, by omega⟩, if_pos rfl]
  refine ok_loop (L := impl_ReadCode.l1 k) (I := fun d t => ∃ j : Nat, t = (s, ((2 * j : Nat) : Int), insOf s j, ()) ∧ j + d = s.size / 2) ?_ k (s.size / 2) _ (by omega) ⟨0, rfl, by omega⟩
  rintro d n t ⟨j, rfl, hd⟩ ih
  rw [impl_ReadCode.l1]
  refine ok_if (fun hc => ?_) (fun hc => ok_some ?_)
  ·have c0 : (0 : Int) ≤ ((2 * j : Nat) : Int) := by omega
   have c1 : w64 (((2 * j : Nat) : Int) + 1) = ((2 * j + 1 : Nat) : Int) := by rw [w64_id (by omega) (by omega)]; omega
   have c2 : (0 : Int) ≤ ((2 * j + 1 : Nat) : Int) := by omega
   have c3 : ((2 * j + 1 : Nat) : Int) < (s.size : Int) := by omega
   have c4 : w64 (((2 * j : Nat) : Int) + 2) = ((2 * (j + 1) : Nat) : Int) := by rw [w64_id (by omega) (by omega)]; omega
   have b1 := bt_in s ((2 * j : Nat) : Int)
   have b2 := bt_in s ((2 * j + 1 : Nat) : Int)
   have hl := insOf_len s j
   simp only [c0, hc, c1, c2, c3, c4, ↓reduceIte, Option.bind_some, List.length_cons, List.length_nil]
   rw [w64_id (z := bt s ((2 * j : Nat) : Int)) (by omega) (by omega), w64_id (z := bt s ((2 * j + 1 : Nat) : Int)) (by omega) (by omega), if_pos (by omega), ← insOf_next]
   exact ih (d - 1) _ (by omega) ⟨j + 1, rfl, by omega⟩
  ·obtain rfl : j = s.size / 2 := by omega
   rfl
theorem read_s {k : Nat} {s : ByteArray} (hk : 1048576 < k) : spec_ReadCode.f k s = some (readM s) := by
 have hl : ∀ n t, spec_ReadCode.l1 k n t = impl_ReadCode.l1 k n t := by
  intro n
  induction n with
  | zero => intro t; rfl
  | succ n ih =>
   rintro ⟨a, b, c, u⟩
   simp only [spec_ReadCode.l1, impl_ReadCode.l1, ih]
 rw [← read_i (s := s) hk]
 unfold spec_ReadCode.f impl_ReadCode.f
 simp only [Option.bind_some, hl]
def CodesOk (L : List ByteArray) (n : Int) : Prop := (∀ i, i < L.length → CodeRead (el .str L i)) ∧ (L.length : Int) = n
theorem codesOk_i {k : Nat} {L : List ByteArray} {n : Int} (hl : L.length ≤ 1048576) (hk : 1048576 < k) : impl_codesOk.f k L n = some (B (CodesOk L n)) := by
 refine ok_eq ?_
 unfold impl_codesOk.f
 refine ok_loop (L := impl_codesOk.l1 k) (I := fun d s => ∃ j : Nat, s = (n, (L.length : Int), (j : Int), L, ()) ∧ j + d = L.length ∧ ∀ i, i < j → CodeRead (el .str L i)) ?_ k L.length _ (by omega) ⟨0, rfl, by omega, fun i hi => absurd hi (by omega)⟩
 rintro d m s ⟨j, rfl, hd, hq⟩ ih
 rw [impl_codesOk.l1]
 refine ok_if (fun hc => ok_grd (by omega) (ok_grd hc ?_)) (fun hc => ok_some (B_of (decide_eq_true_iff.trans ⟨fun h => ⟨fun i hi => hq i (by omega), h⟩, fun h => h.2⟩)))
 have h4 : w64 ((j : Int) + 1) = ((j + 1 : Nat) : Int) := w64_id (by omega) (by omega)
 rw [read_i hk, h4]
 simp only [Int.toNat_natCast, Option.bind_some]
 by_cases h : CodeRead (el .str L j)
 ·have e : (readM (el .str L j)).2 = true := by
   unfold readM
   rw [B_yes h, if_pos rfl]
  rw [if_neg (fun g => g e)]
  exact ih (d - 1) _ (by omega) ⟨j + 1, rfl, by omega, allS hq h⟩
 ·have e : (readM (el .str L j)).2 = false := by
   unfold readM
   rw [B_no h]
   rfl
  rw [if_pos (by rw [e]; simp)]
  exact ok_some (B_no (fun g => h (g.1 j (by omega)))).symm
/-! ### ports and parts -/
def PortsOk (L : List Port5) : Prop := (∀ i, i < L.length → PortOk (el P5 L i)) ∧ L.length ≤ 6
theorem portsOk_i {k : Nat} {L : List Port5} (hl : L.length ≤ 1048576) (hk : 1048576 < k) : impl_portsOk.f k L = some (B (PortsOk L)) := by
 refine ok_eq ?_
 unfold impl_portsOk.f
 refine ok_loop (L := impl_portsOk.l1 k) (I := fun d s => ∃ j : Nat, s = ((L.length : Int), (j : Int), L, ()) ∧ j + d = L.length ∧ ∀ i, i < j → PortOk (el P5 L i)) ?_ k L.length _ (by omega) ⟨0, rfl, by omega, fun i hi => absurd hi (by omega)⟩
 rintro d m s ⟨j, rfl, hd, hq⟩ ih
 rw [impl_portsOk.l1]
 refine ok_if (fun hc => ok_grd (by omega) (ok_grd hc ?_)) (fun hc => ok_some (B_of (decide_eq_true_iff.trans ⟨fun h => ⟨fun i hi => hq i (by omega), by omega⟩, fun h => by have := h.2; omega⟩)))
 have h4 : w64 ((j : Int) + 1) = ((j + 1 : Nat) : Int) := w64_id (by omega) (by omega)
 rw [portOk_i, h4]
 simp only [Int.toNat_natCast]
 refine ok_let (ok_if (fun h => ok_some (B_no (fun g => h (B_yes (g.1 j (by omega))))).symm) (fun h => ?_))
 exact ih (d - 1) _ (by omega) ⟨j + 1, rfl, by omega, allS hq (B_iff.1 (Classical.not_not.1 h))⟩
structure PartsOk (s : Setup) : Prop where
 wins : ∀ i, i < s.2.1.length → (el W2 s.2.1 i).1 ≤ (s.1.length : Int)
 pfr : ∀ i, i < s.2.2.1.length → (el P5 s.2.2.1 i).2.1 ≤ (s.1.length : Int)
 pto : ∀ i, i < s.2.2.1.length → (el P5 s.2.2.1 i).2.2.1 ≤ (s.1.length : Int)
 rls : ∀ i, i < s.2.2.2.1.length → (el R3 s.2.2.2.1 i).1 ≤ (s.1.length : Int)
theorem partsOk_i {k : Nat} {s : Setup} (h2 : s.2.1.length ≤ 1048576) (h3 : s.2.2.1.length ≤ 1048576) (h4 : s.2.2.2.1.length ≤ 1048576) (hk : 1048576 < k) : impl_partsOk.f k s = some (B (PartsOk s)) := by
 obtain ⟨R, W, P, U, C⟩ := s
 simp only at h2 h3 h4
 refine ok_eq ?_
 unfold impl_partsOk.f
 refine ok_loop (L := impl_partsOk.l1 k) (I := fun d t => ∃ (j : Nat) (x : Int), t = (x, (W.length : Int), (j : Int), R, W, P, U, C, ()) ∧ j + d = W.length ∧ (x ≤ (R.length : Int) ↔ ∀ i, i < j → (el W2 W i).1 ≤ (R.length : Int))) ?_ k W.length _ (by omega) ⟨0, 0, rfl, by omega, ⟨fun _ i hi => absurd hi (by omega), fun _ => by omega⟩⟩
 rintro d m t ⟨j, x, rfl, hd, hq⟩ ih
 rw [impl_partsOk.l1]
 refine ok_if (fun hc => ok_grd (by omega) (ok_grd hc ?_)) (fun hc => ?_)
 ·have c4 : w64 ((j : Int) + 1) = ((j + 1 : Nat) : Int) := w64_id (by omega) (by omega)
  rw [c4]
  simp only [Int.toNat_natCast]
  refine ih (d - 1) _ (by omega) ⟨j + 1, _, rfl, by omega, Int.max_le.trans ⟨fun h => allS (hq.1 h.1) h.2, fun h => ⟨hq.2 (fun i hi => h i (by omega)), h j (by omega)⟩⟩⟩
 ·have hq1 : x ≤ (R.length : Int) ↔ ∀ i, i < W.length → (el W2 W i).1 ≤ (R.length : Int) := by
   rw [hq, show j = W.length by omega]
  clear ih hq hc hd
  refine ok_loop (L := impl_partsOk.l2 k) (I := fun d t => ∃ (j : Nat) (y : Int), t = (y, (P.length : Int), (j : Int), R, W, P, U, C, ()) ∧ j + d = P.length ∧ (y ≤ (R.length : Int) ↔ x ≤ (R.length : Int) ∧ (∀ i, i < j → (el P5 P i).2.1 ≤ (R.length : Int)) ∧ ∀ i, i < j → (el P5 P i).2.2.1 ≤ (R.length : Int))) ?_ k P.length _ (by omega) ⟨0, x, rfl, by omega, ⟨fun h => ⟨h, fun i hi => absurd hi (by omega), fun i hi => absurd hi (by omega)⟩, fun h => h.1⟩⟩
  rintro d m' t ⟨j, y, rfl, hd, hq⟩ ih
  rw [impl_partsOk.l2]
  refine ok_if (fun hc => ok_grd (by omega) (ok_grd hc ?_)) (fun hc => ?_)
  ·have c4 : w64 ((j : Int) + 1) = ((j + 1 : Nat) : Int) := w64_id (by omega) (by omega)
   rw [c4]
   simp only [Int.toNat_natCast]
   refine ih (d - 1) _ (by omega) ⟨j + 1, _, rfl, by omega, Int.max_le.trans ⟨fun h => ?_, fun h => ⟨Int.max_le.2 ⟨hq.2 ⟨h.1, fun i hi => h.2.1 i (by omega), fun i hi => h.2.2 i (by omega)⟩, h.2.1 j (by omega)⟩, h.2.2 j (by omega)⟩⟩⟩
   have h1 := Int.max_le.1 h.1
   have h2 := hq.1 h1.1
   exact ⟨h2.1, allS h2.2.1 h1.2, allS h2.2.2 h.2⟩
  ·have hq2 : y ≤ (R.length : Int) ↔ x ≤ (R.length : Int) ∧ (∀ i, i < P.length → (el P5 P i).2.1 ≤ (R.length : Int)) ∧ ∀ i, i < P.length → (el P5 P i).2.2.1 ≤ (R.length : Int) := by
    rw [hq, show j = P.length by omega]
   clear ih hq hc hd
   refine ok_loop (L := impl_partsOk.l3 k) (I := fun d t => ∃ (j : Nat) (z : Int), t = (z, (U.length : Int), (j : Int), R, W, P, U, C, ()) ∧ j + d = U.length ∧ (z ≤ (R.length : Int) ↔ y ≤ (R.length : Int) ∧ ∀ i, i < j → (el R3 U i).1 ≤ (R.length : Int))) ?_ k U.length _ (by omega) ⟨0, y, rfl, by omega, ⟨fun h => ⟨h, fun i hi => absurd hi (by omega)⟩, fun h => h.1⟩⟩
   rintro d m'' t ⟨j, z, rfl, hd, hq⟩ ih
   rw [impl_partsOk.l3]
   refine ok_if (fun hc => ok_grd (by omega) (ok_grd hc ?_)) (fun hc => ok_some (B_of (decide_eq_true_iff.trans ?_)))
   ·have c4 : w64 ((j : Int) + 1) = ((j + 1 : Nat) : Int) := w64_id (by omega) (by omega)
    rw [c4]
    simp only [Int.toNat_natCast]
    refine ih (d - 1) _ (by omega) ⟨j + 1, _, rfl, by omega, Int.max_le.trans ⟨fun h => ?_, fun h => ⟨hq.2 ⟨h.1, fun i hi => h.2 i (by omega)⟩, h.2 j (by omega)⟩⟩⟩
    have h2 := hq.1 h.1
    exact ⟨h2.1, allS h2.2 h.2⟩
   ·rw [hq, show j = U.length by omega, hq2, hq1]
    exact ⟨fun h => ⟨h.1.1, h.1.2.1, h.1.2.2, h.2⟩, fun h => ⟨⟨h.wins, h.pfr, h.pto⟩, h.rls⟩⟩
theorem partsOk_s {k : Nat} {s : Setup} (h2 : s.2.1.length ≤ 1048576) (h3 : s.2.2.1.length ≤ 1048576) (h4 : s.2.2.2.1.length ≤ 1048576) (hk : 1048576 < k) : spec_l11Parts.f k s = some (if B (PartsOk s) = true then 0 else 6) := by
 obtain ⟨R, W, P, U, C⟩ := s
 simp only at h2 h3 h4
 refine ok_eq ?_
 unfold spec_l11Parts.f
 have no : ¬ PartsOk (R, W, P, U, C) → Ok (some (6 : Int)) (fun r => r = if B (PartsOk (R, W, P, U, C)) = true then 0 else 6) := fun h => ok_some (by rw [B_no h]; rfl)
 refine ok_loop (L := spec_l11Parts.l1 k) (I := fun d t => ∃ j : Nat, t = ((R.length : Int), (j : Int), R, W, P, U, C, ()) ∧ j + d = W.length ∧ ∀ i, i < j → (el W2 W i).1 ≤ (R.length : Int)) ?_ k W.length _ (by omega) ⟨0, rfl, by omega, fun i hi => absurd hi (by omega)⟩
 rintro d m t ⟨j, rfl, hd, hq⟩ ih
 rw [spec_l11Parts.l1]
 refine ok_if (fun hc => ok_grd (by omega) (ok_grd hc ?_)) (fun hc => ?_)
 ·have c4 : w64 ((j : Int) + 1) = ((j + 1 : Nat) : Int) := w64_id (by omega) (by omega)
  rw [c4]
  simp only [Int.toNat_natCast]
  exact ok_if (fun h => no (fun g => Int.not_le.2 h (g.wins j (by dsimp only; omega)))) (fun h => ih (d - 1) _ (by omega) ⟨j + 1, rfl, by omega, allS hq (Int.not_lt.1 h)⟩)
 ·have hq1 : ∀ i, i < W.length → (el W2 W i).1 ≤ (R.length : Int) := fun i hi => hq i (by omega)
  clear ih hq hc hd
  refine ok_loop (L := spec_l11Parts.l2 k) (I := fun d t => ∃ j : Nat, t = ((R.length : Int), (j : Int), R, W, P, U, C, ()) ∧ j + d = P.length ∧ (∀ i, i < j → (el P5 P i).2.1 ≤ (R.length : Int)) ∧ ∀ i, i < j → (el P5 P i).2.2.1 ≤ (R.length : Int)) ?_ k P.length _ (by omega) ⟨0, rfl, by omega, fun i hi => absurd hi (by omega), fun i hi => absurd hi (by omega)⟩
  rintro d m' t ⟨j, rfl, hd, hq, hq'⟩ ih
  rw [spec_l11Parts.l2]
  refine ok_if (fun hc => ok_grd (by omega) (ok_grd hc ?_)) (fun hc => ?_)
  ·have c4 : w64 ((j : Int) + 1) = ((j + 1 : Nat) : Int) := w64_id (by omega) (by omega)
   rw [c4]
   simp only [Int.toNat_natCast]
   exact ok_if (fun h => no (fun g => Int.not_le.2 h (g.pfr j (by dsimp only; omega)))) (fun h => ok_grd (by omega) (ok_grd hc (ok_if (fun h' => no (fun g => Int.not_le.2 h' (g.pto j (by dsimp only; omega)))) (fun h' => ih (d - 1) _ (by omega) ⟨j + 1, rfl, by omega, allS hq (Int.not_lt.1 h), allS hq' (Int.not_lt.1 h')⟩))))
  ·have hq2 : ∀ i, i < P.length → (el P5 P i).2.1 ≤ (R.length : Int) := fun i hi => hq i (by omega)
   have hq3 : ∀ i, i < P.length → (el P5 P i).2.2.1 ≤ (R.length : Int) := fun i hi => hq' i (by omega)
   clear ih hq hq' hc hd
   refine ok_loop (L := spec_l11Parts.l3 k) (I := fun d t => ∃ j : Nat, t = ((R.length : Int), (j : Int), R, W, P, U, C, ()) ∧ j + d = U.length ∧ ∀ i, i < j → (el R3 U i).1 ≤ (R.length : Int)) ?_ k U.length _ (by omega) ⟨0, rfl, by omega, fun i hi => absurd hi (by omega)⟩
   rintro d m'' t ⟨j, rfl, hd, hq⟩ ih
   rw [spec_l11Parts.l3]
   refine ok_if (fun hc => ok_grd (by omega) (ok_grd hc ?_)) (fun hc => ok_some ?_)
   ·have c4 : w64 ((j : Int) + 1) = ((j + 1 : Nat) : Int) := w64_id (by omega) (by omega)
    rw [c4]
    simp only [Int.toNat_natCast]
    exact ok_if (fun h => no (fun g => Int.not_le.2 h (g.rls j (by dsimp only; omega)))) (fun h => ih (d - 1) _ (by omega) ⟨j + 1, rfl, by omega, allS hq (Int.not_lt.1 h)⟩)
   ·rw [B_yes ⟨hq1, hq2, hq3, fun i hi => hq i (by dsimp only at hi; omega)⟩]
    rfl
/-! ### the fault -/
noncomputable def faultM (s : Setup) : Int :=
 if ¬ B (RegionsOk s.1) = true then 1 else if ¬ B (PlanOk s.2.1) = true then 2 else if ¬ B (PortsOk s.2.2.1) = true then 3 else if ¬ B (RulesOk s.2.2.2.1) = true then 4 else if ¬ B (CodesOk s.2.2.2.2 (s.1.length : Int)) = true then 5 else if ¬ B (PartsOk s) = true then 6 else 0
structure Small (s : Setup) : Prop where
 a : s.1.length ≤ 1048576
 b : s.2.1.length ≤ 1048576
 c : s.2.2.1.length ≤ 1048576
 d : s.2.2.2.1.length ≤ 1048576
 e : s.2.2.2.2.length ≤ 1048576
theorem fault_i {k : Nat} {s : Setup} (h : Small s) (hk : 1048576 < k) : impl_SetupFault.f k s = some (faultM s) := by
 unfold impl_SetupFault.f faultM
 rw [regionsOk_i h.a hk, planOk_i h.b hk, portsOk_i h.c hk, rulesOk_i h.d hk, codesOk_i h.e hk, partsOk_i h.b h.c h.d hk]
 simp only [Option.bind_some]
 repeat' split
 all_goals rfl
theorem fault_s {k : Nat} {s : Setup} (h : Small s) (hk : 1048576 < k) : spec_SetupFault.f k s = some (faultM s) := by
 obtain ⟨R, W, P, U, C⟩ := s
 obtain ⟨h1, h2, h3, h4, h5⟩ := h
 simp only at h1 h2 h3 h4 h5
 refine ok_eq ?_
 unfold spec_SetupFault.f faultM
 rw [regionsOk_s h1 hk, planOk_s h2 hk]
 simp only [Option.bind_some]
 refine ok_if (fun h => ok_some (by rw [if_pos h])) (fun g1 => ok_if (fun h => ok_some (by rw [if_neg g1, if_pos h])) (fun g2 => ?_))
 rw [if_neg g1, if_neg g2]
 have no : ¬ PortsOk P → Ok (some (3 : Int)) (fun r => r = if ¬ B (PortsOk P) = true then 3 else if ¬ B (RulesOk U) = true then 4 else if ¬ B (CodesOk C (R.length : Int)) = true then 5 else if ¬ B (PartsOk (R, W, P, U, C)) = true then 6 else 0) := fun h => ok_some (by rw [B_no h]; rfl)
 refine ok_loop (L := spec_SetupFault.l1 k) (I := fun d t => ∃ j : Nat, t = ((j : Int), R, W, P, U, C, ()) ∧ j + d = P.length ∧ (∀ i, i < j → PortOk (el P5 P i)) ∧ j ≤ 6) ?_ k P.length _ (by omega) ⟨0, rfl, by omega, fun i hi => absurd hi (by omega), by omega⟩
 rintro d m t ⟨j, rfl, hd, hq, hj6⟩ ih
 rw [spec_SetupFault.l1]
 refine ok_if (fun hc => ok_grd (by omega) (ok_grd hc ?_)) (fun hc => ?_)
 ·have c4 : w64 ((j : Int) + 1) = ((j + 1 : Nat) : Int) := w64_id (by omega) (by omega)
  rw [portOk_s, c4]
  simp only [Int.toNat_natCast]
  refine ok_let (ok_if (fun h => no (fun g => h (B_yes (g.1 j (by omega))))) (fun h => ok_if (fun h6 => no (fun g => by have := g.2; omega)) (fun h6 => ?_)))
  exact ih (d - 1) _ (by omega) ⟨j + 1, rfl, by omega, allS hq (B_iff.1 (Classical.not_not.1 h)), by omega⟩
 ·have hp : PortsOk P := ⟨fun i hi => hq i (by omega), by omega⟩
  rw [B_yes hp, if_neg (c := ¬ true = true) (fun h => h rfl), rulesOk_s h4 hk]
  clear ih hq hc hd
  refine ok_let (ok_if (fun h => ok_some (by rw [if_pos h])) (fun g4 => ?_))
  rw [if_neg g4]
  have no5 : ¬ CodesOk C (R.length : Int) → Ok (some (5 : Int)) (fun r => r = if ¬ B (CodesOk C (R.length : Int)) = true then 5 else if ¬ B (PartsOk (R, W, P, U, C)) = true then 6 else 0) := fun h => ok_some (by rw [B_no h]; rfl)
  refine ok_if (fun h => no5 (fun g => h g.2)) (fun g5 => ?_)
  refine ok_loop (L := spec_SetupFault.l2 k) (I := fun d t => ∃ j : Nat, t = ((j : Int), R, W, P, U, C, ()) ∧ j + d = C.length ∧ ∀ i, i < j → CodeRead (el .str C i)) ?_ k C.length _ (by omega) ⟨0, rfl, by omega, fun i hi => absurd hi (by omega)⟩
  rintro d m' t ⟨j, rfl, hd, hq⟩ ih
  rw [spec_SetupFault.l2]
  refine ok_if (fun hc => ok_grd (by omega) (ok_grd hc ?_)) (fun hc => ?_)
  ·have c4 : w64 ((j : Int) + 1) = ((j + 1 : Nat) : Int) := w64_id (by omega) (by omega)
   rw [read_s hk, c4]
   simp only [Int.toNat_natCast, Option.bind_some]
   by_cases h : CodeRead (el .str C j)
   ·have e : (readM (el .str C j)).2 = true := by
     unfold readM
     rw [B_yes h, if_pos rfl]
    rw [if_neg (fun g => g e)]
    exact ih (d - 1) _ (by omega) ⟨j + 1, rfl, by omega, allS hq h⟩
   ·have e : (readM (el .str C j)).2 = false := by
     unfold readM
     rw [B_no h]
     rfl
    rw [if_pos (by rw [e]; simp)]
    exact no5 (fun g => h (g.1 j (by omega)))
  ·have hcs : CodesOk C (R.length : Int) := ⟨fun i hi => hq i (by omega), Classical.not_not.1 g5⟩
   rw [B_yes hcs, if_neg (c := ¬ true = true) (fun h => h rfl), partsOk_s h2 h3 h4 hk]
   refine ok_let (ok_some ?_)
   by_cases hb : B (PartsOk (R, W, P, U, C)) = true
   ·rw [if_pos hb, if_neg (fun h => h hb)]
   ·rw [if_neg hb, if_pos hb]
end Go.Proofs.YtefidhlonfiicaaGreat.Pure
/- Kernels: when they are right. No condition. -/
namespace Go.Proofs.YtefidhlonfiicaaGreat.Pure
open Go Go.Proofs.YtefidhlonfiicaaGreatA Go.Proofs.YtefidhlonfiicaaGreatU Go.Proofs.YtefidhlonfiicaaGreat.QA
set_option linter.unusedVariables false
set_option linter.unusedSimpArgs false
abbrev PT : Ty := .pair (.int .i64) (.pair (.pair (.int .i64) (.sl 3 (.int .i64))) (.pair (.int .i64) (.pair (.int .i64) (.int .i64))))
abbrev LT : Ty := .sl 210 (.pair (.int .i64) (.int .i64))
abbrev PartT := Int × (Int × List Int) × Int × Int × Int
abbrev LineT := List (Int × Int)
abbrev Kernel := Setup × List Int × List PartT × List LineT × List Int × Int × Bool × List Port5
def Number (z : Int) : Prop := 0 ≤ z ∧ z ≤ 1000000000
structure PartOk (p : PartT) : Prop where
 st : 0 ≤ p.1 ∧ p.1 ≤ 1
 cpu : CpuOk p.2.1
 starts : Number p.2.2.1
 ends : Number p.2.2.2.1
 late : Number p.2.2.2.2
structure KernelOk (k : Kernel) : Prop where
 fault : faultM k.1 = 0
 cells : k.2.1.length = 64
 words : WordsOk k.2.1
 parts : k.2.2.1.length = k.1.1.length
 lines : k.2.2.2.1.length = k.1.2.2.1.length
 part : ∀ i, i < k.2.2.1.length → PartOk (el PT k.2.2.1 i)
 line : ∀ i, i < k.2.2.2.1.length → ((el LT k.2.2.2.1 i).length : Int) ≤ (el P5 k.1.2.2.1 i).2.2.2.1
 outs : k.2.2.2.2.1.length = 8
 outw : WordsOk k.2.2.2.2.1
 turn : Number k.2.2.2.2.2.1
/-- A kernel of which nothing is too long. -/
structure SmallK (k : Kernel) : Prop where
 st : Small k.1
 cells : k.2.1.length ≤ 1048576
 parts : k.2.2.1.length ≤ 1048576
 stacks : ∀ p, p ∈ k.2.2.1 → p.2.1.2.length ≤ 1048576
 lines : k.2.2.2.1.length ≤ 1048576
 msgs : ∀ l, l ∈ k.2.2.2.1 → l.length ≤ 1048576
 outs : k.2.2.2.2.1.length ≤ 1048576
 log : k.2.2.2.2.2.2.2.length ≤ 1048576
theorem words_s {k : Nat} {S : List Int} (hl : S.length ≤ 1048576) (hk : 1048576 < k) : spec_l12Words.f k S = some (B (WordsOk S)) := by
 refine ok_eq ?_
 unfold spec_l12Words.f
 refine ok_loop (L := spec_l12Words.l1 k) (I := fun d s => ∃ j : Nat, s = ((j : Int), S, ()) ∧ j + d = S.length ∧ ∀ i, i < j → Word (el I1 S i)) ?_ k S.length _ (by omega) ⟨0, rfl, by omega, fun i hi => absurd hi (by omega)⟩
 rintro d n s ⟨j, rfl, hd, hq⟩ ih
 rw [spec_l12Words.l1]
 have h4 : w64 ((j : Int) + 1) = ((j + 1 : Nat) : Int) := w64_id (by omega) (by omega)
 refine ok_if (fun hc => ?_) (fun hc => ok_some (B_yes fun i hi => hq i (by omega)).symm)
 rw [if_pos (by omega), if_pos hc, in_s, h4]
 simp only [Int.toNat_natCast, Option.bind_some, decide_eq_true_eq]
 refine ok_if (fun h => ok_some (B_no fun hr => h (hr j (by omega))).symm) (fun h => ?_)
 exact ih (d - 1) _ (by omega) ⟨j + 1, rfl, by omega, allS hq (Classical.not_not.1 h)⟩
theorem isNumber_i {k : Nat} {z : Int} : impl_isNumber.f k z = some (decide (0 ≤ z ∧ z ≤ 1000000000)) := by
 unfold impl_isNumber.f
 rw [in_i]
 rfl
theorem kernelOk_i {k : Nat} {K : Kernel} (hs : SmallK K) (hk : 1048576 < k) : impl_KernelOk.f k K = some (B (KernelOk K)) := by
 obtain ⟨⟨R, W, P, U, C⟩, A, Ps, Ls, O, T, D, G⟩ := K
 obtain ⟨s1, s2, s3, s4, s5, s6, s7, s8⟩ := hs
 simp only at s2 s3 s4 s5 s6 s7 s8
 refine ok_eq ?_
 have no : ∀ {q : Prop}, (KernelOk ((R, W, P, U, C), A, Ps, Ls, O, T, D, G) → q) → ¬ q → Ok (some false) (fun r => r = B (KernelOk ((R, W, P, U, C), A, Ps, Ls, O, T, D, G))) := fun h hq => ok_some (B_no fun g => hq (h g)).symm
 unfold impl_KernelOk.f
 rw [fault_i s1 hk, words_i s2 hk]
 refine ok_let (ok_if (fun h => no (fun g => g.fault) h) (fun h1 => ?_))
 refine ok_if (fun h => no (fun g => g.cells) (fun e => h (by dsimp only at e ⊢; omega))) (fun h2 => ?_)
 refine ok_let (ok_if (fun h => no (fun g => g.words) (fun e => h (B_yes e))) (fun h3 => ?_))
 refine ok_if (fun h => no (fun g => g.parts) (fun e => h (by dsimp only at e ⊢; omega))) (fun h4 => ?_)
 refine ok_if (fun h => no (fun g => g.lines) (fun e => h (by dsimp only at e ⊢; omega))) (fun h5 => ?_)
 simp only at h1 h2 h3 h4 h5 ⊢
 refine ok_loop (L := impl_KernelOk.l1 k) (I := fun d t => ∃ j : Nat, t = ((Ps.length : Int), (j : Int), T, D, R, W, P, U, C, A, Ps, Ls, O, G, ()) ∧ j + d = Ps.length ∧ ∀ i, i < j → PartOk (el PT Ps i)) ?_ k Ps.length _ (by omega) ⟨0, rfl, by omega, fun i hi => absurd hi (by omega)⟩
 rintro d n t ⟨j, rfl, hd, hq⟩ ih
 rw [impl_KernelOk.l1]
 refine ok_if (fun hc => ok_grd (by omega) (ok_grd hc ?_)) (fun hc => ?_)
 ·have hj : j < Ps.length := by omega
  have c4 : w64 ((j : Int) + 1) = ((j + 1 : Nat) : Int) := w64_id (by omega) (by omega)
  obtain ⟨a, c, b, e, f, hxe⟩ : ∃ (a : Int) (c : Int × List Int) (b e f : Int), el PT Ps j = (a, c, b, e, f) := ⟨_, _, _, _, _, rfl⟩
  have bad : ∀ {q : Prop}, (PartOk (a, c, b, e, f) → q) → ¬ q → Ok (some false) (fun r => r = B (KernelOk ((R, W, P, U, C), A, Ps, Ls, O, T, D, G))) := fun h hq => no (fun g => h (by have := g.part j hj; dsimp only at this; rw [hxe] at this; exact this)) hq
  simp only [Int.toNat_natCast, c4, show el (.pair (.int .i64) (.pair (.pair (.int .i64) (.sl 3 (.int .i64))) (.pair (.int .i64) (.pair (.int .i64) (.int .i64))))) Ps j = (a, c, b, e, f) from hxe, in_i, isNumber_i, cpuOk_i hk, Option.bind_some, decide_eq_true_eq]
  refine ok_if (fun h => bad (fun g => g.st) h) (fun q1 => ok_if (fun h => bad (fun g => g.cpu) (fun e => h (B_yes e))) (fun q2 => ok_if (fun h => bad (fun g => g.starts) h) (fun q3 => ok_if (fun h => bad (fun g => g.ends) h) (fun q4 => ok_if (fun h => bad (fun g => g.late) h) (fun q5 => ?_)))))
  exact ih (d - 1) _ (by omega) ⟨j + 1, rfl, by omega, allS hq (by rw [hxe]; exact ⟨Classical.not_not.1 q1, B_iff.1 (Classical.not_not.1 q2), Classical.not_not.1 q3, Classical.not_not.1 q4, Classical.not_not.1 q5⟩)⟩
 ·have hp : ∀ i, i < Ps.length → PartOk (el PT Ps i) := fun i hi => hq i (by omega)
  clear ih hq hc hd
  refine ok_loop (L := impl_KernelOk.l2 k) (I := fun d t => ∃ j : Nat, t = ((Ls.length : Int), (j : Int), T, D, R, W, P, U, C, A, Ps, Ls, O, G, ()) ∧ j + d = Ls.length ∧ ∀ i, i < j → ((el LT Ls i).length : Int) ≤ (el P5 P i).2.2.2.1) ?_ k Ls.length _ (by omega) ⟨0, rfl, by omega, fun i hi => absurd hi (by omega)⟩
  rintro d n t ⟨j, rfl, hd, hq⟩ ih
  rw [impl_KernelOk.l2]
  refine ok_if (fun hc => ok_grd (by omega) (ok_grd hc (ok_grd (by omega) (ok_grd (by omega) ?_)))) (fun hc => ?_)
  ·have c4 : w64 ((j : Int) + 1) = ((j + 1 : Nat) : Int) := w64_id (by omega) (by omega)
   simp only [Int.toNat_natCast, c4]
   exact ok_if (fun h => no (fun g => g.line j (by dsimp only; omega)) (Int.not_le.2 h)) (fun h => ih (d - 1) _ (by omega) ⟨j + 1, rfl, by omega, allS hq (Int.not_lt.1 h)⟩)
  ·have hln : ∀ i, i < Ls.length → ((el LT Ls i).length : Int) ≤ (el P5 P i).2.2.2.1 := fun i hi => hq i (by omega)
   refine ok_if (fun h8 => ?_) (fun h => no (fun g => g.outs) (fun e => h (by dsimp only at e; omega)))
   rw [words_i s7 hk, isNumber_i]
   refine ok_let (ok_if (fun hw => ok_let (ok_some (B_of (decide_eq_true_iff.trans ⟨fun ht => ?_, fun g => g.turn⟩)))) (fun h => no (fun g => g.outw) (fun e => h (B_yes e))))
   exact ⟨Classical.not_not.1 h1, by dsimp only; omega, B_iff.1 (Classical.not_not.1 h3), by dsimp only; omega, by dsimp only; omega, hp, hln, by dsimp only; omega, B_iff.1 hw, ht⟩
theorem kernelOk_s {k : Nat} {K : Kernel} (hs : SmallK K) (hk : 1048576 < k) : spec_KernelOk.f k K = some (B (KernelOk K)) := by
 obtain ⟨⟨R, W, P, U, C⟩, A, Ps, Ls, O, T, D, G⟩ := K
 obtain ⟨s1, s2, s3, s4, s5, s6, s7, s8⟩ := hs
 simp only at s2 s3 s4 s5 s6 s7 s8
 refine ok_eq ?_
 have no : ∀ {q : Prop}, (KernelOk ((R, W, P, U, C), A, Ps, Ls, O, T, D, G) → q) → ¬ q → Ok (some false) (fun r => r = B (KernelOk ((R, W, P, U, C), A, Ps, Ls, O, T, D, G))) := fun h hq => ok_some (B_no fun g => hq (h g)).symm
 unfold spec_KernelOk.f
 rw [fault_s s1 hk, words_s s2 hk, words_s s7 hk, in_s]
 refine ok_let (ok_if (fun h => no (fun g => g.fault) h) (fun h1 => ?_))
 refine ok_if (fun h => no (fun g => g.cells) (fun e => h (by dsimp only at e ⊢; omega))) (fun h2 => ?_)
 refine ok_let (ok_if (fun h => no (fun g => g.words) (fun e => h (B_yes e))) (fun h3 => ?_))
 refine ok_if (fun h => no (fun g => g.parts) (fun e => h (by dsimp only at e ⊢; omega))) (fun h4 => ?_)
 refine ok_if (fun h => no (fun g => g.lines) (fun e => h (by dsimp only at e ⊢; omega))) (fun h5 => ?_)
 refine ok_if (fun h => no (fun g => g.outs) (fun e => h (by dsimp only at e ⊢; omega))) (fun h6 => ?_)
 refine ok_let (ok_if (fun h => no (fun g => g.outw) (fun e => h (B_yes e))) (fun h7 => ?_))
 refine ok_let (ok_if (fun h => no (fun g => g.turn) (fun e => h (decide_eq_true e))) (fun h8 => ?_))
 have h8' := of_decide_eq_true (Classical.not_not.1 h8)
 simp only at h1 h2 h3 h4 h5 h6 h7 h8' ⊢
 refine ok_loop (L := spec_KernelOk.l1 k) (I := fun d t => ∃ j : Nat, t = ((j : Int), T, D, R, W, P, U, C, A, Ps, Ls, O, G, ()) ∧ j + d = Ps.length ∧ ∀ i, i < j → PartOk (el PT Ps i)) ?_ k Ps.length _ (by omega) ⟨0, rfl, by omega, fun i hi => absurd hi (by omega)⟩
 rintro d n t ⟨j, rfl, hd, hq⟩ ih
 rw [spec_KernelOk.l1]
 refine ok_if (fun hc => ok_grd (by omega) (ok_grd hc ?_)) (fun hc => ?_)
 ·have hj : j < Ps.length := by omega
  have c4 : w64 ((j : Int) + 1) = ((j + 1 : Nat) : Int) := w64_id (by omega) (by omega)
  have hst := s4 _ (el_mem (t := PT) hj)
  obtain ⟨a, c, b, e, f, hxe⟩ : ∃ (a : Int) (c : Int × List Int) (b e f : Int), el PT Ps j = (a, c, b, e, f) := ⟨_, _, _, _, _, rfl⟩
  rw [hxe] at hst
  simp only at hst
  have bad : ∀ {q : Prop}, (PartOk (a, c, b, e, f) → q) → ¬ q → Ok (some false) (fun r => r = B (KernelOk ((R, W, P, U, C), A, Ps, Ls, O, T, D, G))) := fun h hq => no (fun g => h (by have := g.part j hj; dsimp only at this; rw [hxe] at this; exact this)) hq
  simp only [Int.toNat_natCast, c4, show el (.pair (.int .i64) (.pair (.pair (.int .i64) (.sl 3 (.int .i64))) (.pair (.int .i64) (.pair (.int .i64) (.int .i64))))) Ps j = (a, c, b, e, f) from hxe, in_s, cpuOk_s hst hk, Option.bind_some, decide_eq_true_eq]
  refine ok_if (fun h => bad (fun g => g.st) h) (fun q1 => ok_if (fun h => bad (fun g => g.cpu) (fun e => h (B_yes e))) (fun q2 => ok_if (fun h => bad (fun g => g.starts) h) (fun q3 => ok_if (fun h => bad (fun g => g.ends) h) (fun q4 => ok_if (fun h => bad (fun g => g.late) h) (fun q5 => ?_)))))
  exact ih (d - 1) _ (by omega) ⟨j + 1, rfl, by omega, allS hq (by rw [hxe]; exact ⟨Classical.not_not.1 q1, B_iff.1 (Classical.not_not.1 q2), Classical.not_not.1 q3, Classical.not_not.1 q4, Classical.not_not.1 q5⟩)⟩
 ·have hp : ∀ i, i < Ps.length → PartOk (el PT Ps i) := fun i hi => hq i (by omega)
  clear ih hq hc hd
  refine ok_loop (L := spec_KernelOk.l2 k) (I := fun d t => ∃ j : Nat, t = ((j : Int), T, D, R, W, P, U, C, A, Ps, Ls, O, G, ()) ∧ j + d = Ls.length ∧ ∀ i, i < j → ((el LT Ls i).length : Int) ≤ (el P5 P i).2.2.2.1) ?_ k Ls.length _ (by omega) ⟨0, rfl, by omega, fun i hi => absurd hi (by omega)⟩
  rintro d n t ⟨j, rfl, hd, hq⟩ ih
  rw [spec_KernelOk.l2]
  refine ok_if (fun hc => ok_grd (by omega) (ok_grd hc (ok_grd (by omega) (ok_grd (by omega) ?_)))) (fun hc => ok_some (B_yes ?_).symm)
  ·have c4 : w64 ((j : Int) + 1) = ((j + 1 : Nat) : Int) := w64_id (by omega) (by omega)
   simp only [Int.toNat_natCast, c4]
   exact ok_if (fun h => no (fun g => g.line j (by dsimp only; omega)) (Int.not_le.2 h)) (fun h => ih (d - 1) _ (by omega) ⟨j + 1, rfl, by omega, allS hq (Int.not_lt.1 h)⟩)
  ·exact ⟨Classical.not_not.1 h1, by dsimp only; omega, B_iff.1 (Classical.not_not.1 h3), by dsimp only; omega, by dsimp only; omega, hp, fun i hi => hq i (by dsimp only at hi; omega), by dsimp only; omega, B_iff.1 (Classical.not_not.1 h7), h8'⟩
end Go.Proofs.YtefidhlonfiicaaGreat.Pure
/- Texts of numbers. No condition. -/
namespace Go.Proofs.YtefidhlonfiicaaGreat.Pure
open Go Go.Proofs.YtefidhlonfiicaaGreatA Go.Proofs.YtefidhlonfiicaaGreatU Go.Proofs.YtefidhlonfiicaaGreat.QA
set_option linter.unusedVariables false
theorem chrs_size (xs : List Int) : (chrs xs).size = xs.length := by
 show (chrs xs).data.size = _
 simp [chrs]
end Go.Proofs.YtefidhlonfiicaaGreat.Pure
/- Marks of rows of rows: what is marked is held. No condition. -/
namespace Go.Proofs.YtefidhlonfiicaaGreat.Pure
open Go Go.Proofs.YtefidhlonfiicaaGreatA Go.Proofs.YtefidhlonfiicaaGreatU Go.Proofs.YtefidhlonfiicaaGreat.QA
set_option linter.unusedVariables false
set_option linter.unusedSimpArgs false
theorem mark_loop {δ : Type} {M : Nat → Int × Int × List δ × Unit → Option (Int × List δ)} {H : Nat → Int × Int × List δ × Unit → Option Int} {xs : List δ} {W B : Int} (hW : 0 ≤ W)
  (stepM : ∀ (m : Int) (j : Nat) (ys : List δ) (n : Nat), j < ys.length → ys.length = xs.length → ys[j]? = xs[j]? → 0 ≤ m → m ≤ B → ∃ m' e, M (n + 1) (m, (j : Int), ys, ()) = M n (m', ((j + 1 : Nat) : Int), ys.set j e, ()) ∧ m ≤ m' ∧ m' ≤ m + W ∧ ∀ (zs : List δ) (q : Nat), zs.length = xs.length → zs[j]? = some e → H (q + 1) (m, (j : Int), zs, ()) = H q (m', ((j + 1 : Nat) : Int), zs, ()))
  (endM : ∀ (m : Int) (ys : List δ) (n : Nat), ys.length = xs.length → M (n + 1) (m, (xs.length : Int), ys, ()) = some (m, ys))
  (endH : ∀ (m : Int) (ys : List δ) (n : Nat), ys.length = xs.length → H (n + 1) (m, (xs.length : Int), ys, ()) = some m) :
  ∀ (d j : Nat) (m : Int) (ys : List δ), j + d = xs.length → ys.length = xs.length → (∀ i, j ≤ i → ys[i]? = xs[i]?) → 0 ≤ m → m + (d : Int) * W ≤ B → ∀ n, d < n → ∃ m' zs, M n (m, (j : Int), ys, ()) = some (m', zs) ∧ m ≤ m' ∧ m' ≤ m + (d : Int) * W ∧ zs.length = xs.length ∧ (∀ i, i < j → zs[i]? = ys[i]?) ∧ ∀ q, d < q → H q (m, (j : Int), zs, ()) = some m'
 | 0, j, m, ys, hj, hl, hs, h0, hB, n, hn => by
  obtain ⟨n, rfl⟩ : ∃ n', n = n' + 1 := ⟨n - 1, by omega⟩
  obtain rfl : j = xs.length := by omega
  refine ⟨m, ys, endM m ys n hl, by omega, by omega, hl, fun _ _ => rfl, fun q hq => ?_⟩
  obtain ⟨q, rfl⟩ : ∃ q', q = q' + 1 := ⟨q - 1, by omega⟩
  exact endH m ys q hl
 | d + 1, j, m, ys, hj, hl, hs, h0, hB, n, hn => by
  obtain ⟨n, rfl⟩ : ∃ n', n = n' + 1 := ⟨n - 1, by omega⟩
  have hdW : ((d + 1 : Nat) : Int) * W = (d : Int) * W + W := by rw [Int.natCast_add, Int.add_mul]; simp
  rw [hdW] at hB ⊢
  have hdp : 0 ≤ (d : Int) * W := Int.mul_nonneg (by omega) hW
  obtain ⟨m1, e, e1, e2, e3, e4⟩ := stepM m j ys n (by omega) hl (hs j (Nat.le_refl j)) h0 (by omega)
  have hls : (ys.set j e).length = xs.length := by rw [List.length_set]; exact hl
  obtain ⟨m', zs, g1, g2, g3, g4, g5, g6⟩ := mark_loop hW stepM endM endH d (j + 1) m1 (ys.set j e) (by omega) hls (fun i hi => by rw [List.getElem?_set_ne (by omega)]; exact hs i (by omega)) (by omega) (by omega) n (by omega)
  refine ⟨m', zs, e1.trans g1, by omega, by omega, g4, fun i hi => ?_, fun q hq => ?_⟩
  ·rw [g5 i (by omega), List.getElem?_set_ne (by omega)]
  ·obtain ⟨q, rfl⟩ : ∃ q', q = q' + 1 := ⟨q - 1, by omega⟩
   have hzj : zs[j]? = some e := by rw [g5 j (by omega), List.getElem?_set_self (by omega)]
   rw [e4 zs q g4 hzj]
   exact g6 q (by omega)
/-- Marks: what is put is found again. -/
def Marks {δ : Type} (b : Int) (mark : Int → Option (Int × δ)) (held : δ → Int → Option Int) (w : Int) : Prop := ∀ m : Int, 0 ≤ m → m ≤ b → ∃ m' x, mark m = some (m', x) ∧ m ≤ m' ∧ m' ≤ m + w ∧ held x m = some m'
theorem marks_int {k : Nat} {xs : List Int} (hl : xs.length ≤ 1048576) (hk : 1048576 < k) : Marks 4000000000000000000 (laws_markIntS.f k xs) (laws_heldIntS.f k) 1048576 := fun m h0 h1 => by
 have e := MIntS_le (m := m) xs.length
 exact ⟨_, _, markIntS_f hl hk h0 (by omega), by omega, by omega, heldIntS_f hl hk h0 (by omega)⟩
theorem marks_region {k : Nat} {xs : List (Int × Int)} (hl : xs.length ≤ 1048576) (hk : 1048576 < k) : Marks 4000000000000000000 (laws_markRegionS.f k xs) (laws_heldRegionS.f k) 2097152 := fun m h0 h1 => by
 have e := MRegionS_le (m := m) xs.length
 exact ⟨_, _, markRegionS_f hl hk h0 (by omega), by omega, by omega, heldRegionS_f hl hk h0 (by omega)⟩
theorem marks_window {k : Nat} {xs : List (Int × Int)} (hl : xs.length ≤ 1048576) (hk : 1048576 < k) : Marks 4000000000000000000 (laws_markWindowS.f k xs) (laws_heldWindowS.f k) 2097152 := fun m h0 h1 => by
 have e := MWindowS_le (m := m) xs.length
 exact ⟨_, _, markWindowS_f hl hk h0 (by omega), by omega, by omega, heldWindowS_f hl hk h0 (by omega)⟩
theorem marks_port {k : Nat} {xs : List Port5} (hl : xs.length ≤ 1048576) (hk : 1048576 < k) : Marks 4000000000000000000 (laws_markPortS.f k xs) (laws_heldPortS.f k) 5242880 := fun m h0 h1 => by
 have e := MPortS_le (m := m) xs.length
 exact ⟨_, _, markPortS_f hl hk h0 (by omega), by omega, by omega, heldPortS_f hl hk h0 (by omega)⟩
theorem marks_rule {k : Nat} {xs : List (Int × Int × Int)} (hl : xs.length ≤ 1048576) (hk : 1048576 < k) : Marks 4000000000000000000 (laws_markRuleS.f k xs) (laws_heldRuleS.f k) 3145728 := fun m h0 h1 => by
 have e := MRuleS_le (m := m) xs.length
 exact ⟨_, _, markRuleS_f hl hk h0 (by omega), by omega, by omega, heldRuleS_f hl hk h0 (by omega)⟩
theorem marks_entry {k : Nat} {xs : List Port5} (hl : xs.length ≤ 1048576) (hk : 1048576 < k) : Marks 4000000000000000000 (laws_markEntryS.f k xs) (laws_heldEntryS.f k) 5242880 := fun m h0 h1 => by
 have e := MEntryS_le (m := m) xs.length
 exact ⟨_, _, markEntryS_f hl hk h0 (by omega), by omega, by omega, heldEntryS_f hl hk h0 (by omega)⟩
theorem marks_msg {k : Nat} {xs : List (Int × Int)} (hl : xs.length ≤ 1048576) (hk : 1048576 < k) : Marks 4000000000000000000 (laws_markMsgS.f k xs) (laws_heldMsgS.f k) 2097152 := fun m h0 h1 => by
 have e := MMsgS_le (m := m) xs.length
 exact ⟨_, _, markMsgS_f hl hk h0 (by omega), by omega, by omega, heldMsgS_f hl hk h0 (by omega)⟩
/-! ### texts -/
theorem markText_ok {k : Nat} {z : Int} (hk : 1048576 < k) (h1 : z < 10000000000000000000) : ∃ t, laws_markText.f k z = some t := by
 have : Ok (laws_markText.f k z) (fun _ => True) := by
  unfold laws_markText.f
  refine ok_if (fun _ => ok_some trivial) (fun h0 => ?_)
  refine ok_loop (L := laws_markText.l1 k) (I := fun d s => ∃ (x : Int) (t : ByteArray), s = (x, t, ()) ∧ 0 ≤ x ∧ x < 10 ^ d ∧ t.size + d ≤ 19) ?_ k 19 _ (by omega) ⟨z, _, rfl, by omega, by simpa using h1, by decide⟩
  rintro d n s ⟨x, t, rfl, hx0, hx1, ht⟩ ih
  rw [laws_markText.l1]
  refine ok_if (fun hp => ok_let (ok_grd (by rw [chrs_size]; simp only [List.length_cons, List.length_nil]; omega) ?_)) (fun _ => ok_grd (by have : (⟨#[109]⟩ : ByteArray).size = 1 := rfl; omega) (ok_some trivial))
  cases d with
  | zero => simp at hx1; omega
  | succ d =>
   have hx2 : x < 10 ^ d * 10 := by rw [← Int.pow_succ]; exact hx1
   have e : w64 (Int.tdiv x 10) = x / 10 := by
    rw [Int.tdiv_eq_ediv_of_nonneg hx0]
    have h10 : (10 : Int) ^ d ≤ 10 ^ 18 := by
     have : (10 : Nat) ^ d ≤ 10 ^ 18 := Nat.pow_le_pow_right (by omega) (by omega)
     exact_mod_cast this
    exact w64_id (by omega) (by omega)
   rw [e]
   refine ih d _ (by omega) ⟨_, _, rfl, by omega, by omega, ?_⟩
   rw [ByteArray.size_append, chrs_size]
   simp only [List.length_cons, List.length_nil]
   omega
 obtain ⟨t, h, _⟩ := this
 exact ⟨t, h⟩
theorem marks_string {k : Nat} {xs : List ByteArray} (hl : xs.length ≤ 1048576) (hk : 1048576 < k) : Marks 100000000000000000 (laws_markStringS.f k xs) (laws_heldStringS.f k) 1048576 := fun m h0 h1 => by
 obtain ⟨m', zs, g1, g2, g3, g4, g5, g6⟩ := mark_loop (M := laws_markStringS.l1 k) (H := laws_heldStringS.l1 k) (xs := xs) (W := 1) (B := 2000000000000000000) (by omega)
  (fun m j ys n hj hly _ hm0 hmB => by
   obtain ⟨t, ht⟩ := markText_ok (k := k) (z := m) hk (by omega)
   have w1 : w64 (m + 1) = m + 1 := w64_id (by omega) (by omega)
   have w2 : w64 ((j : Int) + 1) = ((j + 1 : Nat) : Int) := w64_id (by omega) (by omega)
   refine ⟨m + 1, t, ?_, by omega, by omega, fun zs q hz he => ?_⟩
   ·rw [laws_markStringS.l1, if_pos (by omega), ht]
    simp only [Option.bind_some, Int.toNat_natCast, w1, w2]
    rw [if_pos (by omega), if_pos (by omega)]
   ·have e : el .str zs j = t := el_at (t := .str) he
    rw [laws_heldStringS.l1, if_pos (by omega), if_pos (by omega), if_pos (by omega), ht]
    simp only [Option.bind_some, Int.toNat_natCast, w1, w2]
    rw [e, if_neg (fun h => h rfl)])
  (fun m ys n hl => by rw [laws_markStringS.l1, if_neg (by omega)])
  (fun m ys n hl => by rw [laws_heldStringS.l1, if_neg (by omega)])
  xs.length 0 m xs (by omega) rfl (fun _ _ => rfl) h0 (by omega) k (by omega)
 exact ⟨m', zs, g1, g2, by omega, g6 k (by omega)⟩
theorem marks_line {k : Nat} {xs : List LineT} (hl : xs.length ≤ 1048576) (hs : ∀ l, l ∈ xs → l.length ≤ 1048576) (hk : 1048576 < k) : Marks 100000000000000000 (laws_markLineS.f k xs) (laws_heldLineS.f k) 2199023255552 := fun m h0 h1 => by
 have hW := Int.mul_le_mul_of_nonneg_right (show (xs.length : Int) ≤ 1048576 by omega) (show (0 : Int) ≤ 2097152 by omega)
 obtain ⟨m', zs, g1, g2, g3, g4, g5, g6⟩ := mark_loop (M := laws_markLineS.l1 k) (H := laws_heldLineS.l1 k) (xs := xs) (W := 2097152) (B := 1000000000000000000) (by omega)
  (fun m j ys n hj hly hy hm0 hmB => by
   have hyl : (el LT ys j).length ≤ 1048576 := by
    have e : el LT ys j = el LT xs j := el_at (t := LT) (by rw [hy]; exact el_lt (t := LT) (by omega))
    rw [e]
    exact hs _ (el_mem (t := LT) (by omega))
   obtain ⟨m', x, e1, e2, e3, e4⟩ := marks_msg (k := k) hyl hk m hm0 (by omega)
   have w2 : w64 ((j : Int) + 1) = ((j + 1 : Nat) : Int) := w64_id (by omega) (by omega)
   refine ⟨m', x, ?_, e2, e3, fun zs q hz he => ?_⟩
   ·rw [laws_markLineS.l1, if_pos (by omega), if_pos (by omega), if_pos (by omega)]
    simp only [Int.toNat_natCast]
    rw [show laws_markMsgS.f k (el (.sl 210 (.pair (.int .i64) (.int .i64))) ys j) m = some (m', x) from e1]
    simp only [Option.bind_some, w2]
   ·have e : el LT zs j = x := el_at (t := LT) he
    rw [laws_heldLineS.l1, if_pos (by omega), if_pos (by omega), if_pos (by omega)]
    simp only [Int.toNat_natCast]
    rw [show laws_heldMsgS.f k (el (.sl 210 (.pair (.int .i64) (.int .i64))) zs j) m = some m' from by rw [show el (.sl 210 (.pair (.int .i64) (.int .i64))) zs j = x from e]; exact e4]
    simp only [Option.bind_some, w2]
    rw [if_neg (by omega)])
  (fun m ys n hl => by rw [laws_markLineS.l1, if_neg (by omega)])
  (fun m ys n hl => by rw [laws_heldLineS.l1, if_neg (by omega)])
  xs.length 0 m xs (by omega) rfl (fun _ _ => rfl) h0 (by omega) k (by omega)
 exact ⟨m', zs, g1, g2, by omega, g6 k (by omega)⟩
theorem marks_part {k : Nat} {xs : List PartT} (hl : xs.length ≤ 1048576) (hs : ∀ p, p ∈ xs → p.2.1.2.length ≤ 1048576) (hk : 1048576 < k) : Marks 100000000000000000 (laws_markPartS.f k xs) (laws_heldPartS.f k) 1099516870656 := fun m h0 h1 => by
 have hW := Int.mul_le_mul_of_nonneg_right (show (xs.length : Int) ≤ 1048576 by omega) (show (0 : Int) ≤ 1048581 by omega)
 obtain ⟨m', zs, g1, g2, g3, g4, g5, g6⟩ := mark_loop (M := laws_markPartS.l1 k) (H := laws_heldPartS.l1 k) (xs := xs) (W := 1048581) (B := 900000000000000000) (by omega)
  (fun m j ys n hj hly hy hm0 hmB => by
   have hyl : (el PT ys j).2.1.2.length ≤ 1048576 := by
    have e : el PT ys j = el PT xs j := el_at (t := PT) (by rw [hy]; exact el_lt (t := PT) (by omega))
    rw [e]
    exact hs _ (el_mem (t := PT) (by omega))
   have w1 : w64 (m + 1) = m + 1 := w64_id (by omega) (by omega)
   have w2 : w64 (m + 1 + 1) = m + 2 := by rw [w64_id (by omega) (by omega)]; omega
   obtain ⟨m', x, e1, e2, e3, e4⟩ := marks_int (k := k) hyl hk (m + 2) (by omega) (by omega)
   have w3 : w64 (m' + 1) = m' + 1 := w64_id (by omega) (by omega)
   have w4 : w64 (m' + 1 + 1) = m' + 2 := by rw [w64_id (by omega) (by omega)]; omega
   have w5 : w64 (m' + 2 + 1) = m' + 3 := by rw [w64_id (by omega) (by omega)]; omega
   have w6 : w64 ((j : Int) + 1) = ((j + 1 : Nat) : Int) := w64_id (by omega) (by omega)
   have j0 : (0 : Int) ≤ (j : Int) := by omega
   have j1 : (j : Int) < (ys.length : Int) := by omega
   have gs : ∀ p : PartT, el TyP (ys.set j p) j = p := fun p => el_set_self (t := PT) hj
   refine ⟨m' + 3, (m, (m + 1, x), m', m' + 1, m' + 2), ?_, by omega, by omega, fun zs q hz he => ?_⟩
   ·rw [laws_markPartS.l1]
    simp only [j0, j1, ↓reduceIte, Int.toNat_natCast, Option.bind_some, List.length_set, gs, List.set_set, w1, w2, w6]
    rw [show laws_markIntS.f k (el TyP ys j).2.1.2 (m + 2) = some (m', x) from e1]
    simp only [j0, j1, ↓reduceIte, Option.bind_some, List.length_set, gs, List.set_set, w3, w4, w5]
   ·have e : el TyP zs j = (m, (m + 1, x), m', m' + 1, m' + 2) := el_at (t := PT) he
    have j2 : (j : Int) < (zs.length : Int) := by omega
    rw [laws_heldPartS.l1]
    simp only [j0, j2, ↓reduceIte, Int.toNat_natCast, e, w1, w2, w6, not_true_eq_false]
    rw [e4]
    simp only [Option.bind_some, w3, w4, w5, not_true_eq_false, ↓reduceIte]
    rw [if_neg (by omega)])
  (fun m ys n hl => by rw [laws_markPartS.l1, if_neg (by omega)])
  (fun m ys n hl => by rw [laws_heldPartS.l1, if_neg (by omega)])
  xs.length 0 m xs (by omega) rfl (fun _ _ => rfl) h0 (by omega) k (by omega)
 exact ⟨m', zs, g1, g2, by omega, g6 k (by omega)⟩
/-! ### kernels -/
theorem markArena_m {k : Nat} {xs : List Int} (hl : xs.length ≤ 1048576) (hk : 1048576 < k) : Marks 4000000000000000000 (laws_markArena.f k xs) (laws_heldArena.f k) 1048576 := fun m h0 h1 => by
 obtain ⟨m', x, e1, e2, e3, e4⟩ := marks_int (k := k) hl hk m h0 h1
 refine ⟨m', x, ?_, e2, e3, ?_⟩
 ·unfold laws_markArena.f
  rw [e1]
  rfl
 ·unfold laws_heldArena.f
  rw [e4]
  simp only [Option.bind_some]
  rw [if_neg (by omega)]
theorem markSetup_m {k : Nat} {S : Setup} (h : Small S) (hk : 1048576 < k) (m : Int) (h0 : 0 ≤ m) (h1 : m ≤ 10000000000000000) : ∃ m' S', laws_markSetup.f k S m = some (m', S') ∧ m ≤ m' ∧ m' ≤ m + 20000000 ∧ laws_heldSetup.f k S' m = some m' := by
 obtain ⟨R, W, P, U, C⟩ := S
 obtain ⟨l1, l2, l3, l4, l5⟩ := h
 simp only at l1 l2 l3 l4 l5
 obtain ⟨m1, R', a1, b1, c1, d1⟩ := marks_region (k := k) l1 hk m h0 (by omega)
 obtain ⟨m2, W', a2, b2, c2, d2⟩ := marks_window (k := k) l2 hk m1 (by omega) (by omega)
 obtain ⟨m3, P', a3, b3, c3, d3⟩ := marks_port (k := k) l3 hk m2 (by omega) (by omega)
 obtain ⟨m4, U', a4, b4, c4, d4⟩ := marks_rule (k := k) l4 hk m3 (by omega) (by omega)
 obtain ⟨m5, C', a5, b5, c5, d5⟩ := marks_string (k := k) l5 hk m4 (by omega) (by omega)
 refine ⟨m5, (R', W', P', U', C'), ?_, by omega, by omega, ?_⟩
 ·unfold laws_markSetup.f
  simp only [a1, a2, a3, a4, a5, Option.bind_some]
 ·unfold laws_heldSetup.f
  simp only [d1, d2, d3, d4, d5, Option.bind_some]
  rw [if_neg (by omega), if_neg (by omega), if_neg (by omega), if_neg (by omega), if_neg (by omega)]
theorem markKernel_m {k : Nat} {K : Kernel} (h : SmallK K) (hk : 1048576 < k) (m : Int) (h0 : 0 ≤ m) (h1 : m ≤ 1000000000000000) : ∃ m' S' A' Ps' Ls' O' G', laws_markKernel.f k K m = some (m', S'.1, S'.2.1, S'.2.2.1, S'.2.2.2.1, S'.2.2.2.2, A', Ps', Ls', O', G') ∧ m ≤ m' ∧ m' ≤ m + 4000000000000 ∧ ∀ (T : Int) (D : Bool), laws_heldKernel.f k (S', A', Ps', Ls', O', T, D, G') m = some m' := by
 obtain ⟨S, A, Ps, Ls, O, T, D, G⟩ := K
 obtain ⟨s1, s2, s3, s4, s5, s6, s7, s8⟩ := h
 simp only at s1 s2 s3 s4 s5 s6 s7 s8
 obtain ⟨m1, S', a1, b1, c1, d1⟩ := markSetup_m (k := k) s1 hk m h0 (by omega)
 obtain ⟨m2, A', a2, b2, c2, d2⟩ := markArena_m (k := k) s2 hk m1 (by omega) (by omega)
 obtain ⟨m3, Ps', a3, b3, c3, d3⟩ := marks_part (k := k) s3 s4 hk m2 (by omega) (by omega)
 obtain ⟨m4, Ls', a4, b4, c4, d4⟩ := marks_line (k := k) s5 s6 hk m3 (by omega) (by omega)
 obtain ⟨m5, O', a5, b5, c5, d5⟩ := marks_int (k := k) s7 hk m4 (by omega) (by omega)
 obtain ⟨m6, G', a6, b6, c6, d6⟩ := marks_entry (k := k) s8 hk m5 (by omega) (by omega)
 refine ⟨m6, S', A', Ps', Ls', O', G', ?_, by omega, by omega, fun T' D' => ?_⟩
 ·unfold laws_markKernel.f
  simp only [a1, a2, a3, a4, a5, a6, Option.bind_some]
 ·unfold laws_heldKernel.f
  simp only [d1, d2, d3, d4, d5, d6, Option.bind_some]
  rw [if_neg (by omega), if_neg (by omega), if_neg (by omega), if_neg (by omega), if_neg (by omega), if_neg (by omega)]
end Go.Proofs.YtefidhlonfiicaaGreat.Pure
/- The laws' own copies and comparisons of set-ups. No condition. -/
namespace Go.Proofs.YtefidhlonfiicaaGreat.Pure
open Go Go.Proofs.YtefidhlonfiicaaGreatA Go.Proofs.YtefidhlonfiicaaGreatU Go.Proofs.YtefidhlonfiicaaGreat.QA
set_option linter.unusedVariables false
set_option linter.unusedSimpArgs false
theorem szStringS_f {k : Nat} {xs : List ByteArray} {left : Int} (hk : 1048576 < k) (hx : xs.length ≤ 9223372036854775807) (hs : ∀ s, s ∈ xs → s.size ≤ 9223372036854775807) (h0 : 0 ≤ left) (h1 : left ≤ 1048576) : Ok (laws_szStringS.f k xs left) (fun r => 0 ≤ r → r ≤ left ∧ xs.length ≤ 1048576 ∧ ∀ s, s ∈ xs → s.size ≤ 1048576) := by
 unfold laws_szStringS.f
 rw [w64_id (z := left - (xs.length : Int)) (by omega) (by omega)]
 refine ok_if (fun _ => ok_some (fun h => absurd h (by omega))) (fun hl => ?_)
 refine ok_loop (L := laws_szStringS.l1 k) (I := fun d t => ∃ (j : Nat) (y : Int), t = (y, (j : Int), xs, ()) ∧ j + d = xs.length ∧ 0 ≤ y ∧ y ≤ left ∧ ∀ i, i < j → (el .str xs i).size ≤ 1048576) ?_ k xs.length _ (by omega) ⟨0, _, rfl, by omega, by omega, by omega, fun i hi => absurd hi (by omega)⟩
 rintro d n t ⟨j, y, rfl, hd, hy0, hy1, hq⟩ ih
 rw [laws_szStringS.l1]
 refine ok_if (fun hc => ok_grd (by omega) (ok_grd hc ?_)) (fun hc => ok_some (fun _ => ⟨hy1, by omega, fun s hs' => ?_⟩))
 ·have hj : j < xs.length := by omega
  have hz := hs _ (el_mem (t := .str) hj)
  have c4 : w64 ((j : Int) + 1) = ((j + 1 : Nat) : Int) := w64_id (by omega) (by omega)
  simp only [Int.toNat_natCast, c4]
  obtain ⟨z, hze⟩ : ∃ z : Nat, (el .str xs j).size = z := ⟨_, rfl⟩
  simp only [hze] at hz ⊢
  rw [w64_id (z := y - (z : Int)) (by omega) (by omega)]
  exact ok_if (fun _ => ok_some (fun h => absurd h (by omega))) (fun hz2 => ih (d - 1) _ (by omega) ⟨j + 1, _, rfl, by omega, by omega, by omega, allS hq (by omega)⟩)
 ·obtain ⟨i, hi, rfl⟩ := List.mem_iff_getElem.1 hs'
  have := hq i (by omega)
  rw [el_at (t := .str) (List.getElem?_eq_getElem hi)] at this
  exact this
abbrev SetupTy (a b c d e : Nat) : Ty := .pair (.sl a W2) (.pair (.sl b W2) (.pair (.sl c P5) (.pair (.sl d R3) (.sl e .str))))
/-- A set-up of which nothing is too long. -/
structure Lim (s : Setup) : Prop extends Small s where
 f : ∀ x, x ∈ s.2.2.2.2 → x.size ≤ 1048576
theorem szSetup_f {k : Nat} {s : Setup} {left : Int} (hk : 1048576 < k) (hx : Wf (SetupTy 0 0 0 0 0) s) (h0 : 0 ≤ left) (h1 : left ≤ 1048576) : Ok (laws_szSetup.f k s left) (fun r => 0 ≤ r → r ≤ left ∧ Lim s) := by
 obtain ⟨R, W, P, U, C⟩ := s
 obtain ⟨w1, w2, w3, w4, w5⟩ := hx
 unfold laws_szSetup.f
 refine ok_bind (szRegionS_f (xs := R) w1.2 h0 h1) (fun r1 q1 => ok_if (fun _ => ok_some (fun h => absurd h (by omega))) (fun n1 => ?_))
 obtain ⟨a1, b1⟩ := q1 (by omega)
 refine ok_bind (szWindowS_f (xs := W) w2.2 (by omega) (by omega)) (fun r2 q2 => ok_if (fun _ => ok_some (fun h => absurd h (by omega))) (fun n2 => ?_))
 obtain ⟨a2, b2⟩ := q2 (by omega)
 refine ok_bind (szPortS_f (xs := P) w3.2 (by omega) (by omega)) (fun r3 q3 => ok_if (fun _ => ok_some (fun h => absurd h (by omega))) (fun n3 => ?_))
 obtain ⟨a3, b3⟩ := q3 (by omega)
 refine ok_bind (szRuleS_f (xs := U) w4.2 (by omega) (by omega)) (fun r4 q4 => ok_if (fun _ => ok_some (fun h => absurd h (by omega))) (fun n4 => ?_))
 obtain ⟨a4, b4⟩ := q4 (by omega)
 refine ok_bind (szStringS_f (xs := C) hk w5.2 (fun s hs => w5.1 s hs) (by omega) (by omega)) (fun r5 q5 => ok_if (fun _ => ok_some (fun h => absurd h (by omega))) (fun n5 => ok_some (fun h => ?_)))
 obtain ⟨a5, b5, c5⟩ := q5 (by omega)
 exact ⟨by omega, ⟨b1, b2, b3, b4, b5⟩, c5⟩
theorem toSetup_f {k : Nat} {s : Setup} (h : Lim s) (hk : 1048576 < k) : laws_toSetup.f k s = some s := by
 unfold laws_toSetup.f
 rw [toRegionS_f h.a hk, toWindowS_f h.b hk, toPortS_f h.c hk, toRuleS_f h.d hk, toStringS_f h.e hk]
 rfl
theorem eqSetup_f {k : Nat} {s : Setup} (h : Small s) (hk : 1048576 < k) : laws_eqSetup.f k s s = some true := by
 unfold laws_eqSetup.f
 rw [eqRegionS_f h.a hk, eqWindowS_f h.b hk, eqPortS_f h.c hk, eqRuleS_f h.d hk, eqStringS_f h.e hk]
 rfl
end Go.Proofs.YtefidhlonfiicaaGreat.Pure
/- The laws' own copies and comparisons of kernels. No condition. -/
namespace Go.Proofs.YtefidhlonfiicaaGreat.Pure
open Go Go.Proofs.YtefidhlonfiicaaGreatA Go.Proofs.YtefidhlonfiicaaGreatU Go.Proofs.YtefidhlonfiicaaGreat.QA
set_option linter.unusedVariables false
set_option linter.unusedSimpArgs false
abbrev LLT : Ty := .sl 212 (.pair (.int .i64) (.int .i64))
abbrev E5 : Ty := .pair (.int .i64) (.pair (.int .i64) (.pair (.int .i64) (.pair (.int .i64) (.int .i64))))
theorem szPart_f {k : Nat} {p : PartT} {left : Int} (hx : p.2.1.2.length ≤ 9223372036854775807) (h0 : 0 ≤ left) (h1 : left ≤ 1048576) : Ok (laws_szPart.f k p left) (fun r => 0 ≤ r → r ≤ left ∧ p.2.1.2.length ≤ 1048576) := by
 unfold laws_szPart.f
 exact ok_bind (szCpu_f (c := p.2.1) hx h0 h1) (fun r hr => ok_if (fun _ => ok_some (fun h => absurd h (by omega))) (fun _ => ok_some hr))
theorem szPartS_f {k : Nat} {xs : List PartT} {left : Int} (hk : 1048576 < k) (hx : xs.length ≤ 9223372036854775807) (hs : ∀ p, p ∈ xs → p.2.1.2.length ≤ 9223372036854775807) (h0 : 0 ≤ left) (h1 : left ≤ 1048576) : Ok (laws_szPartS.f k xs left) (fun r => 0 ≤ r → r ≤ left ∧ xs.length ≤ 1048576 ∧ ∀ p, p ∈ xs → p.2.1.2.length ≤ 1048576) := by
 unfold laws_szPartS.f
 rw [w64_id (z := left - (xs.length : Int)) (by omega) (by omega)]
 refine ok_if (fun _ => ok_some (fun h => absurd h (by omega))) (fun hl => ?_)
 refine ok_loop (L := laws_szPartS.l1 k) (I := fun d t => ∃ (j : Nat) (y : Int), t = (y, (j : Int), xs, ()) ∧ j + d = xs.length ∧ 0 ≤ y ∧ y ≤ left ∧ ∀ i, i < j → (el PT xs i).2.1.2.length ≤ 1048576) ?_ k xs.length _ (by omega) ⟨0, _, rfl, by omega, by omega, by omega, fun i hi => absurd hi (by omega)⟩
 rintro d n t ⟨j, y, rfl, hd, hy0, hy1, hq⟩ ih
 rw [laws_szPartS.l1]
 refine ok_if (fun hc => ok_grd (by omega) (ok_grd hc ?_)) (fun hc => ok_some (fun _ => ⟨hy1, by omega, fun s hs' => ?_⟩))
 ·have hj : j < xs.length := by omega
  have hz := hs _ (el_mem (t := PT) hj)
  have c4 : w64 ((j : Int) + 1) = ((j + 1 : Nat) : Int) := w64_id (by omega) (by omega)
  obtain ⟨a, c, b, e, f, hxe⟩ : ∃ (a : Int) (c : Int × List Int) (b e f : Int), el PT xs j = (a, c, b, e, f) := ⟨_, _, _, _, _, rfl⟩
  rw [hxe] at hz
  simp only [Int.toNat_natCast, c4, show el (.pair (.int .i64) (.pair (.pair (.int .i64) (.sl 3 (.int .i64))) (.pair (.int .i64) (.pair (.int .i64) (.int .i64))))) xs j = (a, c, b, e, f) from hxe]
  refine ok_bind (szPart_f (p := (a, c, b, e, f)) hz hy0 (by omega)) (fun r hr => ok_if (fun _ => ok_some (fun h => absurd h (by omega))) (fun hz2 => ?_))
  have hr' := hr (by omega)
  exact ih (d - 1) _ (by omega) ⟨j + 1, _, rfl, by omega, by omega, by omega, allS hq (by rw [hxe]; exact hr'.2)⟩
 ·obtain ⟨i, hi, rfl⟩ := List.mem_iff_getElem.1 hs'
  have := hq i (by omega)
  rw [el_at (t := PT) (List.getElem?_eq_getElem hi)] at this
  exact this
theorem szLineS_f {k : Nat} {xs : List LineT} {left : Int} (hk : 1048576 < k) (hx : xs.length ≤ 9223372036854775807) (hs : ∀ p, p ∈ xs → p.length ≤ 9223372036854775807) (h0 : 0 ≤ left) (h1 : left ≤ 1048576) : Ok (laws_szLineS.f k xs left) (fun r => 0 ≤ r → r ≤ left ∧ xs.length ≤ 1048576 ∧ ∀ p, p ∈ xs → p.length ≤ 1048576) := by
 unfold laws_szLineS.f
 rw [w64_id (z := left - (xs.length : Int)) (by omega) (by omega)]
 refine ok_if (fun _ => ok_some (fun h => absurd h (by omega))) (fun hl => ?_)
 refine ok_loop (L := laws_szLineS.l1 k) (I := fun d t => ∃ (j : Nat) (y : Int), t = (y, (j : Int), xs, ()) ∧ j + d = xs.length ∧ 0 ≤ y ∧ y ≤ left ∧ ∀ i, i < j → (el LLT xs i).length ≤ 1048576) ?_ k xs.length _ (by omega) ⟨0, _, rfl, by omega, by omega, by omega, fun i hi => absurd hi (by omega)⟩
 rintro d n t ⟨j, y, rfl, hd, hy0, hy1, hq⟩ ih
 rw [laws_szLineS.l1]
 refine ok_if (fun hc => ok_grd (by omega) (ok_grd hc ?_)) (fun hc => ok_some (fun _ => ⟨hy1, by omega, fun s hs' => ?_⟩))
 ·have hj : j < xs.length := by omega
  have hz := hs _ (el_mem (t := LLT) hj)
  have c4 : w64 ((j : Int) + 1) = ((j + 1 : Nat) : Int) := w64_id (by omega) (by omega)
  obtain ⟨l, hxe⟩ : ∃ l : List (Int × Int), el LLT xs j = l := ⟨_, rfl⟩
  rw [hxe] at hz
  simp only [Int.toNat_natCast, c4, show el (.sl 212 (.pair (.int .i64) (.int .i64))) xs j = l from hxe]
  have hline : Ok (laws_szLine.f k l y) (fun r => 0 ≤ r → r ≤ y ∧ l.length ≤ 1048576) := by
   unfold laws_szLine.f
   exact ok_bind (szMsgS_f (xs := l) hz hy0 (by omega)) (fun r hr => ok_if (fun _ => ok_some (fun h => absurd h (by omega))) (fun _ => ok_some hr))
  refine ok_bind hline (fun r hr => ok_if (fun _ => ok_some (fun h => absurd h (by omega))) (fun hz2 => ?_))
  have hr' := hr (by omega)
  exact ih (d - 1) _ (by omega) ⟨j + 1, _, rfl, by omega, by omega, by omega, allS hq (by rw [hxe]; exact hr'.2)⟩
 ·obtain ⟨i, hi, rfl⟩ := List.mem_iff_getElem.1 hs'
  have := hq i (by omega)
  rw [el_at (t := LLT) (List.getElem?_eq_getElem hi)] at this
  exact this
structure LimK (k : Kernel) : Prop extends SmallK k where
 codes : ∀ x, x ∈ k.1.2.2.2.2 → x.size ≤ 1048576
theorem LimK.lim {k : Kernel} (h : LimK k) : Lim k.1 := ⟨h.st, h.codes⟩
abbrev KTy : Ty := .pair (SetupTy 0 0 0 0 0) (.pair (.sl 0 (.int .i64)) (.pair (.sl 0 PT) (.pair (.sl 0 LLT) (.pair (.sl 0 (.int .i64)) (.pair (.int .i64) (.pair .bool (.sl 0 E5)))))))
theorem szKernel_f {k : Nat} {K : Kernel} {left : Int} (hk : 1048576 < k) (hx : Wf KTy K) (h0 : 0 ≤ left) (h1 : left ≤ 1048576) : Ok (laws_szKernel.f k K left) (fun r => 0 ≤ r → r ≤ left ∧ LimK K) := by
 obtain ⟨S, A, Ps, Ls, O, T, D, G⟩ := K
 obtain ⟨w1, w2, w3, w4, w5, w6, w7, w8⟩ := hx
 unfold laws_szKernel.f
 refine ok_bind (szSetup_f (s := S) hk w1 h0 h1) (fun r1 q1 => ok_if (fun _ => ok_some (fun h => absurd h (by omega))) (fun n1 => ?_))
 obtain ⟨a1, b1⟩ := q1 (by omega)
 refine ok_bind (szArena_f (c := A) w2.2 (by omega) (by omega)) (fun r2 q2 => ok_if (fun _ => ok_some (fun h => absurd h (by omega))) (fun n2 => ?_))
 obtain ⟨a2, b2⟩ := q2 (by omega)
 refine ok_bind (szPartS_f (xs := Ps) hk w3.2 (fun p hp => (w3.1 p hp).2.1.2.2) (by omega) (by omega)) (fun r3 q3 => ok_if (fun _ => ok_some (fun h => absurd h (by omega))) (fun n3 => ?_))
 obtain ⟨a3, b3, c3⟩ := q3 (by omega)
 refine ok_bind (szLineS_f (xs := Ls) hk w4.2 (fun p hp => (w4.1 p hp).2) (by omega) (by omega)) (fun r4 q4 => ok_if (fun _ => ok_some (fun h => absurd h (by omega))) (fun n4 => ?_))
 obtain ⟨a4, b4, c4⟩ := q4 (by omega)
 refine ok_bind (szIntS_f (xs := O) w5.2 (by omega) (by omega)) (fun r5 q5 => ok_if (fun _ => ok_some (fun h => absurd h (by omega))) (fun n5 => ?_))
 obtain ⟨a5, b5⟩ := q5 (by omega)
 refine ok_bind (szEntryS_f (xs := G) w8.2 (by omega) (by omega)) (fun r6 q6 => ok_if (fun _ => ok_some (fun h => absurd h (by omega))) (fun n6 => ok_some (fun h => ?_)))
 obtain ⟨a6, b6⟩ := q6 (by omega)
 exact ⟨by omega, ⟨b1.toSmall, b2, b3, c3, b4, c4, b5, b6⟩, b1.f⟩
theorem toPart_f {k : Nat} {p : PartT} (hl : p.2.1.2.length ≤ 1048576) (hk : 1048576 < k) : laws_toPart.f k p = some p := by
 unfold laws_toPart.f
 rw [toCpu_f hl hk]
 rfl
theorem eqPart_f {k : Nat} {p : PartT} (hl : p.2.1.2.length ≤ 1048576) (hk : 1048576 < k) : laws_eqPart.f k p p = some true := by
 unfold laws_eqPart.f
 rw [eqCpu_f hl hk]
 simp
theorem toPartS_f {k : Nat} {xs : List PartT} (hl : xs.length ≤ 1048576) (hs : ∀ p, p ∈ xs → p.2.1.2.length ≤ 1048576) (hk : 1048576 < k) : laws_toPartS.f k xs = some xs := by
 have l : ∀ (d j n : Nat), j + d = xs.length → d < n → laws_toPartS.l1 k n ((j : Int), xs, xs.take j ++ List.replicate d ((0, (0, []), 0, 0, 0) : PartT), ()) = some xs := by
  intro d
  induction d with
  | zero =>
   intro j n hj hn
   obtain ⟨n, rfl⟩ : ∃ n', n = n' + 1 := ⟨n - 1, by omega⟩
   rw [List.replicate_zero, List.append_nil, List.take_of_length_le (by omega), laws_toPartS.l1, if_neg (by omega)]
  | succ d ih =>
   intro j n hj hn
   obtain ⟨n, rfl⟩ : ∃ n', n = n' + 1 := ⟨n - 1, by omega⟩
   have h0 : (0 : Int) ≤ (j : Int) := by omega
   have h1 : (j : Int) < (xs.length : Int) := by omega
   have h2 : (xs.take j ++ List.replicate (d + 1) ((0, (0, []), 0, 0, 0) : PartT)).length = xs.length := len_copy hj
   have h3 := set_copy (el_lt (t := PT) (xs := xs) (i := j) (by omega)) hj (z := ((0, (0, []), 0, 0, 0) : PartT))
   have h4 : w64 ((j : Int) + 1) = ((j + 1 : Nat) : Int) := w_id (z := (j : Int) + 1) (by omega) (by omega)
   have hz := hs _ (el_mem (t := PT) (xs := xs) (i := j) (by omega))
   obtain ⟨a, c, b, e, f, hxe⟩ : ∃ (a : Int) (c : Int × List Int) (b e f : Int), el PT xs j = (a, c, b, e, f) := ⟨_, _, _, _, _, rfl⟩
   rw [hxe] at hz h3
   have ht := toPart_f (p := (a, c, b, e, f)) hz hk
   have h5 : (j : Int) < ((xs.take j ++ List.replicate (d + 1) ((0, (0, []), 0, 0, 0) : PartT)).length : Int) := by rw [h2]; exact h1
   simp only [laws_toPartS.l1, h0, h1, h5, h4, ↓reduceIte, Option.bind_some, Int.toNat_natCast, show el (.pair (.int .i64) (.pair (.pair (.int .i64) (.sl 3 (.int .i64))) (.pair (.int .i64) (.pair (.int .i64) (.int .i64))))) xs j = (a, c, b, e, f) from hxe, ht]
   rw [h3]
   exact ih (j + 1) n (by omega) (by omega)
 have := l xs.length 0 k (by omega) (by omega)
 unfold laws_toPartS.f
 rw [if_pos rfl, if_pos (by omega), if_pos (by simp only [Int.toNat_natCast]; omega)]
 simpa using this
theorem eqPartS_f {k : Nat} {xs : List PartT} (hl : xs.length ≤ 1048576) (hs : ∀ p, p ∈ xs → p.2.1.2.length ≤ 1048576) (hk : 1048576 < k) : laws_eqPartS.f k xs xs = some true := by
 have l : ∀ (d j n : Nat), j + d = xs.length → d < n → laws_eqPartS.l1 k n ((j : Int), xs, xs, ()) = some true := by
  intro d
  induction d with
  | zero =>
   intro j n hj hn
   obtain ⟨n, rfl⟩ : ∃ n', n = n' + 1 := ⟨n - 1, by omega⟩
   rw [laws_eqPartS.l1, if_neg (by omega)]
  | succ d ih =>
   intro j n hj hn
   obtain ⟨n, rfl⟩ : ∃ n', n = n' + 1 := ⟨n - 1, by omega⟩
   have h0 : (0 : Int) ≤ (j : Int) := by omega
   have h1 : (j : Int) < (xs.length : Int) := by omega
   have h4 : w64 ((j : Int) + 1) = ((j + 1 : Nat) : Int) := w_id (z := (j : Int) + 1) (by omega) (by omega)
   have hz := hs _ (el_mem (t := PT) (xs := xs) (i := j) (by omega))
   obtain ⟨a, c, b, e, f, hxe⟩ : ∃ (a : Int) (c : Int × List Int) (b e f : Int), el PT xs j = (a, c, b, e, f) := ⟨_, _, _, _, _, rfl⟩
   rw [hxe] at hz
   have ht := eqPart_f (p := (a, c, b, e, f)) hz hk
   simp only [laws_eqPartS.l1, h0, h1, h4, ↓reduceIte, Option.bind_some, Int.toNat_natCast, show el (.pair (.int .i64) (.pair (.pair (.int .i64) (.sl 3 (.int .i64))) (.pair (.int .i64) (.pair (.int .i64) (.int .i64))))) xs j = (a, c, b, e, f) from hxe, ht, not_true_eq_false]
   exact ih (j + 1) n (by omega) (by omega)
 have := l xs.length 0 k (by omega) (by omega)
 unfold laws_eqPartS.f
 rw [if_neg (fun h => h rfl)]
 exact this
theorem toLineS_f {k : Nat} {xs : List LineT} (hl : xs.length ≤ 1048576) (hs : ∀ p, p ∈ xs → p.length ≤ 1048576) (hk : 1048576 < k) : laws_toLineS.f k xs = some xs := by
 have l : ∀ (d j n : Nat), j + d = xs.length → d < n → laws_toLineS.l1 k n ((j : Int), xs, xs.take j ++ List.replicate d ([] : LineT), ()) = some xs := by
  intro d
  induction d with
  | zero =>
   intro j n hj hn
   obtain ⟨n, rfl⟩ : ∃ n', n = n' + 1 := ⟨n - 1, by omega⟩
   rw [List.replicate_zero, List.append_nil, List.take_of_length_le (by omega), laws_toLineS.l1, if_neg (by omega)]
  | succ d ih =>
   intro j n hj hn
   obtain ⟨n, rfl⟩ : ∃ n', n = n' + 1 := ⟨n - 1, by omega⟩
   have h0 : (0 : Int) ≤ (j : Int) := by omega
   have h1 : (j : Int) < (xs.length : Int) := by omega
   have h2 : (xs.take j ++ List.replicate (d + 1) ([] : LineT)).length = xs.length := len_copy hj
   have h3 := set_copy (el_lt (t := LLT) (xs := xs) (i := j) (by omega)) hj (z := ([] : LineT))
   have h4 : w64 ((j : Int) + 1) = ((j + 1 : Nat) : Int) := w_id (z := (j : Int) + 1) (by omega) (by omega)
   have hz := hs _ (el_mem (t := LLT) (xs := xs) (i := j) (by omega))
   obtain ⟨l, hxe⟩ : ∃ l : List (Int × Int), el LLT xs j = l := ⟨_, rfl⟩
   rw [hxe] at hz h3
   have ht : laws_toLine.f k l = some l := by
    unfold laws_toLine.f
    rw [toMsgS_f hz hk]
    rfl
   have h5 : (j : Int) < ((xs.take j ++ List.replicate (d + 1) ([] : LineT)).length : Int) := by rw [h2]; exact h1
   simp only [laws_toLineS.l1, h0, h1, h5, h4, ↓reduceIte, Option.bind_some, Int.toNat_natCast, show el (.sl 212 (.pair (.int .i64) (.int .i64))) xs j = l from hxe, ht]
   rw [h3]
   exact ih (j + 1) n (by omega) (by omega)
 have := l xs.length 0 k (by omega) (by omega)
 unfold laws_toLineS.f
 rw [if_pos rfl, if_pos (by omega), if_pos (by simp only [Int.toNat_natCast]; omega)]
 simpa using this
theorem eqLineS_f {k : Nat} {xs : List LineT} (hl : xs.length ≤ 1048576) (hs : ∀ p, p ∈ xs → p.length ≤ 1048576) (hk : 1048576 < k) : laws_eqLineS.f k xs xs = some true := by
 have l : ∀ (d j n : Nat), j + d = xs.length → d < n → laws_eqLineS.l1 k n ((j : Int), xs, xs, ()) = some true := by
  intro d
  induction d with
  | zero =>
   intro j n hj hn
   obtain ⟨n, rfl⟩ : ∃ n', n = n' + 1 := ⟨n - 1, by omega⟩
   rw [laws_eqLineS.l1, if_neg (by omega)]
  | succ d ih =>
   intro j n hj hn
   obtain ⟨n, rfl⟩ : ∃ n', n = n' + 1 := ⟨n - 1, by omega⟩
   have h0 : (0 : Int) ≤ (j : Int) := by omega
   have h1 : (j : Int) < (xs.length : Int) := by omega
   have h4 : w64 ((j : Int) + 1) = ((j + 1 : Nat) : Int) := w_id (z := (j : Int) + 1) (by omega) (by omega)
   have hz := hs _ (el_mem (t := LT) (xs := xs) (i := j) (by omega))
   obtain ⟨l, hxe⟩ : ∃ l : List (Int × Int), el LT xs j = l := ⟨_, rfl⟩
   rw [hxe] at hz
   have ht : laws_eqLine.f k l l = some true := by
    unfold laws_eqLine.f
    rw [eqMsgS_f hz hk]
    rfl
   simp only [laws_eqLineS.l1, h0, h1, h4, ↓reduceIte, Option.bind_some, Int.toNat_natCast, show el (.sl 210 (.pair (.int .i64) (.int .i64))) xs j = l from hxe, ht, not_true_eq_false]
   exact ih (j + 1) n (by omega) (by omega)
 have := l xs.length 0 k (by omega) (by omega)
 unfold laws_eqLineS.f
 rw [if_neg (fun h => h rfl)]
 exact this
theorem toKernel_f {k : Nat} {K : Kernel} (h : LimK K) (hk : 1048576 < k) : laws_toKernel.f k K = some K := by
 unfold laws_toKernel.f
 rw [toSetup_f h.lim hk, toArena_f h.cells hk, toPartS_f h.parts h.stacks hk, toLineS_f h.lines h.msgs hk, toIntS_f h.outs hk, toEntryS_f h.log hk]
 rfl
theorem eqKernel_f {k : Nat} {K : Kernel} (h : SmallK K) (hk : 1048576 < k) : laws_eqKernel.f k K K = some true := by
 unfold laws_eqKernel.f
 rw [eqSetup_f h.st hk, eqArena_f h.cells hk, eqPartS_f h.parts h.stacks hk, eqLineS_f h.lines h.msgs hk, eqIntS_f h.outs hk, eqEntryS_f h.log hk]
 simp
end Go.Proofs.YtefidhlonfiicaaGreat.Pure
/- Runs of code, and what they cost. No condition. -/
namespace Go.Proofs.YtefidhlonfiicaaGreat.Pure
open Go Go.Proofs.YtefidhlonfiicaaGreatA Go.Proofs.YtefidhlonfiicaaGreatU Go.Proofs.YtefidhlonfiicaaGreat.QA
set_option linter.unusedVariables false
set_option linter.unusedSimpArgs false
/-! ### a machine stays right -/
theorem words_mem {S : List Int} : WordsOk S ↔ ∀ x, x ∈ S → Word x := ⟨fun h x hx => by
  obtain ⟨i, hi, rfl⟩ := List.mem_iff_getElem.1 hx
  have := h i hi
  rw [el_at (t := I1) (List.getElem?_eq_getElem hi)] at this
  exact this, fun h i hi => h _ (el_mem (t := I1) hi)⟩
theorem words_low {S : List Int} {t : Nat} (h : WordsOk S) : WordsOk (low S t) := words_mem.2 fun x hx => words_mem.1 h x (List.mem_of_mem_take hx)
theorem words_app {S : List Int} {x : Int} (h : WordsOk S) (hx : Word x) : WordsOk (S ++ [x]) := words_mem.2 fun y hy => by
 rcases List.mem_append.1 hy with hy | hy
 ·exact words_mem.1 h y hy
 ·rw [List.mem_singleton.1 hy]
  exact hx
theorem word_emod (z : Int) : Word (z % 65536) := by unfold Word; omega
theorem reckon_w {op a b : Int} (ha : Word a) (hb : Word b) : Word (reckon op a b) := by
 unfold reckon
 refine if_in (P := Word) (word_emod _) (if_in (P := Word) (word_emod _) (if_in (P := Word) (word_emod _) (if_in (P := Word) ?_ (if_in (P := Word) (by unfold Word; omega) (by unfold Word; omega)))))
 have h1 : 0 ≤ a / b := Int.ediv_nonneg ha.1 hb.1
 have h2 : a / b ≤ a := Int.ediv_le_self _ ha.1
 have h3 := ha.2
 unfold Word
 omega
theorem low_eq {S : List Int} {t : Nat} (h : t ≤ S.length) : (low S t).length = S.length - t := by
 unfold low
 rw [List.length_take]
 omega
def PcIn (pc g : Int) (s : Step) : Prop := s.1.1 = pc + 1 ∨ s.1.1 = min g 60
theorem doX_ok {pc op g : Int} {S a : List Int} {r : Int × Int} {time : Int} (nt : NoTrap pc op g S a r) : CpuOk (doX pc (op, g) S a r time).1 ∧ PcIn pc g (doX pc (op, g) S a r time) := by
 have hw := nt.words
 have hS := nt.len
 have htk := nt.tk
 have hov := nt.ov
 have hg := nt.g0
 have h0 := nt.pc0
 have h6 := nt.pc1
 have hgw : Word g := by unfold Word; omega
 have hm : 0 ≤ min g 60 ∧ min g 60 ≤ 60 := by omega
 have mkk : ∀ {T : List Int} {p : Int} (a' : List Int) (e : Int × Int × Int × Int), T.length ≤ 8 → WordsOk T → (p = pc + 1 ∨ p = min g 60) → CpuOk (p, T) ∧ PcIn pc g ((p, T), a', e) := fun {T p} a' e h1 h2 h3 => ⟨⟨by
  dsimp only
  rcases h3 with h3 | h3
  ·omega
  ·rw [h3]; exact hm, h1, h2⟩, h3⟩
 have l1 := low_len S 1
 have l2 := low_len S 2
 unfold doX
 dsimp only
 by_cases o1 : op = 1
 ·subst o1
  simp only [takesM, putsM, Int.reduceEq, Int.reduceLE, or_self, or_false, false_or, true_or, and_false, false_and, and_self, ↓reduceIte] at hov
  rw [if_pos rfl]
  exact mkk _ _ (by rw [List.length_append, List.length_cons, List.length_nil]; omega) (words_app hw hgw) (.inl rfl)
 rw [if_neg o1]
 by_cases o2 : op = 2
 ·subst o2
  simp only [takesM, Int.reduceEq, true_or, ↓reduceIte] at htk
  have := low_eq (S := S) (t := 1) (by omega)
  rw [if_pos rfl]
  exact mkk _ _ (by rw [List.length_append, List.length_cons, List.length_nil]; omega) (words_app (words_low hw) (word_emod _)) (.inl rfl)
 rw [if_neg o2]
 by_cases o3 : op = 3
 ·rw [if_pos o3]
  exact mkk _ _ (by omega) (words_low hw) (.inl rfl)
 rw [if_neg o3]
 by_cases o4 : 4 ≤ op ∧ op ≤ 8
 ·rw [if_pos o4]
  have ht : takesM op = 2 := by
   unfold takesM
   rw [if_neg (by omega), if_pos (by omega)]
  rw [ht] at htk
  have := low_eq (S := S) (t := 2) (by omega)
  exact mkk _ _ (by rw [List.length_append, List.length_cons, List.length_nil]; omega) (words_app (words_low hw) (reckon_w (sec_w hw (by omega)) (top_w hw (by omega)))) (.inl rfl)
 rw [if_neg o4]
 by_cases o9 : op = 9
 ·rw [if_pos o9]
  exact mkk _ _ hS hw (.inr rfl)
 rw [if_neg o9]
 by_cases o10 : op = 10
 ·rw [if_pos o10]
  refine mkk _ _ (by omega) (words_low hw) ?_
  split
  ·exact .inr rfl
  ·exact .inl rfl
 rw [if_neg o10]
 by_cases o11 : op = 11
 ·subst o11
  simp only [takesM, putsM, Int.reduceEq, true_or, or_true, ↓reduceIte] at hov htk
  have := low_eq (S := S) (t := 1) (by omega)
  rw [if_pos rfl]
  have ht := top_w hw (by omega)
  have e : low S 1 ++ [top S, top S] = low S 1 ++ [top S] ++ [top S] := by simp
  exact mkk _ _ (by rw [List.length_append, List.length_cons, List.length_cons, List.length_nil]; omega) (by rw [e]; exact words_app (words_app (words_low hw) ht) ht) (.inl rfl)
 rw [if_neg o11]
 by_cases o12 : op = 12
 ·rw [if_pos o12]
  exact mkk _ _ (by omega) (words_low hw) (.inl rfl)
 rw [if_neg o12]
 by_cases o13 : op = 13 ∨ op = 16
 ·rw [if_pos o13]
  exact mkk _ _ (by omega) (words_low hw) (.inl rfl)
 rw [if_neg o13]
 by_cases o14 : op = 14 ∨ op = 15
 ·rw [if_pos o14]
  exact mkk _ _ hS hw (.inl rfl)
 rw [if_neg o14]
 by_cases o17 : op = 17
 ·subst o17
  simp only [takesM, putsM, Int.reduceEq, Int.reduceLE, or_self, or_true, or_false, false_or, true_or, and_false, false_and, and_self, ↓reduceIte] at hov
  rw [if_pos rfl]
  exact mkk _ _ (by rw [List.length_append, List.length_cons, List.length_nil]; omega) (words_app hw (word_emod _)) (.inl rfl)
 rw [if_neg o17]
 exact mkk _ _ hS hw (.inl rfl)
theorem step_ok {c : Int × List Int} {code : List (Int × Int)} {a : List Int} {r : Int × Int} {time : Int} (h : trapM c code a r = 0) : CpuOk (stepM c code a r time).1 ∧ PcIn c.1 (el C2 code c.1.toNat).2 (stepM c code a r time) := by
 have nt := (trap0 h).2.2.2
 unfold stepM
 rw [if_pos h]
 exact doX_ok nt
theorem doX_trap {pc : Int} {x : Int × Int} {S a : List Int} {r : Int × Int} {time : Int} : (doX pc x S a r time).2.2.2.2.2 = 0 := by
 unfold doX
 refine if_in (P := fun s : Step => s.2.2.2.2.2 = 0) rfl (if_in (P := fun s : Step => s.2.2.2.2.2 = 0) rfl (if_in (P := fun s : Step => s.2.2.2.2.2 = 0) rfl (if_in (P := fun s : Step => s.2.2.2.2.2 = 0) rfl (if_in (P := fun s : Step => s.2.2.2.2.2 = 0) rfl (if_in (P := fun s : Step => s.2.2.2.2.2 = 0) rfl (if_in (P := fun s : Step => s.2.2.2.2.2 = 0) rfl (if_in (P := fun s : Step => s.2.2.2.2.2 = 0) rfl (if_in (P := fun s : Step => s.2.2.2.2.2 = 0) rfl (if_in (P := fun s : Step => s.2.2.2.2.2 = 0) rfl (if_in (P := fun s : Step => s.2.2.2.2.2 = 0) rfl rfl))))))))))
theorem step_trap {c : Int × List Int} {code : List (Int × Int)} {a : List Int} {r : Int × Int} {time : Int} : (stepM c code a r time).2.2.2.2.2 = trapM c code a r := by
 unfold stepM
 split
 ·rename_i h
  rw [h, doX_trap]
 ·rfl
/-! ### answers -/
noncomputable def answerM (c : Int × List Int) (n : Int) : (Int × List Int) × Bool := if B (CpuOk c) = true ∧ ¬ (c.2.length : Int) = 8 then ((c.1, c.2 ++ [n % 65536]), true) else (c, false)
theorem answer_s {k : Nat} {c : Int × List Int} {n : Int} (hk : 1048576 < k) (hl : c.2.length ≤ 1048576) : spec_Answer.f k c n = some (answerM c n) := by
 unfold spec_Answer.f answerM
 rw [cpu_s hl, cpuOk_s hl hk]
 simp only [Option.bind_some]
 by_cases h : CpuOk c
 ·rw [B_yes h]
  have := h.2.1
  simp only [not_true_eq_false, ↓reduceIte, true_and, mod_s, Option.bind_some, List.length_cons, List.length_nil]
  rw [if_pos (show (c.2.length + (0 + 1)) * 8 ≤ 140737488355328 by omega)]
  by_cases h8 : (c.2.length : Int) = 8
  ·rw [if_pos h8, if_neg (fun h => h h8)]
  ·rw [if_neg h8, if_pos h8]
 ·rw [B_no h]
  simp
/-! ### runs -/
def costM (op : Int) : Int := if op = 2 ∨ op = 3 ∨ op = 15 ∨ op = 16 then 2 else if op = 6 ∨ op = 7 then 3 else if op = 13 ∨ op = 14 then 4 else 1
def ansM (op : Int) : Nat := if op = 13 ∨ op = 15 then 1 else if op = 14 then 2 else 0
theorem cost_in (op : Int) : 1 ≤ costM op ∧ costM op ≤ 4 := by
 unfold costM
 repeat' split
 all_goals omega
theorem cost_i {k : Nat} {op : Int} : impl_CostOf.f k op = some (costM op) := by
 unfold impl_CostOf.f impl_CostOf.j1 impl_CostOf.j2 costM
 simp only [decide_eq_true_eq, ↓reduceIte]
 repeat' split
 all_goals first | rfl | (exfalso; omega)
theorem cost_s {k : Nat} {op : Int} : spec_CostOf.f k op = some (costM op) := by
 unfold spec_CostOf.f spec_CostOf.j1 spec_CostOf.j2 costM
 simp only [decide_eq_true_eq, ↓reduceIte]
 repeat' split
 all_goals first | rfl | (exfalso; omega)
theorem ans_i {k : Nat} {op : Int} : impl_answersOf.f k op = some (ansM op : Int) := by
 unfold impl_answersOf.f ansM
 repeat' split
 all_goals first | rfl | (exfalso; omega)
theorem ans_s {k : Nat} {op : Int} : spec_l07Answers.f k op = some (ansM op : Int) := by
 unfold spec_l07Answers.f ansM
 repeat' split
 all_goals first | rfl | (exfalso; omega)
theorem ans_le (op : Int) : ansM op ≤ 2 := by
 unfold ansM
 repeat' split
 all_goals omega
theorem cpu0 : CpuOk (0, []) := ⟨⟨Int.le_refl 0, by dsimp only; omega⟩, by simp, fun i hi => absurd hi (by simp)⟩
end Go.Proofs.YtefidhlonfiicaaGreat.Pure
/- Ports: what is sent and taken by the program. No condition. -/
namespace Go.Proofs.YtefidhlonfiicaaGreat.Pure
open Go Go.Proofs.YtefidhlonfiicaaGreatA Go.Proofs.YtefidhlonfiicaaGreatU Go.Proofs.YtefidhlonfiicaaGreat.QA
set_option linter.unusedVariables false
set_option linter.unusedSimpArgs false
theorem line_i {k : Nat} {l : List (Int × Int)} (h : l.length ≤ 1048576) : impl_copyLine.f k l = some l := by
 unfold impl_copyLine.f
 simp only [Option.bind_some, List.length_nil, List.nil_append]
 rw [if_pos (by omega)]
noncomputable def sendM (p : Port5) (l : List (Int × Int)) (n time : Int) : List (Int × Int) × Int :=
 if B (PortOk p) = true then (if p.1 = 2 then ([(n, time)], 0) else if p.2.2.2.1 ≤ (l.length : Int) then (l, 1) else (l ++ [(n, time)], 0)) else (l, 1)
noncomputable def takeM (p : Port5) (l : List (Int × Int)) (time : Int) : List (Int × Int) × Int × Int :=
 if B (PortOk p) = true ∧ ¬ (l.length : Int) = 0 then (if p.1 = 1 then (l.drop 1, (el M2 l 0).1, 0) else if p.2.2.2.2 < time - (el M2 l 0).2 then (l, (el M2 l 0).1, 3) else (l, (el M2 l 0).1, 0)) else (l, 0, 2)
theorem send_i {k : Nat} {p : Port5} {l : List (Int × Int)} {n time : Int} (hl : l.length ≤ 1048576) : impl_SendPort.f k p l n time = some (sendM p l n time) := by
 have hj : ∀ L : List (Int × Int), L.length ≤ 1048576 → impl_SendPort.j1 k (n, time, [], L, ()) = some (L ++ [(n, time)], 0) := fun L hL => by
  rw [impl_SendPort.j1]
  simp only [Option.bind_some, List.length_cons, List.length_nil]
  rw [if_pos (by omega)]
 unfold impl_SendPort.f sendM
 rw [line_i hl, portOk_i]
 simp only [Option.bind_some, hj [] (by simp), hj l hl, List.nil_append]
 by_cases hp : PortOk p
 ·rw [B_yes hp]
  simp only [not_true_eq_false, ↓reduceIte]
  by_cases h1 : p.1 = 1
  ·have h2 : ¬ p.1 = 2 := by omega
   rw [if_pos h1, if_neg h2, if_neg h2]
   by_cases h3 : p.2.2.2.1 ≤ (l.length : Int)
   ·rw [if_pos h3, if_pos h3]
   ·rw [if_neg h3, if_neg h3]
  ·have h2 : p.1 = 2 := by
    rcases hp.kd with h | h
    ·exact absurd h.1 h1
    ·exact h.1
   rw [if_neg h1, if_pos h2, if_pos h2]
 ·rw [B_no hp]
  simp
theorem u64_w (z : Int) : IntKind.u64.wrap z = z % 18446744073709551616 := by simp [IntKind.wrap, IntKind.signed, IntKind.bits]
theorem take_i {k : Nat} {p : Port5} {l : List (Int × Int)} {time : Int} (hl : l.length ≤ 1048576) (ht : -9223372036854775808 ≤ time ∧ time < 9223372036854775808) (hs : Stamps l) : impl_TakePort.f k p l time = some (takeM p l time) := by
 unfold impl_TakePort.f takeM
 rw [line_i hl, portOk_i]
 simp only [Option.bind_some]
 by_cases hp : PortOk p
 ·rw [B_yes hp]
  simp only [not_true_eq_false, ↓reduceIte, true_and]
  by_cases h0 : (l.length : Int) = 0
  ·rw [if_pos h0, if_neg (fun h => h h0)]
  ·rw [if_neg h0, if_pos h0, if_pos (by omega), if_pos (by omega)]
   obtain ⟨x, t, hx⟩ : ∃ x t : Int, el M2 l 0 = (x, t) := ⟨_, _, rfl⟩
   have hst := hs _ (el_mem (t := M2) (xs := l) (i := 0) (by omega))
   rw [hx] at hst
   simp only [show el (.pair (.int .i64) (.int .i64)) l 0 = (x, t) from hx]
   simp only at hst
   by_cases h1 : p.1 = 1
   ·rw [if_pos h1, if_pos h1, if_pos (by omega), if_pos (by omega)]
   ·have h2 : 1 ≤ p.2.2.2.2 ∧ p.2.2.2.2 ≤ 100 := by
     rcases hp.kd with h | h
     ·exact absurd h.1 h1
     ·exact h.2.2
    rw [if_neg h1, if_neg h1]
    simp only [u64_w]
    by_cases h3 : t < time
    ·rw [if_pos h3]
     by_cases h4 : p.2.2.2.2 < time - t
     ·rw [if_pos h4, if_pos (by omega)]
     ·rw [if_neg h4, if_neg (by omega)]
    ·rw [if_neg h3, if_neg (by omega)]
 ·rw [B_no hp]
  simp
end Go.Proofs.YtefidhlonfiicaaGreat.Pure
/- Runs of a part of a kernel. No condition. -/
namespace Go.Proofs.YtefidhlonfiicaaGreat.Pure
open Go Go.Proofs.YtefidhlonfiicaaGreatA Go.Proofs.YtefidhlonfiicaaGreatU Go.Proofs.YtefidhlonfiicaaGreat.QA
set_option linter.unusedVariables false
set_option linter.unusedSimpArgs false
abbrev RS := List Int × (Int × List Int) × List LineT × List Int
structure World where
 P : List Port5
 R : Int × Int
 code : List (Int × Int)
 part : Int
 time : Int
 ins : List Int
structure WorldOk (w : World) : Prop where
 ports : PortsOk w.P
 code : w.code.length ≤ 60
 reg : RegIn w.R
 part : 1 ≤ w.part ∧ w.part ≤ 4
 time : Number w.time
structure RunOk (w : World) (s : RS) : Prop where
 cells : s.1.length = 64
 words : WordsOk s.1
 cpu : CpuOk s.2.1
 nl : s.2.2.1.length = w.P.length
 line : ∀ i, i < s.2.2.1.length → ((el LT s.2.2.1 i).length : Int) ≤ (el P5 w.P i).2.2.2.1
 stamps : ∀ l, l ∈ s.2.2.1 → Stamps l
 outs : s.2.2.2.length = 8
 outw : WordsOk s.2.2.2
def push (c : Int × List Int) (x : Int) : Int × List Int := (c.1, c.2 ++ [x])
abbrev Eff := Int × (Int × List Int) × List LineT × List Int
noncomputable def effM (w : World) (kind port num : Int) (c : Int × List Int) (Ls : List LineT) (O : List Int) : Eff :=
 if 8 < c.2.length + ansM kind then (4, c, Ls, O) else
 if kind = 13 then
  if port < (Ls.length : Int) ∧ (el P5 w.P port.toNat).2.1 = w.part then
   (0, push c (sendM (el P5 w.P port.toNat) (el LT Ls port.toNat) num w.time).2, Ls.set port.toNat (sendM (el P5 w.P port.toNat) (el LT Ls port.toNat) num w.time).1, O)
  else (7, c, Ls, O)
 else if kind = 14 then
  if port < (Ls.length : Int) ∧ (el P5 w.P port.toNat).2.2.1 = w.part then
   (0, push (push c ((takeM (el P5 w.P port.toNat) (el LT Ls port.toNat) w.time).2.1 % 65536)) (takeM (el P5 w.P port.toNat) (el LT Ls port.toNat) w.time).2.2, Ls.set port.toNat (takeM (el P5 w.P port.toNat) (el LT Ls port.toNat) w.time).1, O)
  else (7, c, Ls, O)
 else if kind = 15 then (0, push c (if port < (w.ins.length : Int) then el I1 w.ins port.toNat % 65536 else 0), Ls, O)
 else if kind = 16 then (0, c, Ls, O.set (2 * w.part - 2 + port % 2).toNat num)
 else (0, c, Ls, O)
def opAt (code : List (Int × Int)) (pc : Int) : Int := if pc < (code.length : Int) then (el C2 code pc.toNat).1 else 1
noncomputable def runK (w : World) : Nat → Int → RS → RS × Int × Int
 | 0, _, s => (s, 2, 0)
 | f + 1, left, s =>
  if left < costM (opAt w.code s.2.1.1) then (s, 2, 0) else
  if trapM s.2.1 w.code s.1 w.R = 0 then
   if opAt w.code s.2.1.1 = 0 then ((s.1, (0, []), s.2.2.1, s.2.2.2), 0, 0) else
   if (effM w (stepM s.2.1 w.code s.1 w.R w.time).2.2.1 (stepM s.2.1 w.code s.1 w.R w.time).2.2.2.1 (stepM s.2.1 w.code s.1 w.R w.time).2.2.2.2.1 (stepM s.2.1 w.code s.1 w.R w.time).1 s.2.2.1 s.2.2.2).1 = 0 then
    runK w f (left - costM (opAt w.code s.2.1.1)) ((stepM s.2.1 w.code s.1 w.R w.time).2.1, (effM w (stepM s.2.1 w.code s.1 w.R w.time).2.2.1 (stepM s.2.1 w.code s.1 w.R w.time).2.2.2.1 (stepM s.2.1 w.code s.1 w.R w.time).2.2.2.2.1 (stepM s.2.1 w.code s.1 w.R w.time).1 s.2.2.1 s.2.2.2).2)
   else (s, 1, (effM w (stepM s.2.1 w.code s.1 w.R w.time).2.2.1 (stepM s.2.1 w.code s.1 w.R w.time).2.2.2.1 (stepM s.2.1 w.code s.1 w.R w.time).2.2.2.2.1 (stepM s.2.1 w.code s.1 w.R w.time).1 s.2.2.1 s.2.2.2).1)
  else (s, 1, trapM s.2.1 w.code s.1 w.R)
/-! ### what a step asks -/
structure EffIn (a : List Int) (op : Int) (s : Step) : Prop where
 kind : s.2.2.1 = if 13 ≤ op ∧ op ≤ 16 then op else 0
 port : 0 ≤ s.2.2.2.1 ∧ s.2.2.2.1 ≤ 255
 num : Word s.2.2.2.2.1
 words : WordsOk a → WordsOk s.2.1
theorem words_set {a : List Int} {i : Nat} {x : Int} (h : WordsOk a) (hx : Word x) : WordsOk (a.set i x) := words_mem.2 fun y hy => by
 rcases List.mem_or_eq_of_mem_set hy with h' | h'
 ·exact words_mem.1 h y h'
 ·rw [h']
  exact hx
theorem word0 : Word 0 := by unfold Word; omega
theorem doX_eff {pc op g : Int} {S a : List Int} {r : Int × Int} {time : Int} (nt : NoTrap pc op g S a r) : EffIn a op (doX pc (op, g) S a r time) := by
 have hw := nt.words
 have htk := nt.tk
 have hg := nt.g0
 have h0 : (0 : Int) ≤ 0 ∧ (0 : Int) ≤ 255 := by omega
 have pl : ∀ {s : Step}, ¬ (13 ≤ op ∧ op ≤ 16) → s.2.2 = (0, 0, 0, 0) → s.2.1 = a → EffIn a op s := fun {s} h1 h2 h3 => ⟨by rw [h2, if_neg h1], by rw [h2]; exact h0, by rw [h2]; exact word0, by rw [h3]; exact fun h => h⟩
 unfold doX
 dsimp only
 by_cases o1 : op = 1
 ·rw [if_pos o1]; exact pl (by omega) rfl rfl
 rw [if_neg o1]
 by_cases o2 : op = 2
 ·rw [if_pos o2]; exact pl (by omega) rfl rfl
 rw [if_neg o2]
 by_cases o3 : op = 3
 ·subst o3
  simp only [takesM, Int.reduceEq, Int.reduceLE, or_self, and_self, ↓reduceIte] at htk
  rw [if_pos rfl]
  exact ⟨rfl, h0, word0, fun h => words_set h (top_w hw (by omega))⟩
 rw [if_neg o3]
 by_cases o4 : 4 ≤ op ∧ op ≤ 8
 ·rw [if_pos o4]; exact pl (by omega) rfl rfl
 rw [if_neg o4]
 by_cases o9 : op = 9
 ·rw [if_pos o9]; exact pl (by omega) rfl rfl
 rw [if_neg o9]
 by_cases o10 : op = 10
 ·rw [if_pos o10]; exact pl (by omega) rfl rfl
 rw [if_neg o10]
 by_cases o11 : op = 11
 ·rw [if_pos o11]; exact pl (by omega) rfl rfl
 rw [if_neg o11]
 by_cases o12 : op = 12
 ·rw [if_pos o12]; exact pl (by omega) rfl rfl
 rw [if_neg o12]
 by_cases o13 : op = 13 ∨ op = 16
 ·have ht : takesM op = 1 := by
   unfold takesM
   rw [if_pos (by omega)]
  rw [if_pos o13]
  exact ⟨by rw [if_pos (by omega)], hg, top_w hw (by omega), fun h => h⟩
 rw [if_neg o13]
 by_cases o14 : op = 14 ∨ op = 15
 ·rw [if_pos o14]
  exact ⟨by rw [if_pos (by omega)], hg, word0, fun h => h⟩
 rw [if_neg o14]
 by_cases o17 : op = 17
 ·rw [if_pos o17]; exact pl (by omega) rfl rfl
 rw [if_neg o17]
 exact pl (by omega) rfl rfl
theorem step_eff {c : Int × List Int} {code : List (Int × Int)} {a : List Int} {r : Int × Int} {time : Int} (h : trapM c code a r = 0) : EffIn a (el C2 code c.1.toNat).1 (stepM c code a r time) := by
 have nt := (trap0 h).2.2.2
 unfold stepM
 rw [if_pos h]
 exact doX_eff nt
theorem step_end {c : Int × List Int} {code : List (Int × Int)} {a : List Int} {r : Int × Int} {time : Int} (h : trapM c code a r = 0) (h0 : (el C2 code c.1.toNat).1 = 0) : stepM c code a r time = ((c.1 + 1, c.2), a, 0, 0, 0, 0) := by
 obtain ⟨op, g, hxe⟩ : ∃ op g : Int, el C2 code c.1.toNat = (op, g) := ⟨_, _, rfl⟩
 unfold stepM
 rw [if_pos h, hxe]
 rw [hxe] at h0
 simp only at h0
 subst h0
 unfold doX
 simp
theorem opAt_eq {c : Int × List Int} {code : List (Int × Int)} {a : List Int} {r : Int × Int} (h : trapM c code a r = 0) : opAt code c.1 = (el C2 code c.1.toNat).1 := by
 unfold opAt
 rw [if_pos (trap0 h).2.2.1]
/-! ### ports -/
theorem send_code {p : Port5} {l : LineT} {n t : Int} : Word (sendM p l n t).2 := by
 unfold sendM
 refine if_in (P := fun s : LineT × Int => Word s.2) (if_in (P := fun s : LineT × Int => Word s.2) ?_ (if_in (P := fun s : LineT × Int => Word s.2) ?_ ?_)) ?_ <;> (unfold Word; omega)
theorem take_code {p : Port5} {l : LineT} {t : Int} : Word (takeM p l t).2.2 := by
 unfold takeM
 refine if_in (P := fun s : LineT × Int × Int => Word s.2.2) (if_in (P := fun s : LineT × Int × Int => Word s.2.2) ?_ (if_in (P := fun s : LineT × Int × Int => Word s.2.2) ?_ ?_)) ?_ <;> (unfold Word; dsimp only; omega)
theorem port6 {p : Port5} (h : PortOk p) : p.2.2.2.1 ≤ 6 := by
 rcases h.kd with h | h <;> omega
def LineOk (p : Port5) (l : LineT) : Prop := (l.length : Int) ≤ p.2.2.2.1 ∧ Stamps l
theorem send_line {p : Port5} {l : LineT} {n t : Int} (h : LineOk p l) (hp : PortOk p) (ht : Number t) : LineOk p (sendM p l n t).1 := by
 have hm : (1 : Int) ≤ p.2.2.2.1 := by
  rcases hp.kd with h | h <;> omega
 have hs : -9223372036854775808 ≤ t ∧ t < 9223372036854775808 := by unfold Number at ht; omega
 unfold sendM
 refine if_in (P := fun s : LineT × Int => LineOk p s.1) (if_in (P := fun s : LineT × Int => LineOk p s.1) ⟨by simpa using hm, fun x hx => ?_⟩ ?_) h
 ·rw [List.mem_singleton.1 hx]
  exact hs
 ·by_cases hc : p.2.2.2.1 ≤ (l.length : Int)
  ·rw [if_pos hc]
   exact h
  ·rw [if_neg hc]
   refine ⟨by rw [List.length_append, List.length_cons, List.length_nil]; omega, fun x hx => ?_⟩
   rcases List.mem_append.1 hx with h' | h'
   ·exact h.2 x h'
   ·rw [List.mem_singleton.1 h']
    exact hs
theorem take_line {p : Port5} {l : LineT} {t : Int} (h : LineOk p l) : LineOk p (takeM p l t).1 := by
 have hd : LineOk p (l.drop 1) := ⟨by have := h.1; rw [List.length_drop]; omega, fun x hx => h.2 x (List.mem_of_mem_drop hx)⟩
 unfold takeM
 exact if_in (P := fun s : LineT × Int × Int => LineOk p s.1) (if_in (P := fun s : LineT × Int × Int => LineOk p s.1) hd (if_in (P := fun s : LineT × Int × Int => LineOk p s.1) h h)) h
theorem pushW {c : Int × List Int} {x : Int} (h : CpuOk c) (hl : c.2.length < 8) (hx : Word x) : CpuOk (push c x) := ⟨h.1, by unfold push; rw [List.length_append, List.length_cons, List.length_nil]; omega, words_app h.2.2 hx⟩
theorem push_len {c : Int × List Int} {x : Int} : (push c x).2.length = c.2.length + 1 := by unfold push; rw [List.length_append, List.length_cons, List.length_nil]
theorem RunOk.at {w : World} {s : RS} (h : RunOk w s) {i : Nat} (hi : i < s.2.2.1.length) : LineOk (el P5 w.P i) (el LT s.2.2.1 i) := ⟨h.line i hi, h.stamps _ (el_mem (t := LT) hi)⟩
theorem RunOk.setL {w : World} {s : RS} (h : RunOk w s) {i : Nat} {l : LineT} (hl : LineOk (el P5 w.P i) l) {A : List Int} {c : Int × List Int} (hA : A.length = 64) (hAw : WordsOk A) (hc : CpuOk c) : RunOk w (A, c, s.2.2.1.set i l, s.2.2.2) := by
 refine ⟨hA, hAw, hc, by dsimp only; rw [List.length_set]; exact h.nl, fun j hj => ?_, fun m hm => ?_, h.outs, h.outw⟩
 ·dsimp only at hj ⊢
  rw [List.length_set] at hj
  by_cases hij : i = j
  ·subst hij
   rw [el_set_self (t := LT) hj]
   exact hl.1
  ·rw [el_set_ne (t := LT) hij]
   exact h.line j hj
 ·rcases List.mem_or_eq_of_mem_set hm with h' | h'
  ·exact h.stamps m h'
  ·rw [h']
   exact hl.2
theorem RunOk.setC {w : World} {s : RS} (h : RunOk w s) {A : List Int} {c : Int × List Int} (hA : A.length = 64) (hAw : WordsOk A) (hc : CpuOk c) : RunOk w (A, c, s.2.2.1, s.2.2.2) := ⟨hA, hAw, hc, h.nl, h.line, h.stamps, h.outs, h.outw⟩
theorem eff_ok {w : World} {s : RS} {A : List Int} {c : Int × List Int} {kind port num : Int} (hw : WorldOk w) (h : RunOk w s) (hA : A.length = 64) (hAw : WordsOk A) (hc : CpuOk c) (hp : 0 ≤ port) (hn : Word num) : RunOk w (A, (effM w kind port num c s.2.2.1 s.2.2.2).2) := by
 have same : RunOk w (A, c, s.2.2.1, s.2.2.2) := h.setC hA hAw hc
 unfold effM
 by_cases h8 : 8 < c.2.length + ansM kind
 ·rw [if_pos h8]; exact same
 rw [if_neg h8]
 by_cases k13 : kind = 13
 ·subst k13
  rw [if_pos rfl]
  by_cases hq : port < (s.2.2.1.length : Int) ∧ (el P5 w.P port.toNat).2.1 = w.part
  ·rw [if_pos hq]
   have hi : port.toNat < s.2.2.1.length := by omega
   have hpo := hw.ports.1 port.toNat (by have := h.nl; omega)
   exact h.setL (send_line (h.at hi) hpo hw.time) hA hAw (pushW hc (by simp [ansM] at h8; omega) send_code)
  ·rw [if_neg hq]; exact same
 rw [if_neg k13]
 by_cases k14 : kind = 14
 ·subst k14
  rw [if_pos rfl]
  by_cases hq : port < (s.2.2.1.length : Int) ∧ (el P5 w.P port.toNat).2.2.1 = w.part
  ·rw [if_pos hq]
   have hi : port.toNat < s.2.2.1.length := by omega
   simp [ansM] at h8
   exact h.setL (take_line (h.at hi)) hA hAw (pushW (pushW hc (by omega) (word_emod _)) (by rw [push_len]; omega) take_code)
  ·rw [if_neg hq]; exact same
 rw [if_neg k14]
 by_cases k15 : kind = 15
 ·subst k15
  rw [if_pos rfl]
  simp [ansM] at h8
  exact h.setC hA hAw (pushW hc (by omega) (if_in (P := Word) (word_emod _) word0))
 rw [if_neg k15]
 by_cases k16 : kind = 16
 ·rw [if_pos k16]
  exact ⟨hA, hAw, hc, h.nl, h.line, h.stamps, by dsimp only; rw [List.length_set]; exact h.outs, words_set h.outw hn⟩
 rw [if_neg k16]
 exact same
theorem eff_trap {w : World} {kind port num : Int} {c : Int × List Int} {Ls : List LineT} {O : List Int} (h : (effM w kind port num c Ls O).1 ≠ 0) : (effM w kind port num c Ls O).2.2 = (Ls, O) := by
 unfold effM at h ⊢
 split
 ·rfl
 rename_i g1
 rw [if_neg g1] at h
 split
 ·rename_i g2
  rw [if_pos g2] at h
  split
  ·rename_i g3
   rw [if_pos g3] at h
   exact absurd rfl h
  ·rfl
 rename_i g2
 rw [if_neg g2] at h
 split
 ·rename_i g3
  rw [if_pos g3] at h
  split
  ·rename_i g4
   rw [if_pos g4] at h
   exact absurd rfl h
  ·rfl
 rename_i g3
 rw [if_neg g3] at h
 split
 ·rfl
 rename_i g4
 rw [if_neg g4] at h
 split
 ·rename_i g5
  rw [if_pos g5] at h
  exact absurd rfl h
 ·rfl
/-- A round of a run leaves all right. -/
theorem round_ok {w : World} {s : RS} (hw : WorldOk w) (h : RunOk w s) (ht : trapM s.2.1 w.code s.1 w.R = 0) : RunOk w ((stepM s.2.1 w.code s.1 w.R w.time).2.1, (effM w (stepM s.2.1 w.code s.1 w.R w.time).2.2.1 (stepM s.2.1 w.code s.1 w.R w.time).2.2.2.1 (stepM s.2.1 w.code s.1 w.R w.time).2.2.2.2.1 (stepM s.2.1 w.code s.1 w.R w.time).1 s.2.2.1 s.2.2.2).2) := by
 have he := step_eff (time := w.time) ht
 have ho := step_ok (time := w.time) ht
 have hl := (step_len (c := s.2.1) (code := w.code) (a := s.1) (r := w.R) (time := w.time)).2.1
 exact eff_ok hw h (by rw [hl]; exact h.cells) (he.words h.words) ho.1 he.port.1 he.num
theorem runK_ok {w : World} (hw : WorldOk w) : ∀ (f : Nat) (left : Int) (s : RS), RunOk w s → RunOk w (runK w f left s).1
 | 0, left, s, h => h
 | f + 1, left, s, h => by
  rw [runK]
  by_cases h1 : left < costM (opAt w.code s.2.1.1)
  ·rw [if_pos h1]; exact h
  rw [if_neg h1]
  by_cases ht : trapM s.2.1 w.code s.1 w.R = 0
  ·rw [if_pos ht]
   by_cases h0 : opAt w.code s.2.1.1 = 0
   ·rw [if_pos h0]
    exact h.setC h.cells h.words cpu0
   rw [if_neg h0]
   split
   ·exact runK_ok hw f _ _ (round_ok hw h ht)
   ·exact h
  ·rw [if_neg ht]; exact h
/-! ### the kernel behind a run -/
/-- The part's machine, and how often it came to its end. -/
def setP (Ps : List PartT) (i : Nat) (c : Int × List Int) (e : Int) : List PartT := Ps.set i ((el PT Ps i).1, c, (el PT Ps i).2.2.1, e, (el PT Ps i).2.2.2.2)
theorem setP_at {Ps : List PartT} {i : Nat} {c : Int × List Int} {e : Int} (h : i < Ps.length) : el PT (setP Ps i c e) i = ((el PT Ps i).1, c, (el PT Ps i).2.2.1, e, (el PT Ps i).2.2.2.2) := el_set_self (t := PT) h
theorem setP_set {Ps : List PartT} {i : Nat} {c : Int × List Int} {e : Int} {x : PartT} : (setP Ps i c e).set i x = Ps.set i x := List.set_set ..
theorem setP_len {Ps : List PartT} {i : Nat} {c : Int × List Int} {e : Int} : (setP Ps i c e).length = Ps.length := List.length_set ..
theorem setP_same {Ps : List PartT} {i : Nat} (h : i < Ps.length) : setP Ps i (el PT Ps i).2.1 (el PT Ps i).2.2.2.1 = Ps := by
 unfold setP
 have e : ((el PT Ps i).1, (el PT Ps i).2.1, (el PT Ps i).2.2.1, (el PT Ps i).2.2.2.1, (el PT Ps i).2.2.2.2) = el PT Ps i := rfl
 rw [e]
 have := el_lt (t := PT) h
 refine List.ext_getElem? fun j => ?_
 rw [List.getElem?_set]
 split
 ·rename_i hij
  subst hij
  exact this.symm
 ·rfl
def worldOf (K : Kernel) (part : Int) (ins : List Int) : World := ⟨K.1.2.2.1, el W2 K.1.1 (part - 1).toNat, insOf (el .str K.1.2.2.2.2 (part - 1).toNat) ((el .str K.1.2.2.2.2 (part - 1).toNat).size / 2), part, K.2.2.2.2.2.1, ins⟩
noncomputable def runOf (K : Kernel) (part budget : Int) (ins : List Int) : RS × Int × Int := runK (worldOf K part ins) 1001 (min budget 1000) (K.2.1, (el PT K.2.2.1 (part - 1).toNat).2.1, K.2.2.2.1, K.2.2.2.2.1)
def endsOf (K : Kernel) (part : Int) (how : Int) : Int := if how = 0 then (el PT K.2.2.1 (part - 1).toNat).2.2.2.1 + 1 else (el PT K.2.2.1 (part - 1).toNat).2.2.2.1
noncomputable def afterRun (K : Kernel) (part budget : Int) (ins : List Int) : Kernel :=
 (K.1, (runOf K part budget ins).1.1, setP K.2.2.1 (part - 1).toNat (runOf K part budget ins).1.2.1 (endsOf K part (runOf K part budget ins).2.1), (runOf K part budget ins).1.2.2.1, (runOf K part budget ins).1.2.2.2, K.2.2.2.2.2)
def StampsK (K : Kernel) : Prop := ∀ l, l ∈ K.2.2.2.1 → Stamps l
theorem fault_parts {s : Setup} (h : faultM s = 0) : RegionsOk s.1 ∧ PlanOk s.2.1 ∧ PortsOk s.2.2.1 ∧ RulesOk s.2.2.2.1 ∧ CodesOk s.2.2.2.2 (s.1.length : Int) ∧ PartsOk s := by
 unfold faultM at h
 split at h
 ·exact absurd h (by omega)
 split at h
 ·exact absurd h (by omega)
 split at h
 ·exact absurd h (by omega)
 split at h
 ·exact absurd h (by omega)
 split at h
 ·exact absurd h (by omega)
 split at h
 ·exact absurd h (by omega)
 rename_i a b c d e f
 exact ⟨B_iff.1 (Classical.not_not.1 a), B_iff.1 (Classical.not_not.1 b), B_iff.1 (Classical.not_not.1 c), B_iff.1 (Classical.not_not.1 d), B_iff.1 (Classical.not_not.1 e), B_iff.1 (Classical.not_not.1 f)⟩
structure InPart (K : Kernel) (part : Int) : Prop where
 lo : 1 ≤ part
 hi : part ≤ (K.2.2.1.length : Int)
theorem worldOk_of {K : Kernel} {part : Int} {ins : List Int} (h : KernelOk K) (hp : InPart K part) : WorldOk (worldOf K part ins) := by
 obtain ⟨f1, f2, f3, f4, f5, f6⟩ := fault_parts h.fault
 have h1 := hp.lo
 have h2 := hp.hi
 have h3 := h.parts
 have h4 := f1.2.2
 have h5 := f5.2
 refine ⟨f3, ?_, (f1.1 (part - 1).toNat (by omega)).1, by show 1 ≤ part ∧ part ≤ 4; omega, h.turn⟩
 have := (f5.1 (part - 1).toNat (by omega)).2
 show (insOf _ _).length ≤ 60
 rw [insOf_len]
 omega
theorem runOk_of {K : Kernel} {part : Int} {ins : List Int} (h : KernelOk K) (hs : StampsK K) (hp : InPart K part) : RunOk (worldOf K part ins) (K.2.1, (el PT K.2.2.1 (part - 1).toNat).2.1, K.2.2.2.1, K.2.2.2.2.1) := by
 have h1 := hp.lo
 have h2 := hp.hi
 exact ⟨h.cells, h.words, (h.part (part - 1).toNat (by omega)).cpu, h.lines, h.line, hs, h.outs, h.outw⟩
end Go.Proofs.YtefidhlonfiicaaGreat.Pure
/- What is done when something goes wrong. No condition. -/
namespace Go.Proofs.YtefidhlonfiicaaGreat.Pure
open Go Go.Proofs.YtefidhlonfiicaaGreatA Go.Proofs.YtefidhlonfiicaaGreatU Go.Proofs.YtefidhlonfiicaaGreat.QA
set_option linter.unusedVariables false
end Go.Proofs.YtefidhlonfiicaaGreat.Pure
/- Turns of a kernel. No condition. -/
namespace Go.Proofs.YtefidhlonfiicaaGreat.Pure
open Go Go.Proofs.YtefidhlonfiicaaGreatA Go.Proofs.YtefidhlonfiicaaGreatU Go.Proofs.YtefidhlonfiicaaGreat.QA
set_option linter.unusedVariables false
set_option linter.unusedSimpArgs false
/-! ### what stays right -/
def Few (n : Int) (p : PartT) : Prop := p.2.2.1 ≤ n ∧ p.2.2.2.1 ≤ n ∧ p.2.2.2.2 ≤ n
/-- A kernel that is right and of which nothing has been counted more than so often. -/
structure Good (n : Int) (K : Kernel) : Prop where
 ok : KernelOk K
 st : StampsK K
 few : ∀ i, i < K.2.2.1.length → Few n (el PT K.2.2.1 i)
 log : K.2.2.2.2.2.2.2.length ≤ 40
/-- Another part in its place. -/
theorem Good.part {n : Int} {K : Kernel} (h : Good n K) {i : Nat} {p : PartT} (hp : PartOk p) (hf : Few n p) : Good n (K.1, K.2.1, K.2.2.1.set i p, K.2.2.2) := by
 have hq : ∀ j, j < K.2.2.1.length → PartOk (el PT (K.2.2.1.set i p) j) ∧ Few n (el PT (K.2.2.1.set i p) j) := fun j hj => by
  by_cases hij : i = j
  ·subst hij
   rw [el_set_self (t := PT) hj]
   exact ⟨hp, hf⟩
  ·rw [el_set_ne (t := PT) hij]
   exact ⟨h.ok.part j hj, h.few j hj⟩
 have hl : (K.2.2.1.set i p).length = K.2.2.1.length := List.length_set ..
 exact ⟨⟨h.ok.fault, h.ok.cells, h.ok.words, hl.trans h.ok.parts, h.ok.lines, fun j hj => (hq j (by rw [← hl]; exact hj)).1, h.ok.line, h.ok.outs, h.ok.outw, h.ok.turn⟩, h.st, fun j hj => (hq j (by rw [← hl]; exact hj)).2, h.log⟩
theorem Good.cells {n : Int} {K : Kernel} (h : Good n K) {A : List Int} (hA : A.length = 64) (hw : WordsOk A) : Good n (K.1, A, K.2.2) := ⟨⟨h.ok.fault, hA, hw, h.ok.parts, h.ok.lines, h.ok.part, h.ok.line, h.ok.outs, h.ok.outw, h.ok.turn⟩, h.st, h.few, h.log⟩
theorem Good.outs {n : Int} {K : Kernel} (h : Good n K) {O : List Int} (hO : O.length = 8) (hw : WordsOk O) {D : Bool} : Good n (K.1, K.2.1, K.2.2.1, K.2.2.2.1, O, K.2.2.2.2.2.1, D, K.2.2.2.2.2.2.2) := ⟨⟨h.ok.fault, h.ok.cells, h.ok.words, h.ok.parts, h.ok.lines, h.ok.part, h.ok.line, hO, hw, h.ok.turn⟩, h.st, h.few, h.log⟩
theorem Good.turn {n : Int} {K : Kernel} (h : Good n K) {T : Int} (hT : Number T) : Good n (K.1, K.2.1, K.2.2.1, K.2.2.2.1, K.2.2.2.2.1, T, K.2.2.2.2.2.2) := ⟨⟨h.ok.fault, h.ok.cells, h.ok.words, h.ok.parts, h.ok.lines, h.ok.part, h.ok.line, h.ok.outs, h.ok.outw, hT⟩, h.st, h.few, h.log⟩
theorem runOf_ok {K : Kernel} {part budget : Int} {ins : List Int} (h : KernelOk K) (hs : StampsK K) (hp : InPart K part) : RunOk (worldOf K part ins) (runOf K part budget ins).1 := runK_ok (worldOk_of h hp) _ _ _ (runOk_of h hs hp)
/-! ### a new kernel -/
end Go.Proofs.YtefidhlonfiicaaGreat.Pure
/- The program's runs of a part of a kernel. No condition. -/
namespace Go.Proofs.YtefidhlonfiicaaGreat.Pure
open Go Go.Proofs.YtefidhlonfiicaaGreatA Go.Proofs.YtefidhlonfiicaaGreatU Go.Proofs.YtefidhlonfiicaaGreat.QA
set_option linter.unusedVariables false
set_option linter.unusedSimpArgs false
theorem number_i64 {z : Int} (h : Number z) : -9223372036854775808 ≤ z ∧ z < 9223372036854775808 := by unfold Number at h; omega
theorem line_small {w : World} {s : RS} (hw : WorldOk w) (h : RunOk w s) {i : Nat} (hi : i < s.2.2.1.length) : (el LT s.2.2.1 i).length ≤ 6 := by
 have h1 := h.line i hi
 have h2 := port6 (hw.ports.1 i (by have := h.nl; omega))
 omega
theorem effect_i {k : Nat} {w : World} {s : RS} {R W : List (Int × Int)} {U : List (Int × Int × Int)} {C : List ByteArray} {A : List Int} {Ps : List PartT} {D : Bool} {G : List Port5} {c : Int × List Int} {kind port num tr : Int}
  (hw : WorldOk w) (h : RunOk w s) (hc : c.2.length ≤ 8) (hp : 0 ≤ port ∧ port ≤ 255) :
  impl_Kernel_effect.f k ((R, W, w.P, U, C), A, Ps, s.2.2.1, s.2.2.2, w.time, D, G) w.part c (kind, port, num, tr) w.ins = some ((effM w kind port num c s.2.2.1 s.2.2.2).1, ((R, W, w.P, U, C), A, Ps, (effM w kind port num c s.2.2.1 s.2.2.2).2.2.1, (effM w kind port num c s.2.2.1 s.2.2.2).2.2.2, w.time, D, G), (effM w kind port num c s.2.2.1 s.2.2.2).2.1) := by
 have hnl := h.nl
 have hal := ans_le kind
 have ho := h.outs
 have hpt := hw.part
 unfold impl_Kernel_effect.f effM
 simp only [ans_i, Option.bind_some]
 rw [w64_id (z := (c.2.length : Int) + (ansM kind : Int)) (by omega) (by omega)]
 by_cases h8 : 8 < c.2.length + ansM kind
 ·rw [if_pos (by omega), if_pos h8]
 rw [if_neg (by omega), if_neg h8]
 by_cases k13 : kind = 13
 ·rw [if_pos k13, if_pos k13]
  by_cases hlt : port < (s.2.2.1.length : Int)
  ·have hi : port.toNat < s.2.2.1.length := by omega
   have g1 : (0 : Int) ≤ port := hp.1
   have g2 : port < (w.P.length : Int) := by omega
   have hls := line_small hw h hi
   rw [if_neg (fun h => h hlt), if_pos g1, if_pos g2]
   by_cases he : (el P5 w.P port.toNat).2.1 = w.part
   ·rw [if_neg (fun h => h he), if_pos g1, if_pos g2, if_pos g1, if_pos hlt, if_pos ⟨hlt, he⟩]
    rw [send_i (p := el P5 w.P port.toNat) (l := el LT s.2.2.1 port.toNat) (by omega)]
    simp only [Option.bind_some]
    rw [if_pos g1, if_pos hlt, put_i (pc := c.1) (S := c.2) (by omega)]
    rfl
   ·rw [if_pos he, if_neg (fun h => he h.2)]
  ·rw [if_pos hlt, if_neg (fun h => hlt h.1)]
 rw [if_neg k13, if_neg k13]
 by_cases k14 : kind = 14
 ·rw [if_pos k14, if_pos k14]
  by_cases hlt : port < (s.2.2.1.length : Int)
  ·have hi : port.toNat < s.2.2.1.length := by omega
   have g1 : (0 : Int) ≤ port := hp.1
   have g2 : port < (w.P.length : Int) := by omega
   have hls := line_small hw h hi
   rw [if_neg (fun h => h hlt), if_pos g1, if_pos g2]
   by_cases he : (el P5 w.P port.toNat).2.2.1 = w.part
   ·rw [if_neg (fun h => h he), if_pos g1, if_pos g2, if_pos g1, if_pos hlt, if_pos ⟨hlt, he⟩]
    rw [take_i (p := el P5 w.P port.toNat) (l := el LT s.2.2.1 port.toNat) (by omega) (number_i64 hw.time) (h.stamps _ (el_mem (t := LT) hi))]
    simp only [Option.bind_some, mod_i]
    rw [if_pos g1, if_pos hlt, put_i (pc := c.1) (S := c.2) (by omega)]
    simp only [Option.bind_some]
    rw [put_i (pc := c.1) (by rw [List.length_append, List.length_cons, List.length_nil]; omega)]
    rfl
   ·rw [if_pos he, if_neg (fun h => he h.2)]
  ·rw [if_pos hlt, if_neg (fun h => hlt h.1)]
 rw [if_neg k14, if_neg k14]
 by_cases k15 : kind = 15
 ·rw [if_pos k15, if_pos k15]
  by_cases hlt : port < (w.ins.length : Int)
  ·rw [if_pos hlt, if_pos hp.1, if_pos hlt, if_pos hlt]
   simp only [Option.bind_some, mod_i]
   rw [put_i (pc := c.1) (S := c.2) (by omega)]
   rfl
  ·rw [if_neg hlt, if_neg hlt, put_i (pc := c.1) (S := c.2) (by omega)]
   rfl
 rw [if_neg k15, if_neg k15]
 by_cases k16 : kind = 16
 ·have e : w64 (w64 (w64 (2 * w.part) - 2) + Int.tmod port 2) = 2 * w.part - 2 + port % 2 := by
   rw [Int.tmod_eq_emod_of_nonneg hp.1, w64_id (z := 2 * w.part) (by omega) (by omega), w64_id (z := 2 * w.part - 2) (by omega) (by omega), w64_id (by omega) (by omega)]
  rw [if_pos k16, if_pos k16, e, if_pos (by omega), if_pos (by omega)]
 rw [if_neg k16, if_neg k16]
theorem run_loop {k : Nat} {w : World} {R W : List (Int × Int)} {U : List (Int × Int × Int)} {C : List ByteArray} {Ps : List PartT} {D : Bool} {G : List Port5} {i : Nat} {e0 : Int} {s0 : RS} {left0 : Int}
  (hk : 1048576 < k) (hw : WorldOk w) (hi : (i : Int) = w.part - 1) (hiP : i < Ps.length) (hR : w.R = el W2 R i) (hiR : i < R.length) (he : Number e0) (h : RunOk w s0) (hl : left0 ≤ 1000) :
  impl_Kernel_run.l1 k k (w.part, i, left0, w.time, D, R, W, w.P, U, C, s0.1, setP Ps i s0.2.1 e0, s0.2.2.1, s0.2.2.2, G, w.ins, w.code, ()) =
   some ((runK w 1001 left0 s0).2.1, (runK w 1001 left0 s0).2.2, (R, W, w.P, U, C), (runK w 1001 left0 s0).1.1, setP Ps i (runK w 1001 left0 s0).1.2.1 (if (runK w 1001 left0 s0).2.1 = 0 then e0 + 1 else e0), (runK w 1001 left0 s0).1.2.2.1, (runK w 1001 left0 s0).1.2.2.2, w.time, D, G) := by
 refine ok_eq ?_
 generalize hT : runK w 1001 left0 s0 = T
 have hcode := hw.code
 have hpt := hw.part
 have hreg := hw.reg
 have w0 : w64 (w.part - 1) = (i : Int) := by rw [w64_id (by omega) (by omega)]; omega
 refine ok_loop (L := impl_Kernel_run.l1 k) (I := fun d t => ∃ (left : Int) (s : RS), t = (w.part, i, left, w.time, D, R, W, w.P, U, C, s.1, setP Ps i s.2.1 e0, s.2.2.1, s.2.2.2, G, w.ins, w.code, ()) ∧ 1 ≤ d ∧ left < (d : Int) ∧ left ≤ 1000 ∧ RunOk w s ∧ runK w d left s = T) ?_ k 1001 _ (by omega) ⟨left0, s0, rfl, by omega, by omega, hl, h, hT⟩
 rintro d n t ⟨left, ⟨A, c, Ls, O⟩, rfl, hd1, hld, hl1, hr, he2⟩ ih
 obtain ⟨d, rfl⟩ : ∃ d', d = d' + 1 := ⟨d - 1, by omega⟩
 simp only at hr he2 ⊢
 rw [impl_Kernel_run.l1]
 simp only [show el (.pair (.int .i64) (.pair (.pair (.int .i64) (.sl 3 (.int .i64))) (.pair (.int .i64) (.pair (.int .i64) (.int .i64))))) (setP Ps i c e0) i = ((el PT Ps i).1, c, (el PT Ps i).2.2.1, e0, (el PT Ps i).2.2.2.2) from setP_at hiP]
 have hcpu := hr.cpu
 have h0 : 0 ≤ c.1 := hcpu.1.1
 have hS : c.2.length ≤ 8 := hcpu.2.1
 have hA := hr.cells
 simp only at hA hcpu
 have j2 : Ok (impl_Kernel_run.j2 k (impl_Kernel_run.l1 k n) (w.part, i, left, opAt w.code c.1, w.time, D, R, W, w.P, U, C, A, setP Ps i c e0, Ls, O, G, w.ins, w.code, ())) (fun r => r = (T.2.1, T.2.2, (R, W, w.P, U, C), T.1.1, setP Ps i T.1.2.1 (if T.2.1 = 0 then e0 + 1 else e0), T.1.2.2.1, T.1.2.2.2, w.time, D, G)) := by
  rw [impl_Kernel_run.j2]
  simp only [cost_i, Option.bind_some, show el (.pair (.int .i64) (.pair (.pair (.int .i64) (.sl 3 (.int .i64))) (.pair (.int .i64) (.pair (.int .i64) (.int .i64))))) (setP Ps i c e0) i = ((el PT Ps i).1, c, (el PT Ps i).2.2.1, e0, (el PT Ps i).2.2.2.2) from setP_at hiP]
  rw [runK] at he2
  simp only at he2
  have hco := cost_in (opAt w.code c.1)
  by_cases hm : left < costM (opAt w.code c.1)
  ·rw [if_pos hm]
   rw [if_pos hm] at he2
   rw [← he2]
   exact ok_some rfl
  rw [if_neg hm, w0, if_pos (by omega), if_pos (by omega)]
  rw [if_neg hm] at he2
  simp only [Int.toNat_natCast]
  have eR : el (.pair (.int .i64) (.int .i64)) R i = w.R := hR.symm
  rw [eR, step_i hk (by omega) (by omega) (by omega) (by have := hreg.2.2; unfold RegIn at hreg; omega)]
  simp only [Option.bind_some, step_trap]
  rw [w64_id (z := left - costM (opAt w.code c.1)) (by omega) (by omega)]
  by_cases ht : trapM c w.code A w.R = 0
  ·rw [if_pos ht]
   rw [if_pos ht] at he2
   have hso := (step_ok (time := w.time) ht).1
   have hse := step_eff (time := w.time) ht
   have hef := effect_i (k := k) (R := R) (W := W) (U := U) (C := C) (A := A) (Ps := setP Ps i c e0) (D := D) (G := G) (tr := (stepM c w.code A w.R w.time).2.2.2.2.2) (kind := (stepM c w.code A w.R w.time).2.2.1) (num := (stepM c w.code A w.R w.time).2.2.2.2.1) hw hr hso.2.1 hse.port
   simp only at hef
   rw [show ((stepM c w.code A w.R w.time).2.2.1, (stepM c w.code A w.R w.time).2.2.2.1, (stepM c w.code A w.R w.time).2.2.2.2.1, (stepM c w.code A w.R w.time).2.2.2.2.2) = (stepM c w.code A w.R w.time).2.2 from rfl] at hef
   rw [hef]
   have hro := round_ok hw hr ht
   simp only at hro
   have eo := opAt_eq ht
   simp only [Option.bind_some]
   rw [impl_Kernel_run.j3]
   simp only [setP_set, Option.bind_some]
   by_cases h0 : opAt w.code c.1 = 0
   ·rw [if_pos h0] at he2
    have h0' := h0
    rw [eo] at h0'
    have hen := step_end (time := w.time) ht h0'
    rw [hen]
    have ee : effM w 0 0 0 (c.1 + 1, c.2) Ls O = (0, (c.1 + 1, c.2), Ls, O) := by
     unfold effM
     simp [ansM]
     omega
    simp only [ee, h0, not_true_eq_false, ↓reduceIte]
    have g1 : el (.pair (.int .i64) (.pair (.pair (.int .i64) (.sl 3 (.int .i64))) (.pair (.int .i64) (.pair (.int .i64) (.int .i64))))) (Ps.set i ((el PT Ps i).1, (c.1 + 1, c.2), (el PT Ps i).2.2.1, e0, (el PT Ps i).2.2.2.2)) i = ((el PT Ps i).1, (c.1 + 1, c.2), (el PT Ps i).2.2.1, e0, (el PT Ps i).2.2.2.2) := el_set_self (t := PT) hiP
    simp only [setP_at hiP, g1, List.set_set]
    have g2 : el (.pair (.int .i64) (.pair (.pair (.int .i64) (.sl 3 (.int .i64))) (.pair (.int .i64) (.pair (.int .i64) (.int .i64))))) (Ps.set i ((el PT Ps i).1, (0, []), (el PT Ps i).2.2.1, e0, (el PT Ps i).2.2.2.2)) i = ((el PT Ps i).1, (0, []), (el PT Ps i).2.2.1, e0, (el PT Ps i).2.2.2.2) := el_set_self (t := PT) hiP
    rw [g2, ← he2, w64_id (z := e0 + 1) (by unfold Number at he; omega) (by unfold Number at he; omega)]
    exact ok_some rfl
   rw [if_neg h0] at he2
   have hte := eff_trap (w := w) (kind := (stepM c w.code A w.R w.time).2.2.1) (port := (stepM c w.code A w.R w.time).2.2.2.1) (num := (stepM c w.code A w.R w.time).2.2.2.2.1) (c := (stepM c w.code A w.R w.time).1) (Ls := Ls) (O := O)
   generalize effM w (stepM c w.code A w.R w.time).2.2.1 (stepM c w.code A w.R w.time).2.2.2.1 (stepM c w.code A w.R w.time).2.2.2.2.1 (stepM c w.code A w.R w.time).1 Ls O = ef at he2 hro hte ⊢
   obtain ⟨tr, ⟨pc1, S1⟩, Ls1, O1⟩ := ef
   simp only at he2 hro hte ⊢
   by_cases hz : tr = 0
   ·rw [if_neg (fun h => h hz)]
    rw [if_pos hz] at he2
    rw [if_neg h0, setP_at hiP]
    exact ih d _ (by omega) ⟨left - costM (opAt w.code c.1), _, rfl, by omega, by omega, by omega, hro, he2⟩
   ·rw [if_pos hz]
    rw [if_neg hz] at he2
    have := hte hz
    rw [← he2, (Prod.mk.inj this).1, (Prod.mk.inj this).2]
    exact ok_some rfl
  ·rw [if_neg ht]
   rw [if_neg ht] at he2
   rw [impl_Kernel_run.j3, if_pos ht, ← he2]
   exact ok_some rfl
 refine ok_if (fun hc => ok_grd h0 (ok_grd hc ?_)) (fun hc => ?_)
 ·have e : opAt w.code c.1 = (el C2 w.code c.1.toNat).1 := by
   unfold opAt
   rw [if_pos hc]
  rw [e] at j2
  exact j2
 ·have e : opAt w.code c.1 = 1 := by
   unfold opAt
   rw [if_neg hc]
  rw [e] at j2
  exact j2
end Go.Proofs.YtefidhlonfiicaaGreat.Pure
/- The window of a turn. No condition. -/
namespace Go.Proofs.YtefidhlonfiicaaGreat.Pure
open Go Go.Proofs.YtefidhlonfiicaaGreatA Go.Proofs.YtefidhlonfiicaaGreatU Go.Proofs.YtefidhlonfiicaaGreat.QA
set_option linter.unusedVariables false
end Go.Proofs.YtefidhlonfiicaaGreat.Pure
/- The program's turns of a kernel. No condition. -/
namespace Go.Proofs.YtefidhlonfiicaaGreat.Pure
open Go Go.Proofs.YtefidhlonfiicaaGreatA Go.Proofs.YtefidhlonfiicaaGreatU Go.Proofs.YtefidhlonfiicaaGreat.QA
set_option linter.unusedVariables false
set_option linter.unusedSimpArgs false
theorem run_i {k : Nat} {K : Kernel} {part budget : Int} {ins : List Int} (hk : 1048576 < k) (h : KernelOk K) (hs : StampsK K) (hp : InPart K part) :
  impl_Kernel_run.f k K part budget ins = some ((runOf K part budget ins).2.1, (runOf K part budget ins).2.2, afterRun K part budget ins) := by
 obtain ⟨⟨R, W, P, U, C⟩, A, Ps, Ls, O, T, D, G⟩ := K
 obtain ⟨f1, f2, f3, f4, f5, f6⟩ := fault_parts h.fault
 have h1 := hp.lo
 have h2 := hp.hi
 have h3 := h.parts
 have h4 := f1.2.2
 have h5 := f5.2
 have hw := worldOk_of (ins := ins) h hp
 have hr := runOk_of (ins := ins) h hs hp
 simp only at h2 h3 h4 h5
 have hi : (((part - 1).toNat : Nat) : Int) = part - 1 := by omega
 have hpo := h.part (part - 1).toNat (by dsimp only; omega)
 have w0 : w64 (part - 1) = part - 1 := w64_id (by omega) (by omega)
 have hrd : readM (el .str C (part - 1).toNat) = (insOf (el .str C (part - 1).toNat) ((el .str C (part - 1).toNat).size / 2), true) := by
  unfold readM
  rw [B_yes (f5.1 (part - 1).toNat (by dsimp only; omega)), if_pos rfl]
 unfold impl_Kernel_run.f
 simp only [w0]
 rw [if_pos (by omega), if_pos (by omega), if_pos (by omega), if_pos (by omega), read_i hk, hrd]
 simp only [Option.bind_some]
 have := run_loop (k := k) (w := worldOf ((R, W, P, U, C), A, Ps, Ls, O, T, D, G) part ins) (R := R) (W := W) (U := U) (C := C) (Ps := Ps) (D := D) (G := G) (i := (part - 1).toNat) (e0 := (el PT Ps (part - 1).toNat).2.2.2.1) (s0 := (A, (el PT Ps (part - 1).toNat).2.1, Ls, O)) (left0 := min budget 1000) hk hw hi (by omega) rfl (by omega) hpo.ends hr (by omega)
 simp only at this
 rw [setP_same (by omega)] at this
 exact this
theorem copySetup_i {k : Nat} {S : Setup} (h : Small S) : impl_copySetup.f k S = some S := by
 obtain ⟨R, W, P, U, C⟩ := S
 obtain ⟨h1, h2, h3, h4, h5⟩ := h
 simp only at h1 h2 h3 h4 h5
 unfold impl_copySetup.f impl_copyPlan.f
 simp only [Option.bind_some, List.length_nil, List.nil_append]
 rw [if_pos (by omega), if_pos (by omega)]
 simp only [Option.bind_some]
 rw [if_pos (by omega), if_pos (by omega), if_pos (by omega)]
theorem copyKernel_i {k : Nat} {K : Kernel} (h : SmallK K) (hk : 1048576 < k) : impl_copyKernel.f k K = some K := by
 obtain ⟨⟨R, W, P, U, C⟩, A, Ps, Ls, O, T, D, G⟩ := K
 obtain ⟨s1, s2, s3, s4, s5, s6, s7, s8⟩ := h
 simp only at s2 s3 s4 s5 s6 s7 s8
 refine ok_eq ?_
 unfold impl_copyKernel.f
 rw [copySetup_i s1, arena_i s2, ints_i s7]
 refine ok_let (ok_let (ok_let ?_))
 refine ok_loop (L := impl_copyKernel.l1 k) (I := fun d s => ∃ j : Nat, s = ((Ps.length : Int), (j : Int), T, D, 0, false, T, D, R, W, P, U, C, A, Ps, Ls, O, G, [], [], [], [], [], [], [], [], [], [], R, W, P, U, C, A, Ps.take j, [], O, [], ()) ∧ j + d = Ps.length) ?_ k Ps.length _ (by omega) ⟨0, rfl, by omega⟩
 rintro d n s ⟨j, rfl, hd⟩ ih
 rw [impl_copyKernel.l1]
 have h4 : w64 ((j : Int) + 1) = ((j + 1 : Nat) : Int) := w64_id (by omega) (by omega)
 refine ok_if (fun hlt => ok_grd (by omega) (ok_grd hlt ?_)) (fun hge => ?_)
 ·have hj : j < Ps.length := by omega
  have hst := s4 _ (el_mem (t := PT) hj)
  have hcp : impl_copyPart.f k (el PT Ps j) = some (el PT Ps j) := by
   unfold impl_copyPart.f
   rw [cpu_i hst]
   rfl
  have htl : (Ps.take j).length = j := by rw [List.length_take]; omega
  have et : Ps.take j ++ [el PT Ps j] = Ps.take (j + 1) := by rw [List.take_add_one, el_lt (t := PT) hj]; rfl
  simp only [Int.toNat_natCast]
  refine ok_bind' hcp (ok_let (ok_grd (by simp only [List.length_cons, List.length_nil]; omega) (ok_let ?_)))
  rw [h4]
  exact ih (d - 1) _ (by omega) ⟨j + 1, by rw [← et], by omega⟩
 ·rw [List.take_of_length_le (by omega)]
  clear ih hd hge h4
  refine ok_loop (L := impl_copyKernel.l2 k) (I := fun d s => ∃ j : Nat, s = ((Ls.length : Int), (j : Int), T, D, 0, false, T, D, R, W, P, U, C, A, Ps, Ls, O, G, [], [], [], [], [], [], [], [], [], [], R, W, P, U, C, A, Ps, Ls.take j, O, [], ()) ∧ j + d = Ls.length) ?_ k Ls.length _ (by omega) ⟨0, rfl, by omega⟩
  rintro d n s ⟨j, rfl, hd⟩ ih
  rw [impl_copyKernel.l2]
  have h4 : w64 ((j : Int) + 1) = ((j + 1 : Nat) : Int) := w64_id (by omega) (by omega)
  refine ok_if (fun hlt => ok_grd (by omega) (ok_grd hlt ?_)) (fun hge => ?_)
  ·have hj : j < Ls.length := by omega
   have hst := s6 _ (el_mem (t := LT) hj)
   have htl : (Ls.take j).length = j := by rw [List.length_take]; omega
   have et : Ls.take j ++ [el LT Ls j] = Ls.take (j + 1) := by rw [List.take_add_one, el_lt (t := LT) hj]; rfl
   simp only [Int.toNat_natCast]
   refine ok_bind' (line_i (l := el LT Ls j) hst) (ok_let (ok_grd (by simp only [List.length_cons, List.length_nil]; omega) (ok_let ?_)))
   rw [h4]
   exact ih (d - 1) _ (by omega) ⟨j + 1, by rw [← et], by omega⟩
  ·rw [List.take_of_length_le (by omega)]
   refine ok_let (ok_grd (by simp only [List.length_nil]; omega) (ok_let (ok_some rfl)))
end Go.Proofs.YtefidhlonfiicaaGreat.Pure
/- Ports: what is sent and taken by the reference. No condition. -/
namespace Go.Proofs.YtefidhlonfiicaaGreat.Pure
open Go Go.Proofs.YtefidhlonfiicaaGreatA Go.Proofs.YtefidhlonfiicaaGreatU Go.Proofs.YtefidhlonfiicaaGreat.QA
set_option linter.unusedVariables false
set_option linter.unusedSimpArgs false
theorem line_s {k : Nat} {l : List (Int × Int)} (h : l.length ≤ 1048576) : spec_l08Copy.f k l = some l := by
 unfold spec_l08Copy.f
 simp only [Option.bind_some, List.length_nil, List.nil_append]
 rw [if_pos (by omega)]
theorem send_s {k : Nat} {p : Port5} {l : List (Int × Int)} {n time : Int} (hl : l.length ≤ 1048576) : spec_SendPort.f k p l n time = some (sendM p l n time) := by
 have c1 : (l.length + (0 + 1)) * 16 ≤ 140737488355328 := by omega
 unfold spec_SendPort.f sendM
 rw [line_s hl, portOk_s]
 simp only [Option.bind_some, List.length_cons, List.length_nil, c1, ↓reduceIte]
 by_cases hp : PortOk p
 ·rw [B_yes hp]
  simp only [not_true_eq_false, ↓reduceIte]
  split
  ·rfl
  ·split <;> rfl
 ·rw [B_no hp]
  simp
theorem take_s {k : Nat} {p : Port5} {l : List (Int × Int)} {time : Int} (hl : l.length ≤ 1048576) (ht : -9223372036854775808 ≤ time ∧ time < 9223372036854775808) (hs : Stamps l) : spec_TakePort.f k p l time = some (takeM p l time) := by
 unfold spec_TakePort.f takeM
 rw [line_s hl, portOk_s]
 simp only [Option.bind_some, List.nil_append, List.length_nil]
 by_cases hp : PortOk p
 ·rw [B_yes hp]
  simp only [not_true_eq_false, ↓reduceIte, true_and]
  by_cases h0 : (l.length : Int) = 0
  ·rw [if_pos h0, if_neg (fun h => h h0)]
  ·rw [if_neg h0, if_pos h0, if_pos (by omega), if_pos (by omega)]
   obtain ⟨x, t, hx⟩ : ∃ x t : Int, el M2 l 0 = (x, t) := ⟨_, _, rfl⟩
   have hst := hs _ (el_mem (t := M2) (xs := l) (i := 0) (by omega))
   rw [hx] at hst
   simp only [show el (.pair (.int .i64) (.int .i64)) l 0 = (x, t) from hx]
   simp only at hst
   by_cases h1 : p.1 = 1
   ·rw [if_pos h1, if_pos h1, if_pos (by omega), if_pos (by omega), if_pos (by rw [List.length_drop]; omega)]
   ·have h2 : 1 ≤ p.2.2.2.2 ∧ p.2.2.2.2 ≤ 100 := by
     rcases hp.kd with h | h
     ·exact absurd h.1 h1
     ·exact h.2.2
    rw [if_neg h1, if_neg h1]
    by_cases h3 : t < time
    ·rw [if_pos h3]
     have hw : w64 (time - t) = if time - t < 9223372036854775808 then time - t else time - t - 18446744073709551616 := by
      show IntKind.i64.wrap _ = _
      rw [IntKind.wrap_i64]
      split <;> omega
     by_cases h4 : time - t < 9223372036854775808
     ·rw [if_pos h4] at hw
      rw [hw, if_neg (by omega)]
      by_cases h5 : p.2.2.2.2 < time - t
      ·rw [if_pos h5, if_pos h5]
      ·rw [if_neg h5, if_neg h5]
     ·rw [if_neg h4] at hw
      rw [hw, if_pos (by omega), if_pos (by omega)]
    ·rw [if_neg h3, if_neg (by omega)]
 ·rw [B_no hp]
  simp
end Go.Proofs.YtefidhlonfiicaaGreat.Pure
/- The reference's runs of a part of a kernel. No condition. -/
namespace Go.Proofs.YtefidhlonfiicaaGreat.Pure
open Go Go.Proofs.YtefidhlonfiicaaGreatA Go.Proofs.YtefidhlonfiicaaGreatU Go.Proofs.YtefidhlonfiicaaGreat.QA
set_option linter.unusedVariables false
set_option linter.unusedSimpArgs false
/-- What an instruction asks: answers, a trap, lines, registers. -/
noncomputable def effS (w : World) (kind port num : Int) (Ls : List LineT) (O : List Int) : List Int × Int × List LineT × List Int :=
 if kind = 13 then
  if port < (Ls.length : Int) ∧ (el P5 w.P port.toNat).2.1 = w.part then
   ([(sendM (el P5 w.P port.toNat) (el LT Ls port.toNat) num w.time).2], 0, Ls.set port.toNat (sendM (el P5 w.P port.toNat) (el LT Ls port.toNat) num w.time).1, O)
  else ([], 7, Ls, O)
 else if kind = 14 then
  if port < (Ls.length : Int) ∧ (el P5 w.P port.toNat).2.2.1 = w.part then
   ([(takeM (el P5 w.P port.toNat) (el LT Ls port.toNat) w.time).2.1, (takeM (el P5 w.P port.toNat) (el LT Ls port.toNat) w.time).2.2], 0, Ls.set port.toNat (takeM (el P5 w.P port.toNat) (el LT Ls port.toNat) w.time).1, O)
  else ([], 7, Ls, O)
 else if kind = 15 then ([if port < (w.ins.length : Int) then el I1 w.ins port.toNat else 0], 0, Ls, O)
 else if kind = 16 then ([], 0, Ls, O.set (2 * w.part - 2 + port % 2).toNat num)
 else ([], 0, Ls, O)
def modL (L : List Int) : List Int := L.map fun n => n % 65536
theorem effS_rel {w : World} {kind port num : Int} {c : Int × List Int} {Ls : List LineT} {O : List Int} (h8 : ¬ 8 < c.2.length + ansM kind) :
  ((effS w kind port num Ls O).2.1 = 0 → effM w kind port num c Ls O = (0, (c.1, c.2 ++ modL (effS w kind port num Ls O).1), (effS w kind port num Ls O).2.2) ∧ c.2.length + (effS w kind port num Ls O).1.length ≤ 8) ∧
  (¬ (effS w kind port num Ls O).2.1 = 0 → effM w kind port num c Ls O = ((effS w kind port num Ls O).2.1, c, Ls, O) ∧ (effS w kind port num Ls O).2.2 = (Ls, O)) := by
 unfold effS effM
 rw [if_neg h8]
 by_cases k13 : kind = 13
 ·subst k13
  simp only [↓reduceIte]
  by_cases hq : port < (Ls.length : Int) ∧ (el P5 w.P port.toNat).2.1 = w.part
  ·rw [if_pos hq, if_pos hq]
   refine ⟨fun _ => ⟨?_, by simp [ansM] at h8; simp; omega⟩, fun h => absurd rfl h⟩
   have hs := send_code (p := el P5 w.P port.toNat) (l := el LT Ls port.toNat) (n := num) (t := w.time)
   unfold modL push
   simp only [List.map_cons, List.map_nil, word_mod hs]
  ·rw [if_neg hq, if_neg hq]
   exact ⟨fun h => absurd h (by show ¬ (7 : Int) = 0; decide), fun _ => ⟨rfl, rfl⟩⟩
 rw [if_neg k13, if_neg k13]
 by_cases k14 : kind = 14
 ·subst k14
  simp only [↓reduceIte]
  by_cases hq : port < (Ls.length : Int) ∧ (el P5 w.P port.toNat).2.2.1 = w.part
  ·rw [if_pos hq, if_pos hq]
   refine ⟨fun _ => ⟨?_, by simp [ansM] at h8; simp; omega⟩, fun h => absurd rfl h⟩
   have hs := take_code (p := el P5 w.P port.toNat) (l := el LT Ls port.toNat) (t := w.time)
   unfold modL push
   simp only [List.map_cons, List.map_nil, word_mod hs, List.append_assoc, List.cons_append, List.nil_append]
  ·rw [if_neg hq, if_neg hq]
   exact ⟨fun h => absurd h (by show ¬ (7 : Int) = 0; decide), fun _ => ⟨rfl, rfl⟩⟩
 rw [if_neg k14, if_neg k14]
 by_cases k15 : kind = 15
 ·subst k15
  simp only [↓reduceIte]
  refine ⟨fun _ => ⟨?_, by simp [ansM] at h8; simp; omega⟩, fun h => absurd trivial h⟩
  unfold modL push
  split <;> rfl
 rw [if_neg k15, if_neg k15]
 have h0 : c.2.length ≤ 8 := by omega
 have e0 : (c.1, c.2 ++ modL []) = c := by unfold modL; simp
 by_cases k16 : kind = 16
 ·rw [if_pos k16, if_pos k16]
  exact ⟨fun _ => ⟨by rw [e0], by simpa using h0⟩, fun h => absurd rfl h⟩
 ·rw [if_neg k16, if_neg k16]
  exact ⟨fun _ => ⟨by rw [e0], by simpa using h0⟩, fun h => absurd rfl h⟩
theorem effect_s {k : Nat} {w : World} {s : RS} {R W : List (Int × Int)} {U : List (Int × Int × Int)} {C : List ByteArray} {A : List Int} {Ps : List PartT} {D : Bool} {G : List Port5} {kind port num tr : Int}
  (hw : WorldOk w) (h : RunOk w s) (hp : 0 ≤ port ∧ port ≤ 255) :
  spec_l12Effect.f k ((R, W, w.P, U, C), A, Ps, s.2.2.1, s.2.2.2, w.time, D, G) w.part (kind, port, num, tr) w.ins = some ((effS w kind port num s.2.2.1 s.2.2.2).1, (effS w kind port num s.2.2.1 s.2.2.2).2.1, (R, W, w.P, U, C), A, Ps, (effS w kind port num s.2.2.1 s.2.2.2).2.2.1, (effS w kind port num s.2.2.1 s.2.2.2).2.2.2, w.time, D, G) := by
 have hnl := h.nl
 have ho := h.outs
 have hpt := hw.part
 have g1 : (0 : Int) ≤ port := hp.1
 unfold spec_l12Effect.f effS
 dsimp only
 by_cases k13 : kind = 13
 ·rw [if_pos k13, if_pos k13, spec_l12Effect.j1, if_pos rfl]
  by_cases hlt : port < (s.2.2.1.length : Int)
  ·have hi : port.toNat < s.2.2.1.length := by omega
   have g2 : port < (w.P.length : Int) := by omega
   have hls := line_small hw h hi
   rw [if_neg (by omega), if_pos g1, if_pos g2, if_pos k13]
   by_cases he : (el P5 w.P port.toNat).2.1 = w.part
   ·rw [if_neg (fun h => h he), if_pos g1, if_pos hlt, if_pos ⟨hlt, he⟩]
    rw [send_s (p := el P5 w.P port.toNat) (l := el LT s.2.2.1 port.toNat) (by omega)]
    simp only [Option.bind_some]
    rw [if_pos g1, if_pos hlt]
   ·rw [if_pos he, if_neg (fun h => he h.2)]
    rfl
  ·rw [if_pos (by omega), if_neg (fun h => hlt h.1)]
   rfl
 rw [if_neg k13, if_neg k13, spec_l12Effect.j1]
 by_cases k14 : kind = 14
 ·rw [if_pos (decide_eq_true k14), if_pos k14]
  by_cases hlt : port < (s.2.2.1.length : Int)
  ·have hi : port.toNat < s.2.2.1.length := by omega
   have g2 : port < (w.P.length : Int) := by omega
   have hls := line_small hw h hi
   rw [if_neg (by omega), if_pos g1, if_pos g2, if_neg k13]
   by_cases he : (el P5 w.P port.toNat).2.2.1 = w.part
   ·rw [if_neg (fun h => h he), if_pos g1, if_pos hlt, if_pos ⟨hlt, he⟩]
    rw [take_s (p := el P5 w.P port.toNat) (l := el LT s.2.2.1 port.toNat) (by omega) (number_i64 hw.time) (h.stamps _ (el_mem (t := LT) hi))]
    simp only [Option.bind_some]
    rw [if_pos g1, if_pos hlt]
   ·rw [if_pos he, if_neg (fun h => he h.2)]
    rfl
  ·rw [if_pos (by omega), if_neg (fun h => hlt h.1)]
   rfl
 rw [if_neg (by rw [decide_eq_false k14]; decide), if_neg k14]
 by_cases k15 : kind = 15
 ·rw [if_pos k15, if_pos k15]
  by_cases hlt : port < (w.ins.length : Int)
  ·rw [if_pos hlt, if_pos g1, if_pos hlt, if_pos hlt]
   rfl
  ·rw [if_neg hlt, if_neg hlt]
   rfl
 rw [if_neg k15, if_neg k15]
 by_cases k16 : kind = 16
 ·have e : w64 (w64 (w64 (2 * w.part) - 2) + Int.tmod port 2) = 2 * w.part - 2 + port % 2 := by
   rw [Int.tmod_eq_emod_of_nonneg hp.1, w64_id (z := 2 * w.part) (by omega) (by omega), w64_id (z := 2 * w.part - 2) (by omega) (by omega), w64_id (by omega) (by omega)]
  rw [if_pos k16, if_pos k16, e, if_pos (by omega), if_pos (by omega)]
  rfl
 rw [if_neg k16, if_neg k16]
 rfl
theorem modL_next {L : List Int} {j : Nat} (h : j < L.length) : modL (L.take (j + 1)) = modL (L.take j) ++ [el I1 L j % 65536] := by
 unfold modL
 rw [List.take_add_one, el_lt (t := I1) h]
 simp
theorem modL_words (L : List Int) : WordsOk (modL L) := words_mem.2 fun x hx => by
 obtain ⟨n, _, rfl⟩ := List.mem_map.1 hx
 exact word_emod n
/-- The answers are put. -/
theorem answers_s {k : Nat} {part time pc : Int} {R W : List (Int × Int)} {P : List Port5} {U : List (Int × Int × Int)} {C : List ByteArray} {A A' : List Int} {Ps : List PartT} {Ls : List LineT} {O : List Int} {D : Bool} {G : List Port5} {S ans : List Int} {i : Nat}
  (hk : 1048576 < k) (hi : (i : Int) = part - 1) (hi4 : i < 4) (hiP : i < Ps.length) (hc : CpuOk (pc, S)) (hl : S.length + ans.length ≤ 8) :
  spec_l12Step.l1 k k (part, 0, time, D, pc, R, W, P, U, C, A, Ps, Ls, O, G, S, A', ans, ()) = some (false, 0, 0, (R, W, P, U, C), A', Ps.set i ((el PT Ps i).1, (pc, S ++ modL ans), (el PT Ps i).2.2), Ls, O, time, D, G) := by
 refine ok_eq ?_
 refine ok_loop (L := spec_l12Step.l1 k) (I := fun d s => ∃ j : Nat, s = (part, (j : Int), time, D, pc, R, W, P, U, C, A, Ps, Ls, O, G, S ++ modL (ans.take j), A', ans, ()) ∧ j + d = ans.length) ?_ k ans.length _ (by omega) ⟨0, by unfold modL; simp, by omega⟩
 rintro d n s ⟨j, rfl, hd⟩ ih
 rw [spec_l12Step.l1]
 have h4 : w64 ((j : Int) + 1) = ((j + 1 : Nat) : Int) := w64_id (by omega) (by omega)
 have hml : (modL (ans.take j)).length = j := by unfold modL; rw [List.length_map, List.length_take]; omega
 refine ok_if (fun hlt => ok_grd (by omega) (ok_grd hlt ?_)) (fun hge => ?_)
 ·have hj : j < ans.length := by omega
  have hck : CpuOk (pc, S ++ modL (ans.take j)) := by
   refine ⟨hc.1, by dsimp only; rw [List.length_append, hml]; omega, words_mem.2 fun x hx => ?_⟩
   rcases List.mem_append.1 hx with h | h
   ·exact words_mem.1 hc.2.2 x h
   ·exact words_mem.1 (modL_words _) x h
  have ha : answerM (pc, S ++ modL (ans.take j)) (el I1 ans j) = ((pc, S ++ modL (ans.take (j + 1))), true) := by
   unfold answerM
   rw [if_pos ⟨B_yes hck, by dsimp only; rw [List.length_append, hml]; omega⟩, modL_next hj, List.append_assoc]
  simp only [Int.toNat_natCast]
  refine ok_bind' ((answer_s hk (by dsimp only; rw [List.length_append, hml]; omega)).trans (congrArg some ha)) ?_
  rw [h4]
  exact ih (d - 1) _ (by omega) ⟨j + 1, rfl, by omega⟩
 ·have w0 : w64 (part - 1) = (i : Int) := by rw [w64_id (by omega) (by omega)]; omega
  rw [w0, List.take_of_length_le (by omega)]
  refine ok_grd (by omega) (ok_grd (by omega) (ok_let (ok_some ?_)))
  simp only [Int.toNat_natCast]
noncomputable def roundS (w : World) (s : RS) : Bool × Int × Int × RS :=
 if trapM s.2.1 w.code s.1 w.R = 0 then
  if opAt w.code s.2.1.1 = 0 then (true, 0, 0, s.1, (0, []), s.2.2.1, s.2.2.2) else
  if (effM w (stepM s.2.1 w.code s.1 w.R w.time).2.2.1 (stepM s.2.1 w.code s.1 w.R w.time).2.2.2.1 (stepM s.2.1 w.code s.1 w.R w.time).2.2.2.2.1 (stepM s.2.1 w.code s.1 w.R w.time).1 s.2.2.1 s.2.2.2).1 = 0 then
   (false, 0, 0, (stepM s.2.1 w.code s.1 w.R w.time).2.1, (effM w (stepM s.2.1 w.code s.1 w.R w.time).2.2.1 (stepM s.2.1 w.code s.1 w.R w.time).2.2.2.1 (stepM s.2.1 w.code s.1 w.R w.time).2.2.2.2.1 (stepM s.2.1 w.code s.1 w.R w.time).1 s.2.2.1 s.2.2.2).2)
  else (true, 1, (effM w (stepM s.2.1 w.code s.1 w.R w.time).2.2.1 (stepM s.2.1 w.code s.1 w.R w.time).2.2.2.1 (stepM s.2.1 w.code s.1 w.R w.time).2.2.2.2.1 (stepM s.2.1 w.code s.1 w.R w.time).1 s.2.2.1 s.2.2.2).1, s)
 else (true, 1, trapM s.2.1 w.code s.1 w.R, s)
theorem runK_round {w : World} {f : Nat} {left : Int} {s : RS} (h : ¬ left < costM (opAt w.code s.2.1.1)) : runK w (f + 1) left s = if (roundS w s).1 = true then ((roundS w s).2.2.2, (roundS w s).2.1, (roundS w s).2.2.1) else runK w f (left - costM (opAt w.code s.2.1.1)) (roundS w s).2.2.2 := by
 rw [runK, if_neg h]
 unfold roundS
 by_cases ht : trapM s.2.1 w.code s.1 w.R = 0
 ·rw [if_pos ht, if_pos ht]
  by_cases h0 : opAt w.code s.2.1.1 = 0
  ·rw [if_pos h0, if_pos h0]
   rfl
  ·rw [if_neg h0, if_neg h0]
   split
   ·rfl
   ·rfl
 ·rw [if_neg ht, if_neg ht]
  rfl
def endsS (b : Bool) (how e0 : Int) : Int := if b = true ∧ how = 0 then e0 + 1 else e0
theorem round_s {k : Nat} {w : World} {R W : List (Int × Int)} {U : List (Int × Int × Int)} {C : List ByteArray} {Ps : List PartT} {D : Bool} {G : List Port5} {i : Nat} {e0 : Int} {s : RS}
  (hk : 1048576 < k) (hw : WorldOk w) (hi : (i : Int) = w.part - 1) (hiP : i < Ps.length) (hR : w.R = el W2 R i) (hiR : i < R.length) (he : Number e0) (h : RunOk w s) :
  spec_l12Step.f k ((R, W, w.P, U, C), s.1, setP Ps i s.2.1 e0, s.2.2.1, s.2.2.2, w.time, D, G) w.part w.code w.ins =
   some ((roundS w s).1, (roundS w s).2.1, (roundS w s).2.2.1, (R, W, w.P, U, C), (roundS w s).2.2.2.1, setP Ps i (roundS w s).2.2.2.2.1 (endsS (roundS w s).1 (roundS w s).2.1 e0), (roundS w s).2.2.2.2.2.1, (roundS w s).2.2.2.2.2.2, w.time, D, G) := by
 obtain ⟨A, c, Ls, O⟩ := s
 have hcode := hw.code
 have hpt := hw.part
 have hreg := hw.reg
 have w0 : w64 (w.part - 1) = (i : Int) := by rw [w64_id (by omega) (by omega)]; omega
 have hcpu := h.cpu
 have h0 : 0 ≤ c.1 := hcpu.1.1
 have hS : c.2.length ≤ 8 := hcpu.2.1
 have hA := h.cells
 simp only at hA hcpu
 have hat : el PT (setP Ps i c e0) i = ((el PT Ps i).1, c, (el PT Ps i).2.2.1, e0, (el PT Ps i).2.2.2.2) := setP_at hiP
 have hsl : (setP Ps i c e0).length = Ps.length := setP_len
 unfold spec_l12Step.f roundS
 simp only [w0, Int.toNat_natCast]
 rw [if_pos (by omega), if_pos (by omega), if_pos (by omega), if_pos (by omega)]
 have eR : el Ty2 R i = w.R := hR.symm
 rw [show el TyP (setP Ps i c e0) i = _ from hat, eR]
 simp only
 rw [step_s hk (by omega) (by omega) (by omega)]
 simp only [Option.bind_some, step_trap]
 by_cases ht : trapM c w.code A w.R = 0
 ·rw [if_neg (fun h => h ht), if_pos ht]
  obtain ⟨_, _, hpc, _⟩ := trap0 ht
  have eo := opAt_eq ht
  rw [if_pos h0, if_pos hpc]
  by_cases hz : opAt w.code c.1 = 0
  ·have hz' := hz
   rw [eo] at hz'
   rw [if_pos hz', if_pos hz, if_pos (by omega), if_pos (by omega)]
   rw [show Ps = Ps from rfl]
   have g1 : (setP Ps i c e0).set i ((el PT Ps i).1, (0, []), (el PT Ps i).2.2.1, e0, (el PT Ps i).2.2.2.2) = setP Ps i (0, []) e0 := setP_set
   have g2 : el TyP (setP Ps i (0, []) e0) i = ((el PT Ps i).1, (0, []), (el PT Ps i).2.2.1, e0, (el PT Ps i).2.2.2.2) := setP_at hiP
   have g3 : (setP Ps i (0, []) e0).length = Ps.length := setP_len
   simp only [Option.bind_some, g1, g2, g3]
   rw [if_pos (by omega), if_pos (by omega), if_pos (by omega), if_pos (by omega), w64_id (z := e0 + 1) (by unfold Number at he; omega) (by unfold Number at he; omega)]
   have g4 : (setP Ps i (0, []) e0).set i ((el PT Ps i).1, (0, []), (el PT Ps i).2.2.1, e0 + 1, (el PT Ps i).2.2.2.2) = setP Ps i (0, []) (e0 + 1) := setP_set
   rw [g4]
   rfl
  ·have hz' := hz
   rw [eo] at hz'
   rw [if_neg hz', if_neg hz, ans_s]
   simp only [Option.bind_some]
   have hso := (step_ok (time := w.time) ht).1
   have hse := step_eff (time := w.time) ht
   have hal := ans_le (stepM c w.code A w.R w.time).2.2.1
   have hef := effect_s (k := k) (R := R) (W := W) (U := U) (C := C) (A := A) (Ps := setP Ps i c e0) (D := D) (G := G) (tr := (stepM c w.code A w.R w.time).2.2.2.2.2) (kind := (stepM c w.code A w.R w.time).2.2.1) (num := (stepM c w.code A w.R w.time).2.2.2.2.1) hw h hse.port
   simp only at hef
   rw [show ((stepM c w.code A w.R w.time).2.2.1, (stepM c w.code A w.R w.time).2.2.2.1, (stepM c w.code A w.R w.time).2.2.2.2.1, (stepM c w.code A w.R w.time).2.2.2.2.2) = (stepM c w.code A w.R w.time).2.2 from rfl] at hef
   have hs8 := hso.2.1
   rw [w64_id (z := ((stepM c w.code A w.R w.time).1.2.length : Int) + (ansM (stepM c w.code A w.R w.time).2.2.1 : Int)) (by omega) (by omega)]
   by_cases h8 : 8 < (stepM c w.code A w.R w.time).1.2.length + ansM (stepM c w.code A w.R w.time).2.2.1
   ·have e4 : effM w (stepM c w.code A w.R w.time).2.2.1 (stepM c w.code A w.R w.time).2.2.2.1 (stepM c w.code A w.R w.time).2.2.2.2.1 (stepM c w.code A w.R w.time).1 Ls O = (4, (stepM c w.code A w.R w.time).1, Ls, O) := by
     unfold effM
     rw [if_pos h8]
    rw [if_pos (by omega), if_pos (by omega), e4, if_neg (show ¬ (4 : Int) = 0 by decide)]
    rfl
   ·rw [if_neg (by omega), hef]
    obtain ⟨r1, r2⟩ := effS_rel (w := w) (kind := (stepM c w.code A w.R w.time).2.2.1) (port := (stepM c w.code A w.R w.time).2.2.2.1) (num := (stepM c w.code A w.R w.time).2.2.2.2.1) (c := (stepM c w.code A w.R w.time).1) (Ls := Ls) (O := O) h8
    simp only [Option.bind_some]
    generalize effS w (stepM c w.code A w.R w.time).2.2.1 (stepM c w.code A w.R w.time).2.2.2.1 (stepM c w.code A w.R w.time).2.2.2.2.1 Ls O = ef at r1 r2 ⊢
    obtain ⟨ans, tr, Ls1, O1⟩ := ef
    dsimp only at r1 r2 ⊢
    by_cases hz3 : tr = 0
    ·obtain ⟨q1, q2⟩ := r1 hz3
     rw [if_neg (fun h => h hz3), q1, if_pos rfl]
     have := answers_s (k := k) (part := w.part) (time := w.time) (pc := (stepM c w.code A w.R w.time).1.1) (R := R) (W := W) (P := w.P) (U := U) (C := C) (A := A) (A' := (stepM c w.code A w.R w.time).2.1) (Ps := setP Ps i c e0) (Ls := Ls1) (O := O1) (D := D) (G := G) (S := (stepM c w.code A w.R w.time).1.2) (ans := ans) (i := i) hk hi (by omega) (by omega) hso q2
     rw [this, hat]
     rw [setP_set]
     rfl
    ·obtain ⟨q1, q2⟩ := r2 hz3
     rw [if_pos hz3, q1, if_neg hz3]
     obtain ⟨q2, q3⟩ := Prod.mk.inj q2
     subst q2 q3
     rfl
 ·rw [if_pos ht, if_neg ht]
  rfl
theorem round_good {w : World} {s : RS} (hw : WorldOk w) (h : RunOk w s) : RunOk w (roundS w s).2.2.2 := by
 unfold roundS
 by_cases ht : trapM s.2.1 w.code s.1 w.R = 0
 ·rw [if_pos ht]
  by_cases h0 : opAt w.code s.2.1.1 = 0
  ·rw [if_pos h0]
   exact h.setC h.cells h.words cpu0
  ·rw [if_neg h0]
   split
   ·exact round_ok hw h ht
   ·exact h
 ·rw [if_neg ht]
  exact h
theorem round_how {w : World} {s : RS} : (roundS w s).1 = false → (roundS w s).2.1 = 0 := by
 unfold roundS
 repeat' split
 all_goals (intro h; first | rfl | cases h)
theorem runLoop_k {k : Nat} {w : World} {R W : List (Int × Int)} {U : List (Int × Int × Int)} {C : List ByteArray} {Ps : List PartT} {D : Bool} {G : List Port5} {i : Nat} {e0 : Int} {s0 : RS} {left0 : Int}
  (hk : 1048576 < k) (hw : WorldOk w) (hi : (i : Int) = w.part - 1) (hiP : i < Ps.length) (hR : w.R = el W2 R i) (hiR : i < R.length) (he : Number e0) (h : RunOk w s0) (hl : left0 ≤ 1000) :
  spec_RunPart.l2 k k (w.part, left0, 0, false, w.time, D, w.ins, [], [], [], [], [], [], [], [], [], [], R, W, w.P, U, C, s0.1, setP Ps i s0.2.1 e0, s0.2.2.1, s0.2.2.2, G, w.code, ()) =
   some (((R, W, w.P, U, C), (runK w 1001 left0 s0).1.1, setP Ps i (runK w 1001 left0 s0).1.2.1 (if (runK w 1001 left0 s0).2.1 = 0 then e0 + 1 else e0), (runK w 1001 left0 s0).1.2.2.1, (runK w 1001 left0 s0).1.2.2.2, w.time, D, G), (runK w 1001 left0 s0).2.1, (runK w 1001 left0 s0).2.2) := by
 refine ok_eq ?_
 generalize hT : runK w 1001 left0 s0 = T
 have hcode := hw.code
 have hpt := hw.part
 have w0 : w64 (w.part - 1) = (i : Int) := by rw [w64_id (by omega) (by omega)]; omega
 refine ok_loop (L := spec_RunPart.l2 k) (I := fun d t => ∃ (left : Int) (s : RS), t = (w.part, left, 0, false, w.time, D, w.ins, [], [], [], [], [], [], [], [], [], [], R, W, w.P, U, C, s.1, setP Ps i s.2.1 e0, s.2.2.1, s.2.2.2, G, w.code, ()) ∧ 1 ≤ d ∧ left < (d : Int) ∧ left ≤ 1000 ∧ RunOk w s ∧ runK w d left s = T) ?_ k 1001 _ (by omega) ⟨left0, s0, rfl, by omega, by omega, hl, h, hT⟩
 rintro d n t ⟨left, s, rfl, hd1, hld, hl1, hr, he2⟩ ih
 obtain ⟨d, rfl⟩ : ∃ d', d = d' + 1 := ⟨d - 1, by omega⟩
 rw [spec_RunPart.l2]
 have hat : el TyP (setP Ps i s.2.1 e0) i = ((el PT Ps i).1, s.2.1, (el PT Ps i).2.2.1, e0, (el PT Ps i).2.2.2.2) := setP_at hiP
 have hsl : (setP Ps i s.2.1 e0).length = Ps.length := setP_len
 have hcpu := hr.cpu
 have h0 : 0 ≤ s.2.1.1 := hcpu.1.1
 simp only [w0, Int.toNat_natCast, hat]
 have j3 : ∀ cost : Int, cost = costM (opAt w.code s.2.1.1) → Ok (spec_RunPart.j3 k (spec_RunPart.l2 k n) (w.part, left, cost, 0, false, w.time, D, w.ins, [], [], [], [], [], [], [], [], [], [], R, W, w.P, U, C, s.1, setP Ps i s.2.1 e0, s.2.2.1, s.2.2.2, G, w.code, ())) (fun r => r = (((R, W, w.P, U, C), T.1.1, setP Ps i T.1.2.1 (if T.2.1 = 0 then e0 + 1 else e0), T.1.2.2.1, T.1.2.2.2, w.time, D, G), T.2.1, T.2.2)) := by
  intro cost hcost
  subst hcost
  rw [spec_RunPart.j3]
  have hco := cost_in (opAt w.code s.2.1.1)
  refine ok_if (fun hm => ?_) (fun hm => ?_)
  ·rw [runK, if_pos hm] at he2
   rw [← he2]
   exact ok_some rfl
  ·rw [runK_round hm] at he2
   refine ok_bind' (round_s hk hw hi hiP hR hiR he hr) ?_
   have hgo := round_good hw hr
   have hho := round_how (w := w) (s := s)
   generalize roundS w s = q at he2 hgo hho ⊢
   obtain ⟨b, how, trap, s'⟩ := q
   dsimp only at he2 hgo hho ⊢
   cases b with
   | true =>
    rw [if_pos rfl] at he2
    rw [if_pos rfl, ← he2]
    refine ok_some ?_
    unfold endsS
    simp
   | false =>
    rw [if_neg (by decide)] at he2
    rw [if_neg (by decide), w64_id (z := left - costM (opAt w.code s.2.1.1)) (by omega) (by omega)]
    have e : endsS false how e0 = e0 := if_neg (fun h => by cases h.1)
    rw [e]
    exact ih d _ (by omega) ⟨left - costM (opAt w.code s.2.1.1), s', rfl, by omega, by omega, by omega, hgo, he2⟩
 refine ok_grd (by omega) (ok_grd (by omega) (ok_if (fun hc => ok_grd h0 (ok_grd hc ?_)) (fun hc => ?_)))
 ·rw [cost_s]
  refine ok_let (j3 _ ?_)
  unfold opAt
  rw [if_pos hc]
 ·refine j3 _ ?_
  unfold opAt
  rw [if_neg hc]
  rfl
end Go.Proofs.YtefidhlonfiicaaGreat.Pure
/- A new kernel, by the reference. No condition. -/
namespace Go.Proofs.YtefidhlonfiicaaGreat.Pure
open Go Go.Proofs.YtefidhlonfiicaaGreatA Go.Proofs.YtefidhlonfiicaaGreatU Go.Proofs.YtefidhlonfiicaaGreat.QA
set_option linter.unusedVariables false
set_option linter.unusedSimpArgs false
theorem copySetup_s {k : Nat} {S : Setup} (h : Small S) : spec_l12Setup.f k S = some S := by
 obtain ⟨R, W, P, U, C⟩ := S
 obtain ⟨h1, h2, h3, h4, h5⟩ := h
 simp only at h1 h2 h3 h4 h5
 unfold spec_l12Setup.f
 simp only [Option.bind_some, List.length_nil, List.nil_append]
 rw [if_pos (by omega), if_pos (by omega), if_pos (by omega), if_pos (by omega), if_pos (by omega)]
end Go.Proofs.YtefidhlonfiicaaGreat.Pure
/- The reference's turns of a kernel. No condition. -/
namespace Go.Proofs.YtefidhlonfiicaaGreat.Pure
open Go Go.Proofs.YtefidhlonfiicaaGreatA Go.Proofs.YtefidhlonfiicaaGreatU Go.Proofs.YtefidhlonfiicaaGreat.QA
set_option linter.unusedVariables false
set_option linter.unusedSimpArgs false
theorem copyKernel_s {k : Nat} {K : Kernel} (h : SmallK K) (hk : 1048576 < k) : spec_l12Copy.f k K = some K := by
 obtain ⟨⟨R, W, P, U, C⟩, A, Ps, Ls, O, T, D, G⟩ := K
 obtain ⟨s1, s2, s3, s4, s5, s6, s7, s8⟩ := h
 simp only at s2 s3 s4 s5 s6 s7 s8
 refine ok_eq ?_
 unfold spec_l12Copy.f
 refine ok_bind' (copySetup_s s1) (ok_bind' (arena_s s2) (ok_let ?_))
 refine ok_loop (L := spec_l12Copy.l1 k) (I := fun d s => ∃ j : Nat, s = ((j : Int), T, D, 0, false, T, D, R, W, P, U, C, A, Ps, Ls, O, G, [], [], [], [], [], [], [], [], [], [], R, W, P, U, C, A, Ps.take j, ()) ∧ j + d = Ps.length) ?_ k Ps.length _ (by omega) ⟨0, rfl, by omega⟩
 rintro d n s ⟨j, rfl, hd⟩ ih
 rw [spec_l12Copy.l1]
 have h4 : w64 ((j : Int) + 1) = ((j + 1 : Nat) : Int) := w64_id (by omega) (by omega)
 refine ok_if (fun hlt => ok_grd (by omega) (ok_grd hlt ?_)) (fun hge => ?_)
 ·have hj : j < Ps.length := by omega
  have hst := s4 _ (el_mem (t := PT) hj)
  have htl : (Ps.take j).length = j := by rw [List.length_take]; omega
  have et : Ps.take j ++ [el PT Ps j] = Ps.take (j + 1) := by rw [List.take_add_one, el_lt (t := PT) hj]; rfl
  simp only [Int.toNat_natCast]
  refine ok_bind' (cpu_s hst) (ok_let (ok_grd (by simp only [List.length_cons, List.length_nil]; omega) (ok_let ?_)))
  rw [h4]
  exact ih (d - 1) _ (by omega) ⟨j + 1, by rw [← et], by omega⟩
 ·rw [List.take_of_length_le (by omega)]
  clear ih hd hge h4
  refine ok_let ?_
  refine ok_loop (L := spec_l12Copy.l2 k) (I := fun d s => ∃ j : Nat, s = ((j : Int), T, D, 0, false, T, D, R, W, P, U, C, A, Ps, Ls, O, G, [], [], [], [], [], [], [], [], [], [], R, W, P, U, C, A, Ps, Ls.take j, ()) ∧ j + d = Ls.length) ?_ k Ls.length _ (by omega) ⟨0, rfl, by omega⟩
  rintro d n s ⟨j, rfl, hd⟩ ih
  rw [spec_l12Copy.l2]
  have h4 : w64 ((j : Int) + 1) = ((j + 1 : Nat) : Int) := w64_id (by omega) (by omega)
  refine ok_if (fun hlt => ok_grd (by omega) (ok_grd hlt ?_)) (fun hge => ?_)
  ·have hj : j < Ls.length := by omega
   have hst := s6 _ (el_mem (t := LT) hj)
   have htl : (Ls.take j).length = j := by rw [List.length_take]; omega
   have et : Ls.take j ++ [el LT Ls j] = Ls.take (j + 1) := by rw [List.take_add_one, el_lt (t := LT) hj]; rfl
   simp only [Int.toNat_natCast]
   refine ok_bind' (line_s (l := el LT Ls j) hst) (ok_let (ok_grd (by simp only [List.length_cons, List.length_nil]; omega) (ok_let ?_)))
   rw [h4]
   exact ih (d - 1) _ (by omega) ⟨j + 1, by rw [← et], by omega⟩
  ·rw [List.take_of_length_le (by omega)]
   refine ok_let (ok_grd (by simp only [List.length_nil]; omega) (ok_let (ok_let (ok_grd (by simp only [List.length_nil]; omega) (ok_let (ok_some rfl))))))
noncomputable def runPartM (K : Kernel) (part budget : Int) (ins : List Int) : Kernel × Int × Int :=
 if B (KernelOk K) = true ∧ 1 ≤ part ∧ part ≤ (K.2.2.1.length : Int) then (afterRun K part budget ins, (runOf K part budget ins).2.1, (runOf K part budget ins).2.2) else (K, 1, 6)
theorem runPartM_yes {K : Kernel} {part budget : Int} {ins : List Int} (hok : KernelOk K) (hp : 1 ≤ part ∧ part ≤ (K.2.2.1.length : Int)) : runPartM K part budget ins = (afterRun K part budget ins, (runOf K part budget ins).2.1, (runOf K part budget ins).2.2) := if_pos ⟨B_yes hok, hp⟩
theorem runPartM_no {K : Kernel} {part budget : Int} {ins : List Int} (h : ¬ (KernelOk K ∧ 1 ≤ part ∧ part ≤ (K.2.2.1.length : Int))) : runPartM K part budget ins = (K, 1, 6) := if_neg (fun g => h ⟨B_iff.1 g.1, g.2⟩)
theorem runPart_i {k : Nat} {K : Kernel} {part budget : Int} {ins : List Int} (hk : 1048576 < k) (hs : SmallK K) (hst : KernelOk K → StampsK K) : impl_RunPart.f k K part budget ins = some (runPartM K part budget ins) := by
 refine ok_eq ?_
 unfold impl_RunPart.f
 refine ok_bind' (copyKernel_i hs hk) (ok_bind' (kernelOk_i hs hk) ?_)
 by_cases hok : KernelOk K
 ·rw [B_yes hok]
  refine ok_els (fun h => h rfl) ?_
  rw [in_i]
  refine ok_let ?_
  by_cases hp : 1 ≤ part ∧ part ≤ (K.2.2.1.length : Int)
  ·rw [decide_eq_true hp, runPartM_yes hok hp]
   refine ok_els (fun h => h rfl) ?_
   exact ok_bind' (run_i hk hok (hst hok) ⟨hp.1, hp.2⟩) (ok_some rfl)
  ·rw [decide_eq_false hp, runPartM_no (fun h => hp h.2)]
   exact ok_grd (by decide) (ok_some rfl)
 ·rw [B_no hok, runPartM_no (fun h => hok h.1)]
  exact ok_grd (by decide) (ok_some rfl)
theorem runPart_s {k : Nat} {K : Kernel} {part budget : Int} {ins : List Int} (hk : 1048576 < k) (hs : SmallK K) (hst : KernelOk K → StampsK K) : spec_RunPart.f k K part budget ins = some (runPartM K part budget ins) := by
 refine ok_eq ?_
 unfold spec_RunPart.f
 refine ok_bind' (copyKernel_s hs hk) (ok_bind' (kernelOk_s hs hk) ?_)
 by_cases hok : KernelOk K
 ·rw [B_yes hok]
  refine ok_els (fun h => h rfl) ?_
  rw [in_s]
  refine ok_let ?_
  by_cases hp : 1 ≤ part ∧ part ≤ (K.2.2.1.length : Int)
  ·rw [decide_eq_true hp, runPartM_yes hok hp]
   refine ok_els (fun h => h rfl) ?_
   obtain ⟨⟨R, W, P, U, C⟩, A, Ps, Ls, O, T, D, G⟩ := K
   obtain ⟨f1, f2, f3, f4, f5, f6⟩ := fault_parts hok.fault
   have h1 := hp.1
   have h2 := hp.2
   have h3 := hok.parts
   have h4 := f1.2.2
   have h5 := f5.2
   have hpI : InPart ((R, W, P, U, C), A, Ps, Ls, O, T, D, G) part := ⟨h1, h2⟩
   have hw := worldOk_of (ins := ins) hok hpI
   have hr := runOk_of (ins := ins) hok (hst hok) hpI
   simp only at h2 h3 h4 h5
   have hi : (((part - 1).toNat : Nat) : Int) = part - 1 := by omega
   have hpo := hok.part (part - 1).toNat (by dsimp only; omega)
   have w0 : w64 (part - 1) = part - 1 := w64_id (by omega) (by omega)
   have hrd : readM (el .str C (part - 1).toNat) = (insOf (el .str C (part - 1).toNat) ((el .str C (part - 1).toNat).size / 2), true) := by
    unfold readM
    rw [B_yes (f5.1 (part - 1).toNat (by dsimp only; omega)), if_pos rfl]
   simp only [w0]
   refine ok_grd (by omega) (ok_grd (by omega) (ok_bind' ((read_s hk).trans (congrArg some hrd)) ?_))
   have hlo := runLoop_k (k := k) (w := worldOf ((R, W, P, U, C), A, Ps, Ls, O, T, D, G) part ins) (R := R) (W := W) (U := U) (C := C) (Ps := Ps) (D := D) (G := G) (i := (part - 1).toNat) (e0 := (el PT Ps (part - 1).toNat).2.2.2.1) (s0 := (A, (el PT Ps (part - 1).toNat).2.1, Ls, O)) (left0 := min budget 1000) hk hw hi (by omega) rfl (by omega) hpo.ends hr (by omega)
   simp only at hlo
   rw [setP_same (by omega)] at hlo
   have hj : ∀ b : Int, b = min budget 1000 → Ok (spec_RunPart.j1 k (part, b, 0, false, T, D, ins, [], [], [], [], [], [], [], [], [], [], R, W, P, U, C, A, Ps, Ls, O, G, insOf (el .str C (part - 1).toNat) ((el .str C (part - 1).toNat).size / 2), ())) (fun r => r = (afterRun ((R, W, P, U, C), A, Ps, Ls, O, T, D, G) part budget ins, (runOf ((R, W, P, U, C), A, Ps, Ls, O, T, D, G) part budget ins).2.1, (runOf ((R, W, P, U, C), A, Ps, Ls, O, T, D, G) part budget ins).2.2)) := fun b hb => by
    subst hb
    rw [spec_RunPart.j1]
    exact ⟨_, hlo, rfl⟩
   exact ok_if (fun hb => hj 1000 (by omega)) (fun hb => hj budget (by omega))
  ·rw [decide_eq_false hp, runPartM_no (fun h => hp h.2)]
   exact ok_grd (by decide) (ok_some rfl)
 ·rw [B_no hok, runPartM_no (fun h => hok h.1)]
  exact ok_grd (by decide) (ok_some rfl)
end Go.Proofs.YtefidhlonfiicaaGreat.Pure
/- How a run of a part is over. No condition. -/
namespace Go.Proofs.YtefidhlonfiicaaGreat.Pure
open Go Go.Proofs.YtefidhlonfiicaaGreatA Go.Proofs.YtefidhlonfiicaaGreatU Go.Proofs.YtefidhlonfiicaaGreat.QA
set_option linter.unusedVariables false
set_option linter.unusedSimpArgs false
theorem afterRun_small {K : Kernel} {part budget : Int} {ins : List Int} (hs : SmallK K) (hok : KernelOk K) (hst : StampsK K) (hp : InPart K part) : SmallK (afterRun K part budget ins) := by
 have hr := runOf_ok (budget := budget) (ins := ins) hok hst hp
 have hw := worldOk_of (ins := ins) hok hp
 refine ⟨hs.st, by have := hr.cells; show (runOf K part budget ins).1.1.length ≤ _; omega, ?_, fun p hpm => ?_, by have := hr.nl; have := hw.ports.2; show (runOf K part budget ins).1.2.2.1.length ≤ _; omega, fun l hl => ?_, by have := hr.outs; show (runOf K part budget ins).1.2.2.2.length ≤ _; omega, hs.log⟩
 ·show (setP K.2.2.1 _ _ _).length ≤ _
  rw [setP_len]
  exact hs.parts
 ·rcases List.mem_or_eq_of_mem_set (show p ∈ K.2.2.1.set _ _ from hpm) with h | h
  ·exact hs.stacks p h
  ·rw [h]
   have := hr.cpu.2.1
   dsimp only
   omega
 ·obtain ⟨i, hi, rfl⟩ := List.mem_iff_getElem.1 (show l ∈ (runOf K part budget ins).1.2.2.1 from hl)
  have h8 := hr.line i hi
  have hpo := hw.ports.1 i (by have := hr.nl; omega)
  rw [el_at (t := LT) (List.getElem?_eq_getElem hi)] at h8
  have h9 := port6 hpo
  omega
end Go.Proofs.YtefidhlonfiicaaGreat.Pure
/- The plain law of FnExactRunPart. No condition. -/
namespace Go.Proofs.YtefidhlonfiicaaGreat.Pure
open Go Go.Proofs.YtefidhlonfiicaaGreatA Go.Proofs.YtefidhlonfiicaaGreatU Go.Proofs.YtefidhlonfiicaaGreat.QA Go.Proofs.YtefidhlonfiicaaGreat.QFnExactRunPart
set_option linter.unusedVariables false
set_option linter.unusedSimpArgs false
theorem FnExactRunPart : ∀ (x0 : den (.pair (.pair (.sl 179 Ty2) (.pair (.sl 183 Ty2) (.pair (.sl 185 Ty5) (.pair (.sl 189 Ty3) (.sl 9 .str))))) (.pair (.sl 3 TyI) (.pair (.sl 105 TyP) (.pair (.sl 109 (.sl 212 Ty2)) (.pair (.sl 3 TyI) (.pair TyI (.pair .bool (.sl 142 Ty5))))))))) (x1 : den (.int .i64)) (x2 : den (.int .i64)) (x3 : den (.sl 3 TyI)), Wf (.pair (.pair (.sl 179 Ty2) (.pair (.sl 183 Ty2) (.pair (.sl 185 Ty5) (.pair (.sl 189 Ty3) (.sl 9 .str))))) (.pair (.sl 3 TyI) (.pair (.sl 105 TyP) (.pair (.sl 109 (.sl 212 Ty2)) (.pair (.sl 3 TyI) (.pair TyI (.pair .bool (.sl 142 Ty5)))))))) x0 → Wf (.int .i64) x1 → Wf (.int .i64) x2 → Wf (.sl 3 TyI) x3 → ∃ k, laws_FnExactRunPart.f k x0 x1 x2 x3 = some true := by
 intro K part budget ins G _ _ _
 refine ⟨1048577, ?_⟩
 have hk : 1048576 < 1048577 := by omega
 generalize 1048577 = k at hk
 refine ok_eq ?_
 unfold laws_FnExactRunPart.f
 refine ok_if (fun _ => ok_some rfl) (fun (n0 : ¬ (1048576 : Int) < (ins.length : Int)) => ?_)
 have hil : ins.length ≤ 1048576 := by omega
 refine ok_bind (szKernel_f (K := K) hk G (by omega) (by omega)) (fun t1 h1 => ok_if (fun _ => ok_some rfl) (fun n1 => ?_))
 obtain ⟨l1, hs⟩ := h1 (by omega)
 have hsm : SmallK K := hs.toSmallK
 have hst : KernelOk K → StampsK K := fun _ l hl x hx => wf_i64 (((G.2.2.2.1.1 l hl).1 x hx).2)
 have hS := runPart_s (k := k) (part := part) (budget := budget) (ins := ins) hk hsm hst
 have hI := runPart_i (k := k) (part := part) (budget := budget) (ins := ins) hk hsm hst
 have hto : laws_toKernel.f k (K.1, K.2) = some K := toKernel_f hs hk
 have hti : laws_toIntS.f k ins = some ins := toIntS_f hil hk
 have hei : laws_eqIntS.f k ins ins = some true := eqIntS_f hil hk
 have heK : laws_eqKernel.f k (K.1, K.2) (K.1, K.2) = some true := eqKernel_f hsm hk
 have hsr : SmallK (runPartM K part budget ins).1 := by
  unfold runPartM
  split
  ·rename_i h
   exact afterRun_small hsm (B_iff.1 h.1) (hst (B_iff.1 h.1)) ⟨h.2.1, h.2.2⟩
  ·exact hsm
 generalize runPartM K part budget ins = X at hS hI hsr
 have heX : laws_eqKernel.f k (X.1.1, X.1.2) (X.1.1, X.1.2) = some true := eqKernel_f hsr hk
 obtain ⟨m0, S0, A0, P0, L0, O0, G0, a1, a2, a3, a4⟩ := markKernel_m (k := k) hsm hk 1 (by omega) (by omega)
 obtain ⟨m1, x1, b1, b2, b3, b4⟩ := marks_int (k := k) hil hk m0 (by omega) (by omega)
 obtain ⟨m', S', A', Ps', Ls', O', G', e1, e2, e3, e4⟩ := markKernel_m (k := k) hsr hk 1 (by omega) (by omega)
 refine ok_bind' hto (ok_bind' hti (ok_bind' hS (ok_bind' hto (ok_bind' hti (ok_bind' hI (ok_bind' heX (ok_els (fun h => h rfl) (ok_els (fun h => h rfl) (ok_els (fun h => h rfl) ?_)))))))))
 refine ok_bind' hto (ok_bind' heK (ok_els (fun h => h rfl) (ok_bind' hti (ok_bind' hei (ok_els (fun h => h rfl) ?_)))))
 refine ok_bind' a1 (ok_bind' b1 (ok_els (by dsimp only; omega) ?_))
 refine ok_bind' heX (ok_els (fun h => h rfl) (ok_els (fun h => h rfl) (ok_els (fun h => h rfl) ?_)))
 refine ok_bind' e1 (ok_bind' (e4 X.1.2.2.2.2.2.1 X.1.2.2.2.2.2.2.1) (ok_els (by omega) (ok_els (fun h => h rfl) ?_)))
 refine ok_bind' hto (ok_bind' hti (ok_bind' hI (ok_bind' heX (ok_els (fun h => h rfl) (ok_els (fun h => h rfl) (ok_els (fun h => h rfl) ?_))))))
 exact ok_bind' (e4 X.1.2.2.2.2.2.1 X.1.2.2.2.2.2.2.1) (ok_els (by omega) (ok_els (fun h => h rfl) (ok_some rfl)))
end Go.Proofs.YtefidhlonfiicaaGreat.Pure
