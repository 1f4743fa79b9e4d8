/- One step of a machine. No condition. -/
import Derived.Test.YtacpibmmodeacaaTCpu
namespace Go.Proofs.Ytacpibmmodeacaa.Pure
open Go Go.Proofs.YtacpibmmodeacaaA Go.Proofs.YtacpibmmodeacaaU Go.Proofs.Ytacpibmmodeacaa.QA
set_option linter.unusedVariables false
set_option linter.unusedSimpArgs false
abbrev Step := (Int × List Int) × List Int × Int × Int × Int × Int
def takesM (op : Int) : Int := if op = 2 ∨ op = 10 ∨ op = 11 ∨ op = 12 ∨ op = 13 ∨ op = 16 then 1 else if 3 ≤ op ∧ op ≤ 8 then 2 else 0
def putsM (op : Int) : Int := if op = 11 then 2 else if op = 1 ∨ op = 2 ∨ (4 ≤ op ∧ op ≤ 8) ∨ op = 17 then 1 else 0
def top (S : List Int) : Int := el I1 S (S.length - 1)
def sec (S : List Int) : Int := el I1 S (S.length - 2)
def low (S : List Int) (t : Nat) : List Int := S.take (S.length - t)
def trapX (x : Int × Int) (S a : List Int) (r : Int × Int) : Int :=
  if 17 < x.1 then 1 else
  if (S.length : Int) < takesM x.1 then 5 else
  if x.1 = 2 ∧ cellAt a r (top S + x.2) < 0 then 2 else
  if x.1 = 3 ∧ cellAt a r (sec S + x.2) < 0 then 2 else
  if x.1 = 7 ∧ top S = 0 then 3 else
  if 8 < (S.length : Int) - takesM x.1 + putsM x.1 then 4 else 0
noncomputable def trapM (c : Int × List Int) (code : List (Int × Int)) (a : List Int) (r : Int × Int) : Int :=
  if B (CpuOk c ∧ CodeOk code ∧ c.1 < (code.length : Int)) = true then trapX (el C2 code c.1.toNat) c.2 a r else 6
def reckon (op a b : Int) : Int := if op = 4 then (a + b) % 65536 else if op = 5 then (a - b) % 65536 else if op = 6 then (a * b) % 65536 else if op = 7 then a / b else if a < b then 1 else 0
def doX (pc : Int) (x : Int × Int) (S a : List Int) (r : Int × Int) (time : Int) : Step :=
  if x.1 = 1 then ((pc + 1, S ++ [x.2]), a, 0, 0, 0, 0) else
  if x.1 = 2 then ((pc + 1, low S 1 ++ [el I1 a (cellAt a r (top S + x.2)).toNat % 65536]), a, 0, 0, 0, 0) else
  if x.1 = 3 then ((pc + 1, low S 2), a.set (cellAt a r (sec S + x.2)).toNat (top S), 0, 0, 0, 0) else
  if 4 ≤ x.1 ∧ x.1 ≤ 8 then ((pc + 1, low S 2 ++ [reckon x.1 (sec S) (top S)]), a, 0, 0, 0, 0) else
  if x.1 = 9 then ((min x.2 60, S), a, 0, 0, 0, 0) else
  if x.1 = 10 then ((if top S = 0 then min x.2 60 else pc + 1, low S 1), a, 0, 0, 0, 0) else
  if x.1 = 11 then ((pc + 1, low S 1 ++ [top S, top S]), a, 0, 0, 0, 0) else
  if x.1 = 12 then ((pc + 1, low S 1), a, 0, 0, 0, 0) else
  if x.1 = 13 ∨ x.1 = 16 then ((pc + 1, low S 1), a, x.1, x.2, top S, 0) else
  if x.1 = 14 ∨ x.1 = 15 then ((pc + 1, S), a, x.1, x.2, 0, 0) else
  if x.1 = 17 then ((pc + 1, S ++ [time % 65536]), a, 0, 0, 0, 0) else
  ((pc + 1, S), a, 0, 0, 0, 0)
noncomputable def stepM (c : Int × List Int) (code : List (Int × Int)) (a : List Int) (r : Int × Int) (time : Int) : Step :=
  if trapM c code a r = 0 then doX c.1 (el C2 code c.1.toNat) c.2 a r time else (c, a, 0, 0, 0, trapM c code a r)
/-! ### the last ones of a stack -/
theorem snoc1 {S : List Int} (h : 1 ≤ S.length) : ∃ T u, S = T ++ [u] := ⟨S.dropLast, S.getLast (by intro e; rw [e] at h; simp at h), (List.dropLast_concat_getLast _).symm⟩
theorem snoc2 {S : List Int} (h : 2 ≤ S.length) : ∃ T u v, S = T ++ [u, v] := by
  obtain ⟨T, v, rfl⟩ := snoc1 (S := S) (by omega)
  obtain ⟨T, u, rfl⟩ := snoc1 (S := T) (by simp at h; omega)
  exact ⟨T, u, v, by simp⟩
theorem op_cases {op : Int} (h0 : 0 ≤ op) (h1 : ¬ 17 < op) : op = 0 ∨ op = 1 ∨ op = 2 ∨ op = 3 ∨ op = 4 ∨ op = 5 ∨ op = 6 ∨ op = 7 ∨ op = 8 ∨ op = 9 ∨ op = 10 ∨ op = 11 ∨ op = 12 ∨ op = 13 ∨ op = 14 ∨ op = 15 ∨ op = 16 ∨ op = 17 := by omega
theorem takes_in (op : Int) : 0 ≤ takesM op ∧ takesM op ≤ 2 := by
  unfold takesM
  repeat' split
  all_goals omega
theorem puts_in (op : Int) : 0 ≤ putsM op ∧ putsM op ≤ 2 := by
  unfold putsM
  repeat' split
  all_goals omega
end Go.Proofs.Ytacpibmmodeacaa.Pure
