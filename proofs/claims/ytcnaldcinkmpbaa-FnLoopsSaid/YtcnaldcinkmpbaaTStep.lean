/- One step of a machine. No condition. -/
import Derived.Test.YtcnaldcinkmpbaaTCpu
namespace Go.Proofs.Ytcnaldcinkmpbaa.Pure
open Go Go.Proofs.YtcnaldcinkmpbaaA Go.Proofs.YtcnaldcinkmpbaaU Go.Proofs.Ytcnaldcinkmpbaa.QA
set_option linter.unusedVariables false
set_option linter.unusedSimpArgs false
abbrev Step := (Int × List Int) × List Int × Int × Int × Int × Int
def takesM (op : Int) : Int := if op = 2 ∨ op = 10 ∨ op = 11 ∨ op = 12 ∨ op = 13 ∨ op = 16 then 1 else if 3 ≤ op ∧ op ≤ 8 then 2 else 0
def putsM (op : Int) : Int := if op = 11 then 2 else if op = 1 ∨ op = 2 ∨ (4 ≤ op ∧ op ≤ 8) ∨ op = 17 then 1 else 0
def top (S : List Int) : Int := el I1 S (S.length - 1)
def sec (S : List Int) : Int := el I1 S (S.length - 2)
def low (S : List Int) (t : Nat) : List Int := S.take (S.length - t)
def trapX (x : Int × Int) (S a : List Int) (r : Int × Int) : Int :=
  if 17 < x.1 then 1 else
  if (S.length : Int) < takesM x.1 then 5 else
  if x.1 = 2 ∧ cellAt a r (top S + x.2) < 0 then 2 else
  if x.1 = 3 ∧ cellAt a r (sec S + x.2) < 0 then 2 else
  if x.1 = 7 ∧ top S = 0 then 3 else
  if 8 < (S.length : Int) - takesM x.1 + putsM x.1 then 4 else 0
noncomputable def trapM (c : Int × List Int) (code : List (Int × Int)) (a : List Int) (r : Int × Int) : Int :=
  if B (CpuOk c ∧ CodeOk code ∧ c.1 < (code.length : Int)) = true then trapX (el C2 code c.1.toNat) c.2 a r else 6
def reckon (op a b : Int) : Int := if op = 4 then (a + b) % 65536 else if op = 5 then (a - b) % 65536 else if op = 6 then (a * b) % 65536 else if op = 7 then a / b else if a < b then 1 else 0
def doX (pc : Int) (x : Int × Int) (S a : List Int) (r : Int × Int) (time : Int) : Step :=
  if x.1 = 1 then ((pc + 1, S ++ [x.2]), a, 0, 0, 0, 0) else
  if x.1 = 2 then ((pc + 1, low S 1 ++ [el I1 a (cellAt a r (top S + x.2)).toNat % 65536]), a, 0, 0, 0, 0) else
  if x.1 = 3 then ((pc + 1, low S 2), a.set (cellAt a r (sec S + x.2)).toNat (top S), 0, 0, 0, 0) else
  if 4 ≤ x.1 ∧ x.1 ≤ 8 then ((pc + 1, low S 2 ++ [reckon x.1 (sec S) (top S)]), a, 0, 0, 0, 0) else
  if x.1 = 9 then ((min x.2 60, S), a, 0, 0, 0, 0) else
  if x.1 = 10 then ((if top S = 0 then min x.2 60 else pc + 1, low S 1), a, 0, 0, 0, 0) else
  if x.1 = 11 then ((pc + 1, low S 1 ++ [top S, top S]), a, 0, 0, 0, 0) else
  if x.1 = 12 then ((pc + 1, low S 1), a, 0, 0, 0, 0) else
  if x.1 = 13 ∨ x.1 = 16 then ((pc + 1, low S 1), a, x.1, x.2, top S, 0) else
  if x.1 = 14 ∨ x.1 = 15 then ((pc + 1, S), a, x.1, x.2, 0, 0) else
  if x.1 = 17 then ((pc + 1, S ++ [time % 65536]), a, 0, 0, 0, 0) else
  ((pc + 1, S), a, 0, 0, 0, 0)
noncomputable def stepM (c : Int × List Int) (code : List (Int × Int)) (a : List Int) (r : Int × Int) (time : Int) : Step :=
  if trapM c code a r = 0 then doX c.1 (el C2 code c.1.toNat) c.2 a r time else (c, a, 0, 0, 0, trapM c code a r)
/-! ### the last ones of a stack -/
theorem snoc1 {S : List Int} (h : 1 ≤ S.length) : ∃ T u, S = T ++ [u] := ⟨S.dropLast, S.getLast (by intro e; rw [e] at h; simp at h), (List.dropLast_concat_getLast _).symm⟩
theorem snoc2 {S : List Int} (h : 2 ≤ S.length) : ∃ T u v, S = T ++ [u, v] := by
  obtain ⟨T, v, rfl⟩ := snoc1 (S := S) (by omega)
  obtain ⟨T, u, rfl⟩ := snoc1 (S := T) (by simp at h; omega)
  exact ⟨T, u, v, by simp⟩
theorem op_cases {op : Int} (h0 : 0 ≤ op) (h1 : ¬ 17 < op) : op = 0 ∨ op = 1 ∨ op = 2 ∨ op = 3 ∨ op = 4 ∨ op = 5 ∨ op = 6 ∨ op = 7 ∨ op = 8 ∨ op = 9 ∨ op = 10 ∨ op = 11 ∨ op = 12 ∨ op = 13 ∨ op = 14 ∨ op = 15 ∨ op = 16 ∨ op = 17 := by omega
theorem takes_in (op : Int) : 0 ≤ takesM op ∧ takesM op ≤ 2 := by
  unfold takesM
  repeat' split
  all_goals omega
theorem puts_in (op : Int) : 0 ≤ putsM op ∧ putsM op ≤ 2 := by
  unfold putsM
  repeat' split
  all_goals omega
theorem takes_i {k : Nat} {op : Int} : impl_takes.f k op = some (takesM op) := by
  have hj : ∀ b, impl_takes.j1 k (op, b, ()) = some (if b = true then 1 else if 3 ≤ op ∧ op ≤ 8 then 2 else 0) := fun b => by
    unfold impl_takes.j1
    cases b with
    | true => simp
    | false =>
      simp only [Bool.false_eq_true, ↓reduceIte]
      repeat' split
      all_goals first | rfl | (exfalso; omega)
  unfold impl_takes.f takesM
  simp only [hj, decide_eq_true_eq, ↓reduceIte]
  repeat' split
  all_goals first | rfl | (exfalso; omega)
theorem puts_i {k : Nat} {op : Int} : impl_puts.f k op = some (putsM op) := by
  unfold impl_puts.f putsM
  repeat' split
  all_goals first | rfl | (exfalso; omega)
theorem hasOp_i {k : Nat} {op : Int} : impl_hasOp.f k op = some (decide (0 ≤ op ∧ op ≤ 17)) := by
  unfold impl_hasOp.f
  rw [in_i]
  rfl
theorem trap_i {k : Nat} {c : Int × List Int} {code : List (Int × Int)} {a : List Int} {r : Int × Int} (hk : 1048576 < k) (hc : code.length ≤ 1048576) (ha : a.length ≤ 1048576) (hr : r.1 < 9223372036854775808) :
    impl_trapOf.f k c code a r = some (trapM c code a r) := by
  obtain ⟨pc, S⟩ := c
  unfold impl_trapOf.f
  rw [cpuOk_i hk, codeOk_i hc hk]
  simp only [Option.bind_some]
  by_cases h1 : CpuOk (pc, S)
  · by_cases h2 : CodeOk code
    · by_cases h3 : pc < (code.length : Int)
      · have h0 : 0 ≤ pc := h1.1.1
        have e : trapM (pc, S) code a r = trapX (el C2 code pc.toNat) S a r := by
          unfold trapM
          rw [B_yes ⟨h1, h2, h3⟩, if_pos rfl]
        have hx := h2.1 pc.toNat (by omega)
        have hS : S.length ≤ 8 := h1.2.1
        have hWt : 1 ≤ S.length → Word (top S) := fun h => h1.2.2 (S.length - 1) (by dsimp only; omega)
        have hWs : 2 ≤ S.length → Word (sec S) := fun h => h1.2.2 (S.length - 2) (by dsimp only; omega)
        have f1 : 1 ≤ S.length → w64 ((S.length : Int) - 1) = ((S.length - 1 : Nat) : Int) := fun h => by rw [w64_id (by omega) (by omega)]; omega
        have f2 : 2 ≤ S.length → w64 ((S.length : Int) - 2) = ((S.length - 2 : Nat) : Int) := fun h => by rw [w64_id (by omega) (by omega)]; omega
        rw [e, B_yes h1, B_yes h2, if_neg (fun h => h rfl), if_neg (fun h => h rfl), if_neg (by omega), if_pos h0, if_pos h3]
        clear e
        obtain ⟨op, g, hxe⟩ : ∃ op g : Int, el C2 code pc.toNat = (op, g) := ⟨_, _, rfl⟩
        rw [hxe] at hx
        simp only [show el (.pair (.int .i64) (.int .i64)) code pc.toNat = (op, g) from hxe]
        simp only [hasOp_i, takes_i, puts_i, Option.bind_some, decide_eq_true_eq] at hx ⊢
        have hx1 := hx.1
        have hx2 := hx.2
        simp only at hx1 hx2
        unfold trapX
        simp only
        by_cases h4 : 17 < op
        · rw [if_pos (by omega), if_pos h4]
        · rw [if_neg (by omega), if_neg h4]
          have ht := takes_in op
          have hp := puts_in op
          have e1 : w64 ((S.length : Int) - takesM op) = (S.length : Int) - takesM op := w64_id (by omega) (by omega)
          have e2 : w64 ((S.length : Int) - takesM op + putsM op) = (S.length : Int) - takesM op + putsM op := w64_id (by omega) (by omega)
          rw [e1, e2]
          by_cases h5 : (S.length : Int) < takesM op
          · rw [if_pos h5, if_pos h5]
          · rw [if_neg h5, if_neg h5]
            have e3 : (if 8 < (S.length : Int) - takesM op + putsM op then some 4 else some 0) = some (if 8 < (S.length : Int) - takesM op + putsM op then (4 : Int) else 0) := by split <;> rfl
            rw [e3]
            generalize (if 8 < (S.length : Int) - takesM op + putsM op then (4 : Int) else 0) = q
            by_cases o2 : op = 2
            · subst o2
              have hl : 1 ≤ S.length := by simp [takesM] at h5; omega
              have hW := hWt hl
              have e4 : w64 (top S + g) = top S + g := w64_id (by unfold Word at hW; omega) (by unfold Word at hW; omega)
              rw [if_pos rfl, f1 hl, if_pos (by omega), if_pos (by omega)]
              simp only [Int.toNat_natCast]
              simp only [show el (.int .i64) S (S.length - 1) = top S from rfl, e4, cellAt_i ha hr, Option.bind_some, true_and, Int.reduceEq, false_and, ↓reduceIte]
              split <;> rfl
            · by_cases o3 : op = 3
              · subst o3
                have hl : 2 ≤ S.length := by simp [takesM] at h5; omega
                have hW := hWs hl
                have e4 : w64 (sec S + g) = sec S + g := w64_id (by unfold Word at hW; omega) (by unfold Word at hW; omega)
                rw [if_neg o2, if_pos rfl, f2 hl, if_pos (by omega), if_pos (by omega)]
                simp only [Int.toNat_natCast]
                simp only [show el (.int .i64) S (S.length - 2) = sec S from rfl, e4, cellAt_i ha hr, Option.bind_some, true_and, Int.reduceEq, false_and, ↓reduceIte]
                split <;> rfl
              · by_cases o7 : op = 7
                · subst o7
                  have hl : 2 ≤ S.length := by simp [takesM] at h5; omega
                  rw [if_neg o2, if_neg o3, if_pos rfl, f1 (by omega), if_pos (by omega), if_pos (by omega)]
                  simp only [Int.toNat_natCast]
                  simp only [show el (.int .i64) S (S.length - 1) = top S from rfl, true_and, Int.reduceEq, false_and, ↓reduceIte]
                  split <;> rfl
                · simp only [o2, o3, o7, false_and, ↓reduceIte]
      · have e : trapM (pc, S) code a r = 6 := by
          unfold trapM
          rw [B_no (fun h => h3 h.2.2)]
          rfl
        rw [e, B_yes h1, B_yes h2, if_neg (fun h => h rfl), if_neg (fun h => h rfl), if_pos (by omega)]
    · have e : trapM (pc, S) code a r = 6 := by
        unfold trapM
        rw [B_no (fun h => h2 h.2.1)]
        rfl
      rw [e, B_yes h1, B_no h2, if_neg (fun h => h rfl)]
      simp
  · have e : trapM (pc, S) code a r = 6 := by
      unfold trapM
      rw [B_no (fun h => h1 h.1)]
      rfl
    rw [e, B_no h1]
    simp
end Go.Proofs.Ytcnaldcinkmpbaa.Pure
