/- The plain words and the plain law of FnExactKernelNew. No condition. -/
import Derived.Test.YtacpibmmodeacaaUWords
import Derived.Test.YtacpibmmodeacaaBQA
import Derived.Test.YtacpibmmodeacaaQFnExactKernelNew
/- Numbers within bounds, as both programs ask it. No condition. -/
namespace Go.Proofs.Ytacpibmmodeacaa.Pure
open Go Go.Proofs.YtacpibmmodeacaaA Go.Proofs.YtacpibmmodeacaaU Go.Proofs.Ytacpibmmodeacaa.QA
set_option linter.unusedVariables false
theorem in_s {k : Nat} (x lo hi : Int) : spec_l01In.f k x lo hi = some (decide (lo ≤ x ∧ x ≤ hi)) := by
 unfold spec_l01In.f
 by_cases h : lo ≤ x <;> simp [h]
theorem in_i {k : Nat} (x lo hi : Int) : impl_within.f k x lo hi = some (decide (lo ≤ x ∧ x ≤ hi)) := by
 unfold impl_within.f
 by_cases h : lo ≤ x <;> simp [h]
end Go.Proofs.Ytacpibmmodeacaa.Pure
/- Machines: when they and code are right, places of cells, remainders, copies. No condition. -/
namespace Go.Proofs.Ytacpibmmodeacaa.Pure
open Go Go.Proofs.YtacpibmmodeacaaA Go.Proofs.YtacpibmmodeacaaU Go.Proofs.Ytacpibmmodeacaa.QA
set_option linter.unusedVariables false
abbrev I1 : Ty := .int .i64
abbrev C2 : Ty := .pair (.int .i64) (.int .i64)
def Word (z : Int) : Prop := 0 ≤ z ∧ z ≤ 65535
def WordsOk (S : List Int) : Prop := ∀ i, i < S.length → Word (el I1 S i)
def CpuOk (c : Int × List Int) : Prop := (0 ≤ c.1 ∧ c.1 ≤ 60) ∧ c.2.length ≤ 8 ∧ WordsOk c.2
def InsOk (x : Int × Int) : Prop := (0 ≤ x.1 ∧ x.1 ≤ 255) ∧ (0 ≤ x.2 ∧ x.2 ≤ 255)
def CodeOk (L : List (Int × Int)) : Prop := (∀ i, i < L.length → InsOk (el C2 L i)) ∧ L.length ≤ 60
/-- The place of a cell; -1 where there is none. -/
def cellAt (a : List Int) (r : Int × Int) (p : Int) : Int := if 0 ≤ r.1 ∧ 0 ≤ p ∧ p < r.2 ∧ p < (a.length : Int) - r.1 then r.1 + p else -1
end Go.Proofs.Ytacpibmmodeacaa.Pure
/- One step of a machine. No condition. -/
namespace Go.Proofs.Ytacpibmmodeacaa.Pure
open Go Go.Proofs.YtacpibmmodeacaaA Go.Proofs.YtacpibmmodeacaaU Go.Proofs.Ytacpibmmodeacaa.QA
set_option linter.unusedVariables false
set_option linter.unusedSimpArgs false
abbrev Step := (Int × List Int) × List Int × Int × Int × Int × Int
def takesM (op : Int) : Int := if op = 2 ∨ op = 10 ∨ op = 11 ∨ op = 12 ∨ op = 13 ∨ op = 16 then 1 else if 3 ≤ op ∧ op ≤ 8 then 2 else 0
def putsM (op : Int) : Int := if op = 11 then 2 else if op = 1 ∨ op = 2 ∨ (4 ≤ op ∧ op ≤ 8) ∨ op = 17 then 1 else 0
def top (S : List Int) : Int := el I1 S (S.length - 1)
def sec (S : List Int) : Int := el I1 S (S.length - 2)
def low (S : List Int) (t : Nat) : List Int := S.take (S.length - t)
def trapX (x : Int × Int) (S a : List Int) (r : Int × Int) : Int :=
 if 17 < x.1 then 1 else
 if (S.length : Int) < takesM x.1 then 5 else
 if x.1 = 2 ∧ cellAt a r (top S + x.2) < 0 then 2 else
 if x.1 = 3 ∧ cellAt a r (sec S + x.2) < 0 then 2 else
 if x.1 = 7 ∧ top S = 0 then 3 else
 if 8 < (S.length : Int) - takesM x.1 + putsM x.1 then 4 else 0
noncomputable def trapM (c : Int × List Int) (code : List (Int × Int)) (a : List Int) (r : Int × Int) : Int :=
 if B (CpuOk c ∧ CodeOk code ∧ c.1 < (code.length : Int)) = true then trapX (el C2 code c.1.toNat) c.2 a r else 6
def reckon (op a b : Int) : Int := if op = 4 then (a + b) % 65536 else if op = 5 then (a - b) % 65536 else if op = 6 then (a * b) % 65536 else if op = 7 then a / b else if a < b then 1 else 0
def doX (pc : Int) (x : Int × Int) (S a : List Int) (r : Int × Int) (time : Int) : Step :=
 if x.1 = 1 then ((pc + 1, S ++ [x.2]), a, 0, 0, 0, 0) else
 if x.1 = 2 then ((pc + 1, low S 1 ++ [el I1 a (cellAt a r (top S + x.2)).toNat % 65536]), a, 0, 0, 0, 0) else
 if x.1 = 3 then ((pc + 1, low S 2), a.set (cellAt a r (sec S + x.2)).toNat (top S), 0, 0, 0, 0) else
 if 4 ≤ x.1 ∧ x.1 ≤ 8 then ((pc + 1, low S 2 ++ [reckon x.1 (sec S) (top S)]), a, 0, 0, 0, 0) else
 if x.1 = 9 then ((min x.2 60, S), a, 0, 0, 0, 0) else
 if x.1 = 10 then ((if top S = 0 then min x.2 60 else pc + 1, low S 1), a, 0, 0, 0, 0) else
 if x.1 = 11 then ((pc + 1, low S 1 ++ [top S, top S]), a, 0, 0, 0, 0) else
 if x.1 = 12 then ((pc + 1, low S 1), a, 0, 0, 0, 0) else
 if x.1 = 13 ∨ x.1 = 16 then ((pc + 1, low S 1), a, x.1, x.2, top S, 0) else
 if x.1 = 14 ∨ x.1 = 15 then ((pc + 1, S), a, x.1, x.2, 0, 0) else
 if x.1 = 17 then ((pc + 1, S ++ [time % 65536]), a, 0, 0, 0, 0) else
 ((pc + 1, S), a, 0, 0, 0, 0)
noncomputable def stepM (c : Int × List Int) (code : List (Int × Int)) (a : List Int) (r : Int × Int) (time : Int) : Step :=
 if trapM c code a r = 0 then doX c.1 (el C2 code c.1.toNat) c.2 a r time else (c, a, 0, 0, 0, trapM c code a r)
/-! ### the last ones of a stack -/
end Go.Proofs.Ytacpibmmodeacaa.Pure
/- One step of the program's machine. No condition. -/
namespace Go.Proofs.Ytacpibmmodeacaa.Pure
open Go Go.Proofs.YtacpibmmodeacaaA Go.Proofs.YtacpibmmodeacaaU Go.Proofs.Ytacpibmmodeacaa.QA
set_option linter.unusedVariables false
set_option linter.unusedSimpArgs false
end Go.Proofs.Ytacpibmmodeacaa.Pure
/- One step of the reference's machine. No condition. -/
namespace Go.Proofs.Ytacpibmmodeacaa.Pure
open Go Go.Proofs.YtacpibmmodeacaaA Go.Proofs.YtacpibmmodeacaaU Go.Proofs.Ytacpibmmodeacaa.QA
set_option linter.unusedVariables false
set_option linter.unusedSimpArgs false
end Go.Proofs.Ytacpibmmodeacaa.Pure
/- The laws' own copies, comparisons and marks of machines and cells. No condition. -/
namespace Go.Proofs.Ytacpibmmodeacaa.Pure
open Go Go.Proofs.YtacpibmmodeacaaA Go.Proofs.YtacpibmmodeacaaU Go.Proofs.Ytacpibmmodeacaa.QA
set_option linter.unusedVariables false
theorem eqCpu_f {k : Nat} {c : Int × List Int} (hl : c.2.length ≤ 1048576) (hk : 1048576 < k) : laws_eqCpu.f k c c = some true := by
 unfold laws_eqCpu.f
 rw [if_neg (fun h => h rfl), eqIntS_f hl hk]
 rfl
theorem eqArena_f {k : Nat} {c : List Int} (hl : c.length ≤ 1048576) (hk : 1048576 < k) : laws_eqArena.f k c c = some true := by
 unfold laws_eqArena.f
 rw [eqIntS_f hl hk]
 rfl
end Go.Proofs.Ytacpibmmodeacaa.Pure
/- Ports: when they are right; what is sent and taken by the program. No condition. -/
namespace Go.Proofs.Ytacpibmmodeacaa.Pure
open Go Go.Proofs.YtacpibmmodeacaaA Go.Proofs.YtacpibmmodeacaaU Go.Proofs.Ytacpibmmodeacaa.QA
set_option linter.unusedVariables false
set_option linter.unusedSimpArgs false
abbrev Port5 := Int × Int × Int × Int × Int
structure PortOk (p : Port5) : Prop where
 fr : 1 ≤ p.2.1 ∧ p.2.1 ≤ 4
 tp : 1 ≤ p.2.2.1 ∧ p.2.2.1 ≤ 4
 ne : ¬ p.2.1 = p.2.2.1
 kd : (p.1 = 1 ∧ (1 ≤ p.2.2.2.1 ∧ p.2.2.2.1 ≤ 6) ∧ p.2.2.2.2 = 0) ∨ (p.1 = 2 ∧ p.2.2.2.1 = 1 ∧ (1 ≤ p.2.2.2.2 ∧ p.2.2.2.2 ≤ 100))
theorem isPart_p {k : Nat} (x : Int) : impl_isPart.f k x = some (decide (1 ≤ x ∧ x ≤ 4)) := by
 unfold impl_isPart.f
 rw [in_i]
 rfl
theorem portOk_i {k : Nat} {p : Port5} : impl_PortOk.f k p = some (B (PortOk p)) := by
 refine ok_eq ?_
 unfold impl_PortOk.f
 simp only [isPart_p, in_i, Option.bind_some, decide_eq_true_eq]
 have no : ¬ PortOk p → Ok (some false) (fun r => r = B (PortOk p)) := fun h => ok_some (B_no h).symm
 refine ok_if (fun h => no (fun g => h g.fr)) (fun h1 => ok_if (fun h => no (fun g => h g.tp)) (fun h2 => ok_if (fun h => no (fun g => g.ne h)) (fun h3 => ok_if (fun h4 => ?_) (fun h4 => ?_))))
 ·refine ok_if (fun h5 => ok_some (B_of (decide_eq_true_iff.trans ⟨fun h => ⟨Classical.not_not.1 h1, Classical.not_not.1 h2, h3, .inl ⟨h4, h5, h⟩⟩, fun g => ?_⟩))) (fun h5 => no (fun g => ?_))
  ·rcases g.kd with h | h
   ·exact h.2.2
   ·exact absurd h.1 (by omega)
  ·rcases g.kd with h | h
   ·exact h5 h.2.1
   ·exact absurd h.1 (by omega)
 ·refine ok_if (fun h5 => ok_if (fun h6 => ok_some (B_of (decide_eq_true_iff.trans ⟨fun h => ⟨Classical.not_not.1 h1, Classical.not_not.1 h2, h3, .inr ⟨h5, h6, h⟩⟩, fun g => ?_⟩))) (fun h6 => no (fun g => ?_))) (fun h5 => no (fun g => ?_))
  ·rcases g.kd with h | h
   ·exact absurd h.1 h4
   ·exact h.2.2
  ·rcases g.kd with h | h
   ·exact h4 h.1
   ·exact h6 h.2.1
  ·rcases g.kd with h | h
   ·exact h4 h.1
   ·exact h5 h.1
/-- What has been sent, and when it was. -/
def Stamps (l : List (Int × Int)) : Prop := ∀ x, x ∈ l → -9223372036854775808 ≤ x.2 ∧ x.2 < 9223372036854775808
end Go.Proofs.Ytacpibmmodeacaa.Pure
/- Ports: when the reference tells that they are right. No condition. -/
namespace Go.Proofs.Ytacpibmmodeacaa.Pure
open Go Go.Proofs.YtacpibmmodeacaaA Go.Proofs.YtacpibmmodeacaaU Go.Proofs.Ytacpibmmodeacaa.QA
set_option linter.unusedVariables false
set_option linter.unusedSimpArgs false
theorem portOk_s {k : Nat} {p : Port5} : spec_PortOk.f k p = some (B (PortOk p)) := by
 have h : spec_PortOk.f k p = impl_PortOk.f k p := by
  unfold spec_PortOk.f impl_PortOk.f
  simp only [isPart_p, in_i, in_s, Option.bind_some]
 rw [h, portOk_i]
end Go.Proofs.Ytacpibmmodeacaa.Pure
/- Rules: which one is first, and when they are right. No condition. -/
namespace Go.Proofs.Ytacpibmmodeacaa.Pure
open Go Go.Proofs.YtacpibmmodeacaaA Go.Proofs.YtacpibmmodeacaaU Go.Proofs.Ytacpibmmodeacaa.QA
set_option linter.unusedVariables false
abbrev R3 : Ty := .pair (.int .i64) (.pair (.int .i64) (.int .i64))
def Fits (r : Int × Int × Int) (p f : Int) : Prop := r.1 = p ∧ r.2.1 = f
instance (r : Int × Int × Int) (p f : Int) : Decidable (Fits r p f) := inferInstanceAs (Decidable (_ ∧ _))
theorem ruleFor_ok {k : Nat} {L : List (Int × Int × Int)} {p f : Int} (hl : L.length ≤ 1048576) (hk : 1048576 < k) :
  Ok (impl_ruleFor.f k L p f) (fun r => (r = -1 ∧ ∀ j, j < L.length → ¬ Fits (el R3 L j) p f) ∨ ∃ i : Nat, r = (i : Int) ∧ i < L.length ∧ Fits (el R3 L i) p f ∧ ∀ j, j < i → ¬ Fits (el R3 L j) p f) := by
 unfold impl_ruleFor.f
 refine ok_loop (L := impl_ruleFor.l1 k) (I := fun d s => ∃ j : Nat, s = (p, f, (L.length : Int), (j : Int), L, ()) ∧ j + d = L.length ∧ ∀ i, i < j → ¬ Fits (el R3 L i) p f) ?_ k L.length _ (by omega) ⟨0, rfl, by omega, fun i hi => absurd hi (by omega)⟩
 rintro d n s ⟨j, rfl, hd, hq⟩ ih
 rw [impl_ruleFor.l1]
 refine ok_if (fun hc => ?_) (fun hc => ok_some (.inl ⟨rfl, fun i hi => hq i (by omega)⟩))
 rw [if_pos (by omega), if_pos hc]
 simp only [Int.toNat_natCast]
 have h4 : w64 ((j : Int) + 1) = ((j + 1 : Nat) : Int) := w64_id (by omega) (by omega)
 rw [h4]
 have go : ¬ Fits (el R3 L j) p f → Ok (impl_ruleFor.l1 k n (p, f, (L.length : Int), ((j + 1 : Nat) : Int), L, ())) _ := fun hf => ih (d - 1) _ (by omega) ⟨j + 1, rfl, by omega, fun i hi => by
  rcases Nat.lt_or_ge i j with h | h
  ·exact hq i h
  ·obtain rfl : i = j := by omega
   exact hf⟩
 refine ok_if (fun h1 => ok_if (fun h2 => ok_some (.inr ⟨j, rfl, by omega, ⟨h1, h2⟩, hq⟩)) (fun h2 => go (fun h => h2 h.2))) (fun h1 => go (fun h => h1 h.1))
/-! ### rules that are right -/
def RuleIn (r : Int × Int × Int) : Prop := (1 ≤ r.1 ∧ r.1 ≤ 4) ∧ (1 ≤ r.2.1 ∧ r.2.1 ≤ 2) ∧ (0 ≤ r.2.2 ∧ r.2.2 ≤ 4) ∧ ¬ (r.2.1 = 1 ∧ r.2.2 = 0)
def RuleAt (L : List (Int × Int × Int)) (i : Nat) : Prop := RuleIn (el R3 L i) ∧ ∀ j, j < i → ¬ Fits (el R3 L j) (el R3 L i).1 (el R3 L i).2.1
def RulesOk (L : List (Int × Int × Int)) : Prop := (∀ i, i < L.length → RuleAt L i) ∧ L.length ≤ 8
theorem isPart_i {k : Nat} (x : Int) : impl_isPart.f k x = some (decide (1 ≤ x ∧ x ≤ 4)) := by
 unfold impl_isPart.f
 rw [in_i]
 rfl
theorem rulesOk_i {k : Nat} {L : List (Int × Int × Int)} (hl : L.length ≤ 1048576) (hk : 1048576 < k) : impl_RulesOk.f k L = some (B (RulesOk L)) := by
 refine ok_eq ?_
 unfold impl_RulesOk.f
 refine ok_loop (L := impl_RulesOk.l1 k) (I := fun d s => ∃ j : Nat, s = ((L.length : Int), (j : Int), L, ()) ∧ j + d = L.length ∧ ∀ i, i < j → RuleAt L i) ?_ k L.length _ (by omega) ⟨0, rfl, by omega, fun i hi => absurd hi (by omega)⟩
 rintro d n s ⟨j, rfl, hd, hq⟩ ih
 rw [impl_RulesOk.l1]
 refine ok_if (fun hc => ?_) (fun hc => ok_some ?_)
 ·rw [if_pos (by omega), if_pos hc]
  simp only [Int.toNat_natCast, isPart_i, in_i, Option.bind_some, decide_eq_true_eq]
  have h4 : w64 ((j : Int) + 1) = ((j + 1 : Nat) : Int) := w64_id (by omega) (by omega)
  rw [h4]
  have bad : ¬ RuleAt L j → Ok (some false) (fun r => r = B (RulesOk L)) := fun h => ok_some (B_no (fun hr => h (hr.1 j (by omega)))).symm
  have go : RuleAt L j → Ok (impl_RulesOk.l1 k n ((L.length : Int), ((j + 1 : Nat) : Int), L, ())) (fun r => r = B (RulesOk L)) := fun hf => ih (d - 1) _ (by omega) ⟨j + 1, rfl, by omega, fun i hi => by
   rcases Nat.lt_or_ge i j with h | h
   ·exact hq i h
   ·obtain rfl : i = j := by omega
    exact hf⟩
  refine ok_if (fun h1 => bad (fun h => h1 h.1.1)) (fun h1 => ok_if (fun h2 => bad (fun h => h2 h.1.2.1)) (fun h2 => ok_if (fun h3 => bad (fun h => h3 h.1.2.2.1)) (fun h3 => ?_)))
  refine ok_bind (ruleFor_ok hl hk) (fun r hr => ?_)
  refine ok_if (fun h5 => bad (fun h => ?_)) (fun h5 => ?_)
  ·rcases hr with ⟨rfl, hn⟩ | ⟨i, rfl, hi, hf, hn⟩
   ·exact hn j (by omega) ⟨rfl, rfl⟩
   ·rcases Nat.lt_trichotomy i j with h' | h' | h'
    ·exact h.2 i h' hf
    ·exact h5 (by omega)
    ·exact hn j h' ⟨rfl, rfl⟩
  ·have h5' := Classical.not_not.1 h5
   have hn : ∀ i, i < j → ¬ Fits (el R3 L i) (el R3 L j).1 (el R3 L j).2.1 := by
    rcases hr with ⟨rfl, hn⟩ | ⟨i, rfl, hi, hf, hn⟩
    ·exact absurd h5' (by omega)
    ·obtain rfl : i = j := by omega
     exact hn
   have g : ¬ ((el R3 L j).2.1 = 1 ∧ (el R3 L j).2.2 = 0) → RuleAt L j := fun h6 => ⟨⟨Classical.not_not.1 h1, Classical.not_not.1 h2, Classical.not_not.1 h3, h6⟩, hn⟩
   exact ok_if (fun h6 => ok_if (fun h7 => bad (fun h => h.1.2.2.2 ⟨h6, h7⟩)) (fun h7 => go (g (fun h => h7 h.2)))) (fun h6 => go (g (fun h => h6 h.1)))
 ·refine B_of (decide_eq_true_iff.trans ⟨fun h => ⟨fun i hi => hq i (by omega), by omega⟩, fun h => ?_⟩)
  have := h.2
  omega
theorem rulesOk_s {k : Nat} {L : List (Int × Int × Int)} (hl : L.length ≤ 1048576) (hk : 1048576 < k) : spec_RulesOk.f k L = some (B (RulesOk L)) := by
 refine ok_eq ?_
 unfold spec_RulesOk.f
 refine ok_loop (L := spec_RulesOk.l1 k) (I := fun d s => ∃ j : Nat, s = ((j : Int), L, ()) ∧ j + d = L.length ∧ ∀ i, i < j → RuleAt L i) ?_ k L.length _ (by omega) ⟨0, rfl, by omega, fun i hi => absurd hi (by omega)⟩
 rintro d n s ⟨j, rfl, hd, hq⟩ ih
 rw [spec_RulesOk.l1]
 refine ok_if (fun hc => ?_) (fun hc => ok_some ?_)
 ·rw [if_pos (by omega), if_pos hc]
  simp only [Int.toNat_natCast, in_s, Option.bind_some, decide_eq_true_eq]
  have h4 : w64 ((j : Int) + 1) = ((j + 1 : Nat) : Int) := w64_id (by omega) (by omega)
  have bad : ¬ RuleAt L j → Ok (some false) (fun r => r = B (RulesOk L)) := fun h => ok_some (B_no (fun hr => h (hr.1 j (by omega)))).symm
  have go : RuleAt L j → Ok (spec_RulesOk.l1 k n (((j + 1 : Nat) : Int), L, ())) (fun r => r = B (RulesOk L)) := fun hf => ih (d - 1) _ (by omega) ⟨j + 1, rfl, by omega, fun i hi => by
   rcases Nat.lt_or_ge i j with h | h
   ·exact hq i h
   ·obtain rfl : i = j := by omega
    exact hf⟩
  refine ok_if (fun h1 => bad (fun h => h1 h.1.1)) (fun h1 => ok_if (fun h2 => bad (fun h => h2 h.1.2.1)) (fun h2 => ok_if (fun h3 => bad (fun h => h3 h.1.2.2.1)) (fun h3 => ?_)))
  have inner : ¬ ((el R3 L j).2.1 = 1 ∧ (el R3 L j).2.2 = 0) → Ok (spec_RulesOk.l2 k (spec_RulesOk.l1 k n) k ((j : Int), 0, (el R3 L j).1, (el R3 L j).2.1, (el R3 L j).2.2, L, ())) (fun r => r = B (RulesOk L)) := fun h6 => by
   refine ok_loop (L := spec_RulesOk.l2 k (spec_RulesOk.l1 k n)) (I := fun e s => ∃ i : Nat, s = ((j : Int), (i : Int), (el R3 L j).1, (el R3 L j).2.1, (el R3 L j).2.2, L, ()) ∧ i + e = j ∧ ∀ i', i' < i → ¬ Fits (el R3 L i') (el R3 L j).1 (el R3 L j).2.1) ?_ k j _ (by omega) ⟨0, rfl, by omega, fun i hi => absurd hi (by omega)⟩
   rintro e n' s ⟨i, rfl, he, hi⟩ ih2
   rw [spec_RulesOk.l2]
   refine ok_if (fun hc2 => ?_) (fun hc2 => ?_)
   ·have c0 : (0 : Int) ≤ (i : Int) := by omega
    have c1 : (i : Int) < (L.length : Int) := by omega
    have c2 : w64 ((i : Int) + 1) = ((i + 1 : Nat) : Int) := w64_id (by omega) (by omega)
    simp only [c0, c1, c2, ↓reduceIte, Int.toNat_natCast]
    have go2 : ¬ Fits (el R3 L i) (el R3 L j).1 (el R3 L j).2.1 → Ok (spec_RulesOk.l2 k (spec_RulesOk.l1 k n) n' ((j : Int), ((i + 1 : Nat) : Int), (el R3 L j).1, (el R3 L j).2.1, (el R3 L j).2.2, L, ())) (fun r => r = B (RulesOk L)) := fun hf => ih2 (e - 1) _ (by omega) ⟨i + 1, rfl, by omega, fun i' hi' => by
     rcases Nat.lt_or_ge i' i with h | h
     ·exact hi i' h
     ·obtain rfl : i' = i := by omega
      exact hf⟩
    exact ok_if (fun f1 => ok_if (fun f2 => bad (fun h => h.2 i (by omega) ⟨f1, f2⟩)) (fun f2 => go2 (fun h => f2 h.2))) (fun f1 => go2 (fun h => f1 h.1))
   ·rw [h4]
    exact go ⟨⟨Classical.not_not.1 h1, Classical.not_not.1 h2, Classical.not_not.1 h3, h6⟩, fun i' hi' => hi i' (by omega)⟩
  exact ok_if (fun h6 => ok_if (fun h7 => bad (fun h => h.1.2.2.2 ⟨h6, h7⟩)) (fun h7 => inner (fun h => h7 h.2))) (fun h6 => inner (fun h => h6 h.1))
 ·refine B_of (decide_eq_true_iff.trans ⟨fun h => ⟨fun i hi => hq i (by omega), by omega⟩, fun h => ?_⟩)
  have := h.2
  omega
end Go.Proofs.Ytacpibmmodeacaa.Pure
/- Plans: their time, and when they are right. No condition. -/
namespace Go.Proofs.Ytacpibmmodeacaa.Pure
open Go Go.Proofs.YtacpibmmodeacaaA Go.Proofs.YtacpibmmodeacaaU Go.Proofs.Ytacpibmmodeacaa.QA
set_option linter.unusedVariables false
abbrev W2 : Ty := .pair (.int .i64) (.int .i64)
def WinOk (w : Int × Int) : Prop := (1 ≤ w.1 ∧ w.1 ≤ 4) ∧ (1 ≤ w.2 ∧ w.2 ≤ 200)
def PlanOk (L : List (Int × Int)) : Prop := (∀ i, i < L.length → WinOk (el W2 L i)) ∧ 1 ≤ L.length ∧ L.length ≤ 12
theorem isPart_i' {k : Nat} (x : Int) : impl_isPart.f k x = some (decide (1 ≤ x ∧ x ≤ 4)) := by
 unfold impl_isPart.f
 rw [in_i]
 rfl
theorem isBudget_i {k : Nat} (x : Int) : impl_isBudget.f k x = some (decide (1 ≤ x ∧ x ≤ 200)) := by
 unfold impl_isBudget.f
 rw [in_i]
 rfl
theorem planOk_i {k : Nat} {L : List (Int × Int)} (hl : L.length ≤ 1048576) (hk : 1048576 < k) : impl_PlanOk.f k L = some (B (PlanOk L)) := by
 refine ok_eq ?_
 unfold impl_PlanOk.f
 refine ok_loop (L := impl_PlanOk.l1 k) (I := fun d s => ∃ j : Nat, s = ((L.length : Int), (j : Int), L, ()) ∧ j + d = L.length ∧ ∀ i, i < j → WinOk (el W2 L i)) ?_ k L.length _ (by omega) ⟨0, rfl, by omega, fun i hi => absurd hi (by omega)⟩
 rintro d n s ⟨j, rfl, hd, hq⟩ ih
 rw [impl_PlanOk.l1]
 refine ok_if (fun hc => ?_) (fun hc => ?_)
 ·rw [if_pos (by omega), if_pos hc]
  simp only [Int.toNat_natCast, isPart_i', isBudget_i, Option.bind_some, decide_eq_true_eq]
  have h4 : w64 ((j : Int) + 1) = ((j + 1 : Nat) : Int) := w64_id (by omega) (by omega)
  rw [h4]
  have bad : ¬ WinOk (el W2 L j) → Ok (some false) (fun r => r = B (PlanOk L)) := fun h => ok_some (B_no (fun hr => h (hr.1 j (by omega)))).symm
  refine ok_if (fun h => bad (fun g => h g.1)) (fun h1 => ok_if (fun h => bad (fun g => h g.2)) (fun h2 => ?_))
  exact ih (d - 1) _ (by omega) ⟨j + 1, rfl, by omega, fun i hi => by
   rcases Nat.lt_or_ge i j with h | h
   ·exact hq i h
   ·obtain rfl : i = j := by omega
    exact ⟨Classical.not_not.1 h1, Classical.not_not.1 h2⟩⟩
 ·rw [in_i]
  refine ok_let (ok_some ?_)
  refine B_of (decide_eq_true_iff.trans ⟨fun h => ⟨fun i hi => hq i (by omega), by omega, by omega⟩, fun h => ?_⟩)
  have := h.2
  omega
end Go.Proofs.Ytacpibmmodeacaa.Pure
/- Set-ups: their faults. No condition. -/
namespace Go.Proofs.Ytacpibmmodeacaa.Pure
open Go Go.Proofs.YtacpibmmodeacaaA Go.Proofs.YtacpibmmodeacaaU Go.Proofs.Ytacpibmmodeacaa.QA
set_option linter.unusedVariables false
set_option linter.unusedSimpArgs false
abbrev P5 : Ty := .pair (.int .i64) (.pair (.int .i64) (.pair (.int .i64) (.pair (.int .i64) (.int .i64))))
abbrev Setup := List (Int × Int) × List (Int × Int) × List Port5 × List (Int × Int × Int) × List ByteArray
theorem allS {p : Nat → Prop} {j : Nat} (h : ∀ i, i < j → p i) (hj : p j) : ∀ i, i < j + 1 → p i := fun i hi => by
 rcases Nat.lt_or_ge i j with h' | h'
 ·exact h i h'
 ·obtain rfl : i = j := by omega
  exact hj
/-! ### regions -/
def RegIn (r : Int × Int) : Prop := 0 ≤ r.1 ∧ 1 ≤ r.2 ∧ r.2 ≤ 64 ∧ r.1 ≤ 64 - r.2
def Over (r o : Int × Int) : Prop := r.1 < o.1 + o.2 ∧ o.1 < r.1 + r.2
def RegAt (L : List (Int × Int)) (i : Nat) : Prop := RegIn (el W2 L i) ∧ ∀ j, j < i → ¬ Over (el W2 L i) (el W2 L j)
def RegionsOk (L : List (Int × Int)) : Prop := (∀ i, i < L.length → RegAt L i) ∧ 1 ≤ L.length ∧ L.length ≤ 4
theorem regionsOk_i {k : Nat} {L : List (Int × Int)} (hl : L.length ≤ 1048576) (hk : 1048576 < k) : impl_RegionsOk.f k L = some (B (RegionsOk L)) := by
 refine ok_eq ?_
 unfold impl_RegionsOk.f
 refine ok_loop (L := impl_RegionsOk.l1 k) (I := fun d s => ∃ j : Nat, s = ((L.length : Int), (j : Int), L, ()) ∧ j + d = L.length ∧ ∀ i, i < j → RegAt L i) ?_ k L.length _ (by omega) ⟨0, rfl, by omega, fun i hi => absurd hi (by omega)⟩
 rintro d n s ⟨j, rfl, hd, hq⟩ ih
 rw [impl_RegionsOk.l1]
 refine ok_if (fun hc => ?_) (fun hc => ?_)
 ·have hj : j < L.length := by omega
  have c0 : (0 : Int) ≤ (j : Int) := by omega
  have c1 : (j : Int) ≤ (L.length : Int) := by omega
  have h4 : w64 ((j : Int) + 1) = ((j + 1 : Nat) : Int) := w64_id (by omega) (by omega)
  have bad : ¬ RegAt L j → Ok (some false) (fun r => r = B (RegionsOk L)) := fun h => ok_some (B_no (fun hr => h (hr.1 j hj))).symm
  have go : RegAt L j → Ok (impl_RegionsOk.l1 k n ((L.length : Int), ((j + 1 : Nat) : Int), L, ())) (fun r => r = B (RegionsOk L)) := fun h => ih (d - 1) _ (by omega) ⟨j + 1, rfl, by omega, allS hq h⟩
  obtain ⟨fr, z, hxe⟩ : ∃ fr z : Int, el W2 L j = (fr, z) := ⟨_, _, rfl⟩
  unfold RegAt at bad go
  rw [hxe] at bad go
  simp only [c0, c1, hc, ↓reduceIte, Int.toNat_natCast, show el (.pair (.int .i64) (.int .i64)) L j = (fr, z) from hxe]
  refine ok_if (fun (h1 : fr < (0 : Int)) => bad (fun h => ?_)) (fun (h1 : ¬ fr < (0 : Int)) => ok_if (fun (h2 : z < (1 : Int)) => bad (fun h => ?_)) (fun (h2 : ¬ z < (1 : Int)) => ok_if (fun (h3 : (64 : Int) < z) => bad (fun h => ?_)) (fun (h3 : ¬ (64 : Int) < z) => ?_)))
  ·have := h.1.1; dsimp only at this; omega
  ·have := h.1.2.1; dsimp only at this; omega
  ·have := h.1.2.2.1; dsimp only at this; omega
  ·rw [w64_id (z := 64 - z) (by omega) (by omega)]
   refine ok_if (fun (h5 : 64 - z < fr) => bad (fun h => ?_)) (fun (h5 : ¬ 64 - z < fr) => ?_)
   ·have := h.1.2.2.2; dsimp only at this; omega
   ·have hin : RegIn (fr, z) := ⟨by dsimp only; omega, by dsimp only; omega, by dsimp only; omega, by dsimp only; omega⟩
    have htl : (L.take j).length = j := by rw [List.length_take]; omega
    refine ok_loop (L := impl_RegionsOk.l2 k (impl_RegionsOk.l1 k n)) (I := fun e s => ∃ i : Nat, s = ((L.length : Int), (j : Int), ((j : Nat) : Int), (i : Int), fr, z, L, L.take j, ()) ∧ i + e = j ∧ ∀ i', i' < i → ¬ Over (fr, z) (el W2 L i')) ?_ k j _ (by omega) ⟨0, rfl, by omega, fun i hi => absurd hi (by omega)⟩
    rintro e n' s ⟨i, rfl, he, hi⟩ ih2
    rw [impl_RegionsOk.l2]
    refine ok_if (fun hc2 => ?_) (fun hc2 => ?_)
    ·have hij : i < j := by omega
     have c2 : (0 : Int) ≤ (i : Int) := by omega
     have c3 : (i : Int) < ((L.take j).length : Int) := by omega
     have c4 : w64 ((i : Int) + 1) = ((i + 1 : Nat) : Int) := w64_id (by omega) (by omega)
     have et : el W2 (L.take j) i = el W2 L i := el_at (t := W2) (by rw [List.getElem?_take, if_pos hij]; exact el_lt (t := W2) (by omega))
     obtain ⟨f2, z2, hx2⟩ : ∃ f2 z2 : Int, el W2 L i = (f2, z2) := ⟨_, _, rfl⟩
     have hin2 := (hq i hij).1
     rw [hx2] at hin2
     obtain ⟨q1, q2, q3, q4⟩ := hin2
     obtain ⟨p1, p2, p3, p4⟩ := hin
     simp only at q1 q2 q3 q4 p1 p2 p3 p4
     simp only [c2, c3, c4, ↓reduceIte, Int.toNat_natCast, show el (.pair (.int .i64) (.int .i64)) (L.take j) i = (f2, z2) from et.trans hx2]
     rw [w64_id (z := f2 + z2) (by omega) (by omega), w64_id (z := fr + z) (by omega) (by omega)]
     have go2 : ¬ Over (fr, z) (f2, z2) → Ok (impl_RegionsOk.l2 k (impl_RegionsOk.l1 k n) n' ((L.length : Int), (j : Int), ((j : Nat) : Int), ((i + 1 : Nat) : Int), fr, z, L, L.take j, ())) (fun r => r = B (RegionsOk L)) := fun h => ih2 (e - 1) _ (by omega) ⟨i + 1, rfl, by omega, allS hi (by rw [hx2]; exact h)⟩
     refine ok_if (fun o1 => ok_if (fun o2 => bad (fun h => h.2 i hij (by rw [hx2]; exact ⟨o1, o2⟩))) (fun o2 => go2 (fun h => o2 h.2))) (fun o1 => go2 (fun h => o1 h.1))
    ·rw [h4]
     exact go ⟨hin, fun i' hi' => hi i' (by omega)⟩
 ·rw [in_i]
  refine ok_let (ok_some (B_of (decide_eq_true_iff.trans ⟨fun h => ⟨fun i hi => hq i (by omega), by omega, by omega⟩, fun h => ?_⟩)))
  have := h.2
  omega
theorem regionsOk_s {k : Nat} {L : List (Int × Int)} (hl : L.length ≤ 1048576) (hk : 1048576 < k) : spec_RegionsOk.f k L = some (B (RegionsOk L)) := by
 refine ok_eq ?_
 unfold spec_RegionsOk.f
 refine ok_loop (L := spec_RegionsOk.l1 k) (I := fun d s => ∃ j : Nat, s = ((j : Int), L, ()) ∧ j + d = L.length ∧ ∀ i, i < j → RegAt L i) ?_ k L.length _ (by omega) ⟨0, rfl, by omega, fun i hi => absurd hi (by omega)⟩
 rintro d n s ⟨j, rfl, hd, hq⟩ ih
 rw [spec_RegionsOk.l1]
 refine ok_if (fun hc => ?_) (fun hc => ?_)
 ·have hj : j < L.length := by omega
  have c0 : (0 : Int) ≤ (j : Int) := by omega
  have h4 : w64 ((j : Int) + 1) = ((j + 1 : Nat) : Int) := w64_id (by omega) (by omega)
  have bad : ¬ RegAt L j → Ok (some false) (fun r => r = B (RegionsOk L)) := fun h => ok_some (B_no (fun hr => h (hr.1 j hj))).symm
  have go : RegAt L j → Ok (spec_RegionsOk.l1 k n (((j + 1 : Nat) : Int), L, ())) (fun r => r = B (RegionsOk L)) := fun h => ih (d - 1) _ (by omega) ⟨j + 1, rfl, by omega, allS hq h⟩
  obtain ⟨fr, z, hxe⟩ : ∃ fr z : Int, el W2 L j = (fr, z) := ⟨_, _, rfl⟩
  unfold RegAt at bad go
  rw [hxe] at bad go
  simp only [c0, hc, ↓reduceIte, Int.toNat_natCast, show el (.pair (.int .i64) (.int .i64)) L j = (fr, z) from hxe, in_s, Option.bind_some, decide_eq_true_eq]
  refine ok_if (fun h1 => bad (fun h => ?_)) (fun h1 => ?_)
  ·obtain ⟨p1, p2, p3, p4⟩ := h.1
   simp only at p1 p2 p3 p4
   omega
  ·have h1' := Classical.not_not.1 h1
   rw [w64_id (z := 64 - fr) (by omega) (by omega)]
   refine ok_if (fun h2 => bad (fun h => ?_)) (fun h2 => ?_)
   ·obtain ⟨p1, p2, p3, p4⟩ := h.1
    simp only at p1 p2 p3 p4
    omega
   ·have hin : RegIn (fr, z) := ⟨by dsimp only; omega, by dsimp only; omega, by dsimp only; omega, by dsimp only; omega⟩
    refine ok_loop (L := spec_RegionsOk.l2 k (spec_RegionsOk.l1 k n)) (I := fun e s => ∃ i : Nat, s = ((j : Int), (i : Int), fr, z, L, ()) ∧ i + e = j ∧ ∀ i', i' < i → ¬ Over (fr, z) (el W2 L i')) ?_ k j _ (by omega) ⟨0, rfl, by omega, fun i hi => absurd hi (by omega)⟩
    rintro e n' s ⟨i, rfl, he, hi⟩ ih2
    rw [spec_RegionsOk.l2]
    refine ok_if (fun hc2 => ?_) (fun hc2 => ?_)
    ·have hij : i < j := by omega
     have c2 : (0 : Int) ≤ (i : Int) := by omega
     have c3 : (i : Int) < (L.length : Int) := by omega
     have c4 : w64 ((i : Int) + 1) = ((i + 1 : Nat) : Int) := w64_id (by omega) (by omega)
     obtain ⟨f2, z2, hx2⟩ : ∃ f2 z2 : Int, el W2 L i = (f2, z2) := ⟨_, _, rfl⟩
     have hin2 := (hq i hij).1
     rw [hx2] at hin2
     obtain ⟨q1, q2, q3, q4⟩ := hin2
     obtain ⟨p1, p2, p3, p4⟩ := hin
     simp only at q1 q2 q3 q4 p1 p2 p3 p4
     simp only [c2, c3, c4, ↓reduceIte, Int.toNat_natCast, show el (.pair (.int .i64) (.int .i64)) L i = (f2, z2) from hx2]
     rw [w64_id (z := f2 + z2) (by omega) (by omega), w64_id (z := fr + z) (by omega) (by omega)]
     have go2 : ¬ Over (fr, z) (f2, z2) → Ok (spec_RegionsOk.l2 k (spec_RegionsOk.l1 k n) n' ((j : Int), ((i + 1 : Nat) : Int), fr, z, L, ())) (fun r => r = B (RegionsOk L)) := fun h => ih2 (e - 1) _ (by omega) ⟨i + 1, rfl, by omega, allS hi (by rw [hx2]; exact h)⟩
     refine ok_if (fun o1 => ok_if (fun o2 => bad (fun h => h.2 i hij (by rw [hx2]; exact ⟨o1, o2⟩))) (fun o2 => go2 (fun h => o2 h.2))) (fun o1 => go2 (fun h => o1 h.1))
    ·rw [h4]
     exact go ⟨hin, fun i' hi' => hi i' (by omega)⟩
 ·rw [in_s]
  refine ok_let (ok_some (B_of (decide_eq_true_iff.trans ⟨fun h => ⟨fun i hi => hq i (by omega), by omega, by omega⟩, fun h => ?_⟩)))
  have := h.2
  omega
theorem planOk_s {k : Nat} {L : List (Int × Int)} (hl : L.length ≤ 1048576) (hk : 1048576 < k) : spec_PlanOk.f k L = some (B (PlanOk L)) := by
 refine ok_eq ?_
 unfold spec_PlanOk.f
 refine ok_loop (L := spec_PlanOk.l1 k) (I := fun d s => ∃ j : Nat, s = ((j : Int), L, ()) ∧ j + d = L.length ∧ ∀ i, i < j → WinOk (el W2 L i)) ?_ k L.length _ (by omega) ⟨0, rfl, by omega, fun i hi => absurd hi (by omega)⟩
 rintro d n s ⟨j, rfl, hd, hq⟩ ih
 rw [spec_PlanOk.l1]
 refine ok_if (fun hc => ?_) (fun hc => ?_)
 ·have c0 : (0 : Int) ≤ (j : Int) := by omega
  have h4 : w64 ((j : Int) + 1) = ((j + 1 : Nat) : Int) := w64_id (by omega) (by omega)
  simp only [c0, hc, ↓reduceIte, Int.toNat_natCast, in_s, h4, Option.bind_some, decide_eq_true_eq]
  have bad : ¬ WinOk (el W2 L j) → Ok (some false) (fun r => r = B (PlanOk L)) := fun h => ok_some (B_no (fun hr => h (hr.1 j (by omega)))).symm
  refine ok_if (fun h => bad (fun g => h g.1)) (fun h1 => ok_if (fun h => bad (fun g => h g.2)) (fun h2 => ?_))
  exact ih (d - 1) _ (by omega) ⟨j + 1, rfl, by omega, allS hq ⟨Classical.not_not.1 h1, Classical.not_not.1 h2⟩⟩
 ·rw [in_s]
  refine ok_let (ok_some (B_of (decide_eq_true_iff.trans ⟨fun h => ⟨fun i hi => hq i (by omega), by omega, by omega⟩, fun h => ?_⟩)))
  have := h.2
  omega
/-! ### codes -/
def CodeRead (s : ByteArray) : Prop := s.size % 2 = 0 ∧ s.size ≤ 120
/-- The instructions that stand in a text's bytes. -/
def insOf (s : ByteArray) (n : Nat) : List (Int × Int) := (List.range n).map fun i => (bt s ((2 * i : Nat) : Int), bt s ((2 * i + 1 : Nat) : Int))
theorem insOf_len (s : ByteArray) (n : Nat) : (insOf s n).length = n := by simp [insOf]
theorem insOf_next (s : ByteArray) (n : Nat) : insOf s (n + 1) = insOf s n ++ [(bt s ((2 * n : Nat) : Int), bt s ((2 * n + 1 : Nat) : Int))] := by simp [insOf, List.range_succ]
noncomputable def readM (s : ByteArray) : List (Int × Int) × Bool := if B (CodeRead s) = true then (insOf s (s.size / 2), true) else ([], false)
theorem bt_in (s : ByteArray) (i : Int) : 0 ≤ bt s i ∧ bt s i ≤ 255 := by
 unfold bt
 have := (s.toList.getD i.toNat 0).toNat_lt
 omega
theorem tmod2 (n : Nat) : (Int.tmod (n : Int) 2 = 0) ↔ n % 2 = 0 := by
 rw [Int.tmod_eq_emod_of_nonneg (by omega)]
 omega
theorem read_i {k : Nat} {s : ByteArray} (hk : 1048576 < k) : impl_ReadCode.f k s = some (readM s) := by
 refine ok_eq ?_
 unfold impl_ReadCode.f readM
 refine ok_if (fun h => ok_some ?_) (fun h1 => ok_if (fun h => ok_some ?_) (fun h2 => ok_let ?_))
 ·rw [B_no (fun g => h ((tmod2 _).2 g.1))]
  rfl
 ·rw [B_no (fun g => by have := g.2; omega)]
  rfl
 ·have h0 : s.size % 2 = 0 := (tmod2 _).1 (Classical.not_not.1 h1)
  rw [B_yes ⟨h0, by omega⟩, if_pos rfl]
  refine ok_loop (L := impl_ReadCode.l1 k) (I := fun d t => ∃ j : Nat, t = (s, ((2 * j : Nat) : Int), insOf s j, ()) ∧ j + d = s.size / 2) ?_ k (s.size / 2) _ (by omega) ⟨0, rfl, by omega⟩
  rintro d n t ⟨j, rfl, hd⟩ ih
  rw [impl_ReadCode.l1]
  refine ok_if (fun hc => ?_) (fun hc => ok_some ?_)
  ·have c0 : (0 : Int) ≤ ((2 * j : Nat) : Int) := by omega
   have c1 : w64 (((2 * j : Nat) : Int) + 1) = ((2 * j + 1 : Nat) : Int) := by rw [w64_id (by omega) (by omega)]; omega
   have c2 : (0 : Int) ≤ ((2 * j + 1 : Nat) : Int) := by omega
   have c3 : ((2 * j + 1 : Nat) : Int) < (s.size : Int) := by omega
   have c4 : w64 (((2 * j : Nat) : Int) + 2) = ((2 * (j + 1) : Nat) : Int) := by rw [w64_id (by omega) (by omega)]; omega
   have b1 := bt_in s ((2 * j : Nat) : Int)
   have b2 := bt_in s ((2 * j + 1 : Nat) : Int)
   have hl := insOf_len s j
   simp only [c0, hc, c1, c2, c3, c4, ↓reduceIte, Option.bind_some, List.length_cons, List.length_nil]
   rw [w64_id (z := bt s ((2 * j : Nat) : Int)) (by omega) (by omega), w64_id (z := bt s ((2 * j + 1 : Nat) : Int)) (by omega) (by omega), if_pos (by omega), ← insOf_next]
   exact ih (d - 1) _ (by omega) ⟨j + 1, rfl, by omega⟩
  ·obtain rfl : j = s.size / 2 := by omega
   rfl
theorem read_s {k : Nat} {s : ByteArray} (hk : 1048576 < k) : spec_ReadCode.f k s = some (readM s) := by
 have hl : ∀ n t, spec_ReadCode.l1 k n t = impl_ReadCode.l1 k n t := by
  intro n
  induction n with
  | zero => intro t; rfl
  | succ n ih =>
   rintro ⟨a, b, c, u⟩
   simp only [spec_ReadCode.l1, impl_ReadCode.l1, ih]
 rw [← read_i (s := s) hk]
 unfold spec_ReadCode.f impl_ReadCode.f
 simp only [Option.bind_some, hl]
def CodesOk (L : List ByteArray) (n : Int) : Prop := (∀ i, i < L.length → CodeRead (el .str L i)) ∧ (L.length : Int) = n
theorem codesOk_i {k : Nat} {L : List ByteArray} {n : Int} (hl : L.length ≤ 1048576) (hk : 1048576 < k) : impl_codesOk.f k L n = some (B (CodesOk L n)) := by
 refine ok_eq ?_
 unfold impl_codesOk.f
 refine ok_loop (L := impl_codesOk.l1 k) (I := fun d s => ∃ j : Nat, s = (n, (L.length : Int), (j : Int), L, ()) ∧ j + d = L.length ∧ ∀ i, i < j → CodeRead (el .str L i)) ?_ k L.length _ (by omega) ⟨0, rfl, by omega, fun i hi => absurd hi (by omega)⟩
 rintro d m s ⟨j, rfl, hd, hq⟩ ih
 rw [impl_codesOk.l1]
 refine ok_if (fun hc => ok_grd (by omega) (ok_grd hc ?_)) (fun hc => ok_some (B_of (decide_eq_true_iff.trans ⟨fun h => ⟨fun i hi => hq i (by omega), h⟩, fun h => h.2⟩)))
 have h4 : w64 ((j : Int) + 1) = ((j + 1 : Nat) : Int) := w64_id (by omega) (by omega)
 rw [read_i hk, h4]
 simp only [Int.toNat_natCast, Option.bind_some]
 by_cases h : CodeRead (el .str L j)
 ·have e : (readM (el .str L j)).2 = true := by
   unfold readM
   rw [B_yes h, if_pos rfl]
  rw [if_neg (fun g => g e)]
  exact ih (d - 1) _ (by omega) ⟨j + 1, rfl, by omega, allS hq h⟩
 ·have e : (readM (el .str L j)).2 = false := by
   unfold readM
   rw [B_no h]
   rfl
  rw [if_pos (by rw [e]; simp)]
  exact ok_some (B_no (fun g => h (g.1 j (by omega)))).symm
/-! ### ports and parts -/
def PortsOk (L : List Port5) : Prop := (∀ i, i < L.length → PortOk (el P5 L i)) ∧ L.length ≤ 6
theorem portsOk_i {k : Nat} {L : List Port5} (hl : L.length ≤ 1048576) (hk : 1048576 < k) : impl_portsOk.f k L = some (B (PortsOk L)) := by
 refine ok_eq ?_
 unfold impl_portsOk.f
 refine ok_loop (L := impl_portsOk.l1 k) (I := fun d s => ∃ j : Nat, s = ((L.length : Int), (j : Int), L, ()) ∧ j + d = L.length ∧ ∀ i, i < j → PortOk (el P5 L i)) ?_ k L.length _ (by omega) ⟨0, rfl, by omega, fun i hi => absurd hi (by omega)⟩
 rintro d m s ⟨j, rfl, hd, hq⟩ ih
 rw [impl_portsOk.l1]
 refine ok_if (fun hc => ok_grd (by omega) (ok_grd hc ?_)) (fun hc => ok_some (B_of (decide_eq_true_iff.trans ⟨fun h => ⟨fun i hi => hq i (by omega), by omega⟩, fun h => by have := h.2; omega⟩)))
 have h4 : w64 ((j : Int) + 1) = ((j + 1 : Nat) : Int) := w64_id (by omega) (by omega)
 rw [portOk_i, h4]
 simp only [Int.toNat_natCast]
 refine ok_let (ok_if (fun h => ok_some (B_no (fun g => h (B_yes (g.1 j (by omega))))).symm) (fun h => ?_))
 exact ih (d - 1) _ (by omega) ⟨j + 1, rfl, by omega, allS hq (B_iff.1 (Classical.not_not.1 h))⟩
structure PartsOk (s : Setup) : Prop where
 wins : ∀ i, i < s.2.1.length → (el W2 s.2.1 i).1 ≤ (s.1.length : Int)
 pfr : ∀ i, i < s.2.2.1.length → (el P5 s.2.2.1 i).2.1 ≤ (s.1.length : Int)
 pto : ∀ i, i < s.2.2.1.length → (el P5 s.2.2.1 i).2.2.1 ≤ (s.1.length : Int)
 rls : ∀ i, i < s.2.2.2.1.length → (el R3 s.2.2.2.1 i).1 ≤ (s.1.length : Int)
theorem partsOk_i {k : Nat} {s : Setup} (h2 : s.2.1.length ≤ 1048576) (h3 : s.2.2.1.length ≤ 1048576) (h4 : s.2.2.2.1.length ≤ 1048576) (hk : 1048576 < k) : impl_partsOk.f k s = some (B (PartsOk s)) := by
 obtain ⟨R, W, P, U, C⟩ := s
 simp only at h2 h3 h4
 refine ok_eq ?_
 unfold impl_partsOk.f
 refine ok_loop (L := impl_partsOk.l1 k) (I := fun d t => ∃ (j : Nat) (x : Int), t = (x, (W.length : Int), (j : Int), R, W, P, U, C, ()) ∧ j + d = W.length ∧ (x ≤ (R.length : Int) ↔ ∀ i, i < j → (el W2 W i).1 ≤ (R.length : Int))) ?_ k W.length _ (by omega) ⟨0, 0, rfl, by omega, ⟨fun _ i hi => absurd hi (by omega), fun _ => by omega⟩⟩
 rintro d m t ⟨j, x, rfl, hd, hq⟩ ih
 rw [impl_partsOk.l1]
 refine ok_if (fun hc => ok_grd (by omega) (ok_grd hc ?_)) (fun hc => ?_)
 ·have c4 : w64 ((j : Int) + 1) = ((j + 1 : Nat) : Int) := w64_id (by omega) (by omega)
  rw [c4]
  simp only [Int.toNat_natCast]
  refine ih (d - 1) _ (by omega) ⟨j + 1, _, rfl, by omega, Int.max_le.trans ⟨fun h => allS (hq.1 h.1) h.2, fun h => ⟨hq.2 (fun i hi => h i (by omega)), h j (by omega)⟩⟩⟩
 ·have hq1 : x ≤ (R.length : Int) ↔ ∀ i, i < W.length → (el W2 W i).1 ≤ (R.length : Int) := by
   rw [hq, show j = W.length by omega]
  clear ih hq hc hd
  refine ok_loop (L := impl_partsOk.l2 k) (I := fun d t => ∃ (j : Nat) (y : Int), t = (y, (P.length : Int), (j : Int), R, W, P, U, C, ()) ∧ j + d = P.length ∧ (y ≤ (R.length : Int) ↔ x ≤ (R.length : Int) ∧ (∀ i, i < j → (el P5 P i).2.1 ≤ (R.length : Int)) ∧ ∀ i, i < j → (el P5 P i).2.2.1 ≤ (R.length : Int))) ?_ k P.length _ (by omega) ⟨0, x, rfl, by omega, ⟨fun h => ⟨h, fun i hi => absurd hi (by omega), fun i hi => absurd hi (by omega)⟩, fun h => h.1⟩⟩
  rintro d m' t ⟨j, y, rfl, hd, hq⟩ ih
  rw [impl_partsOk.l2]
  refine ok_if (fun hc => ok_grd (by omega) (ok_grd hc ?_)) (fun hc => ?_)
  ·have c4 : w64 ((j : Int) + 1) = ((j + 1 : Nat) : Int) := w64_id (by omega) (by omega)
   rw [c4]
   simp only [Int.toNat_natCast]
   refine ih (d - 1) _ (by omega) ⟨j + 1, _, rfl, by omega, Int.max_le.trans ⟨fun h => ?_, fun h => ⟨Int.max_le.2 ⟨hq.2 ⟨h.1, fun i hi => h.2.1 i (by omega), fun i hi => h.2.2 i (by omega)⟩, h.2.1 j (by omega)⟩, h.2.2 j (by omega)⟩⟩⟩
   have h1 := Int.max_le.1 h.1
   have h2 := hq.1 h1.1
   exact ⟨h2.1, allS h2.2.1 h1.2, allS h2.2.2 h.2⟩
  ·have hq2 : y ≤ (R.length : Int) ↔ x ≤ (R.length : Int) ∧ (∀ i, i < P.length → (el P5 P i).2.1 ≤ (R.length : Int)) ∧ ∀ i, i < P.length → (el P5 P i).2.2.1 ≤ (R.length : Int) := by
    rw [hq, show j = P.length by omega]
   clear ih hq hc hd
   refine ok_loop (L := impl_partsOk.l3 k) (I := fun d t => ∃ (j : Nat) (z : Int), t = (z, (U.length : Int), (j : Int), R, W, P, U, C, ()) ∧ j + d = U.length ∧ (z ≤ (R.length : Int) ↔ y ≤ (R.length : Int) ∧ ∀ i, i < j → (el R3 U i).1 ≤ (R.length : Int))) ?_ k U.length _ (by omega) ⟨0, y, rfl, by omega, ⟨fun h => ⟨h, fun i hi => absurd hi (by omega)⟩, fun h => h.1⟩⟩
   rintro d m'' t ⟨j, z, rfl, hd, hq⟩ ih
   rw [impl_partsOk.l3]
   refine ok_if (fun hc => ok_grd (by omega) (ok_grd hc ?_)) (fun hc => ok_some (B_of (decide_eq_true_iff.trans ?_)))
   ·have c4 : w64 ((j : Int) + 1) = ((j + 1 : Nat) : Int) := w64_id (by omega) (by omega)
    rw [c4]
    simp only [Int.toNat_natCast]
    refine ih (d - 1) _ (by omega) ⟨j + 1, _, rfl, by omega, Int.max_le.trans ⟨fun h => ?_, fun h => ⟨hq.2 ⟨h.1, fun i hi => h.2 i (by omega)⟩, h.2 j (by omega)⟩⟩⟩
    have h2 := hq.1 h.1
    exact ⟨h2.1, allS h2.2 h.2⟩
   ·rw [hq, show j = U.length by omega, hq2, hq1]
    exact ⟨fun h => ⟨h.1.1, h.1.2.1, h.1.2.2, h.2⟩, fun h => ⟨⟨h.wins, h.pfr, h.pto⟩, h.rls⟩⟩
theorem partsOk_s {k : Nat} {s : Setup} (h2 : s.2.1.length ≤ 1048576) (h3 : s.2.2.1.length ≤ 1048576) (h4 : s.2.2.2.1.length ≤ 1048576) (hk : 1048576 < k) : spec_l11Parts.f k s = some (if B (PartsOk s) = true then 0 else 6) := by
 obtain ⟨R, W, P, U, C⟩ := s
 simp only at h2 h3 h4
 refine ok_eq ?_
 unfold spec_l11Parts.f
 have no : ¬ PartsOk (R, W, P, U, C) → Ok (some (6 : Int)) (fun r => r = if B (PartsOk (R, W, P, U, C)) = true then 0 else 6) := fun h => ok_some (by rw [B_no h]; rfl)
 refine ok_loop (L := spec_l11Parts.l1 k) (I := fun d t => ∃ j : Nat, t = ((R.length : Int), (j : Int), R, W, P, U, C, ()) ∧ j + d = W.length ∧ ∀ i, i < j → (el W2 W i).1 ≤ (R.length : Int)) ?_ k W.length _ (by omega) ⟨0, rfl, by omega, fun i hi => absurd hi (by omega)⟩
 rintro d m t ⟨j, rfl, hd, hq⟩ ih
 rw [spec_l11Parts.l1]
 refine ok_if (fun hc => ok_grd (by omega) (ok_grd hc ?_)) (fun hc => ?_)
 ·have c4 : w64 ((j : Int) + 1) = ((j + 1 : Nat) : Int) := w64_id (by omega) (by omega)
  rw [c4]
  simp only [Int.toNat_natCast]
  exact ok_if (fun h => no (fun g => Int.not_le.2 h (g.wins j (by dsimp only; omega)))) (fun h => ih (d - 1) _ (by omega) ⟨j + 1, rfl, by omega, allS hq (Int.not_lt.1 h)⟩)
 ·have hq1 : ∀ i, i < W.length → (el W2 W i).1 ≤ (R.length : Int) := fun i hi => hq i (by omega)
  clear ih hq hc hd
  refine ok_loop (L := spec_l11Parts.l2 k) (I := fun d t => ∃ j : Nat, t = ((R.length : Int), (j : Int), R, W, P, U, C, ()) ∧ j + d = P.length ∧ (∀ i, i < j → (el P5 P i).2.1 ≤ (R.length : Int)) ∧ ∀ i, i < j → (el P5 P i).2.2.1 ≤ (R.length : Int)) ?_ k P.length _ (by omega) ⟨0, rfl, by omega, fun i hi => absurd hi (by omega), fun i hi => absurd hi (by omega)⟩
  rintro d m' t ⟨j, rfl, hd, hq, hq'⟩ ih
  rw [spec_l11Parts.l2]
  refine ok_if (fun hc => ok_grd (by omega) (ok_grd hc ?_)) (fun hc => ?_)
  ·have c4 : w64 ((j : Int) + 1) = ((j + 1 : Nat) : Int) := w64_id (by omega) (by omega)
   rw [c4]
   simp only [Int.toNat_natCast]
   exact ok_if (fun h => no (fun g => Int.not_le.2 h (g.pfr j (by dsimp only; omega)))) (fun h => ok_grd (by omega) (ok_grd hc (ok_if (fun h' => no (fun g => Int.not_le.2 h' (g.pto j (by dsimp only; omega)))) (fun h' => ih (d - 1) _ (by omega) ⟨j + 1, rfl, by omega, allS hq (Int.not_lt.1 h), allS hq' (Int.not_lt.1 h')⟩))))
  ·have hq2 : ∀ i, i < P.length → (el P5 P i).2.1 ≤ (R.length : Int) := fun i hi => hq i (by omega)
   have hq3 : ∀ i, i < P.length → (el P5 P i).2.2.1 ≤ (R.length : Int) := fun i hi => hq' i (by omega)
   clear ih hq hq' hc hd
   refine ok_loop (L := spec_l11Parts.l3 k) (I := fun d t => ∃ j : Nat, t = ((R.length : Int), (j : Int), R, W, P, U, C, ()) ∧ j + d = U.length ∧ ∀ i, i < j → (el R3 U i).1 ≤ (R.length : Int)) ?_ k U.length _ (by omega) ⟨0, rfl, by omega, fun i hi => absurd hi (by omega)⟩
   rintro d m'' t ⟨j, rfl, hd, hq⟩ ih
   rw [spec_l11Parts.l3]
   refine ok_if (fun hc => ok_grd (by omega) (ok_grd hc ?_)) (fun hc => ok_some ?_)
   ·have c4 : w64 ((j : Int) + 1) = ((j + 1 : Nat) : Int) := w64_id (by omega) (by omega)
    rw [c4]
    simp only [Int.toNat_natCast]
    exact ok_if (fun h => no (fun g => Int.not_le.2 h (g.rls j (by dsimp only; omega)))) (fun h => ih (d - 1) _ (by omega) ⟨j + 1, rfl, by omega, allS hq (Int.not_lt.1 h)⟩)
   ·rw [B_yes ⟨hq1, hq2, hq3, fun i hi => hq i (by dsimp only at hi; omega)⟩]
    rfl
/-! ### the fault -/
noncomputable def faultM (s : Setup) : Int :=
 if ¬ B (RegionsOk s.1) = true then 1 else if ¬ B (PlanOk s.2.1) = true then 2 else if ¬ B (PortsOk s.2.2.1) = true then 3 else if ¬ B (RulesOk s.2.2.2.1) = true then 4 else if ¬ B (CodesOk s.2.2.2.2 (s.1.length : Int)) = true then 5 else if ¬ B (PartsOk s) = true then 6 else 0
structure Small (s : Setup) : Prop where
 a : s.1.length ≤ 1048576
 b : s.2.1.length ≤ 1048576
 c : s.2.2.1.length ≤ 1048576
 d : s.2.2.2.1.length ≤ 1048576
 e : s.2.2.2.2.length ≤ 1048576
theorem fault_i {k : Nat} {s : Setup} (h : Small s) (hk : 1048576 < k) : impl_SetupFault.f k s = some (faultM s) := by
 unfold impl_SetupFault.f faultM
 rw [regionsOk_i h.a hk, planOk_i h.b hk, portsOk_i h.c hk, rulesOk_i h.d hk, codesOk_i h.e hk, partsOk_i h.b h.c h.d hk]
 simp only [Option.bind_some]
 repeat' split
 all_goals rfl
theorem fault_s {k : Nat} {s : Setup} (h : Small s) (hk : 1048576 < k) : spec_SetupFault.f k s = some (faultM s) := by
 obtain ⟨R, W, P, U, C⟩ := s
 obtain ⟨h1, h2, h3, h4, h5⟩ := h
 simp only at h1 h2 h3 h4 h5
 refine ok_eq ?_
 unfold spec_SetupFault.f faultM
 rw [regionsOk_s h1 hk, planOk_s h2 hk]
 simp only [Option.bind_some]
 refine ok_if (fun h => ok_some (by rw [if_pos h])) (fun g1 => ok_if (fun h => ok_some (by rw [if_neg g1, if_pos h])) (fun g2 => ?_))
 rw [if_neg g1, if_neg g2]
 have no : ¬ PortsOk P → Ok (some (3 : Int)) (fun r => r = if ¬ B (PortsOk P) = true then 3 else if ¬ B (RulesOk U) = true then 4 else if ¬ B (CodesOk C (R.length : Int)) = true then 5 else if ¬ B (PartsOk (R, W, P, U, C)) = true then 6 else 0) := fun h => ok_some (by rw [B_no h]; rfl)
 refine ok_loop (L := spec_SetupFault.l1 k) (I := fun d t => ∃ j : Nat, t = ((j : Int), R, W, P, U, C, ()) ∧ j + d = P.length ∧ (∀ i, i < j → PortOk (el P5 P i)) ∧ j ≤ 6) ?_ k P.length _ (by omega) ⟨0, rfl, by omega, fun i hi => absurd hi (by omega), by omega⟩
 rintro d m t ⟨j, rfl, hd, hq, hj6⟩ ih
 rw [spec_SetupFault.l1]
 refine ok_if (fun hc => ok_grd (by omega) (ok_grd hc ?_)) (fun hc => ?_)
 ·have c4 : w64 ((j : Int) + 1) = ((j + 1 : Nat) : Int) := w64_id (by omega) (by omega)
  rw [portOk_s, c4]
  simp only [Int.toNat_natCast]
  refine ok_let (ok_if (fun h => no (fun g => h (B_yes (g.1 j (by omega))))) (fun h => ok_if (fun h6 => no (fun g => by have := g.2; omega)) (fun h6 => ?_)))
  exact ih (d - 1) _ (by omega) ⟨j + 1, rfl, by omega, allS hq (B_iff.1 (Classical.not_not.1 h)), by omega⟩
 ·have hp : PortsOk P := ⟨fun i hi => hq i (by omega), by omega⟩
  rw [B_yes hp, if_neg (c := ¬ true = true) (fun h => h rfl), rulesOk_s h4 hk]
  clear ih hq hc hd
  refine ok_let (ok_if (fun h => ok_some (by rw [if_pos h])) (fun g4 => ?_))
  rw [if_neg g4]
  have no5 : ¬ CodesOk C (R.length : Int) → Ok (some (5 : Int)) (fun r => r = if ¬ B (CodesOk C (R.length : Int)) = true then 5 else if ¬ B (PartsOk (R, W, P, U, C)) = true then 6 else 0) := fun h => ok_some (by rw [B_no h]; rfl)
  refine ok_if (fun h => no5 (fun g => h g.2)) (fun g5 => ?_)
  refine ok_loop (L := spec_SetupFault.l2 k) (I := fun d t => ∃ j : Nat, t = ((j : Int), R, W, P, U, C, ()) ∧ j + d = C.length ∧ ∀ i, i < j → CodeRead (el .str C i)) ?_ k C.length _ (by omega) ⟨0, rfl, by omega, fun i hi => absurd hi (by omega)⟩
  rintro d m' t ⟨j, rfl, hd, hq⟩ ih
  rw [spec_SetupFault.l2]
  refine ok_if (fun hc => ok_grd (by omega) (ok_grd hc ?_)) (fun hc => ?_)
  ·have c4 : w64 ((j : Int) + 1) = ((j + 1 : Nat) : Int) := w64_id (by omega) (by omega)
   rw [read_s hk, c4]
   simp only [Int.toNat_natCast, Option.bind_some]
   by_cases h : CodeRead (el .str C j)
   ·have e : (readM (el .str C j)).2 = true := by
     unfold readM
     rw [B_yes h, if_pos rfl]
    rw [if_neg (fun g => g e)]
    exact ih (d - 1) _ (by omega) ⟨j + 1, rfl, by omega, allS hq h⟩
   ·have e : (readM (el .str C j)).2 = false := by
     unfold readM
     rw [B_no h]
     rfl
    rw [if_pos (by rw [e]; simp)]
    exact no5 (fun g => h (g.1 j (by omega)))
  ·have hcs : CodesOk C (R.length : Int) := ⟨fun i hi => hq i (by omega), Classical.not_not.1 g5⟩
   rw [B_yes hcs, if_neg (c := ¬ true = true) (fun h => h rfl), partsOk_s h2 h3 h4 hk]
   refine ok_let (ok_some ?_)
   by_cases hb : B (PartsOk (R, W, P, U, C)) = true
   ·rw [if_pos hb, if_neg (fun h => h hb)]
   ·rw [if_neg hb, if_pos hb]
end Go.Proofs.Ytacpibmmodeacaa.Pure
/- Kernels: when they are right. No condition. -/
namespace Go.Proofs.Ytacpibmmodeacaa.Pure
open Go Go.Proofs.YtacpibmmodeacaaA Go.Proofs.YtacpibmmodeacaaU Go.Proofs.Ytacpibmmodeacaa.QA
set_option linter.unusedVariables false
set_option linter.unusedSimpArgs false
abbrev PT : Ty := .pair (.int .i64) (.pair (.pair (.int .i64) (.sl 3 (.int .i64))) (.pair (.int .i64) (.pair (.int .i64) (.int .i64))))
abbrev LT : Ty := .sl 241 (.pair (.int .i64) (.int .i64))
abbrev PartT := Int × (Int × List Int) × Int × Int × Int
abbrev LineT := List (Int × Int)
abbrev Kernel := Setup × List Int × List PartT × List LineT × List Int × Int × Bool × List Port5
def Number (z : Int) : Prop := 0 ≤ z ∧ z ≤ 1000000000
structure PartOk (p : PartT) : Prop where
 st : 0 ≤ p.1 ∧ p.1 ≤ 1
 cpu : CpuOk p.2.1
 starts : Number p.2.2.1
 ends : Number p.2.2.2.1
 late : Number p.2.2.2.2
structure KernelOk (k : Kernel) : Prop where
 fault : faultM k.1 = 0
 cells : k.2.1.length = 64
 words : WordsOk k.2.1
 parts : k.2.2.1.length = k.1.1.length
 lines : k.2.2.2.1.length = k.1.2.2.1.length
 part : ∀ i, i < k.2.2.1.length → PartOk (el PT k.2.2.1 i)
 line : ∀ i, i < k.2.2.2.1.length → ((el LT k.2.2.2.1 i).length : Int) ≤ (el P5 k.1.2.2.1 i).2.2.2.1
 outs : k.2.2.2.2.1.length = 8
 outw : WordsOk k.2.2.2.2.1
 turn : Number k.2.2.2.2.2.1
/-- A kernel of which nothing is too long. -/
structure SmallK (k : Kernel) : Prop where
 st : Small k.1
 cells : k.2.1.length ≤ 1048576
 parts : k.2.2.1.length ≤ 1048576
 stacks : ∀ p, p ∈ k.2.2.1 → p.2.1.2.length ≤ 1048576
 lines : k.2.2.2.1.length ≤ 1048576
 msgs : ∀ l, l ∈ k.2.2.2.1 → l.length ≤ 1048576
 outs : k.2.2.2.2.1.length ≤ 1048576
 log : k.2.2.2.2.2.2.2.length ≤ 1048576
end Go.Proofs.Ytacpibmmodeacaa.Pure
/- Texts of numbers. No condition. -/
namespace Go.Proofs.Ytacpibmmodeacaa.Pure
open Go Go.Proofs.YtacpibmmodeacaaA Go.Proofs.YtacpibmmodeacaaU Go.Proofs.Ytacpibmmodeacaa.QA
set_option linter.unusedVariables false
theorem chrs_size (xs : List Int) : (chrs xs).size = xs.length := by
 show (chrs xs).data.size = _
 simp [chrs]
end Go.Proofs.Ytacpibmmodeacaa.Pure
/- Marks of rows of rows: what is marked is held. No condition. -/
namespace Go.Proofs.Ytacpibmmodeacaa.Pure
open Go Go.Proofs.YtacpibmmodeacaaA Go.Proofs.YtacpibmmodeacaaU Go.Proofs.Ytacpibmmodeacaa.QA
set_option linter.unusedVariables false
set_option linter.unusedSimpArgs false
theorem mark_loop {δ : Type} {M : Nat → Int × Int × List δ × Unit → Option (Int × List δ)} {H : Nat → Int × Int × List δ × Unit → Option Int} {xs : List δ} {W B : Int} (hW : 0 ≤ W)
  (stepM : ∀ (m : Int) (j : Nat) (ys : List δ) (n : Nat), j < ys.length → ys.length = xs.length → ys[j]? = xs[j]? → 0 ≤ m → m ≤ B → ∃ m' e, M (n + 1) (m, (j : Int), ys, ()) = M n (m', ((j + 1 : Nat) : Int), ys.set j e, ()) ∧ m ≤ m' ∧ m' ≤ m + W ∧ ∀ (zs : List δ) (q : Nat), zs.length = xs.length → zs[j]? = some e → H (q + 1) (m, (j : Int), zs, ()) = H q (m', ((j + 1 : Nat) : Int), zs, ()))
  (endM : ∀ (m : Int) (ys : List δ) (n : Nat), ys.length = xs.length → M (n + 1) (m, (xs.length : Int), ys, ()) = some (m, ys))
  (endH : ∀ (m : Int) (ys : List δ) (n : Nat), ys.length = xs.length → H (n + 1) (m, (xs.length : Int), ys, ()) = some m) :
  ∀ (d j : Nat) (m : Int) (ys : List δ), j + d = xs.length → ys.length = xs.length → (∀ i, j ≤ i → ys[i]? = xs[i]?) → 0 ≤ m → m + (d : Int) * W ≤ B → ∀ n, d < n → ∃ m' zs, M n (m, (j : Int), ys, ()) = some (m', zs) ∧ m ≤ m' ∧ m' ≤ m + (d : Int) * W ∧ zs.length = xs.length ∧ (∀ i, i < j → zs[i]? = ys[i]?) ∧ ∀ q, d < q → H q (m, (j : Int), zs, ()) = some m'
 | 0, j, m, ys, hj, hl, hs, h0, hB, n, hn => by
  obtain ⟨n, rfl⟩ : ∃ n', n = n' + 1 := ⟨n - 1, by omega⟩
  obtain rfl : j = xs.length := by omega
  refine ⟨m, ys, endM m ys n hl, by omega, by omega, hl, fun _ _ => rfl, fun q hq => ?_⟩
  obtain ⟨q, rfl⟩ : ∃ q', q = q' + 1 := ⟨q - 1, by omega⟩
  exact endH m ys q hl
 | d + 1, j, m, ys, hj, hl, hs, h0, hB, n, hn => by
  obtain ⟨n, rfl⟩ : ∃ n', n = n' + 1 := ⟨n - 1, by omega⟩
  have hdW : ((d + 1 : Nat) : Int) * W = (d : Int) * W + W := by rw [Int.natCast_add, Int.add_mul]; simp
  rw [hdW] at hB ⊢
  have hdp : 0 ≤ (d : Int) * W := Int.mul_nonneg (by omega) hW
  obtain ⟨m1, e, e1, e2, e3, e4⟩ := stepM m j ys n (by omega) hl (hs j (Nat.le_refl j)) h0 (by omega)
  have hls : (ys.set j e).length = xs.length := by rw [List.length_set]; exact hl
  obtain ⟨m', zs, g1, g2, g3, g4, g5, g6⟩ := mark_loop hW stepM endM endH d (j + 1) m1 (ys.set j e) (by omega) hls (fun i hi => by rw [List.getElem?_set_ne (by omega)]; exact hs i (by omega)) (by omega) (by omega) n (by omega)
  refine ⟨m', zs, e1.trans g1, by omega, by omega, g4, fun i hi => ?_, fun q hq => ?_⟩
  ·rw [g5 i (by omega), List.getElem?_set_ne (by omega)]
  ·obtain ⟨q, rfl⟩ : ∃ q', q = q' + 1 := ⟨q - 1, by omega⟩
   have hzj : zs[j]? = some e := by rw [g5 j (by omega), List.getElem?_set_self (by omega)]
   rw [e4 zs q g4 hzj]
   exact g6 q (by omega)
/-- Marks: what is put is found again. -/
def Marks {δ : Type} (b : Int) (mark : Int → Option (Int × δ)) (held : δ → Int → Option Int) (w : Int) : Prop := ∀ m : Int, 0 ≤ m → m ≤ b → ∃ m' x, mark m = some (m', x) ∧ m ≤ m' ∧ m' ≤ m + w ∧ held x m = some m'
theorem marks_int {k : Nat} {xs : List Int} (hl : xs.length ≤ 1048576) (hk : 1048576 < k) : Marks 4000000000000000000 (laws_markIntS.f k xs) (laws_heldIntS.f k) 1048576 := fun m h0 h1 => by
 have e := MIntS_le (m := m) xs.length
 exact ⟨_, _, markIntS_f hl hk h0 (by omega), by omega, by omega, heldIntS_f hl hk h0 (by omega)⟩
theorem marks_region {k : Nat} {xs : List (Int × Int)} (hl : xs.length ≤ 1048576) (hk : 1048576 < k) : Marks 4000000000000000000 (laws_markRegionS.f k xs) (laws_heldRegionS.f k) 2097152 := fun m h0 h1 => by
 have e := MRegionS_le (m := m) xs.length
 exact ⟨_, _, markRegionS_f hl hk h0 (by omega), by omega, by omega, heldRegionS_f hl hk h0 (by omega)⟩
theorem marks_window {k : Nat} {xs : List (Int × Int)} (hl : xs.length ≤ 1048576) (hk : 1048576 < k) : Marks 4000000000000000000 (laws_markWindowS.f k xs) (laws_heldWindowS.f k) 2097152 := fun m h0 h1 => by
 have e := MWindowS_le (m := m) xs.length
 exact ⟨_, _, markWindowS_f hl hk h0 (by omega), by omega, by omega, heldWindowS_f hl hk h0 (by omega)⟩
theorem marks_port {k : Nat} {xs : List Port5} (hl : xs.length ≤ 1048576) (hk : 1048576 < k) : Marks 4000000000000000000 (laws_markPortS.f k xs) (laws_heldPortS.f k) 5242880 := fun m h0 h1 => by
 have e := MPortS_le (m := m) xs.length
 exact ⟨_, _, markPortS_f hl hk h0 (by omega), by omega, by omega, heldPortS_f hl hk h0 (by omega)⟩
theorem marks_rule {k : Nat} {xs : List (Int × Int × Int)} (hl : xs.length ≤ 1048576) (hk : 1048576 < k) : Marks 4000000000000000000 (laws_markRuleS.f k xs) (laws_heldRuleS.f k) 3145728 := fun m h0 h1 => by
 have e := MRuleS_le (m := m) xs.length
 exact ⟨_, _, markRuleS_f hl hk h0 (by omega), by omega, by omega, heldRuleS_f hl hk h0 (by omega)⟩
theorem marks_entry {k : Nat} {xs : List Port5} (hl : xs.length ≤ 1048576) (hk : 1048576 < k) : Marks 4000000000000000000 (laws_markEntryS.f k xs) (laws_heldEntryS.f k) 5242880 := fun m h0 h1 => by
 have e := MEntryS_le (m := m) xs.length
 exact ⟨_, _, markEntryS_f hl hk h0 (by omega), by omega, by omega, heldEntryS_f hl hk h0 (by omega)⟩
theorem marks_msg {k : Nat} {xs : List (Int × Int)} (hl : xs.length ≤ 1048576) (hk : 1048576 < k) : Marks 4000000000000000000 (laws_markMsgS.f k xs) (laws_heldMsgS.f k) 2097152 := fun m h0 h1 => by
 have e := MMsgS_le (m := m) xs.length
 exact ⟨_, _, markMsgS_f hl hk h0 (by omega), by omega, by omega, heldMsgS_f hl hk h0 (by omega)⟩
/-! ### texts -/
theorem markText_ok {k : Nat} {z : Int} (hk : 1048576 < k) (h1 : z < 10000000000000000000) : ∃ t, laws_markText.f k z = some t := by
 have : Ok (laws_markText.f k z) (fun _ => True) := by
  unfold laws_markText.f
  refine ok_if (fun _ => ok_some trivial) (fun h0 => ?_)
  refine ok_loop (L := laws_markText.l1 k) (I := fun d s => ∃ (x : Int) (t : ByteArray), s = (x, t, ()) ∧ 0 ≤ x ∧ x < 10 ^ d ∧ t.size + d ≤ 19) ?_ k 19 _ (by omega) ⟨z, _, rfl, by omega, by simpa using h1, by decide⟩
  rintro d n s ⟨x, t, rfl, hx0, hx1, ht⟩ ih
  rw [laws_markText.l1]
  refine ok_if (fun hp => ok_let (ok_grd (by rw [chrs_size]; simp only [List.length_cons, List.length_nil]; omega) ?_)) (fun _ => ok_grd (by have : (⟨#[109]⟩ : ByteArray).size = 1 := rfl; omega) (ok_some trivial))
  cases d with
  | zero => simp at hx1; omega
  | succ d =>
   have hx2 : x < 10 ^ d * 10 := by rw [← Int.pow_succ]; exact hx1
   have e : w64 (Int.tdiv x 10) = x / 10 := by
    rw [Int.tdiv_eq_ediv_of_nonneg hx0]
    have h10 : (10 : Int) ^ d ≤ 10 ^ 18 := by
     have : (10 : Nat) ^ d ≤ 10 ^ 18 := Nat.pow_le_pow_right (by omega) (by omega)
     exact_mod_cast this
    exact w64_id (by omega) (by omega)
   rw [e]
   refine ih d _ (by omega) ⟨_, _, rfl, by omega, by omega, ?_⟩
   rw [ByteArray.size_append, chrs_size]
   simp only [List.length_cons, List.length_nil]
   omega
 obtain ⟨t, h, _⟩ := this
 exact ⟨t, h⟩
theorem marks_string {k : Nat} {xs : List ByteArray} (hl : xs.length ≤ 1048576) (hk : 1048576 < k) : Marks 100000000000000000 (laws_markStringS.f k xs) (laws_heldStringS.f k) 1048576 := fun m h0 h1 => by
 obtain ⟨m', zs, g1, g2, g3, g4, g5, g6⟩ := mark_loop (M := laws_markStringS.l1 k) (H := laws_heldStringS.l1 k) (xs := xs) (W := 1) (B := 2000000000000000000) (by omega)
  (fun m j ys n hj hly _ hm0 hmB => by
   obtain ⟨t, ht⟩ := markText_ok (k := k) (z := m) hk (by omega)
   have w1 : w64 (m + 1) = m + 1 := w64_id (by omega) (by omega)
   have w2 : w64 ((j : Int) + 1) = ((j + 1 : Nat) : Int) := w64_id (by omega) (by omega)
   refine ⟨m + 1, t, ?_, by omega, by omega, fun zs q hz he => ?_⟩
   ·rw [laws_markStringS.l1, if_pos (by omega), ht]
    simp only [Option.bind_some, Int.toNat_natCast, w1, w2]
    rw [if_pos (by omega), if_pos (by omega)]
   ·have e : el .str zs j = t := el_at (t := .str) he
    rw [laws_heldStringS.l1, if_pos (by omega), if_pos (by omega), if_pos (by omega), ht]
    simp only [Option.bind_some, Int.toNat_natCast, w1, w2]
    rw [e, if_neg (fun h => h rfl)])
  (fun m ys n hl => by rw [laws_markStringS.l1, if_neg (by omega)])
  (fun m ys n hl => by rw [laws_heldStringS.l1, if_neg (by omega)])
  xs.length 0 m xs (by omega) rfl (fun _ _ => rfl) h0 (by omega) k (by omega)
 exact ⟨m', zs, g1, g2, by omega, g6 k (by omega)⟩
theorem marks_line {k : Nat} {xs : List LineT} (hl : xs.length ≤ 1048576) (hs : ∀ l, l ∈ xs → l.length ≤ 1048576) (hk : 1048576 < k) : Marks 100000000000000000 (laws_markLineS.f k xs) (laws_heldLineS.f k) 2199023255552 := fun m h0 h1 => by
 have hW := Int.mul_le_mul_of_nonneg_right (show (xs.length : Int) ≤ 1048576 by omega) (show (0 : Int) ≤ 2097152 by omega)
 obtain ⟨m', zs, g1, g2, g3, g4, g5, g6⟩ := mark_loop (M := laws_markLineS.l1 k) (H := laws_heldLineS.l1 k) (xs := xs) (W := 2097152) (B := 1000000000000000000) (by omega)
  (fun m j ys n hj hly hy hm0 hmB => by
   have hyl : (el LT ys j).length ≤ 1048576 := by
    have e : el LT ys j = el LT xs j := el_at (t := LT) (by rw [hy]; exact el_lt (t := LT) (by omega))
    rw [e]
    exact hs _ (el_mem (t := LT) (by omega))
   obtain ⟨m', x, e1, e2, e3, e4⟩ := marks_msg (k := k) hyl hk m hm0 (by omega)
   have w2 : w64 ((j : Int) + 1) = ((j + 1 : Nat) : Int) := w64_id (by omega) (by omega)
   refine ⟨m', x, ?_, e2, e3, fun zs q hz he => ?_⟩
   ·rw [laws_markLineS.l1, if_pos (by omega), if_pos (by omega), if_pos (by omega)]
    simp only [Int.toNat_natCast]
    rw [show laws_markMsgS.f k (el (.sl 241 (.pair (.int .i64) (.int .i64))) ys j) m = some (m', x) from e1]
    simp only [Option.bind_some, w2]
   ·have e : el LT zs j = x := el_at (t := LT) he
    rw [laws_heldLineS.l1, if_pos (by omega), if_pos (by omega), if_pos (by omega)]
    simp only [Int.toNat_natCast]
    rw [show laws_heldMsgS.f k (el (.sl 241 (.pair (.int .i64) (.int .i64))) zs j) m = some m' from by rw [show el (.sl 241 (.pair (.int .i64) (.int .i64))) zs j = x from e]; exact e4]
    simp only [Option.bind_some, w2]
    rw [if_neg (by omega)])
  (fun m ys n hl => by rw [laws_markLineS.l1, if_neg (by omega)])
  (fun m ys n hl => by rw [laws_heldLineS.l1, if_neg (by omega)])
  xs.length 0 m xs (by omega) rfl (fun _ _ => rfl) h0 (by omega) k (by omega)
 exact ⟨m', zs, g1, g2, by omega, g6 k (by omega)⟩
theorem marks_part {k : Nat} {xs : List PartT} (hl : xs.length ≤ 1048576) (hs : ∀ p, p ∈ xs → p.2.1.2.length ≤ 1048576) (hk : 1048576 < k) : Marks 100000000000000000 (laws_markPartS.f k xs) (laws_heldPartS.f k) 1099516870656 := fun m h0 h1 => by
 have hW := Int.mul_le_mul_of_nonneg_right (show (xs.length : Int) ≤ 1048576 by omega) (show (0 : Int) ≤ 1048581 by omega)
 obtain ⟨m', zs, g1, g2, g3, g4, g5, g6⟩ := mark_loop (M := laws_markPartS.l1 k) (H := laws_heldPartS.l1 k) (xs := xs) (W := 1048581) (B := 900000000000000000) (by omega)
  (fun m j ys n hj hly hy hm0 hmB => by
   have hyl : (el PT ys j).2.1.2.length ≤ 1048576 := by
    have e : el PT ys j = el PT xs j := el_at (t := PT) (by rw [hy]; exact el_lt (t := PT) (by omega))
    rw [e]
    exact hs _ (el_mem (t := PT) (by omega))
   have w1 : w64 (m + 1) = m + 1 := w64_id (by omega) (by omega)
   have w2 : w64 (m + 1 + 1) = m + 2 := by rw [w64_id (by omega) (by omega)]; omega
   obtain ⟨m', x, e1, e2, e3, e4⟩ := marks_int (k := k) hyl hk (m + 2) (by omega) (by omega)
   have w3 : w64 (m' + 1) = m' + 1 := w64_id (by omega) (by omega)
   have w4 : w64 (m' + 1 + 1) = m' + 2 := by rw [w64_id (by omega) (by omega)]; omega
   have w5 : w64 (m' + 2 + 1) = m' + 3 := by rw [w64_id (by omega) (by omega)]; omega
   have w6 : w64 ((j : Int) + 1) = ((j + 1 : Nat) : Int) := w64_id (by omega) (by omega)
   have j0 : (0 : Int) ≤ (j : Int) := by omega
   have j1 : (j : Int) < (ys.length : Int) := by omega
   have gs : ∀ p : PartT, el TyP (ys.set j p) j = p := fun p => el_set_self (t := PT) hj
   refine ⟨m' + 3, (m, (m + 1, x), m', m' + 1, m' + 2), ?_, by omega, by omega, fun zs q hz he => ?_⟩
   ·rw [laws_markPartS.l1]
    simp only [j0, j1, ↓reduceIte, Int.toNat_natCast, Option.bind_some, List.length_set, gs, List.set_set, w1, w2, w6]
    rw [show laws_markIntS.f k (el TyP ys j).2.1.2 (m + 2) = some (m', x) from e1]
    simp only [j0, j1, ↓reduceIte, Option.bind_some, List.length_set, gs, List.set_set, w3, w4, w5]
   ·have e : el TyP zs j = (m, (m + 1, x), m', m' + 1, m' + 2) := el_at (t := PT) he
    have j2 : (j : Int) < (zs.length : Int) := by omega
    rw [laws_heldPartS.l1]
    simp only [j0, j2, ↓reduceIte, Int.toNat_natCast, e, w1, w2, w6, not_true_eq_false]
    rw [e4]
    simp only [Option.bind_some, w3, w4, w5, not_true_eq_false, ↓reduceIte]
    rw [if_neg (by omega)])
  (fun m ys n hl => by rw [laws_markPartS.l1, if_neg (by omega)])
  (fun m ys n hl => by rw [laws_heldPartS.l1, if_neg (by omega)])
  xs.length 0 m xs (by omega) rfl (fun _ _ => rfl) h0 (by omega) k (by omega)
 exact ⟨m', zs, g1, g2, by omega, g6 k (by omega)⟩
/-! ### kernels -/
theorem markArena_m {k : Nat} {xs : List Int} (hl : xs.length ≤ 1048576) (hk : 1048576 < k) : Marks 4000000000000000000 (laws_markArena.f k xs) (laws_heldArena.f k) 1048576 := fun m h0 h1 => by
 obtain ⟨m', x, e1, e2, e3, e4⟩ := marks_int (k := k) hl hk m h0 h1
 refine ⟨m', x, ?_, e2, e3, ?_⟩
 ·unfold laws_markArena.f
  rw [e1]
  rfl
 ·unfold laws_heldArena.f
  rw [e4]
  simp only [Option.bind_some]
  rw [if_neg (by omega)]
theorem markSetup_m {k : Nat} {S : Setup} (h : Small S) (hk : 1048576 < k) (m : Int) (h0 : 0 ≤ m) (h1 : m ≤ 10000000000000000) : ∃ m' S', laws_markSetup.f k S m = some (m', S') ∧ m ≤ m' ∧ m' ≤ m + 20000000 ∧ laws_heldSetup.f k S' m = some m' := by
 obtain ⟨R, W, P, U, C⟩ := S
 obtain ⟨l1, l2, l3, l4, l5⟩ := h
 simp only at l1 l2 l3 l4 l5
 obtain ⟨m1, R', a1, b1, c1, d1⟩ := marks_region (k := k) l1 hk m h0 (by omega)
 obtain ⟨m2, W', a2, b2, c2, d2⟩ := marks_window (k := k) l2 hk m1 (by omega) (by omega)
 obtain ⟨m3, P', a3, b3, c3, d3⟩ := marks_port (k := k) l3 hk m2 (by omega) (by omega)
 obtain ⟨m4, U', a4, b4, c4, d4⟩ := marks_rule (k := k) l4 hk m3 (by omega) (by omega)
 obtain ⟨m5, C', a5, b5, c5, d5⟩ := marks_string (k := k) l5 hk m4 (by omega) (by omega)
 refine ⟨m5, (R', W', P', U', C'), ?_, by omega, by omega, ?_⟩
 ·unfold laws_markSetup.f
  simp only [a1, a2, a3, a4, a5, Option.bind_some]
 ·unfold laws_heldSetup.f
  simp only [d1, d2, d3, d4, d5, Option.bind_some]
  rw [if_neg (by omega), if_neg (by omega), if_neg (by omega), if_neg (by omega), if_neg (by omega)]
theorem markKernel_m {k : Nat} {K : Kernel} (h : SmallK K) (hk : 1048576 < k) (m : Int) (h0 : 0 ≤ m) (h1 : m ≤ 1000000000000000) : ∃ m' S' A' Ps' Ls' O' G', laws_markKernel.f k K m = some (m', S'.1, S'.2.1, S'.2.2.1, S'.2.2.2.1, S'.2.2.2.2, A', Ps', Ls', O', G') ∧ m ≤ m' ∧ m' ≤ m + 4000000000000 ∧ ∀ (T : Int) (D : Bool), laws_heldKernel.f k (S', A', Ps', Ls', O', T, D, G') m = some m' := by
 obtain ⟨S, A, Ps, Ls, O, T, D, G⟩ := K
 obtain ⟨s1, s2, s3, s4, s5, s6, s7, s8⟩ := h
 simp only at s1 s2 s3 s4 s5 s6 s7 s8
 obtain ⟨m1, S', a1, b1, c1, d1⟩ := markSetup_m (k := k) s1 hk m h0 (by omega)
 obtain ⟨m2, A', a2, b2, c2, d2⟩ := markArena_m (k := k) s2 hk m1 (by omega) (by omega)
 obtain ⟨m3, Ps', a3, b3, c3, d3⟩ := marks_part (k := k) s3 s4 hk m2 (by omega) (by omega)
 obtain ⟨m4, Ls', a4, b4, c4, d4⟩ := marks_line (k := k) s5 s6 hk m3 (by omega) (by omega)
 obtain ⟨m5, O', a5, b5, c5, d5⟩ := marks_int (k := k) s7 hk m4 (by omega) (by omega)
 obtain ⟨m6, G', a6, b6, c6, d6⟩ := marks_entry (k := k) s8 hk m5 (by omega) (by omega)
 refine ⟨m6, S', A', Ps', Ls', O', G', ?_, by omega, by omega, fun T' D' => ?_⟩
 ·unfold laws_markKernel.f
  simp only [a1, a2, a3, a4, a5, a6, Option.bind_some]
 ·unfold laws_heldKernel.f
  simp only [d1, d2, d3, d4, d5, d6, Option.bind_some]
  rw [if_neg (by omega), if_neg (by omega), if_neg (by omega), if_neg (by omega), if_neg (by omega), if_neg (by omega)]
end Go.Proofs.Ytacpibmmodeacaa.Pure
/- The laws' own copies and comparisons of set-ups. No condition. -/
namespace Go.Proofs.Ytacpibmmodeacaa.Pure
open Go Go.Proofs.YtacpibmmodeacaaA Go.Proofs.YtacpibmmodeacaaU Go.Proofs.Ytacpibmmodeacaa.QA
set_option linter.unusedVariables false
set_option linter.unusedSimpArgs false
theorem szStringS_f {k : Nat} {xs : List ByteArray} {left : Int} (hk : 1048576 < k) (hx : xs.length ≤ 9223372036854775807) (hs : ∀ s, s ∈ xs → s.size ≤ 9223372036854775807) (h0 : 0 ≤ left) (h1 : left ≤ 1048576) : Ok (laws_szStringS.f k xs left) (fun r => 0 ≤ r → r ≤ left ∧ xs.length ≤ 1048576 ∧ ∀ s, s ∈ xs → s.size ≤ 1048576) := by
 unfold laws_szStringS.f
 rw [w64_id (z := left - (xs.length : Int)) (by omega) (by omega)]
 refine ok_if (fun _ => ok_some (fun h => absurd h (by omega))) (fun hl => ?_)
 refine ok_loop (L := laws_szStringS.l1 k) (I := fun d t => ∃ (j : Nat) (y : Int), t = (y, (j : Int), xs, ()) ∧ j + d = xs.length ∧ 0 ≤ y ∧ y ≤ left ∧ ∀ i, i < j → (el .str xs i).size ≤ 1048576) ?_ k xs.length _ (by omega) ⟨0, _, rfl, by omega, by omega, by omega, fun i hi => absurd hi (by omega)⟩
 rintro d n t ⟨j, y, rfl, hd, hy0, hy1, hq⟩ ih
 rw [laws_szStringS.l1]
 refine ok_if (fun hc => ok_grd (by omega) (ok_grd hc ?_)) (fun hc => ok_some (fun _ => ⟨hy1, by omega, fun s hs' => ?_⟩))
 ·have hj : j < xs.length := by omega
  have hz := hs _ (el_mem (t := .str) hj)
  have c4 : w64 ((j : Int) + 1) = ((j + 1 : Nat) : Int) := w64_id (by omega) (by omega)
  simp only [Int.toNat_natCast, c4]
  obtain ⟨z, hze⟩ : ∃ z : Nat, (el .str xs j).size = z := ⟨_, rfl⟩
  simp only [hze] at hz ⊢
  rw [w64_id (z := y - (z : Int)) (by omega) (by omega)]
  exact ok_if (fun _ => ok_some (fun h => absurd h (by omega))) (fun hz2 => ih (d - 1) _ (by omega) ⟨j + 1, _, rfl, by omega, by omega, by omega, allS hq (by omega)⟩)
 ·obtain ⟨i, hi, rfl⟩ := List.mem_iff_getElem.1 hs'
  have := hq i (by omega)
  rw [el_at (t := .str) (List.getElem?_eq_getElem hi)] at this
  exact this
abbrev SetupTy (a b c d e : Nat) : Ty := .pair (.sl a W2) (.pair (.sl b W2) (.pair (.sl c P5) (.pair (.sl d R3) (.sl e .str))))
/-- A set-up of which nothing is too long. -/
structure Lim (s : Setup) : Prop extends Small s where
 f : ∀ x, x ∈ s.2.2.2.2 → x.size ≤ 1048576
theorem szSetup_f {k : Nat} {s : Setup} {left : Int} (hk : 1048576 < k) (hx : Wf (SetupTy 0 0 0 0 0) s) (h0 : 0 ≤ left) (h1 : left ≤ 1048576) : Ok (laws_szSetup.f k s left) (fun r => 0 ≤ r → r ≤ left ∧ Lim s) := by
 obtain ⟨R, W, P, U, C⟩ := s
 obtain ⟨w1, w2, w3, w4, w5⟩ := hx
 unfold laws_szSetup.f
 refine ok_bind (szRegionS_f (xs := R) w1.2 h0 h1) (fun r1 q1 => ok_if (fun _ => ok_some (fun h => absurd h (by omega))) (fun n1 => ?_))
 obtain ⟨a1, b1⟩ := q1 (by omega)
 refine ok_bind (szWindowS_f (xs := W) w2.2 (by omega) (by omega)) (fun r2 q2 => ok_if (fun _ => ok_some (fun h => absurd h (by omega))) (fun n2 => ?_))
 obtain ⟨a2, b2⟩ := q2 (by omega)
 refine ok_bind (szPortS_f (xs := P) w3.2 (by omega) (by omega)) (fun r3 q3 => ok_if (fun _ => ok_some (fun h => absurd h (by omega))) (fun n3 => ?_))
 obtain ⟨a3, b3⟩ := q3 (by omega)
 refine ok_bind (szRuleS_f (xs := U) w4.2 (by omega) (by omega)) (fun r4 q4 => ok_if (fun _ => ok_some (fun h => absurd h (by omega))) (fun n4 => ?_))
 obtain ⟨a4, b4⟩ := q4 (by omega)
 refine ok_bind (szStringS_f (xs := C) hk w5.2 (fun s hs => w5.1 s hs) (by omega) (by omega)) (fun r5 q5 => ok_if (fun _ => ok_some (fun h => absurd h (by omega))) (fun n5 => ok_some (fun h => ?_)))
 obtain ⟨a5, b5, c5⟩ := q5 (by omega)
 exact ⟨by omega, ⟨b1, b2, b3, b4, b5⟩, c5⟩
theorem toSetup_f {k : Nat} {s : Setup} (h : Lim s) (hk : 1048576 < k) : laws_toSetup.f k s = some s := by
 unfold laws_toSetup.f
 rw [toRegionS_f h.a hk, toWindowS_f h.b hk, toPortS_f h.c hk, toRuleS_f h.d hk, toStringS_f h.e hk]
 rfl
theorem eqSetup_f {k : Nat} {s : Setup} (h : Small s) (hk : 1048576 < k) : laws_eqSetup.f k s s = some true := by
 unfold laws_eqSetup.f
 rw [eqRegionS_f h.a hk, eqWindowS_f h.b hk, eqPortS_f h.c hk, eqRuleS_f h.d hk, eqStringS_f h.e hk]
 rfl
end Go.Proofs.Ytacpibmmodeacaa.Pure
/- The laws' own copies and comparisons of kernels. No condition. -/
namespace Go.Proofs.Ytacpibmmodeacaa.Pure
open Go Go.Proofs.YtacpibmmodeacaaA Go.Proofs.YtacpibmmodeacaaU Go.Proofs.Ytacpibmmodeacaa.QA
set_option linter.unusedVariables false
set_option linter.unusedSimpArgs false
theorem eqPart_f {k : Nat} {p : PartT} (hl : p.2.1.2.length ≤ 1048576) (hk : 1048576 < k) : laws_eqPart.f k p p = some true := by
 unfold laws_eqPart.f
 rw [eqCpu_f hl hk]
 simp
theorem eqPartS_f {k : Nat} {xs : List PartT} (hl : xs.length ≤ 1048576) (hs : ∀ p, p ∈ xs → p.2.1.2.length ≤ 1048576) (hk : 1048576 < k) : laws_eqPartS.f k xs xs = some true := by
 have l : ∀ (d j n : Nat), j + d = xs.length → d < n → laws_eqPartS.l1 k n ((j : Int), xs, xs, ()) = some true := by
  intro d
  induction d with
  | zero =>
   intro j n hj hn
   obtain ⟨n, rfl⟩ : ∃ n', n = n' + 1 := ⟨n - 1, by omega⟩
   rw [laws_eqPartS.l1, if_neg (by omega)]
  | succ d ih =>
   intro j n hj hn
   obtain ⟨n, rfl⟩ : ∃ n', n = n' + 1 := ⟨n - 1, by omega⟩
   have h0 : (0 : Int) ≤ (j : Int) := by omega
   have h1 : (j : Int) < (xs.length : Int) := by omega
   have h4 : w64 ((j : Int) + 1) = ((j + 1 : Nat) : Int) := w_id (z := (j : Int) + 1) (by omega) (by omega)
   have hz := hs _ (el_mem (t := PT) (xs := xs) (i := j) (by omega))
   obtain ⟨a, c, b, e, f, hxe⟩ : ∃ (a : Int) (c : Int × List Int) (b e f : Int), el PT xs j = (a, c, b, e, f) := ⟨_, _, _, _, _, rfl⟩
   rw [hxe] at hz
   have ht := eqPart_f (p := (a, c, b, e, f)) hz hk
   simp only [laws_eqPartS.l1, h0, h1, h4, ↓reduceIte, Option.bind_some, Int.toNat_natCast, show el (.pair (.int .i64) (.pair (.pair (.int .i64) (.sl 3 (.int .i64))) (.pair (.int .i64) (.pair (.int .i64) (.int .i64))))) xs j = (a, c, b, e, f) from hxe, ht, not_true_eq_false]
   exact ih (j + 1) n (by omega) (by omega)
 have := l xs.length 0 k (by omega) (by omega)
 unfold laws_eqPartS.f
 rw [if_neg (fun h => h rfl)]
 exact this
theorem eqLineS_f {k : Nat} {xs : List LineT} (hl : xs.length ≤ 1048576) (hs : ∀ p, p ∈ xs → p.length ≤ 1048576) (hk : 1048576 < k) : laws_eqLineS.f k xs xs = some true := by
 have l : ∀ (d j n : Nat), j + d = xs.length → d < n → laws_eqLineS.l1 k n ((j : Int), xs, xs, ()) = some true := by
  intro d
  induction d with
  | zero =>
   intro j n hj hn
   obtain ⟨n, rfl⟩ : ∃ n', n = n' + 1 := ⟨n - 1, by omega⟩
   rw [laws_eqLineS.l1, if_neg (by omega)]
  | succ d ih =>
   intro j n hj hn
   obtain ⟨n, rfl⟩ : ∃ n', n = n' + 1 := ⟨n - 1, by omega⟩
   have h0 : (0 : Int) ≤ (j : Int) := by omega
   have h1 : (j : Int) < (xs.length : Int) := by omega
   have h4 : w64 ((j : Int) + 1) = ((j + 1 : Nat) : Int) := w_id (z := (j : Int) + 1) (by omega) (by omega)
   have hz := hs _ (el_mem (t := LT) (xs := xs) (i := j) (by omega))
   obtain ⟨l, hxe⟩ : ∃ l : List (Int × Int), el LT xs j = l := ⟨_, rfl⟩
   rw [hxe] at hz
   have ht : laws_eqLine.f k l l = some true := by
    unfold laws_eqLine.f
    rw [eqMsgS_f hz hk]
    rfl
   simp only [laws_eqLineS.l1, h0, h1, h4, ↓reduceIte, Option.bind_some, Int.toNat_natCast, show el (.sl 241 (.pair (.int .i64) (.int .i64))) xs j = l from hxe, ht, not_true_eq_false]
   exact ih (j + 1) n (by omega) (by omega)
 have := l xs.length 0 k (by omega) (by omega)
 unfold laws_eqLineS.f
 rw [if_neg (fun h => h rfl)]
 exact this
theorem eqKernel_f {k : Nat} {K : Kernel} (h : SmallK K) (hk : 1048576 < k) : laws_eqKernel.f k K K = some true := by
 unfold laws_eqKernel.f
 rw [eqSetup_f h.st hk, eqArena_f h.cells hk, eqPartS_f h.parts h.stacks hk, eqLineS_f h.lines h.msgs hk, eqIntS_f h.outs hk, eqEntryS_f h.log hk]
 simp
end Go.Proofs.Ytacpibmmodeacaa.Pure
/- Runs of code, and what they cost. No condition. -/
namespace Go.Proofs.Ytacpibmmodeacaa.Pure
open Go Go.Proofs.YtacpibmmodeacaaA Go.Proofs.YtacpibmmodeacaaU Go.Proofs.Ytacpibmmodeacaa.QA
set_option linter.unusedVariables false
set_option linter.unusedSimpArgs false
/-! ### a machine stays right -/
theorem words_mem {S : List Int} : WordsOk S ↔ ∀ x, x ∈ S → Word x := ⟨fun h x hx => by
  obtain ⟨i, hi, rfl⟩ := List.mem_iff_getElem.1 hx
  have := h i hi
  rw [el_at (t := I1) (List.getElem?_eq_getElem hi)] at this
  exact this, fun h i hi => h _ (el_mem (t := I1) hi)⟩
/-! ### answers -/
/-! ### runs -/
theorem cpu0 : CpuOk (0, []) := ⟨⟨Int.le_refl 0, by dsimp only; omega⟩, by simp, fun i hi => absurd hi (by simp)⟩
end Go.Proofs.Ytacpibmmodeacaa.Pure
/- Ports: what is sent and taken by the program. No condition. -/
namespace Go.Proofs.Ytacpibmmodeacaa.Pure
open Go Go.Proofs.YtacpibmmodeacaaA Go.Proofs.YtacpibmmodeacaaU Go.Proofs.Ytacpibmmodeacaa.QA
set_option linter.unusedVariables false
set_option linter.unusedSimpArgs false
end Go.Proofs.Ytacpibmmodeacaa.Pure
/- Runs of a part of a kernel. No condition. -/
namespace Go.Proofs.Ytacpibmmodeacaa.Pure
open Go Go.Proofs.YtacpibmmodeacaaA Go.Proofs.YtacpibmmodeacaaU Go.Proofs.Ytacpibmmodeacaa.QA
set_option linter.unusedVariables false
set_option linter.unusedSimpArgs false
abbrev RS := List Int × (Int × List Int) × List LineT × List Int
structure World where
 P : List Port5
 R : Int × Int
 code : List (Int × Int)
 part : Int
 time : Int
 ins : List Int
structure RunOk (w : World) (s : RS) : Prop where
 cells : s.1.length = 64
 words : WordsOk s.1
 cpu : CpuOk s.2.1
 nl : s.2.2.1.length = w.P.length
 line : ∀ i, i < s.2.2.1.length → ((el LT s.2.2.1 i).length : Int) ≤ (el P5 w.P i).2.2.2.1
 stamps : ∀ l, l ∈ s.2.2.1 → Stamps l
 outs : s.2.2.2.length = 8
 outw : WordsOk s.2.2.2
/-! ### what a step asks -/
theorem word0 : Word 0 := by unfold Word; omega
/-! ### ports -/
theorem port6 {p : Port5} (h : PortOk p) : p.2.2.2.1 ≤ 6 := by
 rcases h.kd with h | h <;> omega
def LineOk (p : Port5) (l : LineT) : Prop := (l.length : Int) ≤ p.2.2.2.1 ∧ Stamps l
theorem RunOk.at {w : World} {s : RS} (h : RunOk w s) {i : Nat} (hi : i < s.2.2.1.length) : LineOk (el P5 w.P i) (el LT s.2.2.1 i) := ⟨h.line i hi, h.stamps _ (el_mem (t := LT) hi)⟩
/-! ### the kernel behind a run -/
def StampsK (K : Kernel) : Prop := ∀ l, l ∈ K.2.2.2.1 → Stamps l
theorem fault_parts {s : Setup} (h : faultM s = 0) : RegionsOk s.1 ∧ PlanOk s.2.1 ∧ PortsOk s.2.2.1 ∧ RulesOk s.2.2.2.1 ∧ CodesOk s.2.2.2.2 (s.1.length : Int) ∧ PartsOk s := by
 unfold faultM at h
 split at h
 ·exact absurd h (by omega)
 split at h
 ·exact absurd h (by omega)
 split at h
 ·exact absurd h (by omega)
 split at h
 ·exact absurd h (by omega)
 split at h
 ·exact absurd h (by omega)
 split at h
 ·exact absurd h (by omega)
 rename_i a b c d e f
 exact ⟨B_iff.1 (Classical.not_not.1 a), B_iff.1 (Classical.not_not.1 b), B_iff.1 (Classical.not_not.1 c), B_iff.1 (Classical.not_not.1 d), B_iff.1 (Classical.not_not.1 e), B_iff.1 (Classical.not_not.1 f)⟩
end Go.Proofs.Ytacpibmmodeacaa.Pure
/- What is done when something goes wrong. No condition. -/
namespace Go.Proofs.Ytacpibmmodeacaa.Pure
open Go Go.Proofs.YtacpibmmodeacaaA Go.Proofs.YtacpibmmodeacaaU Go.Proofs.Ytacpibmmodeacaa.QA
set_option linter.unusedVariables false
end Go.Proofs.Ytacpibmmodeacaa.Pure
/- Turns of a kernel. No condition. -/
namespace Go.Proofs.Ytacpibmmodeacaa.Pure
open Go Go.Proofs.YtacpibmmodeacaaA Go.Proofs.YtacpibmmodeacaaU Go.Proofs.Ytacpibmmodeacaa.QA
set_option linter.unusedVariables false
set_option linter.unusedSimpArgs false
/-! ### what stays right -/
def Few (n : Int) (p : PartT) : Prop := p.2.2.1 ≤ n ∧ p.2.2.2.1 ≤ n ∧ p.2.2.2.2 ≤ n
/-- A kernel that is right and of which nothing has been counted more than so often. -/
structure Good (n : Int) (K : Kernel) : Prop where
 ok : KernelOk K
 st : StampsK K
 few : ∀ i, i < K.2.2.1.length → Few n (el PT K.2.2.1 i)
 log : K.2.2.2.2.2.2.2.length ≤ 40
theorem Good.small {n : Int} {K : Kernel} (h : Good n K) : SmallK K := by
 obtain ⟨f1, f2, f3, f4, f5, f6⟩ := fault_parts h.ok.fault
 have h1 := f1.2.2
 have h2 := h.ok.parts
 have h3 := h.ok.lines
 have h4 := f5.2
 have h5 := f2.2.2
 have h6 := f3.2
 have h7 := f4.2
 refine ⟨⟨by omega, by omega, by omega, by omega, by omega⟩, by have := h.ok.cells; omega, by omega, fun p hp => ?_, by omega, fun l hl => ?_, by have := h.ok.outs; omega, by have := h.log; omega⟩
 ·obtain ⟨i, hi, rfl⟩ := List.mem_iff_getElem.1 hp
  have := (h.ok.part i hi).cpu.2.1
  rw [el_at (t := PT) (List.getElem?_eq_getElem hi)] at this
  omega
 ·obtain ⟨i, hi, rfl⟩ := List.mem_iff_getElem.1 hl
  have h8 := h.ok.line i hi
  have hpo := f3.1 i (by omega)
  rw [el_at (t := LT) (List.getElem?_eq_getElem hi)] at h8
  have h9 := port6 hpo
  have h10 : ((K.2.2.2.1[i] : LineT).length : Int) ≤ 6 := Int.le_trans h8 h9
  omega
/-- Another part in its place. -/
theorem Good.part {n : Int} {K : Kernel} (h : Good n K) {i : Nat} {p : PartT} (hp : PartOk p) (hf : Few n p) : Good n (K.1, K.2.1, K.2.2.1.set i p, K.2.2.2) := by
 have hq : ∀ j, j < K.2.2.1.length → PartOk (el PT (K.2.2.1.set i p) j) ∧ Few n (el PT (K.2.2.1.set i p) j) := fun j hj => by
  by_cases hij : i = j
  ·subst hij
   rw [el_set_self (t := PT) hj]
   exact ⟨hp, hf⟩
  ·rw [el_set_ne (t := PT) hij]
   exact ⟨h.ok.part j hj, h.few j hj⟩
 have hl : (K.2.2.1.set i p).length = K.2.2.1.length := List.length_set ..
 exact ⟨⟨h.ok.fault, h.ok.cells, h.ok.words, hl.trans h.ok.parts, h.ok.lines, fun j hj => (hq j (by rw [← hl]; exact hj)).1, h.ok.line, h.ok.outs, h.ok.outw, h.ok.turn⟩, h.st, fun j hj => (hq j (by rw [← hl]; exact hj)).2, h.log⟩
theorem Good.cells {n : Int} {K : Kernel} (h : Good n K) {A : List Int} (hA : A.length = 64) (hw : WordsOk A) : Good n (K.1, A, K.2.2) := ⟨⟨h.ok.fault, hA, hw, h.ok.parts, h.ok.lines, h.ok.part, h.ok.line, h.ok.outs, h.ok.outw, h.ok.turn⟩, h.st, h.few, h.log⟩
theorem Good.outs {n : Int} {K : Kernel} (h : Good n K) {O : List Int} (hO : O.length = 8) (hw : WordsOk O) {D : Bool} : Good n (K.1, K.2.1, K.2.2.1, K.2.2.2.1, O, K.2.2.2.2.2.1, D, K.2.2.2.2.2.2.2) := ⟨⟨h.ok.fault, h.ok.cells, h.ok.words, h.ok.parts, h.ok.lines, h.ok.part, h.ok.line, hO, hw, h.ok.turn⟩, h.st, h.few, h.log⟩
theorem Good.turn {n : Int} {K : Kernel} (h : Good n K) {T : Int} (hT : Number T) : Good n (K.1, K.2.1, K.2.2.1, K.2.2.2.1, K.2.2.2.2.1, T, K.2.2.2.2.2.2) := ⟨⟨h.ok.fault, h.ok.cells, h.ok.words, h.ok.parts, h.ok.lines, h.ok.part, h.ok.line, h.ok.outs, h.ok.outw, hT⟩, h.st, h.few, h.log⟩
theorem words_zero (m : Nat) : WordsOk (List.replicate m 0) := words_mem.2 fun x hx => by
 rw [List.eq_of_mem_replicate hx]
 exact word0
/-! ### a new kernel -/
def newK (S : Setup) : Kernel := (S, List.replicate 64 0, List.replicate S.1.length (0, (0, []), 0, 0, 0), List.replicate S.2.2.1.length [], List.replicate 8 0, 0, false, [])
theorem el_rep {t : Ty} {m i : Nat} {x : den t} (h : i < m) : el t (List.replicate m x) i = x := el_at (by rw [List.getElem?_replicate, if_pos h])
theorem new_good {S : Setup} (h : faultM S = 0) : Good 0 (newK S) := by
 obtain ⟨f1, f2, f3, f4, f5, f6⟩ := fault_parts h
 have z : Number 0 := by unfold Number; omega
 refine ⟨⟨h, by simp [newK], words_zero 64, by simp [newK], by simp [newK], fun i hi => ?_, fun i hi => ?_, by simp [newK], words_zero 8, z⟩, fun l hl => ?_, fun i hi => ?_, by simp [newK]⟩
 ·have hi' : i < S.1.length := by simpa [newK] using hi
  rw [show (newK S).2.2.1 = List.replicate S.1.length (0, (0, []), 0, 0, 0) from rfl, el_rep (t := PT) hi']
  exact ⟨by dsimp only; omega, cpu0, z, z, z⟩
 ·have hi' : i < S.2.2.1.length := by simpa [newK] using hi
  rw [show (newK S).2.2.2.1 = List.replicate S.2.2.1.length [] from rfl, el_rep (t := LT) hi']
  have := f3.1 i hi'
  rcases this.kd with h | h <;> (show ((0 : Nat) : Int) ≤ (el P5 S.2.2.1 i).2.2.2.1; omega)
 ·have : l = [] := List.eq_of_mem_replicate hl
  rw [this]
  intro x hx
  cases hx
 ·have hi' : i < S.1.length := by simpa [newK] using hi
  rw [show (newK S).2.2.1 = List.replicate S.1.length (0, (0, []), 0, 0, 0) from rfl, el_rep (t := PT) hi']
  exact ⟨by dsimp only; omega, by dsimp only; omega, by dsimp only; omega⟩
end Go.Proofs.Ytacpibmmodeacaa.Pure
/- The program's runs of a part of a kernel. No condition. -/
namespace Go.Proofs.Ytacpibmmodeacaa.Pure
open Go Go.Proofs.YtacpibmmodeacaaA Go.Proofs.YtacpibmmodeacaaU Go.Proofs.Ytacpibmmodeacaa.QA
set_option linter.unusedVariables false
set_option linter.unusedSimpArgs false
end Go.Proofs.Ytacpibmmodeacaa.Pure
/- The window of a turn. No condition. -/
namespace Go.Proofs.Ytacpibmmodeacaa.Pure
open Go Go.Proofs.YtacpibmmodeacaaA Go.Proofs.YtacpibmmodeacaaU Go.Proofs.Ytacpibmmodeacaa.QA
set_option linter.unusedVariables false
end Go.Proofs.Ytacpibmmodeacaa.Pure
/- The program's turns of a kernel. No condition. -/
namespace Go.Proofs.Ytacpibmmodeacaa.Pure
open Go Go.Proofs.YtacpibmmodeacaaA Go.Proofs.YtacpibmmodeacaaU Go.Proofs.Ytacpibmmodeacaa.QA
set_option linter.unusedVariables false
set_option linter.unusedSimpArgs false
theorem copySetup_i {k : Nat} {S : Setup} (h : Small S) : impl_copySetup.f k S = some S := by
 obtain ⟨R, W, P, U, C⟩ := S
 obtain ⟨h1, h2, h3, h4, h5⟩ := h
 simp only at h1 h2 h3 h4 h5
 unfold impl_copySetup.f impl_copyPlan.f
 simp only [Option.bind_some, List.length_nil, List.nil_append]
 rw [if_pos (by omega), if_pos (by omega)]
 simp only [Option.bind_some]
 rw [if_pos (by omega), if_pos (by omega), if_pos (by omega)]
theorem arenaNew_i {k : Nat} : impl_ArenaNew.f k = some (List.replicate 64 0) := by
 unfold impl_ArenaNew.f
 simp
theorem kernelNew_i {k : Nat} {S : Setup} (h : Small S) (hk : 1048576 < k) : impl_KernelNew.f k S = some (if faultM S = 0 then (newK S, 0) else ((([], [], [], [], []), [], [], [], [], 0, false, []), faultM S)) := by
 have h1 := h.a
 have h3 := h.c
 unfold impl_KernelNew.f
 rw [fault_i h hk]
 simp only [Option.bind_some]
 by_cases h0 : faultM S = 0
 ·rw [if_neg (fun g => g h0), if_pos h0, copySetup_i h, arenaNew_i]
  simp only [Option.bind_some, ↓reduceIte, Int.reduceMul, Int.reduceLE]
  rw [if_pos (by omega), if_pos (by omega)]
  simp only [Int.toNat_natCast, Option.bind_some]
  rw [if_pos (by omega), if_pos (by omega)]
  rw [if_pos (by omega), if_pos (by omega)]
  rfl
 ·rw [if_pos h0, if_neg h0]
end Go.Proofs.Ytacpibmmodeacaa.Pure
/- A new kernel, by the reference. No condition. -/
namespace Go.Proofs.Ytacpibmmodeacaa.Pure
open Go Go.Proofs.YtacpibmmodeacaaA Go.Proofs.YtacpibmmodeacaaU Go.Proofs.Ytacpibmmodeacaa.QA
set_option linter.unusedVariables false
set_option linter.unusedSimpArgs false
theorem copySetup_s {k : Nat} {S : Setup} (h : Small S) : spec_l12Setup.f k S = some S := by
 obtain ⟨R, W, P, U, C⟩ := S
 obtain ⟨h1, h2, h3, h4, h5⟩ := h
 simp only at h1 h2 h3 h4 h5
 unfold spec_l12Setup.f
 simp only [Option.bind_some, List.length_nil, List.nil_append]
 rw [if_pos (by omega), if_pos (by omega), if_pos (by omega), if_pos (by omega), if_pos (by omega)]
theorem arenaNew_k {k : Nat} : spec_ArenaNew.f k = some (List.replicate 64 0) := by
 unfold spec_ArenaNew.f
 simp
theorem kernelNew_s {k : Nat} {S : Setup} (h : Small S) (hk : 1048576 < k) : spec_KernelNew.f k S = some (if faultM S = 0 then (newK S, 0) else ((([], [], [], [], []), [], [], [], [], 0, false, []), faultM S)) := by
 have h1 := h.a
 have h3 := h.c
 unfold spec_KernelNew.f
 rw [fault_s h hk]
 simp only [Option.bind_some]
 by_cases h0 : faultM S = 0
 ·rw [if_neg (fun g => g h0), if_pos h0, copySetup_s h, arenaNew_k]
  simp only [Option.bind_some, ↓reduceIte, Int.reduceMul, Int.reduceLE]
  rw [if_pos (by omega), if_pos (by omega)]
  simp only [Int.toNat_natCast, Option.bind_some]
  rw [if_pos (by omega), if_pos (by omega)]
  rw [if_pos (by omega), if_pos (by omega)]
  rfl
 ·rw [if_pos h0, if_neg h0]
end Go.Proofs.Ytacpibmmodeacaa.Pure
/- The plain law of FnExactKernelNew. No condition. -/
namespace Go.Proofs.Ytacpibmmodeacaa.Pure
open Go Go.Proofs.YtacpibmmodeacaaA Go.Proofs.YtacpibmmodeacaaU Go.Proofs.Ytacpibmmodeacaa.QA Go.Proofs.Ytacpibmmodeacaa.QFnExactKernelNew
set_option linter.unusedVariables false
set_option linter.unusedSimpArgs false
theorem FnExactKernelNew : ∀ (x0 : den (.pair (.sl 214 (.pair (.int .i64) (.int .i64))) (.pair (.sl 216 (.pair (.int .i64) (.int .i64))) (.pair (.sl 218 (.pair (.int .i64) (.pair (.int .i64) (.pair (.int .i64) (.pair (.int .i64) (.int .i64)))))) (.pair (.sl 220 (.pair (.int .i64) (.pair (.int .i64) (.int .i64)))) (.sl 9 .str)))))), Wf (.pair (.sl 214 (.pair (.int .i64) (.int .i64))) (.pair (.sl 216 (.pair (.int .i64) (.int .i64))) (.pair (.sl 218 (.pair (.int .i64) (.pair (.int .i64) (.pair (.int .i64) (.pair (.int .i64) (.int .i64)))))) (.pair (.sl 220 (.pair (.int .i64) (.pair (.int .i64) (.int .i64)))) (.sl 9 .str))))) x0 → ∃ k, laws_FnExactKernelNew.f k x0 = some true := by
 intro S G
 refine ⟨1048577, ?_⟩
 have hk : 1048576 < 1048577 := by omega
 generalize 1048577 = k at hk
 refine ok_eq ?_
 unfold laws_FnExactKernelNew.f
 refine ok_bind (szSetup_f (s := S) hk G (by omega) (by omega)) (fun t1 h1 => ok_if (fun _ => ok_some rfl) (fun n1 => ?_))
 obtain ⟨l1, hs⟩ := h1 (by omega)
 have hS := kernelNew_s (k := k) hs.toSmall hk
 have hI := kernelNew_i (k := k) hs.toSmall hk
 obtain ⟨X, hX⟩ : ∃ X : Kernel × Int, X = if faultM S = 0 then (newK S, 0) else ((([], [], [], [], []), [], [], [], [], 0, false, []), faultM S) := ⟨_, rfl⟩
 rw [← hX] at hS hI
 have hsm : SmallK X.1 := by
  rw [hX]
  split
  ·rename_i h0
   exact (new_good h0).small
  ·exact ⟨⟨by simp, by simp, by simp, by simp, by simp⟩, by simp, by simp, (fun p hp => by cases hp), by simp, (fun p hp => by cases hp), by simp, by simp⟩
 have hto := toSetup_f (k := k) hs hk
 have heK := eqKernel_f (k := k) hsm hk
 obtain ⟨m1, S1, a1, b1, c1, d1⟩ := markSetup_m (k := k) hs.toSmall hk 1 (by omega) (by omega)
 obtain ⟨m', S', A', Ps', Ls', O', G', e1, e2, e3, e4⟩ := markKernel_m (k := k) hsm hk 1 (by omega) (by omega)
 refine ok_bind' hto (ok_bind' hS (ok_bind' hto (ok_bind' hI (ok_bind' heK (ok_els (fun h => h rfl) (ok_els (fun h => h rfl) ?_))))))
 refine ok_bind' hto (ok_bind' (eqSetup_f hs.toSmall hk) (ok_els (fun h => h rfl) (ok_bind' a1 (ok_els (by dsimp only; omega) ?_))))
 refine ok_bind' heK (ok_els (fun h => h rfl) (ok_els (fun h => h rfl) (ok_bind' e1 (ok_bind' (e4 X.1.2.2.2.2.2.1 X.1.2.2.2.2.2.2.1) (ok_els (by omega) (ok_els (fun h => h rfl) ?_))))))
 refine ok_bind' hto (ok_bind' hI (ok_bind' heK (ok_els (fun h => h rfl) (ok_els (fun h => h rfl) ?_))))
 exact ok_bind' (e4 X.1.2.2.2.2.2.1 X.1.2.2.2.2.2.2.1) (ok_els (by omega) (ok_els (fun h => h rfl) (ok_some rfl)))
end Go.Proofs.Ytacpibmmodeacaa.Pure
